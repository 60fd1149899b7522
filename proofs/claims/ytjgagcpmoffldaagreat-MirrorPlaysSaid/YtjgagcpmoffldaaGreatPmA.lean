/- Layer 7 (great seat): each call of the document's disk, with its power, told alike. -/
import Derived.Test.YtjgagcpmoffldaaGreatGMirA
namespace Go.Proofs.YtjgagcpmoffldaaGreat
open Go Go.Xr Go.RowKit
set_option linter.unusedVariables false
set_option linter.unusedSimpArgs false
section
variable {w : World} {x qb : Nat} {X : XD} {lf : Option Nat} {px : Option (Nat × Nat)} {i : XI}
theorem pwrite_x (hx : Held w (Res.pow (mk qb lf) :: xps x X (mk qb lf) i)) (hX : XGood X) (hl : X.L.length < 1000000) (ht : X.Trace.length < 1000000) (I : Int) (S : ByteArray) (hS : S.size ≤ 9223372036854775807) :
    Calls Tryz.prog 37 #[.pointer (some ⟨x, 0, none⟩), .int .i64 I, .string S] w fun e w' => e = .returned (.int .i64 (wrC X lf I S)) ∧ ∃ i', Ev w (Res.pow (mk qb lf) :: xps x X (mk qb lf) i) w' (Res.pow (mk qb (wrL X lf I S)) :: xps x (wrX X lf I S) (mk qb (wrL X lf I S)) i') := by
  have e3 : mayN X (mk qb lf) I S true = wrC X lf I S := mayN_mk X qb 0 lf I _ _
  rcases mayN_cases X (mk 0 lf) I S true with h3 | h3
  · obtain ⟨hd, ⟨q, rfl, hq⟩, hs⟩ := mayN_ok h3
    have e1 : wrC X lf q S = 0 := h3
    have e2 : wrX X lf q S = { X with L := X.L ++ [(q, S)], Trace := X.Trace ++ [(q : Int)] } := by unfold wrX; rw [if_pos e1, Int.toNat_natCast]
    have e4 : wrL X lf q S = lf.map (· - 1) := by unfold wrL; rw [if_pos e1]
    have ho : offB (mk qb lf) = false := by
      rw [offB_mk qb 0]
      unfold xdead at hd
      cases hh : offB (mk 0 lf) with
      | false => rfl
      | true => rw [hh] at hd; simp at hd
    refine (xwrite_ok hx q S hS (by rw [e3]; exact e1) ho hl ht).mono ?_
    rintro e w' ⟨rfl, i', ev⟩
    rw [e1, e2, e4]
    rw [mk_dec] at ev
    exact ⟨rfl, i', ev⟩
  · have hne : wrC X lf I S ≠ 0 := by show mayN X (mk 0 lf) I S true ≠ 0; rcases h3 with h | h <;> omega
    refine (xwrite_err hx I S hS _ e3 (by unfold wrC; exact h3)).mono ?_
    rintro e w' ⟨rfl, rfl⟩
    refine ⟨rfl, i, ?_⟩
    unfold wrX wrL
    rw [if_neg hne, if_neg hne]
    exact Ev.refl hx
theorem pflush_x (hx : Held w (Res.pow (mk qb lf) :: xps x X (mk qb lf) i)) (hX : XGood X) (hl : X.L.length < 1000000) (ht : X.Trace.length < 1000000) :
    Calls Tryz.prog 38 #[.pointer (some ⟨x, 0, none⟩)] w fun e w' => e = .returned (.int .i64 (flC X lf)) ∧ ∃ i', Ev w (Res.pow (mk qb lf) :: xps x X (mk qb lf) i) w' (Res.pow (mk qb (flL X lf)) :: xps x (flX X lf) (mk qb (flL X lf)) i') := by
  have e0 : xdead X (mk qb lf) = xdead X (mk 0 lf) := by unfold xdead; rw [offB_mk qb 0]
  unfold flC flX flL
  cases hd : xdead X (mk 0 lf) with
  | true =>
    refine (xflush_err hx (by rw [e0, hd])).mono ?_
    rintro e w' ⟨rfl, rfl⟩
    exact ⟨rfl, i, Ev.refl hx⟩
  | false =>
    refine (xflush_ok hx (by rw [e0, hd]) hX.pos hX.le (fun p hp => (hX.l512 p hp).2) hl ht).mono ?_
    rintro e w' ⟨rfl, i', ev⟩
    rw [mk_dec] at ev
    exact ⟨rfl, i', ev⟩
theorem Ev.xps1 {w' : World} {px' : Option (Nat × Nat)} {X' : XD} {i' : XI} (h : Held w (Res.pow px :: xps x X px i)) (ev : Ev w (xps x X px i) w' (xps x X' px i')) : Ev w (Res.pow px :: xps x X px i) w' (Res.pow px :: xps x X' px i') := by
  have := Ev.part [Res.pow px] [] (by rw [List.append_nil]; exact h) ev
  rw [List.append_nil] at this
  exact this
theorem pfail_x (hx : Held w (Res.pow px :: xps x X px i)) (hX : XGood X) :
    Calls Tryz.prog 42 #[.pointer (some ⟨x, 0, none⟩)] w fun e w' => e = .returned (.int .i64 0) ∧ ∃ i', Ev w (Res.pow px :: xps x X px i) w' (Res.pow px :: xps x (faX X) px i') := by
  refine (xfail_any (Held.xpsOf hx) hX.le).mono ?_
  rintro e w' ⟨rfl, i', ev⟩
  exact ⟨rfl, i', Ev.xps1 (px' := px) hx ev⟩
theorem preplace_x (hx : Held w (Res.pow px :: xps x X px i)) :
    Calls Tryz.prog 44 #[.pointer (some ⟨x, 0, none⟩)] w fun e w' => e = .returned (.int .i64 (if X.Dead then 0 else 3)) ∧ Ev w (Res.pow px :: xps x X px i) w' (Res.pow px :: xps x { X with Dead := false } px i) := by
  refine (xreplace_any (Held.xpsOf hx)).mono ?_
  rintro e w' ⟨rfl, ev⟩
  exact ⟨rfl, Ev.xps1 (px' := px) hx ev⟩
theorem ptamper_x (hx : Held w (Res.pow (mk qb lf) :: xps x X (mk qb lf) i)) (hX : XGood X) (hl : X.L.length < 1000000) (I : Int) (S : ByteArray) (hS : S.size ≤ 9223372036854775807) :
    Calls Tryz.prog 46 #[.pointer (some ⟨x, 0, none⟩), .int .i64 I, .string S] w fun e w' => e = .returned (.int .i64 (taC X lf I S)) ∧ Ev w (Res.pow (mk qb lf) :: xps x X (mk qb lf) i) w' (Res.pow (mk qb lf) :: xps x (taX X lf I S) (mk qb lf) i) := by
  unfold taX
  by_cases h0 : taC X lf I S = 0
  · obtain ⟨hL, hm⟩ := tamN_ok (X := X) h0
    obtain ⟨hd, ⟨q, rfl, hq⟩, hs⟩ := mayN_ok hm
    rw [if_pos h0, h0, Int.toNat_natCast]
    refine (xtamper_ok hx q hq hX.le S hS (by rw [taC_mk, h0])).mono ?_
    rintro e w' ⟨rfl, ev⟩
    exact ⟨rfl, ev⟩
  · rw [if_neg h0]
    refine (xtamper_err hx I S hS hl _ (taC_mk X lf qb I S) h0).mono ?_
    rintro e w' ⟨rfl, rfl⟩
    exact ⟨rfl, Ev.refl hx⟩
theorem pread_x (hx : Held w (Res.pow (mk qb lf) :: xps x X (mk qb lf) i)) (hX : XGood X) (hl : X.L.length < 1000000) (j : Int) :
    Calls Tryz.prog 41 #[.pointer (some ⟨x, 0, none⟩), .int .i64 j] w fun e w' => e = .returned (.tuple #[.string (rdS X lf j), .int .i64 (rdC X lf j)]) ∧ w' = w := by
  have e0 : rdC X lf j = mayN X (mk 0 lf) j ⟨#[]⟩ false := rfl
  have e3 : mayN X (mk qb lf) j ⟨#[]⟩ false = mayN X (mk 0 lf) j ⟨#[]⟩ false := mayN_mk X qb 0 lf j _ _
  rcases mayN_cases X (mk 0 lf) j ⟨#[]⟩ false with h3 | h3
  · obtain ⟨hd, ⟨q, rfl, hq⟩, _⟩ := mayN_ok h3
    refine (xread_ok hx q hq hX.le hl (by rw [e3, h3])).mono ?_
    rintro e w' ⟨rfl, rfl⟩
    refine ⟨?_, rfl⟩
    have e2 : rdS X lf (q : Int) = nowX X.L q X.Kept[q] := by
      unfold rdS
      rw [if_pos h3, Int.toNat_natCast]
      simp [hq]
    rw [e0, h3, e2]
  · refine (xread_err hx j _ e3 h3).mono ?_
    rintro e w' ⟨rfl, rfl⟩
    have e2 : rdS X lf j = ⟨#[]⟩ := by
      unfold rdS
      rw [if_neg (by rcases h3 with h | h <;> omega)]
    rw [e0, e2]
    exact ⟨rfl, rfl⟩
end
end Go.Proofs.YtjgagcpmoffldaaGreat
