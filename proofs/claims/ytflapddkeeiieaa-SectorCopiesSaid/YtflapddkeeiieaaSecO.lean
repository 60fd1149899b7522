/- Layer 6: each call of both disks, told alike. -/
import Derived.Test.YtflapddkeeiieaaSecZ
import Derived.Test.YtflapddkeeiieaaSecS
namespace Go.Proofs.Ytflapddkeeiieaa
open Go Go.Xr Go.RowKit
set_option linter.unusedVariables false
set_option linter.unusedSimpArgs false
def wrC (X : XD) (lf : Option Nat) (I : Int) (S : ByteArray) : Int := mayN X (mk 0 lf) I S true
def wrX (X : XD) (lf : Option Nat) (I : Int) (S : ByteArray) : XD := if wrC X lf I S = 0 then { X with L := X.L ++ [(I.toNat, S)], Trace := X.Trace ++ [I] } else X
def wrL (X : XD) (lf : Option Nat) (I : Int) (S : ByteArray) : Option Nat := if wrC X lf I S = 0 then lf.map (· - 1) else lf
def flC (X : XD) (lf : Option Nat) : Int := if xdead X (mk 0 lf) then 60 else 0
def flX (X : XD) (lf : Option Nat) : XD := if xdead X (mk 0 lf) then X else { X with Kept := setX X.Kept X.L, L := [], Trace := X.Trace ++ [-1] }
def flL (X : XD) (lf : Option Nat) : Option Nat := if xdead X (mk 0 lf) then lf else lf.map (· - 1)
def crX (X : XD) (ks : List Bool) : XD := if X.Dead then X else { X with Kept := setX X.Kept (keptL X.L ks), L := [] }
def faX (X : XD) : XD := { X with Kept := List.replicate X.Kept.length Zs, L := [], Dead := true }
def taC (X : XD) (lf : Option Nat) (I : Int) (S : ByteArray) : Int := tamN X (mk 0 lf) I S
def taX (X : XD) (lf : Option Nat) (I : Int) (S : ByteArray) : XD := if taC X lf I S = 0 then { X with Kept := X.Kept.set I.toNat S } else X
theorem offB_dec {lf : Option Nat} : (mk 0 lf).map (·.2) = lf := by cases lf <;> rfl
theorem pwF_mk_dec (b : Nat) (lf : Option Nat) : pwF (mk b (lf.map (· - 1))) = pwF (mk b lf) := by cases lf <;> rfl
section
variable {w : World} {l : List Res} {d x pb qb : Nat} {X Y : XD} {lf : Option Nat} {pc px : Option (Nat × Nat)} {D : SD} {F : List Nat} {i : XI}
theorem Ev.idle {w' : World} {rs : List Res} (h : Held w rs) (f : Fr [] w w') : Ev w rs w' rs := (Ev.refl h).step f
theorem cwrite_any (h : Held w (l ++ pr d (dOf X) (mk pb lf) F x Y px i)) (hX : XGood X) (hl : X.L.length < 1000000) (ht : X.Trace.length < 1000000) (I : Int) (h1 : -9223372036854775808 ≤ I) (h2 : I ≤ 9223372036854775807) (S : ByteArray) (hS : S.size ≤ 9223372036854775807) :
    Calls Try.prog 11 #[.pointer (some ⟨d, 0, none⟩), .int .i64 I, .string S] w fun e w' => e = .returned (.int .i64 (wrC X lf I S)) ∧ ∃ F', Ev w (l ++ pr d (dOf X) (mk pb lf) F x Y px i) w' (l ++ pr d (dOf (wrX X lf I S)) (mk pb (wrL X lf I S)) F' x Y px i) := by
  have hc := Held.prC h
  rcases mayN_cases X (mk 0 lf) I S true with h3 | h3
  · obtain ⟨hd, ⟨q, rfl, hq⟩, hs⟩ := mayN_ok h3
    have ha : ableN (dOf X) (mk pb lf) = 0 := by rw [ableN_mk X pb 0, hd]; rfl
    have e1 : wrC X lf q S = 0 := h3
    have e2 : wrX X lf q S = { X with L := X.L ++ [(q, S)], Trace := X.Trace ++ [(q : Int)] } := by unfold wrX; rw [if_pos e1, Int.toNat_natCast]
    have e3 : wrL X lf q S = lf.map (· - 1) := by unfold wrL; rw [if_pos e1]
    refine (write_ok (Held.rep hc) (Held.powOk hc) (Held.powNe hc) q (by simpa [dOf] using hq) S (hs rfl) ha (by simpa [dOf] using hl) (by simpa [dOf] using ht)).mono ?_
    rintro e w' ⟨rfl, F', hr, hp, f, hF⟩
    rw [e1, e2, e3, dOf_write X q S hq]
    rw [mk_dec] at hr hp
    exact ⟨rfl, F', Ev.prC (Ev.refl h) (Held.cdisk hc hr hp (pwF_mk_dec pb lf) f hF)⟩
  · have h4 : atN (dOf X) (mk pb lf) I (some S) = mayN X (mk 0 lf) I S true := atN_mk X pb 0 lf I S
    have hne : wrC X lf I S ≠ 0 := by show mayN X (mk 0 lf) I S true ≠ 0; rcases h3 with h | h <;> omega
    refine (write_err (Held.rep hc) (Held.powOk hc) I h1 h2 S hS _ h4 h3).mono ?_
    rintro e w' ⟨rfl, f⟩
    refine ⟨rfl, F, ?_⟩
    unfold wrX wrL
    rw [if_neg hne, if_neg hne]
    exact Ev.idle h f
theorem dwrite_any (h : Held w (l ++ pr d D pc F x X (mk qb lf) i)) (hX : XGood X) (hl : X.L.length < 1000000) (ht : X.Trace.length < 1000000) (I : Int) (S : ByteArray) (hS : S.size ≤ 9223372036854775807) :
    Calls Try.prog 42 #[.pointer (some ⟨x, 0, none⟩), .int .i64 I, .string S] w fun e w' => e = .returned (.int .i64 (wrC X lf I S)) ∧ ∃ i', Ev w (l ++ pr d D pc F x X (mk qb lf) i) w' (l ++ pr d D pc F x (wrX X lf I S) (mk qb (wrL X lf I S)) i') := by
  have hx := Held.prX h
  have e3 : mayN X (mk qb lf) I S true = wrC X lf I S := mayN_mk X qb 0 lf I _ _
  rcases mayN_cases X (mk 0 lf) I S true with h3 | h3
  · obtain ⟨hd, ⟨q, rfl, hq⟩, hs⟩ := mayN_ok h3
    have e1 : wrC X lf q S = 0 := h3
    have e2 : wrX X lf q S = { X with L := X.L ++ [(q, S)], Trace := X.Trace ++ [(q : Int)] } := by unfold wrX; rw [if_pos e1, Int.toNat_natCast]
    have e4 : wrL X lf q S = lf.map (· - 1) := by unfold wrL; rw [if_pos e1]
    have ho : offB (mk qb lf) = false := by
      rw [offB_mk qb 0]
      unfold xdead at hd
      cases hh : offB (mk 0 lf) with
      | false => rfl
      | true => rw [hh] at hd; simp at hd
    refine (xwrite_ok hx q S hS (by rw [e3]; exact e1) ho hl ht).mono ?_
    rintro e w' ⟨rfl, i', ev⟩
    rw [e1, e2, e4]
    rw [mk_dec] at ev
    exact ⟨rfl, i', Ev.prX (Ev.refl h) ev⟩
  · have hne : wrC X lf I S ≠ 0 := by show mayN X (mk 0 lf) I S true ≠ 0; rcases h3 with h | h <;> omega
    refine (xwrite_err hx I S hS _ e3 (by unfold wrC; exact h3)).mono ?_
    rintro e w' ⟨rfl, rfl⟩
    refine ⟨rfl, i, ?_⟩
    unfold wrX wrL
    rw [if_neg hne, if_neg hne]
    exact Ev.refl h
theorem cflush_any (h : Held w (l ++ pr d (dOf X) (mk pb lf) F x Y px i)) (hX : XGood X) (ht : X.Trace.length < 1000000) :
    Calls Try.prog 9 #[.pointer (some ⟨d, 0, none⟩)] w fun e w' => e = .returned (.int .i64 (flC X lf)) ∧ ∃ F', Ev w (l ++ pr d (dOf X) (mk pb lf) F x Y px i) w' (l ++ pr d (dOf (flX X lf)) (mk pb (flL X lf)) F' x Y px i) := by
  have hc := Held.prC h
  have ha := ableN_mk X pb 0 lf
  unfold flC flX flL
  cases hd : xdead X (mk 0 lf) with
  | true =>
    rw [hd] at ha
    refine (flush_err (Held.rep hc) (Held.powOk hc) ha).mono ?_
    rintro e w' ⟨rfl, rfl⟩
    exact ⟨rfl, F, Ev.refl h⟩
  | false =>
    rw [hd] at ha
    refine (flush_ok (Held.rep hc) (Held.powOk hc) (Held.powNe hc) ha (by simpa [dOf] using ht)).mono ?_
    rintro e w' ⟨rfl, F', hr, hp, f, hF⟩
    rw [mk_dec] at hr hp
    have e1 : flushed (dOf X) = dOf { X with Kept := setX X.Kept X.L, L := [], Trace := X.Trace ++ [-1] } := (dOf_flush X).symm
    rw [e1] at hr
    exact ⟨rfl, F', Ev.prC (Ev.refl h) (Held.cdisk hc hr hp (pwF_mk_dec pb lf) f hF)⟩
theorem dflush_any (h : Held w (l ++ pr d D pc F x X (mk qb lf) i)) (hX : XGood X) (hl : X.L.length < 1000000) (ht : X.Trace.length < 1000000) :
    Calls Try.prog 25 #[.pointer (some ⟨x, 0, none⟩)] w fun e w' => e = .returned (.int .i64 (flC X lf)) ∧ ∃ i', Ev w (l ++ pr d D pc F x X (mk qb lf) i) w' (l ++ pr d D pc F x (flX X lf) (mk qb (flL X lf)) i') := by
  have hx := Held.prX h
  have e0 : xdead X (mk qb lf) = xdead X (mk 0 lf) := by unfold xdead; rw [offB_mk qb 0]
  unfold flC flX flL
  cases hd : xdead X (mk 0 lf) with
  | true =>
    refine (xflush_err hx (by rw [e0, hd])).mono ?_
    rintro e w' ⟨rfl, rfl⟩
    exact ⟨rfl, i, Ev.refl h⟩
  | false =>
    refine (xflush_ok hx (by rw [e0, hd]) hX.pos hX.le (fun p hp => (hX.l512 p hp).2) hl ht).mono ?_
    rintro e w' ⟨rfl, i', ev⟩
    rw [mk_dec] at ev
    exact ⟨rfl, i', Ev.prX (Ev.refl h) ev⟩
theorem dfail_any (h : Held w (l ++ pr d D pc F x X px i)) (hX : XGood X) :
    Calls Try.prog 44 #[.pointer (some ⟨x, 0, none⟩)] w fun e w' => e = .returned (.int .i64 0) ∧ ∃ i', Ev w (l ++ pr d D pc F x X px i) w' (l ++ pr d D pc F x (faX X) px i') := by
  refine (xfail_any (Held.xpsOf (Held.prX h)) hX.le).mono ?_
  rintro e w' ⟨rfl, i', ev⟩
  exact ⟨rfl, i', Ev.prX1 (Ev.refl h) ev⟩
theorem dOf_fail (X : XD) : dOf (faX X) = failed (dOf X) := by
  unfold faX failed dOf
  rw [nowL_nil]
  simp only [List.map_replicate, List.map_nil, List.length_map]
  rfl
theorem cfail_any (h : Held w (l ++ pr d (dOf X) pc F x Y px i)) :
    Calls Try.prog 30 #[.pointer (some ⟨d, 0, none⟩)] w fun e w' => e = .returned (.int .i64 0) ∧ ∃ F', Ev w (l ++ pr d (dOf X) pc F x Y px i) w' (l ++ pr d (dOf (faX X)) pc F' x Y px i) := by
  have hc := Held.prC h
  refine (fail_ok (Held.rep hc)).mono ?_
  rintro e w' ⟨rfl, F', hr, f, hF⟩
  rw [← dOf_fail] at hr
  have hp : pwOk w' pc := (On.pow (Held.powOk hc)).loc w w' (fun b hb hlt => f.block b hlt (Held.powNe hc b hb)) (Held.powOk hc)
  exact ⟨rfl, F', Ev.prC (Ev.refl h) (Held.cdisk hc hr hp rfl (f.mono (fun y hy => .inl (List.mem_append_left _ hy))) hF)⟩
theorem dreplace_any (h : Held w (l ++ pr d D pc F x X px i)) :
    Calls Try.prog 45 #[.pointer (some ⟨x, 0, none⟩)] w fun e w' => e = .returned (.int .i64 (if X.Dead then 0 else 3)) ∧ Ev w (l ++ pr d D pc F x X px i) w' (l ++ pr d D pc F x { X with Dead := false } px i) := by
  refine (xreplace_any (Held.xpsOf (Held.prX h))).mono ?_
  rintro e w' ⟨rfl, ev⟩
  exact ⟨rfl, Ev.prX1 (Ev.refl h) ev⟩
theorem creplace_any (h : Held w (l ++ pr d (dOf X) pc F x Y px i)) :
    Calls Try.prog 31 #[.pointer (some ⟨d, 0, none⟩)] w fun e w' => e = .returned (.int .i64 (if X.Dead then 0 else 3)) ∧ Ev w (l ++ pr d (dOf X) pc F x Y px i) w' (l ++ pr d (dOf { X with Dead := false }) pc F x Y px i) := by
  have hc := Held.prC h
  cases hd : X.Dead with
  | true =>
    refine (replace_ok (Held.rep hc) hd).mono ?_
    rintro e w' ⟨rfl, hr, f⟩
    have hlt : d ∈ F := by obtain ⟨kc, nc, lv, tv, k, n, L, T, hF, _⟩ := (Held.rep hc).open; rw [hF]; simp [feet]
    have f2 : Fr F w w' := f.mono (fun y hy => .inl (by simp at hy; rw [hy]; exact hlt))
    have hp : pwOk w' pc := (On.pow (Held.powOk hc)).loc w w' (fun b hb hlt => f2.block b hlt (Held.powNe hc b hb)) (Held.powOk hc)
    exact ⟨rfl, Ev.prC (Ev.refl h) (Held.cdisk hc hr hp rfl (f2.mono (fun y hy => .inl (List.mem_append_left _ hy))) (fun y hy => .inl hy))⟩
  | false =>
    refine (replace_no (Held.rep hc) hd).mono ?_
    rintro e w' ⟨rfl, rfl⟩
    have e1 : ({ X with Dead := false } : XD) = X := by cases X; cases hd; rfl
    rw [e1]
    exact ⟨rfl, Ev.refl h⟩
theorem tamN_ok {p : Option (Nat × Nat)} {I : Int} {S : ByteArray} (h : tamN X p I S = 0) : X.L = [] ∧ mayN X p I S true = 0 := by
  unfold tamN at h
  split at h
  · simp at h
  · split at h
    · simp at h
    · rename_i h2
      exact ⟨List.length_eq_zero_iff.1 (by omega), h⟩
theorem taC_mk (X : XD) (lf : Option Nat) (b : Nat) (I : Int) (S : ByteArray) : tamN X (mk b lf) I S = taC X lf I S := by
  unfold taC tamN xdead
  rw [offB_mk b 0, mayN_mk X b 0]
theorem ctamper_any (h : Held w (l ++ pr d (dOf X) (mk pb lf) F x Y px i)) (hX : XGood X) (hl : X.L.length < 1000000) (I : Int) (h1 : -9223372036854775808 ≤ I) (h2 : I ≤ 9223372036854775807) (S : ByteArray) (hS : S.size ≤ 9223372036854775807) :
    Calls Try.prog 32 #[.pointer (some ⟨d, 0, none⟩), .int .i64 I, .string S] w fun e w' => e = .returned (.int .i64 (taC X lf I S)) ∧ Ev w (l ++ pr d (dOf X) (mk pb lf) F x Y px i) w' (l ++ pr d (dOf (taX X lf I S)) (mk pb lf) F x Y px i) := by
  have hc := Held.prC h
  have e1 : tamC (dOf X) (mk pb lf) I S = taC X lf I S := tamC_mk X pb 0 lf I S
  unfold taX
  by_cases h0 : taC X lf I S = 0
  · obtain ⟨hL, hm⟩ := tamN_ok (X := X) h0
    obtain ⟨hd, ⟨q, rfl, hq⟩, hs⟩ := mayN_ok hm
    have ha : ableN (dOf X) (mk pb lf) = 0 := by rw [ableN_mk X pb 0, hd]; rfl
    rw [if_pos h0, h0, Int.toNat_natCast]
    refine (tamper_ok (Held.rep hc) (Held.powOk hc) q (by simpa [dOf] using hq) S (hs rfl) ha (by simp [dOf, hL])).mono ?_
    rintro e w' ⟨rfl, hr, f⟩
    rw [← dOf_tamper X hL] at hr
    have hp : pwOk w' (mk pb lf) := (On.pow (Held.powOk hc)).loc w w' (fun b hb hlt => f.block b hlt (Held.powNe hc b hb)) (Held.powOk hc)
    exact ⟨rfl, Ev.prC (Ev.refl h) (Held.cdisk hc hr hp rfl (f.mono (fun y hy => .inl (List.mem_append_left _ hy))) (fun y hy => .inl hy))⟩
  · rw [if_neg h0]
    refine (tamper_err (Held.rep hc) (Held.powOk hc) I h1 h2 S hS (by simpa [dOf] using hl) _ e1 h0).mono ?_
    rintro e w' ⟨rfl, f⟩
    exact ⟨rfl, Ev.idle h f⟩
theorem dtamper_any (h : Held w (l ++ pr d D pc F x X (mk qb lf) i)) (hX : XGood X) (hl : X.L.length < 1000000) (I : Int) (S : ByteArray) (hS : S.size ≤ 9223372036854775807) :
    Calls Try.prog 46 #[.pointer (some ⟨x, 0, none⟩), .int .i64 I, .string S] w fun e w' => e = .returned (.int .i64 (taC X lf I S)) ∧ Ev w (l ++ pr d D pc F x X (mk qb lf) i) w' (l ++ pr d D pc F x (taX X lf I S) (mk qb lf) i) := by
  have hx := Held.prX h
  unfold taX
  by_cases h0 : taC X lf I S = 0
  · obtain ⟨hL, hm⟩ := tamN_ok (X := X) h0
    obtain ⟨hd, ⟨q, rfl, hq⟩, hs⟩ := mayN_ok hm
    rw [if_pos h0, h0, Int.toNat_natCast]
    refine (xtamper_ok hx q hq hX.le S hS (by rw [taC_mk, h0])).mono ?_
    rintro e w' ⟨rfl, ev⟩
    exact ⟨rfl, Ev.prX (Ev.refl h) ev⟩
  · rw [if_neg h0]
    refine (xtamper_err hx I S hS hl _ (taC_mk X lf qb I S) h0).mono ?_
    rintro e w' ⟨rfl, rfl⟩
    exact ⟨rfl, Ev.refl h⟩
end
end Go.Proofs.Ytflapddkeeiieaa
