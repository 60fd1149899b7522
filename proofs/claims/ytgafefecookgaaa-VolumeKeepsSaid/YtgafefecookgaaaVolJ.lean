/- Layer 8: the calls of a volume's mirrors; Index, Write, Read, Other. -/
import Derived.Test.YtgafefecookgaaaVolI
namespace Go.Proofs.Ytgafefecookgaaa
open Go Go.Xr Go.RowKit
set_option linter.unusedVariables false
set_option linter.unusedSimpArgs false
/-- A place's sector. -/
def ixC (n e : Nat) (p a : Int) : Int := if (0 ≤ p ∧ p < (n : Int)) ∧ (0 ≤ a ∧ a < (e : Int)) then 0 else 2
def ixN (n e : Nat) (p a : Int) : Nat := if (0 ≤ p ∧ p < (n : Int)) ∧ (0 ≤ a ∧ a < (e : Int)) then a.toNat * n + p.toNat else 0
section
variable {w w' w0 : World} {vb n c e : Nat} {ad : Option Addr} {wr : Int}
set_option maxRecDepth 20000 in
theorem vindex_nil (w : World) (p a : Int) : Calls Try.prog 10 #[.pointer none, .int .i64 p, .int .i64 a] w fun r w' => r = .returned (.tuple #[.int .i64 0, .int .i64 1]) ∧ w' = w := by
  go_enter Try.func10, Try.ntmps10
  go_wp2_with fail
  go_ret2
  exact ⟨rfl, rfl⟩
set_option maxRecDepth 20000 in
set_option maxHeartbeats 1000000 in
theorem vindex_any {rb : Nat} (hb : Blk w vb (volL (some ⟨rb, 0, none⟩) n c e wr)) (hn : n ≤ 8) (he : e ≤ 16384) (p a : Int) :
    Calls Try.prog 10 #[.pointer (some ⟨vb, 0, none⟩), .int .i64 p, .int .i64 a] w fun r w' => r = .returned (.tuple #[.int .i64 (ixN n e p a : Int), .int .i64 (ixC n e p a)]) ∧ w' = w := by
  have k0 : w.cell? ⟨vb, 0, none⟩ = some (.slice (some ⟨rb, 0, none⟩) n c) := hb.cell 0
  have k1 : w.cell? ⟨vb, 1, none⟩ = some (.int .i64 (e : Int)) := hb.cell 1
  have hsn := @Lib.run_eql_slice_nil
  clear hb
  unfold ixC ixN
  by_cases h0 : p < 0
  · have u0 : decide (p < 0) = true := by simpa using h0
    rw [if_neg (by omega), if_neg (by omega)]
    go_enter Try.func10, Try.ntmps10
    go_wp2_with fail
    go_ret2
    exact ⟨rfl, rfl⟩
  · have u0 : decide (p < 0) = false := by simpa using h0
    by_cases h1 : (n : Int) ≤ p
    · have u1 : decide ((n : Int) ≤ p) = true := by simpa using h1
      rw [if_neg (by omega), if_neg (by omega)]
      go_enter Try.func10, Try.ntmps10
      go_wp2_with fail
      go_ret2
      exact ⟨rfl, rfl⟩
    · have u1 : decide ((n : Int) ≤ p) = false := by simpa using h1
      by_cases h2 : a < 0
      · have u2 : decide (a < 0) = true := by simpa using h2
        rw [if_neg (by omega), if_neg (by omega)]
        go_enter Try.func10, Try.ntmps10
        go_wp2_with fail
        go_ret2
        exact ⟨rfl, rfl⟩
      · have u2 : decide (a < 0) = false := by simpa using h2
        by_cases h3 : (e : Int) ≤ a
        · have u3 : decide ((e : Int) ≤ a) = true := by simpa using h3
          rw [if_neg (by omega), if_neg (by omega)]
          go_enter Try.func10, Try.ntmps10
          go_wp2_with fail
          go_ret2
          exact ⟨rfl, rfl⟩
        · have u3 : decide ((e : Int) ≤ a) = false := by simpa using h3
          rw [if_pos (by omega), if_pos (by omega)]
          obtain ⟨q, hq⟩ : ∃ q : Nat, p = (q : Int) := ⟨p.toNat, by omega⟩
          obtain ⟨b, hb⟩ : ∃ b : Nat, a = (b : Int) := ⟨a.toNat, by omega⟩
          obtain ⟨t, ht⟩ : ∃ t, b * n = t := ⟨_, rfl⟩
          have hm : t ≤ 131072 := by rw [← ht]; exact Nat.le_trans (Nat.mul_le_mul (show b ≤ 16384 by omega) hn) (by decide)
          have e1 : a.toNat * n + p.toNat = t + q := by rw [hq, hb, Int.toNat_natCast, Int.toNat_natCast, ht]
          have hmul : ∀ ty, binOp .mul ty (.int .i64 a) (.int .i64 (n : Int)) = pure (.int .i64 (t : Int)) := fun ty => by
            show pure (Value.int .i64 (IntKind.i64.wrap (a * (n : Int)))) = _
            rw [IntKind.wrap_i64, show a * (n : Int) = (t : Int) by rw [← ht, hb]; exact (Int.natCast_mul b n).symm]
            have h9 : ((t : Int) + 9223372036854775808) % 18446744073709551616 - 9223372036854775808 = (t : Int) := by omega
            rw [h9]
          have hadd : ∀ ty, binOp .add ty (.int .i64 (t : Int)) (.int .i64 p) = pure (.int .i64 ((t + q : Nat) : Int)) := fun ty => by
            show pure (Value.int .i64 (IntKind.i64.wrap ((t : Int) + p))) = _
            rw [IntKind.wrap_i64, hq]
            have h9 : ((t : Int) + (q : Int) + 9223372036854775808) % 18446744073709551616 - 9223372036854775808 = ((t + q : Nat) : Int) := by omega
            rw [h9]
          rw [e1]
          generalize t + q = s at *
          clear e1 hm ht hq hb h0 h1 h2 h3 hn he
          go_enter Try.func10, Try.ntmps10
          go_wp2_with fail
          go_ret2
          exact ⟨rfl, rfl⟩
end
section
variable {w w' w0 : World} {l rs : List Res} {X : VX} {Ms : List MS} {wr : Int} {k m : Nat} {M : MS}
theorem vw_at (h : VA w0 rs w l X Ms wr) (hk : Ms[k]? = some M) (hm : X.ms[k]? = some m) (ok : SysOk M.s) (ht : M.s.T < 998900) (a : Int) (S : ByteArray) (hS : S.size ≤ 9223372036854775807) :
    Calls Try.prog 40 #[.pointer (some ⟨m, 0, none⟩), .int .i64 a, .string S] w fun e w' => e = .returned (.int .i64 (M.wrE a S)) ∧ VA w0 rs w' l X (Ms.set k (M.wrM a S)) wr := by
  obtain ⟨m2, d, FF, l', em, ed, hh, hback⟩ := h.mir hk
  obtain rfl : m = m2 := Option.some.inj (hm.symm.trans em)
  refine (mwrite_any hh ok ht a S hS).mono ?_
  rintro e w' ⟨rfl, FF', ev⟩
  exact ⟨rfl, hback _ _ _ ev⟩
theorem vf_at (h : VA w0 rs w l X Ms wr) (hk : Ms[k]? = some M) (hm : X.ms[k]? = some m) (ok : SysOk M.s) (ht : M.s.T < 998900)  :
    Calls Try.prog 41 #[.pointer (some ⟨m, 0, none⟩)] w fun e w' => e = .returned (.int .i64 M.flushC) ∧ VA w0 rs w' l X (Ms.set k (M.flushM)) wr := by
  obtain ⟨m2, d, FF, l', em, ed, hh, hback⟩ := h.mir hk
  obtain rfl : m = m2 := Option.some.inj (hm.symm.trans em)
  refine (mflush_any hh ok ht).mono ?_
  rintro e w' ⟨rfl, FF', ev⟩
  exact ⟨rfl, hback _ _ _ ev⟩
theorem vr_at (h : VA w0 rs w l X Ms wr) (hk : Ms[k]? = some M) (hm : X.ms[k]? = some m) (ok : SysOk M.s) (ht : M.s.T < 998900) (a : Int) :
    Calls Try.prog 35 #[.pointer (some ⟨m, 0, none⟩), .int .i64 a] w fun e w' => e = .returned (.tuple #[.string (M.rd a).2.1, .int .i64 (M.rd a).2.2]) ∧ VA w0 rs w' l X (Ms.set k ((M.rd a).1)) wr := by
  obtain ⟨m2, d, FF, l', em, ed, hh, hback⟩ := h.mir hk
  obtain rfl : m = m2 := Option.some.inj (hm.symm.trans em)
  refine (mread_any hh ok ht a).mono ?_
  rintro e w' ⟨rfl, FF', ev⟩
  exact ⟨rfl, hback _ _ _ ev⟩
theorem vo_at (h : VA w0 rs w l X Ms wr) (hk : Ms[k]? = some M) (hm : X.ms[k]? = some m) (ok : SysOk M.s) (ht : M.s.T < 998900) (a : Int) :
    Calls Try.prog 36 #[.pointer (some ⟨m, 0, none⟩), .int .i64 a] w fun e w' => e = .returned (.tuple #[.string (M.ot a).2.1, .int .i64 (M.ot a).2.2]) ∧ VA w0 rs w' l X (Ms.set k ((M.ot a).1)) wr := by
  obtain ⟨m2, d, FF, l', em, ed, hh, hback⟩ := h.mir hk
  obtain rfl : m = m2 := Option.some.inj (hm.symm.trans em)
  refine (mother_any hh ok ht a).mono ?_
  rintro e w' ⟨rfl, FF', ev⟩
  exact ⟨rfl, hback _ _ _ ev⟩
end
end Go.Proofs.Ytgafefecookgaaa
