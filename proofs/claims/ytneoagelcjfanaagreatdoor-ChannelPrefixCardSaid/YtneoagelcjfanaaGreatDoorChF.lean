/- Layer 22: what Take takes, as data; which length a record may have; Closed, Waits. -/
import Derived.Test.YtneoagelcjfanaaGreatDoorChE
namespace Go.Proofs.YtneoagelcjfanaaGreatDoor.chn
open Go Go.Xr Go.RowKit Go.Proofs.YtneoagelcjfanaaGreatDoor Go.Proofs.YtneoagelcjfanaaGreatDoor.rcd
set_option linter.unusedVariables false
set_option linter.unusedSimpArgs false
/-- May a record be so long? -/
def wholeB (n : Nat) : Bool := (List.range 9).any fun j => decide (n = 64 * 2 ^ j + 40)
/-- What taking leaves: the next number, what waits, what was taken, and how it ended: 0, 51 (no length) or 7 (no record). -/
structure TK where
  no : UInt64
  H : ByteArray
  out : ByteArray
  c : Int
def takeL (K : CH) : Nat → UInt64 → ByteArray → ByteArray → TK
  | 0, no, H, out => ⟨no, H, out, 0⟩
  | f + 1, no, H, out =>
    if H.size < 4 then ⟨no, H, out, 0⟩
    else if wholeB (tellN H) = false then ⟨no, H, out, 51⟩
    else if H.size < 4 + tellN H then ⟨no, H, out, 0⟩
    else if recOk K.ci K.mi K.li no (H.extract 4 (4 + tellN H)) then takeL K f (no + 1) (H.extract (4 + tellN H) H.size) (out ++ recT K.ci K.mi K.li (H.extract 4 (4 + tellN H)))
    else ⟨no, H.extract (4 + tellN H) H.size, out, 7⟩
def takeS (K : CH) (no : UInt64) (H : ByteArray) : TK := takeL K (H.size + 1) no H ⟨#[]⟩
theorem wholeB_le {n : Nat} (h : wholeB n = true) : 104 ≤ n ∧ n ≤ 16424 := by
  unfold wholeB at h
  simp [List.range_succ] at h
  omega
section
variable {w w' w0 : World} {cb s o : Nat} {K : CH} {S : CHS} {rs l : List Res}
theorem cclosed_nil (w : World) : Calls Tryz.prog 12 #[.pointer none] w fun e w' => e = .returned (.bool true) ∧ w' = w := by
  go_enter Tryz.func12, Tryz.ntmps12
  go_wp2_with fail
  go_ret
  exact ⟨rfl, rfl⟩
theorem cclosed_any (h : Held w (chR cb s o K S)) : Calls Tryz.prog 12 #[.pointer (some ⟨cb, 0, none⟩)] w fun e w' => e = .returned (.bool S.cl) ∧ w' = w := by
  have k3 : w.cell? ⟨cb, 3, none⟩ = some (.bool S.cl) := (h.blkAt 0 rfl).cell 3
  clear h
  go_enter Tryz.func12, Tryz.ntmps12
  go_wp2_with fail
  go_ret
  exact ⟨rfl, rfl⟩
theorem cwaits_nil (w : World) : Calls Tryz.prog 13 #[.pointer none] w fun e w' => e = .returned (.int .i64 0) ∧ w' = w := by
  go_enter Tryz.func13, Tryz.ntmps13
  go_wp2_with fail
  go_ret
  exact ⟨rfl, rfl⟩
theorem cwaits_any (h : Held w (chR cb s o K S)) : Calls Tryz.prog 13 #[.pointer (some ⟨cb, 0, none⟩)] w fun e w' => e = .returned (.int .i64 (S.held.size : Int)) ∧ w' = w := by
  have k2 : w.cell? ⟨cb, 2, none⟩ = some (.string S.held) := (h.blkAt 0 rfl).cell 2
  clear h
  go_enter Tryz.func13, Tryz.ntmps13
  go_wp2_with fail
  go_ret
  exact ⟨rfl, rfl⟩
end
theorem shl_lit (ty : TypeId) (c d : Int) (h : IntKind.i64.wrap (c * 2) = d) : binOp .shl ty (.int .i64 c) (.int .u64 1) = pure (.int .i64 d) := by
  rw [← h]
  rfl
set_option maxRecDepth 20000 in
set_option maxHeartbeats 4000000 in
theorem whole_any (w : World) (n : Nat) (hn : n ≤ 4294967295) : Calls Tryz.prog 57 #[.int .i64 (n : Int)] w fun e w' => e = .returned (.bool (wholeB n)) ∧ w' = w := by
  have hW : Hid (wholeB n = (List.range 9).any fun j => decide (n = 64 * 2 ^ j + 40)) := hid rfl
  go_enter Tryz.func57, Tryz.ntmps57
  go_wp2_with fail
  go_loopw [3] (fun cv wr => ∃ j : Nat, j ≤ 9 ∧ cv = .int .i64 ((64 * 2 ^ j : Nat) : Int) ∧ Hid (∀ i, i < j → n ≠ 64 * 2 ^ i + 40) ∧ wr = w) (fun cv _ => 40000 - (intOf cv).toNat)
  case atStart => exact ⟨0, by omega, rfl, hid (fun i h => by omega), rfl⟩
  case round =>
    obtain ⟨j, hj, rfl, HI, rfl⟩ := hrel
    by_cases hj9 : j = 9
    · subst hj9
      have hf : wholeB n = false := by
        rw [hW.out, List.any_eq_false]
        intro i hi
        rw [List.mem_range] at hi
        simpa using HI.out i hi
      have HF := hid hf
      clear hW hf
      rw [show ((64 * 2 ^ 9 : Nat) : Int) = 32768 from rfl]
      go_wp2_with fail
      go_ret
      exact ⟨by rw [HF.out]; rfl, rfl⟩
    · obtain ⟨c, hc⟩ : ∃ c : Nat, 64 * 2 ^ j = c := ⟨_, rfl⟩
      have hc1 : 64 ≤ c ∧ c ≤ 16384 := by
        rw [← hc]
        have h1 : 2 ^ 0 ≤ 2 ^ j := Nat.pow_le_pow_right (by decide) (by omega)
        have h2 : 2 ^ j ≤ 2 ^ 8 := Nat.pow_le_pow_right (by decide) (by omega)
        omega
      have hc2 : 64 * 2 ^ (j + 1) = 2 * c := by rw [← hc, Nat.pow_succ]; omega
      have hs := fun ty => shl_lit ty (c : Int) ((2 * c : Nat) : Int) (by rw [IntKind.wrap_i64]; omega)
      by_cases he : n = c + 40
      · have ht : wholeB n = true := by
          rw [hW.out, List.any_eq_true]
          exact ⟨j, List.mem_range.2 (by omega), by rw [hc]; simpa using he⟩
        rw [hc]
        have HT := hid ht
        have hd := hid he
        have e1 : ((n : Int) == (c : Int) + 40) = true := by simp; omega
        have e2 : decide ((c : Int) ≤ 16384) = true := by simp; omega
        have e3 : decide (c ≤ 16384) = true := by simp; omega
        clear hW ht he
        go_wp2_with fail
        go_ret
        exact ⟨by rw [HT.out]; rfl, rfl⟩
      · have e1 : ((n : Int) == (c : Int) + 40) = false := by simp; omega
        have e2 : decide ((c : Int) ≤ 16384) = true := by simp; omega
        have e3 : decide (c ≤ 16384) = true := by simp; omega
        have HC := hid hc
        have HE := hid he
        rw [hc]
        clear hW he
        go_wp2_with fail
        go_roundw
        case rel =>
          refine ⟨j + 1, by omega, by rw [hc2]; first | rfl | simp, hid fun i hi => ?_, by simp⟩
          by_cases e : i = j
          · subst e
            rw [HC.out]
            exact HE.out
          · exact HI.out i (by omega)
        case measure => simp [intOf]; omega
end Go.Proofs.YtneoagelcjfanaaGreatDoor.chn
