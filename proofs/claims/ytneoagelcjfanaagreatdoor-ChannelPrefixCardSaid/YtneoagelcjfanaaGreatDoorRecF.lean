/- Layer 21, record: a padded text read, the document's. -/
import Derived.Test.YtneoagelcjfanaaGreatDoorRecE
namespace Go.Proofs.YtneoagelcjfanaaGreatDoor.rcd
open Go Go.Xr Go.RowKit
set_option linter.unusedVariables false
set_option linter.unusedSimpArgs false

set_option maxRecDepth 20000 in
set_option maxHeartbeats 1000000 in
theorem rbytes_any {w : World} {p : Nat} (s : ByteArray) (h : Blk w p (rdrR s 0 0)) (hn : 4 ≤ s.size) (hs : s.size ≤ 140737488355328) : Calls Tryz.prog 114 #[.pointer (some ⟨p, 0, none⟩), .int .i64 4] w fun e w' => e = .returned (.string (s.extract 0 4)) ∧ Fr [p] w w' := by
  have k0 : w.cell? ⟨p, 0, none⟩ = some (.string s) := h.cell 0
  have k1 : w.cell? ⟨p, 1, none⟩ = some (.int .i64 0) := h.cell 1
  have k2 : w.cell? ⟨p, 2, none⟩ = some (.int .i64 0) := h.cell 2
  have h0 : w.drew.cell? ⟨p, 0, none⟩ = some (.string s) := k0
  have h1 : w.drew.cell? ⟨p, 1, none⟩ = some (.int .i64 0) := k1
  have hd2 : decide ((s.size : Int) < 4) = false := by simp; omega
  have hlen : 1 < (rdrR s 0 0).length := by simp [rdrR]
  have hb2 := h.drew.drew
  go_enter Tryz.func114, Tryz.ntmps114
  go_wp2_with fail
  refine wp_region_D (fun _ => True) false [] (by kernel_rfl) ?_
  refine WD.pure [0, 1, 2, 3, 4, 5, 6, 7, 8, 9, 10, 11] (by kernel_rfl) trivial ?_
  simp only [pick, List.toList_toArray, List.map_cons, List.map_nil, List.getD_cons_succ, List.getD_cons_zero]
  repeat (first | go_big_quiet_step (fail))
  refine wpQuiet_nil ?_
  refine WD.done (by kernel_rfl) ?_
  clear h0 h1
  have h0 : w.drew.drew.cell? ⟨p, 0, none⟩ = some (.string s) := k0
  have h1 : w.drew.drew.cell? ⟨p, 1, none⟩ = some (.int .i64 0) := k1
  go_wp2_with fail
  refine wp_region_D (fun _ => True) false [] (by kernel_rfl) ?_
  refine WD.pure [0, 1, 2, 3, 4, 5, 6, 7, 8, 9, 10, 11, 12, 13, 14, 15] (by kernel_rfl) trivial ?_
  simp only [pick, List.toList_toArray, List.map_cons, List.map_nil, List.getD_cons_succ, List.getD_cons_zero]
  repeat (first | (refine quiet_slice_vW (by rfl) _ _ _ _ rfl _ rfl _ _ rfl rfl (.string (s.extract 0 4)) (fun w0 _ => run_slice_s w0 _ Tryz.underlying9 s .i64 .i64 _ _ 0 4 rfl rfl (by omega) hn) ?_; simp only [World.size_alloc, World.size_drew, Act.put, List.setIfInBounds_toArray, List.set_cons_succ, List.set_cons_zero]) | go_big_quiet_step (fail))
  refine wpQuiet_nil ?_
  refine WD.done (by kernel_rfl) ?_
  go_wp2_with (refine wpList_put rfl _ _ _ rfl rfl (.int .i64 4) rfl rfl hb2 hlen (by kernel_rfl) ?_; intro w2 f2 b2 hs2; simp only [World.size_alloc, World.size_drew, Act.put, List.setIfInBounds_toArray, List.set_cons_succ, List.set_cons_zero])
  go_ret
  exact ⟨rfl, ((((Fr.refl [p] w).drew).drew).trans' f2)⟩
theorem cv8_64s (w : World) (a : UInt8) : (convert 5 22 (bt a)).run Tryz.prog w = .ok (W64 a.toUInt64) w := conv_u8_u64 w _ _ a Tryz.underlying5 Tryz.underlying22 rfl
attribute [local go_sem] or_u64 shl_u64 cv8_64s neq_u8_c neg8

set_option maxRecDepth 20000 in
theorem rnum_any {w : World} {p : Nat} (s : ByteArray) (h : Blk w p (rdrR s 0 0)) (hn : 4 ≤ s.size) (hs : s.size ≤ 140737488355328) : Calls Tryz.prog 98 #[.pointer (some ⟨p, 0, none⟩), .int .i64 4] w fun e w' => e = .returned (W64 (UInt64.ofNat (tellN s))) ∧ Fr [p] w w' := by
  have Hb := hid (rbytes_any s h hn hs)
  obtain ⟨D, hD⟩ : ∃ D, s.extract 0 4 = D := ⟨_, rfl⟩
  obtain ⟨L, hL⟩ : ∃ L, s.data.toList.take 4 = L := ⟨_, rfl⟩
  have HLl := hid (show L.length = 4 by rw [← hL, List.length_take, Array.length_toList]; exact Nat.min_eq_left hn)
  have HDs := hid (show D.size = 4 by rw [← hD]; simp; omega)
  have HDl := hid (show D.data.toList = L by rw [← hD, ext_take, hL])
  have Hfin := hid (show UInt64.ofNat (leV (L.drop 0)) = UInt64.ofNat (tellN s) by rw [List.drop_zero, ← hL]; rfl)
  have hDi : (D.size : Int) = 4 := by rw [HDs.out]; rfl
  rw [hD] at Hb
  clear hD hL h
  go_enter Tryz.func98, Tryz.ntmps98
  go_wp2_with fail
  refine Hb.out.mono ?_
  rintro e w1 ⟨rfl, f1⟩
  go_wp2_with fail
  go_loopw [6, 7] (fun xv iv wr => ∃ i : Nat, i ≤ 4 ∧ iv = .int .i64 ((i : Int) - 1) ∧ xv = W64 (UInt64.ofNat (leV (L.drop i))) ∧ wr = w1) (fun _ iv _ => (intOf iv + 1).toNat)
  case atStart => exact ⟨4, by decide, rfl, by rw [List.drop_eq_nil_of_le (by rw [HLl.out]; exact Nat.le_refl _)]; rfl, rfl⟩
  case round =>
    obtain ⟨i, hi, rfl, rfl, rfl⟩ := hrel
    cases i with
    | zero =>
      have hd : decide ((0 : Int) ≤ ((0 : Nat) : Int) - 1) = false := by decide
      rw [Hfin.out]
      clear hi
      go_wp2_with fail
      go_ret
      exact ⟨rfl, f1⟩
    | succ q =>
      rw [show (((q + 1 : Nat) : Int) - 1) = (q : Int) by omega]
      have hqL : q < L.length := by rw [HLl.out]; omega
      obtain ⟨X, hX⟩ : ∃ X, g8 L q = X := ⟨_, rfl⟩
      have hge : L[q] = X := by
        have := g8_eq L q hqL
        rw [List.getElem?_eq_getElem hqL, hX] at this
        exact Option.some.inj this
      have Hst := hid (show shl64 (UInt64.ofNat (leV (L.drop (q + 1)))) 8 ||| X.toUInt64 = UInt64.ofNat (leV (L.drop q)) by
        rw [num_step X (L.drop (q + 1)) (by rw [List.length_drop, HLl.out]; omega), ← hge, ← List.drop_eq_getElem_cons hqL])
      obtain ⟨V, hV⟩ : ∃ V, UInt64.ofNat (leV (L.drop (q + 1))) = V := ⟨_, rfl⟩
      rw [hV] at Hst ⊢
      have hix : ∀ w0 : World, (Instr.index 9 (.string D) (.int .i64 (q : Int))).run Tryz.prog w0 = .ok (bt X) w0 := fun w0 => by
        rw [← hX, ← HDl.out]
        exact index_str (P := Tryz.prog) w0 9 D .i64 q q Tryz.underlying9 rfl (by rw [HDs.out]; omega) 0
      have hq4 : (q : Int) ≤ 3 := by omega
      clear hX hge hV
      go_wp2_with fail
      go_roundw
      case rel => exact ⟨q, by omega, rfl, by rw [← Hst.out], by first | rfl | trivial⟩
      case measure => simp [intOf]
end Go.Proofs.YtneoagelcjfanaaGreatDoor.rcd
