/- Layer 21, record: a record sealed, the program's and the document's. -/
import Derived.Test.YtneoagelcjfanaaGreatDoorRecH
namespace Go.Proofs.YtneoagelcjfanaaGreatDoor.rcd
open Go Go.Xr Go.RowKit
set_option linter.unusedVariables false
set_option linter.unusedSimpArgs false
attribute [local go_sem] eqgA eqgB eql_u64 eql_u64_c neq_u64 neq_u64_c add_u64_c

set_option maxRecDepth 20000 in
theorem keyT2 : (Tryz.prog.info? 45).map (·.size) = some 2 := rfl
set_option maxRecDepth 20000 in
theorem rrec_any {w : World} (c m label t : ByteArray) (x : UInt64) (hk : mayS c m = true) (ht : t.size ≤ 8192) (hl : label.size < 1099500000000) : Calls Tryz.prog 31 #[.agg #[.string c, .string m], .string label, W64 x, .string t] w fun e w' => e = .returned (.string (recS c m label x t)) ∧ Fr [] w w' := by
  have hcm : c.size = 16 ∧ m.size = 32 := by simpa [mayS] using hk
  have hn := clsN_le t.size
  have H1 := hid fun w0 : World => rclass_in (w := w0) t.size ht
  have H2 := hid fun w0 : World => rpad_any (w := w0) t (clsN t.size) (clsN_ge _ ht) hn.1 hn.2
  obtain ⟨N, hN⟩ : ∃ N, clsN t.size = N := ⟨_, rfl⟩
  have hP : (padS t N).size ≤ 1048576 := by rw [← hN, padS_size _ _ (clsN_ge _ ht)]; omega
  have H3 := hid fun w0 : World => rseal_good (w := w0) c m label (padS t N) x hcm.1 hcm.2 hP hl
  obtain ⟨R, hR⟩ : ∃ R, recS c m label x t = R := ⟨_, rfl⟩
  rw [show sealT c m (n8 x) label (padS t N) = R by rw [← hR, ← hN]; rfl] at H3
  rw [hN] at H1 H2
  obtain ⟨P, hPe⟩ : ∃ P, padS t N = P := ⟨_, rfl⟩
  rw [hPe] at H2 H3
  rw [hR]
  clear hk hcm hn hN hP hR hPe
  go_enter Tryz.func31, Tryz.ntmps31
  go_wp2_with (refine wpList_box rfl _ _ rfl [.string c, .string m] rfl ?_; intro w1 f1 hlt1 hb1; simp only [World.size_alloc, World.size_drew, Act.put, List.setIfInBounds_toArray, List.set_cons_succ, List.set_cons_zero])
  refine (H1.out _).mono ?_
  rintro e w2 ⟨rfl, f2⟩
  go_wp2_with fail
  refine (H2.out _).mono ?_
  rintro e w3 ⟨rfl, f3⟩
  have b3 := f3.blk (f2.blk hb1 (by simp)) (by simp)
  have k30 := b3.cell 0
  have k31 := b3.cell 1
  go_wp2_with fail
  refine (H3.out _).mono ?_
  rintro e w4 ⟨rfl, f4⟩
  go_wp2_with fail
  go_ret
  exact ⟨rfl, ((f1.trans' f2).trans' f3).trans' f4⟩

set_option maxRecDepth 20000 in
theorem sseal_long {w : World} {p : Nat} {c m label : ByteArray} {nx : UInt64} (t : ByteArray) (h : Blk w p (slL c m label nx)) (ht : 8192 < t.size) (hm : t.size ≤ 9223372036854775807) : Calls Tryz.prog 27 #[.pointer (some ⟨p, 0, none⟩), .string t] w fun e w' => e = .returned (.tuple #[.string ⟨#[]⟩, .int .i64 4]) ∧ w = w' := by
  have hd : decide (8192 < (t.size : Int)) = true := by simp; omega
  go_enter Tryz.func27, Tryz.ntmps27
  go_wp2_with fail
  go_ret2
  exact ⟨rfl, rfl⟩
set_option maxRecDepth 20000 in
set_option maxHeartbeats 1000000 in
theorem sseal_any {w : World} {p : Nat} {c m label : ByteArray} {nx : UInt64} (t : ByteArray) (h : Blk w p (slL c m label nx)) (hk : mayS c m = true) (ht : t.size ≤ 8192) (hl : label.size < 1099500000000) : Calls Tryz.prog 27 #[.pointer (some ⟨p, 0, none⟩), .string t] w fun e w' => e = .returned (.tuple #[.string (recS c m label nx t), .int .i64 0]) ∧ Blk w' p (slL c m label (nx + 1)) ∧ Fr [p] w w' := by
  have hd : decide (8192 < (t.size : Int)) = false := by simp; omega
  have hcm : c.size = 16 ∧ m.size = 32 := by simpa [mayS] using hk
  have hn := clsN_le t.size
  have H1 := hid fun w0 : World => class_in (w := w0) t.size ht
  have H2 := hid fun w0 : World => cpad_any (w := w0) t (clsN t.size) (clsN_ge _ ht) hn.1 hn.2
  obtain ⟨N, hN⟩ : ∃ N, clsN t.size = N := ⟨_, rfl⟩
  have hP : (padS t N).size ≤ 1048576 := by rw [← hN, padS_size _ _ (clsN_ge _ ht)]; omega
  have H3 := hid fun w0 : World => seal_good (w := w0) c m label (padS t N) nx hcm.1 hcm.2 hP hl
  obtain ⟨R, hR⟩ : ∃ R, recS c m label nx t = R := ⟨_, rfl⟩
  rw [show sealT c m (n8 nx) label (padS t N) = R by rw [← hR, ← hN]; rfl] at H3
  rw [hN] at H1 H2
  obtain ⟨P, hPe⟩ : ∃ P, padS t N = P := ⟨_, rfl⟩
  rw [hPe] at H2 H3
  rw [hR]
  have hpw := h.lt
  clear hk hcm hn hN hP hR hPe
  go_enter Tryz.func27, Tryz.ntmps27
  go_wp2_with fail
  refine (H1.out _).mono ?_
  rintro e w2 ⟨rfl, f2⟩
  go_wp2_with fail
  refine (H2.out _).mono ?_
  rintro e w3 ⟨rfl, f3⟩
  have g3 := f2.trans' f3
  have b3 := g3.blk h (by simp)
  have hd3 := b3.drew
  have k2 : w3.drew.cell? ⟨p, 2, none⟩ = some (.string label) := hd3.cell 2
  have k3 : w3.drew.cell? ⟨p, 3, none⟩ = some (W64 nx) := hd3.cell 3
  have e2 : w3.cell? ⟨p, 2, none⟩ = some (.string label) := b3.cell 2
  have e3 : w3.cell? ⟨p, 3, none⟩ = some (W64 nx) := b3.cell 3
  clear f2 f3
  go_wp2_with fail
  refine wp_region_D (fun _ => True) false [] (by kernel_rfl) ?_
  refine WD.pure [0, 1, 2, 3, 4, 5, 6, 7, 8, 9, 10, 11, 12, 13, 14, 15] (by kernel_rfl) trivial ?_
  simp only [pick, List.toList_toArray, List.map_cons, List.map_nil, List.getD_cons_succ, List.getD_cons_zero]
  repeat (first | (refine quiet_load_aggW (by rfl) _ _ rfl rfl [.string c, .string m] (fun _ h => by cases h; exact hd3) _ Tryz.underlying45 rfl keyT2 rfl ?_; simp only [World.size_alloc, World.size_drew, Act.put, List.setIfInBounds_toArray, List.set_cons_succ, List.set_cons_zero]) | go_big_quiet_step (fail))
  refine wpQuiet_nil ?_
  refine WD.eff 16 (by kernel_rfl) ?_
  simp only [pick, List.toList_toArray, List.map_cons, List.map_nil, List.getD_cons_succ, List.getD_cons_zero]
  go_wp2_with fail
  refine (H3.out _).mono ?_
  rintro e w4 ⟨rfl, f4⟩
  go_wp2_with fail
  try refine wpList_nil ?_
  refine AfterD.on trivial (by kernel_rfl) ?_
  try simp only [World.size_alloc, World.size_drew, Act.put, List.setIfInBounds_toArray, List.set_cons_succ, List.set_cons_zero]
  refine WD.pure [17, 18, 19, 20, 21] (by kernel_rfl) trivial ?_
  simp only [pick, List.toList_toArray, List.map_cons, List.map_nil, List.getD_cons_succ, List.getD_cons_zero]
  repeat (first | (refine quiet_load_aggW (by rfl) _ _ rfl rfl [.string c, .string m] (fun _ h => by cases h; exact hd3) _ Tryz.underlying45 rfl keyT2 rfl ?_; simp only [World.size_alloc, World.size_drew, Act.put, List.setIfInBounds_toArray, List.set_cons_succ, List.set_cons_zero]) | go_big_quiet_step (fail))
  refine wpQuiet_nil ?_
  refine WD.done (by kernel_rfl) ?_
  have b4 := f4.blk hd3 (by simp)
  have g4 := (g3.drew).trans' f4
  have j3 : w4.cell? ⟨p, 3, none⟩ = some (W64 nx) := b4.cell 3
  clear k2 k3 e2 e3 b3 hd3 g3 f4
  go_wp2_with (refine wpList_put rfl _ _ _ rfl rfl (W64 (nx + 1)) (by rw [← c64_1]; rfl) rfl b4 (by simp [slL]) (by kernel_rfl) ?_; intro w5 f5 b5 hs5; simp only [World.size_alloc, World.size_drew, Act.put, List.setIfInBounds_toArray, List.set_cons_succ, List.set_cons_zero])
  go_ret2
  exact ⟨rfl, b5, (g4.mono (by simp)).trans' f5⟩
end Go.Proofs.YtneoagelcjfanaaGreatDoor.rcd
