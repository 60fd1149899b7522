/- Layer 22: the statements' secrets. -/
import Derived.Test.YtneoagelcjfanaaGreatDoorChL
namespace Go.Proofs.YtneoagelcjfanaaGreatDoor.chn
open Go Go.Xr Go.RowKit Go.Proofs.YtneoagelcjfanaaGreatDoor Go.Proofs.YtneoagelcjfanaaGreatDoor.rcd
set_option linter.unusedVariables false
set_option linter.unusedSimpArgs false
attribute [local go_sem] and_u8_c
set_option maxRecDepth 20000 in
set_option maxHeartbeats 2000000 in
theorem master_any (w : World) (x : UInt8) : Calls Tryz.prog 16 #[bt x] w fun e w' => e = .returned (.string (kmS x)) ∧ Fr [] w w' := by
  obtain ⟨i5, hi5, hz5, hs5, hb5⟩ := inf5
  have Hi := hid hi5
  have Hz := hid hz5
  have Hs := hid hs5
  have Hb := hid hb5
  have HL := hid (show List.replicate 31 (bt 0) = bv z31L by rw [z31L, bv_replicate])
  unfold kmS
  obtain ⟨D6, hD6⟩ : ∃ D : ByteArray, ⟨z31L.toArray⟩ = D := ⟨_, rfl⟩
  obtain ⟨D10, hD10⟩ : ∃ D : ByteArray, ⟨[x &&& c8 3].toArray⟩ = D := ⟨_, rfl⟩
  have HS6 : Hid (∀ (w0 : World) (N : Nat), Xr.Own w0 1 (.slice (some ⟨N, 0, none⟩) 31 31) 31 (bv z31L) (some N) → (convert 67 9 (.slice (some ⟨N, 0, none⟩) 31 31)).run Tryz.prog w0 = .ok (.string D6) w0) := hid fun w0 N h => by
    rw [← hD6]
    exact run_string_of_own _ _ _ 5 h Tryz.underlying67 Tryz.underlying5 Tryz.underlying9
  have HS10 : Hid (∀ (w0 : World) (N : Nat), Xr.Own w0 1 (.slice (some ⟨N, 0, none⟩) 1 1) 1 (bv [x &&& c8 3]) (some N) → (convert 67 9 (.slice (some ⟨N, 0, none⟩) 1 1)).run Tryz.prog w0 = .ok (.string D10) w0) := hid fun w0 N h => by
    rw [← hD10]
    exact run_string_of_own _ _ _ 5 h Tryz.underlying67 Tryz.underlying5 Tryz.underlying9
  rw [hD6, hD10]
  have hD6s : D6.size ≤ 31 := by rw [← hD6]; exact Nat.le_refl _
  have hD10s : D10.size ≤ 1 := by rw [← hD10]; exact Nat.le_refl _
  have hDs : D6.size + D10.size ≤ 140737488355328 := by omega
  clear hD6 hD10 hi5 hz5 hs5 hb5
  go_enter Tryz.func16, Tryz.ntmps16
  go_wp2_with fail
  obtain ⟨u0, hw0⟩ : ∃ u0, w.drew = u0 := ⟨_, rfl⟩
  have gu0 : Fr [] w u0 := by rw [← hw0]; exact (Fr.refl [] w).drew
  refine wp_region_D (fun _ => True) true [] (by kernel_rfl) ?_
  refine WD.free [2, 3] (by kernel_rfl) trivial ?_
  simp only [pick, List.toList_toArray, List.map_cons, List.map_nil, List.getD_cons_succ, List.getD_cons_zero]
  repeat (first | (refine quiet_conv_v (by rfl) _ _ _ rfl _ rfl (.string D6) (fun wq h => by first|exact HS6.out _ _ h|exact HS6.out _ _ h.1|exact HS6.out _ _ h.2|(rw [h];exact HS6.out _ _ ho6)) ?_; simp only [World.size_alloc, World.size_drew, Act.put, List.setIfInBounds_toArray, List.set_cons_succ, List.set_cons_zero]) | (refine quiet_conv_v (by rfl) _ _ _ rfl _ rfl (.string D10) (fun wq h => by first|exact HS10.out _ _ h|exact HS10.out _ _ h.1|exact HS10.out _ _ h.2|(rw [h];exact HS10.out _ _ ho10)) ?_; simp only [World.size_alloc, World.size_drew, Act.put, List.setIfInBounds_toArray, List.set_cons_succ, List.set_cons_zero]) | go_big_quiet_step (fail))
  refine wpQuiet_nil ?_
  refine WD.eff2 0 4 (by kernel_rfl) ?_ ?_
  all_goals simp only [pick, List.toList_toArray, List.map_cons, List.map_nil, List.getD_cons_succ, List.getD_cons_zero]
  all_goals rw [hw0]
  · skip
    refine wpList_make1 rfl _ _ _ rfl 31 31 .i64 .i64 rfl rfl 5 _ _ 1 Tryz.underlying67 Hi.out Hz.out Hs.out Hb.out rfl (Nat.le_refl _) (by decide) (by decide) ?_
    intro u1 f hlt ho6
    rw [HL.out] at ho6
    obtain ⟨N6, hN6⟩ : ∃ N, u0.heap.size = N := ⟨_, rfl⟩
    rw [hN6] at ho6 ⊢
    replace ho6 : O6 N6 u1 := ho6
    try replace ho10 := ho10.on f (by simp)
    have gu1 := gu0.trans' f
    clear hN6 hlt f gu0
    simp only [World.size_alloc, World.size_drew, Act.put, List.setIfInBounds_toArray, List.set_cons_succ, List.set_cons_zero]
    try refine wpList_nil ?_
    refine AfterD.on trivial (by kernel_rfl) ?_
    refine WD.more (O6 N6) (fun _ _ => trivial) ?_
    try simp only [World.size_alloc, World.size_drew, Act.put, List.setIfInBounds_toArray, List.set_cons_succ, List.set_cons_zero]
    refine WD.held [1] (by kernel_rfl) ho6 ?_
    simp only [pick, List.toList_toArray, List.map_cons, List.map_nil, List.getD_cons_succ, List.getD_cons_zero]
    repeat (first | (refine quiet_conv_v (by rfl) _ _ _ rfl _ rfl (.string D6) (fun wq h => by first|exact HS6.out _ _ h|exact HS6.out _ _ h.1|exact HS6.out _ _ h.2|(rw [h];exact HS6.out _ _ ho6)) ?_; simp only [World.size_alloc, World.size_drew, Act.put, List.setIfInBounds_toArray, List.set_cons_succ, List.set_cons_zero]) | (refine quiet_conv_v (by rfl) _ _ _ rfl _ rfl (.string D10) (fun wq h => by first|exact HS10.out _ _ h|exact HS10.out _ _ h.1|exact HS10.out _ _ h.2|(rw [h];exact HS10.out _ _ ho10)) ?_; simp only [World.size_alloc, World.size_drew, Act.put, List.setIfInBounds_toArray, List.set_cons_succ, List.set_cons_zero]) | go_big_quiet_step (fail))
    refine wpQuiet_nil ?_
    refine WD.eff 4 (by kernel_rfl) ?_
    simp only [pick, List.toList_toArray, List.map_cons, List.map_nil, List.getD_cons_succ, List.getD_cons_zero]
    refine wpList_buildSlice_any rfl _ 1 _ rfl 5 Tryz.underlying67 _ _ Hi.out Hz.out rfl Hs.out (by decide) (by decide) rfl [bt (x &&& c8 3)] rfl (bv_one [x &&& c8 3]) ?_
    intro u2 f hlt hb
    obtain ⟨N10, hN10⟩ : ∃ N, u1.heap.size = N := ⟨_, rfl⟩
    rw [hN10] at hb ⊢
    have ho10 : O10 x N10 u2 := Own.blk hb (Nat.le_refl _) (by unfold maxLen; omega) rfl
    try replace ho6 := ho6.on f (by simp)
    have gu2 := gu1.trans' f
    clear hN10 hlt f gu1 hb
    simp only [World.size_alloc, World.size_drew, Act.put, List.setIfInBounds_toArray, List.set_cons_succ, List.set_cons_zero]
    try refine wpList_nil ?_
    refine AfterD.on ho6 (by kernel_rfl) ?_
    refine WD.more (fun w' => O6 N6 w' ∧ O10 x N10 w') (fun _ h => h.1) ?_
    try simp only [World.size_alloc, World.size_drew, Act.put, List.setIfInBounds_toArray, List.set_cons_succ, List.set_cons_zero]
    refine WD.pure [5, 6, 7] (by kernel_rfl) ⟨ho6, ho10⟩ ?_
    simp only [pick, List.toList_toArray, List.map_cons, List.map_nil, List.getD_cons_succ, List.getD_cons_zero]
    repeat (first | (refine quiet_conv_v (by rfl) _ _ _ rfl _ rfl (.string D6) (fun wq h => by first|exact HS6.out _ _ h|exact HS6.out _ _ h.1|exact HS6.out _ _ h.2|(rw [h];exact HS6.out _ _ ho6)) ?_; simp only [World.size_alloc, World.size_drew, Act.put, List.setIfInBounds_toArray, List.set_cons_succ, List.set_cons_zero]) | (refine quiet_conv_v (by rfl) _ _ _ rfl _ rfl (.string D10) (fun wq h => by first|exact HS10.out _ _ h|exact HS10.out _ _ h.1|exact HS10.out _ _ h.2|(rw [h];exact HS10.out _ _ ho10)) ?_; simp only [World.size_alloc, World.size_drew, Act.put, List.setIfInBounds_toArray, List.set_cons_succ, List.set_cons_zero]) | go_big_quiet_step (fail))
    refine wpQuiet_nil ?_
    refine WD.done (by kernel_rfl) ?_
    go_wp2_with fail
    go_ret
    exact ⟨rfl, gu2⟩
  · skip
    skip
    refine wpList_buildSlice_any rfl _ 1 _ rfl 5 Tryz.underlying67 _ _ Hi.out Hz.out rfl Hs.out (by decide) (by decide) rfl [bt (x &&& c8 3)] rfl (bv_one [x &&& c8 3]) ?_
    intro u1 f hlt hb
    obtain ⟨N10, hN10⟩ : ∃ N, u0.heap.size = N := ⟨_, rfl⟩
    rw [hN10] at hb ⊢
    have ho10 : O10 x N10 u1 := Own.blk hb (Nat.le_refl _) (by unfold maxLen; omega) rfl
    try replace ho6 := ho6.on f (by simp)
    have gu1 := gu0.trans' f
    clear hN10 hlt f gu0 hb
    simp only [World.size_alloc, World.size_drew, Act.put, List.setIfInBounds_toArray, List.set_cons_succ, List.set_cons_zero]
    try refine wpList_nil ?_
    refine AfterD.on trivial (by kernel_rfl) ?_
    refine WD.more (O10 x N10) (fun _ _ => trivial) ?_
    try simp only [World.size_alloc, World.size_drew, Act.put, List.setIfInBounds_toArray, List.set_cons_succ, List.set_cons_zero]
    refine WD.held [5] (by kernel_rfl) ho10 ?_
    simp only [pick, List.toList_toArray, List.map_cons, List.map_nil, List.getD_cons_succ, List.getD_cons_zero]
    repeat (first | (refine quiet_conv_v (by rfl) _ _ _ rfl _ rfl (.string D6) (fun wq h => by first|exact HS6.out _ _ h|exact HS6.out _ _ h.1|exact HS6.out _ _ h.2|(rw [h];exact HS6.out _ _ ho6)) ?_; simp only [World.size_alloc, World.size_drew, Act.put, List.setIfInBounds_toArray, List.set_cons_succ, List.set_cons_zero]) | (refine quiet_conv_v (by rfl) _ _ _ rfl _ rfl (.string D10) (fun wq h => by first|exact HS10.out _ _ h|exact HS10.out _ _ h.1|exact HS10.out _ _ h.2|(rw [h];exact HS10.out _ _ ho10)) ?_; simp only [World.size_alloc, World.size_drew, Act.put, List.setIfInBounds_toArray, List.set_cons_succ, List.set_cons_zero]) | go_big_quiet_step (fail))
    refine wpQuiet_nil ?_
    refine WD.eff 0 (by kernel_rfl) ?_
    simp only [pick, List.toList_toArray, List.map_cons, List.map_nil, List.getD_cons_succ, List.getD_cons_zero]
    refine wpList_make1 rfl _ _ _ rfl 31 31 .i64 .i64 rfl rfl 5 _ _ 1 Tryz.underlying67 Hi.out Hz.out Hs.out Hb.out rfl (Nat.le_refl _) (by decide) (by decide) ?_
    intro u2 f hlt ho6
    rw [HL.out] at ho6
    obtain ⟨N6, hN6⟩ : ∃ N, u1.heap.size = N := ⟨_, rfl⟩
    rw [hN6] at ho6 ⊢
    replace ho6 : O6 N6 u2 := ho6
    try replace ho10 := ho10.on f (by simp)
    have gu2 := gu1.trans' f
    clear hN6 hlt f gu1
    simp only [World.size_alloc, World.size_drew, Act.put, List.setIfInBounds_toArray, List.set_cons_succ, List.set_cons_zero]
    try refine wpList_nil ?_
    refine AfterD.on ho10 (by kernel_rfl) ?_
    refine WD.more (fun w' => O6 N6 w' ∧ O10 x N10 w') (fun _ h => h.2) ?_
    try simp only [World.size_alloc, World.size_drew, Act.put, List.setIfInBounds_toArray, List.set_cons_succ, List.set_cons_zero]
    refine WD.pure [1, 6, 7] (by kernel_rfl) ⟨ho6, ho10⟩ ?_
    simp only [pick, List.toList_toArray, List.map_cons, List.map_nil, List.getD_cons_succ, List.getD_cons_zero]
    repeat (first | (refine quiet_conv_v (by rfl) _ _ _ rfl _ rfl (.string D6) (fun wq h => by first|exact HS6.out _ _ h|exact HS6.out _ _ h.1|exact HS6.out _ _ h.2|(rw [h];exact HS6.out _ _ ho6)) ?_; simp only [World.size_alloc, World.size_drew, Act.put, List.setIfInBounds_toArray, List.set_cons_succ, List.set_cons_zero]) | (refine quiet_conv_v (by rfl) _ _ _ rfl _ rfl (.string D10) (fun wq h => by first|exact HS10.out _ _ h|exact HS10.out _ _ h.1|exact HS10.out _ _ h.2|(rw [h];exact HS10.out _ _ ho10)) ?_; simp only [World.size_alloc, World.size_drew, Act.put, List.setIfInBounds_toArray, List.set_cons_succ, List.set_cons_zero]) | go_big_quiet_step (fail))
    refine wpQuiet_nil ?_
    refine WD.done (by kernel_rfl) ?_
    go_wp2_with fail
    go_ret
    exact ⟨rfl, gu2⟩
end Go.Proofs.YtneoagelcjfanaaGreatDoor.chn
