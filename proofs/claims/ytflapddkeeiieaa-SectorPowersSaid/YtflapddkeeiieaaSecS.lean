/- Layer 6, sector: Copy. -/
import Derived.Test.YtflapddkeeiieaaSecR
namespace Go.Proofs.Ytflapddkeeiieaa
open Go Go.Xr Go.RowKit
set_option linter.unusedVariables false
set_option linter.unusedSimpArgs false
theorem wlc_one' (l : List (Nat × List UInt8)) : ∀ u ∈ wlc l, u.oneCell' = true := by
  intro u hu
  unfold wlc at hu
  obtain ⟨p, _, hp⟩ := List.mem_flatMap.1 hu
  rcases List.mem_cons.1 hp with rfl | hp
  · rfl
  · exact bv_one _ u hp
theorem cloneW_opt {w : World} {v : Value} {n : Nat} {xs : List Value} {B : Option Nat} (h : Xr.Own w 513 v n xs B) (h1 : ∀ u ∈ xs, u.oneCell' = true) (hm : n ≤ maxLen) (hb : n * 520 ≤ 140737488355328) :
    Calls Try.prog 52 #[v] w fun e w' => ∃ v' B', e = .returned v' ∧ Xr.Own w' 513 v' n xs B' ∧ (∀ b, B' = some b → w.heap.size ≤ b) ∧ Fr [] w w' := by
  cases B with
  | some b => exact (cloneW_any h h1 hm hb).mono fun e w' ⟨v', b', he, ho, hs, f⟩ => ⟨v', some b', he, ho, fun c hc => by cases hc; exact hs, f⟩
  | none =>
    rcases h.shape with ⟨rfl, rfl, rfl, _⟩ | ⟨b, cap, hb, _⟩
    · exact (cloneW_nil w).mono fun e w' ⟨he, hw⟩ => ⟨_, none, he, Own.nil _ _, by simp, by rw [← hw]; exact Fr.refl _ _⟩
    · cases hb
theorem cloneI_opt {w : World} {v : Value} {n : Nat} {xs : List Value} {B : Option Nat} (h : Xr.Own w 1 v n xs B) (h1 : ∀ u ∈ xs, u.oneCell' = true) (hm : n ≤ maxLen) (hb : n * 8 ≤ 140737488355328) :
    Calls Try.prog 50 #[v] w fun e w' => ∃ v' B', e = .returned v' ∧ Xr.Own w' 1 v' n xs B' ∧ (∀ b, B' = some b → w.heap.size ≤ b) ∧ Fr [] w w' := by
  cases B with
  | some b => exact (cloneI_any h h1 hm hb).mono fun e w' ⟨v', b', he, ho, hs, f⟩ => ⟨v', some b', he, ho, fun c hc => by cases hc; exact hs, f⟩
  | none =>
    rcases h.shape with ⟨rfl, rfl, rfl, _⟩ | ⟨b, cap, hb, _⟩
    · exact (cloneI_nil w).mono fun e w' ⟨he, hw⟩ => ⟨_, none, he, Own.nil _ _, by simp, by rw [← hw]; exact Fr.refl _ _⟩
    · cases hb
set_option maxHeartbeats 1000000 in
set_option maxRecDepth 20000 in
theorem copy_any {w : World} {d : Nat} {D : SD} {pw : Option (Nat × Nat)} {F : List Nat} (h : Rep w d D pw F) (hll : D.loose.length < 1000000) (htl : D.trace.length < 1000000) :
    Calls Try.prog 26 #[.pointer (some ⟨d, 0, none⟩)] w fun e w' => ∃ d' F', e = .returned (.pointer (some ⟨d', 0, none⟩)) ∧ Rep w' d' D none F' ∧ Fr [] w w' ∧ ∀ x ∈ F', w.heap.size ≤ x := by
  have Hg := hid h.good
  have hle := h.good.le
  have Hsame := hid h.good.same
  obtain ⟨kc, nc, lv, tv, k, n, L, T, hF, H, h1, h2⟩ := h.open
  have ok0 : Xr.Own w 512 (.slice (some ⟨k, 0, none⟩) D.kept.length kc) D.kept.length (fl D.kept) (some k) := H.ownAt 1 rfl
  have on0 : Xr.Own w 512 (.slice (some ⟨n, 0, none⟩) D.now.length nc) D.now.length (fl D.now) (some n) := H.ownAt 2 rfl
  have ol0 : Xr.Own w 513 lv D.loose.length (wlc D.loose) L := H.ownAt 3 rfl
  have ot0 : Xr.Own w 1 tv D.trace.length (D.trace.map (.int .i64)) T := H.ownAt 4 rfl
  obtain ⟨la, lc, rfl⟩ := ol0.isSlice
  obtain ⟨ta, tc, rfl⟩ := ot0.isSlice
  have hb : Blk w d [.slice (some ⟨k, 0, none⟩) D.kept.length kc, .slice (some ⟨n, 0, none⟩) D.now.length nc, .slice la D.loose.length lc, .slice ta D.trace.length tc, .bool D.dead, pwv pw] := H.blkAt 0 rfl
  have hk1 := fun (w1 : World) (f : Fr [] w w1) => cloneS_any (ok0.keep f (by simp)) (fl_one _) (by unfold maxLen; omega) (by omega)
  have hn1 := fun (w1 : World) (f : Fr [] w w1) => cloneS_any (on0.keep f (by simp)) (fl_one _) (by have := Hsame.out; unfold maxLen; omega) (by have := Hsame.out; omega)
  have hl1 := fun (w1 : World) (f : Fr [] w w1) => cloneW_opt (ol0.keep f (by simp)) (wlc_one' _) (by unfold maxLen; omega) (by omega)
  have ht1 := fun (w1 : World) (f : Fr [] w w1) => cloneI_opt (ot0.keep f (by simp)) (by intro u hu; simp at hu; obtain ⟨x, _, rfl⟩ := hu; rfl) (by unfold maxLen; omega) (by omega)
  have Hk1 := hid hk1
  have Hn1 := hid hn1
  have Hl1 := hid hl1
  have Ht1 := hid ht1
  have hsn := @Lib.run_eql_slice_nil
  have k0 := hb.cell 0
  clear h hF H h1 h2 hk1 hn1 hl1 ht1 ok0 on0 ol0 ot0
  go_enter Try.func26, Try.ntmps26
  go_wp2_with fail
  refine wp_region_D (fun w' => Blk w' d [.slice (some ⟨k, 0, none⟩) D.kept.length kc, .slice (some ⟨n, 0, none⟩) D.now.length nc, .slice la D.loose.length lc, .slice ta D.trace.length tc, .bool D.dead, pwv pw]) true [] (by kernel_rfl) ?_
  refine WD.pure [0, 1, 2, 3] (by kernel_rfl) hb.drew ?_
  simp only [pick, List.toList_toArray, List.map_cons, List.map_nil, List.getD_cons_succ, List.getD_cons_zero]
  repeat (first | (refine quiet_load_1R (by rfl) _ _ rfl rfl (.slice (some ⟨k, 0, none⟩) D.kept.length kc) (fun w0 h => by cases h; exact hb.drew.cell 0) _ Try.underlying67 rfl ?_; simp only [World.size_alloc, World.size_drew, Act.put, List.setIfInBounds_toArray, List.set_cons_succ, List.set_cons_zero]) | (refine quiet_load_1R (by rfl) _ _ rfl rfl (.slice (some ⟨n, 0, none⟩) D.now.length nc) (fun w0 h => h.cell 1) _ Try.underlying67 rfl ?_; simp only [World.size_alloc, World.size_drew, Act.put, List.setIfInBounds_toArray, List.set_cons_succ, List.set_cons_zero]) | (refine quiet_load_1R (by rfl) _ _ rfl rfl (.slice la D.loose.length lc) (fun w0 h => h.cell 2) _ Try.underlying68 rfl ?_; simp only [World.size_alloc, World.size_drew, Act.put, List.setIfInBounds_toArray, List.set_cons_succ, List.set_cons_zero]) | (refine quiet_load_1R (by rfl) _ _ rfl rfl (.slice ta D.trace.length tc) (fun w0 h => h.cell 3) _ Try.underlying37 rfl ?_; simp only [World.size_alloc, World.size_drew, Act.put, List.setIfInBounds_toArray, List.set_cons_succ, List.set_cons_zero]) | (refine quiet_load_1R (by rfl) _ _ rfl rfl (.bool D.dead) (fun w0 h => h.cell 4) _ Try.underlying4 rfl ?_; simp only [World.size_alloc, World.size_drew, Act.put, List.setIfInBounds_toArray, List.set_cons_succ, List.set_cons_zero]) | go_big_quiet_step (fail))
  refine wpQuiet_nil ?_
  refine WD.free [5, 6, 7, 10, 11, 12, 15, 16, 17, 20, 21, 22] (by kernel_rfl) hb.drew ?_
  simp only [pick, List.toList_toArray, List.map_cons, List.map_nil, List.getD_cons_succ, List.getD_cons_zero]
  repeat (first | (refine quiet_load_1R (by rfl) _ _ rfl rfl (.slice (some ⟨k, 0, none⟩) D.kept.length kc) (fun w0 h => by cases h; exact hb.drew.cell 0) _ Try.underlying67 rfl ?_; simp only [World.size_alloc, World.size_drew, Act.put, List.setIfInBounds_toArray, List.set_cons_succ, List.set_cons_zero]) | (refine quiet_load_1R (by rfl) _ _ rfl rfl (.slice (some ⟨n, 0, none⟩) D.now.length nc) (fun w0 h => h.cell 1) _ Try.underlying67 rfl ?_; simp only [World.size_alloc, World.size_drew, Act.put, List.setIfInBounds_toArray, List.set_cons_succ, List.set_cons_zero]) | (refine quiet_load_1R (by rfl) _ _ rfl rfl (.slice la D.loose.length lc) (fun w0 h => h.cell 2) _ Try.underlying68 rfl ?_; simp only [World.size_alloc, World.size_drew, Act.put, List.setIfInBounds_toArray, List.set_cons_succ, List.set_cons_zero]) | (refine quiet_load_1R (by rfl) _ _ rfl rfl (.slice ta D.trace.length tc) (fun w0 h => h.cell 3) _ Try.underlying37 rfl ?_; simp only [World.size_alloc, World.size_drew, Act.put, List.setIfInBounds_toArray, List.set_cons_succ, List.set_cons_zero]) | (refine quiet_load_1R (by rfl) _ _ rfl rfl (.bool D.dead) (fun w0 h => h.cell 4) _ Try.underlying4 rfl ?_; simp only [World.size_alloc, World.size_drew, Act.put, List.setIfInBounds_toArray, List.set_cons_succ, List.set_cons_zero]) | go_big_quiet_step (fail))
  refine wpQuiet_nil ?_
  refine WD.held [8, 13, 18, 23] (by kernel_rfl) hb.drew ?_
  simp only [pick, List.toList_toArray, List.map_cons, List.map_nil, List.getD_cons_succ, List.getD_cons_zero]
  repeat (first | (refine quiet_load_1R (by rfl) _ _ rfl rfl (.slice (some ⟨k, 0, none⟩) D.kept.length kc) (fun w0 h => by cases h; exact hb.drew.cell 0) _ Try.underlying67 rfl ?_; simp only [World.size_alloc, World.size_drew, Act.put, List.setIfInBounds_toArray, List.set_cons_succ, List.set_cons_zero]) | (refine quiet_load_1R (by rfl) _ _ rfl rfl (.slice (some ⟨n, 0, none⟩) D.now.length nc) (fun w0 h => h.cell 1) _ Try.underlying67 rfl ?_; simp only [World.size_alloc, World.size_drew, Act.put, List.setIfInBounds_toArray, List.set_cons_succ, List.set_cons_zero]) | (refine quiet_load_1R (by rfl) _ _ rfl rfl (.slice la D.loose.length lc) (fun w0 h => h.cell 2) _ Try.underlying68 rfl ?_; simp only [World.size_alloc, World.size_drew, Act.put, List.setIfInBounds_toArray, List.set_cons_succ, List.set_cons_zero]) | (refine quiet_load_1R (by rfl) _ _ rfl rfl (.slice ta D.trace.length tc) (fun w0 h => h.cell 3) _ Try.underlying37 rfl ?_; simp only [World.size_alloc, World.size_drew, Act.put, List.setIfInBounds_toArray, List.set_cons_succ, List.set_cons_zero]) | (refine quiet_load_1R (by rfl) _ _ rfl rfl (.bool D.dead) (fun w0 h => h.cell 4) _ Try.underlying4 rfl ?_; simp only [World.size_alloc, World.size_drew, Act.put, List.setIfInBounds_toArray, List.set_cons_succ, List.set_cons_zero]) | go_big_quiet_step (fail))
  refine wpQuiet_nil ?_
  refine WD.eff 4 (by kernel_rfl) ?_
  simp only [pick, List.toList_toArray, List.map_cons, List.map_nil, List.getD_cons_succ, List.getD_cons_zero]
  have f0 : Fr [] w w.drew := (Fr.refl [] w).drew
  go_wp2_with (go_at_call 36; refine (Hk1.out _ f0).mono ?_; rintro e w1 ⟨va, a1, rfl, oa, ha, f1⟩)
  have b1 := f1.blk hb.drew (by simp)
  obtain ⟨aa, ac, rfl⟩ := oa.isSlice
  try refine wpList_nil ?_
  refine AfterD.on b1 (by kernel_rfl) ?_
  try simp only [World.size_alloc, World.size_drew, Act.put, List.setIfInBounds_toArray, List.set_cons_succ, List.set_cons_zero]
  refine WD.eff 9 (by kernel_rfl) ?_
  simp only [pick, List.toList_toArray, List.map_cons, List.map_nil, List.getD_cons_succ, List.getD_cons_zero]
  have g1 := f0.trans' f1
  go_wp2_with (go_at_call 36; refine (Hn1.out _ g1).mono ?_; rintro e w2 ⟨vb, a2, rfl, ob, hb', f2⟩)
  have b2 := f2.blk b1 (by simp)
  obtain ⟨ba, bc, rfl⟩ := ob.isSlice
  try refine wpList_nil ?_
  refine AfterD.on b2 (by kernel_rfl) ?_
  try simp only [World.size_alloc, World.size_drew, Act.put, List.setIfInBounds_toArray, List.set_cons_succ, List.set_cons_zero]
  refine WD.eff 14 (by kernel_rfl) ?_
  simp only [pick, List.toList_toArray, List.map_cons, List.map_nil, List.getD_cons_succ, List.getD_cons_zero]
  have g2 := g1.trans' f2
  go_wp2_with (go_at_call 52; refine (Hl1.out _ g2).mono ?_; rintro e w3 ⟨vc, A3, rfl, oc, hc', f3⟩)
  have b3 := f3.blk b2 (by simp)
  obtain ⟨ca, cc, rfl⟩ := oc.isSlice
  try refine wpList_nil ?_
  refine AfterD.on b3 (by kernel_rfl) ?_
  try simp only [World.size_alloc, World.size_drew, Act.put, List.setIfInBounds_toArray, List.set_cons_succ, List.set_cons_zero]
  refine WD.eff 19 (by kernel_rfl) ?_
  simp only [pick, List.toList_toArray, List.map_cons, List.map_nil, List.getD_cons_succ, List.getD_cons_zero]
  have g3 := g2.trans' f3
  go_wp2_with (go_at_call 50; refine (Ht1.out _ g3).mono ?_; rintro e w4 ⟨vd, A4, rfl, od, hd', f4⟩)
  have b4 := f4.blk b3 (by simp)
  obtain ⟨da, dc, rfl⟩ := od.isSlice
  try refine wpList_nil ?_
  refine AfterD.on b4 (by kernel_rfl) ?_
  try simp only [World.size_alloc, World.size_drew, Act.put, List.setIfInBounds_toArray, List.set_cons_succ, List.set_cons_zero]
  refine WD.pure [24] (by kernel_rfl) b4 ?_
  simp only [pick, List.toList_toArray, List.map_cons, List.map_nil, List.getD_cons_succ, List.getD_cons_zero]
  repeat (first | (refine quiet_load_1R (by rfl) _ _ rfl rfl (.slice (some ⟨k, 0, none⟩) D.kept.length kc) (fun w0 h => by cases h; exact hb.drew.cell 0) _ Try.underlying67 rfl ?_; simp only [World.size_alloc, World.size_drew, Act.put, List.setIfInBounds_toArray, List.set_cons_succ, List.set_cons_zero]) | (refine quiet_load_1R (by rfl) _ _ rfl rfl (.slice (some ⟨n, 0, none⟩) D.now.length nc) (fun w0 h => h.cell 1) _ Try.underlying67 rfl ?_; simp only [World.size_alloc, World.size_drew, Act.put, List.setIfInBounds_toArray, List.set_cons_succ, List.set_cons_zero]) | (refine quiet_load_1R (by rfl) _ _ rfl rfl (.slice la D.loose.length lc) (fun w0 h => h.cell 2) _ Try.underlying68 rfl ?_; simp only [World.size_alloc, World.size_drew, Act.put, List.setIfInBounds_toArray, List.set_cons_succ, List.set_cons_zero]) | (refine quiet_load_1R (by rfl) _ _ rfl rfl (.slice ta D.trace.length tc) (fun w0 h => h.cell 3) _ Try.underlying37 rfl ?_; simp only [World.size_alloc, World.size_drew, Act.put, List.setIfInBounds_toArray, List.set_cons_succ, List.set_cons_zero]) | (refine quiet_load_1R (by rfl) _ _ rfl rfl (.bool D.dead) (fun w0 h => h.cell 4) _ Try.underlying4 rfl ?_; simp only [World.size_alloc, World.size_drew, Act.put, List.setIfInBounds_toArray, List.set_cons_succ, List.set_cons_zero]) | go_big_quiet_step (fail))
  refine wpQuiet_nil ?_
  refine WD.eff 25 (by kernel_rfl) ?_
  simp only [pick, List.toList_toArray, List.map_cons, List.map_nil, List.getD_cons_succ, List.getD_cons_zero]
  have g4 := g3.trans' f4
  have Hoa := hid oa
  have Hob := hid ob
  have Hoc := hid oc
  have Hod := hid od
  clear oa ob oc od Hk1 Hn1 Hl1 Ht1 b1 b2 b3
  go_wp2_with (refine wpList_box rfl _ _ rfl [.slice aa D.kept.length ac, .slice ba D.now.length bc, .slice ca D.loose.length cc, .slice da D.trace.length dc, .bool D.dead, .pointer none] rfl ?_; intro w5 f5 hlt5 b5; simp only [World.size_alloc, World.size_drew, Act.put, List.setIfInBounds_toArray, List.set_cons_succ, List.set_cons_zero])
  have b6 := f5.blk b4 (by simp)
  try refine wpList_nil ?_
  refine AfterD.on b6 (by kernel_rfl) ?_
  try simp only [World.size_alloc, World.size_drew, Act.put, List.setIfInBounds_toArray, List.set_cons_succ, List.set_cons_zero]
  refine WD.pure [26] (by kernel_rfl) b6 ?_
  simp only [pick, List.toList_toArray, List.map_cons, List.map_nil, List.getD_cons_succ, List.getD_cons_zero]
  repeat (first | (refine quiet_load_1R (by rfl) _ _ rfl rfl (.slice (some ⟨k, 0, none⟩) D.kept.length kc) (fun w0 h => by cases h; exact hb.drew.cell 0) _ Try.underlying67 rfl ?_; simp only [World.size_alloc, World.size_drew, Act.put, List.setIfInBounds_toArray, List.set_cons_succ, List.set_cons_zero]) | (refine quiet_load_1R (by rfl) _ _ rfl rfl (.slice (some ⟨n, 0, none⟩) D.now.length nc) (fun w0 h => h.cell 1) _ Try.underlying67 rfl ?_; simp only [World.size_alloc, World.size_drew, Act.put, List.setIfInBounds_toArray, List.set_cons_succ, List.set_cons_zero]) | (refine quiet_load_1R (by rfl) _ _ rfl rfl (.slice la D.loose.length lc) (fun w0 h => h.cell 2) _ Try.underlying68 rfl ?_; simp only [World.size_alloc, World.size_drew, Act.put, List.setIfInBounds_toArray, List.set_cons_succ, List.set_cons_zero]) | (refine quiet_load_1R (by rfl) _ _ rfl rfl (.slice ta D.trace.length tc) (fun w0 h => h.cell 3) _ Try.underlying37 rfl ?_; simp only [World.size_alloc, World.size_drew, Act.put, List.setIfInBounds_toArray, List.set_cons_succ, List.set_cons_zero]) | (refine quiet_load_1R (by rfl) _ _ rfl rfl (.bool D.dead) (fun w0 h => h.cell 4) _ Try.underlying4 rfl ?_; simp only [World.size_alloc, World.size_drew, Act.put, List.setIfInBounds_toArray, List.set_cons_succ, List.set_cons_zero]) | go_big_quiet_step (fail))
  refine wpQuiet_nil ?_
  refine WD.done (by kernel_rfl) ?_
  go_wp2_with fail
  go_ret
  have H1 := Held.one (Res.On.own Hoa.out)
  have H2 := H1.fresh f2 (Res.On.own Hob.out) (fun b hb => by simp [Res.own] at hb; subst hb; exact hb')
  have H3 := H2.fresh f3 (Res.On.own Hoc.out) (fun b hb => hc' b (by simpa [Res.own] using hb))
  have H4 := H3.fresh f4 (Res.On.own Hod.out) (fun b hb => hd' b (by simpa [Res.own] using hb))
  have H5 := H4.fresh f5 (Res.On.blk b5) (fun b hb => by simp [Res.blk] at hb; omega)
  have H6 : Held w5 (parts w4.heap.size D none (.slice aa D.kept.length ac) (.slice ba D.now.length bc) (.slice ca D.loose.length cc) (.slice da D.trace.length dc) a1 a2 A3 A4) := Held.pick [0, 4, 3, 2, 1] H5 (by decide) rfl
  refine ⟨w4.heap.size, feet w4.heap.size a1 a2 A3 A4, rfl, Rep.ofHeld Hg.out H6, g4.trans' f5, ?_⟩
  have s1 := f0.size
  have s2 := g1.size
  have s3 := g2.size
  have s4 := g3.size
  have s5 := g4.size
  intro x hx
  simp [feet] at hx
  rcases hx with rfl | rfl | rfl | hx | hx
  · omega
  · omega
  · omega
  · have := hc' x hx
    omega
  · have := hd' x hx
    omega
end Go.Proofs.Ytflapddkeeiieaa
