/- Layer 6, the document's disk: Copy. -/
import Derived.Test.YtflapddkeeiieaaRefF
import Derived.Test.YtflapddkeeiieaaPar
namespace Go.Proofs.Ytflapddkeeiieaa
open Go Go.Xr Go.RowKit
set_option linter.unusedVariables false
set_option linter.unusedSimpArgs false
theorem xlc_one (l : List (Nat × ByteArray)) : ∀ u ∈ xlc l, u.oneCell' = true := by
  intro u hu
  obtain ⟨p, _, hu⟩ := List.mem_flatMap.1 hu
  simp at hu
  rcases hu with rfl | rfl <;> rfl
set_option maxHeartbeats 8000000 in
set_option maxRecDepth 20000 in
theorem xcopy_any {w : World} {x : Nat} {X : XD} {pw : Option (Nat × Nat)} {i : XI} (h : Held w (xps x X pw i)) (hX : XGood X) (hl : X.L.length < 1000000) (ht : X.Trace.length < 1000000) :
    Calls Try.prog 27 #[.pointer (some ⟨x, 0, none⟩)] w fun e w' => ∃ y i', e = .returned (.pointer (some ⟨y, 0, none⟩)) ∧ Ev w [] w' (xps y X none i') := by
  obtain ⟨i9, hi9, hz9, hs9, hb9⟩ : ∃ i, Try.prog.info? 9 = some i ∧ i.zero = some (.string ⟨#[]⟩) ∧ i.size = 1 ∧ i.bytes = 16 := ⟨_, rfl, rfl, rfl, rfl⟩
  obtain ⟨i3, hi3, hz3, hs3, hb3⟩ := inf3
  obtain ⟨i91, z91, hi91, hz91, hs91, hb91, hc91⟩ := inf91
  have Hi9 := hid hi9
  have Hz9 := hid hz9
  have Hs9 := hid hs9
  have Hb9 := hid hb9
  have Hi3 := hid hi3
  have Hz3 := hid hz3
  have Hs3 := hid hs3
  have Hb3 := hid hb3
  have Hi91 := hid hi91
  have Hz91 := hid hz91
  have Hs91 := hid hs91
  have Hb91 := hid hb91
  have Hc91 := hid hc91
  clear hi9 hz9 hs9 hb9 hi3 hz3 hs3 hb3 hi91 hz91 hs91 hb91 hc91
  have hb := h.blkAt 0 rfl
  have HK := hid (fun (w' : World) (f : Fr [] w w') => ((h.ownAt 1 rfl : Xr.Own w 1 i.kv X.Kept.length (X.Kept.map .string) i.K).rd.rc).keep f (by simp))
  have HL := hid (fun (w' : World) (f : Fr [] w w') => ((h.ownAt 2 rfl : Xr.Own w 2 i.lv X.L.length (xlc X.L) i.Lb).rd.rc).keep f (by simp))
  have HT := hid (fun (w' : World) (f : Fr [] w w') => ((h.ownAt 3 rfl : Xr.Own w 1 i.tv X.Trace.length (X.Trace.map (.int .i64)) i.T).rd.rc).keep f (by simp))
  have hB := hid (fun (w' : World) (f : Fr [] w w') => (f.blk hb (by simp)).cell)
  have hle := hX.le
  have e0 : Ev w [] w.drew _ := (Ev.nil3 w).step ((Fr.refl [] w).drew)
  have M9 := hid (show ∀ u ∈ X.Kept.map Value.string, u.oneCell' = true by intro u hu; obtain ⟨s, _, rfl⟩ := List.mem_map.1 hu; rfl)
  have M91 := hid (xlc_one X.L)
  have M3 := hid (show ∀ u ∈ X.Trace.map (Value.int .i64), u.oneCell' = true by intro u hu; obtain ⟨s, _, rfl⟩ := List.mem_map.1 hu; rfl)
  have L9 := hid (show X.Kept.length ≤ maxLen ∧ X.Kept.length * 16 ≤ 140737488355328 by unfold maxLen; omega)
  have L91 := hid (show X.L.length ≤ maxLen ∧ X.L.length * 24 ≤ 140737488355328 by unfold maxLen; omega)
  have L3 := hid (show X.Trace.length ≤ maxLen ∧ X.Trace.length * 8 ≤ 140737488355328 by unfold maxLen; omega)
  clear h hX hb
  go_enter Try.func27, Try.ntmps27
  go_wp2_with fail
  refine wp_region_D (fun w' => Fr [] w w') false [] (by kernel_rfl) ?_
  refine WD.free [1, 2, 3, 7, 8, 9, 13, 14, 15, 18, 19, 20] (by kernel_rfl) ((Fr.refl [] w).drew) ?_
  simp only [pick, List.toList_toArray, List.map_cons, List.map_nil, List.getD_cons_succ, List.getD_cons_zero]
  repeat (first | (refine quiet_load_1R (by rfl) _ _ rfl rfl i.kv (fun w0 h => hB.out w0 h 0) _ Try.underlying30 rfl ?_; simp only [World.size_alloc, World.size_drew, Act.put, List.setIfInBounds_toArray, List.set_cons_succ, List.set_cons_zero]) | (refine quiet_load_1R (by rfl) _ _ rfl rfl i.lv (fun w0 h => hB.out w0 h 1) _ Try.underlying79 rfl ?_; simp only [World.size_alloc, World.size_drew, Act.put, List.setIfInBounds_toArray, List.set_cons_succ, List.set_cons_zero]) | (refine quiet_load_1R (by rfl) _ _ rfl rfl i.tv (fun w0 h => hB.out w0 h 2) _ Try.underlying37 rfl ?_; simp only [World.size_alloc, World.size_drew, Act.put, List.setIfInBounds_toArray, List.set_cons_succ, List.set_cons_zero]) | (refine quiet_load_1R (by rfl) _ _ rfl rfl (.bool X.Dead) (fun w0 h => hB.out w0 h 3) _ Try.underlying4 rfl ?_; simp only [World.size_alloc, World.size_drew, Act.put, List.setIfInBounds_toArray, List.set_cons_succ, List.set_cons_zero]) | go_big_quiet_step (fail))
  refine wpQuiet_nil ?_
  refine WD.held [4, 10, 16, 21] (by kernel_rfl) ((Fr.refl [] w).drew) ?_
  simp only [pick, List.toList_toArray, List.map_cons, List.map_nil, List.getD_cons_succ, List.getD_cons_zero]
  repeat (first | (refine quiet_load_1R (by rfl) _ _ rfl rfl i.kv (fun w0 h => hB.out w0 h 0) _ Try.underlying30 rfl ?_; simp only [World.size_alloc, World.size_drew, Act.put, List.setIfInBounds_toArray, List.set_cons_succ, List.set_cons_zero]) | (refine quiet_load_1R (by rfl) _ _ rfl rfl i.lv (fun w0 h => hB.out w0 h 1) _ Try.underlying79 rfl ?_; simp only [World.size_alloc, World.size_drew, Act.put, List.setIfInBounds_toArray, List.set_cons_succ, List.set_cons_zero]) | (refine quiet_load_1R (by rfl) _ _ rfl rfl i.tv (fun w0 h => hB.out w0 h 2) _ Try.underlying37 rfl ?_; simp only [World.size_alloc, World.size_drew, Act.put, List.setIfInBounds_toArray, List.set_cons_succ, List.set_cons_zero]) | (refine quiet_load_1R (by rfl) _ _ rfl rfl (.bool X.Dead) (fun w0 h => hB.out w0 h 3) _ Try.underlying4 rfl ?_; simp only [World.size_alloc, World.size_drew, Act.put, List.setIfInBounds_toArray, List.set_cons_succ, List.set_cons_zero]) | go_big_quiet_step (fail))
  refine wpQuiet_nil ?_
  refine WD.eff3 0 6 12 (by kernel_rfl) ?_ ?_ ?_
  all_goals simp only [pick, List.toList_toArray, List.map_cons, List.map_nil, List.getD_cons_succ, List.getD_cons_zero]
  · skip
    refine after_build 0 0 e0 rfl rfl _ rfl 9 _ 1 Try.underlying30 Hi9.out (by kernel_rfl) ?_
    clear e0
    intro w' b0 e0
    simp only [World.size_alloc, World.size_drew, Act.put, List.setIfInBounds_toArray, List.set_cons_succ, List.set_cons_zero]
    refine WD.eff3 5 6 12 (by kernel_rfl) ?_ ?_ ?_
    all_goals simp only [pick, List.toList_toArray, List.map_cons, List.map_nil, List.getD_cons_succ, List.getD_cons_zero]
    · skip
      refine after_append 0 5 e0 rfl rfl _ _ _ rfl 9 _ _ 16 Try.underlying30 Hi9.out Hz9.out Hs9.out Hb9.out rfl (by decide) rfl rfl HK.out M9.out L9.out.1 L9.out.2 (by kernel_rfl) ?_
      clear e0
      intro w' v0 B0 e0
      simp only [World.size_alloc, World.size_drew, Act.put, List.setIfInBounds_toArray, List.set_cons_succ, List.set_cons_zero]
      refine WD.eff2 6 12 (by kernel_rfl) ?_ ?_
      all_goals simp only [pick, List.toList_toArray, List.map_cons, List.map_nil, List.getD_cons_succ, List.getD_cons_zero]
      · skip
        refine after_build 1 6 e0 rfl rfl _ rfl 91 _ 2 Try.underlying79 Hi91.out (by kernel_rfl) ?_
        clear e0
        intro w' b1 e0
        simp only [World.size_alloc, World.size_drew, Act.put, List.setIfInBounds_toArray, List.set_cons_succ, List.set_cons_zero]
        refine WD.eff2 11 12 (by kernel_rfl) ?_ ?_
        all_goals simp only [pick, List.toList_toArray, List.map_cons, List.map_nil, List.getD_cons_succ, List.getD_cons_zero]
        · skip
          refine after_append 1 11 e0 rfl rfl _ _ _ rfl 91 _ _ 24 Try.underlying79 Hi91.out Hz91.out Hs91.out Hb91.out Hc91.out (by decide) rfl rfl HL.out M91.out L91.out.1 L91.out.2 (by kernel_rfl) ?_
          clear e0
          intro w' v1 B1 e0
          simp only [World.size_alloc, World.size_drew, Act.put, List.setIfInBounds_toArray, List.set_cons_succ, List.set_cons_zero]
          refine WD.eff 12 (by kernel_rfl) ?_
          simp only [pick, List.toList_toArray, List.map_cons, List.map_nil, List.getD_cons_succ, List.getD_cons_zero]
          refine after_build 2 12 e0 rfl rfl _ rfl 3 _ 1 Try.underlying37 Hi3.out (by kernel_rfl) ?_
          clear e0
          intro w' b2 e0
          simp only [World.size_alloc, World.size_drew, Act.put, List.setIfInBounds_toArray, List.set_cons_succ, List.set_cons_zero]
          refine WD.eff 17 (by kernel_rfl) ?_
          simp only [pick, List.toList_toArray, List.map_cons, List.map_nil, List.getD_cons_succ, List.getD_cons_zero]
          refine after_append 2 17 e0 rfl rfl _ _ _ rfl 3 _ _ 8 Try.underlying37 Hi3.out Hz3.out Hs3.out Hb3.out rfl (by decide) rfl rfl HT.out M3.out L3.out.1 L3.out.2 (by kernel_rfl) ?_
          clear e0
          intro w' v2 B2 e0
          simp only [World.size_alloc, World.size_drew, Act.put, List.setIfInBounds_toArray, List.set_cons_succ, List.set_cons_zero]
          obtain ⟨q0, c0, rfl⟩ := (e0.held.ownAt 0 rfl : Xr.Own w' 1 v0 X.Kept.length (X.Kept.map .string) B0).isSlice
          obtain ⟨q1, c1, rfl⟩ := (e0.held.ownAt 1 rfl : Xr.Own w' 2 v1 X.L.length (xlc X.L) B1).isSlice
          obtain ⟨q2, c2, rfl⟩ := (e0.held.ownAt 2 rfl : Xr.Own w' 1 v2 X.Trace.length (X.Trace.map (.int .i64)) B2).isSlice
          refine WD.pure [22] (by kernel_rfl) e0.fr ?_
          simp only [pick, List.toList_toArray, List.map_cons, List.map_nil, List.getD_cons_succ, List.getD_cons_zero]
          repeat (go_big_quiet_step (fail))
          refine wpQuiet_nil ?_
          refine WD.eff 23 (by kernel_rfl) ?_
          simp only [pick, List.toList_toArray, List.map_cons, List.map_nil, List.getD_cons_succ, List.getD_cons_zero]
          refine wpList_box rfl _ _ rfl [.slice q0 X.Kept.length c0, .slice q1 X.L.length c1, .slice q2 X.Trace.length c2, .bool X.Dead, .pointer none] rfl ?_
          intro w5 f5 _ b5
          refine wpList_nil ?_
          refine AfterD.on (e0.fr.trans' f5) (by kernel_rfl) ?_
          simp only [World.size_alloc, World.size_drew, Act.put, List.setIfInBounds_toArray, List.set_cons_succ, List.set_cons_zero]
          refine WD.pure [24] (by kernel_rfl) (e0.fr.trans' f5) ?_
          simp only [pick, List.toList_toArray, List.map_cons, List.map_nil, List.getD_cons_succ, List.getD_cons_zero]
          repeat (go_big_quiet_step (fail))
          refine wpQuiet_nil ?_
          refine WD.done (by kernel_rfl) ?_
          go_wp2_with fail
          go_ret
          exact ⟨_, ⟨_, _, _, B0, B1, B2⟩, rfl, e0.new f5 (Res.On.blk b5) (fun b hb => by simp [Res.blk] at hb; omega)⟩
        · skip
          refine after_build 2 12 e0 rfl rfl _ rfl 3 _ 1 Try.underlying37 Hi3.out (by kernel_rfl) ?_
          clear e0
          intro w' b2 e0
          simp only [World.size_alloc, World.size_drew, Act.put, List.setIfInBounds_toArray, List.set_cons_succ, List.set_cons_zero]
          refine WD.eff 11 (by kernel_rfl) ?_
          simp only [pick, List.toList_toArray, List.map_cons, List.map_nil, List.getD_cons_succ, List.getD_cons_zero]
          refine after_append 1 11 e0 rfl rfl _ _ _ rfl 91 _ _ 24 Try.underlying79 Hi91.out Hz91.out Hs91.out Hb91.out Hc91.out (by decide) rfl rfl HL.out M91.out L91.out.1 L91.out.2 (by kernel_rfl) ?_
          clear e0
          intro w' v1 B1 e0
          simp only [World.size_alloc, World.size_drew, Act.put, List.setIfInBounds_toArray, List.set_cons_succ, List.set_cons_zero]
          refine WD.eff 17 (by kernel_rfl) ?_
          simp only [pick, List.toList_toArray, List.map_cons, List.map_nil, List.getD_cons_succ, List.getD_cons_zero]
          refine after_append 2 17 e0 rfl rfl _ _ _ rfl 3 _ _ 8 Try.underlying37 Hi3.out Hz3.out Hs3.out Hb3.out rfl (by decide) rfl rfl HT.out M3.out L3.out.1 L3.out.2 (by kernel_rfl) ?_
          clear e0
          intro w' v2 B2 e0
          simp only [World.size_alloc, World.size_drew, Act.put, List.setIfInBounds_toArray, List.set_cons_succ, List.set_cons_zero]
          obtain ⟨q0, c0, rfl⟩ := (e0.held.ownAt 0 rfl : Xr.Own w' 1 v0 X.Kept.length (X.Kept.map .string) B0).isSlice
          obtain ⟨q1, c1, rfl⟩ := (e0.held.ownAt 1 rfl : Xr.Own w' 2 v1 X.L.length (xlc X.L) B1).isSlice
          obtain ⟨q2, c2, rfl⟩ := (e0.held.ownAt 2 rfl : Xr.Own w' 1 v2 X.Trace.length (X.Trace.map (.int .i64)) B2).isSlice
          refine WD.pure [22] (by kernel_rfl) e0.fr ?_
          simp only [pick, List.toList_toArray, List.map_cons, List.map_nil, List.getD_cons_succ, List.getD_cons_zero]
          repeat (go_big_quiet_step (fail))
          refine wpQuiet_nil ?_
          refine WD.eff 23 (by kernel_rfl) ?_
          simp only [pick, List.toList_toArray, List.map_cons, List.map_nil, List.getD_cons_succ, List.getD_cons_zero]
          refine wpList_box rfl _ _ rfl [.slice q0 X.Kept.length c0, .slice q1 X.L.length c1, .slice q2 X.Trace.length c2, .bool X.Dead, .pointer none] rfl ?_
          intro w5 f5 _ b5
          refine wpList_nil ?_
          refine AfterD.on (e0.fr.trans' f5) (by kernel_rfl) ?_
          simp only [World.size_alloc, World.size_drew, Act.put, List.setIfInBounds_toArray, List.set_cons_succ, List.set_cons_zero]
          refine WD.pure [24] (by kernel_rfl) (e0.fr.trans' f5) ?_
          simp only [pick, List.toList_toArray, List.map_cons, List.map_nil, List.getD_cons_succ, List.getD_cons_zero]
          repeat (go_big_quiet_step (fail))
          refine wpQuiet_nil ?_
          refine WD.done (by kernel_rfl) ?_
          go_wp2_with fail
          go_ret
          exact ⟨_, ⟨_, _, _, B0, B1, B2⟩, rfl, e0.new f5 (Res.On.blk b5) (fun b hb => by simp [Res.blk] at hb; omega)⟩
      · skip
        refine after_build 2 12 e0 rfl rfl _ rfl 3 _ 1 Try.underlying37 Hi3.out (by kernel_rfl) ?_
        clear e0
        intro w' b2 e0
        simp only [World.size_alloc, World.size_drew, Act.put, List.setIfInBounds_toArray, List.set_cons_succ, List.set_cons_zero]
        refine WD.eff 6 (by kernel_rfl) ?_
        simp only [pick, List.toList_toArray, List.map_cons, List.map_nil, List.getD_cons_succ, List.getD_cons_zero]
        refine after_build 1 6 e0 rfl rfl _ rfl 91 _ 2 Try.underlying79 Hi91.out (by kernel_rfl) ?_
        clear e0
        intro w' b1 e0
        simp only [World.size_alloc, World.size_drew, Act.put, List.setIfInBounds_toArray, List.set_cons_succ, List.set_cons_zero]
        refine WD.eff 11 (by kernel_rfl) ?_
        simp only [pick, List.toList_toArray, List.map_cons, List.map_nil, List.getD_cons_succ, List.getD_cons_zero]
        refine after_append 1 11 e0 rfl rfl _ _ _ rfl 91 _ _ 24 Try.underlying79 Hi91.out Hz91.out Hs91.out Hb91.out Hc91.out (by decide) rfl rfl HL.out M91.out L91.out.1 L91.out.2 (by kernel_rfl) ?_
        clear e0
        intro w' v1 B1 e0
        simp only [World.size_alloc, World.size_drew, Act.put, List.setIfInBounds_toArray, List.set_cons_succ, List.set_cons_zero]
        refine WD.eff 17 (by kernel_rfl) ?_
        simp only [pick, List.toList_toArray, List.map_cons, List.map_nil, List.getD_cons_succ, List.getD_cons_zero]
        refine after_append 2 17 e0 rfl rfl _ _ _ rfl 3 _ _ 8 Try.underlying37 Hi3.out Hz3.out Hs3.out Hb3.out rfl (by decide) rfl rfl HT.out M3.out L3.out.1 L3.out.2 (by kernel_rfl) ?_
        clear e0
        intro w' v2 B2 e0
        simp only [World.size_alloc, World.size_drew, Act.put, List.setIfInBounds_toArray, List.set_cons_succ, List.set_cons_zero]
        obtain ⟨q0, c0, rfl⟩ := (e0.held.ownAt 0 rfl : Xr.Own w' 1 v0 X.Kept.length (X.Kept.map .string) B0).isSlice
        obtain ⟨q1, c1, rfl⟩ := (e0.held.ownAt 1 rfl : Xr.Own w' 2 v1 X.L.length (xlc X.L) B1).isSlice
        obtain ⟨q2, c2, rfl⟩ := (e0.held.ownAt 2 rfl : Xr.Own w' 1 v2 X.Trace.length (X.Trace.map (.int .i64)) B2).isSlice
        refine WD.pure [22] (by kernel_rfl) e0.fr ?_
        simp only [pick, List.toList_toArray, List.map_cons, List.map_nil, List.getD_cons_succ, List.getD_cons_zero]
        repeat (go_big_quiet_step (fail))
        refine wpQuiet_nil ?_
        refine WD.eff 23 (by kernel_rfl) ?_
        simp only [pick, List.toList_toArray, List.map_cons, List.map_nil, List.getD_cons_succ, List.getD_cons_zero]
        refine wpList_box rfl _ _ rfl [.slice q0 X.Kept.length c0, .slice q1 X.L.length c1, .slice q2 X.Trace.length c2, .bool X.Dead, .pointer none] rfl ?_
        intro w5 f5 _ b5
        refine wpList_nil ?_
        refine AfterD.on (e0.fr.trans' f5) (by kernel_rfl) ?_
        simp only [World.size_alloc, World.size_drew, Act.put, List.setIfInBounds_toArray, List.set_cons_succ, List.set_cons_zero]
        refine WD.pure [24] (by kernel_rfl) (e0.fr.trans' f5) ?_
        simp only [pick, List.toList_toArray, List.map_cons, List.map_nil, List.getD_cons_succ, List.getD_cons_zero]
        repeat (go_big_quiet_step (fail))
        refine wpQuiet_nil ?_
        refine WD.done (by kernel_rfl) ?_
        go_wp2_with fail
        go_ret
        exact ⟨_, ⟨_, _, _, B0, B1, B2⟩, rfl, e0.new f5 (Res.On.blk b5) (fun b hb => by simp [Res.blk] at hb; omega)⟩
    · skip
      refine after_build 1 6 e0 rfl rfl _ rfl 91 _ 2 Try.underlying79 Hi91.out (by kernel_rfl) ?_
      clear e0
      intro w' b1 e0
      simp only [World.size_alloc, World.size_drew, Act.put, List.setIfInBounds_toArray, List.set_cons_succ, List.set_cons_zero]
      refine WD.eff2 5 12 (by kernel_rfl) ?_ ?_
      all_goals simp only [pick, List.toList_toArray, List.map_cons, List.map_nil, List.getD_cons_succ, List.getD_cons_zero]
      · skip
        refine after_append 0 5 e0 rfl rfl _ _ _ rfl 9 _ _ 16 Try.underlying30 Hi9.out Hz9.out Hs9.out Hb9.out rfl (by decide) rfl rfl HK.out M9.out L9.out.1 L9.out.2 (by kernel_rfl) ?_
        clear e0
        intro w' v0 B0 e0
        simp only [World.size_alloc, World.size_drew, Act.put, List.setIfInBounds_toArray, List.set_cons_succ, List.set_cons_zero]
        refine WD.eff2 11 12 (by kernel_rfl) ?_ ?_
        all_goals simp only [pick, List.toList_toArray, List.map_cons, List.map_nil, List.getD_cons_succ, List.getD_cons_zero]
        · skip
          refine after_append 1 11 e0 rfl rfl _ _ _ rfl 91 _ _ 24 Try.underlying79 Hi91.out Hz91.out Hs91.out Hb91.out Hc91.out (by decide) rfl rfl HL.out M91.out L91.out.1 L91.out.2 (by kernel_rfl) ?_
          clear e0
          intro w' v1 B1 e0
          simp only [World.size_alloc, World.size_drew, Act.put, List.setIfInBounds_toArray, List.set_cons_succ, List.set_cons_zero]
          refine WD.eff 12 (by kernel_rfl) ?_
          simp only [pick, List.toList_toArray, List.map_cons, List.map_nil, List.getD_cons_succ, List.getD_cons_zero]
          refine after_build 2 12 e0 rfl rfl _ rfl 3 _ 1 Try.underlying37 Hi3.out (by kernel_rfl) ?_
          clear e0
          intro w' b2 e0
          simp only [World.size_alloc, World.size_drew, Act.put, List.setIfInBounds_toArray, List.set_cons_succ, List.set_cons_zero]
          refine WD.eff 17 (by kernel_rfl) ?_
          simp only [pick, List.toList_toArray, List.map_cons, List.map_nil, List.getD_cons_succ, List.getD_cons_zero]
          refine after_append 2 17 e0 rfl rfl _ _ _ rfl 3 _ _ 8 Try.underlying37 Hi3.out Hz3.out Hs3.out Hb3.out rfl (by decide) rfl rfl HT.out M3.out L3.out.1 L3.out.2 (by kernel_rfl) ?_
          clear e0
          intro w' v2 B2 e0
          simp only [World.size_alloc, World.size_drew, Act.put, List.setIfInBounds_toArray, List.set_cons_succ, List.set_cons_zero]
          obtain ⟨q0, c0, rfl⟩ := (e0.held.ownAt 0 rfl : Xr.Own w' 1 v0 X.Kept.length (X.Kept.map .string) B0).isSlice
          obtain ⟨q1, c1, rfl⟩ := (e0.held.ownAt 1 rfl : Xr.Own w' 2 v1 X.L.length (xlc X.L) B1).isSlice
          obtain ⟨q2, c2, rfl⟩ := (e0.held.ownAt 2 rfl : Xr.Own w' 1 v2 X.Trace.length (X.Trace.map (.int .i64)) B2).isSlice
          refine WD.pure [22] (by kernel_rfl) e0.fr ?_
          simp only [pick, List.toList_toArray, List.map_cons, List.map_nil, List.getD_cons_succ, List.getD_cons_zero]
          repeat (go_big_quiet_step (fail))
          refine wpQuiet_nil ?_
          refine WD.eff 23 (by kernel_rfl) ?_
          simp only [pick, List.toList_toArray, List.map_cons, List.map_nil, List.getD_cons_succ, List.getD_cons_zero]
          refine wpList_box rfl _ _ rfl [.slice q0 X.Kept.length c0, .slice q1 X.L.length c1, .slice q2 X.Trace.length c2, .bool X.Dead, .pointer none] rfl ?_
          intro w5 f5 _ b5
          refine wpList_nil ?_
          refine AfterD.on (e0.fr.trans' f5) (by kernel_rfl) ?_
          simp only [World.size_alloc, World.size_drew, Act.put, List.setIfInBounds_toArray, List.set_cons_succ, List.set_cons_zero]
          refine WD.pure [24] (by kernel_rfl) (e0.fr.trans' f5) ?_
          simp only [pick, List.toList_toArray, List.map_cons, List.map_nil, List.getD_cons_succ, List.getD_cons_zero]
          repeat (go_big_quiet_step (fail))
          refine wpQuiet_nil ?_
          refine WD.done (by kernel_rfl) ?_
          go_wp2_with fail
          go_ret
          exact ⟨_, ⟨_, _, _, B0, B1, B2⟩, rfl, e0.new f5 (Res.On.blk b5) (fun b hb => by simp [Res.blk] at hb; omega)⟩
        · skip
          refine after_build 2 12 e0 rfl rfl _ rfl 3 _ 1 Try.underlying37 Hi3.out (by kernel_rfl) ?_
          clear e0
          intro w' b2 e0
          simp only [World.size_alloc, World.size_drew, Act.put, List.setIfInBounds_toArray, List.set_cons_succ, List.set_cons_zero]
          refine WD.eff 11 (by kernel_rfl) ?_
          simp only [pick, List.toList_toArray, List.map_cons, List.map_nil, List.getD_cons_succ, List.getD_cons_zero]
          refine after_append 1 11 e0 rfl rfl _ _ _ rfl 91 _ _ 24 Try.underlying79 Hi91.out Hz91.out Hs91.out Hb91.out Hc91.out (by decide) rfl rfl HL.out M91.out L91.out.1 L91.out.2 (by kernel_rfl) ?_
          clear e0
          intro w' v1 B1 e0
          simp only [World.size_alloc, World.size_drew, Act.put, List.setIfInBounds_toArray, List.set_cons_succ, List.set_cons_zero]
          refine WD.eff 17 (by kernel_rfl) ?_
          simp only [pick, List.toList_toArray, List.map_cons, List.map_nil, List.getD_cons_succ, List.getD_cons_zero]
          refine after_append 2 17 e0 rfl rfl _ _ _ rfl 3 _ _ 8 Try.underlying37 Hi3.out Hz3.out Hs3.out Hb3.out rfl (by decide) rfl rfl HT.out M3.out L3.out.1 L3.out.2 (by kernel_rfl) ?_
          clear e0
          intro w' v2 B2 e0
          simp only [World.size_alloc, World.size_drew, Act.put, List.setIfInBounds_toArray, List.set_cons_succ, List.set_cons_zero]
          obtain ⟨q0, c0, rfl⟩ := (e0.held.ownAt 0 rfl : Xr.Own w' 1 v0 X.Kept.length (X.Kept.map .string) B0).isSlice
          obtain ⟨q1, c1, rfl⟩ := (e0.held.ownAt 1 rfl : Xr.Own w' 2 v1 X.L.length (xlc X.L) B1).isSlice
          obtain ⟨q2, c2, rfl⟩ := (e0.held.ownAt 2 rfl : Xr.Own w' 1 v2 X.Trace.length (X.Trace.map (.int .i64)) B2).isSlice
          refine WD.pure [22] (by kernel_rfl) e0.fr ?_
          simp only [pick, List.toList_toArray, List.map_cons, List.map_nil, List.getD_cons_succ, List.getD_cons_zero]
          repeat (go_big_quiet_step (fail))
          refine wpQuiet_nil ?_
          refine WD.eff 23 (by kernel_rfl) ?_
          simp only [pick, List.toList_toArray, List.map_cons, List.map_nil, List.getD_cons_succ, List.getD_cons_zero]
          refine wpList_box rfl _ _ rfl [.slice q0 X.Kept.length c0, .slice q1 X.L.length c1, .slice q2 X.Trace.length c2, .bool X.Dead, .pointer none] rfl ?_
          intro w5 f5 _ b5
          refine wpList_nil ?_
          refine AfterD.on (e0.fr.trans' f5) (by kernel_rfl) ?_
          simp only [World.size_alloc, World.size_drew, Act.put, List.setIfInBounds_toArray, List.set_cons_succ, List.set_cons_zero]
          refine WD.pure [24] (by kernel_rfl) (e0.fr.trans' f5) ?_
          simp only [pick, List.toList_toArray, List.map_cons, List.map_nil, List.getD_cons_succ, List.getD_cons_zero]
          repeat (go_big_quiet_step (fail))
          refine wpQuiet_nil ?_
          refine WD.done (by kernel_rfl) ?_
          go_wp2_with fail
          go_ret
          exact ⟨_, ⟨_, _, _, B0, B1, B2⟩, rfl, e0.new f5 (Res.On.blk b5) (fun b hb => by simp [Res.blk] at hb; omega)⟩
      · skip
        refine after_build 2 12 e0 rfl rfl _ rfl 3 _ 1 Try.underlying37 Hi3.out (by kernel_rfl) ?_
        clear e0
        intro w' b2 e0
        simp only [World.size_alloc, World.size_drew, Act.put, List.setIfInBounds_toArray, List.set_cons_succ, List.set_cons_zero]
        refine WD.eff 5 (by kernel_rfl) ?_
        simp only [pick, List.toList_toArray, List.map_cons, List.map_nil, List.getD_cons_succ, List.getD_cons_zero]
        refine after_append 0 5 e0 rfl rfl _ _ _ rfl 9 _ _ 16 Try.underlying30 Hi9.out Hz9.out Hs9.out Hb9.out rfl (by decide) rfl rfl HK.out M9.out L9.out.1 L9.out.2 (by kernel_rfl) ?_
        clear e0
        intro w' v0 B0 e0
        simp only [World.size_alloc, World.size_drew, Act.put, List.setIfInBounds_toArray, List.set_cons_succ, List.set_cons_zero]
        refine WD.eff 11 (by kernel_rfl) ?_
        simp only [pick, List.toList_toArray, List.map_cons, List.map_nil, List.getD_cons_succ, List.getD_cons_zero]
        refine after_append 1 11 e0 rfl rfl _ _ _ rfl 91 _ _ 24 Try.underlying79 Hi91.out Hz91.out Hs91.out Hb91.out Hc91.out (by decide) rfl rfl HL.out M91.out L91.out.1 L91.out.2 (by kernel_rfl) ?_
        clear e0
        intro w' v1 B1 e0
        simp only [World.size_alloc, World.size_drew, Act.put, List.setIfInBounds_toArray, List.set_cons_succ, List.set_cons_zero]
        refine WD.eff 17 (by kernel_rfl) ?_
        simp only [pick, List.toList_toArray, List.map_cons, List.map_nil, List.getD_cons_succ, List.getD_cons_zero]
        refine after_append 2 17 e0 rfl rfl _ _ _ rfl 3 _ _ 8 Try.underlying37 Hi3.out Hz3.out Hs3.out Hb3.out rfl (by decide) rfl rfl HT.out M3.out L3.out.1 L3.out.2 (by kernel_rfl) ?_
        clear e0
        intro w' v2 B2 e0
        simp only [World.size_alloc, World.size_drew, Act.put, List.setIfInBounds_toArray, List.set_cons_succ, List.set_cons_zero]
        obtain ⟨q0, c0, rfl⟩ := (e0.held.ownAt 0 rfl : Xr.Own w' 1 v0 X.Kept.length (X.Kept.map .string) B0).isSlice
        obtain ⟨q1, c1, rfl⟩ := (e0.held.ownAt 1 rfl : Xr.Own w' 2 v1 X.L.length (xlc X.L) B1).isSlice
        obtain ⟨q2, c2, rfl⟩ := (e0.held.ownAt 2 rfl : Xr.Own w' 1 v2 X.Trace.length (X.Trace.map (.int .i64)) B2).isSlice
        refine WD.pure [22] (by kernel_rfl) e0.fr ?_
        simp only [pick, List.toList_toArray, List.map_cons, List.map_nil, List.getD_cons_succ, List.getD_cons_zero]
        repeat (go_big_quiet_step (fail))
        refine wpQuiet_nil ?_
        refine WD.eff 23 (by kernel_rfl) ?_
        simp only [pick, List.toList_toArray, List.map_cons, List.map_nil, List.getD_cons_succ, List.getD_cons_zero]
        refine wpList_box rfl _ _ rfl [.slice q0 X.Kept.length c0, .slice q1 X.L.length c1, .slice q2 X.Trace.length c2, .bool X.Dead, .pointer none] rfl ?_
        intro w5 f5 _ b5
        refine wpList_nil ?_
        refine AfterD.on (e0.fr.trans' f5) (by kernel_rfl) ?_
        simp only [World.size_alloc, World.size_drew, Act.put, List.setIfInBounds_toArray, List.set_cons_succ, List.set_cons_zero]
        refine WD.pure [24] (by kernel_rfl) (e0.fr.trans' f5) ?_
        simp only [pick, List.toList_toArray, List.map_cons, List.map_nil, List.getD_cons_succ, List.getD_cons_zero]
        repeat (go_big_quiet_step (fail))
        refine wpQuiet_nil ?_
        refine WD.done (by kernel_rfl) ?_
        go_wp2_with fail
        go_ret
        exact ⟨_, ⟨_, _, _, B0, B1, B2⟩, rfl, e0.new f5 (Res.On.blk b5) (fun b hb => by simp [Res.blk] at hb; omega)⟩
    · skip
      refine after_build 2 12 e0 rfl rfl _ rfl 3 _ 1 Try.underlying37 Hi3.out (by kernel_rfl) ?_
      clear e0
      intro w' b2 e0
      simp only [World.size_alloc, World.size_drew, Act.put, List.setIfInBounds_toArray, List.set_cons_succ, List.set_cons_zero]
      refine WD.eff2 5 6 (by kernel_rfl) ?_ ?_
      all_goals simp only [pick, List.toList_toArray, List.map_cons, List.map_nil, List.getD_cons_succ, List.getD_cons_zero]
      · skip
        refine after_append 0 5 e0 rfl rfl _ _ _ rfl 9 _ _ 16 Try.underlying30 Hi9.out Hz9.out Hs9.out Hb9.out rfl (by decide) rfl rfl HK.out M9.out L9.out.1 L9.out.2 (by kernel_rfl) ?_
        clear e0
        intro w' v0 B0 e0
        simp only [World.size_alloc, World.size_drew, Act.put, List.setIfInBounds_toArray, List.set_cons_succ, List.set_cons_zero]
        refine WD.eff 6 (by kernel_rfl) ?_
        simp only [pick, List.toList_toArray, List.map_cons, List.map_nil, List.getD_cons_succ, List.getD_cons_zero]
        refine after_build 1 6 e0 rfl rfl _ rfl 91 _ 2 Try.underlying79 Hi91.out (by kernel_rfl) ?_
        clear e0
        intro w' b1 e0
        simp only [World.size_alloc, World.size_drew, Act.put, List.setIfInBounds_toArray, List.set_cons_succ, List.set_cons_zero]
        refine WD.eff 11 (by kernel_rfl) ?_
        simp only [pick, List.toList_toArray, List.map_cons, List.map_nil, List.getD_cons_succ, List.getD_cons_zero]
        refine after_append 1 11 e0 rfl rfl _ _ _ rfl 91 _ _ 24 Try.underlying79 Hi91.out Hz91.out Hs91.out Hb91.out Hc91.out (by decide) rfl rfl HL.out M91.out L91.out.1 L91.out.2 (by kernel_rfl) ?_
        clear e0
        intro w' v1 B1 e0
        simp only [World.size_alloc, World.size_drew, Act.put, List.setIfInBounds_toArray, List.set_cons_succ, List.set_cons_zero]
        refine WD.eff 17 (by kernel_rfl) ?_
        simp only [pick, List.toList_toArray, List.map_cons, List.map_nil, List.getD_cons_succ, List.getD_cons_zero]
        refine after_append 2 17 e0 rfl rfl _ _ _ rfl 3 _ _ 8 Try.underlying37 Hi3.out Hz3.out Hs3.out Hb3.out rfl (by decide) rfl rfl HT.out M3.out L3.out.1 L3.out.2 (by kernel_rfl) ?_
        clear e0
        intro w' v2 B2 e0
        simp only [World.size_alloc, World.size_drew, Act.put, List.setIfInBounds_toArray, List.set_cons_succ, List.set_cons_zero]
        obtain ⟨q0, c0, rfl⟩ := (e0.held.ownAt 0 rfl : Xr.Own w' 1 v0 X.Kept.length (X.Kept.map .string) B0).isSlice
        obtain ⟨q1, c1, rfl⟩ := (e0.held.ownAt 1 rfl : Xr.Own w' 2 v1 X.L.length (xlc X.L) B1).isSlice
        obtain ⟨q2, c2, rfl⟩ := (e0.held.ownAt 2 rfl : Xr.Own w' 1 v2 X.Trace.length (X.Trace.map (.int .i64)) B2).isSlice
        refine WD.pure [22] (by kernel_rfl) e0.fr ?_
        simp only [pick, List.toList_toArray, List.map_cons, List.map_nil, List.getD_cons_succ, List.getD_cons_zero]
        repeat (go_big_quiet_step (fail))
        refine wpQuiet_nil ?_
        refine WD.eff 23 (by kernel_rfl) ?_
        simp only [pick, List.toList_toArray, List.map_cons, List.map_nil, List.getD_cons_succ, List.getD_cons_zero]
        refine wpList_box rfl _ _ rfl [.slice q0 X.Kept.length c0, .slice q1 X.L.length c1, .slice q2 X.Trace.length c2, .bool X.Dead, .pointer none] rfl ?_
        intro w5 f5 _ b5
        refine wpList_nil ?_
        refine AfterD.on (e0.fr.trans' f5) (by kernel_rfl) ?_
        simp only [World.size_alloc, World.size_drew, Act.put, List.setIfInBounds_toArray, List.set_cons_succ, List.set_cons_zero]
        refine WD.pure [24] (by kernel_rfl) (e0.fr.trans' f5) ?_
        simp only [pick, List.toList_toArray, List.map_cons, List.map_nil, List.getD_cons_succ, List.getD_cons_zero]
        repeat (go_big_quiet_step (fail))
        refine wpQuiet_nil ?_
        refine WD.done (by kernel_rfl) ?_
        go_wp2_with fail
        go_ret
        exact ⟨_, ⟨_, _, _, B0, B1, B2⟩, rfl, e0.new f5 (Res.On.blk b5) (fun b hb => by simp [Res.blk] at hb; omega)⟩
      · skip
        refine after_build 1 6 e0 rfl rfl _ rfl 91 _ 2 Try.underlying79 Hi91.out (by kernel_rfl) ?_
        clear e0
        intro w' b1 e0
        simp only [World.size_alloc, World.size_drew, Act.put, List.setIfInBounds_toArray, List.set_cons_succ, List.set_cons_zero]
        refine WD.eff 5 (by kernel_rfl) ?_
        simp only [pick, List.toList_toArray, List.map_cons, List.map_nil, List.getD_cons_succ, List.getD_cons_zero]
        refine after_append 0 5 e0 rfl rfl _ _ _ rfl 9 _ _ 16 Try.underlying30 Hi9.out Hz9.out Hs9.out Hb9.out rfl (by decide) rfl rfl HK.out M9.out L9.out.1 L9.out.2 (by kernel_rfl) ?_
        clear e0
        intro w' v0 B0 e0
        simp only [World.size_alloc, World.size_drew, Act.put, List.setIfInBounds_toArray, List.set_cons_succ, List.set_cons_zero]
        refine WD.eff 11 (by kernel_rfl) ?_
        simp only [pick, List.toList_toArray, List.map_cons, List.map_nil, List.getD_cons_succ, List.getD_cons_zero]
        refine after_append 1 11 e0 rfl rfl _ _ _ rfl 91 _ _ 24 Try.underlying79 Hi91.out Hz91.out Hs91.out Hb91.out Hc91.out (by decide) rfl rfl HL.out M91.out L91.out.1 L91.out.2 (by kernel_rfl) ?_
        clear e0
        intro w' v1 B1 e0
        simp only [World.size_alloc, World.size_drew, Act.put, List.setIfInBounds_toArray, List.set_cons_succ, List.set_cons_zero]
        refine WD.eff 17 (by kernel_rfl) ?_
        simp only [pick, List.toList_toArray, List.map_cons, List.map_nil, List.getD_cons_succ, List.getD_cons_zero]
        refine after_append 2 17 e0 rfl rfl _ _ _ rfl 3 _ _ 8 Try.underlying37 Hi3.out Hz3.out Hs3.out Hb3.out rfl (by decide) rfl rfl HT.out M3.out L3.out.1 L3.out.2 (by kernel_rfl) ?_
        clear e0
        intro w' v2 B2 e0
        simp only [World.size_alloc, World.size_drew, Act.put, List.setIfInBounds_toArray, List.set_cons_succ, List.set_cons_zero]
        obtain ⟨q0, c0, rfl⟩ := (e0.held.ownAt 0 rfl : Xr.Own w' 1 v0 X.Kept.length (X.Kept.map .string) B0).isSlice
        obtain ⟨q1, c1, rfl⟩ := (e0.held.ownAt 1 rfl : Xr.Own w' 2 v1 X.L.length (xlc X.L) B1).isSlice
        obtain ⟨q2, c2, rfl⟩ := (e0.held.ownAt 2 rfl : Xr.Own w' 1 v2 X.Trace.length (X.Trace.map (.int .i64)) B2).isSlice
        refine WD.pure [22] (by kernel_rfl) e0.fr ?_
        simp only [pick, List.toList_toArray, List.map_cons, List.map_nil, List.getD_cons_succ, List.getD_cons_zero]
        repeat (go_big_quiet_step (fail))
        refine wpQuiet_nil ?_
        refine WD.eff 23 (by kernel_rfl) ?_
        simp only [pick, List.toList_toArray, List.map_cons, List.map_nil, List.getD_cons_succ, List.getD_cons_zero]
        refine wpList_box rfl _ _ rfl [.slice q0 X.Kept.length c0, .slice q1 X.L.length c1, .slice q2 X.Trace.length c2, .bool X.Dead, .pointer none] rfl ?_
        intro w5 f5 _ b5
        refine wpList_nil ?_
        refine AfterD.on (e0.fr.trans' f5) (by kernel_rfl) ?_
        simp only [World.size_alloc, World.size_drew, Act.put, List.setIfInBounds_toArray, List.set_cons_succ, List.set_cons_zero]
        refine WD.pure [24] (by kernel_rfl) (e0.fr.trans' f5) ?_
        simp only [pick, List.toList_toArray, List.map_cons, List.map_nil, List.getD_cons_succ, List.getD_cons_zero]
        repeat (go_big_quiet_step (fail))
        refine wpQuiet_nil ?_
        refine WD.done (by kernel_rfl) ?_
        go_wp2_with fail
        go_ret
        exact ⟨_, ⟨_, _, _, B0, B1, B2⟩, rfl, e0.new f5 (Res.On.blk b5) (fun b hb => by simp [Res.blk] at hb; omega)⟩
  · skip
    refine after_build 1 6 e0 rfl rfl _ rfl 91 _ 2 Try.underlying79 Hi91.out (by kernel_rfl) ?_
    clear e0
    intro w' b1 e0
    simp only [World.size_alloc, World.size_drew, Act.put, List.setIfInBounds_toArray, List.set_cons_succ, List.set_cons_zero]
    refine WD.eff2 0 12 (by kernel_rfl) ?_ ?_
    all_goals simp only [pick, List.toList_toArray, List.map_cons, List.map_nil, List.getD_cons_succ, List.getD_cons_zero]
    · skip
      refine after_build 0 0 e0 rfl rfl _ rfl 9 _ 1 Try.underlying30 Hi9.out (by kernel_rfl) ?_
      clear e0
      intro w' b0 e0
      simp only [World.size_alloc, World.size_drew, Act.put, List.setIfInBounds_toArray, List.set_cons_succ, List.set_cons_zero]
      refine WD.eff2 5 12 (by kernel_rfl) ?_ ?_
      all_goals simp only [pick, List.toList_toArray, List.map_cons, List.map_nil, List.getD_cons_succ, List.getD_cons_zero]
      · skip
        refine after_append 0 5 e0 rfl rfl _ _ _ rfl 9 _ _ 16 Try.underlying30 Hi9.out Hz9.out Hs9.out Hb9.out rfl (by decide) rfl rfl HK.out M9.out L9.out.1 L9.out.2 (by kernel_rfl) ?_
        clear e0
        intro w' v0 B0 e0
        simp only [World.size_alloc, World.size_drew, Act.put, List.setIfInBounds_toArray, List.set_cons_succ, List.set_cons_zero]
        refine WD.eff2 11 12 (by kernel_rfl) ?_ ?_
        all_goals simp only [pick, List.toList_toArray, List.map_cons, List.map_nil, List.getD_cons_succ, List.getD_cons_zero]
        · skip
          refine after_append 1 11 e0 rfl rfl _ _ _ rfl 91 _ _ 24 Try.underlying79 Hi91.out Hz91.out Hs91.out Hb91.out Hc91.out (by decide) rfl rfl HL.out M91.out L91.out.1 L91.out.2 (by kernel_rfl) ?_
          clear e0
          intro w' v1 B1 e0
          simp only [World.size_alloc, World.size_drew, Act.put, List.setIfInBounds_toArray, List.set_cons_succ, List.set_cons_zero]
          refine WD.eff 12 (by kernel_rfl) ?_
          simp only [pick, List.toList_toArray, List.map_cons, List.map_nil, List.getD_cons_succ, List.getD_cons_zero]
          refine after_build 2 12 e0 rfl rfl _ rfl 3 _ 1 Try.underlying37 Hi3.out (by kernel_rfl) ?_
          clear e0
          intro w' b2 e0
          simp only [World.size_alloc, World.size_drew, Act.put, List.setIfInBounds_toArray, List.set_cons_succ, List.set_cons_zero]
          refine WD.eff 17 (by kernel_rfl) ?_
          simp only [pick, List.toList_toArray, List.map_cons, List.map_nil, List.getD_cons_succ, List.getD_cons_zero]
          refine after_append 2 17 e0 rfl rfl _ _ _ rfl 3 _ _ 8 Try.underlying37 Hi3.out Hz3.out Hs3.out Hb3.out rfl (by decide) rfl rfl HT.out M3.out L3.out.1 L3.out.2 (by kernel_rfl) ?_
          clear e0
          intro w' v2 B2 e0
          simp only [World.size_alloc, World.size_drew, Act.put, List.setIfInBounds_toArray, List.set_cons_succ, List.set_cons_zero]
          obtain ⟨q0, c0, rfl⟩ := (e0.held.ownAt 0 rfl : Xr.Own w' 1 v0 X.Kept.length (X.Kept.map .string) B0).isSlice
          obtain ⟨q1, c1, rfl⟩ := (e0.held.ownAt 1 rfl : Xr.Own w' 2 v1 X.L.length (xlc X.L) B1).isSlice
          obtain ⟨q2, c2, rfl⟩ := (e0.held.ownAt 2 rfl : Xr.Own w' 1 v2 X.Trace.length (X.Trace.map (.int .i64)) B2).isSlice
          refine WD.pure [22] (by kernel_rfl) e0.fr ?_
          simp only [pick, List.toList_toArray, List.map_cons, List.map_nil, List.getD_cons_succ, List.getD_cons_zero]
          repeat (go_big_quiet_step (fail))
          refine wpQuiet_nil ?_
          refine WD.eff 23 (by kernel_rfl) ?_
          simp only [pick, List.toList_toArray, List.map_cons, List.map_nil, List.getD_cons_succ, List.getD_cons_zero]
          refine wpList_box rfl _ _ rfl [.slice q0 X.Kept.length c0, .slice q1 X.L.length c1, .slice q2 X.Trace.length c2, .bool X.Dead, .pointer none] rfl ?_
          intro w5 f5 _ b5
          refine wpList_nil ?_
          refine AfterD.on (e0.fr.trans' f5) (by kernel_rfl) ?_
          simp only [World.size_alloc, World.size_drew, Act.put, List.setIfInBounds_toArray, List.set_cons_succ, List.set_cons_zero]
          refine WD.pure [24] (by kernel_rfl) (e0.fr.trans' f5) ?_
          simp only [pick, List.toList_toArray, List.map_cons, List.map_nil, List.getD_cons_succ, List.getD_cons_zero]
          repeat (go_big_quiet_step (fail))
          refine wpQuiet_nil ?_
          refine WD.done (by kernel_rfl) ?_
          go_wp2_with fail
          go_ret
          exact ⟨_, ⟨_, _, _, B0, B1, B2⟩, rfl, e0.new f5 (Res.On.blk b5) (fun b hb => by simp [Res.blk] at hb; omega)⟩
        · skip
          refine after_build 2 12 e0 rfl rfl _ rfl 3 _ 1 Try.underlying37 Hi3.out (by kernel_rfl) ?_
          clear e0
          intro w' b2 e0
          simp only [World.size_alloc, World.size_drew, Act.put, List.setIfInBounds_toArray, List.set_cons_succ, List.set_cons_zero]
          refine WD.eff 11 (by kernel_rfl) ?_
          simp only [pick, List.toList_toArray, List.map_cons, List.map_nil, List.getD_cons_succ, List.getD_cons_zero]
          refine after_append 1 11 e0 rfl rfl _ _ _ rfl 91 _ _ 24 Try.underlying79 Hi91.out Hz91.out Hs91.out Hb91.out Hc91.out (by decide) rfl rfl HL.out M91.out L91.out.1 L91.out.2 (by kernel_rfl) ?_
          clear e0
          intro w' v1 B1 e0
          simp only [World.size_alloc, World.size_drew, Act.put, List.setIfInBounds_toArray, List.set_cons_succ, List.set_cons_zero]
          refine WD.eff 17 (by kernel_rfl) ?_
          simp only [pick, List.toList_toArray, List.map_cons, List.map_nil, List.getD_cons_succ, List.getD_cons_zero]
          refine after_append 2 17 e0 rfl rfl _ _ _ rfl 3 _ _ 8 Try.underlying37 Hi3.out Hz3.out Hs3.out Hb3.out rfl (by decide) rfl rfl HT.out M3.out L3.out.1 L3.out.2 (by kernel_rfl) ?_
          clear e0
          intro w' v2 B2 e0
          simp only [World.size_alloc, World.size_drew, Act.put, List.setIfInBounds_toArray, List.set_cons_succ, List.set_cons_zero]
          obtain ⟨q0, c0, rfl⟩ := (e0.held.ownAt 0 rfl : Xr.Own w' 1 v0 X.Kept.length (X.Kept.map .string) B0).isSlice
          obtain ⟨q1, c1, rfl⟩ := (e0.held.ownAt 1 rfl : Xr.Own w' 2 v1 X.L.length (xlc X.L) B1).isSlice
          obtain ⟨q2, c2, rfl⟩ := (e0.held.ownAt 2 rfl : Xr.Own w' 1 v2 X.Trace.length (X.Trace.map (.int .i64)) B2).isSlice
          refine WD.pure [22] (by kernel_rfl) e0.fr ?_
          simp only [pick, List.toList_toArray, List.map_cons, List.map_nil, List.getD_cons_succ, List.getD_cons_zero]
          repeat (go_big_quiet_step (fail))
          refine wpQuiet_nil ?_
          refine WD.eff 23 (by kernel_rfl) ?_
          simp only [pick, List.toList_toArray, List.map_cons, List.map_nil, List.getD_cons_succ, List.getD_cons_zero]
          refine wpList_box rfl _ _ rfl [.slice q0 X.Kept.length c0, .slice q1 X.L.length c1, .slice q2 X.Trace.length c2, .bool X.Dead, .pointer none] rfl ?_
          intro w5 f5 _ b5
          refine wpList_nil ?_
          refine AfterD.on (e0.fr.trans' f5) (by kernel_rfl) ?_
          simp only [World.size_alloc, World.size_drew, Act.put, List.setIfInBounds_toArray, List.set_cons_succ, List.set_cons_zero]
          refine WD.pure [24] (by kernel_rfl) (e0.fr.trans' f5) ?_
          simp only [pick, List.toList_toArray, List.map_cons, List.map_nil, List.getD_cons_succ, List.getD_cons_zero]
          repeat (go_big_quiet_step (fail))
          refine wpQuiet_nil ?_
          refine WD.done (by kernel_rfl) ?_
          go_wp2_with fail
          go_ret
          exact ⟨_, ⟨_, _, _, B0, B1, B2⟩, rfl, e0.new f5 (Res.On.blk b5) (fun b hb => by simp [Res.blk] at hb; omega)⟩
      · skip
        refine after_build 2 12 e0 rfl rfl _ rfl 3 _ 1 Try.underlying37 Hi3.out (by kernel_rfl) ?_
        clear e0
        intro w' b2 e0
        simp only [World.size_alloc, World.size_drew, Act.put, List.setIfInBounds_toArray, List.set_cons_succ, List.set_cons_zero]
        refine WD.eff 5 (by kernel_rfl) ?_
        simp only [pick, List.toList_toArray, List.map_cons, List.map_nil, List.getD_cons_succ, List.getD_cons_zero]
        refine after_append 0 5 e0 rfl rfl _ _ _ rfl 9 _ _ 16 Try.underlying30 Hi9.out Hz9.out Hs9.out Hb9.out rfl (by decide) rfl rfl HK.out M9.out L9.out.1 L9.out.2 (by kernel_rfl) ?_
        clear e0
        intro w' v0 B0 e0
        simp only [World.size_alloc, World.size_drew, Act.put, List.setIfInBounds_toArray, List.set_cons_succ, List.set_cons_zero]
        refine WD.eff 11 (by kernel_rfl) ?_
        simp only [pick, List.toList_toArray, List.map_cons, List.map_nil, List.getD_cons_succ, List.getD_cons_zero]
        refine after_append 1 11 e0 rfl rfl _ _ _ rfl 91 _ _ 24 Try.underlying79 Hi91.out Hz91.out Hs91.out Hb91.out Hc91.out (by decide) rfl rfl HL.out M91.out L91.out.1 L91.out.2 (by kernel_rfl) ?_
        clear e0
        intro w' v1 B1 e0
        simp only [World.size_alloc, World.size_drew, Act.put, List.setIfInBounds_toArray, List.set_cons_succ, List.set_cons_zero]
        refine WD.eff 17 (by kernel_rfl) ?_
        simp only [pick, List.toList_toArray, List.map_cons, List.map_nil, List.getD_cons_succ, List.getD_cons_zero]
        refine after_append 2 17 e0 rfl rfl _ _ _ rfl 3 _ _ 8 Try.underlying37 Hi3.out Hz3.out Hs3.out Hb3.out rfl (by decide) rfl rfl HT.out M3.out L3.out.1 L3.out.2 (by kernel_rfl) ?_
        clear e0
        intro w' v2 B2 e0
        simp only [World.size_alloc, World.size_drew, Act.put, List.setIfInBounds_toArray, List.set_cons_succ, List.set_cons_zero]
        obtain ⟨q0, c0, rfl⟩ := (e0.held.ownAt 0 rfl : Xr.Own w' 1 v0 X.Kept.length (X.Kept.map .string) B0).isSlice
        obtain ⟨q1, c1, rfl⟩ := (e0.held.ownAt 1 rfl : Xr.Own w' 2 v1 X.L.length (xlc X.L) B1).isSlice
        obtain ⟨q2, c2, rfl⟩ := (e0.held.ownAt 2 rfl : Xr.Own w' 1 v2 X.Trace.length (X.Trace.map (.int .i64)) B2).isSlice
        refine WD.pure [22] (by kernel_rfl) e0.fr ?_
        simp only [pick, List.toList_toArray, List.map_cons, List.map_nil, List.getD_cons_succ, List.getD_cons_zero]
        repeat (go_big_quiet_step (fail))
        refine wpQuiet_nil ?_
        refine WD.eff 23 (by kernel_rfl) ?_
        simp only [pick, List.toList_toArray, List.map_cons, List.map_nil, List.getD_cons_succ, List.getD_cons_zero]
        refine wpList_box rfl _ _ rfl [.slice q0 X.Kept.length c0, .slice q1 X.L.length c1, .slice q2 X.Trace.length c2, .bool X.Dead, .pointer none] rfl ?_
        intro w5 f5 _ b5
        refine wpList_nil ?_
        refine AfterD.on (e0.fr.trans' f5) (by kernel_rfl) ?_
        simp only [World.size_alloc, World.size_drew, Act.put, List.setIfInBounds_toArray, List.set_cons_succ, List.set_cons_zero]
        refine WD.pure [24] (by kernel_rfl) (e0.fr.trans' f5) ?_
        simp only [pick, List.toList_toArray, List.map_cons, List.map_nil, List.getD_cons_succ, List.getD_cons_zero]
        repeat (go_big_quiet_step (fail))
        refine wpQuiet_nil ?_
        refine WD.done (by kernel_rfl) ?_
        go_wp2_with fail
        go_ret
        exact ⟨_, ⟨_, _, _, B0, B1, B2⟩, rfl, e0.new f5 (Res.On.blk b5) (fun b hb => by simp [Res.blk] at hb; omega)⟩
    · skip
      refine after_build 2 12 e0 rfl rfl _ rfl 3 _ 1 Try.underlying37 Hi3.out (by kernel_rfl) ?_
      clear e0
      intro w' b2 e0
      simp only [World.size_alloc, World.size_drew, Act.put, List.setIfInBounds_toArray, List.set_cons_succ, List.set_cons_zero]
      refine WD.eff 0 (by kernel_rfl) ?_
      simp only [pick, List.toList_toArray, List.map_cons, List.map_nil, List.getD_cons_succ, List.getD_cons_zero]
      refine after_build 0 0 e0 rfl rfl _ rfl 9 _ 1 Try.underlying30 Hi9.out (by kernel_rfl) ?_
      clear e0
      intro w' b0 e0
      simp only [World.size_alloc, World.size_drew, Act.put, List.setIfInBounds_toArray, List.set_cons_succ, List.set_cons_zero]
      refine WD.eff 5 (by kernel_rfl) ?_
      simp only [pick, List.toList_toArray, List.map_cons, List.map_nil, List.getD_cons_succ, List.getD_cons_zero]
      refine after_append 0 5 e0 rfl rfl _ _ _ rfl 9 _ _ 16 Try.underlying30 Hi9.out Hz9.out Hs9.out Hb9.out rfl (by decide) rfl rfl HK.out M9.out L9.out.1 L9.out.2 (by kernel_rfl) ?_
      clear e0
      intro w' v0 B0 e0
      simp only [World.size_alloc, World.size_drew, Act.put, List.setIfInBounds_toArray, List.set_cons_succ, List.set_cons_zero]
      refine WD.eff 11 (by kernel_rfl) ?_
      simp only [pick, List.toList_toArray, List.map_cons, List.map_nil, List.getD_cons_succ, List.getD_cons_zero]
      refine after_append 1 11 e0 rfl rfl _ _ _ rfl 91 _ _ 24 Try.underlying79 Hi91.out Hz91.out Hs91.out Hb91.out Hc91.out (by decide) rfl rfl HL.out M91.out L91.out.1 L91.out.2 (by kernel_rfl) ?_
      clear e0
      intro w' v1 B1 e0
      simp only [World.size_alloc, World.size_drew, Act.put, List.setIfInBounds_toArray, List.set_cons_succ, List.set_cons_zero]
      refine WD.eff 17 (by kernel_rfl) ?_
      simp only [pick, List.toList_toArray, List.map_cons, List.map_nil, List.getD_cons_succ, List.getD_cons_zero]
      refine after_append 2 17 e0 rfl rfl _ _ _ rfl 3 _ _ 8 Try.underlying37 Hi3.out Hz3.out Hs3.out Hb3.out rfl (by decide) rfl rfl HT.out M3.out L3.out.1 L3.out.2 (by kernel_rfl) ?_
      clear e0
      intro w' v2 B2 e0
      simp only [World.size_alloc, World.size_drew, Act.put, List.setIfInBounds_toArray, List.set_cons_succ, List.set_cons_zero]
      obtain ⟨q0, c0, rfl⟩ := (e0.held.ownAt 0 rfl : Xr.Own w' 1 v0 X.Kept.length (X.Kept.map .string) B0).isSlice
      obtain ⟨q1, c1, rfl⟩ := (e0.held.ownAt 1 rfl : Xr.Own w' 2 v1 X.L.length (xlc X.L) B1).isSlice
      obtain ⟨q2, c2, rfl⟩ := (e0.held.ownAt 2 rfl : Xr.Own w' 1 v2 X.Trace.length (X.Trace.map (.int .i64)) B2).isSlice
      refine WD.pure [22] (by kernel_rfl) e0.fr ?_
      simp only [pick, List.toList_toArray, List.map_cons, List.map_nil, List.getD_cons_succ, List.getD_cons_zero]
      repeat (go_big_quiet_step (fail))
      refine wpQuiet_nil ?_
      refine WD.eff 23 (by kernel_rfl) ?_
      simp only [pick, List.toList_toArray, List.map_cons, List.map_nil, List.getD_cons_succ, List.getD_cons_zero]
      refine wpList_box rfl _ _ rfl [.slice q0 X.Kept.length c0, .slice q1 X.L.length c1, .slice q2 X.Trace.length c2, .bool X.Dead, .pointer none] rfl ?_
      intro w5 f5 _ b5
      refine wpList_nil ?_
      refine AfterD.on (e0.fr.trans' f5) (by kernel_rfl) ?_
      simp only [World.size_alloc, World.size_drew, Act.put, List.setIfInBounds_toArray, List.set_cons_succ, List.set_cons_zero]
      refine WD.pure [24] (by kernel_rfl) (e0.fr.trans' f5) ?_
      simp only [pick, List.toList_toArray, List.map_cons, List.map_nil, List.getD_cons_succ, List.getD_cons_zero]
      repeat (go_big_quiet_step (fail))
      refine wpQuiet_nil ?_
      refine WD.done (by kernel_rfl) ?_
      go_wp2_with fail
      go_ret
      exact ⟨_, ⟨_, _, _, B0, B1, B2⟩, rfl, e0.new f5 (Res.On.blk b5) (fun b hb => by simp [Res.blk] at hb; omega)⟩
  · skip
    refine after_build 2 12 e0 rfl rfl _ rfl 3 _ 1 Try.underlying37 Hi3.out (by kernel_rfl) ?_
    clear e0
    intro w' b2 e0
    simp only [World.size_alloc, World.size_drew, Act.put, List.setIfInBounds_toArray, List.set_cons_succ, List.set_cons_zero]
    refine WD.eff2 0 6 (by kernel_rfl) ?_ ?_
    all_goals simp only [pick, List.toList_toArray, List.map_cons, List.map_nil, List.getD_cons_succ, List.getD_cons_zero]
    · skip
      refine after_build 0 0 e0 rfl rfl _ rfl 9 _ 1 Try.underlying30 Hi9.out (by kernel_rfl) ?_
      clear e0
      intro w' b0 e0
      simp only [World.size_alloc, World.size_drew, Act.put, List.setIfInBounds_toArray, List.set_cons_succ, List.set_cons_zero]
      refine WD.eff2 5 6 (by kernel_rfl) ?_ ?_
      all_goals simp only [pick, List.toList_toArray, List.map_cons, List.map_nil, List.getD_cons_succ, List.getD_cons_zero]
      · skip
        refine after_append 0 5 e0 rfl rfl _ _ _ rfl 9 _ _ 16 Try.underlying30 Hi9.out Hz9.out Hs9.out Hb9.out rfl (by decide) rfl rfl HK.out M9.out L9.out.1 L9.out.2 (by kernel_rfl) ?_
        clear e0
        intro w' v0 B0 e0
        simp only [World.size_alloc, World.size_drew, Act.put, List.setIfInBounds_toArray, List.set_cons_succ, List.set_cons_zero]
        refine WD.eff 6 (by kernel_rfl) ?_
        simp only [pick, List.toList_toArray, List.map_cons, List.map_nil, List.getD_cons_succ, List.getD_cons_zero]
        refine after_build 1 6 e0 rfl rfl _ rfl 91 _ 2 Try.underlying79 Hi91.out (by kernel_rfl) ?_
        clear e0
        intro w' b1 e0
        simp only [World.size_alloc, World.size_drew, Act.put, List.setIfInBounds_toArray, List.set_cons_succ, List.set_cons_zero]
        refine WD.eff 11 (by kernel_rfl) ?_
        simp only [pick, List.toList_toArray, List.map_cons, List.map_nil, List.getD_cons_succ, List.getD_cons_zero]
        refine after_append 1 11 e0 rfl rfl _ _ _ rfl 91 _ _ 24 Try.underlying79 Hi91.out Hz91.out Hs91.out Hb91.out Hc91.out (by decide) rfl rfl HL.out M91.out L91.out.1 L91.out.2 (by kernel_rfl) ?_
        clear e0
        intro w' v1 B1 e0
        simp only [World.size_alloc, World.size_drew, Act.put, List.setIfInBounds_toArray, List.set_cons_succ, List.set_cons_zero]
        refine WD.eff 17 (by kernel_rfl) ?_
        simp only [pick, List.toList_toArray, List.map_cons, List.map_nil, List.getD_cons_succ, List.getD_cons_zero]
        refine after_append 2 17 e0 rfl rfl _ _ _ rfl 3 _ _ 8 Try.underlying37 Hi3.out Hz3.out Hs3.out Hb3.out rfl (by decide) rfl rfl HT.out M3.out L3.out.1 L3.out.2 (by kernel_rfl) ?_
        clear e0
        intro w' v2 B2 e0
        simp only [World.size_alloc, World.size_drew, Act.put, List.setIfInBounds_toArray, List.set_cons_succ, List.set_cons_zero]
        obtain ⟨q0, c0, rfl⟩ := (e0.held.ownAt 0 rfl : Xr.Own w' 1 v0 X.Kept.length (X.Kept.map .string) B0).isSlice
        obtain ⟨q1, c1, rfl⟩ := (e0.held.ownAt 1 rfl : Xr.Own w' 2 v1 X.L.length (xlc X.L) B1).isSlice
        obtain ⟨q2, c2, rfl⟩ := (e0.held.ownAt 2 rfl : Xr.Own w' 1 v2 X.Trace.length (X.Trace.map (.int .i64)) B2).isSlice
        refine WD.pure [22] (by kernel_rfl) e0.fr ?_
        simp only [pick, List.toList_toArray, List.map_cons, List.map_nil, List.getD_cons_succ, List.getD_cons_zero]
        repeat (go_big_quiet_step (fail))
        refine wpQuiet_nil ?_
        refine WD.eff 23 (by kernel_rfl) ?_
        simp only [pick, List.toList_toArray, List.map_cons, List.map_nil, List.getD_cons_succ, List.getD_cons_zero]
        refine wpList_box rfl _ _ rfl [.slice q0 X.Kept.length c0, .slice q1 X.L.length c1, .slice q2 X.Trace.length c2, .bool X.Dead, .pointer none] rfl ?_
        intro w5 f5 _ b5
        refine wpList_nil ?_
        refine AfterD.on (e0.fr.trans' f5) (by kernel_rfl) ?_
        simp only [World.size_alloc, World.size_drew, Act.put, List.setIfInBounds_toArray, List.set_cons_succ, List.set_cons_zero]
        refine WD.pure [24] (by kernel_rfl) (e0.fr.trans' f5) ?_
        simp only [pick, List.toList_toArray, List.map_cons, List.map_nil, List.getD_cons_succ, List.getD_cons_zero]
        repeat (go_big_quiet_step (fail))
        refine wpQuiet_nil ?_
        refine WD.done (by kernel_rfl) ?_
        go_wp2_with fail
        go_ret
        exact ⟨_, ⟨_, _, _, B0, B1, B2⟩, rfl, e0.new f5 (Res.On.blk b5) (fun b hb => by simp [Res.blk] at hb; omega)⟩
      · skip
        refine after_build 1 6 e0 rfl rfl _ rfl 91 _ 2 Try.underlying79 Hi91.out (by kernel_rfl) ?_
        clear e0
        intro w' b1 e0
        simp only [World.size_alloc, World.size_drew, Act.put, List.setIfInBounds_toArray, List.set_cons_succ, List.set_cons_zero]
        refine WD.eff 5 (by kernel_rfl) ?_
        simp only [pick, List.toList_toArray, List.map_cons, List.map_nil, List.getD_cons_succ, List.getD_cons_zero]
        refine after_append 0 5 e0 rfl rfl _ _ _ rfl 9 _ _ 16 Try.underlying30 Hi9.out Hz9.out Hs9.out Hb9.out rfl (by decide) rfl rfl HK.out M9.out L9.out.1 L9.out.2 (by kernel_rfl) ?_
        clear e0
        intro w' v0 B0 e0
        simp only [World.size_alloc, World.size_drew, Act.put, List.setIfInBounds_toArray, List.set_cons_succ, List.set_cons_zero]
        refine WD.eff 11 (by kernel_rfl) ?_
        simp only [pick, List.toList_toArray, List.map_cons, List.map_nil, List.getD_cons_succ, List.getD_cons_zero]
        refine after_append 1 11 e0 rfl rfl _ _ _ rfl 91 _ _ 24 Try.underlying79 Hi91.out Hz91.out Hs91.out Hb91.out Hc91.out (by decide) rfl rfl HL.out M91.out L91.out.1 L91.out.2 (by kernel_rfl) ?_
        clear e0
        intro w' v1 B1 e0
        simp only [World.size_alloc, World.size_drew, Act.put, List.setIfInBounds_toArray, List.set_cons_succ, List.set_cons_zero]
        refine WD.eff 17 (by kernel_rfl) ?_
        simp only [pick, List.toList_toArray, List.map_cons, List.map_nil, List.getD_cons_succ, List.getD_cons_zero]
        refine after_append 2 17 e0 rfl rfl _ _ _ rfl 3 _ _ 8 Try.underlying37 Hi3.out Hz3.out Hs3.out Hb3.out rfl (by decide) rfl rfl HT.out M3.out L3.out.1 L3.out.2 (by kernel_rfl) ?_
        clear e0
        intro w' v2 B2 e0
        simp only [World.size_alloc, World.size_drew, Act.put, List.setIfInBounds_toArray, List.set_cons_succ, List.set_cons_zero]
        obtain ⟨q0, c0, rfl⟩ := (e0.held.ownAt 0 rfl : Xr.Own w' 1 v0 X.Kept.length (X.Kept.map .string) B0).isSlice
        obtain ⟨q1, c1, rfl⟩ := (e0.held.ownAt 1 rfl : Xr.Own w' 2 v1 X.L.length (xlc X.L) B1).isSlice
        obtain ⟨q2, c2, rfl⟩ := (e0.held.ownAt 2 rfl : Xr.Own w' 1 v2 X.Trace.length (X.Trace.map (.int .i64)) B2).isSlice
        refine WD.pure [22] (by kernel_rfl) e0.fr ?_
        simp only [pick, List.toList_toArray, List.map_cons, List.map_nil, List.getD_cons_succ, List.getD_cons_zero]
        repeat (go_big_quiet_step (fail))
        refine wpQuiet_nil ?_
        refine WD.eff 23 (by kernel_rfl) ?_
        simp only [pick, List.toList_toArray, List.map_cons, List.map_nil, List.getD_cons_succ, List.getD_cons_zero]
        refine wpList_box rfl _ _ rfl [.slice q0 X.Kept.length c0, .slice q1 X.L.length c1, .slice q2 X.Trace.length c2, .bool X.Dead, .pointer none] rfl ?_
        intro w5 f5 _ b5
        refine wpList_nil ?_
        refine AfterD.on (e0.fr.trans' f5) (by kernel_rfl) ?_
        simp only [World.size_alloc, World.size_drew, Act.put, List.setIfInBounds_toArray, List.set_cons_succ, List.set_cons_zero]
        refine WD.pure [24] (by kernel_rfl) (e0.fr.trans' f5) ?_
        simp only [pick, List.toList_toArray, List.map_cons, List.map_nil, List.getD_cons_succ, List.getD_cons_zero]
        repeat (go_big_quiet_step (fail))
        refine wpQuiet_nil ?_
        refine WD.done (by kernel_rfl) ?_
        go_wp2_with fail
        go_ret
        exact ⟨_, ⟨_, _, _, B0, B1, B2⟩, rfl, e0.new f5 (Res.On.blk b5) (fun b hb => by simp [Res.blk] at hb; omega)⟩
    · skip
      refine after_build 1 6 e0 rfl rfl _ rfl 91 _ 2 Try.underlying79 Hi91.out (by kernel_rfl) ?_
      clear e0
      intro w' b1 e0
      simp only [World.size_alloc, World.size_drew, Act.put, List.setIfInBounds_toArray, List.set_cons_succ, List.set_cons_zero]
      refine WD.eff 0 (by kernel_rfl) ?_
      simp only [pick, List.toList_toArray, List.map_cons, List.map_nil, List.getD_cons_succ, List.getD_cons_zero]
      refine after_build 0 0 e0 rfl rfl _ rfl 9 _ 1 Try.underlying30 Hi9.out (by kernel_rfl) ?_
      clear e0
      intro w' b0 e0
      simp only [World.size_alloc, World.size_drew, Act.put, List.setIfInBounds_toArray, List.set_cons_succ, List.set_cons_zero]
      refine WD.eff 5 (by kernel_rfl) ?_
      simp only [pick, List.toList_toArray, List.map_cons, List.map_nil, List.getD_cons_succ, List.getD_cons_zero]
      refine after_append 0 5 e0 rfl rfl _ _ _ rfl 9 _ _ 16 Try.underlying30 Hi9.out Hz9.out Hs9.out Hb9.out rfl (by decide) rfl rfl HK.out M9.out L9.out.1 L9.out.2 (by kernel_rfl) ?_
      clear e0
      intro w' v0 B0 e0
      simp only [World.size_alloc, World.size_drew, Act.put, List.setIfInBounds_toArray, List.set_cons_succ, List.set_cons_zero]
      refine WD.eff 11 (by kernel_rfl) ?_
      simp only [pick, List.toList_toArray, List.map_cons, List.map_nil, List.getD_cons_succ, List.getD_cons_zero]
      refine after_append 1 11 e0 rfl rfl _ _ _ rfl 91 _ _ 24 Try.underlying79 Hi91.out Hz91.out Hs91.out Hb91.out Hc91.out (by decide) rfl rfl HL.out M91.out L91.out.1 L91.out.2 (by kernel_rfl) ?_
      clear e0
      intro w' v1 B1 e0
      simp only [World.size_alloc, World.size_drew, Act.put, List.setIfInBounds_toArray, List.set_cons_succ, List.set_cons_zero]
      refine WD.eff 17 (by kernel_rfl) ?_
      simp only [pick, List.toList_toArray, List.map_cons, List.map_nil, List.getD_cons_succ, List.getD_cons_zero]
      refine after_append 2 17 e0 rfl rfl _ _ _ rfl 3 _ _ 8 Try.underlying37 Hi3.out Hz3.out Hs3.out Hb3.out rfl (by decide) rfl rfl HT.out M3.out L3.out.1 L3.out.2 (by kernel_rfl) ?_
      clear e0
      intro w' v2 B2 e0
      simp only [World.size_alloc, World.size_drew, Act.put, List.setIfInBounds_toArray, List.set_cons_succ, List.set_cons_zero]
      obtain ⟨q0, c0, rfl⟩ := (e0.held.ownAt 0 rfl : Xr.Own w' 1 v0 X.Kept.length (X.Kept.map .string) B0).isSlice
      obtain ⟨q1, c1, rfl⟩ := (e0.held.ownAt 1 rfl : Xr.Own w' 2 v1 X.L.length (xlc X.L) B1).isSlice
      obtain ⟨q2, c2, rfl⟩ := (e0.held.ownAt 2 rfl : Xr.Own w' 1 v2 X.Trace.length (X.Trace.map (.int .i64)) B2).isSlice
      refine WD.pure [22] (by kernel_rfl) e0.fr ?_
      simp only [pick, List.toList_toArray, List.map_cons, List.map_nil, List.getD_cons_succ, List.getD_cons_zero]
      repeat (go_big_quiet_step (fail))
      refine wpQuiet_nil ?_
      refine WD.eff 23 (by kernel_rfl) ?_
      simp only [pick, List.toList_toArray, List.map_cons, List.map_nil, List.getD_cons_succ, List.getD_cons_zero]
      refine wpList_box rfl _ _ rfl [.slice q0 X.Kept.length c0, .slice q1 X.L.length c1, .slice q2 X.Trace.length c2, .bool X.Dead, .pointer none] rfl ?_
      intro w5 f5 _ b5
      refine wpList_nil ?_
      refine AfterD.on (e0.fr.trans' f5) (by kernel_rfl) ?_
      simp only [World.size_alloc, World.size_drew, Act.put, List.setIfInBounds_toArray, List.set_cons_succ, List.set_cons_zero]
      refine WD.pure [24] (by kernel_rfl) (e0.fr.trans' f5) ?_
      simp only [pick, List.toList_toArray, List.map_cons, List.map_nil, List.getD_cons_succ, List.getD_cons_zero]
      repeat (go_big_quiet_step (fail))
      refine wpQuiet_nil ?_
      refine WD.done (by kernel_rfl) ?_
      go_wp2_with fail
      go_ret
      exact ⟨_, ⟨_, _, _, B0, B1, B2⟩, rfl, e0.new f5 (Res.On.blk b5) (fun b hb => by simp [Res.blk] at hb; omega)⟩
end Go.Proofs.Ytflapddkeeiieaa
