/- Layer 4: SealKeys, the walk. -/
import Derived.Test.YtjffhlhpapjnnaaGSeal
import Derived.Test.YtjffhlhpapjnnaaGCore
namespace Go.Proofs.Ytjffhlhpapjnnaa
open Go Go.Xr Go.RowKit Go.Proofs.Ytjffhlhpapjnnaa.aes
set_option linter.unusedVariables false
set_option linter.unusedSimpArgs false
theorem keysA (ms label : ByteArray) (hm : ms.size ≤ 140737488351232) (hl : label.size < 1099511626000) : ∃ (A B : ByteArray) (e0 : Int),
    (∀ w : World, Calls Try.prog 11 #[.string ms, .string label] w fun e w' => e = .returned (.tuple #[.agg #[.string A, .string B], .int .i64 e0]) ∧ Fr [] w w') ∧
    (∀ w : World, Calls Try.prog 12 #[.string ms, .string label] w fun e w' => e = .returned (.tuple #[.agg #[.string A, .string B], .int .i64 e0]) ∧ Fr [] w w') := by
  by_cases h : ms.size = 32
  · exact ⟨_, _, _, fun w => keys_any ms label h hl, fun w => rkeys_any ms label h hl⟩
  · exact ⟨⟨#[]⟩, ⟨#[]⟩, 2, fun w => keys_bad ms label h (by omega), fun w => rkeys_bad ms label h (by omega)⟩

set_option maxRecDepth 20000 in
set_option maxHeartbeats 1000000 in
theorem keys_walk {w : World} (ms label c m : ByteArray) (hm : ms.size ≤ 140737488351232) (hl : label.size ≤ 140737488351232) (hc1 : c.size ≤ 9223372036854775807) (hm1 : m.size ≤ 9223372036854775807) :
    Calls Try.prog 3 #[.string ms, .string label, .agg #[.string c, .string m]] w fun e w' => e = .returned (.bool true) ∧ Fr [] w w' := by
  by_cases hbig : 4096 < ms.size + label.size
  · have hd1 : decide (4096 < (ms.size : Int) + (label.size : Int)) = true := by simp; omega
    have hd2 : decide (4096 < ms.size + label.size) = true := by simp; omega
    clear hbig
    go_enter Try.func3, Try.ntmps3
    go_wp2_with (refine wpList_box rfl _ _ rfl [.string c, .string m] rfl ?_; intro w1 f1 hlt1 hb1; have k0 := hb1.cell 0; have k1 := hb1.cell 1; simp only [World.size_alloc, World.size_drew, Act.put, List.setIfInBounds_toArray, List.set_cons_succ, List.set_cons_zero])
    refine alive_any.mono ?_
    rintro e w2 ⟨rfl, f2⟩
    go_wp2_with fail
    go_ret
    exact ⟨rfl, f1.trans' f2⟩
  · have hd1 : decide (4096 < (ms.size : Int) + (label.size : Int)) = false := by simp; omega
    have hd2 : decide (4096 < ms.size + label.size) = false := by simp; omega
    obtain ⟨A, B, e0, h1, h2⟩ := keysA ms label hm (by omega)
    have H1 := hid h1
    have H2 := hid h2
    clear hbig h1 h2
    cases h : mayS c m
    all_goals
      have hE1 := hid h
      have hE2 := hid (show mayE c m = if mayS c m then 0 else 2 from rfl)
      rw [h] at hE2
      simp only [if_true, if_false, Bool.false_eq_true] at hE2
      clear h
      go_enter Try.func3, Try.ntmps3
      go_wp2_with (refine wpList_box rfl _ _ rfl [.string c, .string m] rfl ?_; intro w1 f1 hlt1 hb1; simp only [World.size_alloc, World.size_drew, Act.put, List.setIfInBounds_toArray, List.set_cons_succ, List.set_cons_zero])
      refine (H1.out _).mono ?_
      rintro e w2 ⟨rfl, f2⟩
      have b2 := f2.blk hb1 (by simp)
      have g2 := f1.trans' f2
      clear hb1 f1 f2
      go_wp2_with fail
      have d2 := Blk.alloc w2 [Value.string A, Value.string B] 23
      have b2' := b2.old (.cells [Value.string A, Value.string B].toArray 23)
      have g2' := g2.alloc (.cells [Value.string A, Value.string B].toArray 23)
      refine (H2.out _).mono ?_
      rintro e w3 ⟨rfl, f3⟩
      have b3 := f3.blk b2' (by simp)
      have d3 := f3.blk d2 (by simp)
      have g3 := g2'.trans' f3
      clear b2 b2' d2 g2 g2' f3
      go_wp2_with fail
      have c3 := Blk.alloc w3 [Value.string A, Value.string B] 23
      have b3' := b3.old (.cells [Value.string A, Value.string B].toArray 23)
      have d3' := d3.old (.cells [Value.string A, Value.string B].toArray 23)
      have g3' := g3.alloc (.cells [Value.string A, Value.string B].toArray 23)
      generalize w3.alloc (.cells [Value.string A, Value.string B].toArray 23) = w4 at c3 b3' d3' g3' ⊢
      have hA := d3'.drew
      have hB := b3'.drew
      have hC := c3.drew
      have g0 := g3'.drew
      clear c3 b3' d3' g3'
      refine wp_region_D (fun w' => Blk w' w.heap.size [.string c, .string m]) false [] (by kernel_rfl) ?_
      refine WD.pure [0, 1, 2, 3, 4, 5, 6, 7, 8, 9] (by kernel_rfl) hB ?_
      simp only [pick, List.toList_toArray, List.map_cons, List.map_nil, List.getD_cons_succ, List.getD_cons_zero]
      repeat (first | (refine quiet_load_aggW (by rfl) _ _ rfl rfl [.string A, .string B] (fun _ h => by cases h; exact hA) _ Try.underlying23 rfl keyT rfl ?_; simp only [World.size_alloc, World.size_drew, Act.put, List.setIfInBounds_toArray, List.set_cons_succ, List.set_cons_zero]) | (refine quiet_load_aggW (by rfl) _ _ rfl rfl [.string A, .string B] (fun _ h => by cases h; exact hC) _ Try.underlying23 rfl keyT rfl ?_; simp only [World.size_alloc, World.size_drew, Act.put, List.setIfInBounds_toArray, List.set_cons_succ, List.set_cons_zero]) | (refine quiet_load_aggW (by rfl) _ _ rfl rfl [.string c, .string m] (fun _ h => by cases h; exact hB) _ Try.underlying23 rfl keyT rfl ?_; simp only [World.size_alloc, World.size_drew, Act.put, List.setIfInBounds_toArray, List.set_cons_succ, List.set_cons_zero]) | (refine quiet_load_aggW (by rfl) _ _ rfl rfl [.string c, .string m] (fun _ h => h) _ Try.underlying23 rfl keyT rfl ?_; simp only [World.size_alloc, World.size_drew, Act.put, List.setIfInBounds_toArray, List.set_cons_succ, List.set_cons_zero]) | go_big_quiet_step (fail))
      refine wpQuiet_nil ?_
      refine WD.held [12] (by kernel_rfl) hB ?_
      simp only [pick, List.toList_toArray, List.map_cons, List.map_nil, List.getD_cons_succ, List.getD_cons_zero]
      repeat (first | (refine quiet_load_aggW (by rfl) _ _ rfl rfl [.string A, .string B] (fun _ h => by cases h; exact hA) _ Try.underlying23 rfl keyT rfl ?_; simp only [World.size_alloc, World.size_drew, Act.put, List.setIfInBounds_toArray, List.set_cons_succ, List.set_cons_zero]) | (refine quiet_load_aggW (by rfl) _ _ rfl rfl [.string A, .string B] (fun _ h => by cases h; exact hC) _ Try.underlying23 rfl keyT rfl ?_; simp only [World.size_alloc, World.size_drew, Act.put, List.setIfInBounds_toArray, List.set_cons_succ, List.set_cons_zero]) | (refine quiet_load_aggW (by rfl) _ _ rfl rfl [.string c, .string m] (fun _ h => by cases h; exact hB) _ Try.underlying23 rfl keyT rfl ?_; simp only [World.size_alloc, World.size_drew, Act.put, List.setIfInBounds_toArray, List.set_cons_succ, List.set_cons_zero]) | (refine quiet_load_aggW (by rfl) _ _ rfl rfl [.string c, .string m] (fun _ h => h) _ Try.underlying23 rfl keyT rfl ?_; simp only [World.size_alloc, World.size_drew, Act.put, List.setIfInBounds_toArray, List.set_cons_succ, List.set_cons_zero]) | go_big_quiet_step (fail))
      refine wpQuiet_nil ?_
      refine WD.eff 10 (by kernel_rfl) ?_
      simp only [pick, List.toList_toArray, List.map_cons, List.map_nil, List.getD_cons_succ, List.getD_cons_zero]
      go_wp2_with fail
      refine (may_any c m hc1 hm1).mono ?_
      rintro e w5 ⟨rfl, f5⟩
      rw [hE2.out]
      have hB := f5.blk hB (by simp)
      have g1 := g0.trans' f5
      clear f5 g0
      go_wp2_with fail
      try refine wpList_nil ?_
      refine AfterD.on hB (by kernel_rfl) ?_
      try simp only [World.size_alloc, World.size_drew, Act.put, List.setIfInBounds_toArray, List.set_cons_succ, List.set_cons_zero]
      refine WD.free [11] (by kernel_rfl) hB ?_
      simp only [pick, List.toList_toArray, List.map_cons, List.map_nil, List.getD_cons_succ, List.getD_cons_zero]
      repeat (first | (refine quiet_load_aggW (by rfl) _ _ rfl rfl [.string A, .string B] (fun _ h => by cases h; exact hA) _ Try.underlying23 rfl keyT rfl ?_; simp only [World.size_alloc, World.size_drew, Act.put, List.setIfInBounds_toArray, List.set_cons_succ, List.set_cons_zero]) | (refine quiet_load_aggW (by rfl) _ _ rfl rfl [.string A, .string B] (fun _ h => by cases h; exact hC) _ Try.underlying23 rfl keyT rfl ?_; simp only [World.size_alloc, World.size_drew, Act.put, List.setIfInBounds_toArray, List.set_cons_succ, List.set_cons_zero]) | (refine quiet_load_aggW (by rfl) _ _ rfl rfl [.string c, .string m] (fun _ h => by cases h; exact hB) _ Try.underlying23 rfl keyT rfl ?_; simp only [World.size_alloc, World.size_drew, Act.put, List.setIfInBounds_toArray, List.set_cons_succ, List.set_cons_zero]) | (refine quiet_load_aggW (by rfl) _ _ rfl rfl [.string c, .string m] (fun _ h => h) _ Try.underlying23 rfl keyT rfl ?_; simp only [World.size_alloc, World.size_drew, Act.put, List.setIfInBounds_toArray, List.set_cons_succ, List.set_cons_zero]) | go_big_quiet_step (fail))
      refine wpQuiet_nil ?_
      refine WD.eff 13 (by kernel_rfl) ?_
      simp only [pick, List.toList_toArray, List.map_cons, List.map_nil, List.getD_cons_succ, List.getD_cons_zero]
      go_wp2_with fail
      refine (rmay_any c m hc1 hm1).mono ?_
      rintro e w6 ⟨rfl, f6⟩
      rw [hE1.out]
      have hB := f6.blk hB (by simp)
      have g2 := g1.trans' f6
      clear f6 g1
      go_wp2_with fail
      try refine wpList_nil ?_
      refine AfterD.on hB (by kernel_rfl) ?_
      try simp only [World.size_alloc, World.size_drew, Act.put, List.setIfInBounds_toArray, List.set_cons_succ, List.set_cons_zero]
      refine WD.pure [14, 15, 16, 17] (by kernel_rfl) hB ?_
      simp only [pick, List.toList_toArray, List.map_cons, List.map_nil, List.getD_cons_succ, List.getD_cons_zero]
      repeat (first | (refine quiet_load_aggW (by rfl) _ _ rfl rfl [.string A, .string B] (fun _ h => by cases h; exact hA) _ Try.underlying23 rfl keyT rfl ?_; simp only [World.size_alloc, World.size_drew, Act.put, List.setIfInBounds_toArray, List.set_cons_succ, List.set_cons_zero]) | (refine quiet_load_aggW (by rfl) _ _ rfl rfl [.string A, .string B] (fun _ h => by cases h; exact hC) _ Try.underlying23 rfl keyT rfl ?_; simp only [World.size_alloc, World.size_drew, Act.put, List.setIfInBounds_toArray, List.set_cons_succ, List.set_cons_zero]) | (refine quiet_load_aggW (by rfl) _ _ rfl rfl [.string c, .string m] (fun _ h => by cases h; exact hB) _ Try.underlying23 rfl keyT rfl ?_; simp only [World.size_alloc, World.size_drew, Act.put, List.setIfInBounds_toArray, List.set_cons_succ, List.set_cons_zero]) | (refine quiet_load_aggW (by rfl) _ _ rfl rfl [.string c, .string m] (fun _ h => h) _ Try.underlying23 rfl keyT rfl ?_; simp only [World.size_alloc, World.size_drew, Act.put, List.setIfInBounds_toArray, List.set_cons_succ, List.set_cons_zero]) | go_big_quiet_step (fail))
      refine wpQuiet_nil ?_
      refine WD.eff 18 (by kernel_rfl) ?_
      simp only [pick, List.toList_toArray, List.map_cons, List.map_nil, List.getD_cons_succ, List.getD_cons_zero]
      go_wp2_with fail
      refine (may_any c m hc1 hm1).mono ?_
      rintro e w7 ⟨rfl, f7⟩
      rw [hE2.out]
      have hB := f7.blk hB (by simp)
      have g3 := g2.trans' f7
      clear f7 g2
      go_wp2_with fail
      try refine wpList_nil ?_
      refine AfterD.on hB (by kernel_rfl) ?_
      try simp only [World.size_alloc, World.size_drew, Act.put, List.setIfInBounds_toArray, List.set_cons_succ, List.set_cons_zero]
      refine WD.pure [19, 20, 21] (by kernel_rfl) hB ?_
      simp only [pick, List.toList_toArray, List.map_cons, List.map_nil, List.getD_cons_succ, List.getD_cons_zero]
      repeat (first | (refine quiet_load_aggW (by rfl) _ _ rfl rfl [.string A, .string B] (fun _ h => by cases h; exact hA) _ Try.underlying23 rfl keyT rfl ?_; simp only [World.size_alloc, World.size_drew, Act.put, List.setIfInBounds_toArray, List.set_cons_succ, List.set_cons_zero]) | (refine quiet_load_aggW (by rfl) _ _ rfl rfl [.string A, .string B] (fun _ h => by cases h; exact hC) _ Try.underlying23 rfl keyT rfl ?_; simp only [World.size_alloc, World.size_drew, Act.put, List.setIfInBounds_toArray, List.set_cons_succ, List.set_cons_zero]) | (refine quiet_load_aggW (by rfl) _ _ rfl rfl [.string c, .string m] (fun _ h => by cases h; exact hB) _ Try.underlying23 rfl keyT rfl ?_; simp only [World.size_alloc, World.size_drew, Act.put, List.setIfInBounds_toArray, List.set_cons_succ, List.set_cons_zero]) | (refine quiet_load_aggW (by rfl) _ _ rfl rfl [.string c, .string m] (fun _ h => h) _ Try.underlying23 rfl keyT rfl ?_; simp only [World.size_alloc, World.size_drew, Act.put, List.setIfInBounds_toArray, List.set_cons_succ, List.set_cons_zero]) | go_big_quiet_step (fail))
      refine wpQuiet_nil ?_
      refine WD.eff 22 (by kernel_rfl) ?_
      simp only [pick, List.toList_toArray, List.map_cons, List.map_nil, List.getD_cons_succ, List.getD_cons_zero]
      go_wp2_with fail
      first
        | (refine (may_any c m hc1 hm1).mono ?_
           rintro e w8 ⟨rfl, f8⟩
           rw [hE2.out]
           have hB := f8.blk hB (by simp)
           have g4 := g3.trans' f8
           clear f8 g3
           go_wp2_with fail)
        | (obtain ⟨w8, rfl⟩ : ∃ w8, w8 = w7 := ⟨_, rfl⟩
           have g4 := g3)
      try refine wpList_nil ?_
      refine AfterD.on hB (by kernel_rfl) ?_
      try simp only [World.size_alloc, World.size_drew, Act.put, List.setIfInBounds_toArray, List.set_cons_succ, List.set_cons_zero]
      refine WD.pure [23, 24, 25, 26] (by kernel_rfl) hB ?_
      simp only [pick, List.toList_toArray, List.map_cons, List.map_nil, List.getD_cons_succ, List.getD_cons_zero]
      repeat (first | (refine quiet_load_aggW (by rfl) _ _ rfl rfl [.string A, .string B] (fun _ h => by cases h; exact hA) _ Try.underlying23 rfl keyT rfl ?_; simp only [World.size_alloc, World.size_drew, Act.put, List.setIfInBounds_toArray, List.set_cons_succ, List.set_cons_zero]) | (refine quiet_load_aggW (by rfl) _ _ rfl rfl [.string A, .string B] (fun _ h => by cases h; exact hC) _ Try.underlying23 rfl keyT rfl ?_; simp only [World.size_alloc, World.size_drew, Act.put, List.setIfInBounds_toArray, List.set_cons_succ, List.set_cons_zero]) | (refine quiet_load_aggW (by rfl) _ _ rfl rfl [.string c, .string m] (fun _ h => by cases h; exact hB) _ Try.underlying23 rfl keyT rfl ?_; simp only [World.size_alloc, World.size_drew, Act.put, List.setIfInBounds_toArray, List.set_cons_succ, List.set_cons_zero]) | (refine quiet_load_aggW (by rfl) _ _ rfl rfl [.string c, .string m] (fun _ h => h) _ Try.underlying23 rfl keyT rfl ?_; simp only [World.size_alloc, World.size_drew, Act.put, List.setIfInBounds_toArray, List.set_cons_succ, List.set_cons_zero]) | go_big_quiet_step (fail))
      refine wpQuiet_nil ?_
      refine WD.eff 27 (by kernel_rfl) ?_
      simp only [pick, List.toList_toArray, List.map_cons, List.map_nil, List.getD_cons_succ, List.getD_cons_zero]
      go_wp2_with fail
      refine alive_any.mono ?_
      rintro e w9 ⟨rfl, f9⟩
      go_wp2_with fail
      try refine wpList_nil ?_
      refine AfterD.on (f9.blk hB (by simp)) (by kernel_rfl) ?_
      try simp only [World.size_alloc, World.size_drew, Act.put, List.setIfInBounds_toArray, List.set_cons_succ, List.set_cons_zero]
      refine WD.pure [28, 29] (by kernel_rfl) (f9.blk hB (by simp)) ?_
      simp only [pick, List.toList_toArray, List.map_cons, List.map_nil, List.getD_cons_succ, List.getD_cons_zero]
      repeat (first | (refine quiet_load_aggW (by rfl) _ _ rfl rfl [.string A, .string B] (fun _ h => by cases h; exact hA) _ Try.underlying23 rfl keyT rfl ?_; simp only [World.size_alloc, World.size_drew, Act.put, List.setIfInBounds_toArray, List.set_cons_succ, List.set_cons_zero]) | (refine quiet_load_aggW (by rfl) _ _ rfl rfl [.string A, .string B] (fun _ h => by cases h; exact hC) _ Try.underlying23 rfl keyT rfl ?_; simp only [World.size_alloc, World.size_drew, Act.put, List.setIfInBounds_toArray, List.set_cons_succ, List.set_cons_zero]) | (refine quiet_load_aggW (by rfl) _ _ rfl rfl [.string c, .string m] (fun _ h => by cases h; exact hB) _ Try.underlying23 rfl keyT rfl ?_; simp only [World.size_alloc, World.size_drew, Act.put, List.setIfInBounds_toArray, List.set_cons_succ, List.set_cons_zero]) | (refine quiet_load_aggW (by rfl) _ _ rfl rfl [.string c, .string m] (fun _ h => h) _ Try.underlying23 rfl keyT rfl ?_; simp only [World.size_alloc, World.size_drew, Act.put, List.setIfInBounds_toArray, List.set_cons_succ, List.set_cons_zero]) | go_big_quiet_step (fail))
      refine wpQuiet_nil ?_
      refine WD.done (by kernel_rfl) ?_
      go_wp2_with fail
      go_ret
      exact ⟨rfl, g4.trans' f9⟩
end Go.Proofs.Ytjffhlhpapjnnaa
