/- Layer 10: MerkleVerifies, the walk. -/
import Derived.Test.YthfjjencnfebmaaMerS
namespace Go.Proofs.Ythfjjencnfebmaa.mer
open Go Go.Xr Go.RowKit
set_option linter.unusedVariables false
set_option linter.unusedSimpArgs false
attribute [local go_sem] Oper.semAt_some
set_option maxRecDepth 20000 in
set_option maxHeartbeats 1000000 in
theorem verifies_walk {w : World} {v : Value} {l : List ByteArray} {B : Option Nat} (h : Rc w 1 v l.length (l.map .string) B) (ho : ∀ s ∈ l, s.size ≤ 140737488351232) (hm : l.length ≤ 9223372036854775807) (root tag : ByteArray) (n i : Int) (hr : root.size ≤ 140737488351232) (ht : tag.size ≤ 140737488351232) :
    Calls Try.prog 3 #[.agg #[.string root, .int .i64 n, .int .i64 i, .string tag, v]] w fun e w' => e = .returned (.bool true) ∧ Fr [] w w' := by
  obtain ⟨i9, hi9, hz9, hs9, hb9⟩ := inf9
  have Hi := hid hi9
  have Hz := hid hz9
  have Hs := hid hs9
  have Hb := hid hb9
  clear hi9 hz9 hs9 hb9
  obtain ⟨la, lc, rfl⟩ := h.isSlice
  have H := hid h
  have HSz := hid fun (w0 : World) (f0 : Fr [] w w0) => size_any (w := w0) (h.keep f0 (by simp)) ho hm root tag n i hr ht
  have HV := hid fun (w0 : World) (f0 : Fr [] w w0) (q1 : l.length ≤ 1024) (q2 : ∀ x ∈ l, x.size ≤ 8192) (q3 : tag.size ≤ 8192) => rver_any (w := w0) (h.keep f0 (by simp)) (by omega) (fun s hs => by have := q2 s hs; omega) root n i tag (by omega)
  have HW := hid fun (w0 : World) (v0 : Value) (B0 : Option Nat) (h0 : Rc w0 1 v0 l.length (l.map .string) B0) (q1 : l.length ≤ 1024) (q2 : ∀ x ∈ l, x.size ≤ 8192) (q3 : tag.size ≤ 8192) => verify_any (w := w0) h0 (by omega) (fun s hs => by have := q2 s hs; omega) root n i tag (by omega)
  obtain ⟨V, hV⟩ : ∃ V, verS root n i tag l = V := ⟨_, rfl⟩
  rw [hV] at HV HW
  obtain ⟨m, hmm⟩ : ∃ m, l.length = m := ⟨_, rfl⟩
  have Hm := hid hmm
  rw [hmm] at hm HV HW HSz ⊢
  clear h ho hmm hV
  go_enter Try.func3, Try.ntmps3
  go_wp2_with (first
    | (refine wpList_box rfl _ _ rfl [.string root, .int .i64 n, .int .i64 i, .string tag, .slice la m lc] rfl ?_; intro w1 f1 hlt1 hb1; simp only [World.size_alloc, World.size_drew, Act.put, List.setIfInBounds_toArray, List.set_cons_succ, List.set_cons_zero])
    | (refine wpList_load_ag rfl _ _ rfl rfl [.string root, .int .i64 n, .int .i64 i, .string tag, .slice la m lc] hb1 wayT rfl rfl ?_; simp only [World.size_alloc, World.size_drew, Act.put, List.setIfInBounds_toArray, List.set_cons_succ, List.set_cons_zero])
    | (go_at_call 9; refine (HSz.out _ f1).mono ?_; rintro e w2 ⟨⟨s, rfl, hs⟩, f2⟩; revert f2))
  intro f2
  have hb2 := f2.blk hb1 (by simp)
  have g2 := f1.trans' f2
  by_cases hs8 : s ≤ 8192
  · obtain ⟨q0, q3, q1, q2⟩ := hs hs8
    have d1 : decide ((8192 : Int) < (s : Int)) = false := by simp; omega
    have d1' : ¬ ((8192 : Int) < (s : Int)) := by omega
    have k0 := hb2.cell 0
    have k1 := hb2.cell 1
    have k2 := hb2.cell 2
    have k3 := hb2.cell 3
    have k4 := hb2.cell 4
    obtain ⟨b, hbe⟩ : ∃ b, w.heap.size = b := ⟨_, rfl⟩
    rw [hbe] at hb2 k0 k1 k2 k3 k4 ⊢
    have Q2 := hid q2
    clear hb1 f1 f2 hlt1 hs q2 hbe
    go_wp2_with (go_at_call 11; refine (HV.out _ g2 q1 Q2.out q3).mono ?_; rintro e w3 ⟨⟨v3, rfl⟩, f3⟩; revert f3)
    intro f3
    have hb3 := f3.blk hb2 (by simp)
    clear k0 k1 k2 k3 k4
    go_wp2_with fail
    refine wp_region_D (fun w' => Blk w' b [.string root, .int .i64 n, .int .i64 i, .string tag, .slice la m lc]) true [] (by kernel_rfl) ?_
    refine WD.free [0, 2, 4, 6, 9, 13] (by kernel_rfl) hb3.drew ?_
    simp only [pick, List.toList_toArray, List.map_cons, List.map_nil, List.getD_cons_succ, List.getD_cons_zero]
    repeat (first | (refine quiet_load_1R (by rfl) _ _ rfl rfl (.string root) (fun w0 h => h.cell 0) _ Try.underlying9 rfl ?_; simp only [World.size_alloc, World.size_drew, Act.put, List.setIfInBounds_toArray, List.set_cons_succ, List.set_cons_zero]) | (refine quiet_load_1R (by rfl) _ _ rfl rfl (.int .i64 n) (fun w0 h => h.cell 1) _ Try.underlying3 rfl ?_; simp only [World.size_alloc, World.size_drew, Act.put, List.setIfInBounds_toArray, List.set_cons_succ, List.set_cons_zero]) | (refine quiet_load_1R (by rfl) _ _ rfl rfl (.int .i64 i) (fun w0 h => h.cell 2) _ Try.underlying3 rfl ?_; simp only [World.size_alloc, World.size_drew, Act.put, List.setIfInBounds_toArray, List.set_cons_succ, List.set_cons_zero]) | (refine quiet_load_1R (by rfl) _ _ rfl rfl (.string tag) (fun w0 h => h.cell 3) _ Try.underlying9 rfl ?_; simp only [World.size_alloc, World.size_drew, Act.put, List.setIfInBounds_toArray, List.set_cons_succ, List.set_cons_zero]) | (refine quiet_load_1R (by rfl) _ _ rfl rfl (.slice la m lc) (fun w0 h => h.cell 4) _ Try.underlying22 rfl ?_; simp only [World.size_alloc, World.size_drew, Act.put, List.setIfInBounds_toArray, List.set_cons_succ, List.set_cons_zero]) | go_big_quiet_step (fail))
    refine wpQuiet_nil ?_
    refine WD.held [1, 3, 5, 7, 10] (by kernel_rfl) hb3.drew ?_
    simp only [pick, List.toList_toArray, List.map_cons, List.map_nil, List.getD_cons_succ, List.getD_cons_zero]
    repeat (first | (refine quiet_load_1R (by rfl) _ _ rfl rfl (.string root) (fun w0 h => h.cell 0) _ Try.underlying9 rfl ?_; simp only [World.size_alloc, World.size_drew, Act.put, List.setIfInBounds_toArray, List.set_cons_succ, List.set_cons_zero]) | (refine quiet_load_1R (by rfl) _ _ rfl rfl (.int .i64 n) (fun w0 h => h.cell 1) _ Try.underlying3 rfl ?_; simp only [World.size_alloc, World.size_drew, Act.put, List.setIfInBounds_toArray, List.set_cons_succ, List.set_cons_zero]) | (refine quiet_load_1R (by rfl) _ _ rfl rfl (.int .i64 i) (fun w0 h => h.cell 2) _ Try.underlying3 rfl ?_; simp only [World.size_alloc, World.size_drew, Act.put, List.setIfInBounds_toArray, List.set_cons_succ, List.set_cons_zero]) | (refine quiet_load_1R (by rfl) _ _ rfl rfl (.string tag) (fun w0 h => h.cell 3) _ Try.underlying9 rfl ?_; simp only [World.size_alloc, World.size_drew, Act.put, List.setIfInBounds_toArray, List.set_cons_succ, List.set_cons_zero]) | (refine quiet_load_1R (by rfl) _ _ rfl rfl (.slice la m lc) (fun w0 h => h.cell 4) _ Try.underlying22 rfl ?_; simp only [World.size_alloc, World.size_drew, Act.put, List.setIfInBounds_toArray, List.set_cons_succ, List.set_cons_zero]) | go_big_quiet_step (fail))
    refine wpQuiet_nil ?_
    refine WD.eff 8 (by kernel_rfl) ?_
    simp only [pick, List.toList_toArray, List.map_cons, List.map_nil, List.getD_cons_succ, List.getD_cons_zero]
    go_wp2_with fail
    have hb4 := hb3.drew.old (.cells #[] 9)
    have g3 := g2.trans' f3
    have g4 : Fr [] w (w3.drew.alloc (.cells #[] 9)) := g3.drew.alloc _
    have hkp := H.out.keep g4 (by simp)
    rw [Hm.out] at hkp
    have hown : Xr.Own (w3.drew.alloc (.cells #[] 9)) 1 (.slice (some ⟨w3.drew.heap.size, 0, none⟩) 0 0) 0 [] (some w3.drew.heap.size) :=
      Own.blk (cs := []) (Blk.alloc w3.drew [] _) (Nat.le_refl _) (by simp) (by simp)
    have hlt3 := hb3.lt
    try refine wpList_nil ?_
    refine AfterD.on hb4 (by kernel_rfl) ?_
    try simp only [World.size_alloc, World.size_drew, Act.put, List.setIfInBounds_toArray, List.set_cons_succ, List.set_cons_zero]
    refine WD.eff 11 (by kernel_rfl) ?_
    simp only [pick, List.toList_toArray, List.map_cons, List.map_nil, List.getD_cons_succ, List.getD_cons_zero]
    go_wp2_with (refine wpList_append_rc rfl _ _ _ rfl 9 _ _ 1 16 Try.underlying22 Hi.out Hz.out Hs.out Hb.out rfl (by decide) rfl hown rfl hkp (str_one l) (by unfold maxLen; omega) (by omega) ?_; intro v5 w5 B5 ho5 f5 hB5; simp only [World.size_alloc, World.size_drew, Act.put, List.setIfInBounds_toArray, List.set_cons_succ, List.set_cons_zero])
    have hb5 := f5.blk hb4 (by simp; omega)
    have g5 : Fr [] w w5 := g4.trans f5 (by intro y hy; simp at hy; have := g3.size; exact .inr (by rw [hy]; exact this))
    have hr5 : Rc w5 1 v5 l.length (l.map .string) B5 := rc_as ho5.rd.rc (by rw [Hm.out]; omega) (by simp)
    rw [Hm.out] at hr5
    have hw5 := HW.out _ _ _ hr5 q1 Q2.out q3
    have Hw5 := hid hw5
    obtain ⟨va5, vc5, rfl⟩ := ho5.isSlice
    rw [Nat.zero_add] at Hw5 ⊢
    clear hown hkp ho5 hr5 hw5 hB5 hb4 hb2 hb3 f5 hlt3
    try refine wpList_nil ?_
    refine AfterD.on hb5 (by kernel_rfl) ?_
    try simp only [World.size_alloc, World.size_drew, Act.put, List.setIfInBounds_toArray, List.set_cons_succ, List.set_cons_zero]
    refine WD.eff 12 (by kernel_rfl) ?_
    simp only [pick, List.toList_toArray, List.map_cons, List.map_nil, List.getD_cons_succ, List.getD_cons_zero]
    go_wp2_with (go_at_call 12; refine Hw5.out.mono ?_; rintro e w6 ⟨rfl, f6⟩)
    have hb6 := f6.blk hb5 (by simp)
    try refine wpList_nil ?_
    refine AfterD.on hb6 (by kernel_rfl) ?_
    try simp only [World.size_alloc, World.size_drew, Act.put, List.setIfInBounds_toArray, List.set_cons_succ, List.set_cons_zero]
    refine WD.pure [14, 15] (by kernel_rfl) hb6 ?_
    simp only [pick, List.toList_toArray, List.map_cons, List.map_nil, List.getD_cons_succ, List.getD_cons_zero]
    repeat (first | (refine quiet_load_1R (by rfl) _ _ rfl rfl (.string root) (fun w0 h => h.cell 0) _ Try.underlying9 rfl ?_; simp only [World.size_alloc, World.size_drew, Act.put, List.setIfInBounds_toArray, List.set_cons_succ, List.set_cons_zero]) | (refine quiet_load_1R (by rfl) _ _ rfl rfl (.int .i64 n) (fun w0 h => h.cell 1) _ Try.underlying3 rfl ?_; simp only [World.size_alloc, World.size_drew, Act.put, List.setIfInBounds_toArray, List.set_cons_succ, List.set_cons_zero]) | (refine quiet_load_1R (by rfl) _ _ rfl rfl (.int .i64 i) (fun w0 h => h.cell 2) _ Try.underlying3 rfl ?_; simp only [World.size_alloc, World.size_drew, Act.put, List.setIfInBounds_toArray, List.set_cons_succ, List.set_cons_zero]) | (refine quiet_load_1R (by rfl) _ _ rfl rfl (.string tag) (fun w0 h => h.cell 3) _ Try.underlying9 rfl ?_; simp only [World.size_alloc, World.size_drew, Act.put, List.setIfInBounds_toArray, List.set_cons_succ, List.set_cons_zero]) | (refine quiet_load_1R (by rfl) _ _ rfl rfl (.slice la m lc) (fun w0 h => h.cell 4) _ Try.underlying22 rfl ?_; simp only [World.size_alloc, World.size_drew, Act.put, List.setIfInBounds_toArray, List.set_cons_succ, List.set_cons_zero]) | go_big_quiet_step (fail))
    refine wpQuiet_nil ?_
    refine WD.eff 16 (by kernel_rfl) ?_
    simp only [pick, List.toList_toArray, List.map_cons, List.map_nil, List.getD_cons_succ, List.getD_cons_zero]
    go_wp2_with (go_at_call 10; refine alive_any.mono ?_; rintro e w7 ⟨rfl, f7⟩)
    have hb7 := f7.blk hb6 (by simp)
    try refine wpList_nil ?_
    refine AfterD.on hb7 (by kernel_rfl) ?_
    try simp only [World.size_alloc, World.size_drew, Act.put, List.setIfInBounds_toArray, List.set_cons_succ, List.set_cons_zero]
    refine WD.pure [17, 18] (by kernel_rfl) hb7 ?_
    simp only [pick, List.toList_toArray, List.map_cons, List.map_nil, List.getD_cons_succ, List.getD_cons_zero]
    repeat (first | (refine quiet_load_1R (by rfl) _ _ rfl rfl (.string root) (fun w0 h => h.cell 0) _ Try.underlying9 rfl ?_; simp only [World.size_alloc, World.size_drew, Act.put, List.setIfInBounds_toArray, List.set_cons_succ, List.set_cons_zero]) | (refine quiet_load_1R (by rfl) _ _ rfl rfl (.int .i64 n) (fun w0 h => h.cell 1) _ Try.underlying3 rfl ?_; simp only [World.size_alloc, World.size_drew, Act.put, List.setIfInBounds_toArray, List.set_cons_succ, List.set_cons_zero]) | (refine quiet_load_1R (by rfl) _ _ rfl rfl (.int .i64 i) (fun w0 h => h.cell 2) _ Try.underlying3 rfl ?_; simp only [World.size_alloc, World.size_drew, Act.put, List.setIfInBounds_toArray, List.set_cons_succ, List.set_cons_zero]) | (refine quiet_load_1R (by rfl) _ _ rfl rfl (.string tag) (fun w0 h => h.cell 3) _ Try.underlying9 rfl ?_; simp only [World.size_alloc, World.size_drew, Act.put, List.setIfInBounds_toArray, List.set_cons_succ, List.set_cons_zero]) | (refine quiet_load_1R (by rfl) _ _ rfl rfl (.slice la m lc) (fun w0 h => h.cell 4) _ Try.underlying22 rfl ?_; simp only [World.size_alloc, World.size_drew, Act.put, List.setIfInBounds_toArray, List.set_cons_succ, List.set_cons_zero]) | go_big_quiet_step (fail))
    refine wpQuiet_nil ?_
    refine WD.done (by kernel_rfl) ?_
    go_wp2_with fail
    go_ret
    exact ⟨rfl, (g5.trans' f6).trans' f7⟩
  · have d1 : decide ((8192 : Int) < (s : Int)) = true := by simp; omega
    go_wp2_with (go_at_call 10; refine alive_any.mono ?_; rintro e w3 ⟨rfl, f3⟩)
    go_ret
    exact ⟨rfl, g2.trans' f3⟩
end Go.Proofs.Ythfjjencnfebmaa.mer
