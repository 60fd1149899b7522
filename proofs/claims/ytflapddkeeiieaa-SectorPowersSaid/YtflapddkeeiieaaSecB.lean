/- Layer 6, sector: the clones; New; Read; Flush. -/
import Derived.Test.YtflapddkeeiieaaSecW
import Derived.Test.YtflapddkeeiieaaHeld
namespace Go.Proofs.Ytflapddkeeiieaa
open Go Go.Xr Go.RowKit
set_option linter.unusedVariables false
set_option linter.unusedSimpArgs false

theorem inf73' : ∃ i z, Try.prog.info? 73 = some i ∧ i.zero = some z ∧ i.size = 512 ∧ i.bytes = 512 ∧ z.cells.size = 512 := by
  refine ⟨_, _, rfl, rfl, rfl, rfl, ?_⟩
  kernel_rfl
theorem inf3' : ∃ i z, Try.prog.info? 3 = some i ∧ i.zero = some z ∧ i.size = 1 ∧ i.bytes = 8 ∧ z.cells.size = 1 := ⟨_, _, rfl, rfl, rfl, rfl, rfl⟩


theorem cloneS_nil (w : World) : Calls Try.prog 36 #[.slice none 0 0] w fun e w' => e = .returned (.slice none 0 0) ∧ w = w' := by
  have hsn := @Lib.run_eql_slice_nil
  go_enter Try.func36, Try.ntmps36
  go_wp2
  go_ret
  exact ⟨rfl, rfl⟩

set_option maxRecDepth 20000 in
theorem cloneS_any {w : World} {v : Value} {n : Nat} {xs : List Value} {b : Nat} (h : Own w 512 v n xs (some b)) (h1 : ∀ u ∈ xs, u.oneCell' = true) (hm : n ≤ maxLen) (hb : n * 512 ≤ 140737488355328) :
    Calls Try.prog 36 #[v] w fun e w' => ∃ v' b', e = .returned v' ∧ Own w' 512 v' n xs (some b') ∧ w.heap.size ≤ b' ∧ Fr [] w w' := by
  obtain ⟨i0, z0, hi0, hz0, hs0, hb0, hzc0⟩ := inf73'
  have Hi := hid hi0
  have Hz := hid hz0
  have Hs := hid hs0
  have Hb := hid hb0
  have Hzc := hid hzc0
  clear hi0 hz0 hs0 hb0 hzc0
  have hsn := @Lib.run_eql_slice_nil
  have HX := hid h.1
  obtain ⟨cap, cs, rfl, h2, h3, h4, h5, h6⟩ : ∃ cap cs, v = .slice (some ⟨b, 0, none⟩) n cap ∧ n ≤ cap ∧ cap ≤ maxLen ∧ Blk w b cs ∧ cs.length = cap * 512 ∧ cs.take (n * 512) = xs := by
    rcases h.2 with ⟨_, _, h2⟩ | ⟨b', cap, cs, h1, h2⟩
    · cases h2
    · cases h1; exact ⟨cap, cs, h2⟩
  have H6 := hid h6
  have H5 := hid h5
  clear h6 h5 h
  have ho : Own (w.alloc (.cells #[] 73)) 512 (.slice (some ⟨w.heap.size, 0, none⟩) 0 0) 0 [] (some w.heap.size) :=
    Own.blk (cs := []) (Blk.alloc w [] _) (Nat.le_refl _) (by simp) (by simp)
  have hcl := (h4.old (.cells #[] 73)).cells (off := 0) (vs := xs) (by rw [List.drop_zero, HX.out]; exact H6.out)
  go_enter Try.func36, Try.ntmps36
  go_wp2_with (refine wpList_append rfl _ _ _ rfl 73 _ _ 512 512 Try.underlying67 Hi.out Hz.out Hs.out Hb.out Hzc.out (by decide) rfl ho _ n cap xs rfl HX.out hcl h1 (by omega) (by omega) ?_; intro v' w1 B' ho1 f1 hB'; simp only [World.size_alloc, World.size_drew, Act.put, List.setIfInBounds_toArray, List.set_cons_succ, List.set_cons_zero])
  go_ret
  simp only [Nat.zero_add, List.nil_append] at ho1
  have f2 : Fr [] w w1 := ((Fr.refl [] w).alloc _).trans f1 (fun x hx => .inr (by simp at hx; omega))
  rcases hB' with rfl | ⟨b', rfl, hge⟩
  · exact ⟨v', _, rfl, ho1, Nat.le_refl _, f2⟩
  · exact ⟨v', b', rfl, ho1, by simp at hge; omega, f2⟩


theorem cloneI_nil (w : World) : Calls Try.prog 50 #[.slice none 0 0] w fun e w' => e = .returned (.slice none 0 0) ∧ w = w' := by
  have hsn := @Lib.run_eql_slice_nil
  go_enter Try.func50, Try.ntmps50
  go_wp2
  go_ret
  exact ⟨rfl, rfl⟩

set_option maxRecDepth 20000 in
theorem cloneI_any {w : World} {v : Value} {n : Nat} {xs : List Value} {b : Nat} (h : Own w 1 v n xs (some b)) (h1 : ∀ u ∈ xs, u.oneCell' = true) (hm : n ≤ maxLen) (hb : n * 8 ≤ 140737488355328) :
    Calls Try.prog 50 #[v] w fun e w' => ∃ v' b', e = .returned v' ∧ Own w' 1 v' n xs (some b') ∧ w.heap.size ≤ b' ∧ Fr [] w w' := by
  obtain ⟨i0, z0, hi0, hz0, hs0, hb0, hzc0⟩ := inf3'
  have Hi := hid hi0
  have Hz := hid hz0
  have Hs := hid hs0
  have Hb := hid hb0
  have Hzc := hid hzc0
  clear hi0 hz0 hs0 hb0 hzc0
  have hsn := @Lib.run_eql_slice_nil
  have HX := hid h.1
  obtain ⟨cap, cs, rfl, h2, h3, h4, h5, h6⟩ : ∃ cap cs, v = .slice (some ⟨b, 0, none⟩) n cap ∧ n ≤ cap ∧ cap ≤ maxLen ∧ Blk w b cs ∧ cs.length = cap * 1 ∧ cs.take (n * 1) = xs := by
    rcases h.2 with ⟨_, _, h2⟩ | ⟨b', cap, cs, h1, h2⟩
    · cases h2
    · cases h1; exact ⟨cap, cs, h2⟩
  have H6 := hid h6
  have H5 := hid h5
  clear h6 h5 h
  have ho : Own (w.alloc (.cells #[] 3)) 1 (.slice (some ⟨w.heap.size, 0, none⟩) 0 0) 0 [] (some w.heap.size) :=
    Own.blk (cs := []) (Blk.alloc w [] _) (Nat.le_refl _) (by simp) (by simp)
  have hcl := (h4.old (.cells #[] 3)).cells (off := 0) (vs := xs) (by rw [List.drop_zero, HX.out]; exact H6.out)
  go_enter Try.func50, Try.ntmps50
  go_wp2_with (refine wpList_append rfl _ _ _ rfl 3 _ _ 1 8 Try.underlying37 Hi.out Hz.out Hs.out Hb.out Hzc.out (by decide) rfl ho _ n cap xs rfl HX.out hcl h1 (by omega) (by omega) ?_; intro v' w1 B' ho1 f1 hB'; simp only [World.size_alloc, World.size_drew, Act.put, List.setIfInBounds_toArray, List.set_cons_succ, List.set_cons_zero])
  go_ret
  simp only [Nat.zero_add, List.nil_append] at ho1
  have f2 : Fr [] w w1 := ((Fr.refl [] w).alloc _).trans f1 (fun x hx => .inr (by simp at hx; omega))
  rcases hB' with rfl | ⟨b', rfl, hge⟩
  · exact ⟨v', _, rfl, ho1, Nat.le_refl _, f2⟩
  · exact ⟨v', b', rfl, ho1, by simp at hge; omega, f2⟩


theorem cloneW_nil (w : World) : Calls Try.prog 52 #[.slice none 0 0] w fun e w' => e = .returned (.slice none 0 0) ∧ w = w' := by
  have hsn := @Lib.run_eql_slice_nil
  go_enter Try.func52, Try.ntmps52
  go_wp2
  go_ret
  exact ⟨rfl, rfl⟩

set_option maxRecDepth 20000 in
theorem cloneW_any {w : World} {v : Value} {n : Nat} {xs : List Value} {b : Nat} (h : Own w 513 v n xs (some b)) (h1 : ∀ u ∈ xs, u.oneCell' = true) (hm : n ≤ maxLen) (hb : n * 520 ≤ 140737488355328) :
    Calls Try.prog 52 #[v] w fun e w' => ∃ v' b', e = .returned v' ∧ Own w' 513 v' n xs (some b') ∧ w.heap.size ≤ b' ∧ Fr [] w w' := by
  obtain ⟨i0, z0, hi0, hz0, hs0, hb0, hzc0⟩ := inf77
  have Hi := hid hi0
  have Hz := hid hz0
  have Hs := hid hs0
  have Hb := hid hb0
  have Hzc := hid hzc0
  clear hi0 hz0 hs0 hb0 hzc0
  have hsn := @Lib.run_eql_slice_nil
  have HX := hid h.1
  obtain ⟨cap, cs, rfl, h2, h3, h4, h5, h6⟩ : ∃ cap cs, v = .slice (some ⟨b, 0, none⟩) n cap ∧ n ≤ cap ∧ cap ≤ maxLen ∧ Blk w b cs ∧ cs.length = cap * 513 ∧ cs.take (n * 513) = xs := by
    rcases h.2 with ⟨_, _, h2⟩ | ⟨b', cap, cs, h1, h2⟩
    · cases h2
    · cases h1; exact ⟨cap, cs, h2⟩
  have H6 := hid h6
  have H5 := hid h5
  clear h6 h5 h
  have ho : Own (w.alloc (.cells #[] 77)) 513 (.slice (some ⟨w.heap.size, 0, none⟩) 0 0) 0 [] (some w.heap.size) :=
    Own.blk (cs := []) (Blk.alloc w [] _) (Nat.le_refl _) (by simp) (by simp)
  have hcl := (h4.old (.cells #[] 77)).cells (off := 0) (vs := xs) (by rw [List.drop_zero, HX.out]; exact H6.out)
  go_enter Try.func52, Try.ntmps52
  go_wp2_with (refine wpList_append rfl _ _ _ rfl 77 _ _ 513 520 Try.underlying68 Hi.out Hz.out Hs.out Hb.out Hzc.out (by decide) rfl ho _ n cap xs rfl HX.out hcl h1 (by omega) (by omega) ?_; intro v' w1 B' ho1 f1 hB'; simp only [World.size_alloc, World.size_drew, Act.put, List.setIfInBounds_toArray, List.set_cons_succ, List.set_cons_zero])
  go_ret
  simp only [Nat.zero_add, List.nil_append] at ho1
  have f2 : Fr [] w w1 := ((Fr.refl [] w).alloc _).trans f1 (fun x hx => .inr (by simp at hx; omega))
  rcases hB' with rfl | ⟨b', rfl, hge⟩
  · exact ⟨v', _, rfl, ho1, Nat.le_refl _, f2⟩
  · exact ⟨v', b', rfl, ho1, by simp at hge; omega, f2⟩


def zsec : List UInt8 := List.replicate 512 0
def newSD (n : Nat) : SD := ⟨List.replicate n zsec, List.replicate n zsec, [], [], false⟩

theorem fl_zero (n : Nat) : fl (List.replicate n zsec) = List.replicate (n * 512) (bt 0) := by
  unfold fl zsec
  rw [List.flatten_replicate_replicate, bv_replicate]

theorem new_good (n : Nat) (h1 : 1 ≤ n) (h2 : n ≤ 16384) : Good (newSD n) := by
  refine ⟨by simp [newSD], by simp [newSD]; omega, by simp [newSD]; omega, ?_, ?_, ?_⟩
  · intro s hs
    rw [List.eq_of_mem_replicate hs]
    exact List.length_replicate
  · intro s hs
    rw [List.eq_of_mem_replicate hs]
    exact List.length_replicate
  · intro p hp
    simp [newSD] at hp

theorem new_fin {w' : World} {a b d n : Nat} (h1 : 1 ≤ n) (h2 : n ≤ 16384) (ha : Blk w' a (List.replicate (n * 512) (bt 0))) (hb : Blk w' b (List.replicate (n * 512) (bt 0)))
    (hd : Blk w' d [.slice (some ⟨a, 0, none⟩) n n, .slice (some ⟨b, 0, none⟩) n n, .slice none 0 0, .slice none 0 0, .bool false, .pointer none]) (hab : a ≠ b) (had : d ≠ a) (hbd : d ≠ b) :
    Rep w' d (newSD n) none [d, a, b] := by
  have hm : n ≤ maxLen := by unfold maxLen; omega
  refine ⟨new_good n h1 h2, _, _, _, _, a, b, none, none, rfl, by simp [had, hbd, hab], hd, ?_, ?_, Xr.Own.nil _ _, Xr.Own.nil _ _⟩
  · have := Xr.Own.blk (n := n) (cap := n) (size := 512) ha (Nat.le_refl _) hm (by simp)
    simpa [newSD, fl_zero] using this
  · have := Xr.Own.blk (n := n) (cap := n) (size := 512) hb (Nat.le_refl _) hm (by simp)
    simpa [newSD, fl_zero] using this

theorem new_bad {w : World} (n : Int) (h : n < 1 ∨ 16384 < n) (h1 : -9223372036854775808 ≤ n) (h2 : n ≤ 9223372036854775807) :
    Calls Try.prog 8 #[.int .i64 n] w fun e w' => e = .returned (.tuple #[.pointer none, .int .i64 2]) ∧ w = w' := by
  by_cases h3 : n < 1
  · go_enter Try.func8, Try.ntmps8
    go_wp2
    go_ret2
    exact ⟨rfl, rfl⟩
  · have h4 : 16384 < n := by omega
    go_enter Try.func8, Try.ntmps8
    go_wp2
    go_ret2
    exact ⟨rfl, rfl⟩

set_option maxRecDepth 20000 in
theorem new_ok {w : World} (n : Nat) (h1 : 1 ≤ n) (h2 : n ≤ 16384) :
    Calls Try.prog 8 #[.int .i64 n] w fun e w' => ∃ d F, e = .returned (.tuple #[.pointer (some ⟨d, 0, none⟩), .int .i64 0]) ∧ Rep w' d (newSD n) none F ∧ Fr [] w w' ∧ ∀ x ∈ F, w.heap.size ≤ x := by
  obtain ⟨i73, z73, hi73, hz73, hs73, hb73, hzc73⟩ := inf73
  have Hi := hid hi73
  have Hz := hid hz73
  have Hs := hid hs73
  have Hb := hid hb73
  have Hzc := hid hzc73
  clear hi73 hz73 hs73 hb73 hzc73
  go_enter Try.func8, Try.ntmps8
  go_wp2_with fail
  obtain ⟨ι, W, hι, hW1, hW2, hW0⟩ := family (fun w' => True) (w := w.drew) trivial
  have HW1 := hid hW1
  have HW2 := hid hW2
  have HW0 := hid hW0
  clear hW1 hW2 hW0
  refine wp_region_X (fun w' => ∃ j, w' = W j) true (by kernel_rfl) ?_
  refine WX.pure [0, 2] (by kernel_rfl) HW0.out ?_
  simp only [pick, List.toList_toArray, List.map_cons, List.map_nil, List.getD_cons_succ, List.getD_cons_zero]
  repeat (go_big_quiet_step (fail))
  refine wpQuiet_nil ?_
  refine WX.eff2 1 3 (by kernel_rfl) ?_ ?_
  · simp only [pick, List.toList_toArray, List.map_cons, List.map_nil, List.getD_cons_succ, List.getD_cons_zero]
    refine wpList_make rfl _ _ _ rfl n n .i64 .i64 rfl rfl 73 _ _ _ 512 512 Try.underlying67 Hi.out Hz.out Hs.out Hb.out Hzc.out (by decide) (Nat.le_refl _) (by omega) (by omega) ?_
    intro hb1
    refine wpList_nil ?_
    simp only [World.size_alloc, World.size_drew, Act.put, List.setIfInBounds_toArray, List.set_cons_succ, List.set_cons_zero]
    refine After.on (HW2.out _ trivial) ?_
    refine WX.eff 3 (by kernel_rfl) ?_
    simp only [pick, List.toList_toArray, List.map_cons, List.map_nil, List.getD_cons_succ, List.getD_cons_zero]
    refine wpList_make rfl _ _ _ rfl n n .i64 .i64 rfl rfl 73 _ _ _ 512 512 Try.underlying67 Hi.out Hz.out Hs.out Hb.out Hzc.out (by decide) (Nat.le_refl _) (by omega) (by omega) ?_
    intro hb2
    refine wpList_nil ?_
    simp only [World.size_alloc, World.size_drew, Act.put, List.setIfInBounds_toArray, List.set_cons_succ, List.set_cons_zero]
    refine After.on (HW2.out _ trivial) ?_
    refine WX.pure [4] (by kernel_rfl) (HW2.out _ trivial) ?_
    simp only [pick, List.toList_toArray, List.map_cons, List.map_nil, List.getD_cons_succ, List.getD_cons_zero]
    repeat (go_big_quiet_step (fail))
    refine wpQuiet_nil ?_
    refine WX.eff 5 (by kernel_rfl) ?_
    simp only [pick, List.toList_toArray, List.map_cons, List.map_nil, List.getD_cons_succ, List.getD_cons_zero]
    go_wp2_with fail
    refine After.on (HW2.out _ trivial) ?_
    refine WX.pure [6, 7] (by kernel_rfl) (HW2.out _ trivial) ?_
    simp only [pick, List.toList_toArray, List.map_cons, List.map_nil, List.getD_cons_succ, List.getD_cons_zero]
    repeat (go_big_quiet_step (fail))
    refine wpQuiet_nil ?_
    refine WX.done (by kernel_rfl) ?_
    go_wp2_with fail
    refine bodyPost_ret (results_tmp2 rfl _ _ _) rfl ?_
    have e1 : Blk (w.alloc (.cells (Array.replicate (n * 512) (bt 0)) 73)) w.heap.size (List.replicate (n * 512) (bt 0)) := by
      have := Blk.allocArr w (Array.replicate (n * 512) (bt 0)) 73
      rwa [Array.toList_replicate] at this
    have e2 := Blk.allocArr (w.alloc (.cells (Array.replicate (n * 512) (bt 0)) 73)) (Array.replicate (n * 512) (bt 0)) 73
    rw [Array.toList_replicate, World.size_alloc] at e2
    have e3 := Blk.allocArr ((w.alloc (.cells (Array.replicate (n * 512) (bt 0)) 73)).alloc (.cells (Array.replicate (n * 512) (bt 0)) 73)) #[Value.slice (some ⟨w.heap.size, 0, none⟩) n n, .slice (some ⟨w.heap.size + 1, 0, none⟩) n n, .slice none 0 0, .slice none 0 0, .bool false, .pointer none] 70
    rw [World.size_alloc, World.size_alloc] at e3
    refine ⟨w.heap.size + 1 + 1, _, rfl, new_fin h1 h2 ((e1.old _).old _).drew (e2.old _).drew e3.drew (by omega) (by omega) (by omega), ((((Fr.refl [] w).alloc _).alloc _).alloc _).drew, fun x hx => by simp at hx; omega⟩
  · simp only [pick, List.toList_toArray, List.map_cons, List.map_nil, List.getD_cons_succ, List.getD_cons_zero]
    refine wpList_make rfl _ _ _ rfl n n .i64 .i64 rfl rfl 73 _ _ _ 512 512 Try.underlying67 Hi.out Hz.out Hs.out Hb.out Hzc.out (by decide) (Nat.le_refl _) (by omega) (by omega) ?_
    intro hb1
    refine wpList_nil ?_
    simp only [World.size_alloc, World.size_drew, Act.put, List.setIfInBounds_toArray, List.set_cons_succ, List.set_cons_zero]
    refine After.on (HW2.out _ trivial) ?_
    refine WX.eff 1 (by kernel_rfl) ?_
    simp only [pick, List.toList_toArray, List.map_cons, List.map_nil, List.getD_cons_succ, List.getD_cons_zero]
    refine wpList_make rfl _ _ _ rfl n n .i64 .i64 rfl rfl 73 _ _ _ 512 512 Try.underlying67 Hi.out Hz.out Hs.out Hb.out Hzc.out (by decide) (Nat.le_refl _) (by omega) (by omega) ?_
    intro hb2
    refine wpList_nil ?_
    simp only [World.size_alloc, World.size_drew, Act.put, List.setIfInBounds_toArray, List.set_cons_succ, List.set_cons_zero]
    refine After.on (HW2.out _ trivial) ?_
    refine WX.pure [4] (by kernel_rfl) (HW2.out _ trivial) ?_
    simp only [pick, List.toList_toArray, List.map_cons, List.map_nil, List.getD_cons_succ, List.getD_cons_zero]
    repeat (go_big_quiet_step (fail))
    refine wpQuiet_nil ?_
    refine WX.eff 5 (by kernel_rfl) ?_
    simp only [pick, List.toList_toArray, List.map_cons, List.map_nil, List.getD_cons_succ, List.getD_cons_zero]
    go_wp2_with fail
    refine After.on (HW2.out _ trivial) ?_
    refine WX.pure [6, 7] (by kernel_rfl) (HW2.out _ trivial) ?_
    simp only [pick, List.toList_toArray, List.map_cons, List.map_nil, List.getD_cons_succ, List.getD_cons_zero]
    repeat (go_big_quiet_step (fail))
    refine wpQuiet_nil ?_
    refine WX.done (by kernel_rfl) ?_
    go_wp2_with fail
    refine bodyPost_ret (results_tmp2 rfl _ _ _) rfl ?_
    have e1 : Blk (w.alloc (.cells (Array.replicate (n * 512) (bt 0)) 73)) w.heap.size (List.replicate (n * 512) (bt 0)) := by
      have := Blk.allocArr w (Array.replicate (n * 512) (bt 0)) 73
      rwa [Array.toList_replicate] at this
    have e2 := Blk.allocArr (w.alloc (.cells (Array.replicate (n * 512) (bt 0)) 73)) (Array.replicate (n * 512) (bt 0)) 73
    rw [Array.toList_replicate, World.size_alloc] at e2
    have e3 := Blk.allocArr ((w.alloc (.cells (Array.replicate (n * 512) (bt 0)) 73)).alloc (.cells (Array.replicate (n * 512) (bt 0)) 73)) #[Value.slice (some ⟨w.heap.size + 1, 0, none⟩) n n, .slice (some ⟨w.heap.size, 0, none⟩) n n, .slice none 0 0, .slice none 0 0, .bool false, .pointer none] 70
    rw [World.size_alloc, World.size_alloc] at e3
    refine ⟨w.heap.size + 1 + 1, _, rfl, new_fin h1 h2 (e2.old _).drew ((e1.old _).old _).drew e3.drew (by omega) (by omega) (by omega), ((((Fr.refl [] w).alloc _).alloc _).alloc _).drew, fun x hx => by simp at hx; omega⟩

/-- A disk's parts, held apart. -/
def parts (d : Nat) (D : SD) (pw : Option (Nat × Nat)) (kv nv lv tv : Value) (k n : Nat) (L T : Option Nat) : List Res :=
  [Res.blk d [kv, nv, lv, tv, .bool D.dead, pwv pw], Res.own 512 kv D.kept.length (fl D.kept) (some k), Res.own 512 nv D.now.length (fl D.now) (some n), Res.own 513 lv D.loose.length (wlc D.loose) L, Res.own 1 tv D.trace.length (D.trace.map (.int .i64)) T]

theorem feet_parts (d : Nat) (D : SD) (pw : Option (Nat × Nat)) (kv nv lv tv : Value) (k n : Nat) (L T : Option Nat) : feetOf (parts d D pw kv nv lv tv k n L T) = feet d k n L T := by
  simp [feetOf, parts, feet, Res.blk, Res.own]

theorem Rep.held {w : World} {d : Nat} {D : SD} {pw : Option (Nat × Nat)} {F : List Nat} (h : Rep w d D pw F) :
    ∃ kv nv lv tv k n L T, F = feet d k n L T ∧ Held w (parts d D pw kv nv lv tv k n L T) := by
  obtain ⟨kv, nv, lv, tv, k, n, L, T, hF, hnd, hb, hk, hn, hl, ht⟩ := h.mem
  refine ⟨kv, nv, lv, tv, k, n, L, T, hF, ?_, ?_, ?_, ?_⟩
  · intro r hr
    simp only [parts, List.mem_cons, List.not_mem_nil, or_false] at hr
    rcases hr with rfl | rfl | rfl | rfl | rfl
    · exact (Res.On.blk hb).loc
    · exact (Res.On.own hk).loc
    · exact (Res.On.own hn).loc
    · exact (Res.On.own hl).loc
    · exact (Res.On.own ht).loc
  · intro r hr
    simp only [parts, List.mem_cons, List.not_mem_nil, or_false] at hr
    rcases hr with rfl | rfl | rfl | rfl | rfl
    · exact hb
    · exact hk
    · exact hn
    · exact hl
    · exact ht
  · intro r hr
    simp only [parts, List.mem_cons, List.not_mem_nil, or_false] at hr
    rcases hr with rfl | rfl | rfl | rfl | rfl
    · exact (Res.On.blk hb).lt
    · exact (Res.On.own hk).lt
    · exact (Res.On.own hn).lt
    · exact (Res.On.own hl).lt
    · exact (Res.On.own ht).lt
  · have := feet_parts d D pw kv nv lv tv k n L T
    unfold feetOf at this
    rw [this, ← hF]
    exact hnd

theorem Rep.ofHeld {w : World} {d : Nat} {D : SD} {pw : Option (Nat × Nat)} {kv nv lv tv : Value} {k n : Nat} {L T : Option Nat} (hg : Good D) (h : Held w (parts d D pw kv nv lv tv k n L T)) : Rep w d D pw (feet d k n L T) := by
  refine ⟨hg, kv, nv, lv, tv, k, n, L, T, rfl, ?_, h.so (.blk _ _) (by simp [parts]), h.so (.own 512 kv _ _ _) (by simp [parts]), h.so (.own 512 nv _ _ _) (by simp [parts]), h.so (.own 513 _ _ _ _) (by simp [parts]), h.so (.own 1 _ _ _ _) (by simp [parts])⟩
  rw [← feet_parts d D pw kv nv lv tv k n L T]
  exact h.apart

def Res.disk (d : Nat) (D : SD) (pw : Option (Nat × Nat)) (F : List Nat) : Res := ⟨F, fun w => Rep w d D pw F⟩
def Res.pow (pw : Option (Nat × Nat)) : Res := ⟨pwF pw, fun w => pwOk w pw⟩

theorem On.disk {w : World} {d : Nat} {D : SD} {pw : Option (Nat × Nat)} {F : List Nat} (h : Rep w d D pw F) : (Res.disk d D pw F).On w := by
  obtain ⟨kv, nv, lv, tv, k, n, L, T, hF, H⟩ := h.held
  refine ⟨?_, h, h.lt, by rw [hF, ← feet_parts d D pw kv nv lv tv]; exact H.apart⟩
  intro w w' hs h
  obtain ⟨kv, nv, lv, tv, k, n, L, T, hF, H⟩ := h.held
  have hF2 := feet_parts d D pw kv nv lv tv k n L T
  have H' : Held w' (parts d D pw kv nv lv tv k n L T) := by
    refine ⟨H.loc, fun r hr => H.loc r hr w w' (fun b hb hlt => hs b ?_ hlt) (H.so r hr), fun r hr b hb => ?_, H.apart⟩
    · show b ∈ F
      rw [hF, ← hF2]
      exact List.mem_flatMap.2 ⟨r, hr, hb⟩
    · have h1 := H.lt r hr b hb
      have h2 := hs b (show b ∈ F by rw [hF, ← hF2]; exact List.mem_flatMap.2 ⟨r, hr, hb⟩) h1
      by_cases h3 : b < w'.heap.size
      · exact h3
      · rw [Array.getElem?_eq_none (by omega), Array.getElem?_eq_getElem h1] at h2
        cases h2
  show Rep w' d D pw F
  rw [hF]
  exact Rep.ofHeld h.good H'

theorem On.pow {w : World} {pw : Option (Nat × Nat)} (h : pwOk w pw) : (Res.pow pw).On w := by
  match pw, h with
  | none, _ => exact ⟨fun _ _ _ _ => trivial, trivial, fun b hb => by simp [Res.pow, pwF] at hb, by simp [Res.pow, pwF]⟩
  | some (p, l), h =>
    refine ⟨fun w w' hs h => ?_, h, fun b hb => ?_, by simp [Res.pow, pwF]⟩
    · exact ⟨h.1.same (hs p (by simp [Res.pow, pwF]) h.1.lt), h.2⟩
    · simp [Res.pow, pwF] at hb
      rw [hb]
      exact h.1.lt

/-- A disk's parts, and its power beside. -/
theorem Rep.full {w : World} {d : Nat} {D : SD} {pw : Option (Nat × Nat)} {F : List Nat} (h : Rep w d D pw F) (hp : pwOk w pw) (hpF : ∀ x ∈ pwF pw, x ∉ F) :
    ∃ kv nv lv tv k n L T, F = feet d k n L T ∧ Held w (Res.pow pw :: parts d D pw kv nv lv tv k n L T) := by
  obtain ⟨kv, nv, lv, tv, k, n, L, T, hF, H⟩ := h.held
  refine ⟨kv, nv, lv, tv, k, n, L, T, hF, H.new (On.pow hp) fun b hb r' hr' hbr => ?_⟩
  refine hpF b hb ?_
  rw [hF, ← feet_parts d D pw kv nv lv tv]
  exact List.mem_flatMap.2 ⟨r', hr', hbr⟩

theorem pwv_dec (pw : Option (Nat × Nat)) : pwv (pwDec pw) = pwv pw := by cases pw <;> rfl
theorem pwF_dec (pw : Option (Nat × Nat)) : pwF (pwDec pw) = pwF pw := by cases pw <;> rfl
end Go.Proofs.Ytflapddkeeiieaa
