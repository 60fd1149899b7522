/- Layer 6, sector: Write. -/
import Derived.Test.YtflapddkeeiieaaSecA
namespace Go.Proofs.Ytflapddkeeiieaa
open Go Go.Xr Go.RowKit
set_option linter.unusedVariables false
set_option linter.unusedSimpArgs false

set_option maxRecDepth 20000 in
theorem inf77 : ∃ i z, Try.prog.info? 77 = some i ∧ i.zero = some z ∧ i.size = 513 ∧ i.bytes = 520 ∧ z.cells.size = 513 := by
  refine ⟨_, _, rfl, rfl, rfl, rfl, ?_⟩
  kernel_rfl
set_option maxRecDepth 20000 in
theorem inf73 : ∃ i z, Try.prog.info? 73 = some i ∧ i.zero = some z ∧ i.size = 512 ∧ i.bytes = 512 ∧ z.cells.toList = List.replicate 512 (bt 0) := by
  refine ⟨_, _, rfl, rfl, rfl, rfl, ?_⟩
  kernel_rfl
set_option maxRecDepth 20000 in
theorem inf3 : ∃ i, Try.prog.info? 3 = some i ∧ i.zero = some (.int .i64 0) ∧ i.size = 1 ∧ i.bytes = 8 := ⟨_, rfl, rfl, rfl, rfl⟩

set_option maxHeartbeats 1000000 in
set_option maxRecDepth 20000 in
theorem write_ok {w : World} {d : Nat} {D : SD} {pw : Option (Nat × Nat)} {F : List Nat} (h : Rep w d D pw F) (hp : pwOk w pw) (hpF : ∀ x ∈ pwF pw, x ∉ F) (i : Nat) (hi : i < D.kept.length) (s : ByteArray) (hs : s.size = 512) (ha : ableN D pw = 0)
    (hll : D.loose.length < 1000000) (htl : D.trace.length < 1000000) :
    Calls Try.prog 11 #[.pointer (some ⟨d, 0, none⟩), .int .i64 i, .string s] w fun e w' => e = .returned (.int .i64 0) ∧
      ∃ F', Rep w' d { D with now := D.now.set i s.data.toList, loose := D.loose ++ [(i, s.data.toList)], trace := D.trace ++ [(i : Int)] } (pwDec pw) F' ∧ pwOk w' (pwDec pw) ∧ Fr (F ++ pwF pw) w w' ∧ ∀ x ∈ F', x ∈ F ∨ w.heap.size ≤ x := by
  have hat : atN D pw i (some s) = 0 := by
    have e1 : outB D i = false := by simp [outB]; omega
    have e2 : badT (some s) = false := by simp [badT, hs]
    simp [atN, ha, e1, e2]
  have hle := h.good.le
  have hat2 : ∀ w1 : World, Fr [] w w1 → ∀ v, txt w1 v (some s) → Calls Try.prog 38 #[.pointer (some ⟨d, 0, none⟩), .int .i64 i, v] w1 fun e w' => e = .returned (.int .i64 0) ∧ w1 = w' := by
    intro w1 f v hv
    have := at_any (h.keep f (by simp)) (hp.keep f (by simp)) i (by omega) (by omega) hv
    rw [hat] at this
    exact this
  obtain ⟨kv, nv, lv, tv, k, n, L, T, hF, hnd, hb, hk, hn, hl, ht⟩ := h.mem
  obtain ⟨ncap, rfl, hncap, hncm⟩ : ∃ cap, nv = .slice (some ⟨n, 0, none⟩) D.now.length cap ∧ D.now.length ≤ cap ∧ cap ≤ maxLen := by
    rcases hn.shape with ⟨_, _, _, h1⟩ | ⟨b, cap, hb1, h1, h2, h3⟩
    · cases h1
    · cases hb1; exact ⟨cap, h1, h2, h3⟩
  have hi2 : i < D.now.length := by rw [← h.good.same]; exact hi
  have hc := hb.cell
  have hsz : s.size ≤ 9223372036854775807 := by omega
  clear hat
  have HS := hid hs
  have Ha := hid ha
  clear hs ha
  have hdl : s.data.toList.length = 512 := by rw [Array.length_toList]; exact HS.out
  have h73 := hid (show (Try.prog.info? 73).map (·.size) = some (bv s.data.toList).length by rw [bv_length, hdl]; rfl)
  have h77 := hid (show (Try.prog.info? 77).map (·.size) = some (Value.int .i64 (i : Int) :: bv s.data.toList).length by rw [List.length_cons, bv_length, hdl]; rfl)
  have Hsc := hid (show 512 ≤ s.size by rw [HS.out]; decide)
  have Hdl := hid hdl
  clear hdl
  obtain ⟨i77, z77, hi77, hz77, hs77, hb77, hzc77⟩ := inf77
  have hp77 := fun w => Xr.run_places (P := Try.prog) [{ name := "i", type := 3, offset := 0, embedded := false, tag := "", pkgPath := "coffer/sector", byteOffset := 0 }, { name := "b", type := 73, offset := 1, embedded := false, tag := "", pkgPath := "coffer/sector", byteOffset := 8 }] [(0, 1), (1, 512)] rfl w
  have Hp77 := hid hp77
  clear hp77
  have Hi77 := hid hi77
  have Hz77 := hid hz77
  have Hs77 := hid hs77
  have Hb77 := hid hb77
  have Hzc77 := hid hzc77
  clear hi77 hz77 hs77 hb77 hzc77
  go_enter Try.func11, Try.ntmps11
  go_wp2_with fail
  refine (hat2 _ ((Fr.refl _ _).alloc _) _ ⟨_, _, rfl, by simp, hsz⟩).mono ?_
  rintro e w1 ⟨rfl, rfl⟩
  clear hat2
  go_wp2_with (first
    | (refine wpList_bytes_of_string rfl _ _ 5 _ rfl _ rfl Try.underlying9 Try.underlying29 Try.underlying5 ?_; intro w2 cap2 f2 hlt2 hb2 hcap2; (try simp only [World.size_alloc] at hlt2 hb2); simp only [World.size_alloc, Act.put, List.setIfInBounds_toArray, List.set_cons_succ, List.set_cons_zero])
    | (refine wpList_arrayAt rfl _ _ rfl 512 _ Try.underlying73 rfl Hsc.out ?_; all_goals (try simp only [World.size_alloc, Act.put, List.setIfInBounds_toArray, List.set_cons_succ, List.set_cons_zero]))
    | (refine wpList_load_agg rfl _ _ rfl rfl (bv s.data.toList) (by assumption) _ Try.underlying73 rfl h73.out ?hv1 ?_; all_goals (try simp only [World.size_alloc, Act.put, List.setIfInBounds_toArray, List.set_cons_succ, List.set_cons_zero]))
    | (refine wpList_build_struct rfl _ _ rfl _ _ _ _ Try.underlying77 Hi77.out Hz77.out Hp77.out (Value.int .i64 (i : Int) :: bv s.data.toList) ?hf1 ?_; all_goals (try simp only [World.size_alloc, Act.put, List.setIfInBounds_toArray, List.set_cons_succ, List.set_cons_zero]))
    | (refine wpList_alloc_agg rfl _ rfl _ _ _ Hi77.out Hz77.out Hzc77.out ?_; intro zs hzl hze hbz; (try simp only [World.size_alloc] at hbz); have Hzl := hid hzl; clear hzl hze; simp only [World.size_alloc, Act.put, List.setIfInBounds_toArray, List.set_cons_succ, List.set_cons_zero]; refine wpList_store_agg rfl _ _ _ rfl rfl (Value.int .i64 (i : Int) :: bv s.data.toList) rfl hbz h77.out ?hn1 ?h11 ?_; rotate_left 2; intro w3 f3 hb3 hs3; all_goals (try simp only [World.size_alloc, Act.put, List.setIfInBounds_toArray, List.set_cons_succ, List.set_cons_zero])))
  case hv1 => simp
  case hf1 => exact fill2 (fun x => #[(0, 1), (1, 512)][x]?) _ 1 512 Hzc77.out (Value.int .i64 (i : Int)) (Value.agg (bv s.data.toList).toArray) rfl (by simp [Value.cells]; exact HS.out) rfl rfl
  case hn1 => have := Hzl.out; have := Hdl.out; simp; simp at this; omega
  case h11 =>
    intro u hu
    rcases List.mem_cons.1 hu with rfl | hu
    · rfl
    · exact bv_one _ u hu
  have f3' : Fr [] w w3 := (((Fr.refl [] w).alloc _).trans' f2).trans ((Fr.refl [] w2).alloc _ |>.trans f3 (by simp)) (by simp)
  have hq1 : w.heap.size ≤ w2.heap.size := by omega
  have hb3' : Blk w3 w2.heap.size (Value.int .i64 (i : Int) :: bv s.data.toList) := by
    rw [splice_all _ _ (by rw [Hzl.out, List.length_cons, bv_length, Hdl.out])] at hb3
    exact hb3
  have hq3 : w2.heap.size < w3.heap.size := by rw [hs3]; simp
  clear hb3 hbz f3 hs3 hb2 f2 hlt2 hcap2
  generalize w2.heap.size = q at *
  have hF3 : ∀ x ∈ F, x < w.heap.size := h.lt
  have hb4 := f3'.blk hb (by simp)
  have hn4 := hn.keep f3' (by simp)
  have hl4 := hl.keep f3' (by simp)
  have ht4 := ht.keep f3' (by simp)
  have hk4 := hk.keep f3' (by simp)
  have hp4 := hp.keep f3' (by simp)
  clear hb hn hl ht hk hc
  obtain ⟨ι, W, hι, hW1, hW2, hW0⟩ := family (fun w' => Blk w' d [kv, .slice (some ⟨n, 0, none⟩) D.now.length ncap, lv, tv, .bool D.dead, pwv pw] ∧ Blk w' q (Value.int .i64 (i : Int) :: bv s.data.toList)) (w := w3.drew) ⟨hb4, hb3'⟩
  have hS1 : ∀ j o, (W j).cell? ⟨d, o, none⟩ = [kv, .slice (some ⟨n, 0, none⟩) D.now.length ncap, lv, tv, .bool D.dead, pwv pw][o]? := fun j => (hW1 j).1.cell
  have HW1 := hid hW1
  have HW2 := hid hW2
  have HW0 := hid hW0
  clear hW1 hW2 hW0
  refine wp_region_X (fun w' => ∃ j, w' = W j) true (by kernel_rfl) ?_
  refine WX.pure [0, 1, 2, 3, 4, 5, 6, 7] (by kernel_rfl) HW0.out ?_
  simp only [pick, List.toList_toArray, List.map_cons, List.map_nil, List.getD_cons_succ, List.getD_cons_zero]
  repeat (go_big_quiet_step (fail))
  refine quiet_load_agg rfl _ _ rfl (by rfl) (bv s.data.toList) (fun w' hw => (by obtain ⟨j, rfl⟩ := hw; exact (HW1.out j).2)) _ Try.underlying73 rfl h73.out ?hv2 ?_
  case hv2 => simp; rw [List.take_of_length_le (by simp)]
  simp only [Act.put, List.setIfInBounds_toArray, List.set_cons_succ, List.set_cons_zero]
  repeat (go_big_quiet_step (fail))
  refine wpQuiet_nil ?_
  refine WX.eff 8 (by kernel_rfl) ?_
  simp only [pick, List.toList_toArray, List.map_cons, List.map_nil, List.getD_cons_succ, List.getD_cons_zero]
  obtain ⟨ncs, hnb, hncl, hnt⟩ : ∃ cs, Blk w3 n cs ∧ cs.length = ncap * 512 ∧ cs.take (D.now.length * 512) = fl D.now := by
    rcases hn4.2 with ⟨h1, _, _⟩ | ⟨b, cap, cs, h1, h2, _, _, h3, h4, h5⟩
    · cases h1
    · cases h1; cases h2; exact ⟨cs, h3, h4, h5⟩
  have hfit : i * 512 + (bv s.data.toList).length ≤ D.now.length * 512 := by rw [bv_length, Hdl.out]; omega
  have hfit2 : i * 512 + (bv s.data.toList).length ≤ ncs.length := by
    rw [hncl]
    exact Nat.le_trans hfit (Nat.mul_le_mul_right _ hncap)
  refine wpList_store_agg rfl _ _ _ rfl rfl (bv s.data.toList) rfl hnb.drew h73.out hfit2 (bv_one _) ?_
  intro w4 f4 hb5 hs4
  refine wpList_nil ?_
  refine After.end rfl ?_
  refine WX.done (by kernel_rfl) ?_
  simp only [Act.put]
  have f4' : Fr [n] w w4 := (f3'.drew.mono (T := [n]) (by simp)).trans' f4
  obtain ⟨hdk, hnd1, hkn, hLn, hTn, hLT⟩ := feet_ne hF hnd
  have hn6 : Xr.Own w4 512 (.slice (some ⟨n, 0, none⟩) D.now.length ncap) (D.now.set i s.data.toList).length (fl (D.now.set i s.data.toList)) (some n) := by
    have h1 := Xr.Own.blk (n := D.now.length) (cap := ncap) (size := 512) hb5 hncap hncm (by rw [splice_length _ _ _ hfit2, hncl])
    rw [take_splice _ _ _ _ hfit, hnt, splice_flat D.now i s.data.toList h.good.n512 hi2 Hdl.out] at h1
    simpa using h1
  have hq4 : q ≠ n := by
    have := hF3 n (by rw [hF]; simp [feet])
    omega
  have f4'' : Fr [n] w3 w4 := ((Fr.refl [n] w3).drew).trans' f4
  have hb6 := f4.blk hb4.drew (by simpa using hnd1)
  have hb3 := f4.blk hb3'.drew (by simpa using hq4)
  have hl6 := hl4.keep (f4'' : Fr [n] w3 w4) (fun b e => by simpa using (hLn b e).2.2)
  have ht6 := ht4.keep f4'' (fun b e => by simpa using (hTn b e).2.2)
  have hk6 := hk4.keep f4'' (fun b e => by cases e; simpa using hkn)
  have hp6 := hp4.keep f4'' (fun x hx => by simp; exact fun e => hpF x hx (by rw [hF, e]; simp [feet]))
  have hq5 : q < w4.heap.size := by have := f4''.size; omega
  clear hS1 HW1 HW2 HW0 hι W ι hnb hncl hnt hn4 hl4 ht4 hk4 hp4 hb4 hb3' hb5
  go_wp2_with fail
  obtain ⟨ι, W, hι, hW1, hW2, hW0⟩ := family (fun w' => Blk w' d [kv, .slice (some ⟨n, 0, none⟩) D.now.length ncap, lv, tv, .bool D.dead, pwv pw] ∧ Blk w' q (Value.int .i64 (i : Int) :: bv s.data.toList)) (w := w4.drew) ⟨hb6, hb3⟩
  have hS1 : ∀ j o, (W j).cell? ⟨d, o, none⟩ = [kv, .slice (some ⟨n, 0, none⟩) D.now.length ncap, lv, tv, .bool D.dead, pwv pw][o]? := fun j => (hW1 j).1.cell
  have HW1 := hid hW1
  have HW2 := hid hW2
  have HW0 := hid hW0
  clear hW1 hW2 hW0
  refine wp_region_X (fun w' => ∃ j, w' = W j) true (by kernel_rfl) ?_
  refine WX.pure [0, 1, 2, 3, 4, 5] (by kernel_rfl) HW0.out ?_
  simp only [pick, List.toList_toArray, List.map_cons, List.map_nil, List.getD_cons_succ, List.getD_cons_zero]
  repeat (go_big_quiet_step (fail))
  refine quiet_load_agg rfl _ _ rfl (by rfl) (Value.int .i64 (i : Int) :: bv s.data.toList) (fun w' hw => (by obtain ⟨j, rfl⟩ := hw; exact (HW1.out j).2)) _ Try.underlying77 rfl h77.out ?hv3 ?_
  case hv3 => rw [List.drop_zero, List.take_length]
  simp only [Act.put, List.setIfInBounds_toArray, List.set_cons_succ, List.set_cons_zero]
  refine wpQuiet_nil ?_
  refine WX.eff 6 (by kernel_rfl) ?_
  simp only [pick, List.toList_toArray, List.map_cons, List.map_nil, List.getD_cons_succ, List.getD_cons_zero]
  refine wpList_buildSlice_one rfl _ _ rfl _ _ _ 513 (Value.int .i64 (i : Int) :: bv s.data.toList) Try.underlying68 Hi77.out Hz77.out Hs77.out (by rfl) (by rw [List.length_cons, bv_length, Hdl.out]) Hzc77.out (by decide) (by decide) ?_
  intro hb7
  refine wpList_nil ?_
  simp only [Act.put, List.setIfInBounds_toArray, List.set_cons_succ, List.set_cons_zero]
  have f7 : Fr [] w4 (w4.drew.alloc (.cells (Value.int .i64 (i : Int) :: bv s.data.toList).toArray 77)) := ((Fr.refl [] w4).drew).alloc _
  refine After.on (HW2.out _ ⟨f7.blk hb6 (by simp), f7.blk hb3 (by simp)⟩) ?_
  refine WX.eff 7 (by kernel_rfl) ?_
  simp only [pick, List.toList_toArray, List.map_cons, List.map_nil, List.getD_cons_succ, List.getD_cons_zero]
  have hqF : ∀ b, b ∈ F → b ≠ q := fun b hb e => by have := hF3 b hb; omega
  have hl7 := hl6.keep f7 (by simp)
  refine wpList_append rfl _ _ _ rfl _ _ _ 513 520 Try.underlying68 Hi77.out Hz77.out Hs77.out Hb77.out Hzc77.out (by decide) rfl hl7 _ 1 1 (Value.int .i64 (i : Int) :: bv s.data.toList) rfl (by rw [List.length_cons, bv_length, Hdl.out]) (hb7.cells (by rw [List.drop_zero, List.take_length])) ?h1c (by unfold maxLen; omega) (by omega) ?_
  case h1c =>
    intro u hu
    rcases List.mem_cons.1 hu with rfl | hu
    · rfl
    · exact bv_one _ u hu
  intro lv' w6 L' hl8 f8 hL'
  refine wpList_nil ?_
  simp only [Act.put, List.setIfInBounds_toArray, List.set_cons_succ, List.set_cons_zero]
  obtain ⟨la, lc, rfl⟩ := hl8.isSlice
  have f8' : Fr L.toList w4 w6 := (f7.mono (T := L.toList) (by simp)).trans' f8
  have hdL : d ∉ L.toList := by simp; exact fun e => (hLn d e).1 rfl
  have hqL : q ∉ L.toList := by simp; exact fun e => hqF q (by rw [hF]; simp [feet, e]) rfl
  have hb8 := f8'.blk hb6 hdL
  have hb9 := f8'.blk hb3 hqL
  refine After.on (HW2.out _ ⟨hb8, hb9⟩) ?_
  refine WX.pure [8, 9] (by kernel_rfl) (HW2.out _ ⟨hb8, hb9⟩) ?_
  simp only [pick, List.toList_toArray, List.map_cons, List.map_nil, List.getD_cons_succ, List.getD_cons_zero]
  repeat (go_big_quiet_step (fail))
  refine wpQuiet_nil ?_
  refine WX.eff 10 (by kernel_rfl) ?_
  simp only [pick, List.toList_toArray, List.map_cons, List.map_nil, List.getD_cons_succ, List.getD_cons_zero]
  have hc8 := hb8.cell
  have hf8 := hb8.free 2 (by simp)
  go_wp2_with fail
  refine After.end rfl ?_
  refine WX.done (by kernel_rfl) ?_
  have hb10 := hb8.set 2 (.slice la (D.loose.length + 1) lc)
  have f9 : Fr [d] w6 (w6.setCell ⟨d, 2, none⟩ (.slice la (D.loose.length + 1) lc)) := (Fr.refl _ _).setCell (.inl (by simp)) _
  generalize w6.setCell ⟨d, 2, none⟩ (.slice la (D.loose.length + 1) lc) = w7 at *
  simp only [List.set_cons_succ, List.set_cons_zero] at hb10
  have hdF : ∀ x ∈ pwF pw, x ∉ [d] := fun x hx => by simp; exact fun e => hpF x hx (by rw [hF, e]; simp [feet])
  have hpL : ∀ x ∈ pwF pw, x ∉ L.toList := fun x hx e => hpF x hx (by rw [hF]; simp [feet] at *; simp [e])
  have hpT : ∀ x ∈ pwF pw, x ∉ T.toList := fun x hx e => hpF x hx (by rw [hF]; simp [feet] at *; simp [e])
  have hp8 := (hp6.keep f8' hpL).keep f9 hdF
  have hk8 := (hk6.keep f8' (fun b e => by cases e; simp; exact fun e => (hLn k e).2.1 rfl)).keep f9 (fun b e => by cases e; simpa using hdk.symm)
  have hn8 := (hn6.keep f8' (fun b e => by cases e; simp; exact fun e => (hLn n e).2.2 rfl)).keep f9 (fun b e => by cases e; simpa using hnd1.symm)
  have ht8 := (ht6.keep f8' (fun b e => by simp; exact fun e2 => hLT b b e2 e rfl)).keep f9 (fun b e => by simpa using (hTn b e).1)
  have hL'd : ∀ b, L' = some b → b ≠ d ∧ b ≠ k ∧ b ≠ n ∧ (∀ c, T = some c → b ≠ c) := by
    intro b e
    rcases hL' with rfl | ⟨b', e', hge⟩
    · exact ⟨(hLn b e).1, (hLn b e).2.1, (hLn b e).2.2, fun c e3 => hLT b c e e3⟩
    · rw [e'] at e
      cases e
      have hge' : w.heap.size ≤ b := Nat.le_trans f4'.size (Nat.le_trans f7.size hge)
      have hFb : ∀ x ∈ F, b ≠ x := fun x hx e => by have := hF3 x hx; omega
      exact ⟨hFb d (by rw [hF]; simp [feet]), hFb k (by rw [hF]; simp [feet]), hFb n (by rw [hF]; simp [feet]), fun c e3 => hFb c (by rw [hF]; simp [feet, e3])⟩
  have hl9 := hl8.keep f9 (fun b e => by simpa using (hL'd b e).1)
  have g7 : Fr (d :: n :: L.toList) w w7 := ((f4'.mono (T := d :: n :: L.toList) (by simp)).trans f8' (fun x hx => .inl (by simp at hx ⊢; simp [hx]))).trans f9 (by simp)
  have hc10 := hb10.cell
  clear hS1 HW1 HW2 HW0 hι W ι hc8 hf8 hb8 hb9 hl8 hl7 hl6 ht6 hk6 hn6 hp6 hb7 hb3 hb6
  obtain ⟨i3, hi3, hz3, hs3, hb3⟩ := inf3
  have Hi3 := hid hi3
  have Hz3 := hid hz3
  have Hs3 := hid hs3
  have Hb3 := hid hb3
  clear hi3 hz3 hs3 hb3
  go_wp2_with (refine wpList_append rfl _ _ _ rfl 3 _ _ 1 8 Try.underlying37 Hi3.out Hz3.out Hs3.out Hb3.out rfl (by decide) rfl (ht8.keep ((Fr.refl [] _).alloc _) (by simp)) _ 1 1 [.int .i64 (i : Int)] rfl rfl ((Blk.alloc w7 [.int .i64 (i : Int)] _).cells rfl) (by simp [Value.oneCell']) (by unfold maxLen; omega) (by omega) ?_; intro tv' w8 T' ht9 f10 hT'; simp only [Act.put, List.setIfInBounds_toArray, List.set_cons_succ, List.set_cons_zero]; obtain ⟨ta, tc, rfl⟩ := ht9.isSlice; have hb11 := f10.blk ((((Fr.refl [] w7).alloc _)).blk hb10 (by simp)) (show d ∉ T.toList by simp; exact fun e => (hTn d e).1 rfl); have hc11 := hb11.cell; have hf11 := hb11.free 3 (by simp))
  have hb12 := hb11.set 3 (.slice ta (D.trace.length + 1) tc)
  have f12 : Fr [d] w8 (w8.setCell ⟨d, 3, none⟩ (.slice ta (D.trace.length + 1) tc)) := (Fr.refl _ _).setCell (.inl (by simp)) _
  have f10' : Fr T.toList w7 w8 := ((Fr.refl (T.toList) w7).alloc (.cells #[Value.int .i64 (i : Int)] 3)).trans' f10
  have hT'd : ∀ b, T' = some b → b ≠ d ∧ b ≠ k ∧ b ≠ n ∧ (∀ c, L' = some c → c ≠ b) := by
    intro b e
    rcases hT' with rfl | ⟨b', e', hge⟩
    · exact ⟨(hTn b e).1, (hTn b e).2.1, (hTn b e).2.2, fun c e3 => (hL'd c e3).2.2.2 b e⟩
    · rw [e'] at e
      cases e
      have hge' : w7.heap.size ≤ b := by simp at hge; omega
      have hFb : ∀ x ∈ F, b ≠ x := fun x hx e => by have := hF3 x hx; have := g7.size; omega
      exact ⟨hFb d (by rw [hF]; simp [feet]), hFb k (by rw [hF]; simp [feet]), hFb n (by rw [hF]; simp [feet]), fun c e3 e4 => by have := hl9.lt c e3; omega⟩
  have hp9 := (hp8.keep f10' hpT).keep f12 hdF
  have hk9 := (hk8.keep f10' (fun b e => by cases e; simp; exact fun e => (hTn k e).2.1 rfl)).keep f12 (fun b e => by cases e; simpa using hdk.symm)
  have hn9 := (hn8.keep f10' (fun b e => by cases e; simp; exact fun e => (hTn n e).2.2 rfl)).keep f12 (fun b e => by cases e; simpa using hnd1.symm)
  have hl10 := (hl9.keep f10' (fun b e => by simp; exact fun e2 => (hL'd b e).2.2.2 b e2 rfl)).keep f12 (fun b e => by simpa using (hL'd b e).1)
  have ht10 := ht9.keep f12 (fun b e => by simpa using (hT'd b e).1)
  have g9 : Fr F w (w8.setCell ⟨d, 3, none⟩ (.slice ta (D.trace.length + 1) tc)) := by
    have hsub : ∀ x, x ∈ d :: n :: L.toList ∨ x ∈ T.toList ∨ x = d → x ∈ F := by
      intro x hx
      rw [hF]
      simp [feet] at hx ⊢
      rcases hx with (h | h | h) | h | h <;> simp [h]
    exact ((g7.mono (T := F) (fun x hx => .inl (hsub x (.inl hx)))).trans f10' (fun x hx => .inl (hsub x (.inr (.inl hx))))).trans f12 (fun x hx => .inl (hsub x (.inr (.inr (by simpa using hx)))))
  generalize w8.setCell ⟨d, 3, none⟩ (.slice ta (D.trace.length + 1) tc) = w9 at *
  simp only [List.set_cons_succ, List.set_cons_zero] at hb12
  have h0 : ∀ p, pw ≠ some (p, 0) := by
    intro p e
    have := Ha.out
    rw [e] at this
    simp [ableN] at this
  refine (took_any hp9 h0).mono ?_
  rintro e w10 ⟨rfl, f13, hp10, hs10⟩
  go_wp2_with fail
  go_ret
  refine ⟨rfl, feet d k n L' T', ⟨⟨?_, ?_, ?_, ?_, ?_, ?_⟩, ?_⟩, hp10, ?_, ?_⟩
  · simp only [List.length_set]; exact h.good.same
  · exact h.good.pos
  · exact h.good.le
  · exact h.good.k512
  · intro x hx
    rcases List.mem_or_eq_of_mem_set hx with h1 | h1
    · exact h.good.n512 x h1
    · rw [h1]; exact Hdl.out
  · intro p hp
    rcases List.mem_append.1 hp with h1 | h1
    · exact h.good.l512 p h1
    · simp only [List.mem_singleton] at h1
      rw [h1]
      exact ⟨Hdl.out, hi⟩
  · have hmem : ∀ x, x ∈ feet d k n L' T' → x ∉ pwF pw := by
      intro x hx hx2
      have hxF := hpF x hx2
      have hxlt : x < w.heap.size := by
        match pw, hp, hx2 with
        | some (p, l), hp, hx2 =>
          simp [pwF] at hx2
          subst hx2
          exact hp.1.lt
      simp only [feet, List.mem_cons, List.mem_append, Option.mem_toList] at hx
      rcases hx with rfl | rfl | rfl | hx | hx
      · exact hxF (by rw [hF]; simp [feet])
      · exact hxF (by rw [hF]; simp [feet])
      · exact hxF (by rw [hF]; simp [feet])
      · rcases hL' with rfl | ⟨b', e', hge⟩
        · exact hxF (by rw [hF]; simp [feet, hx])
        · rw [e'] at hx
          cases hx
          have := f4'.size
          have := f7.size
          omega
      · rcases hT' with rfl | ⟨b', e', hge⟩
        · exact hxF (by rw [hF]; simp [feet, hx])
        · rw [e'] at hx
          cases hx
          have := g7.size
          simp at hge
          omega
    have hpe : pwv (pwDec pw) = pwv pw := by cases pw <;> rfl
    refine ⟨kv, .slice (some ⟨n, 0, none⟩) D.now.length ncap, .slice la (D.loose.length + 1) lc, .slice ta (D.trace.length + 1) tc, k, n, L', T', rfl, feet_nodup hdk hnd1 hkn (fun b e => ⟨(hL'd b e).1, (hL'd b e).2.1, (hL'd b e).2.2.1⟩) (fun b e => ⟨(hT'd b e).1, (hT'd b e).2.1, (hT'd b e).2.2.1⟩) (fun b c e1 e2 => (hT'd c e2).2.2.2 b e1), ?_, ?_, ?_, ?_, ?_⟩
    · rw [hpe]
      exact f13.blk hb12 (hmem d (by simp [feet]))
    · exact hk9.keep f13 (fun b e => by cases e; exact hmem k (by simp [feet]))
    · have := hn9.keep f13 (fun b e => by cases e; exact hmem n (by simp [feet]))
      exact this
    · have := hl10.keep f13 (fun b e => hmem b (by simp [feet, e]))
      simpa [wlc] using this
    · have := ht10.keep f13 (fun b e => hmem b (by simp [feet, e]))
      simpa using this
  · exact (g9.mono (T := F ++ pwF pw) (fun x hx => .inl (by simp [hx]))).trans f13 (fun x hx => .inl (by simp [hx]))
  · intro x hx
    simp only [feet, List.mem_cons, List.mem_append, Option.mem_toList] at hx
    rcases hx with rfl | rfl | rfl | hx | hx
    · exact .inl (by rw [hF]; simp [feet])
    · exact .inl (by rw [hF]; simp [feet])
    · exact .inl (by rw [hF]; simp [feet])
    · rcases hL' with rfl | ⟨b', e', hge⟩
      · exact .inl (by rw [hF]; simp [feet, hx])
      · rw [e'] at hx
        cases hx
        exact .inr (Nat.le_trans f4'.size (Nat.le_trans f7.size hge))
    · rcases hT' with rfl | ⟨b', e', hge⟩
      · exact .inl (by rw [hF]; simp [feet, hx])
      · rw [e'] at hx
        cases hx
        have := g7.size
        simp at hge
        exact .inr (by omega)
end Go.Proofs.Ytflapddkeeiieaa
