/- Layer 8: Make of mirrors that are there. -/
import Derived.Test.YtgafefecookgaaaVolC
namespace Go.Proofs.Ytgafefecookgaaa
open Go Go.Xr Go.RowKit
set_option linter.unusedVariables false
set_option linter.unusedSimpArgs false
theorem nodup_heads {α : Type} (m : α → Nat) (f : α → List Nat) : ∀ (ps : List α), (ps.flatMap fun p => m p :: f p).Nodup → (ps.map m).Nodup
  | [], _ => List.nodup_nil
  | p :: ps, h => by
    rw [List.flatMap_cons, List.cons_append, List.nodup_cons] at h
    obtain ⟨h1, h2⟩ := h
    rw [List.map_cons, List.nodup_cons]
    refine ⟨fun hm => h1 ?_, nodup_heads m f ps (List.nodup_append.1 h2).2.1⟩
    obtain ⟨q, hq, e⟩ := List.mem_map.1 hm
    exact List.mem_append_right _ (List.mem_flatMap.2 ⟨q, hq, by rw [e]; exact List.mem_cons_self ..⟩)
theorem dup_none {ms : List Nat} (h : ms.Nodup) (n : Nat) : ¬ dupAt (ms.map some) n := by
  rintro ⟨i, hi, x, h1, h2⟩
  rw [← List.map_take] at h2
  obtain ⟨y, hy, e⟩ := List.mem_map.1 h2
  obtain rfl : y = x := Option.some.inj e
  rw [List.getElem?_map] at h1
  obtain ⟨z, hz, e2⟩ := Option.map_eq_some_iff.1 h1
  obtain rfl : z = y := Option.some.inj e2
  obtain ⟨hlt, hzi⟩ := List.getElem?_eq_some_iff.1 hz
  obtain ⟨j, hj, hzj⟩ := List.getElem_of_mem hy
  rw [List.length_take] at hj
  rw [List.getElem_take] at hzj
  have := nodup_inj h (i := j) (j := i) (by omega) hlt (hzj.trans hzi.symm)
  omega
set_option maxRecDepth 20000 in
theorem infMp : ∃ i z, Try.prog.info? 71 = some i ∧ i.zero = some z ∧ i.size = 1 ∧ i.bytes = 8 ∧ z.cells.size = 1 := ⟨_, _, rfl, rfl, rfl, rfl, rfl⟩

theorem cloneMp_nil (w : World) : Calls Try.prog 33 #[.slice none 0 0] w fun e w' => e = .returned (.slice none 0 0) ∧ w = w' := by
  have hsn := @Lib.run_eql_slice_nil
  go_enter Try.func33, Try.ntmps33
  go_wp2
  go_ret
  exact ⟨rfl, rfl⟩

set_option maxRecDepth 20000 in
theorem cloneMp_any {w : World} {v : Value} {n : Nat} {xs : List Value} {b : Nat} (h : Own w 1 v n xs (some b)) (h1 : ∀ u ∈ xs, u.oneCell' = true) (hm : n ≤ maxLen) (hb : n * 8 ≤ 140737488355328) :
    Calls Try.prog 33 #[v] w fun e w' => ∃ v' b', e = .returned v' ∧ Own w' 1 v' n xs (some b') ∧ w.heap.size ≤ b' ∧ Fr [] w w' := by
  obtain ⟨i0, z0, hi0, hz0, hs0, hb0, hzc0⟩ := infMp
  have Hi := hid hi0
  have Hz := hid hz0
  have Hs := hid hs0
  have Hb := hid hb0
  have Hzc := hid hzc0
  clear hi0 hz0 hs0 hb0 hzc0
  have hsn := @Lib.run_eql_slice_nil
  have HX := hid h.1
  obtain ⟨cap, cs, rfl, h2, h3, h4, h5, h6⟩ : ∃ cap cs, v = .slice (some ⟨b, 0, none⟩) n cap ∧ n ≤ cap ∧ cap ≤ maxLen ∧ Blk w b cs ∧ cs.length = cap * 1 ∧ cs.take (n * 1) = xs := by
    rcases h.2 with ⟨_, _, h2⟩ | ⟨b', cap, cs, h1, h2⟩
    · cases h2
    · cases h1; exact ⟨cap, cs, h2⟩
  have H6 := hid h6
  have H5 := hid h5
  clear h6 h5 h
  have ho : Own (w.alloc (.cells #[] 71)) 1 (.slice (some ⟨w.heap.size, 0, none⟩) 0 0) 0 [] (some w.heap.size) :=
    Own.blk (cs := []) (Blk.alloc w [] _) (Nat.le_refl _) (by simp) (by simp)
  have hcl := (h4.old (.cells #[] 71)).cells (off := 0) (vs := xs) (by rw [List.drop_zero, HX.out]; exact H6.out)
  go_enter Try.func33, Try.ntmps33
  go_wp2_with (refine wpList_append rfl _ _ _ rfl 71 _ _ 1 8 Try.underlying61 Hi.out Hz.out Hs.out Hb.out Hzc.out (by decide) rfl ho _ n cap xs rfl HX.out hcl h1 (by omega) (by omega) ?_; intro v' w1 B' ho1 f1 hB'; simp only [World.size_alloc, World.size_drew, Act.put, List.setIfInBounds_toArray, List.set_cons_succ, List.set_cons_zero])
  go_ret
  simp only [Nat.zero_add, List.nil_append] at ho1
  have f2 : Fr [] w w1 := ((Fr.refl [] w).alloc _).trans f1 (fun x hx => .inr (by simp at hx; omega))
  rcases hB' with rfl | ⟨b', rfl, hge⟩
  · exact ⟨v', _, rfl, ho1, Nat.le_refl _, f2⟩
  · exact ⟨v', b', rfl, ho1, by simp at hge; omega, f2⟩

section
variable {w w' w0 : World} {l rs : List Res} {ps : List VP} {k : Nat} {p p' : VP}
theorem vps_nodup (h : Held w (l ++ vpsC ps)) : (ps.map VP.m).Nodup := by
  have h1 := h.apart
  rw [List.flatMap_append, List.nodup_append] at h1
  have h2 := h1.2.1
  unfold vpsC at h2
  rw [List.flatMap_assoc] at h2
  exact nodup_heads VP.m (fun p => (sysC [] p.M.s p.d p.FF).flatMap (fun r : Res => r.F)) ps h2
/-- A volume in memory. -/
def volR (vb rb : Nat) (v : Value) (ms : List Nat) (each writes : Int) : List Res := [Res.blk vb [v, .int .i64 each, .int .i64 writes], Res.own 1 v ms.length (ms.map fun m => pv (some m)) (some rb)]
theorem ps_xs (ps : List VP) : (ps.map fun p => pv (some p.m)) = ((ps.map VP.m).map some).map pv := by simp
set_option maxRecDepth 20000 in
set_option maxHeartbeats 4000000 in
theorem vmake_ok (h : Held w (l ++ vpsC ps)) {v : Value} {B : Nat} (ho : Xr.Own w 1 v ps.length (ps.map fun p => pv (some p.m)) (some B)) (h1 : 1 ≤ ps.length) (h8 : ps.length ≤ 8) (ok : ∀ p ∈ ps, SysOk p.M.s) (L : Nat) (hL : ∀ p ∈ ps, p.M.s.len false = L) (h2 : 2 ≤ L) :
    Calls Try.prog 13 #[v] w fun e w' => ∃ vb rb v', e = .returned (.tuple #[.pointer (some ⟨vb, 0, none⟩), .int .i64 0]) ∧ Ev w (l ++ vpsC ps) w' (volR vb rb v' (ps.map VP.m) ((L : Int) - 1) 0 ++ (l ++ vpsC ps)) := by
  have hrc : Rc w 1 v ((ps.map VP.m).map some).length (((ps.map VP.m).map some).map pv) (some B) := by
    have := ho.rd.rc
    rw [ps_xs] at this
    simpa using this
  have hlen : ((ps.map VP.m).map some).length = ps.length := by simp
  have HC := hid (cfM_any hrc (by rw [hlen]; omega) (fun _ => false) (fun x hx => by
    obtain ⟨m, hm, rfl⟩ := List.mem_map.1 hx
    obtain ⟨p, hp, rfl⟩ := List.mem_map.1 hm
    obtain ⟨k, hk, e⟩ := List.getElem_of_mem hp
    exact mk1_any h (by rw [List.getElem?_eq_getElem hk, e]) (ok p hp) (by rw [hL p hp]; exact h2)))
  have hany : ((ps.map VP.m).map some).any (fun _ => false) = false := by rw [List.any_eq_false]; intro x _; decide
  rw [hany] at HC
  have HT := hid (twM_any hrc (fun x hx b hb => by
    obtain ⟨m, hm, rfl⟩ := List.mem_map.1 hx
    obtain ⟨p, hp, rfl⟩ := List.mem_map.1 hm
    obtain rfl : p.m = b := Option.some.inj hb
    obtain ⟨k, hk, e⟩ := List.getElem_of_mem hp
    exact mir_pln (vps_held h (by rw [List.getElem?_eq_getElem hk, e]))) (by rw [hlen]; omega))
  have ND := hid (dup_none (vps_nodup h) ((ps.map VP.m).map some).length)
  obtain ⟨c, hv, hnc, hcm⟩ : ∃ c, v = .slice (some ⟨B, 0, none⟩) ps.length c ∧ ps.length ≤ c ∧ c ≤ maxLen := by
    rcases ho.shape with ⟨_, _, _, h1⟩ | ⟨b, cap, hb1, h1, h2, h3⟩
    · cases h1
    · cases hb1
      exact ⟨cap, h1, h2, h3⟩
  subst hv
  have HH := hid h
  have HO := hid ho
  have HLn := hid fun (p : VP) (hp : p ∈ ps) (w1 : World) (h1 : Held w1 (l ++ vpsC ps)) => (show Calls Try.prog 31 #[.pointer (some ⟨p.m, 0, none⟩)] w1 fun e w' => e = .returned (.int .i64 ((L : Int) - 1)) ∧ w' = w1 from by
    obtain ⟨k, hk, e⟩ := List.getElem_of_mem hp
    have := mlen_any (vps_held h1 (by rw [List.getElem?_eq_getElem hk, e])) (ok p hp)
    rw [hL p hp] at this
    exact this)
  have HLe : Hid (L ≤ 16384) := hid (by
    have hp := List.getElem_mem (l := ps) (n := 0) (by omega)
    have := len_le (ok _ hp) false
    rw [hL _ hp] at this
    exact this)
  have Hcell : Hid (∀ (w1 : World) (f : Fr [] w w1) (i : Nat) (hi : i < ps.length), w1.cell? ⟨B, i, none⟩ = some (.pointer (some ⟨ps[i].m, 0, none⟩))) := hid fun w1 f i hi => by
    obtain ⟨b, off, c2, hB, hv2, _, _, _, h4⟩ := (ho.rd.rc.keep f (by simp)).some (by omega)
    obtain ⟨⟨rfl, rfl⟩, rfl⟩ : (B = b ∧ 0 = off) ∧ c = c2 := by simpa using hv2
    have := h4 i (by simpa using hi)
    rw [Nat.zero_add, List.getElem?_map, List.getElem?_eq_getElem hi] at this
    exact this
  obtain ⟨n, hn⟩ : ∃ n, ps.length = n := ⟨_, rfl⟩
  have HNl := hid hn
  have hcl := hid fun (w1 : World) (f : Fr [] w w1) => cloneMp_any (ho.keep f (by simp)) (by intro u hu; obtain ⟨p, _, rfl⟩ := List.mem_map.1 hu; rfl) (by unfold maxLen at *; omega) (by omega)
  have h0l : 0 < ps.length := by omega
  have Hc0 := hid fun (w1 : World) (f : Fr [] w w1) => Hcell.out w1 f 0 h0l
  have HL0 := hid fun (w1 : World) (h1 : Held w1 (l ++ vpsC ps)) => HLn.out ps[0] (List.getElem_mem h0l) w1 h1
  generalize ps[0].m = m0 at *
  rw [hn] at HC HT hcl h1 h8 hnc
  rw [hn]
  clear h ho hrc hlen hany hn ok hL
  have a1 : decide ((n : Int) < 1) = false := by simp; omega
  have a2 : decide ((8 : Int) < (n : Int)) = false := by simp; omega
  have a3 : decide (n < 1) = false := by simp; omega
  have a4 : decide (8 < n) = false := by simp; omega
  go_enter Try.func13, Try.ntmps13
  go_wp2_with (first
    | (go_at_call 29; refine HC.out.mono ?_; rintro e w5 ⟨rfl, hw⟩; subst hw)
    | (go_at_call 32; refine HT.out.mono ?_; rintro e w6 ⟨b, rfl, hb, f6⟩; have hbf : b = false := (by cases b; rfl; exact absurd (hb.1 rfl) ND.out); subst hbf; have F6 := hid f6; clear hb f6))
  have f0 : Fr [] w5 w6.drew := F6.out.drew
  have hs0 := Hc0.out w6.drew f0
  have hcl6 := hid (hcl.out w6.drew f0)
  clear hcl HT HC ND
  refine wp_region_D (fun w' => w'.cell? ⟨B, 0, none⟩ = some (.pointer (some ⟨m0, 0, none⟩))) false [] (by kernel_rfl) ?_
  refine WD.pure [0] (by kernel_rfl) hs0 ?_
  simp only [pick, List.toList_toArray, List.map_cons, List.map_nil, List.getD_cons_succ, List.getD_cons_zero]
  repeat (first | (refine quiet_load_1R (by rfl) _ _ rfl rfl (.pointer (some ⟨m0, 0, none⟩)) (fun w0 h => h) _ Try.underlying71 rfl ?_; simp only [World.size_alloc, World.size_drew, Act.put, List.setIfInBounds_toArray, List.set_cons_succ, List.set_cons_zero]) | go_big_quiet_step (fail))
  refine wpQuiet_nil ?_
  refine WD.free [2, 3] (by kernel_rfl) hs0 ?_
  simp only [pick, List.toList_toArray, List.map_cons, List.map_nil, List.getD_cons_succ, List.getD_cons_zero]
  repeat (first | (refine quiet_load_1R (by rfl) _ _ rfl rfl (.pointer (some ⟨m0, 0, none⟩)) (fun w0 h => h) _ Try.underlying71 rfl ?_; simp only [World.size_alloc, World.size_drew, Act.put, List.setIfInBounds_toArray, List.set_cons_succ, List.set_cons_zero]) | go_big_quiet_step (fail))
  refine wpQuiet_nil ?_
  refine WD.held [4] (by kernel_rfl) hs0 ?_
  simp only [pick, List.toList_toArray, List.map_cons, List.map_nil, List.getD_cons_succ, List.getD_cons_zero]
  repeat (first | (refine quiet_load_1R (by rfl) _ _ rfl rfl (.pointer (some ⟨m0, 0, none⟩)) (fun w0 h => h) _ Try.underlying71 rfl ?_; simp only [World.size_alloc, World.size_drew, Act.put, List.setIfInBounds_toArray, List.set_cons_succ, List.set_cons_zero]) | go_big_quiet_step (fail))
  refine wpQuiet_nil ?_
  refine WD.eff 1 (by kernel_rfl) ?_
  simp only [pick, List.toList_toArray, List.map_cons, List.map_nil, List.getD_cons_succ, List.getD_cons_zero]
  go_wp2_with (go_at_call 33; refine hcl6.out.mono ?_; rintro e w7 ⟨v7, b7, rfl, ho7, hge7, f7⟩)
  obtain ⟨a7, c7, rfl⟩ := ho7.isSlice
  have F7 := hid (f0.trans' f7)
  have hs7 := Hc0.out w7 F7.out
  have E7 := hid ((Ev.refl HH.out).step F7.out)
  have hl7 := hid (HL0.out w7 E7.out.held)
  have HO7 := hid ho7
  have Hge7 := hid (Nat.le_trans f0.size hge7)
  clear ho7 f7 hge7 hcl6 hs0
  try refine wpList_nil ?_
  refine AfterD.on hs7 (by kernel_rfl) ?_
  try simp only [World.size_alloc, World.size_drew, Act.put, List.setIfInBounds_toArray, List.set_cons_succ, List.set_cons_zero]
  refine WD.eff 5 (by kernel_rfl) ?_
  simp only [pick, List.toList_toArray, List.map_cons, List.map_nil, List.getD_cons_succ, List.getD_cons_zero]
  go_wp2_with (go_at_call 31; refine hl7.out.mono ?_; rintro e w8 ⟨rfl, hw⟩; subst hw)
  try refine wpList_nil ?_
  refine AfterD.on hs7 (by kernel_rfl) ?_
  try simp only [World.size_alloc, World.size_drew, Act.put, List.setIfInBounds_toArray, List.set_cons_succ, List.set_cons_zero]
  refine WD.pure [6] (by kernel_rfl) hs7 ?_
  simp only [pick, List.toList_toArray, List.map_cons, List.map_nil, List.getD_cons_succ, List.getD_cons_zero]
  repeat (first | (refine quiet_load_1R (by rfl) _ _ rfl rfl (.pointer (some ⟨m0, 0, none⟩)) (fun w0 h => h) _ Try.underlying71 rfl ?_; simp only [World.size_alloc, World.size_drew, Act.put, List.setIfInBounds_toArray, List.set_cons_succ, List.set_cons_zero]) | go_big_quiet_step (fail))
  refine wpQuiet_nil ?_
  refine WD.eff 7 (by kernel_rfl) ?_
  simp only [pick, List.toList_toArray, List.map_cons, List.map_nil, List.getD_cons_succ, List.getD_cons_zero]
  go_wp2_with fail
  have HO9 := hid (HO7.out.keep ((Fr.refl [] w8).alloc (.cells #[Value.slice a7 n c7, .int .i64 ((L : Int) - 1), .int .i64 0] 63)) (by simp))
  have HB9 := hid (Blk.alloc w8 [Value.slice a7 n c7, .int .i64 ((L : Int) - 1), .int .i64 0] 63)
  have F9 := hid (F7.out.alloc (.cells #[Value.slice a7 n c7, .int .i64 ((L : Int) - 1), .int .i64 0] 63))
  have hs9 := Hc0.out _ F9.out
  have Hvb := hid (show w5.heap.size ≤ w8.heap.size ∧ b7 < w8.heap.size from ⟨F7.out.size, HO7.out.lt b7 rfl⟩)
  clear hl7 E7 HO7 F7 hs7 F6 f0
  try refine wpList_nil ?_
  refine AfterD.on hs9 (by kernel_rfl) ?_
  try simp only [World.size_alloc, World.size_drew, Act.put, List.setIfInBounds_toArray, List.set_cons_succ, List.set_cons_zero]
  refine WD.pure [8] (by kernel_rfl) hs9 ?_
  simp only [pick, List.toList_toArray, List.map_cons, List.map_nil, List.getD_cons_succ, List.getD_cons_zero]
  repeat (first | (refine quiet_load_1R (by rfl) _ _ rfl rfl (.pointer (some ⟨m0, 0, none⟩)) (fun w0 h => h) _ Try.underlying71 rfl ?_; simp only [World.size_alloc, World.size_drew, Act.put, List.setIfInBounds_toArray, List.set_cons_succ, List.set_cons_zero]) | go_big_quiet_step (fail))
  refine wpQuiet_nil ?_
  refine WD.done (by kernel_rfl) ?_
  clear hs9 Hc0 HL0
  generalize (w8.alloc (.cells #[Value.slice a7 n c7, .int .i64 ((L : Int) - 1), .int .i64 0] 63)) = w9 at *
  generalize w8.heap.size = vb at *
  go_wp2_with fail
  clear h0l
  go_loopw [32] (fun iv wr => ∃ i : Nat, i ≤ n ∧ iv = .int .i64 (i : Int) ∧ Hid (Fr [] w5 wr) ∧ Hid (Xr.Own wr 1 (.slice a7 n c7) n (ps.map fun p => pv (some p.m)) (some b7)) ∧ Hid (Blk wr vb [.slice a7 n c7, .int .i64 ((L : Int) - 1), .int .i64 0])) (fun iv _ => n - (intOf iv).toNat)
  case atStart => exact ⟨0, by omega, rfl, F9, HO9, HB9⟩
  case round =>
    obtain ⟨i, hi, rfl, FR, OW, BK⟩ := hrel
    clear F9 HO9 HB9
    by_cases hlt : i < n
    · have hd : decide ((i : Int) < (n : Int)) = true := by simp; omega
      have hdn : decide (i < n) = true := by simp; omega
      have hip : i < ps.length := by rw [HNl.out]; exact hlt
      have hc := Hcell.out wr FR.out i hip
      have F1 : Fr [] w5 wr.drew := FR.out.drew
      have hln := hid (HLn.out ps[i] (List.getElem_mem hip) wr.drew (HH.out.keep0 F1))
      have hs1 : wr.drew.cell? ⟨vb, 1, none⟩ = some (.int .i64 ((L : Int) - 1)) := BK.out.cell 1
      have hb1 : Blk wr.drew vb [.slice a7 n c7, .int .i64 ((L : Int) - 1), .int .i64 0] := BK.out.drew
      have hi8 : (i : Int) ≤ 8 := by omega
      have OW1 : Xr.Own wr.drew 1 (.slice a7 n c7) n (ps.map fun p => pv (some p.m)) (some b7) := OW.out.keep ((Fr.refl [] wr).drew) (by simp)
      have HW1 := hid OW1
      generalize ps[i].m = mi at *
      have hmin : min ((L : Int) - 1) ((L : Int) - 1) = (L : Int) - 1 := Int.min_self _
      have hvi := Hvb.out
      clear hip BK OW OW1
      go_wp2_with fail
      refine wp_region_D (fun w' => w'.cell? ⟨vb, 1, none⟩ = some (.int .i64 ((L : Int) - 1))) false [] (by kernel_rfl) ?_
      refine WD.pure [5] (by kernel_rfl) hs1 ?_
      simp only [pick, List.toList_toArray, List.map_cons, List.map_nil, List.getD_cons_succ, List.getD_cons_zero]
      repeat (first | (refine quiet_load_1R (by rfl) _ _ rfl rfl (.int .i64 ((L : Int) - 1)) (fun w0 h => h) _ Try.underlying3 rfl ?_; simp only [World.size_alloc, World.size_drew, Act.put, List.setIfInBounds_toArray, List.set_cons_succ, List.set_cons_zero]) | go_big_quiet_step (fail))
      refine wpQuiet_nil ?_
      refine WD.free [0, 1, 2, 3] (by kernel_rfl) hs1 ?_
      simp only [pick, List.toList_toArray, List.map_cons, List.map_nil, List.getD_cons_succ, List.getD_cons_zero]
      repeat (first | (refine quiet_load_1R (by rfl) _ _ rfl rfl (.int .i64 ((L : Int) - 1)) (fun w0 h => h) _ Try.underlying3 rfl ?_; simp only [World.size_alloc, World.size_drew, Act.put, List.setIfInBounds_toArray, List.set_cons_succ, List.set_cons_zero]) | go_big_quiet_step (fail))
      refine wpQuiet_nil ?_
      refine WD.held [4] (by kernel_rfl) hs1 ?_
      simp only [pick, List.toList_toArray, List.map_cons, List.map_nil, List.getD_cons_succ, List.getD_cons_zero]
      repeat (first | (refine quiet_load_1R (by rfl) _ _ rfl rfl (.int .i64 ((L : Int) - 1)) (fun w0 h => h) _ Try.underlying3 rfl ?_; simp only [World.size_alloc, World.size_drew, Act.put, List.setIfInBounds_toArray, List.set_cons_succ, List.set_cons_zero]) | go_big_quiet_step (fail))
      refine wpQuiet_nil ?_
      refine WD.eff 6 (by kernel_rfl) ?_
      simp only [pick, List.toList_toArray, List.map_cons, List.map_nil, List.getD_cons_succ, List.getD_cons_zero]
      go_wp2_with (go_at_call 31; refine hln.out.mono ?_; rintro e w10 ⟨rfl, hw⟩; subst hw)
      try refine wpList_nil ?_
      refine AfterD.on hs1 (by kernel_rfl) ?_
      try simp only [World.size_alloc, World.size_drew, Act.put, List.setIfInBounds_toArray, List.set_cons_succ, List.set_cons_zero]
      refine WD.pure [7, 8, 9] (by kernel_rfl) hs1 ?_
      simp only [pick, List.toList_toArray, List.map_cons, List.map_nil, List.getD_cons_succ, List.getD_cons_zero]
      repeat (first | (refine quiet_load_1R (by rfl) _ _ rfl rfl (.int .i64 ((L : Int) - 1)) (fun w0 h => h) _ Try.underlying3 rfl ?_; simp only [World.size_alloc, World.size_drew, Act.put, List.setIfInBounds_toArray, List.set_cons_succ, List.set_cons_zero]) | go_big_quiet_step (fail))
      refine wpQuiet_nil ?_
      refine WD.eff 10 (by kernel_rfl) ?_
      simp only [pick, List.toList_toArray, List.map_cons, List.map_nil, List.getD_cons_succ, List.getD_cons_zero]
      go_wp2_with (refine wpList_put rfl _ _ _ rfl rfl (.int .i64 ((L : Int) - 1)) rfl rfl hb1 (by simp) (by kernel_rfl) ?_; intro w11 f11 b11 hs11; simp only [World.size_alloc, World.size_drew, Act.put, List.setIfInBounds_toArray, List.set_cons_succ, List.set_cons_zero])
      have b12 : Blk w11 vb [.slice a7 n c7, .int .i64 ((L : Int) - 1), .int .i64 0] := b11
      have hs12 : w11.cell? ⟨vb, 1, none⟩ = some (.int .i64 ((L : Int) - 1)) := b12.cell 1
      have F12 := hid (F1.trans f11 (fun y hy => .inr (by simp at hy; omega)))
      have O12 := hid (HW1.out.keep f11 (by simp; omega))
      have B12 := hid b12
      clear b11 b12 f11 hb1 hs1 HW1 F1 FR hln hc hs11 hvi
      try refine wpList_nil ?_
      refine AfterD.on hs12 (by kernel_rfl) ?_
      try simp only [World.size_alloc, World.size_drew, Act.put, List.setIfInBounds_toArray, List.set_cons_succ, List.set_cons_zero]
      refine WD.done (by kernel_rfl) ?_
      go_wp2_with fail
      go_roundw
      case rel => exact ⟨i + 1, by omega, by go_num, F12, O12, B12⟩
      case measure => simp [intOf]; omega
    · have hd : decide ((i : Int) < (n : Int)) = false := by simp; omega
      have hdn : decide (i < n) = false := by simp; omega
      clear hlt hi
      go_wp2_with fail
      go_ret2
      refine ⟨vb, b7, .slice a7 n c7, rfl, ?_⟩
      have e1 := (Ev.refl HH.out).new FR.out (Res.On.own OW.out) (fun b hb => by simp [Res.own] at hb; rw [hb]; exact Hge7.out)
      have e2 : Ev w5 (l ++ vpsC ps) wr (Res.blk vb [.slice a7 n c7, .int .i64 ((L : Int) - 1), .int .i64 0] :: Res.own 1 (.slice a7 n c7) n (ps.map fun p => pv (some p.m)) (some b7) :: (l ++ vpsC ps)) := by
        refine ⟨Held.new e1.held (Res.On.blk BK.out) (fun b hb r hr => ?_), e1.fr, fun b hb => ?_⟩
        · obtain rfl : b = vb := by simpa [Res.blk] using hb
          rcases List.mem_cons.1 hr with rfl | hr
          · simp [Res.own]
            exact Nat.ne_of_gt Hvb.out.2
          · exact fun h => absurd (HH.out.lt r hr _ h) (Nat.not_lt.2 Hvb.out.1)
        · rcases List.mem_append.1 (show b ∈ [vb] ++ feetOf (Res.own 1 (.slice a7 n c7) n (ps.map fun p => pv (some p.m)) (some b7) :: (l ++ vpsC ps)) from hb) with h | h
          · obtain rfl := List.mem_singleton.1 h
            exact .inr Hvb.out.1
          · exact e1.low b h
      have e3 : Ev w5 (l ++ vpsC ps) wr (volR vb b7 (.slice a7 n c7) (ps.map VP.m) ((L : Int) - 1) 0 ++ (l ++ vpsC ps)) := by
        unfold volR
        rw [List.length_map, HNl.out, List.map_map]
        exact e2
      exact e3
end
end Go.Proofs.Ytgafefecookgaaa
