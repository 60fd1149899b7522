/- Layer 8: a new volume; alive. -/
import Derived.Test.YtgafefecookgaaaVolP
namespace Go.Proofs.Ytgafefecookgaaa
open Go Go.Xr Go.RowKit
set_option linter.unusedVariables false
set_option linter.unusedSimpArgs false
/-- A new mirror of so many sectors. -/
def newM (e : Nat) : MS := ⟨(sy (newXD (e + 1)) (newXD (e + 1)) []).made, true, true, 1⟩
theorem newM_ok (e : Nat) (he : e + 1 ≤ 16384) : SysOk (newM e).s ∧ (newM e).s.T ≤ 8 ∧ (newM e).s.len false = e + 1 ∧ Snd (List.replicate e Zs) (newM e) := by
  have hok : SysOk (sy (newXD (e + 1)) (newXD (e + 1)) []) := sy_ok (mt_newXD_good (by omega) he) (mt_newXD_good (by omega) he) []
  refine ⟨(made_stp _).ok hok, (made_stp _).T hok, ?_, snd_made e []⟩
  have := (made_stp (sy (newXD (e + 1)) (newXD (e + 1)) [])).len hok false
  rw [(sy_len (e + 1) (e + 1) []).1] at this
  exact this
section
variable {w w' w0 : World} {l rs : List Res} {ss : List VS} {v : Value} {B i0 e n k : Nat} {X : VX} {Ms : List MS} {wt : Int}
theorem disks_ss {a b : Res} {Fs : List (Nat × List Nat)} {Gs : List (Nat × XI)} (E : Ev w0 rs w ([a, b] ++ (Fs.map (dkC n) ++ Gs.flatMap (xkC n)))) (hl : Fs.length = 2 * k) :
    ∃ ss : List VS, ss.length = k ∧ dsOf ss = Fs.map (fun q => q.1) ∧ (∀ s ∈ ss, s.s = sy (newXD n) (newXD n) []) ∧ Ev w0 rs w ([a, b] ++ vssC ss) := by
  rw [← List.append_assoc] at E
  exact pair_up n k Fs [a, b] hl (Ev.headL E)
theorem disks_row {Xd : Option Nat} {Fs : List (Nat × List Nat)} (h : Xr.Own w 1 v k (Fs.map fun q => pv (some q.1)) Xd) (hl : Fs.length = k) (hk : 0 < k) (hs : dsOf ss = Fs.map (fun q => q.1)) :
    ∃ B, Xd = some B ∧ Res.own 1 v k (Fs.map fun q => pv (some q.1)) Xd = Res.own 1 v (dsOf ss).length (((dsOf ss).map some).map pv) (some B) := by
  rcases h.shape with ⟨h0, _⟩ | ⟨b, _, h0, _⟩
  · omega
  · refine ⟨b, h0, ?_⟩
    rw [h0, hs, List.length_map, hl, List.map_map, List.map_map]
    rfl
theorem mkall_new (ev : Ev w0 rs w (l ++ vssC ss)) (hi : l[i0]? = some (Res.own 1 v (dsOf ss).length (((dsOf ss).map some).map pv) (some B))) (h1 : 1 ≤ ss.length) (h8 : ss.length ≤ 8)
    (hs : ∀ s ∈ ss, s.s = sy (newXD (e + 1)) (newXD (e + 1)) []) (he : 1 ≤ e) (he2 : e + 1 ≤ 16384) :
    Calls Try.prog 7 #[v] w fun r w' => ∃ X : VX, r = .returned (.tuple #[.pointer (some ⟨X.vb, 0, none⟩), .int .i64 0]) ∧ VOk X ∧ X.ms.length = ss.length ∧ X.ds = ss.map VS.d ∧ X.e = e ∧ VA w0 rs w' l X (List.replicate ss.length (newM e)) 0 := by
  obtain ⟨n1, n2, n3, n4⟩ := newM_ok e he2
  have hok : SysOk (sy (newXD (e + 1)) (newXD (e + 1)) []) := sy_ok (mt_newXD_good (by omega) he2) (mt_newXD_good (by omega) he2) []
  have hlen := sy_len (e + 1) (e + 1) []
  refine (mkall (e := e) (fun s => ⟨s.made, true, true, 1⟩) ev hi h1 h8 (fun s h => by rw [hs s h]; exact ⟨n1, n3⟩) he (fun s h l1 w1 hh => ?_)).mono ?_
  · have h2 := hs s h
    have := make_ok (pbs := []) (s := s.s) (d := s.d) (FF := s.FF) (l := l1) hh (by rw [h2]; exact hok) (by rw [h2, sy_T]; decide) (by rw [h2, hlen.1, hlen.2]) (by rw [h2, hlen.2]; omega) (by rw [h2]; rfl) (by rw [h2]; rfl)
    exact this
  · rintro r w' ⟨X, rfl, x1, x2, x3, va⟩
    refine ⟨X, rfl, ⟨by omega, by omega, by omega⟩, x1, x2, x3, ?_⟩
    have e1 : (ss.map fun s => (⟨s.s.made, true, true, 1⟩ : MS)) = List.replicate ss.length (newM e) := by
      refine List.ext_getElem (by simp) fun j h3 h4 => ?_
      rw [List.getElem_map, List.getElem_replicate, hs _ (List.getElem_mem _)]
      rfl
    rw [e1] at va
    exact va
theorem VA.pln (h : VA w0 rs w l X Ms wt) {d : Bool → Nat} (hd : X.ds[k]? = some d) (b : Bool) : Pln w (d b) := by
  have hk : k < Ms.length := by rw [h.len.1, ← h.len.2]; exact (List.getElem?_eq_some_iff.1 hd).1
  obtain ⟨m, d2, FF, l', em, ed, hh, _⟩ := h.mir (List.getElem?_eq_getElem hk)
  obtain rfl : d = d2 := Option.some.inj (hd.symm.trans ed)
  have h2 : Held w (sysC [] Ms[k].s d FF) := Held.part (l' ++ [mirR m d Ms[k]]) [] (by rw [List.append_nil]; exact mir_sys hh)
  cases b
  · exact (h2.at 1 rfl).2
  · exact (h2.at 2 rfl).2
set_option maxRecDepth 20000 in
set_option maxHeartbeats 4000000 in
theorem valive_any (w : World) : Calls Try.prog 11 #[] w fun e w' => e = .returned (.bool true) ∧ Fr [] w w' := by
  obtain ⟨i9, z9, hi9, hz9, hs9, hb9, hzc9⟩ := infDp
  have Hi := hid hi9
  have Hz := hid hz9
  have Hs := hid hs9
  have Hzc := hid hzc9
  have hF := hid fun w1 : World => (show Calls Try.prog 25 #[.int .u8 120] w1 fun e w' => e = .returned (.string (fill7 120)) ∧ Fr [] w1 w' from fill8_any w1 120)
  have hSz := fill7_size 120
  obtain ⟨n1, n2, n3, n4⟩ := newM_ok 3 (by decide)
  obtain ⟨q1, q2, q3, _⟩ := snd_wr n4 (show 1 < (List.replicate 3 Zs).length by decide) hSz
  have HD := hid (disks_any (w := w) 4 4 (by decide) (by decide) (by decide))
  have HM := hid fun (w1 : World) (ss : List VS) (v vx : Value) (B : Nat) (r2 : Res) (ev : Ev w [] w1 ([Res.own 1 v (dsOf ss).length (((dsOf ss).map some).map pv) (some B), r2] ++ vssC ss)) (hl : ss.length = 2) (hs : ∀ s ∈ ss, s.s = sy (newXD 4) (newXD 4) []) => mkall_new (e := 3) (i0 := 0) ev rfl (by omega) (by omega) hs (by decide) (by decide)
  have HW := hid fun (w1 : World) (l : List Res) (X : VX) (o : VOk X) (hn : X.ms.length = 2) (he : X.e = 3) (h : VA w [] w1 l X (List.replicate 2 (newM 3)) 0) => vwrite_in (k := 1) (a := 1) h o 3 (fill7 120) (by rw [hn, he]; rfl) (by rw [hn, he]; rfl) (by rw [hn, he]; rfl) (show (List.replicate 2 (newM 3))[1]? = some (newM 3) from rfl) n1 (by omega) (by rw [hSz]; decide) (by decide) (by decide)
  rw [show ((1 : Nat) : Int) = 1 from rfl] at HW q1
  rw [q1] at HW
  have HL := hid fun (w1 : World) (l : List Res) (X : VX) (o : VOk X) (hn : X.ms.length = 2) (he : X.e = 3) (Ms : List MS) (h : VA w [] w1 l X Ms 0) => (show Calls Try.prog 9 #[.pointer (some ⟨X.vb, 0, none⟩)] w1 fun r w' => r = .returned (.int .i64 6) ∧ Fr [] w1 w' from by have := vlen_v h o; rw [hn, he] at this; exact this)
  have HP := hid fun (w1 : World) (l : List Res) (X : VX) (o : VOk X) (hn : X.ms.length = 2) (he : X.e = 3) (Ms : List MS) (h : VA w [] w1 l X Ms 0) => (show Calls Try.prog 8 #[.pointer (some ⟨X.vb, 0, none⟩), .int .i64 5] w1 fun r w' => r = .returned (.tuple #[.int .i64 1, .int .i64 2, .int .i64 0]) ∧ Fr [] w1 w' from by have := vplace_v h o 5; rw [hn, he] at this; exact this)
  have HI := hid fun (w1 : World) (l : List Res) (X : VX) (o : VOk X) (hn : X.ms.length = 2) (he : X.e = 3) (Ms : List MS) (h : VA w [] w1 l X Ms 0) => (show Calls Try.prog 10 #[.pointer (some ⟨X.vb, 0, none⟩), .int .i64 1, .int .i64 2] w1 fun r w' => r = .returned (.tuple #[.int .i64 5, .int .i64 0]) ∧ w' = w1 from by have := vindex_v h o 1 2; rw [hn, he] at this; exact this)
  generalize fill7 120 = S at *
  clear hi9 hz9 hs9 hb9 hzc9 n1 n2 n3 n4 q1 q2 q3 hSz
  go_enter Try.func11, Try.ntmps11
  go_wp2_with (go_at_call 6; refine HD.out.mono ?_; rintro e w1 ⟨vd, Xd, vx, Bx, Fs, Gs, rfl, hFl, hGl, ev1⟩; have nst := hid trivial; revert nst)
  intro _
  obtain ⟨ss, s1, s2, s3, ev2⟩ := disks_ss ev1 (k := 2) hFl
  obtain ⟨B, rfl, erow⟩ := disks_row (ss := ss) (ev2.held.ownAt 0 rfl) hFl (by decide) s2
  rw [erow] at ev2
  have HMk := hid (HM.out w1 ss vd vx B _ ev2 s1 s3)
  rw [s1] at HMk
  obtain ⟨p0, p1, rfl⟩ : ∃ p0 p1, ss = [p0, p1] := by
    match ss, s1 with
    | [p0, p1], _ => exact ⟨p0, p1, rfl⟩
  obtain ⟨cd, rfl⟩ : ∃ cd, vd = .slice (some ⟨B, 0, none⟩) 4 cd := by
    rcases (ev2.held.ownAt 0 rfl).shape with ⟨_, _, _, h0⟩ | ⟨b, c, h0, h1, _⟩
    · cases h0
    · cases h0
      exact ⟨c, h1⟩
  have HR := hid fun (w2 : World) (h : Xr.Own w2 1 (.slice (some ⟨B, 0, none⟩) 4 cd) (dsOf [p0, p1]).length (((dsOf [p0, p1]).map some).map pv) (some B)) => (show w2.cell? ⟨B, 0, none⟩ = some (.pointer (some ⟨p0.d false, 0, none⟩)) ∧ w2.cell? ⟨B, 1, none⟩ = some (.pointer (some ⟨p0.d true, 0, none⟩)) ∧ w2.cell? ⟨B, 2, none⟩ = some (.pointer (some ⟨p1.d false, 0, none⟩)) from by
    obtain ⟨b, off, c2, hB, hv2, _, _, _, h4⟩ := (h.rd.rc).some (by simp [dsOf, dsP])
    obtain ⟨⟨rfl, rfl⟩, _⟩ : (B = b ∧ 0 = off) ∧ cd = c2 := by simpa [dsOf, dsP] using hv2
    have g0 := h4 0 (by simp [dsOf, dsP])
    have g1 := h4 1 (by simp [dsOf, dsP])
    have g2 := h4 2 (by simp [dsOf, dsP])
    exact ⟨g0, g1, g2⟩)
  clear HM ev1 ev2 erow s1 s2 s3 hFl hGl HD
  go_wp2_with (first
    | (go_at_call 7; refine HMk.out.mono ?_; rintro r w2 ⟨X, rfl, o2, x1, x2, x3, va2⟩; have V2 := hid va2; have hl2 := hid (HL.out _ _ _ o2 x1 x3 _ va2); have O2 := hid o2; have X1 := hid x1; have X2 := hid x2; have X3 := hid x3; clear va2 HMk HL o2 x1 x2 x3)
    | (go_at_call 9; refine hl2.out.mono ?_; rintro r w3 ⟨rfl, f3⟩; have V3 := hid (V2.out.step f3); have hp3 := hid (HP.out _ _ _ O2.out X1.out X3.out _ V3.out); clear f3 hl2 HP V2)
    | (go_at_call 8; refine hp3.out.mono ?_; rintro r w4 ⟨rfl, f4⟩; have V4 := hid (V3.out.step f4); have hi4 := hid (HI.out _ _ _ O2.out X1.out X3.out _ V4.out); clear f4 hp3 HI V3)
    | (go_at_call 10; refine hi4.out.mono ?_; rintro r w5 ⟨rfl, hw⟩; subst hw; clear hi4))
  have V5 := hid (V4.out.step ((Fr.refl [] w5).drew))
  have hs5 := HR.out _ (V5.out.held.ownAt 0 rfl)
  refine wp_region_D (fun w' => w'.cell? ⟨B, 0, none⟩ = some (.pointer (some ⟨p0.d false, 0, none⟩)) ∧ w'.cell? ⟨B, 1, none⟩ = some (.pointer (some ⟨p0.d true, 0, none⟩)) ∧ w'.cell? ⟨B, 2, none⟩ = some (.pointer (some ⟨p1.d false, 0, none⟩))) false [] (by kernel_rfl) ?_
  refine WD.pure [0, 1, 2, 3, 4, 5, 6, 7, 8, 9, 10, 11] (by kernel_rfl) hs5 ?_
  simp only [pick, List.toList_toArray, List.map_cons, List.map_nil, List.getD_cons_succ, List.getD_cons_zero]
  repeat (first | (refine quiet_load_1R (by rfl) _ _ rfl rfl (.pointer (some ⟨p0.d false, 0, none⟩)) (fun w0 h => h.1) _ Try.underlying37 rfl ?_; simp only [World.size_alloc, World.size_drew, Act.put, List.setIfInBounds_toArray, List.set_cons_succ, List.set_cons_zero]) | (refine quiet_load_1R (by rfl) _ _ rfl rfl (.pointer (some ⟨p0.d true, 0, none⟩)) (fun w0 h => h.2.1) _ Try.underlying37 rfl ?_; simp only [World.size_alloc, World.size_drew, Act.put, List.setIfInBounds_toArray, List.set_cons_succ, List.set_cons_zero]) | (refine quiet_load_1R (by rfl) _ _ rfl rfl (.pointer (some ⟨p1.d false, 0, none⟩)) (fun w0 h => h.2.2) _ Try.underlying37 rfl ?_; simp only [World.size_alloc, World.size_drew, Act.put, List.setIfInBounds_toArray, List.set_cons_succ, List.set_cons_zero]) | go_big_quiet_step (fail))
  refine wpQuiet_nil ?_
  refine WD.eff 12 (by kernel_rfl) ?_
  simp only [pick, List.toList_toArray, List.map_cons, List.map_nil, List.getD_cons_succ, List.getD_cons_zero]
  go_wp2_with (refine wpList_buildSlice_r rfl _ 4 _ rfl 37 Try.underlying22 _ _ Hi.out Hz.out Hzc.out Hs.out (by decide) (by decide) (by decide) [.pointer (some ⟨p0.d false, 0, none⟩), .pointer (some ⟨p0.d true, 0, none⟩), .pointer (some ⟨p0.d false, 0, none⟩), .pointer (some ⟨p1.d false, 0, none⟩)] rfl (by intro v hv; simp at hv; rcases hv with rfl | rfl | rfl | rfl <;> rfl) ?_; intro w7 f7 hlt7 hb7; simp only [World.size_alloc, World.size_drew, Act.put, List.setIfInBounds_toArray, List.set_cons_succ, List.set_cons_zero])
  have V7 := hid (V5.out.step f7)
  have hs7 := HR.out _ (V7.out.held.ownAt 0 rfl)
  have hdup := hid (mkall_dup (xs := [some (p0.d false), some (p0.d true), some (p0.d false), some (p1.d false)]) (n := 4) (rc_blk hb7 rfl (by decide)) rfl (fun x hx b hb => by
    have g0 : X.ds[0]? = some p0.d := by rw [X2.out]; rfl
    have g1 : X.ds[1]? = some p1.d := by rw [X2.out]; rfl
    simp at hx
    rcases hx with rfl | rfl | rfl | rfl
    all_goals
      cases hb
      first
        | exact V7.out.pln g0 false
        | exact V7.out.pln g0 true
        | exact V7.out.pln g1 false) (by decide) (by decide) (by decide) ⟨2, by decide, p0.d false, rfl, by simp⟩)
  try refine wpList_nil ?_
  refine AfterD.on hs7 (by kernel_rfl) ?_
  try simp only [World.size_alloc, World.size_drew, Act.put, List.setIfInBounds_toArray, List.set_cons_succ, List.set_cons_zero]
  refine WD.eff 13 (by kernel_rfl) ?_
  simp only [pick, List.toList_toArray, List.map_cons, List.map_nil, List.getD_cons_succ, List.getD_cons_zero]
  go_wp2_with (go_at_call 7; refine hdup.out.mono ?_; rintro r w8 ⟨rfl, f8⟩; have V8 := hid (V7.out.step f8); clear hdup)
  have hs8 := HR.out _ (V8.out.held.ownAt 0 rfl)
  try refine wpList_nil ?_
  refine AfterD.on hs8 (by kernel_rfl) ?_
  try simp only [World.size_alloc, World.size_drew, Act.put, List.setIfInBounds_toArray, List.set_cons_succ, List.set_cons_zero]
  refine WD.pure [14, 15, 16, 17, 18] (by kernel_rfl) hs8 ?_
  simp only [pick, List.toList_toArray, List.map_cons, List.map_nil, List.getD_cons_succ, List.getD_cons_zero]
  repeat (first | (refine quiet_load_1R (by rfl) _ _ rfl rfl (.pointer (some ⟨p0.d false, 0, none⟩)) (fun w0 h => h.1) _ Try.underlying37 rfl ?_; simp only [World.size_alloc, World.size_drew, Act.put, List.setIfInBounds_toArray, List.set_cons_succ, List.set_cons_zero]) | (refine quiet_load_1R (by rfl) _ _ rfl rfl (.pointer (some ⟨p0.d true, 0, none⟩)) (fun w0 h => h.2.1) _ Try.underlying37 rfl ?_; simp only [World.size_alloc, World.size_drew, Act.put, List.setIfInBounds_toArray, List.set_cons_succ, List.set_cons_zero]) | (refine quiet_load_1R (by rfl) _ _ rfl rfl (.pointer (some ⟨p1.d false, 0, none⟩)) (fun w0 h => h.2.2) _ Try.underlying37 rfl ?_; simp only [World.size_alloc, World.size_drew, Act.put, List.setIfInBounds_toArray, List.set_cons_succ, List.set_cons_zero]) | go_big_quiet_step (fail))
  refine wpQuiet_nil ?_
  refine WD.done (by kernel_rfl) ?_
  go_wp2_with (first
    | (go_at_call 25; refine (hF.out _).mono ?_; rintro r w9 ⟨rfl, f9⟩; have V9 := hid (V8.out.step f9); have hw9 := hid (HW.out _ _ _ O2.out X1.out X3.out V9.out); clear f9)
    | (go_at_call 17; refine hw9.out.mono ?_; rintro r w10 ⟨rfl, v10⟩))
  go_ret
  exact ⟨rfl, v10.fr⟩
end
end Go.Proofs.Ytgafefecookgaaa
