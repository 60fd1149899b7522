/- Layer 8: disks, MakeAll, OpenAll. -/
import Derived.Test.YtgafefecookgaaaVolM
namespace Go.Proofs.Ytgafefecookgaaa
open Go Go.Xr Go.RowKit
set_option linter.unusedVariables false
set_option linter.unusedSimpArgs false
def dkC (n : Nat) (q : Nat × List Nat) : Res := dk q.1 (newXD n) [] none q.2
def xkC (n : Nat) (q : Nat × XI) : List Res := xps q.1 (newXD n) none q.2
set_option maxRecDepth 20000 in
theorem infDp : ∃ i z, Try.prog.info? 37 = some i ∧ i.zero = some z ∧ i.size = 1 ∧ i.bytes = 8 ∧ z.cells.size = 1 := ⟨_, _, rfl, rfl, rfl, rfl, rfl⟩
set_option maxRecDepth 20000 in
theorem infXp : ∃ i z, Try.prog.info? 56 = some i ∧ i.zero = some z ∧ i.size = 1 ∧ i.bytes = 8 ∧ z.cells.size = 1 := ⟨_, _, rfl, rfl, rfl, rfl, rfl⟩
theorem disks_perm {a b c : Res} (A B xs : List Res) : (a :: b :: c :: ((A ++ B) ++ xs)).Perm ([b, c] ++ ((A ++ [a]) ++ (B ++ xs))) := by
  have h1 : (a :: b :: c :: ((A ++ B) ++ xs)).Perm (b :: c :: a :: ((A ++ B) ++ xs)) := (List.Perm.swap b a _).trans (List.Perm.cons b (List.Perm.swap c a _))
  have h2 : (a :: ((A ++ B) ++ xs)).Perm ((A ++ [a]) ++ (B ++ xs)) := by
    rw [List.append_assoc, List.append_assoc]
    exact List.perm_middle.symm
  exact h1.trans (List.Perm.cons b (List.Perm.cons c h2))
set_option maxRecDepth 20000 in
set_option maxHeartbeats 4000000 in
theorem disks_any {w : World} (K n : Nat) (hK : K ≤ 40) (h1 : 1 ≤ n) (h2 : n ≤ 16384) :
    Calls Try.prog 6 #[.int .i64 (K : Int), .int .i64 (n : Int)] w fun e w' => ∃ (vd : Value) (Xd : Option Nat) (vx : Value) (Bx : Option Nat) (Fs : List (Nat × List Nat)) (Gs : List (Nat × XI)), e = .returned (.tuple #[vd, vx]) ∧ Fs.length = K ∧ Gs.length = K ∧
      Ev w [] w' ([Res.own 1 vd K (Fs.map fun q => pv (some q.1)) Xd, Res.own 1 vx K (Gs.map fun q => pv (some q.1)) Bx] ++ (Fs.map (dkC n) ++ Gs.flatMap (xkC n))) := by
  obtain ⟨i9, z9, hi9, hz9, hs9, hb9, hzc9⟩ := infDp
  have Hi := hid hi9
  have Hz := hid hz9
  have Hs := hid hs9
  have Hb := hid hb9
  have Hzc := hid hzc9
  obtain ⟨i8, z8, hi8, hz8, hs8, hb8, hzc8⟩ := infXp
  have Xi := hid hi8
  have Xz := hid hz8
  have Xs := hid hs8
  have Xb := hid hb8
  have Xzc := hid hzc8
  clear hi9 hz9 hs9 hb9 hzc9 hi8 hz8 hs8 hb8 hzc8
  have HN := hid fun w1 : World => newp_ok (w := w1) n h1 h2
  have HX := hid fun w1 : World => xnew_ok (w := w1) n h1 h2
  clear h1 h2
  go_enter Try.func6, Try.ntmps6
  go_wp2_with fail
  go_loopw [6, 7, 8] (fun dv xv iv wr => ∃ (i : Nat) (Xd Bx : Option Nat) (Fs : List (Nat × List Nat)) (Gs : List (Nat × XI)), i ≤ K ∧ iv = .int .i64 (i : Int) ∧ Fs.length = i ∧ Gs.length = i ∧ dv.oneCell' = true ∧ xv.oneCell' = true ∧
      Hid (Ev w [] wr ([Res.own 1 dv i (Fs.map fun q => pv (some q.1)) Xd, Res.own 1 xv i (Gs.map fun q => pv (some q.1)) Bx] ++ (Fs.map (dkC n) ++ Gs.flatMap (xkC n))))) (fun _ _ iv _ => K - (intOf iv).toNat)
  case atStart =>
    refine ⟨0, none, none, [], [], by omega, rfl, rfl, rfl, rfl, rfl, hid ?_⟩
    have e1 := ((Ev.start w).new (Fr.refl [] w) (Res.On.own (Own.nil w 1)) (by simp [Res.own])).new (Fr.refl [] w) (Res.On.own (Own.nil w 1)) (by simp [Res.own])
    exact e1
  case round =>
    obtain ⟨i, Xd, Bx, Fs, Gs, hi, rfl, hFl, hGl, hd1, hx1, E⟩ := hrel
    by_cases hlt : i < K
    · have hdd : decide ((i : Int) < (K : Int)) = true := by simp; omega
      have hdn : decide (i < K) = true := by simp; omega
      have hi40 : (i : Int) ≤ 40 := by omega
      have HFl := hid hFl
      have HGl := hid hGl
      clear hFl hGl
      go_wp2_with (first
        | (go_at_call 12; refine (HN.out _).mono ?_; rintro e w5 ⟨d, F, rfl, r5, p5, f5, g5⟩; have E5 := hid (E.out.new f5 (dk_new r5 p5 []) g5); clear r5 p5 f5 g5 E HN)
        | (go_at_call 26; refine (HX.out _).mono ?_; rintro e w6 ⟨x, xi, rfl, ev6⟩; have E6 := hid (Ev.then _ [] (by rw [List.append_nil, List.append_nil]; exact E5.out) ev6); clear ev6 E5 HX)
        | (refine wpList_buildSlice_r rfl _ 1 _ rfl 37 Try.underlying22 _ _ Hi.out Hz.out Hzc.out Hs.out (by decide) (by decide) (by decide) [.pointer (some ⟨d, 0, none⟩)] rfl (by intro v hv; simp at hv; rcases hv with rfl; rfl) ?_
           intro w7 f7 hlt7 hb7
           have o7 := E6.out.held.ownAt 1 rfl
           have hz7 := w6.heap.size
           simp only [World.size_alloc, World.size_drew, Act.put, List.setIfInBounds_toArray, List.set_cons_succ, List.set_cons_zero])
        | (refine wpList_append_rc (m := 1) (n := i) (news := [.pointer (some ⟨d, 0, none⟩)]) rfl _ _ _ rfl 37 _ _ 1 8 Try.underlying22 Hi.out Hz.out Hs.out Hb.out Hzc.out (by decide) rfl (o7.keep f7 (by simp)) rfl (rc_blk (n := 1) (xs := [.pointer (some ⟨d, 0, none⟩)]) hb7 rfl (by simp [maxLen])) (by intro u hu; simp at hu; rw [hu]; rfl) (by unfold maxLen; omega) (by omega) ?_
           intro v8 w8 X8 ho8 f8 hX8
           have E8 := hid ((E6.out.step f7).at 1 rfl f8 (fun b hb => .inl hb) (Res.On.own ho8) (fun b hb => by
             rcases hX8 with rfl | ⟨b', rfl, hb'⟩
             · exact .inl hb
             · obtain rfl : b = b' := by simpa [Res.own] using hb
               exact .inr hb'))
           have hv8 : v8.oneCell' = true := by obtain ⟨_, _, rfl⟩ := ho8.isSlice; rfl
           clear o7 hb7 f7 f8 ho8 hX8 E6
           simp only [World.size_alloc, World.size_drew, Act.put, List.setIfInBounds_toArray, List.set_cons_succ, List.set_cons_zero])
        | (refine wpList_buildSlice_r rfl _ 1 _ rfl 56 Try.underlying23 _ _ Xi.out Xz.out Xzc.out Xs.out (by decide) (by decide) (by decide) [.pointer (some ⟨x, 0, none⟩)] rfl (by intro v hv; simp at hv; rcases hv with rfl; rfl) ?_
           intro w9 f9 hlt9 hb9
           have o9 := E8.out.held.ownAt 2 rfl
           simp only [World.size_alloc, World.size_drew, Act.put, List.setIfInBounds_toArray, List.set_cons_succ, List.set_cons_zero])
        | (refine wpList_append_rc (m := 1) (n := i) (news := [.pointer (some ⟨x, 0, none⟩)]) rfl _ _ _ rfl 56 _ _ 1 8 Try.underlying23 Xi.out Xz.out Xs.out Xb.out Xzc.out (by decide) rfl (o9.keep f9 (by simp)) rfl (rc_blk (n := 1) (xs := [.pointer (some ⟨x, 0, none⟩)]) hb9 rfl (by simp [maxLen])) (by intro u hu; simp at hu; rw [hu]; rfl) (by unfold maxLen; omega) (by omega) ?_
           intro v10 w10 X10 ho10 f10 hX10
           have E10 := hid ((E8.out.step f9).at 2 rfl f10 (fun b hb => .inl hb) (Res.On.own ho10) (fun b hb => by
             rcases hX10 with rfl | ⟨b', rfl, hb'⟩
             · exact .inl hb
             · obtain rfl : b = b' := by simpa [Res.own] using hb
               exact .inr hb'))
           have hv10 : v10.oneCell' = true := by obtain ⟨_, _, rfl⟩ := ho10.isSlice; rfl
           clear o9 hb9 f9 f10 ho10 hX10 E8
           simp only [World.size_alloc, World.size_drew, Act.put, List.setIfInBounds_toArray, List.set_cons_succ, List.set_cons_zero]))
      go_roundw
      case rel =>
        refine ⟨i + 1, X8, X10, Fs ++ [(d, F)], Gs ++ [(x, xi)], by omega, by go_num, by simp [HFl.out], by simp [HGl.out], hv8, hv10, hid ?_⟩
        have e1 := E10.out
        rw [List.append_nil] at e1
        have e2 := Ev.perm e1 (disks_perm (Fs.map (dkC n)) (Gs.flatMap (xkC n)) (xps x (newXD n) none xi))
        simp only [List.map_append, List.flatMap_append, List.map_cons, List.map_nil, List.flatMap_cons, List.flatMap_nil, List.append_nil]
        exact e2
      case measure => simp [intOf]; omega
    · obtain rfl : i = K := by omega
      have hd : decide ((i : Int) < (i : Int)) = false := by simp
      clear hlt hi
      go_wp2_with fail
      go_ret2
      exact ⟨_, Xd, _, Bx, Fs, Gs, rfl, hFl, hGl, E.out⟩
section
variable {w w' w0 : World} {l rs : List Res}
/-- What comes behind is let go. -/
theorem Ev.headL {a b : List Res} (e : Ev w0 rs w (a ++ b)) : Ev w0 rs w a := by
  induction b with
  | nil => simpa using e
  | cons r b ih => exact ih (Ev.less a b e)
/-- New disks, two by two. -/
theorem pair_up (n : Nat) : ∀ (k : Nat) (Fs : List (Nat × List Nat)) (l : List Res), Fs.length = 2 * k → Ev w0 rs w (l ++ Fs.map (dkC n)) → ∃ ss : List VS, ss.length = k ∧ dsOf ss = Fs.map (fun q => q.1) ∧ (∀ s ∈ ss, s.s = sy (newXD n) (newXD n) []) ∧ Ev w0 rs w (l ++ vssC ss)
  | 0, Fs, l, hl, e => by
    obtain rfl : Fs = [] := List.eq_nil_of_length_eq_zero hl
    exact ⟨[], rfl, rfl, by simp, e⟩
  | k + 1, [], l, hl, e => by simp at hl
  | k + 1, [q], l, hl, e => by simp at hl; omega
  | k + 1, q0 :: q1 :: Fs, l, hl, e => by
    have e1 : Ev w0 rs w ((Res.pows [] [] :: l) ++ (dkC n q0 :: dkC n q1 :: Fs.map (dkC n))) := e.new (Fr.refl _ _) (pows0 w) (fun b hb => by simp [Res.pows] at hb)
    have e2 : Ev w0 rs w ((l ++ vsC ⟨dd2 q0.1 q1.1, ff2 q0.2 q1.2, sy (newXD n) (newXD n) []⟩) ++ Fs.map (dkC n)) := by
      refine Ev.perm e1 ?_
      rw [List.append_assoc]
      exact List.perm_middle.symm
    obtain ⟨ss, h1, h2, h3, h4⟩ := pair_up n k Fs _ (by simp at hl; omega) e2
    refine ⟨⟨dd2 q0.1 q1.1, ff2 q0.2 q1.2, sy (newXD n) (newXD n) []⟩ :: ss, by simp [h1], ?_, fun s hs => ?_, ?_⟩
    · have : dsOf (⟨dd2 q0.1 q1.1, ff2 q0.2 q1.2, sy (newXD n) (newXD n) []⟩ :: ss) = q0.1 :: q1.1 :: dsOf ss := rfl
      rw [this, h2]
      rfl
    · rcases List.mem_cons.1 hs with rfl | hs
      · rfl
      · exact h3 s hs
    · rw [List.append_assoc] at h4
      exact h4
end
section
variable {w w' w0 : World} {l rs : List Res} {ss : List VS} {v : Value} {B i0 e : Nat}
set_option maxRecDepth 20000 in
theorem mkall (mf : Sys → MS) (ev : Ev w0 rs w (l ++ vssC ss)) (hi : l[i0]? = some (Res.own 1 v (dsOf ss).length (((dsOf ss).map some).map pv) (some B))) (h1 : 1 ≤ ss.length) (h8 : ss.length ≤ 8)
    (hok : ∀ s ∈ ss, SysOk (mf s.s).s ∧ (mf s.s).s.len false = e + 1) (he : 1 ≤ e)
    (HT : ∀ s ∈ ss, ∀ (l1 : List Res) (w1 : World), Held w1 (l1 ++ vsC s) → Calls Try.prog 28 #[.pointer (some ⟨s.d false, 0, none⟩), .pointer (some ⟨s.d true, 0, none⟩)] w1 fun e w' => ∃ m FF', e = .returned (.tuple #[.pointer (some ⟨m, 0, none⟩), .int .i64 0]) ∧ Ev w1 (l1 ++ vsC s) w' (l1 ++ mirC [] m s.d FF' (mf s.s))) :
    Calls Try.prog 7 #[v] w fun r w' => ∃ X : VX, r = .returned (.tuple #[.pointer (some ⟨X.vb, 0, none⟩), .int .i64 0]) ∧ X.ms.length = ss.length ∧ X.ds = ss.map VS.d ∧ X.e = e ∧ VA w0 rs w' l X (ss.map fun s => mf s.s) 0 := by
  have HO := hid (of_Make mf ev.held hi h1 h8 (e + 1) hok (by omega) HT)
  rw [show (((e + 1 : Nat) : Int)) - 1 = (e : Int) by omega] at HO
  have EV := hid ev
  have hh := ev.held.ownAt i0 (by rw [List.getElem?_append_left (List.getElem?_eq_some_iff.1 hi).1]; exact hi)
  obtain ⟨ad, c, rfl⟩ := hh.isSlice
  clear ev hi hok HT hh
  go_enter Try.func7, Try.ntmps7
  go_wp2_with (go_at_call 27; refine HO.out.mono ?_; rintro r w5 ⟨vb, rb, v', ps, rfl, hps, v5⟩)
  go_ret2
  have e1 : ps.map VP.d = ss.map VS.d := by
    have := congrArg (List.map Prod.fst) hps
    simpa [Function.comp_def] using this
  have e2 : ps.map VP.M = ss.map fun s => mf s.s := by
    have := congrArg (List.map Prod.snd) hps
    simpa [Function.comp_def] using this
  have e3 := VA.made EV.out v5
  refine ⟨⟨vb, rb, v', ps.map VP.m, ps.map VP.d, e⟩, rfl, ?_, e1, rfl, ?_⟩
  · have := congrArg List.length hps
    simpa using this
  · rw [← e2]
    exact e3
set_option maxRecDepth 20000 in
theorem opall (mf : Sys → MS) (ev : Ev w0 rs w (l ++ vssC ss)) (hi : l[i0]? = some (Res.own 1 v (dsOf ss).length (((dsOf ss).map some).map pv) (some B))) (h1 : 1 ≤ ss.length) (h8 : ss.length ≤ 8)
    (hok : ∀ s ∈ ss, SysOk (mf s.s).s ∧ (mf s.s).s.len false = e + 1) (he : 1 ≤ e)
    (HT : ∀ s ∈ ss, ∀ (l1 : List Res) (w1 : World), Held w1 (l1 ++ vsC s) → Calls Try.prog 44 #[.pointer (some ⟨s.d false, 0, none⟩), .pointer (some ⟨s.d true, 0, none⟩)] w1 fun e w' => ∃ m FF', e = .returned (.tuple #[.pointer (some ⟨m, 0, none⟩), .int .i64 0]) ∧ Ev w1 (l1 ++ vsC s) w' (l1 ++ mirC [] m s.d FF' (mf s.s))) :
    Calls Try.prog 24 #[v] w fun r w' => ∃ X : VX, r = .returned (.tuple #[.pointer (some ⟨X.vb, 0, none⟩), .int .i64 0]) ∧ X.ms.length = ss.length ∧ X.ds = ss.map VS.d ∧ X.e = e ∧ VA w0 rs w' l X (ss.map fun s => mf s.s) 0 := by
  have HO := hid (of_Open mf ev.held hi h1 h8 (e + 1) hok (by omega) HT)
  rw [show (((e + 1 : Nat) : Int)) - 1 = (e : Int) by omega] at HO
  have EV := hid ev
  have hh := ev.held.ownAt i0 (by rw [List.getElem?_append_left (List.getElem?_eq_some_iff.1 hi).1]; exact hi)
  obtain ⟨ad, c, rfl⟩ := hh.isSlice
  clear ev hi hok HT hh
  go_enter Try.func24, Try.ntmps24
  go_wp2_with (go_at_call 27; refine HO.out.mono ?_; rintro r w5 ⟨vb, rb, v', ps, rfl, hps, v5⟩)
  go_ret2
  have e1 : ps.map VP.d = ss.map VS.d := by
    have := congrArg (List.map Prod.fst) hps
    simpa [Function.comp_def] using this
  have e2 : ps.map VP.M = ss.map fun s => mf s.s := by
    have := congrArg (List.map Prod.snd) hps
    simpa [Function.comp_def] using this
  have e3 := VA.made EV.out v5
  refine ⟨⟨vb, rb, v', ps.map VP.m, ps.map VP.d, e⟩, rfl, ?_, e1, rfl, ?_⟩
  · have := congrArg List.length hps
    simpa using this
  · rw [← e2]
    exact e3
end
end Go.Proofs.Ytgafefecookgaaa
