/- Layer 2: MacIs, the walk. -/
import Derived.Test.YtfcpnicgffbmeaaMacG
namespace Go.Proofs.Ytfcpnicgffbmeaa
open Go Go.Xr Go.RowKit
set_option linter.unusedVariables false
set_option linter.unusedSimpArgs false

theorem beq_txt (a b : ByteArray) : (a.toList == b.toList) = decide (b = a) := by
  rw [Bool.eq_iff_iff]
  simp only [beq_iff_eq, decide_eq_true_eq, ByteArray.toList_eq]
  constructor
  · intro h
    apply ByteArray.ext
    apply Array.ext'
    exact h.symm
  · rintro rfl
    rfl

set_option maxRecDepth 20000 in
set_option maxHeartbeats 1000000 in
theorem is_walk {w : World} (key s tag : ByteArray) (hk : key.size ≤ 140737488351232) (hs : s.size ≤ 140737488351232) (ht : tag.size ≤ 140737488351232) : Calls Try.prog 6 #[.string key, .string s, .string tag] w fun e w' => e = .returned (.bool true) ∧ Fr [] w w' := by
  obtain ⟨i9, hi9, hz9, hs9⟩ := inf9
  have Hi := hid hi9
  have Hz := hid hz9
  have Hs9 := hid hs9
  clear hi9 hz9 hs9
  cases hsm : smallS [key, s] with
  | true =>
    have hb : key.size + s.size ≤ 8192 := by
      unfold smallS at hsm
      simp [totL] at hsm
      omega
    obtain ⟨T, hT⟩ : ∃ T, macS key s = T := ⟨_, rfl⟩
    have hTs : T.size = 32 := by rw [← hT]; exact macS_size _ _
    have h1 := fun w0 : World => rmac_any (w := w0) key s (by omega) (by omega)
    have h2 := fun w0 : World => is_any (w := w0) key s tag (by omega) (by omega) (by omega)
    have h3 := fun w0 : World => is_any (w := w0) key s T (by omega) (by omega) (by omega)
    have h4 := fun w0 : World => same_any (w := w0) s tag (by omega) (by omega)
    have h5 := fun w0 : World => same_any (w := w0) tag tag (by omega) (by omega)
    rw [hT] at h1 h2 h3
    rw [decide_eq_true (rfl : T = T)] at h3
    rw [decide_eq_true (rfl : tag = tag)] at h5
    have q1 := beq_txt tag T
    have q2 : (s.toList == tag.toList) = decide (s = tag) := by rw [beq_txt, decide_eq_decide]; exact eq_comm
    cases c1 : decide (T = tag)
    all_goals
      cases c2 : decide (s = tag)
      all_goals
        rw [c1] at h2 q1
        rw [c2] at h4 q2
        have H1 := hid h1
        have H2 := hid h2
        have H3 := hid h3
        have H4 := hid h4
        have H5 := hid h5
        have Hsm := hid hsm
        clear h1 h2 h3 h4 h5 c1 c2 hT hsm
        go_enter Try.func6, Try.ntmps6
        go_wp2_with (refine wpList_buildSlice_any rfl _ 2 _ rfl 9 Try.underlying22 _ _ Hi.out Hz.out rfl Hs9.out (by decide) (by decide) rfl [.string key, .string s] rfl (by simp [Value.oneCell']) ?_; intro w2 f2 hlt2 hb2; simp only [World.size_alloc, World.size_drew, Act.put, List.setIfInBounds_toArray, List.set_cons_succ, List.set_cons_zero])
        refine (small_any (l := [key, s]) (rc_of_blk hb2 rfl (by simp [maxLen])) (by simp) (by simp; omega)).mono ?_
        rintro e w3 ⟨rfl, f3⟩
        rw [Hsm.out]
        go_wp2_with fail
        refine (H1.out _).mono ?_
        rintro e w4 ⟨rfl, f4⟩
        go_wp2_with fail
        refine (H2.out _).mono ?_
        rintro e w5 ⟨rfl, f5⟩
        go_wp2_with fail
        refine (H3.out _).mono ?_
        rintro e w6 ⟨rfl, f6⟩
        go_wp2_with fail
        refine (H4.out _).mono ?_
        rintro e w7 ⟨rfl, f7⟩
        go_wp2_with fail
        refine (H5.out _).mono ?_
        rintro e w8 ⟨rfl, f8⟩
        go_wp2_with fail
        refine alive_any.mono ?_
        rintro e w9 ⟨rfl, f9⟩
        go_wp2_with fail
        go_ret
        exact ⟨rfl, ((((((f2.trans' f3).trans' f4).trans' f5).trans' f6).trans' f7).trans' f8).trans' f9⟩
  | false =>
    have Hsm := hid hsm
    clear hsm
    go_enter Try.func6, Try.ntmps6
    go_wp2_with (refine wpList_buildSlice_any rfl _ 2 _ rfl 9 Try.underlying22 _ _ Hi.out Hz.out rfl Hs9.out (by decide) (by decide) rfl [.string key, .string s] rfl (by simp [Value.oneCell']) ?_; intro w2 f2 hlt2 hb2; simp only [World.size_alloc, World.size_drew, Act.put, List.setIfInBounds_toArray, List.set_cons_succ, List.set_cons_zero])
    refine (small_any (l := [key, s]) (rc_of_blk hb2 rfl (by simp [maxLen])) (by simp) (by simp; omega)).mono ?_
    rintro e w3 ⟨rfl, f3⟩
    rw [Hsm.out]
    go_wp2_with fail
    refine alive_any.mono ?_
    rintro e w4 ⟨rfl, f4⟩
    go_wp2_with fail
    go_ret
    exact ⟨rfl, (f2.trans' f3).trans' f4⟩
end Go.Proofs.Ytfcpnicgffbmeaa
