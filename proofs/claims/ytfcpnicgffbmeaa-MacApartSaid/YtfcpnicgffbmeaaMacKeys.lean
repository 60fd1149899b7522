/- Layer 2: MacKeys, the walk. -/
import Derived.Test.YtfcpnicgffbmeaaMacG
namespace Go.Proofs.Ytfcpnicgffbmeaa
open Go Go.Xr Go.RowKit
set_option linter.unusedVariables false
set_option linter.unusedSimpArgs false

theorem totL_mem (l : List ByteArray) (s : ByteArray) (h : s ∈ l) : s.size ≤ totL l := by
  induction l with
  | nil => simp at h
  | cons t l ih =>
    have e2 : totL (t :: l) = t.size + totL l := by simp [totL]
    rw [e2]
    rcases List.mem_cons.1 h with rfl | h
    · omega
    · have := ih h
      omega
theorem small_yes {l : List ByteArray} (h : smallS l = true) : totL l ≤ 8192 ∧ l.length ≤ 200 := by
  unfold smallS at h
  simpa using h

set_option maxRecDepth 20000 in
set_option maxHeartbeats 1000000 in
theorem keys_walk {w : World} {v : Value} {l : List ByteArray} {LB : Option Nat} (key label : ByteArray) (n : Int) (hl : Rc w 1 v l.length (l.map .string) LB) (hm : l.length ≤ maxLen) (ho : ∀ s ∈ l, s.size ≤ 140737488351232) (hk : key.size ≤ 140737488351232) (hs : label.size ≤ 140737488351232) :
    Calls Try.prog 4 #[.string key, .string label, .int .i64 n, v] w fun e w' => e = .returned (.bool true) ∧ Fr [] w w' := by
  unfold maxLen at hm
  obtain ⟨i9, hi9, hz9, hs9⟩ := inf9
  have Hi := hid hi9
  have Hz := hid hz9
  have Hs9 := hid hs9
  clear hi9 hz9 hs9
  have h1 := fun (w0 : World) (h : Rc w0 1 v l.length (l.map .string) LB) => small_any h hm ho
  have h2 := fun (w0 : World) (b : Nat) (h : Blk w0 b [.string key, .string label]) => small_any (l := [key, label]) (rc_of_blk h rfl (by simp [maxLen])) (by simp) (by simp; omega)
  have Ho := hid ho
  clear ho
  cases c2 : smallS [key, label]
  all_goals
    cases c1 : smallS l
  all_goals
    rw [c1] at h1
    rw [c2] at h2
    have H1 := hid h1
    have H2 := hid h2
    clear h1 h2
  case true.true =>
    have hb := small_yes c2
    have hc := small_yes c1
    simp [totL] at hb
    clear c1 c2
    by_cases h40 : l.length ≤ 40
    · have hd40 : decide (40 < (l.length : Int)) = false := by simp; omega
      obtain ⟨X, E, D1, D2⟩ : ∃ (X : ByteArray) (E : Int), Hid (∀ w0 : World, Calls Try.prog 13 #[.string key, .string label, .int .i64 n] w0 fun e w' => e = .returned (.tuple #[.string X, .int .i64 E]) ∧ Fr [] w0 w') ∧ Hid (∀ w0 : World, Calls Try.prog 14 #[.string key, .string label, .int .i64 n] w0 fun e w' => e = .returned (.tuple #[.string X, .int .i64 E]) ∧ Fr [] w0 w') := by
        by_cases hn : n < 0 ∨ n > 8160
        · refine ⟨⟨#[]⟩, 2, hid fun w0 => (mder_bad key label n hn).mono ?_, hid fun w0 => (rder_bad key label n hn).mono ?_⟩
          · rintro e w' ⟨rfl, rfl⟩
            exact ⟨rfl, Fr.refl _ _⟩
          · rintro e w' ⟨rfl, rfl⟩
            exact ⟨rfl, Fr.refl _ _⟩
        · obtain ⟨m, rfl⟩ : ∃ m : Nat, n = m := Int.eq_ofNat_of_zero_le (by omega)
          exact ⟨derS key label m, 0, hid fun w0 => mder_any key label (by omega) (by omega) m (by omega), hid fun w0 => rder_any key label (by omega) (by omega) m (by omega)⟩
      obtain ⟨T, hT⟩ : ∃ T, treeS key l = T := ⟨_, rfl⟩
      have Hl : Hid (∀ s ∈ l, s.size < 1099511627000) := hid fun s hs => by have := totL_mem l s hs; omega
      have h3 := fun (w0 : World) (h : Rc w0 1 v l.length (l.map .string) LB) => mtree_any key (by omega) h hm Hl.out
      have h4 := fun (w0 : World) (h : Rc w0 1 v l.length (l.map .string) LB) => rtree_any key (by omega) h hm Hl.out
      rw [hT] at h3 h4
      have H3 := hid h3
      have H4 := hid h4
      have Hlr := hid hl
      obtain ⟨la, lc, rfl⟩ := hl.isSlice
      clear h3 h4 hT hb hc h40 hl
      go_enter Try.func4, Try.ntmps4
      go_wp2_with (refine wpList_buildSlice_any rfl _ 2 _ rfl 9 Try.underlying22 _ _ Hi.out Hz.out rfl Hs9.out (by decide) (by decide) rfl [.string key, .string label] rfl (by simp [Value.oneCell']) ?_; intro w2 f2 hlt2 hb2; simp only [World.size_alloc, World.size_drew, Act.put, List.setIfInBounds_toArray, List.set_cons_succ, List.set_cons_zero])
      refine (H2.out _ _ hb2).mono ?_
      rintro e w3 ⟨rfl, f3⟩
      have g3 := f2.trans' f3
      go_wp2_with fail
      refine (H1.out _ (Hlr.out.keep g3 (by simp))).mono ?_
      rintro e w4 ⟨rfl, f4⟩
      go_wp2_with fail
      refine (D1.out _).mono ?_
      rintro e w5 ⟨rfl, f5⟩
      go_wp2_with fail
      refine (D2.out _).mono ?_
      rintro e w6 ⟨rfl, f6⟩
      have g6 := ((g3.trans' f4).trans' f5).trans' f6
      go_wp2_with fail
      refine (H3.out _ (Hlr.out.keep g6 (by simp))).mono ?_
      rintro e w7 ⟨rfl, f7⟩
      go_wp2_with fail
      refine (H4.out _ (Hlr.out.keep (g6.trans' f7) (by simp))).mono ?_
      rintro e w8 ⟨rfl, f8⟩
      go_wp2_with fail
      refine alive_any.mono ?_
      rintro e w9 ⟨rfl, f9⟩
      go_wp2_with fail
      go_ret
      exact ⟨rfl, ((g6.trans' f7).trans' f8).trans' f9⟩
    · have hd40 : decide (40 < (l.length : Int)) = true := by simp; omega
      have Hlr := hid hl
      obtain ⟨la, lc, rfl⟩ := hl.isSlice
      clear hb hc h40 hl
      go_enter Try.func4, Try.ntmps4
      go_wp2_with (refine wpList_buildSlice_any rfl _ 2 _ rfl 9 Try.underlying22 _ _ Hi.out Hz.out rfl Hs9.out (by decide) (by decide) rfl [.string key, .string label] rfl (by simp [Value.oneCell']) ?_; intro w2 f2 hlt2 hb2; simp only [World.size_alloc, World.size_drew, Act.put, List.setIfInBounds_toArray, List.set_cons_succ, List.set_cons_zero])
      refine (H2.out _ _ hb2).mono ?_
      rintro e w3 ⟨rfl, f3⟩
      have g3 := f2.trans' f3
      go_wp2_with fail
      refine (H1.out _ (Hlr.out.keep g3 (by simp))).mono ?_
      rintro e w4 ⟨rfl, f4⟩
      go_wp2_with fail
      refine alive_any.mono ?_
      rintro e w9 ⟨rfl, f9⟩
      go_wp2_with fail
      go_ret
      exact ⟨rfl, (g3.trans' f4).trans' f9⟩
  case true.false =>
    clear c1 c2
    have Hlr := hid hl
    obtain ⟨la, lc, rfl⟩ := hl.isSlice
    clear hl
    go_enter Try.func4, Try.ntmps4
    go_wp2_with (refine wpList_buildSlice_any rfl _ 2 _ rfl 9 Try.underlying22 _ _ Hi.out Hz.out rfl Hs9.out (by decide) (by decide) rfl [.string key, .string label] rfl (by simp [Value.oneCell']) ?_; intro w2 f2 hlt2 hb2; simp only [World.size_alloc, World.size_drew, Act.put, List.setIfInBounds_toArray, List.set_cons_succ, List.set_cons_zero])
    refine (H2.out _ _ hb2).mono ?_
    rintro e w3 ⟨rfl, f3⟩
    have g3 := f2.trans' f3
    go_wp2_with fail
    refine (H1.out _ (Hlr.out.keep g3 (by simp))).mono ?_
    rintro e w4 ⟨rfl, f4⟩
    go_wp2_with fail
    refine alive_any.mono ?_
    rintro e w9 ⟨rfl, f9⟩
    go_wp2_with fail
    go_ret
    exact ⟨rfl, (g3.trans' f4).trans' f9⟩
  all_goals
    clear c1 c2
    obtain ⟨la, lc, rfl⟩ := hl.isSlice
    clear hl
    go_enter Try.func4, Try.ntmps4
    go_wp2_with (refine wpList_buildSlice_any rfl _ 2 _ rfl 9 Try.underlying22 _ _ Hi.out Hz.out rfl Hs9.out (by decide) (by decide) rfl [.string key, .string label] rfl (by simp [Value.oneCell']) ?_; intro w2 f2 hlt2 hb2; simp only [World.size_alloc, World.size_drew, Act.put, List.setIfInBounds_toArray, List.set_cons_succ, List.set_cons_zero])
    refine (H2.out _ _ hb2).mono ?_
    rintro e w3 ⟨rfl, f3⟩
    go_wp2_with fail
    refine alive_any.mono ?_
    rintro e w9 ⟨rfl, f9⟩
    go_wp2_with fail
    go_ret
    exact ⟨rfl, (f2.trans' f3).trans' f9⟩
end Go.Proofs.Ytfcpnicgffbmeaa
