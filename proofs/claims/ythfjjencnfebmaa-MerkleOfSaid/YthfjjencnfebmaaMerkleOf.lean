/- Layer 10: MerkleOf, the walk. -/
import Derived.Test.YthfjjencnfebmaaMerQ
namespace Go.Proofs.Ythfjjencnfebmaa.mer
open Go Go.Xr Go.RowKit
set_option linter.unusedVariables false
set_option linter.unusedSimpArgs false
set_option maxRecDepth 20000 in
set_option maxHeartbeats 1000000 in
theorem of_walk {w : World} {v : Value} {l : List ByteArray} {B : Option Nat} (h : Rc w 1 v l.length (l.map .string) B) (ho : ∀ s ∈ l, s.size ≤ 140737488351232) (hm : l.length ≤ 9223372036854775807) : Calls Try.prog 4 #[v] w fun e w' => e = .returned (.bool true) ∧ Fr [] w w' := by
  obtain ⟨i9, hi9, hz9, hs9, hb9⟩ := inf9
  have Hi := hid hi9
  have Hz := hid hz9
  have Hs := hid hs9
  have Hb := hid hb9
  clear hi9 hz9 hs9 hb9
  obtain ⟨la, lc, rfl⟩ := h.isSlice
  have H := hid h
  have HO := hid ho
  obtain ⟨m, hmm⟩ : ∃ m, l.length = m := ⟨_, rfl⟩
  have Hm := hid hmm
  rw [hmm] at hm ⊢
  clear h ho hmm
  go_enter Try.func4, Try.ntmps4
  go_wp2_with fail
  go_loopw [3, 4] (fun sv kv wr => ∃ s k : Nat, sv = .int .i64 (s : Int) ∧ kv = .int .i64 (k : Int) ∧ k ≤ m ∧ s ≤ 140737488400000 ∧ 64 * k ≤ s ∧ (∀ x ∈ l.take k, x.size ≤ s) ∧ wr = w) (fun _ kv _ => m - (intOf kv).toNat)
  case atStart => exact ⟨0, 0, rfl, rfl, Nat.zero_le _, by omega, by omega, by simp, rfl⟩
  case round =>
    obtain ⟨s, k, rfl, rfl, hk, hs, hsk, hx, rfl⟩ := hrel
    by_cases hkm : k < m
    · have d1 : decide ((k : Int) < (m : Int)) = true := by simp; omega
      have d1' : (k : Int) < (m : Int) := by omega
      by_cases hs1 : s ≤ 16384
      · have d2 : decide ((s : Int) ≤ 16384) = true := by simp; omega
        obtain ⟨b1, o1, rfl, hB1, hlb1, hi1, q1⟩ := rc_elem (l := l) (n := m) (by have := H.out; rw [Hm.out] at this; exact this) hkm
        have hsz := HO.out l[k] (List.getElem_mem _)
        have Hx := hid (show l[k]? = some l[k] from List.getElem?_eq_getElem hi1)
        obtain ⟨X, hX⟩ : ∃ X, l[k] = X := ⟨_, rfl⟩
        rw [hX] at q1 hsz Hx
        have Hxs := hid hx
        clear hX hi1 hB1 hx
        go_wp2_with fail
        go_roundw
        case rel =>
          refine ⟨s + 64 + X.size, k + 1, by first | rfl | go_num, by first | rfl | go_num, by omega, by omega, by omega, ?_, trivial⟩
          intro x hx
          rw [List.take_add_one, Hx.out] at hx
          rcases List.mem_append.1 hx with h | h
          · have := Hxs.out x h; omega
          · obtain rfl : x = X := by simpa using h
            omega
        case measure => simp [intOf]; omega
      · have d2 : decide ((s : Int) ≤ 16384) = false := by simp; omega
        have d3 : decide ((16384 : Int) < (s : Int)) = true := by simp; omega
        go_wp2_with (go_at_call 10; refine alive_any.mono ?_; rintro e w1 ⟨rfl, f1⟩)
        go_ret
        exact ⟨rfl, f1⟩
    · have d1 : decide ((k : Int) < (m : Int)) = false := by simp; omega
      have d1' : ¬ ((k : Int) < (m : Int)) := by omega
      by_cases hs1 : s ≤ 16384
      · have d3 : decide ((16384 : Int) < (s : Int)) = false := by simp; omega
        have d3' : ¬ ((16384 : Int) < (s : Int)) := by omega
        have hkm2 : k = m := by omega
        have hmb : m ≤ 256 := by omega
        have HX := hid (show ∀ x ∈ l, x.size ≤ 16384 by
          intro x hx'
          have := hx x (by rw [List.take_of_length_le (by rw [Hm.out]; omega)]; exact hx')
          omega)
        clear hx hkm hkm2
        have hkp := H.out.keep ((Fr.refl [] wr).alloc (.cells #[] 9)) (by simp)
        rw [Hm.out] at hkp
        have hown : Xr.Own (wr.alloc (.cells #[] 9)) 1 (.slice (some ⟨wr.heap.size, 0, none⟩) 0 0) 0 [] (some wr.heap.size) :=
          Own.blk (cs := []) (Blk.alloc wr [] _) (Nat.le_refl _) (by simp) (by simp)
        go_wp2_with (refine wpList_append_rc rfl _ _ _ rfl 9 _ _ 1 16 Try.underlying22 Hi.out Hz.out Hs.out Hb.out rfl (by decide) rfl hown rfl hkp (str_one l) (by unfold maxLen; omega) (by omega) ?_; intro v1 w1 B1 ho1 f1 hB1; simp only [World.size_alloc, World.size_drew, Act.put, List.setIfInBounds_toArray, List.set_cons_succ, List.set_cons_zero])
        have hin : Rc w1 1 v1 l.length (l.map .string) B1 := rc_as ho1.rd.rc (by rw [Hm.out]; omega) (by simp)
        have g1 : Fr [] wr w1 := ((Fr.refl [] wr).alloc _).trans f1 (by intro y hy; simp at hy; exact .inr (by omega))
        obtain ⟨va1, vc1, rfl⟩ := ho1.isSlice
        have Hin := hid hin
        have hz0 : 0 + m = m := Nat.zero_add m
        rw [hz0] at Hin ⊢
        have HS := hid fun (w0 : World) (f0 : Fr [] w1 w0) => same_any (w := w0) (hin.keep f0 (by simp)) (H.out.keep (g1.trans' f0) (by simp)) (by rw [Hm.out]; omega)
        rw [hz0] at HS
        have HX2 := hid (show ∀ s ∈ l, s.size < 1099511627000 from fun s hs => by have := HX.out s hs; omega)
        by_cases hm0 : m = 0
        · have HOf := hid (of_bad hin (by rw [Hm.out]; omega))
          rw [hz0] at HOf
          rw [Hm.out] at HS
          simp only [decide_true] at HS
          clear hin hkp ho1 hown hB1 hz0
          subst hm0
          go_wp2_with (first
            | (go_at_call 13; refine HOf.out.mono ?_; rintro e w2 ⟨rfl, hw⟩; have hw' := hw.symm; subst hw')
            | (go_at_call 14; refine (HS.out _ (Fr.refl _ _)).mono ?_; rintro e w3 ⟨rfl, f3⟩)
            | (go_at_call 10; refine alive_any.mono ?_; rintro e w4 ⟨rfl, f4⟩))
          go_ret
          exact ⟨rfl, (g1.trans' f3).trans' f4⟩
        · have HOf := hid (Of_any hin (by rw [Hm.out]; omega) (by rw [Hm.out]; omega) HX2.out)
          have HRt := hid fun (w0 : World) (f0 : Fr [] w1 w0) => rroot_any (w := w0) (H.out.keep (g1.trans' f0) (by simp)) (by rw [Hm.out]; omega) (by rw [Hm.out]; omega) HX2.out
          obtain ⟨R, hR⟩ : ∃ R, rootS l = R := ⟨_, rfl⟩
          rw [hz0, hR] at HOf
          rw [Hm.out] at HS HRt
          rw [hR] at HRt
          simp only [decide_true] at HS
          have dm : ((m : Int) == 0) = false := by simp; omega
          have dm' : decide ((m : Int) = 0) = false := by simp; omega
          clear hin hkp ho1 hown hB1 hz0 hR
          go_wp2_with (first
            | (go_at_call 13; refine HOf.out.mono ?_; rintro e w2 ⟨rfl, f2⟩)
            | (go_at_call 14; refine (HS.out _ f2).mono ?_; rintro e w3 ⟨rfl, f3⟩; have g3 := f2.trans' f3)
            | (go_at_call 15; refine (HRt.out _ g3).mono ?_; rintro e w4 ⟨rfl, f4⟩)
            | (go_at_call 10; refine alive_any.mono ?_; rintro e w5 ⟨rfl, f5⟩))
          go_ret
          exact ⟨rfl, ((g1.trans' g3).trans' f4).trans' f5⟩
      · have d2 : decide ((s : Int) ≤ 16384) = false := by simp; omega
        have d3 : decide ((16384 : Int) < (s : Int)) = true := by simp; omega
        go_wp2_with (go_at_call 10; refine alive_any.mono ?_; rintro e w1 ⟨rfl, f1⟩)
        go_ret
        exact ⟨rfl, f1⟩
end Go.Proofs.Ythfjjencnfebmaa.mer
