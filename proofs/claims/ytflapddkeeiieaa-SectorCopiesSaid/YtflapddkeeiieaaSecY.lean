/- Layer 6, the statements' own functions: bytes, ints. -/
import Derived.Test.YtflapddkeeiieaaSecX
import Derived.Test.YtflapddkeeiieaaSecSt
namespace Go.Proofs.Ytflapddkeeiieaa
open Go Go.Xr Go.RowKit
set_option linter.unusedVariables false
set_option linter.unusedSimpArgs false
def bytesS (s : StepD) : ByteArray := if s.Text.size = 0 then ⟨(fillL s.C s.I).toArray⟩ else s.Text
theorem bytes_any {w : World} (s : StepD) (hi1 : -9223372036854775808 ≤ s.I) (hi2 : s.I ≤ 9223372036854775807) (K : Value) :
    Calls Try.prog 41 #[.agg #[.int .i64 s.Do, .int .i64 s.I, bt s.C, .string s.Text, K]] w fun e w' => e = .returned (.string (bytesS s)) ∧ Fr [] w w' := by
  obtain ⟨Do, I, C, T, _, _, _⟩ := s
  have H1 : Hid (I < 0 → True) := hid fun _ => trivial
  by_cases h0 : T.size = 0
  · have e : bytesS ⟨Do, I, C, T, ‹_›, ‹_›, ‹_›⟩ = ⟨(fillL C I).toArray⟩ := by unfold bytesS; rw [if_pos h0]
    rw [e]
    obtain rfl : T = ⟨#[]⟩ := ByteArray.ext (Array.eq_empty_of_size_eq_zero h0)
    have hf := fun w1 : World => fill_any (w := w1) C I hi1 hi2
    clear h0 e
    go_enter Try.func41, Try.ntmps41
    go_wp2_with (first
      | (refine wpList_box rfl _ _ rfl [.int .i64 Do, .int .i64 I, bt C, .string ⟨#[]⟩, K] rfl ?_; intro w1 f1 hlt1 hb1; have k1 := hb1.cell 1; have k2 := hb1.cell 2; have k3 := hb1.cell 3; simp only [World.size_alloc, World.size_drew, Act.put, List.setIfInBounds_toArray, List.set_cons_succ, List.set_cons_zero])
      | (go_at_call 10; refine (hf _).mono ?_; rintro e w5 ⟨rfl, f5⟩))
    go_ret
    exact ⟨rfl, f1.trans' f5⟩
  · have e : bytesS ⟨Do, I, C, T, ‹_›, ‹_›, ‹_›⟩ = T := by unfold bytesS; rw [if_neg h0]
    rw [e]
    have h1 : T.toList.isEmpty = false := by
      rw [ByteArray.toList_eq]
      cases hT : T.data.toList with
      | nil => exact absurd (show T.size = 0 from by have := congrArg List.length hT; simpa using this) h0
      | cons a l => rfl
    clear h0 e
    go_enter Try.func41, Try.ntmps41
    go_wp2_with (first
      | (refine wpList_box rfl _ _ rfl [.int .i64 Do, .int .i64 I, bt C, .string T, K] rfl ?_; intro w1 f1 hlt1 hb1; have k1 := hb1.cell 1; have k2 := hb1.cell 2; have k3 := hb1.cell 3; simp only [World.size_alloc, World.size_drew, Act.put, List.setIfInBounds_toArray, List.set_cons_succ, List.set_cons_zero]))
    go_ret
    exact ⟨rfl, f1⟩
set_option maxHeartbeats 1000000 in
theorem ints_any {w : World} {va vb : Value} {a b : List Int} {A B : Option Nat} (ha : Rc w 1 va a.length (a.map (.int .i64)) A) (hb : Rc w 1 vb b.length (b.map (.int .i64)) B) (hla : a.length < 1000000) (hlb : b.length < 1000000) :
    Calls Try.prog 47 #[va, vb] w fun e w' => e = .returned (.bool (decide (a = b))) ∧ Fr [] w w' := by
  obtain ⟨aa, ac, rfl⟩ := ha.isSlice
  obtain ⟨ba, bc, rfl⟩ := hb.isSlice
  have HA := hid ha
  have HB := hid hb
  obtain ⟨n, hn⟩ : ∃ n, a.length = n := ⟨_, rfl⟩
  obtain ⟨m, hm⟩ : ∃ m, b.length = m := ⟨_, rfl⟩
  rw [hn] at hla ⊢
  rw [hm] at hlb ⊢
  have Hn := hid hn
  have Hm := hid hm
  clear ha hb hn hm
  by_cases hnm : n = m
  · subst hnm
    go_enter Try.func47, Try.ntmps47
    go_wp2
    go_loopw [5] (fun jv wr => ∃ i : Nat, i ≤ n ∧ jv = .int .i64 (i : Int) ∧ a.take i = b.take i ∧ Fr [] w wr) (fun jv _ => n - (intOf jv).toNat)
    case atStart => exact ⟨0, Nat.zero_le _, rfl, by simp, Fr.refl _ _⟩
    case round =>
      obtain ⟨i, hi, rfl, he, f⟩ := hrel
      by_cases hin : i < n
      · have hd : decide (i < n) = true := by simp; omega
        have hia : i < a.length := by rw [Hn.out]; exact hin
        have hib : i < b.length := by rw [Hm.out]; exact hin
        obtain ⟨b1, o1, c1, hB1, hv1, _, _, _, qa⟩ := (HA.out.keep f (by simp)).some (by omega)
        obtain ⟨b2, o2, c2, hB2, hv2, _, _, _, qb⟩ := (HB.out.keep f (by simp)).some (by omega)
        obtain ⟨rfl, rfl⟩ : aa = some ⟨b1, o1, none⟩ ∧ ac = c1 := by rw [Hn.out] at hv1; simpa using hv1
        obtain ⟨rfl, rfl⟩ : ba = some ⟨b2, o2, none⟩ ∧ bc = c2 := by rw [Hm.out] at hv2; simpa using hv2
        have q1 := qa i (by simpa using hia)
        have q2 := qb i (by simpa using hib)
        rw [List.getElem?_map, List.getElem?_eq_getElem hia, Option.map_some] at q1
        rw [List.getElem?_map, List.getElem?_eq_getElem hib, Option.map_some] at q2
        clear qa qb
        have ht1 := List.take_succ_eq_append_getElem hia
        have ht2 := List.take_succ_eq_append_getElem hib
        have HX : Hid (a[i] ≠ b[i] → decide (a = b) = false) := hid fun h => by
          rw [decide_eq_false_iff_not]
          intro e
          subst e
          exact h rfl
        generalize a[i] = x at *
        generalize b[i] = y at *
        have HT := hid (And.intro ht1 (And.intro ht2 he))
        clear ht1 ht2 he hv1 hv2 hB1 hB2
        by_cases hxy : x = y
        · subst hxy
          go_wp2_with fail
          refine wp_region_D (fun _ => True) false [] (by kernel_rfl) ?_
          refine WD.pure [0, 1, 2, 3, 4, 5, 6, 7, 8] (by kernel_rfl) trivial ?_
          simp only [pick, List.toList_toArray, List.map_cons, List.map_nil, List.getD_cons_succ, List.getD_cons_zero]
          repeat (first | go_big_quiet_step (fail))
          refine wpQuiet_nil ?_
          refine WD.done (by kernel_rfl) ?_
          go_wp2_with fail
          go_roundw
          case rel => exact ⟨i + 1, by omega, by go_num, by rw [HT.out.1, HT.out.2.1, HT.out.2.2], f.drew⟩
          case measure => simp [intOf]; omega
        · have g1 : (x == y) = false := by simpa using hxy
          have g2 : decide (x = y) = false := by simpa using hxy
          go_wp2_with fail
          refine wp_region_D (fun _ => True) false [] (by kernel_rfl) ?_
          refine WD.pure [0, 1, 2, 3, 4, 5, 6, 7, 8] (by kernel_rfl) trivial ?_
          simp only [pick, List.toList_toArray, List.map_cons, List.map_nil, List.getD_cons_succ, List.getD_cons_zero]
          repeat (first | go_big_quiet_step (fail))
          refine wpQuiet_nil ?_
          refine WD.done (by kernel_rfl) ?_
          go_wp2_with fail
          go_ret
          rw [HX.out hxy]
          exact ⟨rfl, f.drew⟩
      · have hd : decide (i < n) = false := by simp; omega
        have HE := hid (show a = b by
          obtain rfl : i = n := by omega
          rw [← List.take_length (l := a), ← List.take_length (l := b), Hn.out, Hm.out, he])
        clear he
        go_wp2_with fail
        go_ret
        rw [decide_eq_true HE.out]
        exact ⟨rfl, f⟩
  · have hd : decide ((n : Int) = (m : Int)) = false := by simp; omega
    have hd2 : ((n : Int) == (m : Int)) = false := by simp; omega
    have HE := hid (show decide (a = b) = false by
      rw [decide_eq_false_iff_not]
      intro e
      exact hnm (by rw [← Hn.out, ← Hm.out, e]))
    go_enter Try.func47, Try.ntmps47
    go_wp2
    go_ret
    rw [HE.out]
    exact ⟨rfl, Fr.refl _ _⟩
end Go.Proofs.Ytflapddkeeiieaa
