/- Layer 10: two rows of texts compared; the known run (alive). -/
import Derived.Test.YthfjjencnfebmaaMerR
namespace Go.Proofs.Ythfjjencnfebmaa.mer
open Go Go.Xr Go.RowKit
set_option linter.unusedVariables false
set_option linter.unusedSimpArgs false
set_option maxRecDepth 20000 in
theorem same_any {w : World} {v1 v2 : Value} {l1 l2 : List ByteArray} {B1 B2 : Option Nat} (h1 : Rc w 1 v1 l1.length (l1.map .string) B1) (h2 : Rc w 1 v2 l2.length (l2.map .string) B2) (hl : l1.length ≤ 9223372036854775806) :
    Calls Try.prog 14 #[v1, v2] w fun e w' => e = .returned (.bool (decide (l1 = l2))) ∧ Fr [] w w' := by
  obtain ⟨a1, c1, rfl⟩ := h1.isSlice
  obtain ⟨a2, c2, rfl⟩ := h2.isSlice
  have H1 := hid h1
  have H2 := hid h2
  obtain ⟨m1, hm1⟩ : ∃ m1, l1.length = m1 := ⟨_, rfl⟩
  obtain ⟨m2, hm2⟩ : ∃ m2, l2.length = m2 := ⟨_, rfl⟩
  have Hm1 := hid hm1
  have Hm2 := hid hm2
  obtain ⟨V, hV⟩ : ∃ V, decide (l1 = l2) = V := ⟨_, rfl⟩
  have HV := hid hV
  rw [hV]
  rw [hm1] at hl ⊢
  rw [hm2]
  clear h1 h2 hm1 hm2 hV
  by_cases hll : m1 = m2
  · subst hll
    have g1 : ((m1 : Int) != (m1 : Int)) = false := by simp
    go_enter Try.func14, Try.ntmps14
    go_wp2_with fail
    go_loopw [5] (fun kv wr => ∃ k : Nat, kv = .int .i64 (k : Int) ∧ k ≤ m1 ∧ l1.take k = l2.take k ∧ Fr [] w wr) (fun kv _ => m1 - (intOf kv).toNat)
    case atStart => exact ⟨0, rfl, Nat.zero_le _, rfl, Fr.refl _ _⟩
    case round =>
      obtain ⟨k, rfl, hk, ht, f⟩ := hrel
      by_cases hkm : k < m1
      · have g2 : decide ((k : Int) < (m1 : Int)) = true := by simp; omega
        have g2' : (k : Int) < (m1 : Int) := by omega
        obtain ⟨b3, o3, rfl, hB3, l3', hi3, q3⟩ := rc_elem (l := l1) (by have := H1.out.keep f (by simp); rw [Hm1.out] at this; exact this) hkm
        obtain ⟨b4, o4, rfl, hB4, l4', hi4, q4⟩ := rc_elem (l := l2) (by have := H2.out.keep f (by simp); rw [Hm2.out] at this; exact this) hkm
        have hx : l1[k]? = some l1[k] := List.getElem?_eq_getElem hi3
        have hy : l2[k]? = some l2[k] := List.getElem?_eq_getElem hi4
        obtain ⟨x, hxx⟩ : ∃ x, l1[k] = x := ⟨_, rfl⟩
        obtain ⟨y, hyy⟩ : ∃ y, l2[k] = y := ⟨_, rfl⟩
        rw [hxx] at q3 hx
        rw [hyy] at q4 hy
        have Hxy := hid (beq_str2 x y)
        have Hx := hid hx
        have Hy := hid hy
        have Ht := hid ht
        clear hx hy hxx hyy hB3 hB4 hi3 hi4 ht
        by_cases hxy : x = y
        · have g8 : (x.toList == y.toList) = true := by rw [Hxy.out]; exact decide_eq_true hxy
          have Hn := hid (show l1.take (k + 1) = l2.take (k + 1) by rw [List.take_add_one, List.take_add_one, Ht.out, Hx.out, Hy.out, hxy])
          clear hxy
          go_wp2_with fail
          refine wp_region_D (fun _ => True) false [] (by kernel_rfl) ?_
          refine WD.pure [0, 1, 2, 3, 4, 5, 6, 7, 8] (by kernel_rfl) trivial ?_
          simp only [pick, List.toList_toArray, List.map_cons, List.map_nil, List.getD_cons_succ, List.getD_cons_zero]
          repeat (first | go_big_quiet_step (fail))
          refine wpQuiet_nil ?_
          refine WD.done (by kernel_rfl) ?_
          go_wp2_with fail
          go_roundw
          case rel => exact ⟨k + 1, by first | rfl | go_num, by omega, Hn.out, f.drew⟩
          case measure => simp [intOf]; omega
        · have g8 : (x.toList == y.toList) = false := by rw [Hxy.out]; exact decide_eq_false hxy
          have Hn := hid (show V = false by
            rw [← HV.out]
            refine decide_eq_false fun h => hxy ?_
            have hx := Hx.out
            rw [h, Hy.out] at hx
            exact (Option.some.inj hx).symm)
          clear hxy
          go_wp2_with fail
          refine wp_region_D (fun _ => True) false [] (by kernel_rfl) ?_
          refine WD.pure [0, 1, 2, 3, 4, 5, 6, 7, 8] (by kernel_rfl) trivial ?_
          simp only [pick, List.toList_toArray, List.map_cons, List.map_nil, List.getD_cons_succ, List.getD_cons_zero]
          repeat (first | go_big_quiet_step (fail))
          refine wpQuiet_nil ?_
          refine WD.done (by kernel_rfl) ?_
          go_wp2_with fail
          go_ret
          rw [Hn.out]
          exact ⟨rfl, f.drew⟩
      · have g2 : decide ((k : Int) < (m1 : Int)) = false := by simp; omega
        have g2' : ¬ ((k : Int) < (m1 : Int)) := by omega
        have Hn := hid (show V = true by
          rw [← HV.out]
          rw [List.take_of_length_le (by rw [Hm1.out]; omega), List.take_of_length_le (by rw [Hm2.out]; omega)] at ht
          exact decide_eq_true ht)
        clear ht
        go_wp2_with fail
        go_ret
        rw [Hn.out]
        exact ⟨rfl, f⟩
  · have g1 : ((m1 : Int) != (m2 : Int)) = true := by simp; omega
    have Hn := hid (show V = false by
      rw [← HV.out]
      exact decide_eq_false fun h => hll (by rw [← Hm1.out, ← Hm2.out, h]))
    clear hll
    go_enter Try.func14, Try.ntmps14
    go_wp2_with fail
    go_ret
    rw [Hn.out]
    exact ⟨rfl, Fr.refl _ _⟩
def tags9 : List ByteArray := List.replicate 9 ⟨#[]⟩
theorem path9 : ∃ p q, pathS tags9 8 = [p, q] ∧ p.size = 32 ∧ q.size = 64 := by
  obtain ⟨r, hr⟩ : ∃ r, leafs tags9 = r := ⟨_, rfl⟩
  have h9 : r.length = 9 := by rw [← hr, leafs_len]; simp [tags9]
  have h32 : ∀ s ∈ r, s.size = 32 := by rw [← hr]; exact leafs_32 _
  have hu : (upS r).length = 2 := by rw [upS_len, h9]
  have hv : (upS (upS r)).length = 1 := by rw [upS_len, hu]
  have e : rowsS tags9 = [r, upS r, upS (upS r)] := by
    unfold rowsS
    rw [hr]
    show rowsF 9 r = _
    rw [rowsF, if_neg (by omega), rowsF, if_neg (by omega), rowsF_end _ _ (by omega)]
  refine ⟨catS (grp r 8), catS (grp (upS r) 1), ?_, ?_, ?_⟩
  · unfold pathS
    rw [e]
    rfl
  · rw [catS_32 (grp r 8) fun s hs => h32 s (List.mem_of_mem_drop (List.mem_of_mem_take hs)), grp_len, h9]; decide
  · rw [catS_32 (grp (upS r) 1) fun s hs => upS_32 r s (List.mem_of_mem_drop (List.mem_of_mem_take hs)), grp_len, hu]; decide
theorem ver8 : verS (rootS tags9) 9 8 ⟨#[]⟩ (pathS tags9 8) = true := verS_path tags9 8 (by decide) (by decide)
theorem ver7 : verS (rootS tags9) 9 7 ⟨#[]⟩ (pathS tags9 8) = false := by
  obtain ⟨p, q, e, h1, h2⟩ := path9
  rw [e]
  unfold verS
  rw [if_pos (by decide)]
  rw [climb_no]
  · rfl
  · rintro ⟨_, h, _⟩
    rw [h1] at h
    revert h
    decide
set_option maxRecDepth 20000 in
set_option maxHeartbeats 1000000 in
theorem alive_any {w : World} : Calls Try.prog 10 #[] w fun e w' => e = .returned (.bool true) ∧ Fr [] w w' := by
  have HN := hid (new_any (w := w) 9 (by decide) (by decide))
  have HB := hid fun w0 : World => new_bad (w := w0) 0 (.inl (by decide))
  have H8 := hid ver8
  have H7 := hid ver7
  obtain ⟨p, q, ep, hp, hq⟩ := path9
  obtain ⟨pre, er⟩ := rowsS_root tags9 (by decide)
  obtain ⟨RT, hRT⟩ : ∃ RT, rootS tags9 = RT := ⟨_, rfl⟩
  rw [hRT] at H8 H7 er
  rw [ep] at H8 H7
  have Hep := hid ep
  have Her := hid er
  have h9 : tags9.length = 9 := by simp [tags9]
  have H9 := hid h9
  clear ep er hRT h9
  have ht9 : (List.replicate 9 ⟨#[]⟩ : List ByteArray) = tags9 := rfl
  rw [ht9] at HN
  obtain ⟨T9, hT9⟩ : ∃ T9, tags9 = T9 := ⟨_, rfl⟩
  rw [hT9] at HN Hep Her H9
  clear hT9 ht9
  have hp' : ((p.size : Int) != 32) = false := by rw [hp]; rfl
  have hq' : ((q.size : Int) != 64) = false := by rw [hq]; rfl
  have Hp := hid hp
  have Hq := hid hq
  clear hp hq
  go_enter Try.func10, Try.ntmps10
  go_wp2_with (first
    | (go_at_call 19; refine HN.out.mono ?_; rintro e w1 ⟨tb, bl, rfl, hT1, hbl, f1⟩; clear HN)
    | (go_at_call 19; refine (HB.out _).mono ?_; rintro e w2 ⟨rfl, hw⟩; have hw' := hw.symm; subst hw')
    | (go_at_call 24; refine (len_any hT1).mono ?_; rintro e w3 ⟨rfl, hw3⟩; have hw3' := hw3.symm; subst hw3'; rw [H9.out])
    | (go_at_call 21; refine (path_any hT1 (by rw [H9.out]; decide) 8 (by rw [H9.out]; decide)).mono ?_; rintro e w4 ⟨⟨v, B, rfl, hv, hB⟩, f4⟩; revert f4))
  intro f4
  rw [Hep.out] at hv
  have hT4 := hT1.keep f4 (by simp)
  rw [Her.out] at hT4
  obtain ⟨b, off, c, hBB, rfl, hc1, hc2, hc3, hc4⟩ := hv.some (by simp)
  have q0 : w4.cell? ⟨b, off, none⟩ = some (.string p) := hc4 0 (by simp)
  have q1 : w4.cell? ⟨b, off + 1, none⟩ = some (.string q) := hc4 1 (by simp)
  have hT0 : 0 < T9.length := by rw [H9.out]; decide
  have HT0 := hid hT0
  have hl2 : ∀ s ∈ [p, q], s.size ≤ 1099511626000 := by
    intro s hs
    have := Hp.out
    have := Hq.out
    simp at hs
    rcases hs with rfl | rfl <;> omega
  have V8 := hid fun (w0 : World) (f0 : Fr [] w4 w0) => verify_any (w := w0) (l := [p, q]) (hv.keep f0 (by simp)) (by simp) hl2 RT 9 8 ⟨#[]⟩ (by decide)
  have V7 := hid fun (w0 : World) (f0 : Fr [] w4 w0) => verify_any (w := w0) (l := [p, q]) (hv.keep f0 (by simp)) (by simp) hl2 RT 9 7 ⟨#[]⟩ (by decide)
  rw [H8.out] at V8
  rw [H7.out] at V7
  have HS := hid fun (w0 : World) (f0 : Fr [] w4 w0) => set_not (w := w0) (hT4.keep f0 (by simp)) hT0 9 ⟨#[]⟩ (by rw [H9.out]; decide)
  have HR := hid fun (w0 : World) (f0 : Fr [] w4 w0) => root_any (w := w0) (hT4.keep f0 (by simp)) hT0
  have F4 := hid (f1.trans' f4)
  have hc1' : (2 : Nat) ≤ c := hc1
  clear hv hc4 hT0 hT4 hT1 hBB hB hl2 f1 f4
  go_wp2_with (first
    | (go_at_call 22; refine (HR.out _ (Fr.refl _ _)).mono ?_; rintro e w5 ⟨rfl, f5⟩)
    | (go_at_call 12; refine (V8.out _ f5).mono ?_; rintro e w6 ⟨rfl, f6⟩; have g6 := f5.trans' f6; clear V8)
    | (go_at_call 22; refine (HR.out _ g6).mono ?_; rintro e w7 ⟨rfl, f7⟩; have g7 := g6.trans' f7)
    | (go_at_call 12; refine (V7.out _ g7).mono ?_; rintro e w8 ⟨rfl, f8⟩; have g8 := g7.trans' f8)
    | (go_at_call 20; refine (HS.out _ g8).mono ?_; rintro e w9 ⟨rfl, hw9⟩; have hw9' := hw9.symm; subst hw9'))
  go_ret
  exact ⟨rfl, F4.out.trans' g8⟩
end Go.Proofs.Ythfjjencnfebmaa.mer
