/- Layer 10, merkle: a path verified; a clash. -/
import Derived.Test.YthfjjencnfebmaaMerK
namespace Go.Proofs.Ythfjjencnfebmaa.mer
open Go Go.Xr Go.RowKit
set_option linter.unusedVariables false
set_option linter.unusedSimpArgs false
/-- May there be a block i of n? -/
def okNI (n i : Int) : Prop := 1 ≤ n ∧ n ≤ 16384 ∧ 0 ≤ i ∧ i < n
instance (n i : Int) : Decidable (okNI n i) := by unfold okNI; infer_instance
open Classical in
/-- Is the path one to that root? -/
noncomputable def verS (root : ByteArray) (n i : Int) (tag : ByteArray) (l : List ByteArray) : Bool :=
  if okNI n i then (climb l n.toNat i.toNat (leafS i.toNat tag)).2.2 && decide ((climb l n.toNat i.toNat (leafS i.toNat tag)).2.1 = root) else false
/-- The first two that differ. -/
def diffR : List ByteArray → List ByteArray → ByteArray × ByteArray × Bool
  | x :: xs, y :: ys => if x = y then diffR xs ys else (x, y, true)
  | _, _ => (⟨#[]⟩, ⟨#[]⟩, false)
/-- What clashes, from the root down. -/
noncomputable def clashS (n i : Int) (tag other : ByteArray) (path way : List ByteArray) : ByteArray × ByteArray × Bool :=
  if okNI n i ∧ tag ≠ other ∧ (climb path n.toNat i.toNat (leafS i.toNat tag)).2.2 = true ∧ (climb way n.toNat i.toNat (leafS i.toNat other)).2.2 = true ∧ (climb path n.toNat i.toNat (leafS i.toNat tag)).2.1 = (climb way n.toNat i.toNat (leafS i.toNat other)).2.1 then
    diffR (leafT i.toNat tag :: (climb path n.toNat i.toNat (leafS i.toNat tag)).1).reverse (leafT i.toNat other :: (climb way n.toNat i.toNat (leafS i.toNat other)).1).reverse
  else (⟨#[]⟩, ⟨#[]⟩, false)
theorem climb_len : ∀ (l : List ByteArray) (n i : Nat) (rt : ByteArray), (climb l n i rt).2.2 = true → (climb l n i rt).1.length = l.length
  | [], n, i, rt, h => rfl
  | p :: ps, n, i, rt, h => by
    by_cases hf : fits n i rt p
    · rw [climb_yes hf] at h ⊢
      simp only [List.length_cons]
      rw [climb_len ps _ _ _ h]
    · rw [climb_no hf] at h
      cases h
theorem climb_same : ∀ (l l' : List ByteArray) (n i i' : Nat) (rt rt' : ByteArray), (climb l n i rt).2.2 = true → (climb l' n i' rt').2.2 = true → l.length = l'.length
  | [], [], _, _, _, _, _, _, _ => rfl
  | [], p :: ps, n, i, i', rt, rt', h, h' => by
    have h1 : n = 1 := by simpa [climb] using h
    by_cases hf : fits n i' rt' p
    · exact absurd h1 hf.1
    · rw [climb_no hf] at h'; cases h'
  | p :: ps, [], n, i, i', rt, rt', h, h' => by
    have h1 : n = 1 := by simpa [climb] using h'
    by_cases hf : fits n i rt p
    · exact absurd h1 hf.1
    · rw [climb_no hf] at h; cases h
  | p :: ps, p' :: ps', n, i, i', rt, rt', h, h' => by
    by_cases hf : fits n i rt p
    · by_cases hf' : fits n i' rt' p'
      · rw [climb_yes hf] at h
        rw [climb_yes hf'] at h'
        simp only [List.length_cons]
        rw [climb_same ps ps' _ _ _ _ _ h h']
      · rw [climb_no hf'] at h'; cases h'
    · rw [climb_no hf] at h; cases h
set_option maxRecDepth 20000 in
theorem verify_any {w : World} {v : Value} {l : List ByteArray} {B : Option Nat} (h : Rc w 1 v l.length (l.map .string) B) (hl : l.length ≤ 1000000) (hls : ∀ s ∈ l, s.size ≤ 1099511626000) (root : ByteArray) (n i : Int) (tag : ByteArray) (ht : tag.size ≤ 1099511626000) :
    Calls Try.prog 12 #[.string root, .int .i64 n, .int .i64 i, .string tag, v] w fun e w' => e = .returned (.bool (verS root n i tag l)) ∧ Fr [] w w' := by
  by_cases hok : okNI n i
  · obtain ⟨N, rfl⟩ : ∃ N : Nat, n = (N : Int) := ⟨n.toNat, by unfold okNI at hok; omega⟩
    obtain ⟨I, rfl⟩ : ∃ I : Nat, i = (I : Int) := ⟨i.toNat, by unfold okNI at hok; omega⟩
    have H := hid (texts_any h hl hls N I (by unfold okNI at hok; omega) (by unfold okNI at hok; omega) tag ht)
    have HV := hid (show verS root N I tag l = ((climb l N I (leafS I tag)).2.2 && decide ((climb l N I (leafS I tag)).2.1 = root)) by unfold verS; rw [if_pos hok]; rfl)
    obtain ⟨V, hV⟩ : ∃ V, verS root N I tag l = V := ⟨_, rfl⟩
    rw [hV] at HV ⊢
    obtain ⟨⟨cl, r, ok⟩, hc⟩ : ∃ c, climb l N I (leafS I tag) = c := ⟨_, rfl⟩
    rw [hc] at H HV
    simp only at H HV
    obtain ⟨a, c, rfl⟩ := h.isSlice
    clear h hV hok hc
    have Hbs := hid (beq_str2 r root)
    cases ok
    · go_enter Try.func12, Try.ntmps12
      go_wp2_with (go_at_call 30; refine H.out.mono ?_; rintro e w1 ⟨⟨v', B', rfl, h1, h2⟩, f1⟩)
      go_ret
      rw [HV.out]
      exact ⟨rfl, f1⟩
    · by_cases hr : r = root
      · have g1 : (r.toList == root.toList) = true := by rw [Hbs.out]; exact decide_eq_true hr
        have HV2 := hid (show V = true by rw [HV.out]; simp [hr])
        clear hr
        go_enter Try.func12, Try.ntmps12
        go_wp2_with (go_at_call 30; refine H.out.mono ?_; rintro e w1 ⟨⟨v', B', rfl, h1, h2⟩, f1⟩)
        go_ret
        rw [HV2.out]
        exact ⟨rfl, f1⟩
      · have g1 : (r.toList == root.toList) = false := by rw [Hbs.out]; exact decide_eq_false hr
        have HV2 := hid (show V = false by rw [HV.out]; simp [hr])
        clear hr
        go_enter Try.func12, Try.ntmps12
        go_wp2_with (go_at_call 30; refine H.out.mono ?_; rintro e w1 ⟨⟨v', B', rfl, h1, h2⟩, f1⟩)
        go_ret
        rw [HV2.out]
        exact ⟨rfl, f1⟩
  · have HV := hid (show verS root n i tag l = false by unfold verS; rw [if_neg hok])
    rw [HV.out]
    obtain ⟨a, c, rfl⟩ := h.isSlice
    have hb : n < 1 ∨ n > 16384 ∨ i < 0 ∨ i ≥ n := by unfold okNI at hok; omega
    clear h hok
    go_enter Try.func12, Try.ntmps12
    go_wp2_with (go_at_call 30; refine (texts_bad n i tag hb).mono ?_; rintro e w1 ⟨rfl, hw⟩; have hw' := hw.symm; subst hw')
    go_ret
    exact ⟨rfl, Fr.refl _ _⟩
theorem diffR_step (a b : List ByteArray) (j : Nat) (x y : ByteArray) (ha : a[j]? = some x) (hb : b[j]? = some y) : diffR (a.take (j + 1)).reverse (b.take (j + 1)).reverse = if x = y then diffR (a.take j).reverse (b.take j).reverse else (x, y, true) := by
  rw [List.take_add_one, List.take_add_one, ha, hb]
  simp [diffR]
set_option maxRecDepth 20000 in
set_option maxHeartbeats 1000000 in
theorem clash_any {w : World} {v1 v2 : Value} {l1 l2 : List ByteArray} {B1 B2 : Option Nat} (h1 : Rc w 1 v1 l1.length (l1.map .string) B1) (hl1 : l1.length ≤ 1000000) (hls1 : ∀ s ∈ l1, s.size ≤ 1099511626000) (h2 : Rc w 1 v2 l2.length (l2.map .string) B2) (hl2 : l2.length ≤ 1000000) (hls2 : ∀ s ∈ l2, s.size ≤ 1099511626000)
    (n i : Int) (tag other : ByteArray) (ht : tag.size ≤ 1099511626000) (ho : other.size ≤ 1099511626000) :
    Calls Try.prog 16 #[.int .i64 n, .int .i64 i, .string tag, .string other, v1, v2] w fun e w' => e = .returned (.tuple #[.string (clashS n i tag other l1 l2).1, .string (clashS n i tag other l1 l2).2.1, .bool (clashS n i tag other l1 l2).2.2]) ∧ Fr [] w w' := by
  have Hto := hid (beq_str2 tag other)
  by_cases hok : okNI n i
  · obtain ⟨N, rfl⟩ : ∃ N : Nat, n = (N : Int) := ⟨n.toNat, by unfold okNI at hok; omega⟩
    obtain ⟨I, rfl⟩ : ∃ I : Nat, i = (I : Int) := ⟨i.toNat, by unfold okNI at hok; omega⟩
    have H1 := hid (texts_any h1 hl1 hls1 N I (by unfold okNI at hok; omega) (by unfold okNI at hok; omega) tag ht)
    have H2 := hid fun (w0 : World) (f0 : Fr [] w w0) => texts_any (w := w0) (h2.keep f0 (by simp)) hl2 hls2 N I (by unfold okNI at hok; omega) (by unfold okNI at hok; omega) other ho
    have HC := hid (show clashS N I tag other l1 l2 = if okNI N I ∧ tag ≠ other ∧ (climb l1 N I (leafS I tag)).2.2 = true ∧ (climb l2 N I (leafS I other)).2.2 = true ∧ (climb l1 N I (leafS I tag)).2.1 = (climb l2 N I (leafS I other)).2.1 then
        diffR (leafT I tag :: (climb l1 N I (leafS I tag)).1).reverse (leafT I other :: (climb l2 N I (leafS I other)).1).reverse else (⟨#[]⟩, ⟨#[]⟩, false) from rfl)
    obtain ⟨C, hC⟩ : ∃ C, clashS N I tag other l1 l2 = C := ⟨_, rfl⟩
    rw [hC] at HC ⊢
    have Hsl := hid (fun (e1 : (climb l1 N I (leafS I tag)).2.2 = true) (e2 : (climb l2 N I (leafS I other)).2.2 = true) => (climb_len l1 N I (leafS I tag) e1).trans ((climb_same l1 l2 N I I _ _ e1 e2).trans (climb_len l2 N I (leafS I other) e2).symm))
    obtain ⟨⟨A, r, ok⟩, hc1⟩ : ∃ c, climb l1 N I (leafS I tag) = c := ⟨_, rfl⟩
    obtain ⟨⟨D, q, too⟩, hc2⟩ : ∃ c, climb l2 N I (leafS I other) = c := ⟨_, rfl⟩
    have HAl := hid (show ok = true → A.length ≤ 1000000 from fun e => by
      have := climb_len l1 N I (leafS I tag) (by rw [hc1]; exact e)
      rw [hc1] at this
      simp only at this
      omega)
    rw [hc1, hc2] at Hsl HC
    rw [hc1] at H1
    rw [hc2] at H2
    simp only at H1 H2 HC Hsl
    have Hrq := hid (beq_str2 r q)
    have Hok := hid hok
    obtain ⟨a1, c1, rfl⟩ := h1.isSlice
    obtain ⟨a2, c2, rfl⟩ := h2.isSlice
    clear h1 h2 hC hc1 hc2 hok
    by_cases hto : tag = other
    · have g1 : (tag.toList == other.toList) = true := by rw [Hto.out]; exact decide_eq_true hto
      have Hq := hid hto
      clear hto
      have Hno := hid (show C = (⟨#[]⟩, ⟨#[]⟩, false) by rw [HC.out, if_neg]; rintro ⟨_, q1, q2, q3, q4⟩; exact q1 Hq.out)
      rw [Hno.out]
      go_enter Try.func16, Try.ntmps16
      go_wp2_with (first
        | (go_at_call 30; refine H1.out.mono ?_; rintro e w1 ⟨⟨va, Ba, rfl, ha, hb⟩, f1⟩; clear H1)
        | (go_at_call 30; refine (H2.out _ f1).mono ?_; rintro e w2 ⟨⟨vb, Bb, rfl, ha2, hb2⟩, f2⟩))
      go_ret3
      exact ⟨rfl, f1.trans' f2⟩
    · have g1 : (tag.toList == other.toList) = false := by rw [Hto.out]; exact decide_eq_false hto
      cases ok
      · clear hto
        have Hno := hid (show C = (⟨#[]⟩, ⟨#[]⟩, false) by rw [HC.out, if_neg]; rintro ⟨_, q1, q2, q3, q4⟩; cases q2)
        rw [Hno.out]
        go_enter Try.func16, Try.ntmps16
        go_wp2_with (first
          | (go_at_call 30; refine H1.out.mono ?_; rintro e w1 ⟨⟨va, Ba, rfl, ha, hb⟩, f1⟩; clear H1)
          | (go_at_call 30; refine (H2.out _ f1).mono ?_; rintro e w2 ⟨⟨vb, Bb, rfl, ha2, hb2⟩, f2⟩))
        go_ret3
        exact ⟨rfl, f1.trans' f2⟩
      · cases too
        · clear hto
          have Hno := hid (show C = (⟨#[]⟩, ⟨#[]⟩, false) by rw [HC.out, if_neg]; rintro ⟨_, q1, q2, q3, q4⟩; cases q3)
          rw [Hno.out]
          go_enter Try.func16, Try.ntmps16
          go_wp2_with (first
            | (go_at_call 30; refine H1.out.mono ?_; rintro e w1 ⟨⟨va, Ba, rfl, ha, hb⟩, f1⟩; clear H1)
            | (go_at_call 30; refine (H2.out _ f1).mono ?_; rintro e w2 ⟨⟨vb, Bb, rfl, ha2, hb2⟩, f2⟩))
          go_ret3
          exact ⟨rfl, f1.trans' f2⟩
        · by_cases hrq : r = q
          · have g2 : (r.toList == q.toList) = true := by rw [Hrq.out]; exact decide_eq_true hrq
            have Hyes := hid (show C = diffR (leafT I tag :: A).reverse (leafT I other :: D).reverse by rw [HC.out, if_pos ⟨Hok.out, hto, rfl, rfl, hrq⟩])
            have Hll := hid (show (leafT I tag :: A).length = (leafT I other :: D).length by simp; exact Hsl.out rfl rfl)
            have HA := HAl.out rfl
            obtain ⟨E, hE⟩ : ∃ E, leafT I tag :: A = E := ⟨_, rfl⟩
            obtain ⟨F, hF⟩ : ∃ F, leafT I other :: D = F := ⟨_, rfl⟩
            have hEl : E.length = A.length + 1 := by rw [← hE]; rfl
            have hF0 : (leafT I other :: D).length = E.length := by rw [← hE]; exact Hll.out.symm
            rw [hE, hF] at Hyes
            rw [hE] at H1
            rw [hF] at H2 hF0
            obtain ⟨m, hm⟩ : ∃ m, E.length = m := ⟨_, rfl⟩
            have Hm := hid hm
            have hmb : m ≤ 1000001 := by omega
            have HmF := hid (hF0.trans hm)
            rw [hm] at H1
            rw [hF0, hm] at H2
            clear hto hrq HA hE hF hEl hF0 hm Hsl HAl Hll
            go_enter Try.func16, Try.ntmps16
            go_wp2_with (first
              | (go_at_call 30; refine H1.out.mono ?_; rintro e w1 ⟨⟨va, Ba, rfl, ha, hb⟩, f1⟩; clear H1; obtain ⟨aa, ca, rfl⟩ := ha.isSlice)
              | (go_at_call 30; refine (H2.out _ f1).mono ?_; rintro e w2 ⟨⟨vb, Bb, rfl, ha2, hb2⟩, f2⟩; obtain ⟨ab, cb, rfl⟩ := ha2.isSlice))
            have Ha := hid (ha.keep f2 (by simp))
            have Ha2 := hid ha2
            have HF := hid (f1.trans' f2)
            clear ha ha2
            go_loopw [21] (fun kv wr => ∃ j : Nat, kv = .int .i64 ((j : Int) - 1) ∧ j ≤ m ∧ diffR E.reverse F.reverse = diffR (E.take j).reverse (F.take j).reverse ∧ Fr [] w2 wr) (fun kv _ => (intOf kv + 1).toNat)
            case atStart =>
              refine ⟨m, by first | rfl | go_num, Nat.le_refl _, ?_, Fr.refl _ _⟩
              rw [List.take_of_length_le (by rw [Hm.out]; exact Nat.le_refl _), List.take_of_length_le (by rw [HmF.out]; exact Nat.le_refl _)]
            case round =>
              obtain ⟨j, rfl, hj, hdf, fr⟩ := hrel
              cases j with
              | zero =>
                have g5 : decide ((0 : Int) ≤ ((0 : Nat) : Int) - 1) = false := by decide
                have Hres := hid (show C = (⟨#[]⟩, ⟨#[]⟩, false) by rw [Hyes.out, hdf]; rfl)
                clear hdf
                go_wp2_with fail
                go_ret3
                rw [Hres.out]
                exact ⟨rfl, HF.out.trans' fr⟩
              | succ j =>
                have e1 : ((j + 1 : Nat) : Int) - 1 = (j : Int) := by omega
                have g5 : decide ((0 : Int) ≤ (j : Int)) = true := by simp
                have g6 : decide ((j : Int) < (m : Int)) = true := by simp; omega
                have g7 : (j : Int) < (m : Int) := by omega
                rw [e1]
                obtain ⟨x, hx⟩ : ∃ x, E[j]? = some x := ⟨_, List.getElem?_eq_getElem (by rw [Hm.out]; omega)⟩
                obtain ⟨y, hy⟩ : ∃ y, F[j]? = some y := ⟨_, List.getElem?_eq_getElem (by rw [HmF.out]; omega)⟩
                rw [diffR_step E F j x y hx hy] at hdf
                obtain ⟨b1, o1, rfl, hB1, l1', hi1, q1⟩ := rc_elem (Ha.out.keep fr (by simp)) (i := j) (by omega)
                obtain ⟨b2, o2, rfl, hB2, l2', hi2, q2⟩ := rc_elem (Ha2.out.keep fr (by simp)) (i := j) (by omega)
                rw [show E[j] = x by rw [List.getElem?_eq_getElem hi1] at hx; exact Option.some.inj hx] at q1
                rw [show F[j] = y by rw [List.getElem?_eq_getElem hi2] at hy; exact Option.some.inj hy] at q2
                have Hxy := hid (beq_str2 x y)
                have Hdf := hid hdf
                clear hdf hx hy hi1 hi2 hB1 hB2 e1
                by_cases hxy : x = y
                · have g8 : (x.toList == y.toList) = true := by rw [Hxy.out]; exact decide_eq_true hxy
                  have Hd2 := hid (show diffR E.reverse F.reverse = _ by rw [Hdf.out, if_pos hxy])
                  clear hxy
                  go_wp2_with fail
                  refine wp_region_D (fun _ => True) false [] (by kernel_rfl) ?_
                  refine WD.pure [0, 1, 2, 3, 4, 5, 6, 7, 8] (by kernel_rfl) trivial ?_
                  simp only [pick, List.toList_toArray, List.map_cons, List.map_nil, List.getD_cons_succ, List.getD_cons_zero]
                  repeat (first | go_big_quiet_step (fail))
                  refine wpQuiet_nil ?_
                  refine WD.done (by kernel_rfl) ?_
                  go_wp2_with fail
                  go_roundw
                  case rel => exact ⟨j, by first | rfl | go_num, by omega, Hd2.out, fr.drew⟩
                  case measure => simp [intOf]
                · have g8 : (x.toList == y.toList) = false := by rw [Hxy.out]; exact decide_eq_false hxy
                  have Hres := hid (show C = (x, y, true) by rw [Hyes.out, Hdf.out, if_neg hxy])
                  clear hxy
                  go_wp2_with fail
                  refine wp_region_D (fun _ => True) false [] (by kernel_rfl) ?_
                  refine WD.pure [0, 1, 2, 3, 4, 5, 6, 7, 8] (by kernel_rfl) trivial ?_
                  simp only [pick, List.toList_toArray, List.map_cons, List.map_nil, List.getD_cons_succ, List.getD_cons_zero]
                  repeat (first | go_big_quiet_step (fail))
                  refine wpQuiet_nil ?_
                  refine WD.done (by kernel_rfl) ?_
                  go_wp2_with fail
                  refine wp_region_D (fun _ => True) false [] (by kernel_rfl) ?_
                  refine WD.pure [0, 1, 2, 3, 4, 5, 6, 7, 8, 9, 10] (by kernel_rfl) trivial ?_
                  simp only [pick, List.toList_toArray, List.map_cons, List.map_nil, List.getD_cons_succ, List.getD_cons_zero]
                  repeat (first | go_big_quiet_step (fail))
                  refine wpQuiet_nil ?_
                  refine WD.done (by kernel_rfl) ?_
                  go_wp2_with fail
                  go_ret3
                  rw [Hres.out]
                  exact ⟨rfl, (HF.out.trans' fr).drew.drew⟩
          · have g2 : (r.toList == q.toList) = false := by rw [Hrq.out]; exact decide_eq_false hrq
            have Hq := hid hrq
            clear hrq hto
            have Hno := hid (show C = (⟨#[]⟩, ⟨#[]⟩, false) by rw [HC.out, if_neg]; rintro ⟨_, q1, q2, q3, q4⟩; exact Hq.out q4)
            rw [Hno.out]
            go_enter Try.func16, Try.ntmps16
            go_wp2_with (first
              | (go_at_call 30; refine H1.out.mono ?_; rintro e w1 ⟨⟨va, Ba, rfl, ha, hb⟩, f1⟩; clear H1)
              | (go_at_call 30; refine (H2.out _ f1).mono ?_; rintro e w2 ⟨⟨vb, Bb, rfl, ha2, hb2⟩, f2⟩))
            go_ret3
            exact ⟨rfl, f1.trans' f2⟩
  · have HV := hid (show clashS n i tag other l1 l2 = (⟨#[]⟩, ⟨#[]⟩, false) by unfold clashS; rw [if_neg (fun h => hok h.1)])
    rw [HV.out]
    obtain ⟨a1, c1, rfl⟩ := h1.isSlice
    obtain ⟨a2, c2, rfl⟩ := h2.isSlice
    have hb : n < 1 ∨ n > 16384 ∨ i < 0 ∨ i ≥ n := by unfold okNI at hok; omega
    clear h1 h2 hok
    by_cases hto : tag = other
    · have g1 : (tag.toList == other.toList) = true := by rw [Hto.out]; exact decide_eq_true hto
      clear hto
      go_enter Try.func16, Try.ntmps16
      go_wp2_with (go_at_call 30; refine (texts_bad n i _ hb).mono ?_; rintro e w1 ⟨rfl, hw⟩; have hw' := hw.symm; subst hw'; clear hw)
      go_ret3
      exact ⟨rfl, Fr.refl _ _⟩
    · have g1 : (tag.toList == other.toList) = false := by rw [Hto.out]; exact decide_eq_false hto
      clear hto
      go_enter Try.func16, Try.ntmps16
      go_wp2_with (go_at_call 30; refine (texts_bad n i _ hb).mono ?_; rintro e w1 ⟨rfl, hw⟩; have hw' := hw.symm; subst hw'; clear hw)
      go_ret3
      exact ⟨rfl, Fr.refl _ _⟩
end Go.Proofs.Ythfjjencnfebmaa.mer
