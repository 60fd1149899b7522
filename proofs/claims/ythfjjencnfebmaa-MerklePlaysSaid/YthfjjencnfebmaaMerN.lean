/- Layer 10, the document's answer: the root, a path. -/
import Derived.Test.YthfjjencnfebmaaMerM
namespace Go.Proofs.Ythfjjencnfebmaa.mer
open Go Go.Xr Go.RowKit
set_option linter.unusedVariables false
set_option linter.unusedSimpArgs false
theorem RowsV.keep {w w' : World} {v : Value} {rows : List (List ByteArray)} {rvs : List Value} {br : Nat} {bs : List Nat} (h : RowsV w v rows rvs br bs) (f : Fr [] w w') : RowsV w' v rows rvs br bs := ⟨h.1.keep f (by simp), h.2.1.keep f (by simp), h.2.2⟩
theorem rowsS_root (tags : List ByteArray) (h : 0 < tags.length) : ∃ pre, rowsS tags = pre ++ [[rootS tags]] := by
  obtain ⟨pre, x, e⟩ := rowsS_last tags h
  exact ⟨pre, by rw [e, rootS, e, rootR_last]⟩
set_option maxRecDepth 20000 in
theorem rroot_any {w : World} {v : Value} {l : List ByteArray} {B : Option Nat} (h : Rc w 1 v l.length (l.map .string) B) (hl : l.length ≤ 16384) (hn : 0 < l.length) (hs : ∀ s ∈ l, s.size < 1099511627000) :
    Calls Try.prog 15 #[v] w fun e w' => e = .returned (.string (rootS l)) ∧ Fr [] w w' := by
  have H1 := hid (rrows_any h hl hn hs)
  obtain ⟨a, c, rfl⟩ := h.isSlice
  obtain ⟨pre, ex⟩ := rowsS_root l hn
  have hrl := rowsS_length l hn
  obtain ⟨x, hx⟩ : ∃ x, rootS l = x := ⟨_, rfl⟩
  rw [hx] at ex ⊢
  rw [ex] at H1 hrl
  clear h hs ex hx
  go_enter Try.func15, Try.ntmps15
  go_wp2_with (go_at_call 32; refine H1.out.mono ?_; rintro e w1 ⟨⟨v1, rvs, br, bs, rfl, ⟨t1, t2, t3⟩, hb⟩, f1⟩; revert f1)
  intro f1
  obtain ⟨v2, b, e1, e2, e3⟩ := t2.2.2 pre.length [x] (by simp)
  obtain ⟨cv, rfl⟩ : ∃ cv, v2 = .slice (some ⟨b, 0, none⟩) 1 cv := by
    rcases e3.shape with ⟨_, _, _, h0⟩ | ⟨b2, ct, h0, rfl, hc2, _⟩
    · cases h0
    · cases h0; exact ⟨ct, rfl⟩
  obtain ⟨cr, rfl⟩ : ∃ cr, v1 = .slice (some ⟨br, 0, none⟩) (pre.length + 1) cr := by
    rcases t1.shape with ⟨_, _, _, h0⟩ | ⟨b2, ct, h0, hv, hc2, _⟩
    · cases h0
    · cases h0; exact ⟨ct, by simpa using hv⟩
  have k1 : w1.cell? ⟨br, pre.length, none⟩ = some (.slice (some ⟨b, 0, none⟩) 1 cv) := by rw [t1.cellAt rfl (by rw [t2.1]; simp), e1]
  have k2 : w1.cell? ⟨b, 0, none⟩ = some (.string x) := by rw [e3.cellAt rfl (by simp)]; rfl
  rw [List.length_append] at hrl
  simp only [List.length_cons, List.length_nil] at hrl
  clear t1 t2 t3 e1 e2 e3 hb
  generalize pre.length = m at *
  have hsub : ((m + 1 : Nat) : Int) - 1 = (m : Int) := by omega
  go_wp2_with fail
  go_ret
  exact ⟨rfl, f1⟩
/-- The text of a group so far. -/
def gT (l : List ByteArray) (lo k : Nat) : ByteArray := catS ((l.drop lo).take (k - lo))
theorem gT_zero (l : List ByteArray) (lo : Nat) : gT l lo lo = ⟨#[]⟩ := by simp [gT, catS_nil]
theorem gT_succ (l : List ByteArray) (lo k : Nat) (x : ByteArray) (hk : lo ≤ k) (h : l[k]? = some x) : gT l lo k ++ x = gT l lo (k + 1) := by
  unfold gT
  rw [show k + 1 - lo = (k - lo) + 1 by omega, List.take_add_one, List.getElem?_drop, show lo + (k - lo) = k by omega, h, Option.toList_some, catS_snoc]
theorem gT_size (l : List ByteArray) (lo k : Nat) (h : ∀ s ∈ l, s.size = 32) (hk : k ≤ lo + 8) : (gT l lo k).size ≤ 257 := by
  unfold gT
  rw [catS_size]
  have h1 := sum_le ((l.drop lo).take (k - lo)) 32 fun s hs => by rw [h s (List.mem_of_mem_drop (List.mem_of_mem_take hs))]; exact Nat.le_refl _
  rw [List.length_take] at h1
  omega
set_option maxRecDepth 20000 in
set_option maxHeartbeats 1000000 in
theorem rpath_any {w : World} {v : Value} {l : List ByteArray} {B : Option Nat} (h : Rc w 1 v l.length (l.map .string) B) (hl : l.length ≤ 16384) (hs : ∀ s ∈ l, s.size < 1099511627000) (i : Nat) (hi : i < l.length) :
    Calls Try.prog 26 #[v, .int .i64 (i : Int)] w fun e w' => (∃ v' B', e = .returned v' ∧ Rc w' 1 v' (pathS l i).length ((pathS l i).map .string) B') ∧ Fr [] w w' := by
  obtain ⟨i9, hi9, hz9, hs9, hb9⟩ := inf9
  have Hi := hid hi9
  have Hz := hid hz9
  have Hs := hid hs9
  have Hb := hid hb9
  clear hi9 hz9 hs9 hb9
  have H1 := hid (rrows_any h hl (by omega) hs)
  have HC := hid (chain_rows l (by omega) hl)
  have HH := hid (show ∀ r, (rowsS l).head? = some r → i < r.length by
    intro r hr
    unfold rowsS at hr
    rw [rowsF_head] at hr
    cases hr
    rw [leafs_len]
    exact hi)
  obtain ⟨pre, x, ex⟩ := rowsS_last l (by omega)
  have HP := hid (show pathS l i = pathF pre i by unfold pathS; rw [ex]; simp)
  have hrl := rowsS_length l (by omega)
  rw [ex] at HC HH H1 hrl
  obtain ⟨a, c, rfl⟩ := h.isSlice
  obtain ⟨q, hq⟩ : ∃ q, pre.length = q := ⟨_, rfl⟩
  have Hq := hid hq
  rw [List.length_append, hq] at hrl
  simp only [List.length_cons, List.length_nil] at hrl
  have hqb : q ≤ 16384 := by omega
  have hib : i ≤ 16384 := by omega
  clear h hs hi ex hrl hl
  go_enter Try.func26, Try.ntmps26
  go_wp2_with (go_at_call 32; refine H1.out.mono ?_; rintro e w1 ⟨⟨v1, rvs, br, bs, rfl, hT, hb⟩, f1⟩; revert f1)
  intro f1
  obtain ⟨cr, rfl⟩ : ∃ cr, v1 = .slice (some ⟨br, 0, none⟩) (q + 1) cr := by
    rcases hT.1.shape with ⟨_, _, _, h0⟩ | ⟨b2, ct, h0, hv, hc2, _⟩
    · cases h0
    · cases h0; exact ⟨ct, by rw [← hq]; simpa using hv⟩
  have HT := hid hT
  clear hT hq hb
  go_wp2_with fail
  go_loopw [1, 6, 7] (fun iv lv kv wr => ∃ (i' k : Nat) (dn todo : List (List ByteArray)) (p : List ByteArray) (B : Option Nat), iv = .int .i64 (i' : Int) ∧ kv = .int .i64 (k : Int) ∧ pre = dn ++ todo ∧ dn.length = k ∧ Chain (todo ++ [[x]]) ∧ (∀ r, (todo ++ [[x]]).head? = some r → i' < r.length) ∧
      pathF pre i = p ++ pathF todo i' ∧ p.length = k ∧ Xr.Own wr 1 lv k (p.map .string) B ∧ (∀ b, B = some b → w1.heap.size ≤ b) ∧ Fr [] w1 wr) (fun _ _ kv _ => q - (intOf kv).toNat)
  case atStart => exact ⟨i, 0, [], pre, [], none, rfl, rfl, rfl, rfl, HC.out, HH.out, rfl, rfl, Own.nil _ 1, by simp, Fr.refl _ _⟩
  case round =>
    obtain ⟨i', k, dn, todo, p, B, rfl, rfl, e1, e2, e3, e4, e5, e6, e8, e9, f⟩ := hrel
    have E5 := hid e5
    have E9 := hid e9
    by_cases hkl : k < q
    · have hd2 : decide ((k : Int) + 1 < (q : Int) + 1) = true := by simp; omega
      have hd2' : (k : Int) < (q : Int) := by omega
      have hd3 : decide ((k : Int) < (q : Int) + 1) = true := by simp; omega
      have hd3' : (k : Int) < (q : Int) + 1 := by omega
      obtain ⟨row, rest, rfl⟩ : ∃ row rest, todo = row :: rest := by
        cases todo with
        | nil => have := Hq.out; rw [e1] at this; simp at this; omega
        | cons a b => exact ⟨a, b, rfl⟩
      have hil := e4 row rfl
      rw [List.cons_append] at e3
      obtain ⟨c1, c2, c3, c4, c5⟩ := e3
      have T := HT.out.keep f
      rw [e1] at T
      obtain ⟨t1, t2, t3⟩ := T
      obtain ⟨v, b, r1, r2, r3⟩ := t2.2.2 k row (by rw [← e2]; simp)
      obtain ⟨cv, rfl, hcv⟩ : ∃ cv, v = .slice (some ⟨b, 0, none⟩) row.length cv ∧ row.length ≤ cv := by
        rcases r3.shape with ⟨_, _, _, h0⟩ | ⟨b2, ct, h0, hv, hc2, _⟩
        · cases h0
        · cases h0; exact ⟨ct, hv, hc2⟩
      have hQ := Hq.out
      rw [e1, List.length_append, List.length_cons] at hQ
      have kk2 : wr.cell? ⟨br, k, none⟩ = some (.slice (some ⟨b, 0, none⟩) row.length cv) := by rw [t1.cellAt rfl (by rw [t2.1]; simp; omega), r1]
      obtain ⟨rn, hrn⟩ : ∃ rn, row.length = rn := ⟨_, rfl⟩
      have Hrn := hid hrn
      have hqq : ∀ t, binOp .quo t (.int .i64 (i' : Int)) (.int .i64 8) = pure (.int .i64 ((i' / 8 : Nat) : Int)) := fun t => quo_i t i' 8 (by omega) (by decide)
      have hmm : ∀ t, binOp .mul t (.int .i64 ((i' / 8 : Nat) : Int)) (.int .i64 8) = pure (.int .i64 ((i' / 8 * 8 : Nat) : Int)) := fun t => mul_i t (i' / 8) 8 (by omega)
      obtain ⟨lo, hlo⟩ : ∃ lo, i' / 8 * 8 = lo := ⟨_, rfl⟩
      obtain ⟨i8, hi8⟩ : ∃ i8, i' / 8 = i8 := ⟨_, rfl⟩
      rw [hlo] at hmm
      rw [hi8] at hqq hmm
      have hloi : lo ≤ i' := by rw [← hlo]; exact Nat.div_mul_le_self _ _
      have Hlo := hid hlo
      have Hi8 := hid hi8
      obtain ⟨la, lc, rfl⟩ := e8.isSlice
      have E1 := hid e1
      have E2 := hid e2
      have E6 := hid e6
      have E8 := hid e8
      have C3 := hid c3
      have C4 := hid c4
      have C5 := hid c5
      have R3 := hid r3
      have Hil := hid (show i' < rn by omega)
      have hlb : lo ≤ 16384 := by omega
      have hrnb : rn ≤ 16384 := by omega
      rw [hrn] at kk2
      clear t1 t2 t3 r1 r2 r3 hrn hi8 e1 e2 e4 e5 e6 e8 e9 c1 c2 c3 c4 c5 hil hcv hQ hlo
      go_wp2_with fail
      go_loopw [8, 10] (fun sv kv wi => ∃ m : Nat, lo ≤ m ∧ m ≤ lo + 8 ∧ m ≤ rn ∧ kv = .int .i64 (m : Int) ∧ sv = .string (gT row lo m) ∧ wi = wr) (fun _ kv _ => rn - (intOf kv).toNat)
      case atStart => exact ⟨lo, Nat.le_refl _, by omega, by have := Hil.out; omega, rfl, by rw [gT_zero], rfl⟩
      case round =>
        obtain ⟨m, k1, k2, k3, rfl, rfl, rfl⟩ := hrel
        have Hts := hid (gT_size row lo m C3.out k2)
        by_cases hkn : m < rn
        · have g1 : decide ((m : Int) < (rn : Int)) = true := by simp; omega
          have g1' : (m : Int) < (rn : Int) := by omega
          by_cases hk8 : m < lo + 8
          · have g2 : decide ((m : Int) < (lo : Int) + 8) = true := by simp; omega
            have g2' : (m : Int) < (lo : Int) + 8 := by omega
            obtain ⟨b1, o1, hbb, hB1, l1', hi1, q1⟩ := rc_elem (l := row) (n := row.length) R3.out.rd.rc (i := m) (by rw [Hrn.out]; exact hkn)
            cases hbb
            rw [Nat.zero_add] at q1
            have h32 := C3.out row[m] (List.getElem_mem _)
            have Hst := hid (gT_succ row lo m row[m] k1 (List.getElem?_eq_getElem hi1))
            obtain ⟨X, hX⟩ : ∃ X, row[m] = X := ⟨_, rfl⟩
            rw [hX] at q1 h32 Hst
            obtain ⟨T, hT⟩ : ∃ T, gT row lo m = T := ⟨_, rfl⟩
            rw [hT] at Hst Hts ⊢
            have hs3 : ¬ (9223372036854775807 < T.size + X.size) := by have := Hts.out; omega
            clear hX hT hi1
            go_wp2_with fail
            go_roundw
            case rel => exact ⟨m + 1, by omega, by omega, by omega, by go_num, by rw [← Hst.out], trivial⟩
            case measure => simp [intOf]; omega
          · have g2 : decide ((m : Int) < (lo : Int) + 8) = false := by simp; omega
            have g2' : ¬ ((m : Int) < (lo : Int) + 8) := by omega
            have Hfin := hid (show gT row lo m = catS (grp row i') by
              unfold gT grp
              rw [Hlo.out]
              congr 1
              rw [List.take_eq_take_iff, List.length_drop, Hrn.out]
              omega)
            obtain ⟨CG, hCG⟩ : ∃ CG, catS (grp row i') = CG := ⟨_, rfl⟩
            have HCG := hid hCG
            rw [hCG] at Hfin
            rw [Hfin.out]
            clear hCG Hfin Hts
            go_wp2_with (first
              | (refine wpList_buildSlice_r rfl _ 1 _ rfl 9 Try.underlying22 _ _ Hi.out Hz.out rfl Hs.out (by decide) (by decide) (by decide) [.string CG] rfl (by intro v hv; simp at hv; rcases hv with rfl; rfl) ?_; intro w6 f6 hlt6 hb6; simp only [World.size_alloc, World.size_drew, Act.put, List.setIfInBounds_toArray, List.set_cons_succ, List.set_cons_zero])
              | (refine wpList_append_rc rfl _ _ _ rfl 9 _ _ 1 16 Try.underlying22 Hi.out Hz.out Hs.out Hb.out rfl (by decide) rfl (E8.out.keep f6 (by simp)) rfl (rc_blk hb6 rfl (by simp [maxLen])) (by intro u hu; simp at hu; subst hu; rfl) (by unfold maxLen; omega) (by omega) ?_; intro v7 w7 B7 ho7 f7 hB7; simp only [World.size_alloc, World.size_drew, Act.put, List.setIfInBounds_toArray, List.set_cons_succ, List.set_cons_zero]))
            go_roundw
            case rel =>
              have hsz := f.size
              have hsz6 := f6.size
              refine ⟨i8, k + 1, dn ++ [row], rest, p ++ [CG], B7, rfl, by go_num, by rw [E1.out]; simp, by rw [List.length_append, E2.out]; rfl, C5.out, ?_, ?_, by rw [List.length_append, E6.out]; rfl, by rw [List.map_append]; exact ho7, ?_, ?_⟩
              · intro r2 hr2
                have h1 := C4.out r2 hr2
                have h2 := Hil.out
                have h3 := Hi8.out
                have h4 := Hrn.out
                omega
              · rw [E5.out, pathF, HCG.out, Hi8.out]; simp
              · intro b hb
                rcases hB7 with rfl | ⟨y, rfl, hy⟩
                · exact E9.out b hb
                · cases hb; omega
              · refine (f.trans' f6).trans f7 ?_
                intro y hy
                exact .inr (E9.out y (by simpa using hy))
            case measure => simp [intOf]; omega
        · have g1 : decide ((m : Int) < (rn : Int)) = false := by simp; omega
          have g1' : ¬ ((m : Int) < (rn : Int)) := by omega
          have Hfin := hid (show gT row lo m = catS (grp row i') by
            unfold gT grp
            rw [Hlo.out]
            congr 1
            rw [List.take_eq_take_iff, List.length_drop, Hrn.out]
            omega)
          obtain ⟨CG, hCG⟩ : ∃ CG, catS (grp row i') = CG := ⟨_, rfl⟩
          have HCG := hid hCG
          rw [hCG] at Hfin
          rw [Hfin.out]
          clear hCG Hfin Hts
          go_wp2_with (first
            | (refine wpList_buildSlice_r rfl _ 1 _ rfl 9 Try.underlying22 _ _ Hi.out Hz.out rfl Hs.out (by decide) (by decide) (by decide) [.string CG] rfl (by intro v hv; simp at hv; rcases hv with rfl; rfl) ?_; intro w6 f6 hlt6 hb6; simp only [World.size_alloc, World.size_drew, Act.put, List.setIfInBounds_toArray, List.set_cons_succ, List.set_cons_zero])
            | (refine wpList_append_rc rfl _ _ _ rfl 9 _ _ 1 16 Try.underlying22 Hi.out Hz.out Hs.out Hb.out rfl (by decide) rfl (E8.out.keep f6 (by simp)) rfl (rc_blk hb6 rfl (by simp [maxLen])) (by intro u hu; simp at hu; subst hu; rfl) (by unfold maxLen; omega) (by omega) ?_; intro v7 w7 B7 ho7 f7 hB7; simp only [World.size_alloc, World.size_drew, Act.put, List.setIfInBounds_toArray, List.set_cons_succ, List.set_cons_zero]))
          go_roundw
          case rel =>
            have hsz := f.size
            have hsz6 := f6.size
            refine ⟨i8, k + 1, dn ++ [row], rest, p ++ [CG], B7, rfl, by go_num, by rw [E1.out]; simp, by rw [List.length_append, E2.out]; rfl, C5.out, ?_, ?_, by rw [List.length_append, E6.out]; rfl, by rw [List.map_append]; exact ho7, ?_, ?_⟩
            · intro r2 hr2
              have h1 := C4.out r2 hr2
              have h2 := Hil.out
              have h3 := Hi8.out
              have h4 := Hrn.out
              omega
            · rw [E5.out, pathF, HCG.out, Hi8.out]; simp
            · intro b hb
              rcases hB7 with rfl | ⟨y, rfl, hy⟩
              · exact E9.out b hb
              · cases hb; omega
            · refine (f.trans' f6).trans f7 ?_
              intro y hy
              exact .inr (E9.out y (by simpa using hy))
          case measure => simp [intOf]; omega
    · have hd2 : decide ((k : Int) + 1 < (q : Int) + 1) = false := by simp; omega
      have hd2' : ¬ ((k : Int) < (q : Int)) := by omega
      obtain rfl : todo = [] := by
        have := Hq.out
        rw [e1, List.length_append] at this
        exact List.eq_nil_of_length_eq_zero (by omega)
      have hkb : k ≤ 16384 := by
        have := Hq.out
        rw [e1, List.append_nil] at this
        omega
      have HE := hid (show pathS l i = p by rw [HP.out, e5]; simp [pathF])
      have hr := hid (show Rc wr 1 u6 p.length (p.map .string) B by rw [e6]; exact e8.rd.rc)
      clear e1 e2 e3 e4 e5 e6 e8
      go_wp2_with fail
      go_ret
      rw [HE.out]
      exact ⟨⟨_, rfl, B, hr.out⟩, f1.trans' f⟩
end Go.Proofs.Ythfjjencnfebmaa.mer
