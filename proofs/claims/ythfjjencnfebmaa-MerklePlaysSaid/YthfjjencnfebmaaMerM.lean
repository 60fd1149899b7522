/- Layer 10, the document's answer: leaves, the row above a row. -/
import Derived.Test.YthfjjencnfebmaaMerL
namespace Go.Xr
open Go
set_option linter.unusedVariables false
theorem catS_snoc (l : List ByteArray) (x : ByteArray) : catS (l ++ [x]) = catS l ++ x := by
  apply ByteArray.ext
  apply Array.ext'
  simp [catS, ByteArray.data_append]
theorem catS_one (x : ByteArray) : catS [x] = x := by
  apply ByteArray.ext
  apply Array.ext'
  simp [catS]
theorem catS_nil : catS [] = ⟨#[]⟩ := rfl
end Go.Xr
namespace Go.Proofs.Ythfjjencnfebmaa.mer
open Go Go.Xr Go.RowKit
set_option linter.unusedVariables false
set_option linter.unusedSimpArgs false
set_option maxRecDepth 20000 in
theorem rleafT_any {w : World} (i : Nat) (tag : ByteArray) (hi : i ≤ 9223372036854775807) (ht : tag.size < 1099511627000) : Calls Try.prog 27 #[.int .i64 (i : Int), .string tag] w fun e w' => e = .returned (.string (leafT i tag)) ∧ Fr [] w w' := by
  have hcv := fun w0 : World => cv_iu w0 i (by omega)
  have Hlt := hid (leafT_add i tag (by omega))
  have hN0 := n8le_size (UInt64.ofNat i)
  have HL := hid (show n8le (UInt64.ofNat i) = ⟨(leN (UInt64.ofNat i).toNat 8).toArray⟩ from rfl)
  obtain ⟨N8, hN8⟩ : ∃ N8, n8le (UInt64.ofNat i) = N8 := ⟨_, rfl⟩
  rw [hN8] at Hlt hN0 HL
  have hs1 : ¬ (9223372036854775807 < 1 + N8.size) := by omega
  have hs2 : ¬ (9223372036854775807 < 1 + N8.size + tag.size) := by omega
  obtain ⟨LT, hLT⟩ : ∃ LT, leafT i tag = LT := ⟨_, rfl⟩
  rw [hLT] at Hlt ⊢
  clear hN8 hN0 hLT
  go_enter Try.func27, Try.ntmps27
  go_wp2_with (go_at_call 42; refine (num_any _ 8 (by decide)).mono ?_; rintro e w1 ⟨rfl, f1⟩; rw [← HL.out])
  go_ret
  refine ⟨?_, f1⟩
  rw [← Hlt.out]
  rfl
theorem rleaf_any {w : World} (i : Nat) (tag : ByteArray) (hi : i ≤ 9223372036854775807) (ht : tag.size < 1099511627000) : Calls Try.prog 28 #[.int .i64 (i : Int), .string tag] w fun e w' => e = .returned (.string (leafS i tag)) ∧ Fr [] w w' := by
  have H1 := hid fun w0 : World => rleafT_any (w := w0) i tag hi ht
  have hL0 := leafT_size i tag
  have H2 := hid fun w0 : World => rof_any (w := w0) (leafT i tag) (by omega)
  have HS : Hid (leafS i tag = shaS (leafT i tag)) := hid rfl
  obtain ⟨LS, hLS⟩ : ∃ LS, leafS i tag = LS := ⟨_, rfl⟩
  obtain ⟨LT, hLT⟩ : ∃ LT, leafT i tag = LT := ⟨_, rfl⟩
  rw [hLS, hLT] at HS
  rw [hLT] at H1 H2
  rw [hLS]
  rw [← HS.out] at H2
  clear hLS hLT hL0
  go_enter Try.func28, Try.ntmps28
  go_wp2_with (first
    | (go_at_call 27; refine (H1.out _).mono ?_; rintro e w1 ⟨rfl, f1⟩)
    | (go_at_call 18; refine (H2.out _).mono ?_; rintro e w2 ⟨rfl, f2⟩))
  go_ret
  exact ⟨rfl, f1.trans' f2⟩
/-- The text of the part of a group so far. -/
def upT (l : List ByteArray) (lo k : Nat) : ByteArray := catS (⟨#[110]⟩ :: (l.drop lo).take (k - lo))
theorem upT_zero (l : List ByteArray) (lo : Nat) : upT l lo lo = ⟨#[110]⟩ := by simp [upT, catS_one]
theorem upT_succ (l : List ByteArray) (lo k : Nat) (x : ByteArray) (hk : lo ≤ k) (h : l[k]? = some x) : upT l lo k ++ x = upT l lo (k + 1) := by
  unfold upT
  rw [show k + 1 - lo = (k - lo) + 1 by omega, List.take_add_one, List.getElem?_drop, show lo + (k - lo) = k by omega, h, ← catS_snoc]
  rfl
theorem upT_size (l : List ByteArray) (lo k : Nat) (h : ∀ s ∈ l, s.size = 32) (hk : k ≤ lo + 8) : (upT l lo k).size ≤ 257 := by
  unfold upT
  rw [catS_size]
  have h1 := sum_le ((l.drop lo).take (k - lo)) 32 fun s hs => by rw [h s (List.mem_of_mem_drop (List.mem_of_mem_take hs))]; exact Nat.le_refl _
  rw [List.length_take] at h1
  have : (ByteArray.mk #[110]).size = 1 := rfl
  simp only [List.map_cons, List.sum_cons, this]
  omega
set_option maxRecDepth 20000 in
set_option maxHeartbeats 1000000 in
theorem rup_any {w : World} {v : Value} {l : List ByteArray} {B : Option Nat} (h : Rc w 1 v l.length (l.map .string) B) (hl : l.length ≤ 16384) (h32 : ∀ s ∈ l, s.size = 32) :
    Calls Try.prog 48 #[v] w fun e w' => (∃ v' B', e = .returned v' ∧ Xr.Own w' 1 v' (upS l).length ((upS l).map .string) B' ∧ ∀ b, B' = some b → w.heap.size ≤ b) ∧ Fr [] w w' := by
  obtain ⟨i9, hi9, hz9, hs9, hb9⟩ := inf9
  have Hi := hid hi9
  have Hz := hid hz9
  have Hs := hid hs9
  have Hb := hid hb9
  clear hi9 hz9 hs9 hb9
  obtain ⟨ad, c, rfl⟩ := h.isSlice
  have Hr := hid h
  have H32 := hid h32
  obtain ⟨n, hn⟩ : ∃ n, l.length = n := ⟨_, rfl⟩
  have Hn := hid hn
  have HU := hid (show upS l = upN l ((n + 7) / 8) by rw [← hn]; rfl)
  rw [hn] at hl ⊢
  clear h h32 hn
  go_enter Try.func48, Try.ntmps48
  go_wp2_with fail
  go_loopw [3, 4] (fun lv iv wr => ∃ (j : Nat) (B' : Option Nat), j ≤ (n + 7) / 8 ∧ iv = .int .i64 ((8 * j : Nat) : Int) ∧ Xr.Own wr 1 lv j ((upN l j).map .string) B' ∧ (∀ b, B' = some b → w.heap.size ≤ b) ∧ Fr [] w wr) (fun _ iv _ => n + 8 - (intOf iv).toNat)
  case atStart => exact ⟨0, none, by omega, rfl, Own.nil _ 1, by simp, Fr.refl _ _⟩
  case round =>
    obtain ⟨j, B', hj, rfl, ho, hB, f⟩ := hrel
    obtain ⟨la, lc, rfl⟩ := ho.isSlice
    obtain ⟨lo, hlo⟩ : ∃ lo, 8 * j = lo := ⟨_, rfl⟩
    have Hlo := hid hlo
    have HO := hid ho
    rw [hlo]
    by_cases hli : lo < n
    · have hd : decide ((lo : Int) < (n : Int)) = true := by simp; omega
      have hd' : (lo : Int) < (n : Int) := by omega
      have hlb : lo ≤ 16384 := by omega
      have hjn : j ≤ 16384 := by omega
      have Hjn := hid (show j + 1 ≤ (n + 7) / 8 by omega)
      clear hj hlo
      go_wp2_with fail
      go_loopw [5, 6] (fun sv kv wi => ∃ k : Nat, lo ≤ k ∧ k ≤ lo + 8 ∧ k ≤ n ∧ kv = .int .i64 (k : Int) ∧ sv = .string (upT l lo k) ∧ wi = wr) (fun _ kv _ => n - (intOf kv).toNat)
      case atStart => exact ⟨lo, Nat.le_refl _, by omega, by omega, rfl, by rw [upT_zero], rfl⟩
      case round =>
        obtain ⟨k, k1, k2, k3, rfl, rfl, rfl⟩ := hrel
        have Hts := hid (upT_size l lo k H32.out k2)
        by_cases hkn : k < n
        · have g1 : decide ((k : Int) < (n : Int)) = true := by simp; omega
          have g1' : (k : Int) < (n : Int) := by omega
          by_cases hk8 : k < lo + 8
          · have g2 : decide ((k : Int) < (lo : Int) + 8) = true := by simp; omega
            have g2' : (k : Int) < (lo : Int) + 8 := by omega
            obtain ⟨b1, o1, rfl, hB1, l1', hi1, q1⟩ := rc_elem (l := l) (n := n) (by have := Hr.out.keep f (by simp); rw [Hn.out] at this; exact this) hkn
            have h32 := H32.out l[k] (List.getElem_mem _)
            have Hst := hid (upT_succ l lo k l[k] k1 (List.getElem?_eq_getElem hi1))
            obtain ⟨X, hX⟩ : ∃ X, l[k] = X := ⟨_, rfl⟩
            rw [hX] at q1 h32 Hst
            obtain ⟨T, hT⟩ : ∃ T, upT l lo k = T := ⟨_, rfl⟩
            rw [hT] at Hst Hts ⊢
            have hs3 : ¬ (9223372036854775807 < T.size + X.size) := by have := Hts.out; omega
            clear hX hT hi1
            go_wp2_with fail
            go_roundw
            case rel => exact ⟨k + 1, by omega, by omega, by omega, by go_num, by rw [← Hst.out], trivial⟩
            case measure => simp [intOf]; omega
          · have g2 : decide ((k : Int) < (lo : Int) + 8) = false := by simp; omega
            have g2' : ¬ ((k : Int) < (lo : Int) + 8) := by omega
            have Hfin := hid (show shaS (upT l lo k) = nodeS ((l.drop (8 * j)).take 8) by
              unfold nodeS nodeT upT
              rw [Hlo.out]
              congr 3
              rw [List.take_eq_take_iff, List.length_drop, Hn.out]
              omega)
            have Hof := hid fun w0 : World => rof_any (w := w0) (upT l lo k) (by have := Hts.out; omega)
            rw [Hfin.out] at Hof
            obtain ⟨ND, hND⟩ : ∃ ND, nodeS ((l.drop (8 * j)).take 8) = ND := ⟨_, rfl⟩
            have HND := hid (show upN l (j + 1) = upN l j ++ [ND] by rw [upN_succ, hND])
            rw [hND] at Hof
            clear Hfin hND
            go_wp2_with (first
              | (go_at_call 18; refine (Hof.out _).mono ?_; rintro e w5 ⟨rfl, f5⟩)
              | (refine wpList_buildSlice_r rfl _ 1 _ rfl 9 Try.underlying22 _ _ Hi.out Hz.out rfl Hs.out (by decide) (by decide) (by decide) [.string ND] rfl (by intro v hv; simp at hv; rcases hv with rfl; rfl) ?_; intro w6 f6 hlt6 hb6; simp only [World.size_alloc, World.size_drew, Act.put, List.setIfInBounds_toArray, List.set_cons_succ, List.set_cons_zero])
              | (refine wpList_append_rc rfl _ _ _ rfl 9 _ _ 1 16 Try.underlying22 Hi.out Hz.out Hs.out Hb.out rfl (by decide) rfl (HO.out.keep (f5.trans' f6) (by simp)) rfl (rc_blk hb6 rfl (by simp [maxLen])) (by intro u hu; simp at hu; subst hu; rfl) (by unfold maxLen; omega) (by omega) ?_; intro v7 w7 B7 ho7 f7 hB7; simp only [World.size_alloc, World.size_drew, Act.put, List.setIfInBounds_toArray, List.set_cons_succ, List.set_cons_zero]))
            go_roundw
            case rel =>
              have hsz := f.size
              have hsz5 := f5.size
              have hsz6 := f6.size
              refine ⟨j + 1, B7, Hjn.out, by have := Hlo.out; rw [show (((8 * (j + 1) : Nat)) : Int) = (lo : Int) + 8 by omega], by rw [HND.out, List.map_append]; exact ho7, ?_, ?_⟩
              · intro b hb
                rcases hB7 with rfl | ⟨y, rfl, hy⟩
                · exact hB b hb
                · cases hb; omega
              · refine ((f.trans' f5).trans' f6).trans f7 ?_
                intro y hy
                exact .inr (hB y (by simpa using hy))
            case measure => simp [intOf]; omega
        · have g1 : decide ((k : Int) < (n : Int)) = false := by simp; omega
          have g1' : ¬ ((k : Int) < (n : Int)) := by omega
          have Hfin := hid (show shaS (upT l lo k) = nodeS ((l.drop (8 * j)).take 8) by
            unfold nodeS nodeT upT
            rw [Hlo.out]
            congr 3
            rw [List.take_eq_take_iff, List.length_drop, Hn.out]
            omega)
          have Hof := hid fun w0 : World => rof_any (w := w0) (upT l lo k) (by have := Hts.out; omega)
          rw [Hfin.out] at Hof
          obtain ⟨ND, hND⟩ : ∃ ND, nodeS ((l.drop (8 * j)).take 8) = ND := ⟨_, rfl⟩
          have HND := hid (show upN l (j + 1) = upN l j ++ [ND] by rw [upN_succ, hND])
          rw [hND] at Hof
          clear Hfin hND
          go_wp2_with (first
            | (go_at_call 18; refine (Hof.out _).mono ?_; rintro e w5 ⟨rfl, f5⟩)
            | (refine wpList_buildSlice_r rfl _ 1 _ rfl 9 Try.underlying22 _ _ Hi.out Hz.out rfl Hs.out (by decide) (by decide) (by decide) [.string ND] rfl (by intro v hv; simp at hv; rcases hv with rfl; rfl) ?_; intro w6 f6 hlt6 hb6; simp only [World.size_alloc, World.size_drew, Act.put, List.setIfInBounds_toArray, List.set_cons_succ, List.set_cons_zero])
            | (refine wpList_append_rc rfl _ _ _ rfl 9 _ _ 1 16 Try.underlying22 Hi.out Hz.out Hs.out Hb.out rfl (by decide) rfl (HO.out.keep (f5.trans' f6) (by simp)) rfl (rc_blk hb6 rfl (by simp [maxLen])) (by intro u hu; simp at hu; subst hu; rfl) (by unfold maxLen; omega) (by omega) ?_; intro v7 w7 B7 ho7 f7 hB7; simp only [World.size_alloc, World.size_drew, Act.put, List.setIfInBounds_toArray, List.set_cons_succ, List.set_cons_zero]))
          go_roundw
          case rel =>
            have hsz := f.size
            have hsz5 := f5.size
            have hsz6 := f6.size
            refine ⟨j + 1, B7, Hjn.out, by have := Hlo.out; rw [show (((8 * (j + 1) : Nat)) : Int) = (lo : Int) + 8 by omega], by rw [HND.out, List.map_append]; exact ho7, ?_, ?_⟩
            · intro b hb
              rcases hB7 with rfl | ⟨y, rfl, hy⟩
              · exact hB b hb
              · cases hb; omega
            · refine ((f.trans' f5).trans' f6).trans f7 ?_
              intro y hy
              exact .inr (hB y (by simpa using hy))
          case measure => simp [intOf]; omega
    · have hd : decide ((lo : Int) < (n : Int)) = false := by simp; omega
      have hd' : ¬ ((lo : Int) < (n : Int)) := by omega
      have ej : j = (n + 7) / 8 := by omega
      have HE := hid ej
      clear ej hj hlo hli
      go_wp2_with fail
      go_ret
      rw [HU.out, ← HE.out, upN_len]
      exact ⟨⟨_, rfl, B', HO.out, hB⟩, f⟩
/-- Rows in memory, in a slice of their own. -/
def RowsV (w : World) (v : Value) (rows : List (List ByteArray)) (rvs : List Value) (br : Nat) (bs : List Nat) : Prop :=
  Xr.Own w 1 v rows.length rvs (some br) ∧ RowsAt w rvs rows bs ∧ (br :: bs).Nodup
/-- Between two rounds of 'Rows'. -/
def RowI (w0 : World) (l : List ByteArray) (cv v : Value) (w : World) : Prop :=
  ∃ (pre : List (List ByteArray)) (cur : List ByteArray) (f : Nat) (rvs : List Value) (br : Nat) (bs : List Nat) (B : Option Nat), rowsS l = pre ++ rowsF f cur ∧ cur.length ≤ f + 1 ∧ 0 < cur.length ∧ cur.length ≤ 16384 ∧ pre.length + cur.length ≤ 16385 ∧ (∀ s ∈ cur, s.size = 32) ∧ RowsV w v (pre ++ [cur]) rvs br bs ∧
    Rc w 1 cv cur.length (cur.map .string) B ∧ (∀ b ∈ br :: bs, w0.heap.size ≤ b) ∧ Fr [] w0 w
/-- The first leaves. -/
def leafN (tags : List ByteArray) (k : Nat) : List ByteArray := leafs (tags.take k)
theorem leafN_succ (tags : List ByteArray) (k : Nat) (x : ByteArray) (h : tags[k]? = some x) : leafN tags (k + 1) = leafN tags k ++ [leafS k x] := by
  unfold leafN leafs
  rw [List.take_add_one, h, Option.toList_some, List.mapIdx_append]
  obtain ⟨hk, _⟩ := List.getElem?_eq_some_iff.1 h
  simp
  rw [Nat.min_eq_left (by omega)]
set_option maxRecDepth 20000 in
set_option maxHeartbeats 1000000 in
theorem rrows_any {w : World} {v : Value} {l : List ByteArray} {B : Option Nat} (h : Rc w 1 v l.length (l.map .string) B) (hl : l.length ≤ 16384) (hn : 0 < l.length) (hs : ∀ s ∈ l, s.size < 1099511627000) :
    Calls Try.prog 32 #[v] w fun e w' => (∃ v' rvs br bs, e = .returned v' ∧ RowsV w' v' (rowsS l) rvs br bs ∧ ∀ b ∈ br :: bs, w.heap.size ≤ b) ∧ Fr [] w w' := by
  obtain ⟨i9, hi9, hz9, hs9, hb9⟩ := inf9
  have Hi := hid hi9
  have Hz := hid hz9
  have Hs := hid hs9
  have Hb := hid hb9
  obtain ⟨i22, hi22, hz22, hs22, hb22⟩ := inf22
  have Hi2 := hid hi22
  have Hz2 := hid hz22
  have Hs2 := hid hs22
  have Hb2 := hid hb22
  clear hi9 hz9 hs9 hb9 hi22 hz22 hs22 hb22
  obtain ⟨ad, c, rfl⟩ := h.isSlice
  have Hr := hid h
  have HS := hid hs
  obtain ⟨n, hnn⟩ : ∃ n, l.length = n := ⟨_, rfl⟩
  have Hn := hid hnn
  rw [hnn] at hl hn ⊢
  clear h hs hnn
  go_enter Try.func32, Try.ntmps32
  go_wp2_with fail
  go_loopw [3, 4] (fun lv iv wr => ∃ (k : Nat) (B' : Option Nat), k ≤ n ∧ iv = .int .i64 (k : Int) ∧ Xr.Own wr 1 lv k ((leafN l k).map .string) B' ∧ (∀ b, B' = some b → w.heap.size ≤ b) ∧ Fr [] w wr) (fun _ iv _ => n - (intOf iv).toNat)
  case atStart => exact ⟨0, none, by omega, rfl, Own.nil _ 1, by simp, Fr.refl _ _⟩
  case round =>
    obtain ⟨k, B', hk, rfl, ho, hB, f⟩ := hrel
    obtain ⟨la, lc, rfl⟩ := ho.isSlice
    have HO := hid ho
    by_cases hkn : k < n
    · have g1 : decide ((k : Int) < (n : Int)) = true := by simp; omega
      have g1' : (k : Int) < (n : Int) := by omega
      obtain ⟨b1, o1, rfl, hB1, l1', hi1, q1⟩ := rc_elem (l := l) (n := n) (by have := Hr.out.keep f (by simp); rw [Hn.out] at this; exact this) hkn
      have hsz := HS.out l[k] (List.getElem_mem _)
      have Hst := hid (leafN_succ l k l[k] (List.getElem?_eq_getElem hi1))
      have Hl := hid fun w0 : World => rleaf_any (w := w0) k l[k] (by omega) hsz
      obtain ⟨X, hX⟩ : ∃ X, l[k] = X := ⟨_, rfl⟩
      rw [hX] at q1 Hst Hl
      obtain ⟨LS, hLS⟩ : ∃ LS, leafS k X = LS := ⟨_, rfl⟩
      rw [hLS] at Hst Hl
      clear hX hLS hi1 hsz ho
      go_wp2_with (first
        | (go_at_call 28; refine (Hl.out _).mono ?_; rintro e w5 ⟨rfl, f5⟩)
        | (refine wpList_buildSlice_r rfl _ 1 _ rfl 9 Try.underlying22 _ _ Hi.out Hz.out rfl Hs.out (by decide) (by decide) (by decide) [.string LS] rfl (by intro v hv; simp at hv; rcases hv with rfl; rfl) ?_; intro w6 f6 hlt6 hb6; simp only [World.size_alloc, World.size_drew, Act.put, List.setIfInBounds_toArray, List.set_cons_succ, List.set_cons_zero])
        | (refine wpList_append_rc rfl _ _ _ rfl 9 _ _ 1 16 Try.underlying22 Hi.out Hz.out Hs.out Hb.out rfl (by decide) rfl (HO.out.keep (f5.trans' f6) (by simp)) rfl (rc_blk hb6 rfl (by simp [maxLen])) (by intro u hu; simp at hu; subst hu; rfl) (by unfold maxLen; omega) (by omega) ?_; intro v7 w7 B7 ho7 f7 hB7; simp only [World.size_alloc, World.size_drew, Act.put, List.setIfInBounds_toArray, List.set_cons_succ, List.set_cons_zero]))
      go_roundw
      case rel =>
        have hsz := f.size
        have hsz5 := f5.size
        have hsz6 := f6.size
        refine ⟨k + 1, B7, by omega, by go_num, by rw [Hst.out, List.map_append]; exact ho7, ?_, ?_⟩
        · intro b hb
          rcases hB7 with rfl | ⟨y, rfl, hy⟩
          · exact hB b hb
          · cases hb; omega
        · refine ((f.trans' f5).trans' f6).trans f7 ?_
          intro y hy
          exact .inr (hB y (by simpa using hy))
      case measure => simp [intOf]; omega
    · have g1 : decide ((k : Int) < (n : Int)) = false := by simp; omega
      have g1' : ¬ ((k : Int) < (n : Int)) := by omega
      obtain rfl : k = n := by omega
      have hLN : leafN l k = leafs l := by unfold leafN; rw [List.take_of_length_le (by rw [Hn.out]; exact Nat.le_refl _)]
      rw [hLN] at HO
      obtain ⟨b7, rfl⟩ : ∃ b7, B' = some b7 := by
        rcases ho.shape with ⟨_, h0, _⟩ | ⟨b9, _, h0, _⟩
        · omega
        · exact ⟨b9, h0⟩
      clear ho hLN
      go_wp2_with (refine wpList_buildSlice_r rfl _ 1 _ rfl 22 Try.underlying62 _ _ Hi2.out Hz2.out rfl Hs2.out (by decide) (by decide) (by decide) [.slice la k lc] rfl (by intro v hv; simp at hv; rcases hv with rfl; rfl) ?_; intro w7 f7 hlt7 hb7; simp only [World.size_alloc, World.size_drew, Act.put, List.setIfInBounds_toArray, List.set_cons_succ, List.set_cons_zero])
      have hI0 : RowI w l (.slice la k lc) (.slice (some ⟨wr.heap.size, 0, none⟩) 1 1) w7 := by
        have hf := f.size
        have hb := HO.out.lt b7 rfl
        have o1 : Xr.Own w7 1 (.slice la k lc) (leafs l).length ((leafs l).map .string) (some b7) := by rw [leafs_len, Hn.out]; exact HO.out.keep f7 (by simp)
        refine ⟨[], leafs l, l.length, [.slice la k lc], wr.heap.size, [b7], some b7, rfl, by rw [leafs_len]; omega, by rw [leafs_len, Hn.out]; omega, by rw [leafs_len, Hn.out]; omega, by rw [leafs_len, Hn.out]; simp; omega, leafs_32 l, ⟨Own.blk (n := 1) (size := 1) (cap := 1) hb7 (Nat.le_refl _) (by unfold maxLen; omega) (by simp), ⟨rfl, rfl, ?_⟩, by simp; omega⟩, o1.rd.rc, ?_, f.trans' f7⟩
        · intro j r hj
          match j with
          | 0 =>
            simp at hj
            subst hj
            exact ⟨_, _, rfl, rfl, o1⟩
          | j + 1 => simp at hj
        · intro x hx
          simp at hx
          rcases hx with rfl | rfl
          · exact hf
          · exact hB _ rfl
      have HI0 := hid hI0
      clear hI0 hb7 f7 hlt7 f HO g1 g1' hB
      go_loopw [3, 5] (fun cv v wr => RowI w l cv v wr) (fun cv _ _ => match cv with | .slice _ n _ => n | _ => 0)
      case atStart => exact HI0.out
      case round =>
        clear HI0
        obtain ⟨pre, cur, f, rvs, br, bs, B2, e1, e2, e3, e4, e5, e6, ⟨t1, t2, t3⟩, hr, hbl, fw⟩ := hrel
        obtain ⟨ca, cc, rfl⟩ := hr.isSlice
        by_cases hgt : 1 < cur.length
        · have hd1 : decide ((1 : Int) < (cur.length : Int)) = true := by simp; omega
          have hd1' : (1 : Int) < (cur.length : Int) := by omega
          obtain ⟨g, hg1, hg2⟩ := rowsF_step f cur hgt e2
          have Hul := hid (upS_len cur)
          have Hup := hid (upS_pos cur e3)
          obtain ⟨U, hU⟩ : ∃ U, upS cur = U := ⟨_, rfl⟩
          have Hu32 := hid (show ∀ s ∈ U, s.size = 32 by rw [← hU]; exact upS_32 cur)
          have H1 := hid (rup_any hr e4 e6)
          rw [hU] at hg1 hg2 Hul Hup H1
          have E1 := hid (show rowsS l = (pre ++ [cur]) ++ rowsF g U by rw [e1, hg1, List.append_assoc]; rfl)
          obtain ⟨n1, hn'⟩ : ∃ n1, cur.length = n1 := ⟨_, rfl⟩
          obtain ⟨m, hm⟩ : ∃ m, (pre ++ [cur]).length = m := ⟨_, rfl⟩
          have Hm := hid (show m = pre.length + 1 by rw [← hm]; simp)
          have T2 := hid t2
          have T3 := hid t3
          have Hbl := hid hbl
          rw [hm] at t1
          obtain ⟨ra, rc, rfl⟩ := t1.isSlice
          have T1 := hid t1
          have Fw := hid fw
          rw [hn'] at hd1 hd1' hgt e2 e3 e4 e5 Hul H1 ⊢
          clear e1 hU hg1 hr hn' t1 t2 t3 hm hbl fw
          go_wp2_with (first
            | (go_at_call 48; refine H1.out.mono ?_; rintro e w9 ⟨⟨v9, B9, rfl, ho9, hB9⟩, f9⟩; obtain ⟨va9, vc9, rfl⟩ := ho9.isSlice)
            | (refine wpList_buildSlice_r rfl _ 1 _ rfl 22 Try.underlying62 _ _ Hi2.out Hz2.out rfl Hs2.out (by decide) (by decide) (by decide) [.slice va9 U.length vc9] rfl (by intro v hv; simp at hv; rcases hv with rfl; rfl) ?_; intro w10 f10 hlt10 hb10; simp only [World.size_alloc, World.size_drew, Act.put, List.setIfInBounds_toArray, List.set_cons_succ, List.set_cons_zero])
            | (refine wpList_append_rc rfl _ _ _ rfl 22 _ _ 1 24 Try.underlying62 Hi2.out Hz2.out Hs2.out Hb2.out rfl (by decide) rfl (T1.out.keep (f9.trans' f10) (by simp)) rfl (rc_blk hb10 rfl (by simp [maxLen])) (by intro u hu; simp at hu; subst hu; rfl) (by have := Hm.out; unfold maxLen; omega) (by have := Hm.out; omega) ?_; intro v11 w11 B11 ho11 f11 hB11; simp only [World.size_alloc, World.size_drew, Act.put, List.setIfInBounds_toArray, List.set_cons_succ, List.set_cons_zero]))
          obtain ⟨b9, rfl⟩ : ∃ b9, B9 = some b9 := by
            rcases ho9.shape with ⟨_, h0, _⟩ | ⟨b9, _, h0, _⟩
            · have := Hup.out; omega
            · exact ⟨b9, h0⟩
          have hl3 := T1.out.lt br rfl
          have hl4 := T2.out.lt
          have hb9 := hB9 b9 rfl
          have hb9l := ho9.lt b9 rfl
          have hs9 := f9.size
          have hs10 := f10.size
          have hs11 := f11.size
          have hfw := Fw.out.size
          have ht3 := T3.out
          simp only [List.nodup_cons] at ht3
          obtain ⟨br', rfl, hbr', hbrS⟩ : ∃ br', B11 = some br' ∧ (br' = br ∨ w10.heap.size ≤ br') ∧ br' < w11.heap.size := by
            have := ho11.lt
            rcases hB11 with rfl | ⟨x, rfl, hx⟩
            · exact ⟨br, rfl, .inl rfl, this _ rfl⟩
            · exact ⟨x, rfl, .inr hx, this _ rfl⟩
          have g11 : Fr [br] wr w11 := ((f9.trans' f10).mono (by simp)).trans' (f11.mono (by simp))
          have g911 : Fr [br] w9 w11 := (f10.mono (by simp)).trans' (f11.mono (by simp))
          go_roundw
          case rel =>
            have hUl := Hul.out
            refine ⟨pre ++ [cur], U, g, _, br', bs ++ [b9], some b9, E1.out, hg2, Hup.out, by omega, by have := Hm.out; simp; omega, Hu32.out, ⟨?_, (T2.out.keep g11 ?_).snoc (ho9.keep g911 ?_), ?_⟩, (ho9.keep g911 (by intro x hx; cases hx; simp; omega)).rd.rc, ?_, Fw.out.trans g11 (by have := Hbl.out br (by simp); simp; omega)⟩
            · have := ho11
              rw [show (pre ++ [cur] ++ [U]).length = m + 1 by rw [Hm.out]; simp]
              exact this
            · intro x hx; simp; rintro rfl; exact ht3.1 hx
            · intro x hx; cases hx; simp; omega
            · have hbr2 : br' ∉ bs ∧ br' ≠ b9 := by
                rcases hbr' with rfl | h
                · exact ⟨ht3.1, by omega⟩
                · exact ⟨fun hx => by have := hl4 _ hx; omega, by omega⟩
              have hb9n : b9 ∉ bs := fun hx => by have := hl4 _ hx; omega
              simp only [List.nodup_cons, List.mem_cons, not_or, List.mem_append, List.nodup_append, List.not_mem_nil, not_false_eq_true, List.nodup_nil, or_false, and_true]
              exact ⟨hbr2, ht3.2, trivial, fun x hx y hy h => hb9n (hy ▸ h ▸ hx)⟩
            · intro x hx
              simp only [List.mem_cons, List.mem_append, List.not_mem_nil, or_false] at hx
              rcases hx with rfl | hx | rfl
              · rcases hbr' with rfl | h
                · exact Hbl.out _ (by simp)
                · omega
              · exact Hbl.out _ (by simp [hx])
              · omega
          case measure => have := Hul.out; simp; omega
        · have hd1 : decide ((1 : Int) < (cur.length : Int)) = false := by simp; omega
          have hd1' : ¬ ((1 : Int) < (cur.length : Int)) := by omega
          rw [rowsF_end f cur (by omega)] at e1
          have HT := hid (show RowsV wr u5 (rowsS l) rvs br bs by rw [e1]; exact ⟨t1, t2, t3⟩)
          clear e1 e2 e3 e4 e5 e6 hr t1 t2 t3
          go_wp2_with fail
          go_ret
          exact ⟨⟨_, rfl, rvs, br, bs, HT.out, by simpa using hbl⟩, fw⟩
end Go.Proofs.Ythfjjencnfebmaa.mer
