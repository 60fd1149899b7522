/- Layer 10, the plain laws: a path of a tree leads to its root; what clashes. -/
import Derived.Test.YthfjjencnfebmaaMerP
namespace Go.Xr
open Go
set_option linter.unusedVariables false
theorem ext_list (s : ByteArray) (a b : Nat) : (s.extract a b).data.toList = (s.data.toList.drop a).take (b - a) := by
  rw [ByteArray.data_extract, Array.toList_extract, List.extract_eq_take_drop]
theorem flat_part : ∀ (l : List ByteArray) (j : Nat) (h : j < l.length), (∀ s ∈ l, s.size = 32) → ((l.flatMap fun s => s.data.toList).drop (32 * j)).take 32 = l[j].data.toList
  | s :: r, 0, h, h32 => by
    have h1 : s.data.toList.length = 32 := by rw [Array.length_toList]; exact h32 s List.mem_cons_self
    rw [List.flatMap_cons, Nat.mul_zero, List.drop_zero, List.take_append_of_le_length (by omega), List.take_of_length_le (by omega)]
    rfl
  | s :: r, j + 1, h, h32 => by
    have h1 : s.data.toList.length = 32 := by rw [Array.length_toList]; exact h32 s List.mem_cons_self
    rw [List.flatMap_cons, show 32 * (j + 1) = s.data.toList.length + 32 * j by omega, List.drop_append, List.drop_eq_nil_of_le (by omega), List.nil_append, Nat.add_sub_cancel_left, flat_part r j (by simpa using h) fun x hx => h32 x (List.mem_cons_of_mem _ hx)]
    rfl
theorem catS_part (l : List ByteArray) (j : Nat) (h : j < l.length) (h32 : ∀ s ∈ l, s.size = 32) : (catS l).extract (32 * j) (32 * j + 32) = l[j] := by
  apply ByteArray.ext
  apply Array.ext'
  rw [ext_list, show 32 * j + 32 - 32 * j = 32 by omega]
  exact flat_part l j h h32
theorem catS_32 (l : List ByteArray) (h32 : ∀ s ∈ l, s.size = 32) : (catS l).size = 32 * l.length := by
  rw [catS_size]
  induction l with
  | nil => rfl
  | cons s r ih =>
    rw [List.map_cons, List.sum_cons, List.length_cons, ih fun x hx => h32 x (List.mem_cons_of_mem _ hx), h32 s List.mem_cons_self]
    omega
end Go.Xr
namespace Go.Proofs.Ythfjjencnfebmaa.mer
open Go Go.Xr Go.RowKit
set_option linter.unusedVariables false
set_option linter.unusedSimpArgs false
theorem nodeP_cat (G : List ByteArray) : nodeP (catS G) = nodeT G := by
  apply ByteArray.ext
  apply Array.ext'
  simp [nodeP, nodeT, catS]
theorem nodeP_inj {p q : ByteArray} (h : nodeP p = nodeP q) : p = q := by
  have h1 := congrArg (fun s : ByteArray => s.data.toList) h
  simp [nodeP, catS] at h1
  exact ByteArray.ext h1
theorem leafT_inj {i : Nat} {s t : ByteArray} (h : leafT i s = leafT i t) : s = t := by
  have h1 := congrArg (fun s : ByteArray => s.data.toList) h
  simp [leafT, catS] at h1
  exact ByteArray.ext h1
/-- The path of a part through its rows leads to their root. -/
theorem climb_path : ∀ (f : Nat) (r : List ByteArray) (i : Nat) (hi : i < r.length), r.length ≤ f + 1 → (∀ s ∈ r, s.size = 32) →
    (climb (pathF (rowsF f r).dropLast i) r.length i r[i]).2.2 = true ∧ (climb (pathF (rowsF f r).dropLast i) r.length i r[i]).2.1 = rootR (rowsF f r)
  | 0, r, i, hi, hf, h32 => by
    match r, hi, hf with
    | [x], hi, _ =>
      have : i = 0 := by simp at hi; exact hi
      subst this
      simp [rowsF, pathF, climb, rootR]
  | f + 1, r, i, hi, hf, h32 => by
    by_cases h1 : r.length ≤ 1
    · match r, hi, h1 with
      | [x], hi, _ =>
        have : i = 0 := by simp at hi; exact hi
        subst this
        simp [rowsF, pathF, climb, rootR]
    · have hne : rowsF f (upS r) ≠ [] := fun h => by
        have := rowsF_head f (upS r)
        rw [h] at this
        cases this
      have e : rowsF (f + 1) r = r :: rowsF f (upS r) := by simp only [rowsF]; rw [if_neg h1]
      have hq8 : i / 8 * 8 ≤ i := Nat.div_mul_le_self _ _
      have hu : i / 8 < (upS r).length := by rw [upS_len]; omega
      have hg32 : ∀ s ∈ grp r i, s.size = 32 := fun s hs => h32 s (List.mem_of_mem_drop (List.mem_of_mem_take hs))
      have hgl := grp_len r i
      have hj : i - i / 8 * 8 < (grp r i).length := by rw [hgl]; omega
      have hgi : (grp r i)[i - i / 8 * 8] = r[i] := by
        have : (grp r i)[i - i / 8 * 8]? = r[i]? := by
          unfold grp
          rw [List.getElem?_take, if_pos (by omega), List.getElem?_drop]
          congr 1
          omega
        rw [List.getElem?_eq_getElem hj, List.getElem?_eq_getElem hi] at this
        exact Option.some.inj this
      have hfit : fits r.length i r[i] (catS (grp r i)) := by
        refine ⟨by omega, by rw [catS_32 _ hg32, hgl], ?_⟩
        rw [catS_part (grp r i) _ hj hg32, hgi]
      have hup : (upS r)[i / 8] = shaS (nodeP (catS (grp r i))) := by
        rw [nodeP_cat]
        have : (upS r)[i / 8]? = some (nodeS (grp r i)) := by
          unfold upS upN
          rw [List.getElem?_map, List.getElem?_range (by rw [upS_len] at hu; exact hu)]
          unfold grp
          rw [Nat.mul_comm]
          rfl
        rw [List.getElem?_eq_getElem hu] at this
        exact Option.some.inj this
      obtain ⟨i1, i2⟩ := climb_path f (upS r) (i / 8) hu (by rw [upS_len]; omega) (upS_32 r)
      rw [e, List.dropLast_cons_of_ne_nil hne, pathF, climb_yes hfit]
      rw [hup, upS_len] at i1 i2
      refine ⟨i1, ?_⟩
      simp only
      rw [i2]
      unfold rootR
      rw [List.getLastD_cons]
      cases hz : rowsF f (upS r) with
      | nil => exact absurd hz hne
      | cons a b => simp [List.getLastD]
theorem ver_path (tags : List ByteArray) (i : Nat) (hi : i < tags.length) (hl : tags.length ≤ 16384) : (climb (pathS tags i) tags.length i (leafS i tags[i])).2.2 = true ∧ (climb (pathS tags i) tags.length i (leafS i tags[i])).2.1 = rootS tags := by
  have h := climb_path tags.length (leafs tags) i (by rw [leafs_len]; exact hi) (by rw [leafs_len]; omega) (leafs_32 tags)
  have e : (leafs tags)[i]'(by rw [leafs_len]; exact hi) = leafS i tags[i] := by simp [leafs]
  rw [e, leafs_len] at h
  exact h
theorem diffR_refl : ∀ a : List ByteArray, diffR a a = (⟨#[]⟩, ⟨#[]⟩, false)
  | [] => rfl
  | x :: xs => by rw [diffR, if_pos rfl, diffR_refl xs]
theorem diffR_no : ∀ {a b : List ByteArray}, a.length = b.length → (diffR a b).2.2 = false → a = b
  | [], [], _, _ => rfl
  | x :: xs, y :: ys, hl, h => by
    rw [diffR] at h
    split at h
    · rename_i e
      rw [e, diffR_no (by simpa using hl) h]
    · cases h
theorem diffR_app : ∀ {a b : List ByteArray} (x y : ByteArray), a.length = b.length → diffR (a ++ [x]) (b ++ [y]) = if (diffR a b).2.2 = true then diffR a b else diffR [x] [y]
  | [], [], x, y, _ => by simp [diffR]
  | s :: a, t :: b, x, y, h => by
    rw [List.cons_append, List.cons_append, diffR, diffR]
    by_cases e : s = t
    · rw [if_pos e, if_pos e]
      exact diffR_app x y (by simpa using h)
    · rw [if_neg e, if_neg e]
      simp
/-- Two paths to one root: the first texts from the root down that differ have one digest; if none differ, the lowest are the same. -/
theorem clash_law : ∀ (l l' : List ByteArray) (n i : Nat) (T T' : ByteArray), (climb l n i (shaS T)).2.2 = true → (climb l' n i (shaS T')).2.2 = true → (climb l n i (shaS T)).2.1 = (climb l' n i (shaS T')).2.1 →
    ((diffR (T :: (climb l n i (shaS T)).1).reverse (T' :: (climb l' n i (shaS T')).1).reverse).2.2 = true →
      (diffR (T :: (climb l n i (shaS T)).1).reverse (T' :: (climb l' n i (shaS T')).1).reverse).1 ≠ (diffR (T :: (climb l n i (shaS T)).1).reverse (T' :: (climb l' n i (shaS T')).1).reverse).2.1 ∧
      shaS (diffR (T :: (climb l n i (shaS T)).1).reverse (T' :: (climb l' n i (shaS T')).1).reverse).1 = shaS (diffR (T :: (climb l n i (shaS T)).1).reverse (T' :: (climb l' n i (shaS T')).1).reverse).2.1) ∧
    ((diffR (T :: (climb l n i (shaS T)).1).reverse (T' :: (climb l' n i (shaS T')).1).reverse).2.2 = false → T = T') := by
  have one : ∀ (T T' : ByteArray), shaS T = shaS T' → ((diffR [T] [T']).2.2 = true → (diffR [T] [T']).1 ≠ (diffR [T] [T']).2.1 ∧ shaS (diffR [T] [T']).1 = shaS (diffR [T] [T']).2.1) ∧ ((diffR [T] [T']).2.2 = false → T = T') := by
    intro T T' h
    by_cases e : T = T'
    · subst e
      rw [diffR_refl]
      exact ⟨fun h => (by cases h), fun _ => rfl⟩
    · have : diffR [T] [T'] = (T, T', true) := by rw [diffR, if_neg e]
      rw [this]
      exact ⟨fun _ => ⟨e, h⟩, fun h => by cases h⟩
  intro l
  induction l with
  | nil =>
    intro l' n i T T' h h' hr
    have := climb_same [] l' n i i _ _ h h'
    obtain rfl : l' = [] := List.eq_nil_of_length_eq_zero this.symm
    exact one T T' hr
  | cons p ps ih =>
    intro l' n i T T' h h' hr
    have hlen := climb_same (p :: ps) l' n i i _ _ h h'
    obtain ⟨p', ps', rfl⟩ : ∃ p' ps', l' = p' :: ps' := by
      cases l' with
      | nil => simp at hlen
      | cons a b => exact ⟨a, b, rfl⟩
    by_cases hf : fits n i (shaS T) p
    · by_cases hf' : fits n i (shaS T') p'
      · rw [climb_yes hf] at h hr ⊢
        rw [climb_yes hf'] at h' hr ⊢
        simp only at h h' hr ⊢
        obtain ⟨i1, i2⟩ := ih ps' _ _ (nodeP p) (nodeP p') h h' hr
        have hll : ((nodeP p :: (climb ps ((n + 7) / 8) (i / 8) (shaS (nodeP p))).1).reverse).length = ((nodeP p' :: (climb ps' ((n + 7) / 8) (i / 8) (shaS (nodeP p'))).1).reverse).length := by
          rw [List.length_reverse, List.length_reverse, List.length_cons, List.length_cons, climb_len _ _ _ _ h, climb_len _ _ _ _ h', climb_same ps ps' _ _ _ _ _ h h']
        obtain ⟨A, hA⟩ : ∃ A, nodeP p :: (climb ps ((n + 7) / 8) (i / 8) (shaS (nodeP p))).1 = A := ⟨_, rfl⟩
        obtain ⟨A', hA'⟩ : ∃ A', nodeP p' :: (climb ps' ((n + 7) / 8) (i / 8) (shaS (nodeP p'))).1 = A' := ⟨_, rfl⟩
        rw [hA, hA'] at hll i1 i2 ⊢
        rw [List.reverse_cons, List.reverse_cons, diffR_app T T' hll]
        cases hb : (diffR A.reverse A'.reverse).2.2 with
        | true =>
          simp only [if_true]
          exact ⟨fun _ => i1 hb, fun h => by rw [hb] at h; cases h⟩
        | false =>
          rw [if_neg (by simp)]
          have e := nodeP_inj (i2 hb)
          have hs : shaS T = shaS T' := by rw [← hf.2.2, ← hf'.2.2, e]
          exact one T T' hs
      · rw [climb_no hf'] at h'
        cases h'
    · rw [climb_no hf] at h
      cases h
/-- The texts of a climb are those of its parts. -/
theorem climb_mem : ∀ (l : List ByteArray) (n i : Nat) (rt : ByteArray) (t : ByteArray), t ∈ (climb l n i rt).1 → ∃ p ∈ l, t = nodeP p
  | [], n, i, rt, t, h => by simp [climb] at h
  | p :: ps, n, i, rt, t, h => by
    by_cases hf : fits n i rt p
    · rw [climb_yes hf] at h
      rcases List.mem_cons.1 h with rfl | h
      · exact ⟨p, List.mem_cons_self, rfl⟩
      · obtain ⟨q, hq, e⟩ := climb_mem ps _ _ _ t h
        exact ⟨q, List.mem_cons_of_mem _ hq, e⟩
    · rw [climb_no hf] at h
      simp at h
theorem diffR_mem : ∀ {a b : List ByteArray}, (diffR a b).2.2 = true → (diffR a b).1 ∈ a ∧ (diffR a b).2.1 ∈ b
  | x :: xs, y :: ys, h => by
    rw [diffR] at h ⊢
    split at h
    · rename_i e
      rw [if_pos e]
      obtain ⟨h1, h2⟩ := diffR_mem h
      exact ⟨List.mem_cons_of_mem _ h1, List.mem_cons_of_mem _ h2⟩
    · rename_i e
      rw [if_neg e]
      exact ⟨List.mem_cons_self, List.mem_cons_self⟩
  | [], _, h => by simp [diffR] at h
  | _ :: _, [], h => by simp [diffR] at h
theorem nodeP_size (p : ByteArray) : (nodeP p).size = 1 + p.size := by
  unfold nodeP
  rw [catS_size]
  have : (ByteArray.mk #[110]).size = 1 := rfl
  simp [this]
/-- What clashes are two unlike texts of one digest, and small ones. -/
theorem clashS_law (n i : Int) (tag other : ByteArray) (path way : List ByteArray) (h : (clashS n i tag other path way).2.2 = true) (M : Nat) (h1 : tag.size ≤ M) (h2 : other.size ≤ M) (h3 : ∀ s ∈ path, s.size ≤ M) (h4 : ∀ s ∈ way, s.size ≤ M) :
    (clashS n i tag other path way).1 ≠ (clashS n i tag other path way).2.1 ∧ shaS (clashS n i tag other path way).1 = shaS (clashS n i tag other path way).2.1 ∧ (clashS n i tag other path way).1.size ≤ M + 9 ∧ (clashS n i tag other path way).2.1.size ≤ M + 9 := by
  unfold clashS at h ⊢
  split at h
  · rename_i hc
    rw [if_pos hc]
    obtain ⟨c1, c2, c3, c4, c5⟩ := hc
    obtain ⟨e1, e2⟩ := (clash_law path way n.toNat i.toNat (leafT i.toNat tag) (leafT i.toNat other) c3 c4 c5).1 h
    obtain ⟨m1, m2⟩ := diffR_mem h
    refine ⟨e1, e2, ?_, ?_⟩
    · rcases List.mem_cons.1 (List.mem_reverse.1 m1) with e | e
      · rw [e, leafT_size]; omega
      · obtain ⟨p, hp, e'⟩ := climb_mem _ _ _ _ _ e
        rw [e', nodeP_size]
        have := h3 p hp
        omega
    · rcases List.mem_cons.1 (List.mem_reverse.1 m2) with e | e
      · rw [e, leafT_size]; omega
      · obtain ⟨p, hp, e'⟩ := climb_mem _ _ _ _ _ e
        rw [e', nodeP_size]
        have := h4 p hp
        omega
  · cases h
/-- Two unlike tags and two paths to one root: something clashes. -/
theorem clashS_yes (n i : Int) (tag other root : ByteArray) (path way : List ByteArray) (hne : tag ≠ other) (h1 : verS root n i tag path = true) (h2 : verS root n i other way = true) : (clashS n i tag other path way).2.2 = true := by
  unfold verS at h1 h2
  split at h1
  · rename_i hok
    rw [if_pos hok] at h2
    rw [Bool.and_eq_true] at h1 h2
    have r1 := of_decide_eq_true h1.2
    have r2 := of_decide_eq_true h2.2
    unfold clashS
    rw [if_pos ⟨hok, hne, h1.1, h2.1, r1.trans r2.symm⟩]
    cases hb : (diffR (leafT i.toNat tag :: (climb path n.toNat i.toNat (leafS i.toNat tag)).1).reverse (leafT i.toNat other :: (climb way n.toNat i.toNat (leafS i.toNat other)).1).reverse).2.2 with
    | true => rfl
    | false =>
      have := (clash_law path way n.toNat i.toNat (leafT i.toNat tag) (leafT i.toNat other) h1.1 h2.1 (r1.trans r2.symm)).2 hb
      exact absurd (leafT_inj this) hne
  · cases h1
/-- No clash where the other path does not lead to the root. -/
theorem clashS_no (n i : Int) (tag other root : ByteArray) (path way : List ByteArray) (h1 : verS root n i tag path = true) (h2 : verS root n i other way = false) : (clashS n i tag other path way).2.2 = false := by
  unfold verS at h1 h2
  split at h1
  · rename_i hok
    rw [if_pos hok] at h2
    rw [Bool.and_eq_true] at h1
    have r1 := of_decide_eq_true h1.2
    unfold clashS
    rw [if_neg]
    rintro ⟨_, _, _, c4, c5⟩
    rw [c4, ← c5, r1] at h2
    simp at h2
  · cases h1
theorem clashS_same (n i : Int) (tag : ByteArray) (path way : List ByteArray) : clashS n i tag tag path way = (⟨#[]⟩, ⟨#[]⟩, false) := by
  unfold clashS
  rw [if_neg]
  rintro ⟨_, h, _⟩
  exact h rfl
theorem verS_path (tags : List ByteArray) (i : Nat) (hi : i < tags.length) (hl : tags.length ≤ 16384) : verS (rootS tags) tags.length i tags[i] (pathS tags i) = true := by
  obtain ⟨h1, h2⟩ := ver_path tags i hi hl
  unfold verS
  rw [if_pos (by unfold okNI; omega)]
  simp [h1, h2]
end Go.Proofs.Ythfjjencnfebmaa.mer
