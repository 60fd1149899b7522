/- What is held apart: a list of things in memory, each on blocks of its own. -/
import Derived.Test.YtneoagelcjfanaaGreatDoorGCore
namespace Go.Xr
open Go Go.RowKit

/-- A thing in memory: the blocks on which it stands, and what is so of it. -/
structure Res where
  F : List Nat
  P : World → Prop

/-- What is so of it hangs on its own blocks alone. -/
def Res.Loc (r : Res) : Prop := ∀ w w' : World, (∀ b ∈ r.F, b < w.heap.size → w'.heap[b]? = w.heap[b]?) → r.P w → r.P w'

structure Held (w : World) (rs : List Res) : Prop where
  loc : ∀ r ∈ rs, r.Loc
  so : ∀ r ∈ rs, r.P w
  lt : ∀ r ∈ rs, ∀ b ∈ r.F, b < w.heap.size
  apart : (rs.flatMap (·.F)).Nodup

/-- A thing stands in w: what a step must show of a new one. -/
structure Res.On (r : Res) (w : World) : Prop where
  loc : r.Loc
  so : r.P w
  lt : ∀ b ∈ r.F, b < w.heap.size
  nodup : r.F.Nodup

def Res.blk (b : Nat) (cs : List Value) : Res := ⟨[b], fun w => Blk w b cs⟩
def Res.own (size : Nat) (v : Value) (n : Nat) (xs : List Value) (B : Option Nat) : Res := ⟨B.toList, fun w => Xr.Own w size v n xs B⟩

section
variable {w w' : World} {rs l m : List Res} {r r' : Res}

theorem Res.On.blk {b : Nat} {cs : List Value} (h : Blk w b cs) : (Res.blk b cs).On w :=
  ⟨fun w w' hs h => h.same (hs b (by simp [Res.blk]) h.lt), h, fun b' hb => by simp [Res.blk] at hb; subst hb; exact h.lt, by simp [Res.blk]⟩

theorem own_same {size n : Nat} {v : Value} {xs : List Value} {B : Option Nat} (h : Xr.Own w size v n xs B) (hs : ∀ b ∈ B.toList, b < w.heap.size → w'.heap[b]? = w.heap[b]?) : Xr.Own w' size v n xs B := by
  refine ⟨h.1, ?_⟩
  rcases h.2 with h2 | ⟨b, cap, cs, rfl, h3, h4, h5, h6, h7⟩
  · exact .inl h2
  · exact .inr ⟨b, cap, cs, rfl, h3, h4, h5, h6.same (hs b (by simp) h6.lt), h7⟩

theorem Res.On.own {size n : Nat} {v : Value} {xs : List Value} {B : Option Nat} (h : Xr.Own w size v n xs B) : (Res.own size v n xs B).On w :=
  ⟨fun w w' hs h => own_same h hs, h, fun b hb => by simp [Res.own] at hb; exact h.lt b hb, by cases B <;> simp [Res.own]⟩

theorem Held.nil (w : World) : Held w [] := ⟨by simp, by simp, by simp, by simp⟩

theorem Held.on (h : Held w (l ++ r :: m)) : r.On w :=
  ⟨h.loc r (by simp), h.so r (by simp), h.lt r (by simp), by
    have := h.apart
    rw [List.flatMap_append, List.flatMap_cons, List.nodup_append] at this
    exact (List.nodup_append.1 this.2.1).1⟩

/-- Nothing of them is touched. -/
theorem Held.keep (h : Held w rs) {S : List Nat} (f : Fr S w w') (hS : ∀ r ∈ rs, ∀ b ∈ r.F, b ∉ S) : Held w' rs :=
  ⟨h.loc, fun r hr => h.loc r hr w w' (fun b hb hlt => f.block b hlt (hS r hr b hb)) (h.so r hr), fun r hr b hb => Nat.lt_of_lt_of_le (h.lt r hr b hb) f.size, h.apart⟩

theorem Held.keep0 (h : Held w rs) (f : Fr [] w w') : Held w' rs := h.keep f (fun _ _ _ _ => by simp)

/-- A new one beside. -/
theorem Held.new (h : Held w rs) (hr : r.On w) (hn : ∀ b ∈ r.F, ∀ r' ∈ rs, b ∉ r'.F) : Held w (r :: rs) := by
  refine ⟨fun x hx => ?_, fun x hx => ?_, fun x hx => ?_, ?_⟩
  · rcases List.mem_cons.1 hx with rfl | hx
    · exact hr.loc
    · exact h.loc x hx
  · rcases List.mem_cons.1 hx with rfl | hx
    · exact hr.so
    · exact h.so x hx
  · rcases List.mem_cons.1 hx with rfl | hx
    · exact hr.lt
    · exact h.lt x hx
  · rw [List.flatMap_cons, List.nodup_append]
    refine ⟨hr.nodup, h.apart, fun a ha b hb e => ?_⟩
    obtain ⟨r', hr', hb'⟩ := List.mem_flatMap.1 hb
    exact hn a ha r' hr' (e ▸ hb')

/-- A new one, on blocks that were not there ahead of the step. -/
theorem Held.fresh (h : Held w rs) (f : Fr [] w w') (hr : r.On w') (hn : ∀ b ∈ r.F, w.heap.size ≤ b) : Held w' (r :: rs) :=
  (h.keep0 f).new hr fun b hb r' hr' hb' => by have := h.lt r' hr' b hb'; have := hn b hb; omega

/-- One of them is written: it may take new blocks, and no other one's. -/
theorem Held.upd (l m : List Res) (h : Held w (l ++ r :: m)) {S : List Nat} (f : Fr S w w') (hS : ∀ b ∈ S, b ∈ r.F ∨ w.heap.size ≤ b) (hr : r'.On w') (hn : ∀ b ∈ r'.F, b ∈ r.F ∨ w.heap.size ≤ b) : Held w' (l ++ r' :: m) := by
  have hap := h.apart
  rw [List.flatMap_append, List.flatMap_cons, List.nodup_append, List.nodup_append] at hap
  obtain ⟨h1, ⟨h2, h3, h4⟩, h5⟩ := hap
  have hoth : ∀ x ∈ l ++ m, ∀ b ∈ x.F, b ∉ r.F ∧ b < w.heap.size := by
    intro x hx b hb
    refine ⟨fun hbr => ?_, h.lt x (by simp at hx ⊢; rcases hx with h | h <;> simp [h]) b hb⟩
    rcases List.mem_append.1 hx with hx | hx
    · exact h5 b (List.mem_flatMap.2 ⟨x, hx, hb⟩) b (List.mem_append_left _ hbr) rfl
    · exact h4 b hbr b (List.mem_flatMap.2 ⟨x, hx, hb⟩) rfl
  have hrest : ∀ x ∈ l ++ m, x.P w' := by
    intro x hx
    refine h.loc x (by simp at hx ⊢; rcases hx with h | h <;> simp [h]) w w' (fun b hb hlt => f.block b hlt (fun hs => ?_)) (h.so x (by simp at hx ⊢; rcases hx with h | h <;> simp [h]))
    obtain ⟨h6, h7⟩ := hoth x hx b hb
    rcases hS b hs with h8 | h8
    · exact h6 h8
    · omega
  have hmem : ∀ x, x ∈ l ++ r' :: m → x = r' ∨ x ∈ l ++ m := by
    intro x hx
    simp at hx ⊢
    rcases hx with h | h | h <;> simp [h]
  refine ⟨fun x hx => ?_, fun x hx => ?_, fun x hx b hb => ?_, ?_⟩
  · rcases hmem x hx with rfl | hx
    · exact hr.loc
    · exact h.loc x (by simp at hx ⊢; rcases hx with h | h <;> simp [h])
  · rcases hmem x hx with rfl | hx
    · exact hr.so
    · exact hrest x hx
  · rcases hmem x hx with rfl | hx
    · exact hr.lt b hb
    · exact Nat.lt_of_lt_of_le (hoth x hx b hb).2 f.size
  · rw [List.flatMap_append, List.flatMap_cons, List.nodup_append, List.nodup_append]
    have hne : ∀ b ∈ r'.F, ∀ x ∈ l ++ m, b ∉ x.F := by
      intro b hb x hx hbx
      obtain ⟨h6, h7⟩ := hoth x hx b hbx
      rcases hn b hb with h8 | h8
      · exact h6 h8
      · omega
    refine ⟨h1, ⟨hr.nodup, h3, fun a ha b hb e => ?_⟩, fun a ha b hb e => ?_⟩
    · obtain ⟨x, hx, hbx⟩ := List.mem_flatMap.1 hb
      exact hne a ha x (List.mem_append_right _ hx) (e ▸ hbx)
    · obtain ⟨x, hx, hax⟩ := List.mem_flatMap.1 ha
      rcases List.mem_append.1 hb with hb | hb
      · exact hne b hb x (List.mem_append_left _ hx) (e ▸ hax)
      · exact h5 a ha b (List.mem_append_right _ hb) e

theorem Held.drop (l m : List Res) (h : Held w (l ++ r :: m)) : Held w (l ++ m) := by
  have hm : ∀ x, x ∈ l ++ m → x ∈ l ++ r :: m := by
    intro x hx
    simp at hx ⊢
    rcases hx with h | h <;> simp [h]
  refine ⟨fun x hx => h.loc x (hm x hx), fun x hx => h.so x (hm x hx), fun x hx => h.lt x (hm x hx), ?_⟩
  have hap := h.apart
  rw [List.flatMap_append, List.flatMap_cons] at hap
  rw [List.flatMap_append]
  exact hap.sublist (List.Sublist.append_left (List.sublist_append_right _ _) _)

theorem Held.perm (h : Held w l) (p : l.Perm m) : Held w m :=
  ⟨fun r hr => h.loc r (p.mem_iff.2 hr), fun r hr => h.so r (p.mem_iff.2 hr), fun r hr => h.lt r (p.mem_iff.2 hr), (p.flatMap_right _).nodup_iff.1 h.apart⟩

/-- All of them. -/
def feetOf (rs : List Res) : List Nat := rs.flatMap (·.F)
theorem Held.ltAll (h : Held w rs) : ∀ b ∈ feetOf rs, b < w.heap.size := by
  intro b hb
  obtain ⟨r, hr, hb⟩ := List.mem_flatMap.1 hb
  exact h.lt r hr b hb
/-- Two of them are apart. -/
theorem Held.ne (h : Held w rs) : rs.Pairwise (fun a b => ∀ x ∈ a.F, x ∉ b.F) := by
  have hap := h.apart
  clear h
  induction rs with
  | nil => exact .nil
  | cons r rs ih =>
    rw [List.flatMap_cons, List.nodup_append] at hap
    exact .cons (fun b hb x hx hxb => hap.2.2 x hx x (List.mem_flatMap.2 ⟨b, hb, hxb⟩) rfl) (ih hap.2.1)
/-- Many as one. -/
def Res.all (rs : List Res) : Res := ⟨feetOf rs, fun w => ∀ r ∈ rs, r.P w⟩
theorem Held.toOn (h : Held w rs) : (Res.all rs).On w :=
  ⟨fun w w' hs h2 r hr => h.loc r hr w w' (fun b hb => hs b (List.mem_flatMap.2 ⟨r, hr, hb⟩)) (h2 r hr), h.so, h.ltAll, h.apart⟩
theorem Held.one (h : r.On w) : Held w [r] := ⟨by simpa using h.loc, by simpa using h.so, by simpa using h.lt, by simpa using h.nodup⟩

/-- Some of them turn into others, which stand on the same blocks or on new ones. -/
theorem Held.swap (l m : List Res) {ps qs : List Res} (h : Held w (l ++ ps ++ m)) {S : List Nat} (f : Fr S w w') (hS : ∀ b ∈ S, b ∈ feetOf ps ∨ w.heap.size ≤ b) (hq : Held w' qs) (hn : ∀ b ∈ feetOf qs, b ∈ feetOf ps ∨ w.heap.size ≤ b) : Held w' (l ++ qs ++ m) := by
  have hap := h.apart
  rw [List.flatMap_append, List.flatMap_append, List.nodup_append, List.nodup_append] at hap
  obtain ⟨⟨h1, h2, h3⟩, h4, h5⟩ := hap
  have hsub : ∀ x, x ∈ l ++ m → x ∈ l ++ ps ++ m := by
    intro x hx
    simp at hx ⊢
    rcases hx with h | h <;> simp [h]
  have hoth : ∀ x ∈ l ++ m, ∀ b ∈ x.F, b ∉ feetOf ps ∧ b < w.heap.size := by
    intro x hx b hb
    refine ⟨fun hbp => ?_, h.lt x (hsub x hx) b hb⟩
    rcases List.mem_append.1 hx with hx | hx
    · exact h3 b (List.mem_flatMap.2 ⟨x, hx, hb⟩) b hbp rfl
    · exact h5 b (List.mem_append_right _ hbp) b (List.mem_flatMap.2 ⟨x, hx, hb⟩) rfl
  have hrest : ∀ x ∈ l ++ m, x.P w' := by
    intro x hx
    refine h.loc x (hsub x hx) w w' (fun b hb hlt => f.block b hlt (fun hs => ?_)) (h.so x (hsub x hx))
    obtain ⟨h6, h7⟩ := hoth x hx b hb
    rcases hS b hs with h8 | h8
    · exact h6 h8
    · omega
  have hmem : ∀ x, x ∈ l ++ qs ++ m → x ∈ qs ∨ x ∈ l ++ m := by
    intro x hx
    simp at hx ⊢
    rcases hx with h | h | h <;> simp [h]
  have hne : ∀ b ∈ feetOf qs, ∀ x ∈ l ++ m, b ∉ x.F := by
    intro b hb x hx hbx
    obtain ⟨h6, h7⟩ := hoth x hx b hbx
    rcases hn b hb with h8 | h8
    · exact h6 h8
    · omega
  refine ⟨fun x hx => ?_, fun x hx => ?_, fun x hx b hb => ?_, ?_⟩
  · rcases hmem x hx with hx | hx
    · exact hq.loc x hx
    · exact h.loc x (hsub x hx)
  · rcases hmem x hx with hx | hx
    · exact hq.so x hx
    · exact hrest x hx
  · rcases hmem x hx with hx | hx
    · exact hq.lt x hx b hb
    · exact Nat.lt_of_lt_of_le (hoth x hx b hb).2 f.size
  · rw [List.flatMap_append, List.flatMap_append, List.nodup_append, List.nodup_append]
    refine ⟨⟨h1, hq.apart, fun a ha b hb e => ?_⟩, h4, fun a ha b hb e => ?_⟩
    · obtain ⟨x, hx, hax⟩ := List.mem_flatMap.1 ha
      exact hne b hb x (List.mem_append_left _ hx) (e ▸ hax)
    · obtain ⟨x, hx, hbx⟩ := List.mem_flatMap.1 hb
      rcases List.mem_append.1 ha with ha | ha
      · exact h5 a (List.mem_append_left _ ha) b hb e
      · exact hne a ha x (List.mem_append_right _ hx) (e ▸ hbx)
/-- A part of them. -/
theorem Held.part (l m : List Res) {ps : List Res} (h : Held w (l ++ ps ++ m)) : Held w ps := by
  have hap := h.apart
  rw [List.flatMap_append, List.flatMap_append, List.nodup_append, List.nodup_append] at hap
  exact ⟨fun x hx => h.loc x (by simp [hx]), fun x hx => h.so x (by simp [hx]), fun x hx => h.lt x (by simp [hx]), hap.1.2.1⟩
/-- What a step may touch that touches only some of them. -/
theorem Held.frame (_h : Held w rs) {S : List Nat} (f : Fr S w w') (hS : ∀ b ∈ S, b ∈ feetOf rs ∨ w.heap.size ≤ b) : Fr (feetOf rs) w w' := f.mono hS

theorem Held.at (h : Held w rs) (i : Nat) (hi : rs[i]? = some r) : r.P w := h.so r (List.mem_of_getElem? hi)
theorem Held.blkAt (h : Held w rs) (i : Nat) {b : Nat} {cs : List Value} (hi : rs[i]? = some (Res.blk b cs)) : Blk w b cs := h.at i hi
theorem Held.ownAt (h : Held w rs) (i : Nat) {size n : Nat} {v : Value} {xs : List Value} {B : Option Nat} (hi : rs[i]? = some (Res.own size v n xs B)) : Xr.Own w size v n xs B := h.at i hi

theorem Held.idx_ne (h : Held w rs) {i j : Nat} {a b : Res} (hij : i ≠ j) (hi : rs[i]? = some a) (hj : rs[j]? = some b) : ∀ x ∈ a.F, x ∉ b.F := by
  have hp := List.pairwise_iff_getElem.1 h.ne
  obtain ⟨hi1, hi2⟩ := List.getElem?_eq_some_iff.1 hi
  obtain ⟨hj1, hj2⟩ := List.getElem?_eq_some_iff.1 hj
  rcases Nat.lt_or_gt_of_ne hij with h1 | h1
  · have := hp i j hi1 hj1 h1
    rw [hi2, hj2] at this
    exact this
  · have := hp j i hj1 hi1 h1
    rw [hi2, hj2] at this
    exact fun x hx hxb => this x hxb hx

theorem Held.nodup1 (h : Held w rs) {a : Res} (ha : a ∈ rs) : a.F.Nodup := by
  obtain ⟨l, m, rfl⟩ := List.append_of_mem ha
  exact (h.on (l := l) (m := m)).nodup

/-- Some of them, in whatever order: 'is' says which. -/
theorem Held.pick (is : List Nat) {qs : List Res} (h : Held w rs) (hnd : is.Nodup) (hq : is.map (rs[·]?) = qs.map some) : Held w qs := by
  have hmem : ∀ q ∈ qs, q ∈ rs := by
    intro q hqm
    have : some q ∈ is.map (rs[·]?) := by rw [hq]; exact List.mem_map.2 ⟨q, hqm, rfl⟩
    obtain ⟨i, _, hi⟩ := List.mem_map.1 this
    exact List.mem_of_getElem? hi
  refine ⟨fun q hqm => h.loc q (hmem q hqm), fun q hqm => h.so q (hmem q hqm), fun q hqm => h.lt q (hmem q hqm), ?_⟩
  clear hmem
  induction is generalizing qs with
  | nil =>
    cases qs with
    | nil => simp
    | cons => simp at hq
  | cons i is ih =>
    cases qs with
    | nil => simp at hq
    | cons q qs =>
      simp only [List.map_cons, List.cons.injEq] at hq
      obtain ⟨h1, h2⟩ := hq
      obtain ⟨h3, h4⟩ := List.nodup_cons.1 hnd
      rw [List.flatMap_cons, List.nodup_append]
      refine ⟨h.nodup1 (List.mem_of_getElem? h1), ih h4 h2, fun a ha b hb e => ?_⟩
      obtain ⟨q', hq', hb'⟩ := List.mem_flatMap.1 hb
      have : some q' ∈ is.map (rs[·]?) := by rw [h2]; exact List.mem_map.2 ⟨q', hq', rfl⟩
      obtain ⟨j, hj, hj2⟩ := List.mem_map.1 this
      exact h.idx_ne (i := i) (j := j) (fun e2 => h3 (by rw [e2]; exact hj)) h1 hj2 a ha (e ▸ hb')

/-- The one at place i is written. -/
theorem Held.setAt (i : Nat) (h : Held w rs) (hi : rs[i]? = some r) {S : List Nat} (f : Fr S w w') (hS : ∀ b ∈ S, b ∈ r.F ∨ w.heap.size ≤ b) (hr : r'.On w') (hn : ∀ b ∈ r'.F, b ∈ r.F ∨ w.heap.size ≤ b) : Held w' (rs.set i r') := by
  obtain ⟨hlt, he⟩ := List.getElem?_eq_some_iff.1 hi
  have e1 : rs = rs.take i ++ r :: rs.drop (i + 1) := by
    rw [← he, ← List.drop_eq_getElem_cons hlt, List.take_append_drop]
  have e2 : rs.set i r' = rs.take i ++ r' :: rs.drop (i + 1) := List.set_eq_take_append_cons_drop ▸ (by rw [if_pos hlt])
  rw [e1] at h
  rw [e2]
  exact Held.upd _ _ h f hS hr hn
/-- The same, in a list that is told by its places. -/
theorem Held.onAt (h : Held w rs) (i : Nat) (hi : rs[i]? = some r) : r.On w := ⟨h.loc r (List.mem_of_getElem? hi), h.at i hi, h.lt r (List.mem_of_getElem? hi), h.nodup1 (List.mem_of_getElem? hi)⟩
theorem feetOf_set {rs : List Res} {i : Nat} {r' : Res} {b : Nat} (hb : b ∈ feetOf (rs.set i r')) : b ∈ feetOf rs ∨ b ∈ r'.F := by
  obtain ⟨x, hx, hbx⟩ := List.mem_flatMap.1 hb
  rcases List.mem_or_eq_of_mem_set hx with h1 | h1
  · exact .inl (List.mem_flatMap.2 ⟨x, h1, hbx⟩)
  · exact .inr (h1 ▸ hbx)
theorem mem_feetOf {rs : List Res} {i : Nat} {r : Res} (hi : rs[i]? = some r) {b : Nat} (hb : b ∈ r.F) : b ∈ feetOf rs := List.mem_flatMap.2 ⟨r, List.mem_of_getElem? hi, hb⟩
end
end Go.Xr
