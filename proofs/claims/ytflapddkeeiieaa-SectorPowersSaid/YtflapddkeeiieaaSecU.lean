/- Layer 6, the pair of disks: the program's disk as told by the document's; each operation keeps them alike. -/
import Derived.Test.YtflapddkeeiieaaRefA
import Derived.Test.YtflapddkeeiieaaSecE
namespace Go.Proofs.Ytflapddkeeiieaa
open Go Go.Xr Go.RowKit
set_option linter.unusedVariables false
set_option linter.unusedSimpArgs false
theorem beqS (a b : ByteArray) : (a.toList == b.toList) = decide (a = b) := by
  rw [Bool.eq_iff_iff]
  simp only [beq_iff_eq, decide_eq_true_eq, ByteArray.toList_eq]
  constructor
  · intro h
    apply ByteArray.ext
    apply Array.ext'
    exact h
  · intro h
    rw [h]
def nowL (X : XD) : List (List UInt8) := X.Kept.mapIdx fun i k => (nowX X.L i k).data.toList
/-- The program's disk, of the document's. -/
def dOf (X : XD) : SD := ⟨X.Kept.map (·.data.toList), nowL X, X.L.map fun p => (p.1, p.2.data.toList), X.Trace, X.Dead⟩
structure XGood (X : XD) : Prop where
  pos : 0 < X.Kept.length
  le : X.Kept.length ≤ 16384
  k512 : ∀ s ∈ X.Kept, s.size = 512
  l512 : ∀ p ∈ X.L, p.2.size = 512 ∧ p.1 < X.Kept.length
theorem nowL_len (X : XD) : (nowL X).length = X.Kept.length := by simp [nowL]
theorem nowL_get (X : XD) (i : Nat) (h : i < X.Kept.length) : (nowL X)[i]'(by rw [nowL_len]; exact h) = (nowX X.L i X.Kept[i]).data.toList := by simp [nowL]
theorem dOf_write (X : XD) (q : Nat) (s : ByteArray) (hq : q < X.Kept.length) :
    dOf { X with L := X.L ++ [(q, s)], Trace := X.Trace ++ [(q : Int)] } = { dOf X with now := (dOf X).now.set q s.data.toList, loose := (dOf X).loose ++ [(q, s.data.toList)], trace := (dOf X).trace ++ [(q : Int)] } := by
  simp only [dOf, SD.mk.injEq, true_and, List.map_append, List.map_cons, List.map_nil, and_true]
  apply List.ext_getElem (by simp [nowL])
  intro j h1 h2
  have hj : j < X.Kept.length := by simpa [nowL] using h1
  have e0 := nowL_get { X with L := X.L ++ [(q, s)], Trace := X.Trace ++ [(q : Int)] } j hj
  rw [e0, List.getElem_set, nowX_snoc]
  by_cases e : q = j
  · simp [e]
  · simp only [e, if_false]
    rw [nowL_get X j hj]
theorem set_set_get (K : List ByteArray) (a i : Nat) (s : ByteArray) (h : i < K.length) : (K.set a s)[i]'(by simpa using h) = if a = i then s else K[i] := List.getElem_set _
theorem setX_get : ∀ (l : List (Nat × ByteArray)) (K : List ByteArray) (i : Nat) (h : i < K.length) (h' : i < (l.foldl (fun K p => K.set p.1 p.2) K).length), (l.foldl (fun K p => K.set p.1 p.2) K)[i] = nowX l i K[i]
  | [], K, i, h, _ => rfl
  | p :: l, K, i, h, h' => by
    have e := setX_get l (K.set p.1 p.2) i (by simpa using h) h'
    show (l.foldl (fun K p => K.set p.1 p.2) (K.set p.1 p.2))[i] = _
    rw [e, set_set_get K p.1 i p.2 h]
    rfl
theorem setF_len : ∀ (l : List (Nat × ByteArray)) (K : List ByteArray), (l.foldl (fun K p => K.set p.1 p.2) K).length = K.length
  | [], K => rfl
  | p :: l, K => by
    rw [List.foldl_cons, setF_len l]
    simp
theorem setF_now (X : XD) : (X.L.foldl (fun K p => K.set p.1 p.2) X.Kept).map (·.data.toList) = nowL X := by
  apply List.ext_getElem (by rw [List.length_map, setF_len, nowL_len])
  intro j h1 h2
  have hj : j < X.Kept.length := by rw [nowL_len] at h2; exact h2
  rw [List.getElem_map, setX_get X.L X.Kept j hj, nowL_get X j hj]
theorem nowL_nil (K : List ByteArray) (T : List Int) (b : Bool) : nowL ⟨K, [], T, b⟩ = K.map (·.data.toList) := by
  apply List.ext_getElem (by simp [nowL])
  intro j h1 h2
  simp [nowL, nowX]
theorem dOf_flush (X : XD) : dOf { X with Kept := X.L.foldl (fun K p => K.set p.1 p.2) X.Kept, L := [], Trace := X.Trace ++ [-1] } = flushed (dOf X) := by
  simp only [dOf, flushed, nowL_nil, setF_now, List.map_nil]
/-- What a crash keeps. -/
theorem crashK_set : ∀ (L : List (Nat × ByteArray)) (ks : List Bool) (K : List ByteArray) (m : Nat), m = min ks.length L.length → ∀ (keep : List (Nat × ByteArray) → List Bool → List (Nat × ByteArray)), (∀ k, keep [] k = []) → (∀ p l k, keep (p :: l) k = if k.headD false then p :: keep l k.tail else keep l k.tail) →
    crashK (K.map (·.data.toList)) ((L.map fun p => (p.1, p.2.data.toList)).take m) (ks.take m) = ((keep L ks).foldl (fun K p => K.set p.1 p.2) K).map (·.data.toList)
  | [], ks, K, m, hm, keep, h0, h1 => by
    rw [h0]
    simp at hm
    subst hm
    simp [crashK]
  | p :: l, [], K, m, hm, keep, h0, h1 => by
    simp at hm
    subst hm
    have e : ∀ l : List (Nat × ByteArray), keep l [] = [] := by
      intro l
      induction l with
      | nil => exact h0 _
      | cons a l ih => rw [h1]; simpa using ih
    rw [e]
    simp [crashK]
  | p :: l, k :: ks, K, m, hm, keep, h0, h1 => by
    have hm' : m = min ks.length l.length + 1 := by simp only [List.length_cons] at hm; omega
    subst hm'
    rw [h1]
    simp only [List.map_cons, List.take_succ_cons, crashK, List.headD_cons, List.tail_cons]
    cases k with
    | false =>
      simp only [Bool.false_eq_true, if_false]
      exact crashK_set l ks K _ rfl keep h0 h1
    | true =>
      simp only [if_true, List.foldl_cons]
      have := crashK_set l ks (K.set p.1 p.2) _ rfl keep h0 h1
      rw [List.map_set] at this
      exact this
theorem XGood.write {X : XD} (h : XGood X) (q : Nat) (s : ByteArray) (hq : q < X.Kept.length) (hs : s.size = 512) (T : List Int) : XGood { X with L := X.L ++ [(q, s)], Trace := T } := by
  refine ⟨h.pos, h.le, h.k512, fun p hp => ?_⟩
  rcases List.mem_append.1 hp with h1 | h1
  · exact h.l512 p h1
  · obtain rfl := List.mem_singleton.1 h1
    exact ⟨hs, hq⟩
theorem setF_512 : ∀ (l : List (Nat × ByteArray)) (K : List ByteArray), (∀ s ∈ K, s.size = 512) → (∀ p ∈ l, p.2.size = 512) → ∀ s ∈ l.foldl (fun K p => K.set p.1 p.2) K, s.size = 512
  | [], K, h, _ => h
  | p :: l, K, h, hl => by
    refine setF_512 l _ (fun s hs => ?_) (fun q hq => hl q (List.mem_cons_of_mem _ hq))
    rcases List.mem_or_eq_of_mem_set hs with h1 | h1
    · exact h s h1
    · rw [h1]; exact hl p (by simp)
theorem XGood.sets {X : XD} (h : XGood X) (l : List (Nat × ByteArray)) (hl : ∀ p ∈ l, p.2.size = 512) (T : List Int) (b : Bool) : XGood ⟨l.foldl (fun K p => K.set p.1 p.2) X.Kept, [], T, b⟩ :=
  ⟨by rw [setF_len]; exact h.pos, by rw [setF_len]; exact h.le, setF_512 l _ h.k512 hl, fun p hp => by cases hp⟩
theorem XGood.tamper {X : XD} (h : XGood X) (q : Nat) (s : ByteArray) (hs : s.size = 512) : XGood { X with Kept := X.Kept.set q s } :=
  ⟨by simpa using h.pos, by simpa using h.le, fun t ht => by
    rcases List.mem_or_eq_of_mem_set ht with h1 | h1
    · exact h.k512 t h1
    · rw [h1]; exact hs, fun p hp => by simpa using h.l512 p hp⟩
theorem dOf_tamper (X : XD) (hL : X.L = []) (q : Nat) (s : ByteArray) : dOf { X with Kept := X.Kept.set q s } = { dOf X with kept := (dOf X).kept.set q s.data.toList, now := (dOf X).now.set q s.data.toList } := by
  obtain ⟨K, L, T, b⟩ := X
  obtain rfl : L = [] := hL
  simp only [dOf, nowL_nil, List.map_set]
theorem XGood.good {X : XD} (h : XGood X) : Good (dOf X) := by
  have hn : ∀ (i : Nat) (k : ByteArray) (l : List (Nat × ByteArray)), k.size = 512 → (∀ p ∈ l, p.2.size = 512) → (nowX l i k).size = 512 := by
    intro i k l
    induction l generalizing k with
    | nil => intro h _; exact h
    | cons p l ih =>
      intro hk hl
      refine ih (if p.1 = i then p.2 else k) ?_ (fun q hq => hl q (List.mem_cons_of_mem _ hq))
      split
      · exact hl p (by simp)
      · exact hk
  refine ⟨by simp [dOf, nowL_len], by simpa [dOf] using h.pos, by simpa [dOf] using h.le, fun s hs => ?_, fun s hs => ?_, fun p hp => ?_⟩
  · simp only [dOf, List.mem_map] at hs
    obtain ⟨k, hk, rfl⟩ := hs
    exact h.k512 k hk
  · obtain ⟨i, hi, rfl⟩ := List.getElem_of_mem hs
    have hi' : i < X.Kept.length := by have := nowL_len X; simp only [dOf] at hi; omega
    have e : (dOf X).now[i] = (nowX X.L i X.Kept[i]).data.toList := nowL_get X i hi'
    rw [e]
    exact hn i _ _ (h.k512 _ (List.getElem_mem hi')) (fun p hp => (h.l512 p hp).1)
  · simp only [dOf, List.mem_map] at hp
    obtain ⟨k, hk, rfl⟩ := hp
    obtain ⟨h1, h2⟩ := h.l512 k hk
    exact ⟨h1, by simpa [dOf] using h2⟩
end Go.Proofs.Ytflapddkeeiieaa
