/- Arguments opened: rows of elements, whatever the element; read by their cells. -/
import Derived.Test.YtjgagcpmoffldaaGreatGCore
import Derived.Deep.Slices
import Derived.Deep.Fields
import Derived.ChangeSame
import Derived.ProofKit
import Derived.SizedLaws
namespace Go.Xr
open Go Go.RowKit Go.ChangeShapes Go.WideShapes Go.Deep

theorem flat_len {α : Type} (cells : α → List Value) (size : Nat) (h : ∀ a, (cells a).length = size) (l : List α) : (l.flatMap cells).length = l.length * size := by
  induction l with
  | nil => simp
  | cons a l ih => rw [List.flatMap_cons, List.length_append, ih, h, List.length_cons, Nat.add_mul]; omega
theorem flat_get {α : Type} (cells : α → List Value) (size : Nat) (h : ∀ a, (cells a).length = size) : ∀ (l : List α) (i j : Nat) (hi : i < l.length), j < size → (l.flatMap cells)[i * size + j]? = (cells l[i])[j]?
  | [], i, j, hi, _ => by simp at hi
  | a :: l, 0, j, _, hj => by
    rw [List.flatMap_cons, Nat.zero_mul, Nat.zero_add, List.getElem?_append_left (by rw [h]; exact hj)]
    rfl
  | a :: l, i + 1, j, hi, hj => by
    have e : (i + 1) * size + j = (cells a).length + (i * size + j) := by rw [h, Nat.add_mul]; omega
    rw [List.flatMap_cons, e, List.getElem?_append_right (Nat.le_add_right _ _), Nat.add_sub_cancel_left]
    exact flat_get cells size h l i j (by simpa using hi) hj

theorem add_plain (b off k : Nat) : (⟨b, off, none⟩ : Addr).add k = ⟨b, off + k, none⟩ := by
  unfold Addr.add
  split <;> simp_all

section
variable {H : Type} {enc : TypeId × Value → H} {P : Program} {w : World} {base : Nat} {spare : Nat → Bool} {held : Bool}

theorem flat_one {α : Type} (f : α → Value) (l : List α) : l.flatMap (fun a => [f a]) = l.map f := by
  induction l with
  | nil => rfl
  | cons a l ih => rw [List.flatMap_cons, ih]; rfl

theorem bt_of {n : Int} (h : (Lit.int .u8 n).wf = true) : Value.int .u8 n = bt (UInt8.ofNat n.toNat) := by
  have h1 : IntKind.u8.min ≤ n ∧ n ≤ IntKind.u8.max := by simpa [Lit.wf] using h
  have h2 : IntKind.u8.min = 0 := by decide
  have h3 : IntKind.u8.max = 255 := by decide
  unfold bt
  rw [UInt8.toNat_ofNat']
  congr 1
  omega
theorem i64_wf {n : Int} (h : (Lit.int .i64 n).wf = true) : -9223372036854775808 ≤ n ∧ n ≤ 9223372036854775807 := by
  have h1 : IntKind.i64.min ≤ n ∧ n ≤ IntKind.i64.max := by simpa [Lit.wf] using h
  have h2 : IntKind.i64.min = -9223372036854775808 := by decide
  have h3 : IntKind.i64.max = 9223372036854775807 := by decide
  omega

def WOk (P : Program) (t : TypeId) (d : DataW H) : Prop := (DataW.weights P t d).all (· ≤ reachBytes) = true
theorem weights_cons {t : TypeId} {ts : List TypeId} {d : DataW H} {r : List (DataW H)} (h : (DataW.weightsEach P (t :: ts) (d :: r)).all (· ≤ reachBytes) = true) : WOk P t d ∧ (DataW.weightsEach P ts r).all (· ≤ reachBytes) = true := by
  rw [DataW.weightsEach, List.all_append, Bool.and_eq_true] at h
  exact h
theorem weightsAll_mem {e : TypeId} : ∀ {l : List (DataW H)}, (DataW.weightsAll P e l).all (· ≤ reachBytes) = true → ∀ d ∈ l, WOk P e d
  | [], _, d, hd => by cases hd
  | a :: l, h, d, hd => by
    rw [DataW.weightsAll, List.all_append, Bool.and_eq_true] at h
    rcases List.mem_cons.1 hd with rfl | hd
    · exact h.1
    · exact weightsAll_mem h.2 d hd
theorem wok_slice {t e : TypeId} (ht : P.underlying t = some (.slice e)) {l r : List (DataW H)} (h : WOk P t (.slice l r)) : (l.length + r.length) * P.bytesOf e ≤ reachBytes ∧ (∀ d ∈ l, WOk P e d) := by
  unfold WOk at h
  simp only [DataW.weights, ht, List.all_cons, List.all_append, Bool.and_eq_true, decide_eq_true_eq] at h
  exact ⟨h.1, weightsAll_mem h.2.1⟩
theorem open_rows_w {α : Type} [Inhabited α] (cells : α → List Value) (Ok : α → Prop) (size : Nat) (hs0 : 0 < size) (hlen : ∀ a, (cells a).length = size) {t e : TypeId} (ht : P.underlying t = some (.slice e)) (hC : P.cellsOf e = size)
    (hdec : ∀ n cs x, DataW.trod enc P w base spare held n e cs = some x → WOk P e x.1 → ∃ a, cs = cells a ∧ Ok a) {fuel : Nat} {cs : List Value} {x : DataW H × List MemPlace} (h : DataW.trod enc P w base spare held fuel t cs = some x) (hw : WOk P t x.1) :
    ∃ (v : Value) (l : List α) (B : Option Nat), cs = [v] ∧ Rc w size v l.length (l.flatMap cells) B ∧ (∀ a ∈ l, Ok a) ∧ l.length * P.bytesOf e ≤ reachBytes ∧ l.length ≤ maxLen := by
  rcases open_slice ht h with ⟨rfl, _⟩ | ⟨a, len, cap, m, n, D, Pl, rfl, hb, hl, hm, hmm, hx, hi⟩
  · exact ⟨_, [], none, rfl, Rc.nil w size, by simp, by simp, by simp⟩
  · have hlm : len ≤ m := by rw [hmm]; split <;> omega
    rw [hx] at hw
    obtain ⟨hw1, hw2⟩ := wok_slice ht hw
    rw [hC] at hi
    obtain ⟨A, hA⟩ := choose_lt (n := len) (p := fun i (a' : α) => w.cells? base (a.add (i * size)) size = some (cells a') ∧ Ok a') (fun i hil => by
      obtain ⟨cs', h1, h2⟩ := hi i (by omega)
      obtain ⟨a', rfl, h3⟩ := hdec _ _ _ h2 (hw2 _ (List.mem_map.2 ⟨i, List.mem_range.2 hil, rfl⟩))
      exact ⟨a', h1, h3⟩)
    have hcell : ∀ i j, i < len → j < size → w.cell? (a.add (i * size + j)) = (cells (A i))[j]? := by
      intro i j hil hj
      obtain ⟨_, _, h2⟩ := World.cells?_some (hA i hil).1
      rw [← Go.Deep.add_add, h2 j hj]
    refine ⟨_, (List.range len).map A, if len = 0 then none else some a.block, rfl, ⟨?_, ?_, some a, cap, by simp, by simpa using hl, hm, fun h0 => ?_⟩, ?_, ?_, by simp; omega⟩
    · rw [flat_len cells size hlen]
    · intro b hbb
      split at hbb
      · cases hbb
      · cases hbb
        have h1 := hcell 0 0 (by omega) hs0
        rw [List.getElem?_eq_getElem (by rw [hlen]; exact hs0)] at h1
        have := World.block_lt_of_cell? _ _ h1
        simpa [Addr.add] using this
    · have hl0 : 0 < len := by simpa using h0
      obtain ⟨ab, off, spot⟩ := a
      have h1 := hcell 0 0 hl0 hs0
      rw [List.getElem?_eq_getElem (by rw [hlen]; exact hs0)] at h1
      have hspot : spot = none := by simpa [Addr.add] using World.cell?_spot h1
      subst hspot
      refine ⟨ab, off, by rw [if_neg (by omega)], rfl, fun j hj => ?_⟩
      rw [flat_len cells size hlen] at hj
      simp only [List.length_map, List.length_range] at hj
      have hq : j / size < len := Nat.div_lt_of_lt_mul (by rw [Nat.mul_comm]; exact hj)
      have hr : j % size < size := Nat.mod_lt _ hs0
      have hj2 : j = j / size * size + j % size := by have := Nat.div_add_mod j size; rw [Nat.mul_comm] at this; omega
      rw [hj2, flat_get cells size hlen _ (j / size) (j % size) (by simpa using hq) hr]
      have h2 := hcell (j / size) (j % size) hq hr
      rw [add_plain] at h2
      rw [h2, List.getElem_map, List.getElem_range]
    · intro a' ha'
      obtain ⟨i, hil, rfl⟩ := List.mem_map.1 ha'
      exact (hA i (by simpa using hil)).2
    · simp only [List.length_map, List.length_range]
      refine Nat.le_trans (Nat.mul_le_mul_right _ ?_) hw1
      simp only [List.length_map, List.length_range]
      omega
end
end Go.Xr
