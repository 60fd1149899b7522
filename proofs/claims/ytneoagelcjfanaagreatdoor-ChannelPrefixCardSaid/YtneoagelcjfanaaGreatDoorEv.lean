/- What a call does to what is held: the steps put together. -/
import Derived.Test.YtneoagelcjfanaaGreatDoorHeld
namespace Go.Xr
open Go Go.RowKit

/-- What was held as rs is held as rs' behind the step; only blocks of rs and new ones were touched. -/
structure Ev (w : World) (rs : List Res) (w' : World) (rs' : List Res) : Prop where
  held : Held w' rs'
  fr : Fr (feetOf rs) w w'
  low : ∀ b ∈ feetOf rs', b ∈ feetOf rs ∨ w.heap.size ≤ b

section
variable {w w1 w2 w' : World} {rs rs1 rs2 ps qs l m : List Res} {r r' : Res} {S : List Nat}
theorem Ev.refl (h : Held w rs) : Ev w rs w rs := ⟨h, Fr.refl _ _, fun _ hb => .inl hb⟩
theorem Ev.trans (a : Ev w rs w1 rs1) (b : Ev w1 rs1 w2 rs2) : Ev w rs w2 rs2 :=
  ⟨b.held, a.fr.trans b.fr (fun x hx => a.low x hx), fun x hx => by
    rcases b.low x hx with h | h
    · exact a.low x h
    · exact .inr (Nat.le_trans a.fr.size h)⟩
theorem Ev.step (a : Ev w rs w1 rs1) (f : Fr [] w1 w2) : Ev w rs w2 rs1 := ⟨a.held.keep0 f, a.fr.trans f (by simp), a.low⟩
theorem Ev.at (a : Ev w rs w1 rs1) (i : Nat) (hi : rs1[i]? = some r) (f : Fr S w1 w2) (hS : ∀ b ∈ S, b ∈ r.F ∨ w1.heap.size ≤ b) (hr : r'.On w2) (hn : ∀ b ∈ r'.F, b ∈ r.F ∨ w1.heap.size ≤ b) : Ev w rs w2 (rs1.set i r') := by
  have hb : Ev w1 rs1 w2 (rs1.set i r') := by
    refine ⟨Held.setAt i a.held hi f hS hr hn, f.mono (fun x hx => ?_), fun b hb => ?_⟩
    · rcases hS x hx with h | h
      · exact .inl (mem_feetOf hi h)
      · exact .inr h
    · rcases feetOf_set hb with h | h
      · exact .inl h
      · rcases hn b h with h | h
        · exact .inl (mem_feetOf hi h)
        · exact .inr h
  exact a.trans hb
/-- A cell of a block that is held is written. -/
theorem Ev.cell (a : Ev w rs w1 rs1) (i : Nat) {b : Nat} {cs : List Value} (hi : rs1[i]? = some (Res.blk b cs)) (o : Nat) (v : Value) : Ev w rs (w1.setCell ⟨b, o, none⟩ v) (rs1.set i (Res.blk b (cs.set o v))) :=
  a.at i hi (S := [b]) ((Fr.refl [b] w1).setCell (.inl (by simp)) v) (fun x hx => .inl hx) (Res.On.blk ((a.held.blkAt i hi).set o v)) (fun x hx => .inl hx)
theorem Ev.new (a : Ev w rs w1 rs1) (f : Fr [] w1 w2) (hr : r.On w2) (hn : ∀ b ∈ r.F, w1.heap.size ≤ b) : Ev w rs w2 (r :: rs1) :=
  ⟨a.held.fresh f hr hn, a.fr.trans f (by simp), fun b hb => by
    rw [feetOf, List.flatMap_cons, List.mem_append] at hb
    rcases hb with h | h
    · exact .inr (Nat.le_trans a.fr.size (hn b h))
    · exact a.low b h⟩
theorem feetOf_pick {is : List Nat} (hq : is.map (rs[·]?) = qs.map some) : ∀ b ∈ feetOf qs, b ∈ feetOf rs := by
  intro b hb
  obtain ⟨q, hqm, hbq⟩ := List.mem_flatMap.1 hb
  have : some q ∈ is.map (rs[·]?) := by rw [hq]; exact List.mem_map.2 ⟨q, hqm, rfl⟩
  obtain ⟨i, _, hi⟩ := List.mem_map.1 this
  exact mem_feetOf hi hbq
/-- Some of what is held, in another order. -/
theorem Ev.pick (a : Ev w rs w1 rs1) (is : List Nat) (hnd : is.Nodup) (hq : is.map (rs1[·]?) = qs.map some) : Ev w rs w1 qs :=
  ⟨Held.pick is a.held hnd hq, a.fr, fun b hb => a.low b (feetOf_pick hq b hb)⟩
/-- A step of a part of what is held. -/
theorem Ev.part (l m : List Res) (h : Held w (l ++ ps ++ m)) (e : Ev w ps w' qs) : Ev w (l ++ ps ++ m) w' (l ++ qs ++ m) := by
  refine ⟨Held.swap l m h e.fr (fun b hb => .inl hb) e.held e.low, e.fr.mono (fun x hx => .inl ?_), fun b hb => ?_⟩
  · simp only [feetOf, List.flatMap_append, List.mem_append] at hx ⊢
    exact .inl (.inr hx)
  · simp only [feetOf, List.flatMap_append, List.mem_append] at hb ⊢
    rcases hb with (hb | hb) | hb
    · exact .inl (.inl (.inl hb))
    · rcases e.low b hb with h1 | h1
      · exact .inl (.inl (.inr h1))
      · exact .inr h1
    · exact .inl (.inr hb)
theorem Ev.then (l m : List Res) (a : Ev w rs w1 (l ++ ps ++ m)) (e : Ev w1 ps w' qs) : Ev w rs w' (l ++ qs ++ m) := a.trans (Ev.part l m a.held e)
theorem Ev.nil (a : Ev w [] w1 rs1) : Fr [] w w1 := a.fr
theorem Ev.start (w : World) : Ev w [] w [] := Ev.refl (Held.nil w)

/-- Many things as one, of a shape that is known but for some letters. -/
def Res.ex {ι : Type} (F : List Nat) (ps : ι → List Res) : Res := ⟨F, fun w => ∃ i, F = feetOf (ps i) ∧ Held w (ps i)⟩
theorem held_same (h : Held w ps) (hs : ∀ b ∈ feetOf ps, b < w.heap.size → w'.heap[b]? = w.heap[b]?) : Held w' ps := by
  refine ⟨h.loc, fun r hr => h.loc r hr w w' (fun b hb => hs b (List.mem_flatMap.2 ⟨r, hr, hb⟩)) (h.so r hr), fun r hr b hb => ?_, h.apart⟩
  have h1 := h.lt r hr b hb
  have h2 := hs b (List.mem_flatMap.2 ⟨r, hr, hb⟩) h1
  by_cases h3 : b < w'.heap.size
  · exact h3
  · rw [Array.getElem?_eq_none (by omega), Array.getElem?_eq_getElem h1] at h2
    cases h2
theorem ex_loc {ι : Type} {F : List Nat} {ps : ι → List Res} : (Res.ex F ps).Loc := by
  rintro w w' hs ⟨i, hF, h⟩
  exact ⟨i, hF, held_same h (fun b hb => hs b (by rw [← hF] at hb; exact hb))⟩
theorem ex_on {ι : Type} {ps : ι → List Res} {i : ι} (h : Held w (ps i)) : (Res.ex (feetOf (ps i)) ps).On w := ⟨ex_loc, ⟨i, rfl, h⟩, h.ltAll, h.apart⟩
theorem ex_feet {ι : Type} {F : List Nat} {ps : ι → List Res} : feetOf [Res.ex F ps] = F := by simp [feetOf, Res.ex]
/-- It is opened .. -/
theorem Held.open {ι : Type} {F : List Nat} {ps : ι → List Res} (l m : List Res) (h : Held w (l ++ [Res.ex F ps] ++ m)) : ∃ i, F = feetOf (ps i) ∧ Ev w (l ++ [Res.ex F ps] ++ m) w (l ++ ps i ++ m) := by
  obtain ⟨i, hF, hi⟩ := h.so (Res.ex F ps) (by simp)
  refine ⟨i, hF, Ev.part l m h ⟨hi, Fr.refl _ _, fun b hb => .inl ?_⟩⟩
  rw [ex_feet, hF]
  exact hb
/-- .. and shut. -/
theorem Held.shut {ι : Type} {ps : ι → List Res} {i : ι} (l m : List Res) (h : Held w (l ++ ps i ++ m)) : Ev w (l ++ ps i ++ m) w (l ++ [Res.ex (feetOf (ps i)) ps] ++ m) := by
  refine Ev.part l m h ⟨Held.one (ex_on (Held.part l m h)), Fr.refl _ _, fun b hb => .inl ?_⟩
  rw [ex_feet] at hb
  exact hb
end
end Go.Xr
