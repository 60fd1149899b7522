/- Layer 6: both disks side by side: what is held, and that their errors are one. -/
import Derived.Test.YtflapddkeeiieaaSecV
import Derived.Test.YtflapddkeeiieaaRefG
namespace Go.Proofs.Ytflapddkeeiieaa
open Go Go.Xr Go.RowKit
set_option linter.unusedVariables false
set_option linter.unusedSimpArgs false
/-- A power with so much left, in a block; or none. -/
def mk (b : Nat) (lf : Option Nat) : Option (Nat × Nat) := lf.map fun l => (b, l)
theorem mk_dec (b : Nat) (lf : Option Nat) : pwDec (mk b lf) = mk b (lf.map (· - 1)) := by cases lf <;> rfl
theorem offB_mk (b c : Nat) (lf : Option Nat) : offB (mk b lf) = offB (mk c lf) := by
  match lf with
  | none => rfl
  | some 0 => rfl
  | some (l + 1) => rfl
theorem mayN_mk (X : XD) (b c : Nat) (lf : Option Nat) (i : Int) (s : ByteArray) (t : Bool) : mayN X (mk b lf) i s t = mayN X (mk c lf) i s t := by
  unfold mayN
  rw [offB_mk b c]
theorem ableN_mk (X : XD) (b c : Nat) (lf : Option Nat) : ableN (dOf X) (mk b lf) = if xdead X (mk c lf) then 60 else 0 := by
  unfold ableN xdead
  have e : (dOf X).dead = X.Dead := rfl
  rw [e]
  cases X.Dead with
  | true => rfl
  | false =>
    match lf with
    | none => rfl
    | some 0 => rfl
    | some (l + 1) => rfl
theorem outB_dOf (X : XD) (i : Int) : outB (dOf X) i = (decide (i < 0) || decide ((X.Kept.length : Int) ≤ i)) := by
  unfold outB
  simp [dOf]
theorem atN_mk (X : XD) (b c : Nat) (lf : Option Nat) (i : Int) (s : ByteArray) : atN (dOf X) (mk b lf) i (some s) = mayN X (mk c lf) i s true := by
  unfold atN mayN
  rw [ableN_mk X b c, outB_dOf]
  unfold xdead badT
  cases X.Dead || offB (mk c lf) <;> simp
theorem atN_mk0 (X : XD) (b c : Nat) (lf : Option Nat) (i : Int) (s : ByteArray) : atN (dOf X) (mk b lf) i none = mayN X (mk c lf) i s false := by
  unfold atN mayN
  rw [ableN_mk X b c, outB_dOf]
  unfold xdead badT
  cases X.Dead || offB (mk c lf) <;> simp
theorem tamC_mk (X : XD) (b c : Nat) (lf : Option Nat) (i : Int) (s : ByteArray) : tamC (dOf X) (mk b lf) i s = tamN X (mk c lf) i s := by
  unfold tamC tamN
  rw [ableN_mk X b c, atN_mk X b c]
  have e : (dOf X).loose.length = X.L.length := by simp [dOf]
  rw [e]
  cases xdead X (mk c lf) <;> simp
theorem mayN_cases (X : XD) (p : Option (Nat × Nat)) (i : Int) (s : ByteArray) (t : Bool) : mayN X p i s t = 0 ∨ mayN X p i s t = 60 ∨ mayN X p i s t = 2 := by
  unfold mayN
  split
  · exact .inr (.inl rfl)
  · split
    · exact .inr (.inr rfl)
    · exact .inl rfl
theorem mayN_ok {X : XD} {p : Option (Nat × Nat)} {i : Int} {s : ByteArray} {t : Bool} (h : mayN X p i s t = 0) : xdead X p = false ∧ (∃ q : Nat, i = (q : Int) ∧ q < X.Kept.length) ∧ (t = true → s.size = 512) := by
  unfold mayN at h
  unfold xdead
  cases hd : (X.Dead || offB p) with
  | true => rw [hd] at h; simp at h
  | false =>
    rw [hd] at h
    simp only [Bool.false_eq_true, if_false] at h
    split at h
    · simp at h
    · rename_i hn
      simp only [Bool.or_eq_true, not_or, decide_eq_true_eq, Bool.and_eq_true, Bool.not_eq_true', decide_eq_false_iff_not] at hn
      refine ⟨rfl, ⟨i.toNat, by omega, by omega⟩, fun ht => ?_⟩
      have := hn.2
      simpa [ht] using this

/-- Both disks, each with its power. -/
def pr (d : Nat) (D : SD) (pc : Option (Nat × Nat)) (F : List Nat) (x : Nat) (X : XD) (px : Option (Nat × Nat)) (i : XI) : List Res := [Res.pow pc, Res.disk d D pc F] ++ (Res.pow px :: xps x X px i)
section
variable {w0 w w' : World} {rs l : List Res} {d x : Nat} {D D' : SD} {pc pc' px px' : Option (Nat × Nat)} {F F' : List Nat} {X X' : XD} {i i' : XI}
theorem Held.prC (h : Held w (l ++ pr d D pc F x X px i)) : Held w [Res.pow pc, Res.disk d D pc F] := Held.part l (Res.pow px :: xps x X px i) (by rw [List.append_assoc]; exact h)
theorem Held.prX (h : Held w (l ++ pr d D pc F x X px i)) : Held w (Res.pow px :: xps x X px i) := Held.part (l ++ [Res.pow pc, Res.disk d D pc F]) [] (by rw [List.append_nil, List.append_assoc]; exact h)
theorem Held.xpsOf (h : Held w (Res.pow px :: xps x X px i)) : Held w (xps x X px i) := Held.part [Res.pow px] [] (by rw [List.append_nil]; exact h)
theorem Ev.prC (e : Ev w0 rs w (l ++ pr d D pc F x X px i)) (ev : Ev w [Res.pow pc, Res.disk d D pc F] w' [Res.pow pc', Res.disk d D' pc' F']) : Ev w0 rs w' (l ++ pr d D' pc' F' x X px i) := by
  have := Ev.then l (Res.pow px :: xps x X px i) (by rw [List.append_assoc]; exact e) ev
  rw [List.append_assoc] at this
  exact this
theorem Ev.prX (e : Ev w0 rs w (l ++ pr d D pc F x X px i)) (ev : Ev w (Res.pow px :: xps x X px i) w' (Res.pow px' :: xps x X' px' i')) : Ev w0 rs w' (l ++ pr d D pc F x X' px' i') := by
  have := Ev.then (l ++ [Res.pow pc, Res.disk d D pc F]) [] (by rw [List.append_nil, List.append_assoc]; exact e) ev
  rw [List.append_nil, List.append_assoc] at this
  exact this
theorem Ev.prX1 (e : Ev w0 rs w (l ++ pr d D pc F x X px i)) (ev : Ev w (xps x X px i) w' (xps x X' px i')) : Ev w0 rs w' (l ++ pr d D pc F x X' px i') := by
  refine Ev.prX e ?_
  have := Ev.part [Res.pow px] [] (by rw [List.append_nil]; exact Held.prX e.held) ev
  rw [List.append_nil] at this
  exact this
theorem Held.powOk (h : Held w [Res.pow pc, Res.disk d D pc F]) : pwOk w pc := h.at 0 rfl
theorem Held.rep (h : Held w [Res.pow pc, Res.disk d D pc F]) : Rep w d D pc F := h.at 1 rfl
theorem Held.powNe (h : Held w [Res.pow pc, Res.disk d D pc F]) : ∀ y ∈ pwF pc, y ∉ F := h.idx_ne (i := 0) (j := 1) (by decide) rfl rfl
/-- The code's disk and its power behind a call. -/
theorem Held.cdisk (h : Held w [Res.pow pc, Res.disk d D pc F]) (hr : Rep w' d D' pc' F') (hp : pwOk w' pc') (hpF : pwF pc' = pwF pc) (f : Fr (F ++ pwF pc) w w') (hF : ∀ y ∈ F', y ∈ F ∨ w.heap.size ≤ y) : Ev w [Res.pow pc, Res.disk d D pc F] w' [Res.pow pc', Res.disk d D' pc' F'] := by
  have hne : ∀ y ∈ pwF pc, y ∉ F ∧ y < w.heap.size := fun y hy => ⟨Held.powNe h y hy, h.lt (Res.pow pc) (by simp) y hy⟩
  have hf : feetOf [Res.pow pc, Res.disk d D pc F] = pwF pc ++ F := by simp [feetOf, Res.pow, Res.disk]
  refine ⟨(Held.one (On.disk hr)).new (On.pow hp) fun b hb r' hr' => ?_, f.mono (fun y hy => .inl ?_), fun b hb => ?_⟩
  · obtain rfl := List.mem_singleton.1 hr'
    intro hb'
    have hb : b ∈ pwF pc := by rw [← hpF]; exact hb
    have hb' : b ∈ F' := hb'
    obtain ⟨h1, h2⟩ := hne b hb
    rcases hF b hb' with h3 | h3
    · exact h1 h3
    · omega
  · rw [hf]
    simp only [List.mem_append] at hy ⊢
    exact hy.symm
  · have hf' : feetOf [Res.pow pc', Res.disk d D' pc' F'] = pwF pc' ++ F' := by simp [feetOf, Res.pow, Res.disk]
    rw [hf', hpF] at hb
    rw [hf]
    simp only [List.mem_append] at hb ⊢
    rcases hb with h1 | h1
    · exact .inl (.inl h1)
    · rcases hF b h1 with h2 | h2
      · exact .inl (.inr h2)
      · exact .inr h2
end
end Go.Proofs.Ytflapddkeeiieaa
