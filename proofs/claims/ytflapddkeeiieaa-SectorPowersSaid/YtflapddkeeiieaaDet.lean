/- A region that draws its order, walked once, where what only reads comes before whatever writes (each writing operation waits for it), or hangs on no world, or yields the same in every world that meets S. Condition: S holds behind each writing operation (but, if 'last', behind the last one of all). -/
import Derived.Test.YtflapddkeeiieaaReg
import Derived.Test.YtflapddkeeiieaaMem
namespace Go.Xr
open Go
set_option linter.unusedVariables false
section
variable {P : Program} {ops : Array Oper} {Q : Exit → Act → World → Prop} {S : World → Prop} {last : Bool} {qs : List Nat}

/-- It may change the world (qs: those of which the walk shows that they do not; i + 1000 in qs: i does, though it is a plain one, as a text that is made bytes). -/
def effB (ops : Array Oper) (qs : List Nat) (i : Nat) : Bool := (!(((ops[i]?).map plainOp).getD false) || qs.contains (i + 1000)) && !qs.contains i

def preds (ops : Array Oper) (k : Nat) : List Nat :=
  match ops[k]? with
  | some o => (o.after.toList.filter fun e => Region.binds .any e).map fun e => e.on
  | none => []

/-- What j waits for, all the way down. -/
def anc (ops : Array Oper) (j : Nat) : List Nat := ((List.range (j + 1)).reverse).foldl (fun s k => if s.contains k then preds ops k ++ s else s) [j]

theorem preds_spec {k x : Nat} (h : x ∈ preds ops k) : ∃ o, ops[k]? = some o ∧ ∃ e ∈ o.after, Region.binds .any e = true ∧ e.on = x := by
  unfold preds at h
  split at h
  · rename_i o ho
    obtain ⟨e, he, hx⟩ := List.mem_map.1 h
    have := List.mem_filter.1 he
    exact ⟨o, ho, e, by simpa using this.1, by simpa using this.2, hx⟩
  · cases h

theorem anc_listed {j : Nat} {listed : Array Bool} (hj : j ∈ Region.ready .any ops listed) (inv : Closed ops listed) : ∀ k ∈ anc ops j, k = j ∨ listed.getD k false = true := by
  have key : ∀ (l s : List Nat), (∀ k ∈ s, k = j ∨ listed.getD k false = true) → ∀ k ∈ l.foldl (fun s k => if s.contains k then preds ops k ++ s else s) s, k = j ∨ listed.getD k false = true := by
    intro l
    induction l with
    | nil => intro s hs; exact hs
    | cons x l ih =>
      intro s hs
      rw [List.foldl_cons]
      refine ih _ ?_
      split
      · rename_i hx
        intro k hk
        rcases List.mem_append.1 hk with hk | hk
        · obtain ⟨o, ho, e, he, hb, rfl⟩ := preds_spec hk
          rcases hs x (by simpa using hx) with rfl | hl
          · obtain ⟨_, oj, hoj, hall⟩ := mem_ready.1 hj
            have : o = oj := Option.some.inj (ho.symm.trans hoj)
            subst this
            have h2 := hall e he hb
            refine .inr ?_
            cases h3 : listed.getD e.on false with
            | true => rfl
            | false => exact h2.symm.trans (by rw [h3]) |>.symm
          · exact .inr (inv.closed x o ho hl e he hb)
        · exact hs k hk
      · exact hs
  exact key _ [j] (by simp)

def wpAnyD (P : Program) (ops : Array Oper) (Q : Exit → Act → World → Prop) (S : World → Prop) (last : Bool) (qs : List Nat) : Nat → Array Bool → Act → World → Prop
  | 0, listed, a, w => Region.ready .any ops listed = [] ∧ Q .normal a w
  | fuel + 1, listed, a, w =>
    (Region.ready .any ops listed = [] → Q .normal a w) ∧
    ∀ i ∈ Region.ready .any ops listed, wpOp P ops Q i (fun a' w' => (effB ops qs i = true ∨ w' = w) ∧ ((last = true ∧ i + 1 = ops.size) ∨ S w') ∧ wpAnyD P ops Q S last qs fuel (listed.setIfInBounds i true) a' w') a w

theorem wpAny_of_D : ∀ (fuel : Nat) (listed : Array Bool) (a : Act) (w : World), wpAnyD P ops Q S last qs fuel listed a w → wpAny P .any ops Q fuel listed a w
  | 0, _, _, _, h => h
  | fuel + 1, _, _, _, h => ⟨h.1, fun i hi => wpOp_mono (fun a' w' h' => wpAny_of_D fuel _ a' w' h'.2.2) (h.2 i hi)⟩

theorem ready_false {i j : Nat} {listed : Array Bool} (hr : i ∈ Region.ready .any ops listed) (hl : listed.getD i false = true) : False := by
  have h0 := (mem_ready.1 hr).1
  rcases Nat.lt_or_ge i listed.size with h' | h'
  · simp [h'] at h0 hl; rw [h0] at hl; cases hl
  · simp [Array.getElem?_eq_none h'] at hl

/-- R: the class of worlds in which the operation taken first yields. It is the world at hand (each writing operation waits for it), or all worlds, or S. -/
theorem wpAnyD_first {i : Nat} {oi : Oper} {v : Value} (hi : ops[i]? = some oi) (hsel : ∀ (j : Nat) (o : Oper) cs b, ops[j]? = some o → o.op ≠ .select cs b)
    (hQ : ∀ c a w, Q (.panic c) (a.put oi.dst v) w → Q (.panic c) a w) (kind : Nat) (R : World → World → Prop) (hR : R = if kind = 0 then (fun w w' => w' = w) else if kind = 1 then (fun _ _ => True) else (fun _ w' => S w'))
    (hlast : kind ≠ 0 → last = true → sinkB ops (ops.size - 1) = true) :
    ∀ (fuel : Nat) (listed : Array Bool) (a : Act) (w : World), Closed ops listed →
      (∀ j oj, ops[j]? = some oj → j ≠ i → listed.getD j true = false → (∀ e ∈ oj.after, Region.binds .any e = true → e.on ≠ i) → oi.apart ops oj = true) →
      (kind = 0 → ∀ j, j ≠ i → listed.getD j true = false → effB ops qs j = true → i ∈ anc ops j) →
      i ∈ Region.ready .any ops listed → YieldsIf P ops (R w) oi v a → R w w → S w →
      wpAnyD P ops Q S last qs fuel (listed.setIfInBounds i true) (a.put oi.dst v) w → wpAnyD P ops Q S last qs (fuel + 1) listed a w := by
  intro fuel
  induction fuel with
  | zero =>
    intro listed a w _ _ _ hr hy hw hS H
    refine ⟨fun h => (by rw [h] at hr; cases hr), fun j hj => ?_⟩
    by_cases hji : j = i
    · subst hji; exact hy.wpOp hi hw ⟨.inr rfl, .inr hS, H⟩
    · have := ready_mono hj hji
      rw [H.1] at this
      cases this
  | succ fuel ih =>
    intro listed a w inv hfree hhold hr hy hw hS H
    refine ⟨fun h => (by rw [h] at hr; cases hr), fun j hj => ?_⟩
    by_cases hji : j = i
    · subst hji; exact hy.wpOp hi hw ⟨.inr rfl, .inr hS, H⟩
    · have h1 := H.2 j (ready_mono hj hji)
      obtain ⟨hjun, oj, hoj, hall⟩ := mem_ready.1 hj
      have hiun := (mem_ready.1 hr).1
      have hilt : i < ops.size := (Array.getElem?_eq_some_iff.1 hi).1
      have hjlt : j < ops.size := (Array.getElem?_eq_some_iff.1 hoj).1
      have hnot : ∀ e ∈ oj.after, Region.binds .any e = true → e.on ≠ i := fun e he hb heq => by
        have h1 := hall e he hb
        have h0 := (mem_ready.1 hr).1
        rw [heq] at h1
        rcases Nat.lt_or_ge i listed.size with h' | h'
        · simp [h'] at h0 h1; rw [h0] at h1; cases h1
        · simp [Array.getElem?_eq_none h'] at h1
      have h2 := wpOp_putIf hoj (hfree j oj hoj hji hjun hnot) (fun cs b => hsel i oi cs b hi) (fun cs b => hsel j oj cs b hoj) hQ hy h1
      have hfree' : ∀ k ok, ops[k]? = some ok → k ≠ i → (listed.setIfInBounds j true).getD k true = false →
          (∀ e ∈ ok.after, Region.binds .any e = true → e.on ≠ i) → oi.apart ops ok = true := fun k ok hk hki hun hno => by
        refine hfree k ok hk hki ?_ hno
        by_cases hjk : j = k
        · subst hjk; exact hjun
        · rw [getD_set_ne true hjk] at hun; exact hun
      have hhold' : kind = 0 → ∀ k, k ≠ i → (listed.setIfInBounds j true).getD k true = false → effB ops qs k = true → i ∈ anc ops k := fun h0 k hki hun hef => by
        refine hhold h0 k hki ?_ hef
        by_cases hjk : j = k
        · subst hjk; exact hjun
        · rw [getD_set_ne true hjk] at hun; exact hun
      refine wpOp_mono (fun a' w' h3 => ?_) h2
      obtain ⟨hy', h4, h4b, h5⟩ := h3
      have h5' : wpAnyD P ops Q S last qs fuel ((listed.setIfInBounds j true).setIfInBounds i true) (a'.put oi.dst v) w' := by rw [Array.setIfInBounds_comm _ _ hji]; exact h5
      by_cases hk0 : kind = 0
      · have hne : ¬ effB ops qs j = true := fun hef => by
          rcases anc_listed hj inv i (hhold hk0 j hji hjun hef) with he | hl
          · exact hji he.symm
          · exact ready_false (i := i) (j := j) hr hl
        obtain rfl := h4.resolve_left hne
        exact ⟨.inr rfl, .inr hS, ih (listed.setIfInBounds j true) a' w' (inv.set hj) hfree' hhold' (ready_mono hr (Ne.symm hji)) hy' hw hS h5'⟩
      · have hnl : ¬ (last = true ∧ j + 1 = ops.size) := fun ⟨hl, hj1⟩ => by
          have hjn : j = ops.size - 1 := by omega
          exact sink_waits (hlast hk0 hl) (by omega) inv _ i rfl (by omega) hiun (hjn ▸ hj)
        have h4b := h4b.resolve_left hnl
        have eR : ∀ x, R x = R w := fun x => by rw [hR, if_neg hk0]; split <;> rfl
        refine ⟨h4, .inr h4b, ih (listed.setIfInBounds j true) a' w' (inv.set hj) hfree' hhold' (ready_mono hr (Ne.symm hji)) (by rw [eR]; exact hy') ?_ h4b h5'⟩
        by_cases hk1 : kind = 1
        · rw [hR, if_neg hk0, if_pos hk1]; trivial
        · rw [hR, if_neg hk0, if_neg hk1]; exact h4b

/-- The state of a walk: those in 'done' have come up. -/
def WD (P : Program) (ops : Array Oper) (Q : Exit → Act → World → Prop) (S : World → Prop) (last : Bool) (qs : List Nat) (done : List Nat) (a : Act) (w : World) : Prop :=
  Closed ops (marks ops.size done) → wpAnyD P ops (fun e a w => e = .normal ∧ Q .normal a w) S last qs (ops.size - done.length) (marks ops.size done) a w

/-- Every writing operation that has not come up waits for i. -/
def holdB (ops : Array Oper) (qs : List Nat) (done : List Nat) (i : Nat) : Bool :=
  (List.range ops.size).all fun j => j == i || (marks ops.size done).getD j true || !effB ops qs j || (anc ops j).contains i

def holdsB (ops : Array Oper) (qs : List Nat) : List Nat → List Nat → Bool
  | _, [] => true
  | done, i :: seg => holdB ops qs done i && holdsB ops qs (done ++ [i]) seg

def Rw (kind : Nat) (S : World → Prop) (w w' : World) : Prop := if kind = 0 then w' = w else if kind = 1 then True else S w'

theorem Rw_eq (kind : Nat) (S : World → Prop) : Rw kind S = if kind = 0 then (fun w w' => w' = w) else if kind = 1 then (fun _ _ => True) else (fun _ w' => S w') := by
  funext w w'
  unfold Rw
  by_cases h0 : kind = 0
  · simp [h0]
  · by_cases h1 : kind = 1 <;> simp [h0, h1]

theorem effB_size {j : Nat} (h : ops.size ≤ j) (l : Array Bool) (hl : l.size = ops.size) : l.getD j true = true := by
  simp [Array.getElem?_eq_none (show l.size ≤ j by omega)]

theorem WD.take {done : List Nat} {i : Nat} {a : Act} {w : World} {oi : Oper} {v : Value} (kind : Nat) (hi : ops[i]? = some oi) (hsel : Region.noSelect ops = true)
    (hlast : kind ≠ 0 → last = true → sinkB ops (ops.size - 1) = true) (hB : takeB ops done i = true) (hH : kind = 0 → holdB ops qs done i = true) (hS : S w) (hw : Rw kind S w w) (hy : YieldsIf P ops (Rw kind S w) oi v a)
    (h : WD P ops Q S last qs (done ++ [i]) (a.put oi.dst v) w) : WD P ops Q S last qs done a w := by
  intro inv
  simp only [takeB, Bool.and_eq_true, decide_eq_true_eq] at hB
  obtain ⟨⟨⟨hlen, hr⟩, hf⟩, _⟩ := hB
  have hr' : i ∈ Region.ready .any ops (marks ops.size done) := by simpa using hr
  have h2 := h (by rw [marks_snoc]; exact inv.set hr')
  rw [marks_snoc] at h2
  have e : ops.size - done.length = (ops.size - (done ++ [i]).length) + 1 := by simp; omega
  rw [e]
  refine wpAnyD_first hi (Region.noSelect_spec hsel) (fun c a w hq => by simp at hq) kind (Rw kind S) (Rw_eq kind S) hlast _ _ a w inv (Region.free_spec hi hf) ?_ hr' hy hw hS h2
  intro h0 j hji hun hef
  have h3 := List.all_eq_true.1 (hH h0) j (by
    rw [List.mem_range]
    rcases Nat.lt_or_ge j ops.size with h | h
    · exact h
    · rw [effB_size h _ inv.size] at hun; cases hun)
  simp only [Bool.or_eq_true, Bool.not_eq_true', beq_iff_eq] at h3
  rcases h3 with ((h3 | h3) | h3) | h3
  · exact absurd h3 hji
  · rw [hun] at h3; cases h3
  · rw [hef] at h3; cases h3
  · simpa using h3

theorem WD.pure' (kind : Nat) (hsel : Region.noSelect ops = true) (hlast : kind ≠ 0 → last = true → sinkB ops (ops.size - 1) = true) {w : World} (hS : S w) (hw : Rw kind S w w) :
    ∀ (seg done : List Nat) (a : Act), takesB ops done seg = true → (kind = 0 → holdsB ops qs done seg = true) →
      wpQuiet P ops (Rw kind S w) (fun a' => WD P ops Q S last qs (done ++ seg) a' w) (pick ops.toList seg) a → WD P ops Q S last qs done a w
  | [], done, a, _, _, h => by simpa [pick, wpQuiet] using h
  | i :: seg, done, a, hB, hH, h => by
    simp only [takesB, Bool.and_eq_true] at hB
    have hB1 := hB.1
    simp only [takeB, Bool.and_eq_true] at hB1
    have hp := hB1.2
    have hH1 : kind = 0 → holdB ops qs done i = true := fun h0 => by have := hH h0; simp only [holdsB, Bool.and_eq_true] at this; exact this.1
    have hH2 : kind = 0 → holdsB ops qs (done ++ [i]) seg = true := fun h0 => by have := hH h0; simp only [holdsB, Bool.and_eq_true] at this; exact this.2
    cases hi : ops[i]? with
    | none => simp [hi] at hp
    | some oi =>
      simp only [hi, Option.map_some, Option.getD_some] at hp
      have hpk : pick ops.toList (i :: seg) = oi :: pick ops.toList seg := by
        have : ops.toList[i]? = some oi := by simpa using hi
        simp only [pick, List.map_cons, List.getD, this, Option.getD_some]
      rw [hpk] at h
      have happ : done ++ (i :: seg) = (done ++ [i]) ++ seg := by simp
      rw [happ] at h
      simp only [wpQuiet] at h
      by_cases hwt : Region.wanted oi (yielded ops a.tmps) = true
      · rw [if_pos hwt] at h
        obtain ⟨v, h1, h2⟩ := h
        exact WD.take kind hi hsel hlast hB.1 hH1 hS hw (.inl ⟨hwt, fun w' hS' => yields_of_quiet hp h1 w' hS'⟩) (WD.pure' kind hsel hlast hS hw seg (done ++ [i]) _ hB.2 hH2 h2)
      · rw [if_neg hwt] at h
        exact WD.take kind hi hsel hlast hB.1 hH1 hS hw (.inr ⟨by simpa using hwt, rfl⟩) (WD.pure' kind hsel hlast hS hw seg (done ++ [i]) _ hB.2 hH2 h)

def pureDB (ops : Array Oper) (qs seg done : List Nat) : Bool := Region.noSelect ops && takesB ops done seg && holdsB ops qs done seg
def freeDB (ops : Array Oper) (last : Bool) (seg done : List Nat) : Bool := Region.noSelect ops && (!last || sinkB ops (ops.size - 1)) && takesB ops done seg

/-- Operations that read, at the world at hand: every writing one waits for them. -/
theorem WD.pure {done : List Nat} {a : Act} {w : World} (seg : List Nat) (hB : pureDB ops qs seg done = true) (hS : S w)
    (h : wpQuiet P ops (fun w' => w' = w) (fun a' => WD P ops Q S last qs (done ++ seg) a' w) (pick ops.toList seg) a) : WD P ops Q S last qs done a w := by
  simp only [pureDB, Bool.and_eq_true] at hB
  refine WD.pure' 0 hB.1.1 (fun h => absurd rfl h) hS rfl seg done a hB.1.2 (fun _ => hB.2) ?_
  exact h
/-- Operations that hang on no world. -/
theorem WD.free {done : List Nat} {a : Act} {w : World} (seg : List Nat) (hB : freeDB ops last seg done = true) (hS : S w)
    (h : wpQuiet P ops (fun _ => True) (fun a' => WD P ops Q S last qs (done ++ seg) a' w) (pick ops.toList seg) a) : WD P ops Q S last qs done a w := by
  simp only [freeDB, Bool.and_eq_true, Bool.or_eq_true, Bool.not_eq_true'] at hB
  refine WD.pure' 1 hB.1.1 (fun _ hl => by simpa [hl] using hB.1.2) hS trivial seg done a hB.2 (fun h => absurd h (by decide)) ?_
  exact h
/-- Operations that read what S tells. -/
theorem WD.held {done : List Nat} {a : Act} {w : World} (seg : List Nat) (hB : freeDB ops last seg done = true) (hS : S w)
    (h : wpQuiet P ops S (fun a' => WD P ops Q S last qs (done ++ seg) a' w) (pick ops.toList seg) a) : WD P ops Q S last qs done a w := by
  simp only [freeDB, Bool.and_eq_true, Bool.or_eq_true, Bool.not_eq_true'] at hB
  refine WD.pure' 2 hB.1.1 (fun _ hl => by simpa [hl] using hB.1.2) hS hS seg done a hB.2 (fun h => absurd h (by decide)) ?_
  exact h

/-- What is asked behind an operation that makes or writes memory (w0: the world it met). -/
def AfterD (P : Program) (ops : Array Oper) (Q : Exit → Act → World → Prop) (S : World → Prop) (last : Bool) (qs done : List Nat) (i : Nat) (w0 : World) : Exit → Act → World → Prop :=
  fun e a w => e = .normal ∧ (effB ops qs i = true ∨ w = w0) ∧ ((last = true ∧ i + 1 = ops.size) ∨ S w) ∧ WD P ops Q S last qs (done ++ [i]) a w

theorem AfterD.on {done : List Nat} {i : Nat} {a : Act} {w w0 : World} (hS : S w) (he : effB ops qs i = true) (h : WD P ops Q S last qs (done ++ [i]) a w) : AfterD P ops Q S last qs done i w0 .normal a w := ⟨rfl, .inl he, .inr hS, h⟩
theorem AfterD.quiet {done : List Nat} {i : Nat} {a : Act} {w w0 : World} (hS : S w) (he : w = w0) (h : WD P ops Q S last qs (done ++ [i]) a w) : AfterD P ops Q S last qs done i w0 .normal a w := ⟨rfl, .inr he, .inr hS, h⟩
theorem AfterD.end {done : List Nat} {i : Nat} {a : Act} {w w0 : World} (hi : i + 1 = ops.size) (he : effB ops qs i = true) (h : WD P ops Q S true qs (done ++ [i]) a w) : AfterD P ops Q S true qs done i w0 .normal a w := ⟨rfl, .inl he, .inl ⟨rfl, hi⟩, h⟩

theorem WD.effs {done : List Nat} {a : Act} {w : World} (rs : List Nat) (hB : readyB ops done rs = true) (hne : rs ≠ [])
    (h : ∀ i ∈ rs, wpList P ops (AfterD P ops Q S last qs done i w) (pick ops.toList [i]) a w) : WD P ops Q S last qs done a w := by
  intro inv
  simp only [readyB, Bool.and_eq_true, decide_eq_true_eq, List.all_eq_true] at hB
  obtain ⟨⟨hlen, hr⟩, hsome⟩ := hB
  have e : ops.size - done.length = (ops.size - (done.length + 1)) + 1 := by omega
  rw [e]
  refine ⟨fun h0 => absurd (hr ▸ h0) hne, fun i hi => ?_⟩
  have hi' := hi
  rw [hr] at hi'
  obtain ⟨oi, hoi⟩ := Option.isSome_iff_exists.1 (hsome i hi')
  have h1 := h i hi'
  have hpk : pick ops.toList [i] = [oi] := by
    have : ops.toList[i]? = some oi := by simpa using hoi
    simp only [pick, List.map_cons, List.map_nil, List.getD, this, Option.getD_some]
  rw [hpk] at h1
  refine wpOp_mono (fun a' w' ⟨_, h2, h3, h4⟩ => ⟨h2, h3, ?_⟩) (wpOp_of_list hoi (fun _ _ _ h => h.1) h1)
  have h5 := h4 (by rw [marks_snoc]; exact inv.set hi)
  rw [marks_snoc] at h5
  simpa using h5

theorem WD.eff {done : List Nat} {a : Act} {w : World} (i : Nat) (hB : readyB ops done [i] = true)
    (h : wpList P ops (AfterD P ops Q S last qs done i w) (pick ops.toList [i]) a w) : WD P ops Q S last qs done a w :=
  WD.effs [i] hB (by simp) (fun j hj => by rw [List.mem_singleton.1 hj]; exact h)

theorem WD.eff2 {done : List Nat} {a : Act} {w : World} (i j : Nat) (hB : readyB ops done [i, j] = true)
    (h1 : wpList P ops (AfterD P ops Q S last qs done i w) (pick ops.toList [i]) a w) (h2 : wpList P ops (AfterD P ops Q S last qs done j w) (pick ops.toList [j]) a w) : WD P ops Q S last qs done a w :=
  WD.effs [i, j] hB (by simp) (fun k hk => by
    simp only [List.mem_cons, List.not_mem_nil, or_false] at hk
    rcases hk with rfl | rfl
    · exact h1
    · exact h2)

theorem WD.done {done : List Nat} {a : Act} {w : World} (hB : (Region.ready .any ops (marks ops.size done)).isEmpty = true) (h : Q .normal a w) : WD P ops Q S last qs done a w := by
  intro _
  have hr : Region.ready .any ops (marks ops.size done) = [] := by simpa using hB
  cases ops.size - done.length with
  | zero => exact ⟨hr, rfl, h⟩
  | succ n => exact ⟨fun _ => ⟨rfl, h⟩, by rw [hr]; simp⟩

/-- THE BEGINNING. -/
theorem wp_region_D {id : Nat} {a : Act} {w : World} (S : World → Prop) (last : Bool) (qs : List Nat) (hm : P.follows .mixedOrders = true) (h : WD P ops Q S last qs [] a w.drew) : (Code.region id ops true).wp P Q a w := by
  have h1 := h (Closed.start ops)
  refine Code.wp_mono (fun e a w ⟨he, hq⟩ => by subst he; exact hq) (wp_region_any (Q := fun e a w => e = .normal ∧ Q .normal a w) hm ?_)
  exact wpAny_of_D _ _ _ _ h1

/-- A type of arrays or structs whose values have n cells. -/
def AggT (P : Program) (ty : TypeId) (n : Nat) : Prop := ∃ d, P.underlying ty = some d ∧ aggDesc d = true ∧ (P.info? ty).map (·.size) = some n
theorem quiet_load_ag {w : World} {a : Act} {o : Oper} {rest : List Oper} {Q' : Act → Prop} (hg : o.guard = none) (ty : TypeId) (x : Operand) (ho : o.op = .load ty x) {b off : Nat} (hx : a.eval x = .pointer (some ⟨b, off, none⟩)) {cs : List Value} (vs : List Value)
    (hb : Blk w b cs) {n : Nat} (hT : AggT P ty n) (hn : vs.length = n) (hv : (cs.drop off).take n = vs)
    (h : wpQuiet P ops (fun w' => w' = w) Q' rest (a.put o.dst (.agg vs.toArray))) : wpQuiet P ops (fun w' => w' = w) Q' (o :: rest) a := by
  obtain ⟨d, hu, hd, hs⟩ := hT
  exact quiet_load_agg hg ty x ho hx vs (fun w' hw => by rw [hw]; exact hb) d hu hd (by rw [hs, hn]) (by rw [hn]; exact hv) h
theorem quiet_load_agS {a : Act} {o : Oper} {rest : List Oper} {Q' : Act → Prop} (hg : o.guard = none) (ty : TypeId) (x : Operand) (ho : o.op = .load ty x) {b off : Nat} (hx : a.eval x = .pointer (some ⟨b, off, none⟩)) {cs : List Value} (vs : List Value)
    (hb : ∀ w, S w → Blk w b cs) {n : Nat} (hT : AggT P ty n) (hn : vs.length = n) (hv : (cs.drop off).take n = vs)
    (h : wpQuiet P ops S Q' rest (a.put o.dst (.agg vs.toArray))) : wpQuiet P ops S Q' (o :: rest) a := by
  obtain ⟨d, hu, hd, hs⟩ := hT
  exact quiet_load_agg hg ty x ho hx vs hb d hu hd (by rw [hs, hn]) (by rw [hn]; exact hv) h
theorem wpList_load_ag {w : World} {a : Act} {o : Oper} {rest : List Oper} (hg : o.guard = none) (ty : TypeId) (x : Operand) (ho : o.op = .load ty x) {b off : Nat} (hx : a.eval x = .pointer (some ⟨b, off, none⟩)) {cs : List Value} (vs : List Value) (hb : Blk w b cs)
    {n : Nat} (hT : AggT P ty n) (hn : vs.length = n) (hv : (cs.drop off).take n = vs)
    (h : wpList P ops Q rest (a.put o.dst (.agg vs.toArray)) w) : wpList P ops Q (o :: rest) a w := by
  obtain ⟨d, hu, hd, hs⟩ := hT
  exact wpList_load_agg hg ty x ho hx vs hb d hu hd (by rw [hs, hn]) (by rw [hn]; exact hv) h
theorem wpList_store_ag {w : World} {a : Act} {o : Oper} {rest : List Oper} (hg : o.guard = none) (ty : TypeId) (x y : Operand) (ho : o.op = .store ty x y) {b off : Nat} (hx : a.eval x = .pointer (some ⟨b, off, none⟩)) {cs : List Value} (vs : List Value) (hy : a.eval y = .agg vs.toArray) (hb : Blk w b cs)
    {n : Nat} (hT : AggT P ty n) (hn : vs.length = n) (hle : off + n ≤ cs.length) (h1 : ∀ u ∈ vs, u.oneCell' = true)
    (h : ∀ w', Fr [b] w w' → Blk w' b (splice cs off vs) → w'.heap.size = w.heap.size → wpList P ops Q rest (a.put o.dst undef) w') : wpList P ops Q (o :: rest) a w := by
  obtain ⟨d, hu, hd, hs⟩ := hT
  exact wpList_store_agg hg ty x y ho hx vs hy hb (by rw [hs, hn]) (by rw [hn]; exact hle) h1 h
end
end Go.Xr
