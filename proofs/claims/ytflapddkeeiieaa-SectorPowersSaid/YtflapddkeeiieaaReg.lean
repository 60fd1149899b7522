/- A region that draws its order, walked once: what only reads is taken as soon as it may come up; what makes or writes memory comes when it alone may come up. Conditions: S holds before and behind each writing operation (but behind the last one of all). -/
import Derived.OrdersHeld
import Derived.Tactics
import Derived.Deep.QuietTactic
import Derived.BigQuiet
import Derived.Deep.DeepCutAuto
import Derived.Deep.CutBlock
namespace Go.Xr
open Go
section
variable {P : Program} {ops : Array Oper} {Q : Exit → Act → World → Prop} {S : World → Prop} {last : Bool}

def waitsFor (ops : Array Oper) (j i : Nat) : Bool :=
  match ops[j]? with
  | some oj => oj.after.any fun e => Region.binds .any e && e.on == i
  | none => false

theorem waitsFor_spec {j i : Nat} (h : waitsFor ops j i = true) : ∃ oj, ops[j]? = some oj ∧ ∃ e ∈ oj.after, Region.binds .any e = true ∧ e.on = i := by
  unfold waitsFor at h
  split at h
  · rename_i oj hj
    obtain ⟨e, he, hb⟩ := Array.any_eq_true'.1 h
    simp only [Bool.and_eq_true, beq_iff_eq] at hb
    exact ⟨oj, hj, e, he, hb.1, hb.2⟩
  · cases h

/-- Each operation below n is waited for by a later one up to n. -/
def sinkB (ops : Array Oper) (n : Nat) : Bool :=
  (List.range n).all fun i => (List.range (n + 1)).any fun j => decide (i < j) && waitsFor ops j i

theorem getD_both {listed : Array Bool} {i : Nat} (h : listed.getD i true = false) : listed.getD i false = false := by
  rcases Nat.lt_or_ge i listed.size with h' | h'
  · simp [h'] at h ⊢; exact h
  · simp [Array.getElem?_eq_none h'] at h

theorem getD_in {listed : Array Bool} {i : Nat} (hi : i < listed.size) (h : listed.getD i false = false) : listed.getD i true = false := by
  simp [hi] at h ⊢; exact h

theorem getD_replicate_false (m j : Nat) : (Array.replicate m false).getD j false = false := by
  rcases Nat.lt_or_ge j m with h | h
  · simp [h]
  · simp [h]

/-- Whatever order is picked from here on; S holds behind each operation (if 'last': but behind the last of all). -/
def wpAnyX (P : Program) (ops : Array Oper) (Q : Exit → Act → World → Prop) (S : World → Prop) (last : Bool) : Nat → Array Bool → Act → World → Prop
  | 0, listed, a, w => Region.ready .any ops listed = [] ∧ Q .normal a w
  | fuel + 1, listed, a, w =>
    (Region.ready .any ops listed = [] → Q .normal a w) ∧
    ∀ i ∈ Region.ready .any ops listed, wpOp P ops Q i (fun a' w' => ((last = true ∧ i + 1 = ops.size) ∨ S w') ∧ wpAnyX P ops Q S last fuel (listed.setIfInBounds i true) a' w') a w

theorem wpAny_of_X : ∀ (fuel : Nat) (listed : Array Bool) (a : Act) (w : World), wpAnyX P ops Q S last fuel listed a w → wpAny P .any ops Q fuel listed a w
  | 0, _, _, _, h => h
  | fuel + 1, _, _, _, h => ⟨h.1, fun i hi => wpOp_mono (fun a' w' h' => wpAny_of_X fuel _ a' w' h'.2) (h.2 i hi)⟩

structure Closed (ops : Array Oper) (listed : Array Bool) : Prop where
  size : listed.size = ops.size
  closed : ∀ j oj, ops[j]? = some oj → listed.getD j false = true → ∀ e ∈ oj.after, Region.binds .any e = true → listed.getD e.on false = true

theorem Closed.start (ops : Array Oper) : Closed ops (Array.replicate ops.size false) :=
  ⟨by simp, fun j oj _ hl => by rw [getD_replicate_false] at hl; cases hl⟩

theorem Closed.set {listed : Array Bool} {i : Nat} (inv : Closed ops listed) (hi : i ∈ Region.ready .any ops listed) : Closed ops (listed.setIfInBounds i true) := by
  obtain ⟨_, oi, hoi, hall⟩ := mem_ready.1 hi
  refine ⟨by simp [inv.size], fun j oj hj hl e he hb => ?_⟩
  by_cases hij : i = j
  · subst hij
    have : oj = oi := Option.some.inj (hj.symm.trans hoi)
    subst this
    exact getD_set_true (hall e he hb)
  · rw [getD_set_ne false hij] at hl
    exact getD_set_true (inv.closed j oj hj hl e he hb)

theorem sink_waits {n : Nat} {listed : Array Bool} (hs : sinkB ops n = true) (hn : n < ops.size) (inv : Closed ops listed) :
    ∀ (d i : Nat), n - i = d → i < n → listed.getD i true = false → n ∉ Region.ready .any ops listed := by
  intro d
  induction d using Nat.strongRecOn with
  | _ d ih =>
    intro i hd hi hun hr
    obtain ⟨_, ot, hot, hall⟩ := mem_ready.1 hr
    have h1 := List.all_eq_true.1 hs i (List.mem_range.2 hi)
    obtain ⟨j, hj, hj2⟩ := List.any_eq_true.1 h1
    simp only [Bool.and_eq_true, decide_eq_true_eq] at hj2
    obtain ⟨oj, hoj, e, he, hb, hon⟩ := waitsFor_spec hj2.2
    have hjle : j ≤ n := by have := List.mem_range.1 hj; omega
    by_cases hjt : j = n
    · subst hjt
      have : oj = ot := Option.some.inj (hoj.symm.trans hot)
      subst this
      have h2 := hall e he hb
      rw [hon, getD_both hun] at h2
      cases h2
    · cases hl : listed.getD j false with
      | true =>
        have h2 := inv.closed j oj hoj hl e he hb
        rw [hon, getD_both hun] at h2
        cases h2
      | false =>
        have hjs : j < listed.size := by rw [inv.size]; omega
        exact ih (n - j) (by omega) j rfl (by omega) (getD_in hjs hl) hr

theorem wpAnyX_first {i : Nat} {oi : Oper} {v : Value} (hi : ops[i]? = some oi) (hsel : ∀ (j : Nat) (o : Oper) cs b, ops[j]? = some o → o.op ≠ .select cs b)
    (hQ : ∀ c a w, Q (.panic c) (a.put oi.dst v) w → Q (.panic c) a w) (hlast : last = true → sinkB ops (ops.size - 1) = true) :
    ∀ (fuel : Nat) (listed : Array Bool) (a : Act) (w : World), Closed ops listed →
      (∀ j oj, ops[j]? = some oj → j ≠ i → listed.getD j true = false → (∀ e ∈ oj.after, Region.binds .any e = true → e.on ≠ i) → oi.apart ops oj = true) →
      i ∈ Region.ready .any ops listed → YieldsIf P ops S oi v a → S w →
      wpAnyX P ops Q S last fuel (listed.setIfInBounds i true) (a.put oi.dst v) w → wpAnyX P ops Q S last (fuel + 1) listed a w := by
  intro fuel
  induction fuel with
  | zero =>
    intro listed a w _ _ hr hy hS H
    refine ⟨fun h => (by rw [h] at hr; cases hr), fun j hj => ?_⟩
    by_cases hji : j = i
    · subst hji; exact hy.wpOp hi hS ⟨.inr hS, H⟩
    · have := ready_mono hj hji
      rw [H.1] at this
      cases this
  | succ fuel ih =>
    intro listed a w inv hfree hr hy hS H
    refine ⟨fun h => (by rw [h] at hr; cases hr), fun j hj => ?_⟩
    by_cases hji : j = i
    · subst hji; exact hy.wpOp hi hS ⟨.inr hS, H⟩
    · have h1 := H.2 j (ready_mono hj hji)
      obtain ⟨hjun, oj, hoj, hall⟩ := mem_ready.1 hj
      have hiun := (mem_ready.1 hr).1
      have hilt : i < ops.size := (Array.getElem?_eq_some_iff.1 hi).1
      have hjlt : j < ops.size := (Array.getElem?_eq_some_iff.1 hoj).1
      have hnot : ∀ e ∈ oj.after, Region.binds .any e = true → e.on ≠ i := fun e he hb heq => by
        have h1 := hall e he hb
        have h0 := (mem_ready.1 hr).1
        rw [heq] at h1
        rcases Nat.lt_or_ge i listed.size with h' | h'
        · simp [h'] at h0 h1; rw [h0] at h1; cases h1
        · simp [Array.getElem?_eq_none h'] at h1
      have hnl : ¬ (last = true ∧ j + 1 = ops.size) := fun ⟨hl, hj1⟩ => by
        have hjn : j = ops.size - 1 := by omega
        have hs := hlast hl
        exact sink_waits hs (by omega) inv _ i rfl (by omega) hiun (hjn ▸ hj)
      have h2 := wpOp_putIf hoj (hfree j oj hoj hji hjun hnot) (fun cs b => hsel i oi cs b hi) (fun cs b => hsel j oj cs b hoj) hQ hy h1
      have hfree' : ∀ k ok, ops[k]? = some ok → k ≠ i → (listed.setIfInBounds j true).getD k true = false →
          (∀ e ∈ ok.after, Region.binds .any e = true → e.on ≠ i) → oi.apart ops ok = true := fun k ok hk hki hun hno => by
        refine hfree k ok hk hki ?_ hno
        by_cases hjk : j = k
        · subst hjk; exact hjun
        · rw [getD_set_ne true hjk] at hun; exact hun
      refine wpOp_mono (fun a' w' h3 => ?_) h2
      obtain ⟨hy', h4, h5⟩ := h3
      have h4 := h4.resolve_left hnl
      exact ⟨.inr h4, ih (listed.setIfInBounds j true) a' w' (inv.set hj) hfree' (ready_mono hr (Ne.symm hji)) hy' h4 (by rw [Array.setIfInBounds_comm _ _ hji]; exact h5)⟩

/-- The operations that have come up, as the array of marks. -/
def marks (n : Nat) (done : List Nat) : Array Bool := done.foldl (fun m i => m.setIfInBounds i true) (Array.replicate n false)

theorem marks_snoc (n : Nat) (done : List Nat) (i : Nat) : marks n (done ++ [i]) = (marks n done).setIfInBounds i true := by
  simp [marks]

/-- The state of a walk: those in 'done' have come up. The last operation of the region may break S (if 'last'). -/
def WX (P : Program) (ops : Array Oper) (Q : Exit → Act → World → Prop) (S : World → Prop) (last : Bool) (done : List Nat) (a : Act) (w : World) : Prop :=
  Closed ops (marks ops.size done) → wpAnyX P ops (fun e a w => e = .normal ∧ Q .normal a w) S last (ops.size - done.length) (marks ops.size done) a w

def pick (l : List Oper) (seg : List Nat) : List Oper := seg.map fun i => l.getD i default

/-- What runs code, waits, or leaves nothing is no plain operation. -/
def plainOp (o : Oper) : Bool :=
  match o.op with
  | .move _ | .assign _ | .pick .. | .build .. | .load .. | .nilCheck _ | .binOp .. | .unOp .. | .convert .. | .sliceToArrayPointer .. | .slice .. | .fieldAddr .. | .field .. | .indexAddr .. | .index .. | .extract .. | .lookup .. | .makeInterface .. | .makeFunc .. | .typeAssert .. => true
  | .call { callee := .builtin .len, .. } | .call { callee := .builtin .cap, .. } | .call { callee := .builtin .min, .. } | .call { callee := .builtin .max, .. } => true
  | _ => false

theorem value_of_bind {s : Sem Value} {w w' : World} {nx : Next} (h : (do pure (.value (← s)) : Sem Next).run P w = .ok nx w') : ∃ v, nx = .value v := by
  have h2 : (Sem.bind s (fun x => Sem.pure (Next.value x))).run P w = .ok nx w' := h
  have e : (Sem.bind s (fun x => Sem.pure (Next.value x))).run P w = (s.run P w).andThen (fun v w => .ok (.value v) w) := by
    rw [Sem.run_bind']; rfl
  rw [e] at h2
  cases hs : s.run P w with
  | ok v w1 => rw [hs] at h2; simp [Result.andThen] at h2; exact ⟨v, h2.1.symm⟩
  | halt x w1 => rw [hs] at h2; simp [Result.andThen] at h2

/-- An operation of a plain kind hands back a value, or ends the walk. -/
theorem plain_value {ρ : Operand → Value} {o : Oper} {w w' : World} {nx : Next} (hp : plainOp o = true) (h : (execOp ρ o).run P w = .ok nx w') : ∃ v, nx = .value v := by
  obtain ⟨dst, op, ty, pos, after, guard⟩ := o
  cases op with
  | move x => simp [execOp] at h; exact ⟨_, h.1.symm⟩
  | assign x => simp [execOp] at h; exact ⟨_, h.1.symm⟩
  | pick c a b =>
    simp only [execOp, Sem.run_bind] at h
    cases hs : (asBool (ρ c)).run P w with
    | ok v w1 => rw [hs] at h; simp at h; exact ⟨_, h.1.symm⟩
    | halt x w1 => rw [hs] at h; simp at h
  | nilCheck x =>
    simp only [execOp] at h
    split at h
    · exact absurd h (by simp [runtimePanic, goPanic, Sem.run])
    · exact absurd h (by simp [runtimePanic, goPanic, Sem.run])
    · exact absurd h (by simp [runtimePanic, goPanic, Sem.run])
    · split at h
      · exact absurd h (by simp [runtimePanic, goPanic, Sem.run])
      · simp only [Sem.run_bind, program, Sem.run, Result.andThen_ok] at h
        generalize (nilAhead _ _ _ _ : Sem (Option Bool)).run P w = r at h
        cases r with
        | halt x w1 => simp [Result.andThen] at h
        | ok v w1 =>
          simp only [Result.andThen_ok] at h
          split at h
          · simp [unsupported, Sem.run, Result.andThen] at h
          · simp at h; exact ⟨_, h.1.symm⟩
      · simp at h; exact ⟨_, h.1.symm⟩
    · simp at h; exact ⟨_, h.1.symm⟩
  | call c =>
    obtain ⟨callee, args, ats⟩ := c
    cases callee with
    | value _ => simp [plainOp] at hp
    | invoke _ _ => simp [plainOp] at hp
    | builtin b =>
      cases b with
      | len => exact value_of_bind (s := Builtin.len_ _ _ _) h
      | cap => exact value_of_bind (s := Builtin.cap_ _ _ _) h
      | min => exact value_of_bind (s := Builtin.min_ _ _ _) h
      | max => exact value_of_bind (s := Builtin.max_ _ _ _) h
      | _ => simp [plainOp] at hp
  | build _ _ => exact value_of_bind h
  | load _ _ => exact value_of_bind h
  | binOp _ _ _ _ _ => exact value_of_bind h
  | unOp _ _ _ => exact value_of_bind h
  | convert _ _ _ => exact value_of_bind h
  | sliceToArrayPointer _ _ => exact value_of_bind h
  | slice _ _ _ _ _ => exact value_of_bind h
  | fieldAddr _ _ _ => exact value_of_bind h
  | field _ _ _ => exact value_of_bind h
  | indexAddr _ _ _ => exact value_of_bind h
  | index _ _ _ => exact value_of_bind h
  | extract _ _ => exact value_of_bind h
  | lookup _ _ _ _ => exact value_of_bind h
  | makeInterface _ _ => exact value_of_bind h
  | makeFunc _ _ _ => exact value_of_bind h
  | typeAssert _ _ _ _ => exact value_of_bind h
  | _ => simp [plainOp] at hp

/-- One more has come up: it is taken first, for it only reads. -/
def takeB (ops : Array Oper) (done : List Nat) (i : Nat) : Bool :=
  decide (done.length < ops.size) && (Region.ready .any ops (marks ops.size done)).contains i && Region.free .any ops (marks ops.size done) i &&
    ((ops[i]?).map plainOp).getD false

def takesB (ops : Array Oper) : List Nat → List Nat → Bool
  | _, [] => true
  | done, i :: seg => takeB ops done i && takesB ops (done ++ [i]) seg

def pureB (ops : Array Oper) (last : Bool) (done seg : List Nat) : Bool :=
  Region.noSelect ops && (!last || sinkB ops (ops.size - 1)) && takesB ops done seg

/-- The worlds that meet S, as a family: in a piece that only reads the walk goes through 'W j', j whatever. -/
theorem family (S : World → Prop) {w : World} (h : S w) : ∃ (ι : Type) (W : ι → World), Nonempty ι ∧ (∀ j, S (W j)) ∧ (∀ w, S w → ∃ j, w = W j) ∧ ∃ j, w = W j :=
  ⟨{w' // S w'}, Subtype.val, ⟨⟨w, h⟩⟩, fun j => j.2, fun w h => ⟨⟨w, h⟩, rfl⟩, ⟨⟨w, h⟩, rfl⟩⟩

theorem yields_of_quiet {o : Oper} {a : Act} {v : Value} (hp : plainOp o = true) (h : ∀ w, S w → o.quietAt P a S w v) (w : World) (hS : S w) : (execOp a.eval o).run P w = .ok (.value v) w := by
  have h1 := h w hS
  unfold Oper.quietAt at h1
  cases hr : (execOp a.eval o).run P w with
  | halt x w' => rw [hr] at h1; simp [Oper.quietUpon] at h1
  | ok nx w' =>
    obtain ⟨u, rfl⟩ := plain_value hp hr
    rw [hr] at h1
    simp only [Oper.quietUpon] at h1
    obtain ⟨rfl, rfl⟩ := h1
    rfl

theorem WX.take {done : List Nat} {i : Nat} {a : Act} {w : World} {oi : Oper} {v : Value} (hi : ops[i]? = some oi) (hsel : Region.noSelect ops = true)
    (hlast : last = true → sinkB ops (ops.size - 1) = true) (hB : takeB ops done i = true) (hS : S w) (hy : YieldsIf P ops S oi v a)
    (h : WX P ops Q S last (done ++ [i]) (a.put oi.dst v) w) : WX P ops Q S last done a w := by
  intro inv
  simp only [takeB, Bool.and_eq_true, decide_eq_true_eq] at hB
  obtain ⟨⟨⟨hlen, hr⟩, hf⟩, _⟩ := hB
  have hr' : i ∈ Region.ready .any ops (marks ops.size done) := by simpa using hr
  have h2 := h (by rw [marks_snoc]; exact inv.set hr')
  rw [marks_snoc] at h2
  have e : ops.size - done.length = (ops.size - (done ++ [i]).length) + 1 := by simp; omega
  rw [e]
  exact wpAnyX_first hi (Region.noSelect_spec hsel) (fun c a w hq => by simp at hq) hlast _ _ a w inv (Region.free_spec hi hf) hr' hy hS h2

/-- SEVERAL OPERATIONS THAT ONLY READ, one behind the other. -/
theorem WX.pure' (hsel : Region.noSelect ops = true) (hlast : last = true → sinkB ops (ops.size - 1) = true) {w : World} (hS : S w) :
    ∀ (seg done : List Nat) (a : Act), takesB ops done seg = true →
      wpQuiet P ops S (fun a' => WX P ops Q S last (done ++ seg) a' w) (pick ops.toList seg) a → WX P ops Q S last done a w
  | [], done, a, _, h => by simpa [pick, wpQuiet] using h
  | i :: seg, done, a, hB, h => by
    simp only [takesB, Bool.and_eq_true] at hB
    have hB1 := hB.1
    simp only [takeB, Bool.and_eq_true] at hB1
    have hp := hB1.2
    cases hi : ops[i]? with
    | none => simp [hi] at hp
    | some oi =>
      simp only [hi, Option.map_some, Option.getD_some] at hp
      have hpk : pick ops.toList (i :: seg) = oi :: pick ops.toList seg := by
        have : ops.toList[i]? = some oi := by simpa using hi
        simp only [pick, List.map_cons, List.getD, this, Option.getD_some]
      rw [hpk] at h
      have happ : done ++ (i :: seg) = (done ++ [i]) ++ seg := by simp
      rw [happ] at h
      simp only [wpQuiet] at h
      by_cases hw : Region.wanted oi (yielded ops a.tmps) = true
      · rw [if_pos hw] at h
        obtain ⟨v, h1, h2⟩ := h
        exact WX.take hi hsel hlast hB.1 hS (.inl ⟨hw, fun w' hS' => yields_of_quiet hp h1 w' hS'⟩) (WX.pure' hsel hlast hS seg (done ++ [i]) _ hB.2 h2)
      · rw [if_neg hw] at h
        exact WX.take hi hsel hlast hB.1 hS (.inr ⟨by simpa using hw, rfl⟩) (WX.pure' hsel hlast hS seg (done ++ [i]) _ hB.2 h)

theorem WX.pure {done : List Nat} {a : Act} {w : World} (seg : List Nat) (hB : pureB ops last done seg = true) (hS : S w)
    (h : wpQuiet P ops S (fun a' => WX P ops Q S last (done ++ seg) a' w) (pick ops.toList seg) a) : WX P ops Q S last done a w := by
  simp only [pureB, Bool.and_eq_true, Bool.or_eq_true, Bool.not_eq_true'] at hB
  exact WX.pure' hB.1.1 (fun hl => by simpa [hl] using hB.1.2) hS seg done a hB.2 h

/-- What is asked behind an operation that makes or writes memory. -/
def After (P : Program) (ops : Array Oper) (Q : Exit → Act → World → Prop) (S : World → Prop) (last : Bool) (done : List Nat) (i : Nat) : Exit → Act → World → Prop :=
  fun e a w => e = .normal ∧ ((last = true ∧ i + 1 = ops.size) ∨ S w) ∧ WX P ops Q S last (done ++ [i]) a w

theorem After.on {done : List Nat} {i : Nat} {a : Act} {w : World} (hS : S w) (h : WX P ops Q S last (done ++ [i]) a w) : After P ops Q S last done i .normal a w := ⟨rfl, .inr hS, h⟩
theorem After.end {done : List Nat} {i : Nat} {a : Act} {w : World} (hi : i + 1 = ops.size) (h : WX P ops Q S true (done ++ [i]) a w) : After P ops Q S true done i .normal a w := ⟨rfl, .inl ⟨rfl, hi⟩, h⟩

theorem wpOp_of_list {i : Nat} {a : Act} {w : World} {oi : Oper} (hi : ops[i]? = some oi) {R : Exit → Act → World → Prop} {Q' : Exit → Act → World → Prop}
    (hR : ∀ e a w, R e a w → e = .normal) (h : wpList P ops R [oi] a w) : wpOp P ops Q' i (fun a' w' => R .normal a' w') a w := by
  unfold wpOp
  simp only [hi]
  simp only [wpList] at h
  split
  · rename_i hw
    rw [if_pos hw] at h
    rcases h with h | ⟨_, a0, w0, h0⟩
    · refine .inl ?_
      unfold Oper.wp at h ⊢
      generalize (execOp a.eval oi).run P w = r at h ⊢
      cases r with
      | ok n w' =>
        cases n <;> simp only [Oper.upon] at h ⊢ <;> try exact h
        case enter f args =>
          refine h.mono fun e w'' he => ?_
          cases e with
          | returned v => exact he
          | panicked c => exact absurd (hR _ _ _ he) (by simp)
          | outgrown => obtain ⟨a1, w1, he⟩ := he; exact absurd (hR _ _ _ he) (by simp)
      | halt x w' =>
        cases x <;> simp only [Oper.upon] at h ⊢
        case panic v => exact absurd (hR _ _ _ h) (by simp)
    · exact absurd (hR _ _ _ h0) (by simp)
  · rename_i hw
    rw [if_neg hw] at h
    exact h

def readyB (ops : Array Oper) (done rs : List Nat) : Bool := decide (done.length < ops.size) && decide (Region.ready .any ops (marks ops.size done) = rs) && rs.all fun i => (ops[i]?).isSome

theorem WX.effs {done : List Nat} {a : Act} {w : World} (rs : List Nat) (hB : readyB ops done rs = true) (hne : rs ≠ [])
    (h : ∀ i ∈ rs, wpList P ops (After P ops Q S last done i) (pick ops.toList [i]) a w) : WX P ops Q S last done a w := by
  intro inv
  simp only [readyB, Bool.and_eq_true, decide_eq_true_eq, List.all_eq_true] at hB
  obtain ⟨⟨hlen, hr⟩, hsome⟩ := hB
  have e : ops.size - done.length = (ops.size - (done.length + 1)) + 1 := by omega
  rw [e]
  refine ⟨fun h0 => absurd (hr ▸ h0) hne, fun i hi => ?_⟩
  have hi' := hi
  rw [hr] at hi'
  obtain ⟨oi, hoi⟩ := Option.isSome_iff_exists.1 (hsome i hi')
  have h1 := h i hi'
  have hpk : pick ops.toList [i] = [oi] := by
    have : ops.toList[i]? = some oi := by simpa using hoi
    simp only [pick, List.map_cons, List.map_nil, List.getD, this, Option.getD_some]
  rw [hpk] at h1
  refine wpOp_mono (fun a' w' ⟨_, h3, h4⟩ => ⟨h3, ?_⟩) (wpOp_of_list hoi (fun _ _ _ h => h.1) h1)
  have h5 := h4 (by rw [marks_snoc]; exact inv.set hi)
  rw [marks_snoc] at h5
  simpa using h5

/-- THE ONE OPERATION THAT MAY COME UP NOW. -/
theorem WX.eff {done : List Nat} {a : Act} {w : World} (i : Nat) (hB : readyB ops done [i] = true)
    (h : wpList P ops (After P ops Q S last done i) (pick ops.toList [i]) a w) : WX P ops Q S last done a w :=
  WX.effs [i] hB (by simp) (fun j hj => by rw [List.mem_singleton.1 hj]; exact h)

/-- TWO MAY COME UP. -/
theorem WX.eff2 {done : List Nat} {a : Act} {w : World} (i j : Nat) (hB : readyB ops done [i, j] = true)
    (h1 : wpList P ops (After P ops Q S last done i) (pick ops.toList [i]) a w) (h2 : wpList P ops (After P ops Q S last done j) (pick ops.toList [j]) a w) : WX P ops Q S last done a w :=
  WX.effs [i, j] hB (by simp) (fun k hk => by
    simp only [List.mem_cons, List.not_mem_nil, or_false] at hk
    rcases hk with rfl | rfl
    · exact h1
    · exact h2)

theorem WX.done {done : List Nat} {a : Act} {w : World} (hB : (Region.ready .any ops (marks ops.size done)).isEmpty = true) (h : Q .normal a w) : WX P ops Q S last done a w := by
  intro _
  have hr : Region.ready .any ops (marks ops.size done) = [] := by simpa using hB
  cases ops.size - done.length with
  | zero => exact ⟨hr, rfl, h⟩
  | succ n => exact ⟨fun _ => ⟨rfl, h⟩, by rw [hr]; simp⟩

/-- THE BEGINNING. -/
theorem wp_region_X {id : Nat} {a : Act} {w : World} (S : World → Prop) (last : Bool) (hm : P.follows .mixedOrders = true) (h : WX P ops Q S last [] a w.drew) : (Code.region id ops true).wp P Q a w := by
  have h1 := h (Closed.start ops)
  refine Code.wp_mono (fun e a w ⟨he, hq⟩ => by subst he; exact hq) (wp_region_any (Q := fun e a w => e = .normal ∧ Q .normal a w) hm ?_)
  exact wpAny_of_X _ _ _ _ h1

/-- Of the world at hand no more is kept than R. -/
theorem wp_world {c : Code} {a : Act} {W : World} (R : World → Prop) (hR : R W) (h : ∀ w2, R w2 → c.wp P Q a w2) : c.wp P Q a W := h W hR
theorem wpList_world {l : List Oper} {a : Act} {W : World} (R : World → Prop) (hR : R W) (h : ∀ w2, R w2 → wpList P ops Q l a w2) : wpList P ops Q l a W := h W hR
end
end Go.Xr
