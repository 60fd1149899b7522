/- Several texts put together: Reg, Mem, Own, Word, Build, Copy, Slice, AppS, Det, Slice2, Rf, Zero, One. What each shows stands ahead of it. -/
import Derived.OrdersHeld
import Derived.Tactics
import Derived.Deep.QuietTactic
import Derived.BigQuiet
import Derived.Deep.DeepCutAuto
import Derived.Deep.CutBlock
import Derived.WalkKit
import Derived.ArgAppend
import Derived.Laws.IdiomStrings
import Derived.Laws.MakeOwn
import Derived.Deep.Quiet
import Derived.Lib.AppendStr
import Derived.Great.Ranges
import Derived.RangeFuncNested
import Derived.RangeFuncBound
import Derived.RangeFuncCalls
import Derived.RangeFuncLeaves
import Derived.OwnWalkIn
import Derived.TacticsInMore
import Derived.LoopNIn
import Derived.LoopIn
import Derived.Laws.BitsLemmas
/- A region that draws its order, walked once: what only reads is taken as soon as it may come up; what makes or writes memory comes when it alone may come up. Conditions: S holds before and behind each writing operation (but behind the last one of all). -/
namespace Go.Xr
open Go
section
variable {P : Program} {ops : Array Oper} {Q : Exit → Act → World → Prop} {S : World → Prop} {last : Bool}

def waitsFor (ops : Array Oper) (j i : Nat) : Bool :=
  match ops[j]? with
  | some oj => oj.after.any fun e => Region.binds .any e && e.on == i
  | none => false

theorem waitsFor_spec {j i : Nat} (h : waitsFor ops j i = true) : ∃ oj, ops[j]? = some oj ∧ ∃ e ∈ oj.after, Region.binds .any e = true ∧ e.on = i := by
  unfold waitsFor at h
  split at h
  · rename_i oj hj
    obtain ⟨e, he, hb⟩ := Array.any_eq_true'.1 h
    simp only [Bool.and_eq_true, beq_iff_eq] at hb
    exact ⟨oj, hj, e, he, hb.1, hb.2⟩
  · cases h

/-- Each operation below n is waited for by a later one up to n. -/
def sinkB (ops : Array Oper) (n : Nat) : Bool :=
  (List.range n).all fun i => (List.range (n + 1)).any fun j => decide (i < j) && waitsFor ops j i

theorem getD_both {listed : Array Bool} {i : Nat} (h : listed.getD i true = false) : listed.getD i false = false := by
  rcases Nat.lt_or_ge i listed.size with h' | h'
  · simp [h'] at h ⊢; exact h
  · simp [Array.getElem?_eq_none h'] at h

theorem getD_in {listed : Array Bool} {i : Nat} (hi : i < listed.size) (h : listed.getD i false = false) : listed.getD i true = false := by
  simp [hi] at h ⊢; exact h

theorem getD_replicate_false (m j : Nat) : (Array.replicate m false).getD j false = false := by
  rcases Nat.lt_or_ge j m with h | h
  · simp [h]
  · simp [h]

/-- Whatever order is picked from here on; S holds behind each operation (if 'last': but behind the last of all). -/
def wpAnyX (P : Program) (ops : Array Oper) (Q : Exit → Act → World → Prop) (S : World → Prop) (last : Bool) : Nat → Array Bool → Act → World → Prop
  | 0, listed, a, w => Region.ready .any ops listed = [] ∧ Q .normal a w
  | fuel + 1, listed, a, w =>
    (Region.ready .any ops listed = [] → Q .normal a w) ∧
    ∀ i ∈ Region.ready .any ops listed, wpOp P ops Q i (fun a' w' => ((last = true ∧ i + 1 = ops.size) ∨ S w') ∧ wpAnyX P ops Q S last fuel (listed.setIfInBounds i true) a' w') a w

theorem wpAny_of_X : ∀ (fuel : Nat) (listed : Array Bool) (a : Act) (w : World), wpAnyX P ops Q S last fuel listed a w → wpAny P .any ops Q fuel listed a w
  | 0, _, _, _, h => h
  | fuel + 1, _, _, _, h => ⟨h.1, fun i hi => wpOp_mono (fun a' w' h' => wpAny_of_X fuel _ a' w' h'.2) (h.2 i hi)⟩

structure Closed (ops : Array Oper) (listed : Array Bool) : Prop where
  size : listed.size = ops.size
  closed : ∀ j oj, ops[j]? = some oj → listed.getD j false = true → ∀ e ∈ oj.after, Region.binds .any e = true → listed.getD e.on false = true

theorem Closed.start (ops : Array Oper) : Closed ops (Array.replicate ops.size false) :=
  ⟨by simp, fun j oj _ hl => by rw [getD_replicate_false] at hl; cases hl⟩

theorem Closed.set {listed : Array Bool} {i : Nat} (inv : Closed ops listed) (hi : i ∈ Region.ready .any ops listed) : Closed ops (listed.setIfInBounds i true) := by
  obtain ⟨_, oi, hoi, hall⟩ := mem_ready.1 hi
  refine ⟨by simp [inv.size], fun j oj hj hl e he hb => ?_⟩
  by_cases hij : i = j
  · subst hij
    have : oj = oi := Option.some.inj (hj.symm.trans hoi)
    subst this
    exact getD_set_true (hall e he hb)
  · rw [getD_set_ne false hij] at hl
    exact getD_set_true (inv.closed j oj hj hl e he hb)

theorem sink_waits {n : Nat} {listed : Array Bool} (hs : sinkB ops n = true) (hn : n < ops.size) (inv : Closed ops listed) :
    ∀ (d i : Nat), n - i = d → i < n → listed.getD i true = false → n ∉ Region.ready .any ops listed := by
  intro d
  induction d using Nat.strongRecOn with
  | _ d ih =>
    intro i hd hi hun hr
    obtain ⟨_, ot, hot, hall⟩ := mem_ready.1 hr
    have h1 := List.all_eq_true.1 hs i (List.mem_range.2 hi)
    obtain ⟨j, hj, hj2⟩ := List.any_eq_true.1 h1
    simp only [Bool.and_eq_true, decide_eq_true_eq] at hj2
    obtain ⟨oj, hoj, e, he, hb, hon⟩ := waitsFor_spec hj2.2
    have hjle : j ≤ n := by have := List.mem_range.1 hj; omega
    by_cases hjt : j = n
    · subst hjt
      have : oj = ot := Option.some.inj (hoj.symm.trans hot)
      subst this
      have h2 := hall e he hb
      rw [hon, getD_both hun] at h2
      cases h2
    · cases hl : listed.getD j false with
      | true =>
        have h2 := inv.closed j oj hoj hl e he hb
        rw [hon, getD_both hun] at h2
        cases h2
      | false =>
        have hjs : j < listed.size := by rw [inv.size]; omega
        exact ih (n - j) (by omega) j rfl (by omega) (getD_in hjs hl) hr

theorem wpAnyX_first {i : Nat} {oi : Oper} {v : Value} (hi : ops[i]? = some oi) (hsel : ∀ (j : Nat) (o : Oper) cs b, ops[j]? = some o → o.op ≠ .select cs b)
    (hQ : ∀ c a w, Q (.panic c) (a.put oi.dst v) w → Q (.panic c) a w) (hlast : last = true → sinkB ops (ops.size - 1) = true) :
    ∀ (fuel : Nat) (listed : Array Bool) (a : Act) (w : World), Closed ops listed →
      (∀ j oj, ops[j]? = some oj → j ≠ i → listed.getD j true = false → (∀ e ∈ oj.after, Region.binds .any e = true → e.on ≠ i) → oi.apart ops oj = true) →
      i ∈ Region.ready .any ops listed → YieldsIf P ops S oi v a → S w →
      wpAnyX P ops Q S last fuel (listed.setIfInBounds i true) (a.put oi.dst v) w → wpAnyX P ops Q S last (fuel + 1) listed a w := by
  intro fuel
  induction fuel with
  | zero =>
    intro listed a w _ _ hr hy hS H
    refine ⟨fun h => (by rw [h] at hr; cases hr), fun j hj => ?_⟩
    by_cases hji : j = i
    · subst hji; exact hy.wpOp hi hS ⟨.inr hS, H⟩
    · have := ready_mono hj hji
      rw [H.1] at this
      cases this
  | succ fuel ih =>
    intro listed a w inv hfree hr hy hS H
    refine ⟨fun h => (by rw [h] at hr; cases hr), fun j hj => ?_⟩
    by_cases hji : j = i
    · subst hji; exact hy.wpOp hi hS ⟨.inr hS, H⟩
    · have h1 := H.2 j (ready_mono hj hji)
      obtain ⟨hjun, oj, hoj, hall⟩ := mem_ready.1 hj
      have hiun := (mem_ready.1 hr).1
      have hilt : i < ops.size := (Array.getElem?_eq_some_iff.1 hi).1
      have hjlt : j < ops.size := (Array.getElem?_eq_some_iff.1 hoj).1
      have hnot : ∀ e ∈ oj.after, Region.binds .any e = true → e.on ≠ i := fun e he hb heq => by
        have h1 := hall e he hb
        have h0 := (mem_ready.1 hr).1
        rw [heq] at h1
        rcases Nat.lt_or_ge i listed.size with h' | h'
        · simp [h'] at h0 h1; rw [h0] at h1; cases h1
        · simp [Array.getElem?_eq_none h'] at h1
      have hnl : ¬ (last = true ∧ j + 1 = ops.size) := fun ⟨hl, hj1⟩ => by
        have hjn : j = ops.size - 1 := by omega
        have hs := hlast hl
        exact sink_waits hs (by omega) inv _ i rfl (by omega) hiun (hjn ▸ hj)
      have h2 := wpOp_putIf hoj (hfree j oj hoj hji hjun hnot) (fun cs b => hsel i oi cs b hi) (fun cs b => hsel j oj cs b hoj) hQ hy h1
      have hfree' : ∀ k ok, ops[k]? = some ok → k ≠ i → (listed.setIfInBounds j true).getD k true = false →
          (∀ e ∈ ok.after, Region.binds .any e = true → e.on ≠ i) → oi.apart ops ok = true := fun k ok hk hki hun hno => by
        refine hfree k ok hk hki ?_ hno
        by_cases hjk : j = k
        · subst hjk; exact hjun
        · rw [getD_set_ne true hjk] at hun; exact hun
      refine wpOp_mono (fun a' w' h3 => ?_) h2
      obtain ⟨hy', h4, h5⟩ := h3
      have h4 := h4.resolve_left hnl
      exact ⟨.inr h4, ih (listed.setIfInBounds j true) a' w' (inv.set hj) hfree' (ready_mono hr (Ne.symm hji)) hy' h4 (by rw [Array.setIfInBounds_comm _ _ hji]; exact h5)⟩

/-- The operations that have come up, as the array of marks. -/
def marks (n : Nat) (done : List Nat) : Array Bool := done.foldl (fun m i => m.setIfInBounds i true) (Array.replicate n false)

theorem marks_snoc (n : Nat) (done : List Nat) (i : Nat) : marks n (done ++ [i]) = (marks n done).setIfInBounds i true := by
  simp [marks]

/-- The state of a walk: those in 'done' have come up. The last operation of the region may break S (if 'last'). -/
def WX (P : Program) (ops : Array Oper) (Q : Exit → Act → World → Prop) (S : World → Prop) (last : Bool) (done : List Nat) (a : Act) (w : World) : Prop :=
  Closed ops (marks ops.size done) → wpAnyX P ops (fun e a w => e = .normal ∧ Q .normal a w) S last (ops.size - done.length) (marks ops.size done) a w

def pick (l : List Oper) (seg : List Nat) : List Oper := seg.map fun i => l.getD i default

/-- What runs code, waits, or leaves nothing is no plain operation. -/
def plainOp (o : Oper) : Bool :=
  match o.op with
  | .move _ | .assign _ | .pick .. | .build .. | .load .. | .nilCheck _ | .binOp .. | .unOp .. | .convert .. | .sliceToArrayPointer .. | .slice .. | .fieldAddr .. | .field .. | .indexAddr .. | .index .. | .extract .. | .lookup .. | .makeInterface .. | .makeFunc .. | .typeAssert .. => true
  | .call { callee := .builtin .len, .. } | .call { callee := .builtin .cap, .. } | .call { callee := .builtin .min, .. } | .call { callee := .builtin .max, .. } => true
  | _ => false

theorem value_of_bind {s : Sem Value} {w w' : World} {nx : Next} (h : (do pure (.value (← s)) : Sem Next).run P w = .ok nx w') : ∃ v, nx = .value v := by
  have h2 : (Sem.bind s (fun x => Sem.pure (Next.value x))).run P w = .ok nx w' := h
  have e : (Sem.bind s (fun x => Sem.pure (Next.value x))).run P w = (s.run P w).andThen (fun v w => .ok (.value v) w) := by
    rw [Sem.run_bind']; rfl
  rw [e] at h2
  cases hs : s.run P w with
  | ok v w1 => rw [hs] at h2; simp [Result.andThen] at h2; exact ⟨v, h2.1.symm⟩
  | halt x w1 => rw [hs] at h2; simp [Result.andThen] at h2

/-- An operation of a plain kind hands back a value, or ends the walk. -/
theorem plain_value {ρ : Operand → Value} {o : Oper} {w w' : World} {nx : Next} (hp : plainOp o = true) (h : (execOp ρ o).run P w = .ok nx w') : ∃ v, nx = .value v := by
  obtain ⟨dst, op, ty, pos, after, guard⟩ := o
  cases op with
  | move x => simp [execOp] at h; exact ⟨_, h.1.symm⟩
  | assign x => simp [execOp] at h; exact ⟨_, h.1.symm⟩
  | pick c a b =>
    simp only [execOp, Sem.run_bind] at h
    cases hs : (asBool (ρ c)).run P w with
    | ok v w1 => rw [hs] at h; simp at h; exact ⟨_, h.1.symm⟩
    | halt x w1 => rw [hs] at h; simp at h
  | nilCheck x =>
    simp only [execOp] at h
    split at h
    · exact absurd h (by simp [runtimePanic, goPanic, Sem.run])
    · exact absurd h (by simp [runtimePanic, goPanic, Sem.run])
    · exact absurd h (by simp [runtimePanic, goPanic, Sem.run])
    · split at h
      · exact absurd h (by simp [runtimePanic, goPanic, Sem.run])
      · simp only [Sem.run_bind, program, Sem.run, Result.andThen_ok] at h
        generalize (nilAhead _ _ _ _ : Sem (Option Bool)).run P w = r at h
        cases r with
        | halt x w1 => simp [Result.andThen] at h
        | ok v w1 =>
          simp only [Result.andThen_ok] at h
          split at h
          · simp [unsupported, Sem.run, Result.andThen] at h
          · simp at h; exact ⟨_, h.1.symm⟩
      · simp at h; exact ⟨_, h.1.symm⟩
    · simp at h; exact ⟨_, h.1.symm⟩
  | call c =>
    obtain ⟨callee, args, ats⟩ := c
    cases callee with
    | value _ => simp [plainOp] at hp
    | invoke _ _ => simp [plainOp] at hp
    | builtin b =>
      cases b with
      | len => exact value_of_bind (s := Builtin.len_ _ _ _) h
      | cap => exact value_of_bind (s := Builtin.cap_ _ _ _) h
      | min => exact value_of_bind (s := Builtin.min_ _ _ _) h
      | max => exact value_of_bind (s := Builtin.max_ _ _ _) h
      | _ => simp [plainOp] at hp
  | build _ _ => exact value_of_bind h
  | load _ _ => exact value_of_bind h
  | binOp _ _ _ _ _ => exact value_of_bind h
  | unOp _ _ _ => exact value_of_bind h
  | convert _ _ _ => exact value_of_bind h
  | sliceToArrayPointer _ _ => exact value_of_bind h
  | slice _ _ _ _ _ => exact value_of_bind h
  | fieldAddr _ _ _ => exact value_of_bind h
  | field _ _ _ => exact value_of_bind h
  | indexAddr _ _ _ => exact value_of_bind h
  | index _ _ _ => exact value_of_bind h
  | extract _ _ => exact value_of_bind h
  | lookup _ _ _ _ => exact value_of_bind h
  | makeInterface _ _ => exact value_of_bind h
  | makeFunc _ _ _ => exact value_of_bind h
  | typeAssert _ _ _ _ => exact value_of_bind h
  | _ => simp [plainOp] at hp

/-- One more has come up: it is taken first, for it only reads. -/
def takeB (ops : Array Oper) (done : List Nat) (i : Nat) : Bool :=
  decide (done.length < ops.size) && (Region.ready .any ops (marks ops.size done)).contains i && Region.free .any ops (marks ops.size done) i &&
    ((ops[i]?).map plainOp).getD false

def takesB (ops : Array Oper) : List Nat → List Nat → Bool
  | _, [] => true
  | done, i :: seg => takeB ops done i && takesB ops (done ++ [i]) seg

def pureB (ops : Array Oper) (last : Bool) (done seg : List Nat) : Bool :=
  Region.noSelect ops && (!last || sinkB ops (ops.size - 1)) && takesB ops done seg

/-- The worlds that meet S, as a family: in a piece that only reads the walk goes through 'W j', j whatever. -/
theorem family (S : World → Prop) {w : World} (h : S w) : ∃ (ι : Type) (W : ι → World), Nonempty ι ∧ (∀ j, S (W j)) ∧ (∀ w, S w → ∃ j, w = W j) ∧ ∃ j, w = W j :=
  ⟨{w' // S w'}, Subtype.val, ⟨⟨w, h⟩⟩, fun j => j.2, fun w h => ⟨⟨w, h⟩, rfl⟩, ⟨⟨w, h⟩, rfl⟩⟩

theorem yields_of_quiet {o : Oper} {a : Act} {v : Value} (hp : plainOp o = true) (h : ∀ w, S w → o.quietAt P a S w v) (w : World) (hS : S w) : (execOp a.eval o).run P w = .ok (.value v) w := by
  have h1 := h w hS
  unfold Oper.quietAt at h1
  cases hr : (execOp a.eval o).run P w with
  | halt x w' => rw [hr] at h1; simp [Oper.quietUpon] at h1
  | ok nx w' =>
    obtain ⟨u, rfl⟩ := plain_value hp hr
    rw [hr] at h1
    simp only [Oper.quietUpon] at h1
    obtain ⟨rfl, rfl⟩ := h1
    rfl

theorem WX.take {done : List Nat} {i : Nat} {a : Act} {w : World} {oi : Oper} {v : Value} (hi : ops[i]? = some oi) (hsel : Region.noSelect ops = true)
    (hlast : last = true → sinkB ops (ops.size - 1) = true) (hB : takeB ops done i = true) (hS : S w) (hy : YieldsIf P ops S oi v a)
    (h : WX P ops Q S last (done ++ [i]) (a.put oi.dst v) w) : WX P ops Q S last done a w := by
  intro inv
  simp only [takeB, Bool.and_eq_true, decide_eq_true_eq] at hB
  obtain ⟨⟨⟨hlen, hr⟩, hf⟩, _⟩ := hB
  have hr' : i ∈ Region.ready .any ops (marks ops.size done) := by simpa using hr
  have h2 := h (by rw [marks_snoc]; exact inv.set hr')
  rw [marks_snoc] at h2
  have e : ops.size - done.length = (ops.size - (done ++ [i]).length) + 1 := by simp; omega
  rw [e]
  exact wpAnyX_first hi (Region.noSelect_spec hsel) (fun c a w hq => by simp at hq) hlast _ _ a w inv (Region.free_spec hi hf) hr' hy hS h2

/-- SEVERAL OPERATIONS THAT ONLY READ, one behind the other. -/
theorem WX.pure' (hsel : Region.noSelect ops = true) (hlast : last = true → sinkB ops (ops.size - 1) = true) {w : World} (hS : S w) :
    ∀ (seg done : List Nat) (a : Act), takesB ops done seg = true →
      wpQuiet P ops S (fun a' => WX P ops Q S last (done ++ seg) a' w) (pick ops.toList seg) a → WX P ops Q S last done a w
  | [], done, a, _, h => by simpa [pick, wpQuiet] using h
  | i :: seg, done, a, hB, h => by
    simp only [takesB, Bool.and_eq_true] at hB
    have hB1 := hB.1
    simp only [takeB, Bool.and_eq_true] at hB1
    have hp := hB1.2
    cases hi : ops[i]? with
    | none => simp [hi] at hp
    | some oi =>
      simp only [hi, Option.map_some, Option.getD_some] at hp
      have hpk : pick ops.toList (i :: seg) = oi :: pick ops.toList seg := by
        have : ops.toList[i]? = some oi := by simpa using hi
        simp only [pick, List.map_cons, List.getD, this, Option.getD_some]
      rw [hpk] at h
      have happ : done ++ (i :: seg) = (done ++ [i]) ++ seg := by simp
      rw [happ] at h
      simp only [wpQuiet] at h
      by_cases hw : Region.wanted oi (yielded ops a.tmps) = true
      · rw [if_pos hw] at h
        obtain ⟨v, h1, h2⟩ := h
        exact WX.take hi hsel hlast hB.1 hS (.inl ⟨hw, fun w' hS' => yields_of_quiet hp h1 w' hS'⟩) (WX.pure' hsel hlast hS seg (done ++ [i]) _ hB.2 h2)
      · rw [if_neg hw] at h
        exact WX.take hi hsel hlast hB.1 hS (.inr ⟨by simpa using hw, rfl⟩) (WX.pure' hsel hlast hS seg (done ++ [i]) _ hB.2 h)

theorem WX.pure {done : List Nat} {a : Act} {w : World} (seg : List Nat) (hB : pureB ops last done seg = true) (hS : S w)
    (h : wpQuiet P ops S (fun a' => WX P ops Q S last (done ++ seg) a' w) (pick ops.toList seg) a) : WX P ops Q S last done a w := by
  simp only [pureB, Bool.and_eq_true, Bool.or_eq_true, Bool.not_eq_true'] at hB
  exact WX.pure' hB.1.1 (fun hl => by simpa [hl] using hB.1.2) hS seg done a hB.2 h

/-- What is asked behind an operation that makes or writes memory. -/
def After (P : Program) (ops : Array Oper) (Q : Exit → Act → World → Prop) (S : World → Prop) (last : Bool) (done : List Nat) (i : Nat) : Exit → Act → World → Prop :=
  fun e a w => e = .normal ∧ ((last = true ∧ i + 1 = ops.size) ∨ S w) ∧ WX P ops Q S last (done ++ [i]) a w

theorem After.on {done : List Nat} {i : Nat} {a : Act} {w : World} (hS : S w) (h : WX P ops Q S last (done ++ [i]) a w) : After P ops Q S last done i .normal a w := ⟨rfl, .inr hS, h⟩
theorem After.end {done : List Nat} {i : Nat} {a : Act} {w : World} (hi : i + 1 = ops.size) (h : WX P ops Q S true (done ++ [i]) a w) : After P ops Q S true done i .normal a w := ⟨rfl, .inl ⟨rfl, hi⟩, h⟩

theorem wpOp_of_list {i : Nat} {a : Act} {w : World} {oi : Oper} (hi : ops[i]? = some oi) {R : Exit → Act → World → Prop} {Q' : Exit → Act → World → Prop}
    (hR : ∀ e a w, R e a w → e = .normal) (h : wpList P ops R [oi] a w) : wpOp P ops Q' i (fun a' w' => R .normal a' w') a w := by
  unfold wpOp
  simp only [hi]
  simp only [wpList] at h
  split
  · rename_i hw
    rw [if_pos hw] at h
    rcases h with h | ⟨_, a0, w0, h0⟩
    · refine .inl ?_
      unfold Oper.wp at h ⊢
      generalize (execOp a.eval oi).run P w = r at h ⊢
      cases r with
      | ok n w' =>
        cases n <;> simp only [Oper.upon] at h ⊢ <;> try exact h
        case enter f args =>
          refine h.mono fun e w'' he => ?_
          cases e with
          | returned v => exact he
          | panicked c => exact absurd (hR _ _ _ he) (by simp)
          | outgrown => obtain ⟨a1, w1, he⟩ := he; exact absurd (hR _ _ _ he) (by simp)
      | halt x w' =>
        cases x <;> simp only [Oper.upon] at h ⊢
        case panic v => exact absurd (hR _ _ _ h) (by simp)
    · exact absurd (hR _ _ _ h0) (by simp)
  · rename_i hw
    rw [if_neg hw] at h
    exact h

def readyB (ops : Array Oper) (done rs : List Nat) : Bool := decide (done.length < ops.size) && decide (Region.ready .any ops (marks ops.size done) = rs) && rs.all fun i => (ops[i]?).isSome

theorem WX.effs {done : List Nat} {a : Act} {w : World} (rs : List Nat) (hB : readyB ops done rs = true) (hne : rs ≠ [])
    (h : ∀ i ∈ rs, wpList P ops (After P ops Q S last done i) (pick ops.toList [i]) a w) : WX P ops Q S last done a w := by
  intro inv
  simp only [readyB, Bool.and_eq_true, decide_eq_true_eq, List.all_eq_true] at hB
  obtain ⟨⟨hlen, hr⟩, hsome⟩ := hB
  have e : ops.size - done.length = (ops.size - (done.length + 1)) + 1 := by omega
  rw [e]
  refine ⟨fun h0 => absurd (hr ▸ h0) hne, fun i hi => ?_⟩
  have hi' := hi
  rw [hr] at hi'
  obtain ⟨oi, hoi⟩ := Option.isSome_iff_exists.1 (hsome i hi')
  have h1 := h i hi'
  have hpk : pick ops.toList [i] = [oi] := by
    have : ops.toList[i]? = some oi := by simpa using hoi
    simp only [pick, List.map_cons, List.map_nil, List.getD, this, Option.getD_some]
  rw [hpk] at h1
  refine wpOp_mono (fun a' w' ⟨_, h3, h4⟩ => ⟨h3, ?_⟩) (wpOp_of_list hoi (fun _ _ _ h => h.1) h1)
  have h5 := h4 (by rw [marks_snoc]; exact inv.set hi)
  rw [marks_snoc] at h5
  simpa using h5

/-- THE ONE OPERATION THAT MAY COME UP NOW. -/
theorem WX.eff {done : List Nat} {a : Act} {w : World} (i : Nat) (hB : readyB ops done [i] = true)
    (h : wpList P ops (After P ops Q S last done i) (pick ops.toList [i]) a w) : WX P ops Q S last done a w :=
  WX.effs [i] hB (by simp) (fun j hj => by rw [List.mem_singleton.1 hj]; exact h)

/-- TWO MAY COME UP. -/
theorem WX.eff2 {done : List Nat} {a : Act} {w : World} (i j : Nat) (hB : readyB ops done [i, j] = true)
    (h1 : wpList P ops (After P ops Q S last done i) (pick ops.toList [i]) a w) (h2 : wpList P ops (After P ops Q S last done j) (pick ops.toList [j]) a w) : WX P ops Q S last done a w :=
  WX.effs [i, j] hB (by simp) (fun k hk => by
    simp only [List.mem_cons, List.not_mem_nil, or_false] at hk
    rcases hk with rfl | rfl
    · exact h1
    · exact h2)

theorem WX.done {done : List Nat} {a : Act} {w : World} (hB : (Region.ready .any ops (marks ops.size done)).isEmpty = true) (h : Q .normal a w) : WX P ops Q S last done a w := by
  intro _
  have hr : Region.ready .any ops (marks ops.size done) = [] := by simpa using hB
  cases ops.size - done.length with
  | zero => exact ⟨hr, rfl, h⟩
  | succ n => exact ⟨fun _ => ⟨rfl, h⟩, by rw [hr]; simp⟩

/-- THE BEGINNING. -/
theorem wp_region_X {id : Nat} {a : Act} {w : World} (S : World → Prop) (last : Bool) (hm : P.follows .mixedOrders = true) (h : WX P ops Q S last [] a w.drew) : (Code.region id ops true).wp P Q a w := by
  have h1 := h (Closed.start ops)
  refine Code.wp_mono (fun e a w ⟨he, hq⟩ => by subst he; exact hq) (wp_region_any (Q := fun e a w => e = .normal ∧ Q .normal a w) hm ?_)
  exact wpAny_of_X _ _ _ _ h1

/-- Of the world at hand no more is kept than R. -/
theorem wp_world {c : Code} {a : Act} {W : World} (R : World → Prop) (hR : R W) (h : ∀ w2, R w2 → c.wp P Q a w2) : c.wp P Q a W := h W hR
theorem wpList_world {l : List Oper} {a : Act} {W : World} (R : World → Prop) (hR : R W) (h : ∀ w2, R w2 → wpList P ops Q l a w2) : wpList P ops Q l a W := h W hR
end
end Go.Xr

/- Memory told by whole blocks; what a step leaves alone; the steps that read and write rows of cells. -/
namespace Go.Xr
open Go Go.RowKit

/-- A fact that the walk is not to see. -/
theorem hid {p : Prop} (h : p) : Hid p := h

/-- Block b holds the cells cs, and none of them is frozen. -/
def Blk (w : World) (b : Nat) (cs : List Value) : Prop :=
  ∃ (t : TypeId) (fr : Nat × Nat), w.heap[b]? = some (.cells cs.toArray t fr) ∧ ∀ i, i < cs.length → (decide (fr.1 ≤ i) && decide (i < fr.2)) = false

/-- Block b is a row of cells that nothing has marked. -/
def Pln (w : World) (b : Nat) : Prop := ∃ (t : TypeId) (cs : Array Value), w.heap[b]? = some (.cells cs t (0, 0))

/-- But for the blocks in S what was there is as it was; no block has gone. -/
structure Fr (S : List Nat) (w w' : World) : Prop where
  os : w'.os = w.os
  tape : w'.tape = w.tape
  output : w'.output = w.output
  size : w.heap.size ≤ w'.heap.size
  block : ∀ k, k < w.heap.size → k ∉ S → w'.heap[k]? = w.heap[k]?
  plain : ∀ k, Pln w k → Pln w' k

section
variable {w w' w1 w2 : World} {b : Nat} {cs : List Value} {S T : List Nat}

theorem Blk.cell (h : Blk w b cs) (o : Nat) : w.cell? ⟨b, o, none⟩ = cs[o]? := by
  obtain ⟨t, fr, hh, _⟩ := h
  simp [World.cell?, hh]
theorem Blk.free (h : Blk w b cs) (o : Nat) (ho : o < cs.length) : w.frozen? ⟨b, o, none⟩ = false := by
  obtain ⟨t, fr, hh, hf⟩ := h
  simp only [World.frozen?, hh]
  exact hf o ho
theorem Blk.lt (h : Blk w b cs) : b < w.heap.size := by
  obtain ⟨t, fr, hh, _⟩ := h
  exact (Array.getElem?_eq_some_iff.1 hh).1
theorem Blk.same (h : Blk w b cs) (e : w'.heap[b]? = w.heap[b]?) : Blk w' b cs := by
  obtain ⟨t, fr, hh, hf⟩ := h
  exact ⟨t, fr, e.trans hh, hf⟩
theorem Blk.eq {cs' : List Value} (h : Blk w b cs) (h' : Blk w b cs') : cs = cs' := by
  obtain ⟨t, fr, hh, _⟩ := h
  obtain ⟨t', fr', hh', _⟩ := h'
  rw [hh] at hh'
  exact (by simpa using (Option.some.inj hh') : cs = cs' ∧ _).1
theorem Blk.alloc (w : World) (cs : List Value) (t : TypeId) : Blk (w.alloc (.cells cs.toArray t)) w.heap.size cs :=
  ⟨t, (0, 0), heap_alloc_new w _, fun i _ => by simp⟩
theorem Blk.allocArr (w : World) (cs : Array Value) (t : TypeId) : Blk (w.alloc (.cells cs t)) w.heap.size cs.toList := by
  have := Blk.alloc w cs.toList t
  simpa using this
theorem Blk.old (h : Blk w b cs) (o : Obj) : Blk (w.alloc o) b cs := h.same (Below.heap_alloc w o b h.lt)
theorem Blk.drew (h : Blk w b cs) : Blk w.drew b cs := h
theorem Blk.drewN (h : Blk w b cs) (n : Nat) : Blk (w.drewN n) b cs := h
theorem Blk.set (h : Blk w b cs) (o : Nat) (v : Value) : Blk (w.setCell ⟨b, o, none⟩ v) b (cs.set o v) := by
  obtain ⟨t, fr, hh, hf⟩ := h
  refine ⟨t, fr, ?_, by simpa using hf⟩
  simp [World.setCell, Array.getElem?_modify, hh]
theorem Blk.set_ne (h : Blk w b cs) {a : Addr} (hne : b ≠ a.block) (v : Value) : Blk (w.setCell a v) b cs := h.same (heap_setCell_other w a b v hne)

theorem Pln.lt (h : Pln w b) : b < w.heap.size := by
  obtain ⟨t, cs, hh⟩ := h
  exact (Array.getElem?_eq_some_iff.1 hh).1
theorem Pln.same (h : Pln w b) (e : w'.heap[b]? = w.heap[b]?) : Pln w' b := by
  obtain ⟨t, cs, hh⟩ := h
  exact ⟨t, cs, e.trans hh⟩
theorem Pln.alloc (w : World) (cs : Array Value) (t : TypeId) : Pln (w.alloc (.cells cs t)) w.heap.size := ⟨t, cs, heap_alloc_new w _⟩
theorem Pln.old (h : Pln w b) (o : Obj) : Pln (w.alloc o) b := h.same (Below.heap_alloc w o b h.lt)
theorem Pln.setCell (h : Pln w b) (a : Addr) (v : Value) : Pln (w.setCell a v) b := by
  by_cases hb : b = a.block
  · obtain ⟨t, cs, hh⟩ := h
    subst hb
    exact ⟨t, (if a.spot.isSome = true then cs else cs.setIfInBounds a.off v), by simp only [World.setCell, Array.getElem?_modify, hh, if_true, Option.map_some]⟩
  · exact h.same (heap_setCell_other w a b v hb)
theorem Fr.refl (S : List Nat) (w : World) : Fr S w w := ⟨rfl, rfl, rfl, Nat.le_refl _, fun _ _ _ => rfl, fun _ h => h⟩
/-- Two steps: what the second may touch is among what the first may, or was made since. -/
theorem Fr.trans (h : Fr S w w1) (k : Fr T w1 w2) (hT : ∀ x ∈ T, x ∈ S ∨ w.heap.size ≤ x) : Fr S w w2 :=
  ⟨k.os.trans h.os, k.tape.trans h.tape, k.output.trans h.output, Nat.le_trans h.size k.size, fun i hi hn =>
    (k.block i (Nat.lt_of_lt_of_le hi h.size) (fun hx => by rcases hT i hx with h1 | h1; exact hn h1; omega)).trans (h.block i hi hn), fun i hi => k.plain i (h.plain i hi)⟩
theorem Fr.trans' (h : Fr S w w1) (k : Fr S w1 w2) : Fr S w w2 := h.trans k (fun _ hx => .inl hx)
theorem Fr.mono (h : Fr S w w') (hs : ∀ x ∈ S, x ∈ T ∨ w.heap.size ≤ x) : Fr T w w' :=
  ⟨h.os, h.tape, h.output, h.size, fun k hk hn => h.block k hk (fun hx => by rcases hs k hx with h1 | h1; exact hn h1; omega), h.plain⟩
theorem Fr.drew (h : Fr S w w') : Fr S w w'.drew := ⟨h.os, h.tape, h.output, h.size, h.block, h.plain⟩
theorem Fr.drewN (h : Fr S w w') (n : Nat) : Fr S w (w'.drewN n) := ⟨h.os, h.tape, h.output, h.size, h.block, h.plain⟩
theorem Fr.alloc (h : Fr S w w') (o : Obj) : Fr S w (w'.alloc o) :=
  ⟨h.os, h.tape, h.output, by simp; exact Nat.le_succ_of_le h.size, fun k hk hn => (Below.heap_alloc w' o k (Nat.lt_of_lt_of_le hk h.size)).trans (h.block k hk hn), fun k hk => (h.plain k hk).old o⟩
theorem Fr.setCell (h : Fr S w w') {a : Addr} (ha : a.block ∈ S ∨ w.heap.size ≤ a.block) (v : Value) : Fr S w (w'.setCell a v) :=
  ⟨h.os, h.tape, h.output, by simp; exact h.size, fun k hk hn => (heap_setCell_other w' a k v (fun e => by rcases ha with h1 | h1; exact hn (e ▸ h1); omega)).trans (h.block k hk hn), fun k hk => (h.plain k hk).setCell a v⟩
theorem Fr.blk (h : Fr S w w') (hb : Blk w b cs) (hn : b ∉ S) : Blk w' b cs := hb.same (h.block b hb.lt hn)
theorem Fr.below {B : Nat} (h : Fr S w w') (hB : B ≤ w.heap.size) (hS : ∀ x ∈ S, B ≤ x) : Below B w w' :=
  ⟨h.os, h.tape, h.output, h.size, fun k hk => h.block k (by omega) (fun hx => by have := hS k hx; omega)⟩
theorem Fr.of_below {B : Nat} (h : Below B w w') (hB : w.heap.size ≤ B) : Fr S w w' :=
  ⟨h.os, h.tape, h.output, h.size, fun k hk _ => h.block k (by omega), fun k hk => hk.same (h.block k (by have := hk.lt; omega))⟩
theorem Fr.cell_old {a : Addr} (h : Fr [] w w') (ha : a.block < w.heap.size) : w'.cell? a = w.cell? a := World.cell?_of_block (w := w) (h.block a.block ha (by simp))
theorem Fr.cell_some {w w' : World} {a : Addr} {v : Value} (f : Fr [] w w') (h : w.cell? a = some v) : w'.cell? a = some v := by
  rw [f.cell_old (World.block_lt_of_cell? _ _ h)]
  exact h
theorem Fr.frozen_some {w w' : World} {a : Addr} {v : Value} (f : Fr [] w w') (h : w.cell? a = some v) (hf : w.frozen? a = false) : w'.frozen? a = false :=
  (World.frozen?_of_block (w := w) (f.block a.block (World.block_lt_of_cell? _ _ h) (by simp))).trans hf
theorem Fr.lt (h : Fr S w w') (hb : b < w.heap.size) : b < w'.heap.size := Nat.lt_of_lt_of_le hb h.size

/-! ### A row of cells is written -/
def splice (cs : List Value) (off : Nat) (vs : List Value) : List Value := cs.take off ++ vs ++ cs.drop (off + vs.length)

theorem splice_length (cs : List Value) (off : Nat) (vs : List Value) (h : off + vs.length ≤ cs.length) : (splice cs off vs).length = cs.length := by
  simp [splice]; omega

theorem splice_cons (cs : List Value) (off : Nat) (v : Value) (vs : List Value) (h : off < cs.length) : splice (cs.set off v) (off + 1) vs = splice cs off (v :: vs) := by
  unfold splice
  have e1 : (cs.set off v).take (off + 1) = cs.take off ++ [v] := by
    rw [List.take_set, List.take_succ_eq_append_getElem h, List.set_append_right _ _ (by simp; omega)]
    simp [Nat.min_eq_left (Nat.le_of_lt h)]
  have e2 : (cs.set off v).drop (off + 1 + vs.length) = cs.drop (off + 1 + vs.length) := by
    rw [List.drop_set, if_pos (by omega)]
  rw [e1, e2]
  simp [Nat.add_comm, Nat.add_left_comm]

theorem Blk.setCells : ∀ (vs : List Value) (off : Nat) {w : World} {b : Nat} {cs : List Value}, Blk w b cs → off + vs.length ≤ cs.length → Blk (w.setCells b off vs) b (splice cs off vs) ∧ Fr [b] w (w.setCells b off vs)
  | [], off, w, b, cs, h, _ => by
    simp only [World.setCells, splice, List.append_nil, List.length_nil, Nat.add_zero, List.take_append_drop]
    exact ⟨h, Fr.refl _ _⟩
  | v :: vs, off, w, b, cs, h, hl => by
    simp only [List.length_cons] at hl
    have h1 := h.set off v
    obtain ⟨h2, h3⟩ := Blk.setCells vs (off + 1) h1 (by simp; omega)
    simp only [World.setCells]
    refine ⟨?_, (Fr.setCell (Fr.refl [b] w) (.inl (by simp)) v).trans' h3⟩
    rw [← splice_cons cs off v vs (by omega)]
    exact h2
end

/-! ### Bytes -/
def bt (c : UInt8) : Value := .int .u8 c.toNat
def bv (l : List UInt8) : List Value := l.map bt
@[simp] theorem bv_length (l : List UInt8) : (bv l).length = l.length := by simp [bv]
@[simp] theorem bv_append (l k : List UInt8) : bv (l ++ k) = bv l ++ bv k := by simp [bv]
theorem bv_take (l : List UInt8) (n : Nat) : (bv l).take n = bv (l.take n) := by simp [bv]
theorem bv_drop (l : List UInt8) (n : Nat) : (bv l).drop n = bv (l.drop n) := by simp [bv]
@[simp] theorem bv_nil : bv [] = [] := rfl
theorem bv_getElem? (l : List UInt8) (i : Nat) : (bv l)[i]? = l[i]?.map bt := by simp [bv]
theorem bv_set (l : List UInt8) (i : Nat) (c : UInt8) : bv (l.set i c) = (bv l).set i (bt c) := by simp [bv]
theorem bv_replicate (n : Nat) (c : UInt8) : bv (List.replicate n c) = List.replicate n (bt c) := by simp [bv]
theorem bv_inj {l k : List UInt8} (h : bv l = bv k) : l = k := by
  have hb : ∀ a b : UInt8, bt a = bt b → a = b := fun a b h => by
    simp only [bt, Value.int.injEq, true_and] at h
    exact UInt8.toNat_inj.1 (by omega)
  unfold bv at h
  exact List.map_inj_right (fun a b => hb a b) |>.1 h
theorem bv_one (l : List UInt8) : ∀ u ∈ bv l, u.oneCell' = true := by
  intro u hu
  obtain ⟨c, _, rfl⟩ := List.mem_map.1 hu
  rfl
theorem bt_one (c : UInt8) : (bt c).oneCell' = true := rfl

theorem size_mk' (l : List UInt8) : (ByteArray.mk l.toArray).size = l.length := by simp [ByteArray.size]

section
variable {P : Program} {ops : Array Oper} {Q : Exit → Act → World → Prop} {a : Act} {w : World} {K : Act → World → Prop} {rest : List Oper} {o : Oper}

/-- Cells of a block, from a place on, as loads see them. -/
theorem Blk.cells {w : World} {b : Nat} {cs : List Value} (h : Blk w b cs) {off : Nat} {vs : List Value} (hv : (cs.drop off).take vs.length = vs) :
    ∀ j u, vs[j]? = some u → w.cell? ((⟨b, off, none⟩ : Addr).add j) = some u := by
  intro j u hu
  have hadd : (⟨b, off, none⟩ : Addr).add j = ⟨b, off + j, none⟩ := by unfold Addr.add; split <;> simp_all
  rw [hadd, h.cell]
  have hj : j < vs.length := (List.getElem?_eq_some_iff.1 hu).1
  rw [← hv, List.getElem?_take, if_pos hj, List.getElem?_drop] at hu
  exact hu

def aggDesc : TypeDesc → Bool
  | .struct _ | .array _ _ => true
  | _ => false

theorem run_loadVar_agg (w : World) (ty : TypeId) (d : TypeDesc) (hu : P.underlying ty = some d) (hd : aggDesc d = true) {b off : Nat} {cs vs : List Value} (hb : Blk w b cs)
    (hv : (cs.drop off).take vs.length = vs) (hs : (P.info? ty).map (·.size) = some vs.length) : (loadVar ty ⟨b, off, none⟩).run P w = .ok (.agg vs.toArray) w := by
  have hl := run_loadCells_list (P := P) w ⟨b, off, none⟩ vs (hb.cells hv)
  cases hq : P.info? ty with
  | none => simp [hq] at hs
  | some i =>
    have hs' : i.size = vs.length := by simpa [hq] using hs
    have hagg : (isAgg ty).run P w = .ok true w := by
      unfold isAgg
      rw [Sem.run_bind, run_underlying hu w]
      cases d <;> simp_all [aggDesc]
    simp [loadVar, Sem.run_bind, hagg, sizeOf, typeInfo, hq, hs', hl]

theorem wp_load_agg (ty : TypeId) (x : Operand) (ho : o.op = .load ty x) {b off : Nat} (hx : a.eval x = .pointer (some ⟨b, off, none⟩)) {cs : List Value} (vs : List Value) (hb : Blk w b cs)
    (d : TypeDesc) (hu : P.underlying ty = some d) (hd : aggDesc d = true) (hs : (P.info? ty).map (·.size) = some vs.length) (hv : (cs.drop off).take vs.length = vs)
    (h : K (a.put o.dst (.agg vs.toArray)) w) : o.wp P a w K Q := by
  unfold Oper.wp execOp
  simp only [ho, hx, Instr.loadAt, Instr.sureAddr, Sem.run_bind, Sem.run_pure, Result.andThen_ok, run_loadVar_agg w ty d hu hd hb hv hs]
  exact h

theorem wpList_load_agg (hg : o.guard = none) (ty : TypeId) (x : Operand) (ho : o.op = .load ty x) {b off : Nat} (hx : a.eval x = .pointer (some ⟨b, off, none⟩)) {cs : List Value} (vs : List Value) (hb : Blk w b cs)
    (d : TypeDesc) (hu : P.underlying ty = some d) (hd : aggDesc d = true) (hs : (P.info? ty).map (·.size) = some vs.length) (hv : (cs.drop off).take vs.length = vs)
    (h : wpList P ops Q rest (a.put o.dst (.agg vs.toArray)) w) : wpList P ops Q (o :: rest) a w :=
  wpList_plain hg fun _ hK => wp_load_agg ty x ho hx vs hb d hu hd hs hv (hK _ _ h)

/-- The same in a piece of a drawn region that only reads: in every world of the class. -/
theorem quiet_load_agg {C : World → Prop} {Q' : Act → Prop} (hg : o.guard = none) (ty : TypeId) (x : Operand) (ho : o.op = .load ty x) {b off : Nat} (hx : a.eval x = .pointer (some ⟨b, off, none⟩)) {cs : List Value} (vs : List Value)
    (hb : ∀ w, C w → Blk w b cs) (d : TypeDesc) (hu : P.underlying ty = some d) (hd : aggDesc d = true) (hs : (P.info? ty).map (·.size) = some vs.length) (hv : (cs.drop off).take vs.length = vs)
    (h : wpQuiet P ops C Q' rest (a.put o.dst (.agg vs.toArray))) : wpQuiet P ops C Q' (o :: rest) a := by
  refine wpQuiet_step fun K hK => ?_
  rw [if_pos (by simp [Region.wanted, hg])]
  refine ⟨.agg vs.toArray, fun w hC => ?_, hK _ h⟩
  unfold Oper.quietAt execOp
  simp only [ho, hx, Instr.loadAt, Instr.sureAddr, Sem.run_bind, Sem.run_pure, Result.andThen_ok, run_loadVar_agg w ty d hu hd (hb w hC) hv hs]
  exact ⟨rfl, rfl⟩

theorem run_storeVar_agg (w : World) (ty : TypeId) {b off : Nat} {cs vs : List Value} (hb : Blk w b cs) (hs : (P.info? ty).map (·.size) = some vs.length) (hn : off + vs.length ≤ cs.length) (h1 : ∀ u ∈ vs, u.oneCell' = true) :
    (storeVar ty ⟨b, off, none⟩ (.agg vs.toArray)).run P w = .ok () (w.setCells b off vs) := by
  cases hq : P.info? ty with
  | none => simp [hq] at hs
  | some i =>
    have hs' : i.size = vs.length := by simpa [hq] using hs
    have hst := run_storeCells_cells (P := P) b off vs 0 w (fun j hj => by rw [hb.cell]; simp; omega) (fun j hj => hb.free _ (by omega)) h1
    simp only [Nat.add_zero] at hst
    simp [storeVar, sizeOf, typeInfo, hq, hs', Value.cells, hst]

theorem wp_store_agg (ty : TypeId) (x y : Operand) (ho : o.op = .store ty x y) {b off : Nat} (hx : a.eval x = .pointer (some ⟨b, off, none⟩)) {cs : List Value} (vs : List Value) (hy : a.eval y = .agg vs.toArray) (hb : Blk w b cs)
    (hs : (P.info? ty).map (·.size) = some vs.length) (hn : off + vs.length ≤ cs.length) (h1 : ∀ u ∈ vs, u.oneCell' = true)
    (h : ∀ w', Fr [b] w w' → Blk w' b (splice cs off vs) → w'.heap.size = w.heap.size → K (a.put o.dst undef) w') : o.wp P a w K Q := by
  unfold Oper.wp execOp
  simp only [ho, hx, hy, Instr.storeAt, Instr.sureAddr, Sem.run_bind, Sem.run_pure, Result.andThen_ok, run_storeVar_agg w ty hb hs hn h1]
  obtain ⟨h2, h3⟩ := Blk.setCells vs off hb hn
  have hsz : ∀ (vs : List Value) (off : Nat) (w : World), (w.setCells b off vs).heap.size = w.heap.size := by
    intro vs
    induction vs with
    | nil => intro _ _; rfl
    | cons v r ih => intro off w; simp only [World.setCells, ih, World.size_setCell]
  exact h _ h3 h2 (hsz _ _ _)

theorem wpList_store_agg (hg : o.guard = none) (ty : TypeId) (x y : Operand) (ho : o.op = .store ty x y) {b off : Nat} (hx : a.eval x = .pointer (some ⟨b, off, none⟩)) {cs : List Value} (vs : List Value) (hy : a.eval y = .agg vs.toArray) (hb : Blk w b cs)
    (hs : (P.info? ty).map (·.size) = some vs.length) (hn : off + vs.length ≤ cs.length) (h1 : ∀ u ∈ vs, u.oneCell' = true)
    (h : ∀ w', Fr [b] w w' → Blk w' b (splice cs off vs) → w'.heap.size = w.heap.size → wpList P ops Q rest (a.put o.dst undef) w') : wpList P ops Q (o :: rest) a w :=
  wpList_plain hg fun _ hK => wp_store_agg ty x y ho hx vs hy hb hs hn h1 fun w' h2 h3 h4 => hK _ _ (h w' h2 h3 h4)

/-! ### Strings and bytes -/
theorem bytesRow_toList (s : ByteArray) (cap : Nat) : (bytesRow s cap).toList = bv s.data.toList ++ List.replicate (cap - s.size) (bt 0) := by
  simp [bytesRow, bv, bt]

/-- '[]byte(s)': a new block. -/
theorem wp_bytes_of_string (src dst e : TypeId) (x : Operand) (ho : o.op = .convert src dst x) (s : ByteArray) (hx : a.eval x = .string s)
    (hs : P.underlying src = some .string) (hd : P.underlying dst = some (.slice e)) (he : P.underlying e = some (.int .u8))
    (h : ∀ w' cap, Fr [] w w' → w.heap.size < w'.heap.size → Blk w' w.heap.size (bv s.data.toList ++ List.replicate (cap - s.size) (bt 0)) → s.size ≤ cap →
      K (a.put o.dst (.slice (some ⟨w.heap.size, 0, none⟩) s.size cap)) w') : o.wp P a w K Q := by
  unfold Oper.wp execOp
  simp only [ho, hx, Sem.run_bind, run_bytes_of_string w src dst e s hs hd he, Result.andThen_ok, Sem.run_pure]
  refine h _ _ ?_ (by simp) ?_ (grownCap_ge w s.size 0 e)
  · exact ((Fr.refl [] w).drew).alloc _
  · refine ⟨e, _, by rw [← bytesRow_toList]; exact heap_alloc_new w.drew _, fun i hi => ?_⟩
    rw [← bytesRow_toList, Array.length_toList] at hi
    have : ¬ ((bytesRow s (grownCap w s.size 0 e)).size ≤ i) := by omega
    simp [this]

theorem wpList_bytes_of_string (hg : o.guard = none) (src dst e : TypeId) (x : Operand) (ho : o.op = .convert src dst x) (s : ByteArray) (hx : a.eval x = .string s)
    (hs : P.underlying src = some .string) (hd : P.underlying dst = some (.slice e)) (he : P.underlying e = some (.int .u8))
    (h : ∀ w' cap, Fr [] w w' → w.heap.size < w'.heap.size → Blk w' w.heap.size (bv s.data.toList ++ List.replicate (cap - s.size) (bt 0)) → s.size ≤ cap →
      wpList P ops Q rest (a.put o.dst (.slice (some ⟨w.heap.size, 0, none⟩) s.size cap)) w') : wpList P ops Q (o :: rest) a w :=
  wpList_plain hg fun _ hK => wp_bytes_of_string src dst e x ho s hx hs hd he fun w' cap h1 h2 h3 h4 => hK _ _ (h w' cap h1 h2 h3 h4)

/-- 'string(b)', the bytes l. -/
theorem run_string_of_bytes (w : World) (src dst e : TypeId) {b off : Nat} {cs : List Value} (hb : Blk w b cs) (l : List UInt8) (cap : Nat) (hv : (cs.drop off).take l.length = bv l)
    (hs : P.underlying src = some (.slice e)) (he : P.underlying e = some (.int .u8)) (hd : P.underlying dst = some .string) :
    (convert src dst (.slice (some ⟨b, off, none⟩) l.length cap)).run P w = .ok (.string ⟨l.toArray⟩) w :=
  run_convert_bytes_back w src dst e ⟨b, off, none⟩ cap l hs he hd fun j hj => hb.cells (vs := bv l) (by simpa using hv) j _ (by simp [bv, bt, hj])

theorem wp_string_of_bytes (src dst e : TypeId) (x : Operand) (ho : o.op = .convert src dst x) {b off : Nat} (n cap : Nat) (hx : a.eval x = .slice (some ⟨b, off, none⟩) n cap) {cs : List Value} (hb : Blk w b cs) (l : List UInt8) (hn : l.length = n)
    (hv : (cs.drop off).take l.length = bv l) (hs : P.underlying src = some (.slice e)) (he : P.underlying e = some (.int .u8)) (hd : P.underlying dst = some .string)
    (h : K (a.put o.dst (.string ⟨l.toArray⟩)) w) : o.wp P a w K Q := by
  subst hn
  unfold Oper.wp execOp
  simp only [ho, hx, Sem.run_bind, run_string_of_bytes w src dst e hb l cap hv hs he hd, Result.andThen_ok, Sem.run_pure]
  exact h

theorem wpList_string_of_bytes (hg : o.guard = none) (src dst e : TypeId) (x : Operand) (ho : o.op = .convert src dst x) {b off : Nat} (n cap : Nat) (hx : a.eval x = .slice (some ⟨b, off, none⟩) n cap) {cs : List Value} (hb : Blk w b cs) (l : List UInt8) (hn : l.length = n)
    (hv : (cs.drop off).take l.length = bv l) (hs : P.underlying src = some (.slice e)) (he : P.underlying e = some (.int .u8)) (hd : P.underlying dst = some .string)
    (h : wpList P ops Q rest (a.put o.dst (.string ⟨l.toArray⟩)) w) : wpList P ops Q (o :: rest) a w :=
  wpList_plain hg fun _ hK => wp_string_of_bytes src dst e x ho n cap hx hb l hn hv hs he hd (hK _ _ h)
end
end Go.Xr

/- Slices that start at the head of a block of their own; append; new blocks of whatever zero value. -/
namespace Go.Xr
open Go Go.RowKit

/-- v is nil (B = none), or starts at the head of block b (B = some b), has n elements of 'size' cells each, and these are xs; the block is as long as the capacity says. -/
def Own (w : World) (size : Nat) (v : Value) (n : Nat) (xs : List Value) (B : Option Nat) : Prop :=
  xs.length = n * size ∧
  ((v = .slice none 0 0 ∧ n = 0 ∧ B = none) ∨
   ∃ b cap cs, B = some b ∧ v = .slice (some ⟨b, 0, none⟩) n cap ∧ n ≤ cap ∧ cap ≤ maxLen ∧ Blk w b cs ∧ cs.length = cap * size ∧ cs.take (n * size) = xs)

section
variable {w w' : World} {size n : Nat} {v : Value} {xs : List Value} {B : Option Nat} {S : List Nat}

theorem Own.nil (w : World) (size : Nat) : Xr.Own w size (.slice none 0 0) 0 [] none := ⟨by simp, .inl ⟨rfl, rfl, rfl⟩⟩
theorem Own.keep (h : Xr.Own w size v n xs B) (f : Fr S w w') (hS : ∀ b, B = some b → b ∉ S) : Xr.Own w' size v n xs B := by
  refine ⟨h.1, ?_⟩
  rcases h.2 with h2 | ⟨b, cap, cs, rfl, h3, h4, h5, h6, h7⟩
  · exact .inl h2
  · exact .inr ⟨b, cap, cs, rfl, h3, h4, h5, f.blk h6 (hS b rfl), h7⟩
theorem Own.lt (h : Xr.Own w size v n xs B) : ∀ b, B = some b → b < w.heap.size := by
  intro b hb
  rcases h.2 with ⟨_, _, h2⟩ | ⟨b', cap, cs, h1, _, _, _, h6, _⟩
  · rw [h2] at hb; cases hb
  · rw [h1] at hb; cases hb; exact h6.lt
theorem Own.blk {b : Nat} {cs : List Value} {cap : Nat} (hb : Blk w b cs) (h1 : n ≤ cap) (h2 : cap ≤ maxLen) (h3 : cs.length = cap * size) : Xr.Own w size (.slice (some ⟨b, 0, none⟩) n cap) n (cs.take (n * size)) (some b) :=
  ⟨by rw [List.length_take, h3]; exact Nat.min_eq_left (Nat.mul_le_mul_right _ h1), .inr ⟨b, cap, cs, rfl, rfl, h1, h2, hb, h3, rfl⟩⟩
/-- A cell of an owned slice. -/
theorem Own.cellAt (h : Xr.Own w size v n xs B) {b : Nat} (hb : B = some b) {j : Nat} (hj : j < xs.length) : w.cell? ⟨b, j, none⟩ = xs[j]? := by
  rcases h.2 with ⟨_, _, h2⟩ | ⟨b', cap, cs, h1, _, _, _, h6, h7, h8⟩
  · rw [h2] at hb; cases hb
  · rw [h1] at hb; cases hb
    rw [h6.cell, ← h8, List.getElem?_take, if_pos (by rw [← h.1]; exact hj)]
theorem Own.isSlice (h : Xr.Own w size v n xs B) : ∃ a c, v = .slice a n c := by
  rcases h.2 with ⟨h1, h2, _⟩ | ⟨b, cap, cs, _, h2, _⟩
  · exact ⟨none, 0, by rw [h1, h2]⟩
  · exact ⟨_, _, h2⟩
theorem Own.shape (h : Xr.Own w size v n xs B) : (v = .slice none 0 0 ∧ n = 0 ∧ xs = [] ∧ B = none) ∨ ∃ b cap, B = some b ∧ v = .slice (some ⟨b, 0, none⟩) n cap ∧ n ≤ cap ∧ cap ≤ maxLen := by
  rcases h.2 with ⟨h1, h2, h3⟩ | ⟨b, cap, cs, h1, h2, h3, h4, _⟩
  · exact .inl ⟨h1, h2, List.eq_nil_of_length_eq_zero (by rw [h.1, h2]; simp), h3⟩
  · exact .inr ⟨b, cap, h1, h2, h3, h4⟩
end

/-- v can be read as a slice of n elements of 'size' cells each: the cells xs. -/
def Rd (w : World) (size : Nat) (v : Value) (n : Nat) (xs : List Value) (B : Option Nat) : Prop :=
  xs.length = n * size ∧
  ((v = .slice none 0 0 ∧ n = 0 ∧ B = none) ∨
   ∃ b off cap cs, B = some b ∧ v = .slice (some ⟨b, off, none⟩) n cap ∧ n ≤ cap ∧ cap ≤ maxLen ∧ Blk w b cs ∧ off + cap * size ≤ cs.length ∧ (cs.drop off).take (n * size) = xs)

section
variable {w w' : World} {size n : Nat} {v : Value} {xs : List Value} {B : Option Nat} {S : List Nat}
theorem Own.rd (h : Xr.Own w size v n xs B) : Rd w size v n xs B := by
  refine ⟨h.1, ?_⟩
  rcases h.2 with h2 | ⟨b, cap, cs, h1, h2, h3, h4, h5, h6, h7⟩
  · exact .inl h2
  · exact .inr ⟨b, 0, cap, cs, h1, h2, h3, h4, h5, by omega, by rw [List.drop_zero]; exact h7⟩
theorem Rd.keep (h : Rd w size v n xs B) (f : Fr S w w') (hS : ∀ b, B = some b → b ∉ S) : Rd w' size v n xs B := by
  refine ⟨h.1, ?_⟩
  rcases h.2 with h2 | ⟨b, off, cap, cs, rfl, h3, h4, h5, h6, h7⟩
  · exact .inl h2
  · exact .inr ⟨b, off, cap, cs, rfl, h3, h4, h5, f.blk h6 (hS b rfl), h7⟩
theorem Rd.lt (h : Rd w size v n xs B) : ∀ b, B = some b → b < w.heap.size := by
  intro b hb
  rcases h.2 with ⟨_, _, h2⟩ | ⟨b', off, cap, cs, h1, _, _, _, h6, _⟩
  · rw [h2] at hb; cases hb
  · rw [h1] at hb; cases hb; exact h6.lt
theorem Rd.isSlice (h : Rd w size v n xs B) : ∃ a c, v = .slice a n c := by
  rcases h.2 with ⟨h1, h2, _⟩ | ⟨b, off, cap, cs, _, h2, _⟩
  · exact ⟨none, 0, by rw [h1, h2]⟩
  · exact ⟨_, _, h2⟩
/-- Where there is an element the slice lies in a block. -/
theorem Rd.some (h : Rd w size v n xs B) (hn : 0 < n) : ∃ b off cap cs, B = some b ∧ v = .slice (some ⟨b, off, none⟩) n cap ∧ n ≤ cap ∧ cap ≤ maxLen ∧ Blk w b cs ∧ off + cap * size ≤ cs.length ∧ (cs.drop off).take (n * size) = xs := by
  rcases h.2 with ⟨_, h2, _⟩ | h2
  · omega
  · exact h2
end

/-- v reads as a slice of n elements: told by its cells alone (an argument: its spare room is not told of). -/
def Rc (w : World) (size : Nat) (v : Value) (n : Nat) (xs : List Value) (B : Option Nat) : Prop :=
  xs.length = n * size ∧ (∀ b, B = some b → b < w.heap.size) ∧ ∃ a c, v = .slice a n c ∧ n ≤ c ∧ c ≤ maxLen ∧
    (0 < n → ∃ b off, B = some b ∧ a = some ⟨b, off, none⟩ ∧ ∀ j, j < xs.length → w.cell? ⟨b, off + j, none⟩ = xs[j]?)

section
variable {w w' : World} {size n : Nat} {v : Value} {xs : List Value} {B : Option Nat} {S : List Nat}
theorem Rc.keep (h : Rc w size v n xs B) (f : Fr S w w') (hS : ∀ b, B = some b → b ∉ S) : Rc w' size v n xs B := by
  obtain ⟨h1, h2, a, c, h3, h4, h5, h6⟩ := h
  refine ⟨h1, fun b hb => f.lt (h2 b hb), a, c, h3, h4, h5, fun hn => ?_⟩
  obtain ⟨b, off, hB, ha, hc⟩ := h6 hn
  exact ⟨b, off, hB, ha, fun j hj => (World.cell?_of_block (w := w) (f.block b (h2 b hB) (hS b hB))).trans (hc j hj)⟩
theorem Rc.lt (h : Rc w size v n xs B) : ∀ b, B = some b → b < w.heap.size := h.2.1
theorem Rc.isSlice (h : Rc w size v n xs B) : ∃ a c, v = .slice a n c := by
  obtain ⟨_, _, a, c, h3, _⟩ := h
  exact ⟨a, c, h3⟩
theorem Rc.some (h : Rc w size v n xs B) (hn : 0 < n) : ∃ b off c, B = some b ∧ v = .slice (some ⟨b, off, none⟩) n c ∧ n ≤ c ∧ c ≤ maxLen ∧ b < w.heap.size ∧ ∀ j, j < xs.length → w.cell? ⟨b, off + j, none⟩ = xs[j]? := by
  obtain ⟨_, h2, a, c, h3, h4, h5, h6⟩ := h
  obtain ⟨b, off, hB, rfl, hc⟩ := h6 hn
  exact ⟨b, off, c, hB, h3, h4, h5, h2 b hB, hc⟩
theorem Rc.nil (w : World) (size : Nat) : Rc w size (.slice none 0 0) 0 [] none := ⟨by simp, by simp, none, 0, rfl, Nat.le_refl _, by simp, by simp⟩
theorem Rd.rc (h : Rd w size v n xs B) : Rc w size v n xs B := by
  refine ⟨h.1, h.lt, ?_⟩
  rcases h.2 with ⟨h1, h2, _⟩ | ⟨b, off, cap, cs, hB, hv, hcap, hcm, hb, hlen, hcs⟩
  · subst h2
    exact ⟨none, 0, h1, Nat.le_refl _, by simp, fun h => absurd h (by decide)⟩
  · refine ⟨_, _, hv, hcap, hcm, fun hn => ⟨b, off, hB, rfl, fun j hj => ?_⟩⟩
    have hj' : j < n * size := by rw [← h.1]; exact hj
    rw [hb.cell, ← hcs, List.getElem?_take, if_pos hj', List.getElem?_drop]
end

section
variable {P : Program} {ops : Array Oper} {Q : Exit → Act → World → Prop} {a : Act} {w : World} {K : Act → World → Prop} {rest : List Oper} {o : Oper}

theorem own_of_row {w : World} {base size n : Nat} {e : TypeId} {v : Value} {xs : List Value} (h : w.ownsRow base e size v n xs) : ∃ B, Xr.Own w size v n xs B ∧ ∀ b, B = some b → base ≤ b := by
  rcases h.2 with ⟨h1, h2⟩ | ⟨g, cap, cur, h1, h2, h3, h4, h5, h6, h7⟩
  · exact ⟨none, ⟨h.1, .inl ⟨h1, h2, rfl⟩⟩, fun b hb => by cases hb⟩
  · exact ⟨some g, ⟨h.1, .inr ⟨g, cap, cur.toList, rfl, h1, h4, h5, ⟨e, (0, 0), by simpa using h3, fun i _ => by simp⟩, by simpa using h6, h7⟩⟩, fun b hb => by cases hb; exact h2⟩

theorem Fr.of_grownX {w w' : World} {row : Option Nat} (h : w.grownBy w' row) (hp : ∀ b, row = some b → Pln w b → Pln w' b) : Fr row.toList w w' :=
  ⟨h.os, h.tape, h.output, h.size, fun k hk hn => h.block k hk (fun e => hn (by rw [← e]; simp)), fun k hk => by
    by_cases e : row = some k
    · exact hp k e hk
    · exact hk.same (h.block k hk.lt (fun e' => e (by rw [← e'])))⟩
theorem Fr.of_grown {w w' : World} (h : w.grownBy w' none) : Fr [] w w' := Fr.of_grownX h (fun _ e => by cases e)

/-- append to an owned slice of what lies at 'ad'. -/
theorem run_append (t ty e : TypeId) (i : TypeInfo) (z : Value) (size bytes : Nat) (ht : P.underlying t = some (.slice e)) (hi : P.info? e = some i) (hz : i.zero = some z)
    (hsize : i.size = size) (hby : i.bytes = bytes) (hzs : z.cells.size = size) (hsz : 0 < size) {w : World} {v : Value} {n : Nat} {xs : List Value} {B : Option Nat} (h : Xr.Own w size v n xs B)
    (ad : Addr) (m c : Nat) (news : List Value) (hl : news.length = m * size) (hnews : ∀ j u, news[j]? = some u → w.cell? (ad.add j) = some u) (h1 : ∀ u ∈ news, u.oneCell' = true)
    (h63 : n + m ≤ maxLen) (hbytes : (n + m) * bytes ≤ 140737488355328) :
    ∃ v' w' B', (Builtin.append_ #[t, t] ty #[v, .slice (some ad) m c]).run P w = .ok v' w' ∧ Xr.Own w' size v' (n + m) (xs ++ news) B' ∧ Fr B.toList w w' ∧ (B' = B ∨ ∃ b, B' = some b ∧ w.heap.size ≤ b) := by
  have hlen : (xs ++ news).length = (n + m) * size := by rw [List.length_append, h.1, hl, Nat.add_mul]
  rcases h.2 with ⟨rfl, rfl, rfl⟩ | ⟨b, cap, cs, rfl, rfl, hnc, hcm, hb, hcl, htake⟩
  · obtain rfl : xs = [] := List.eq_nil_of_length_eq_zero (by simpa using h.1)
    obtain ⟨v', w', hrun, r1, r2, r3⟩ := run_append_own (P := P) w w.heap.size t ty e i z size bytes ht hi hz hsize hby hzs hsz (.slice none 0 0) 0 [] (World.ownsRow_nil w _ e size) ad m c news hl hnews h1 h63 hbytes (Nat.le_refl _)
    obtain ⟨B', hB, hge⟩ := own_of_row r1
    refine ⟨v', w', B', hrun, hB, ?_, ?_⟩
    · exact (Fr.of_grown r2)
    · cases B' with
      | none => exact .inl rfl
      | some g => exact .inr ⟨g, rfl, hge g rfl⟩
  · by_cases hroom : n + m ≤ cap
    · subst hsize
      have hfit : n * i.size + news.length ≤ cs.length := by rw [hl, hcl, ← Nat.add_mul]; exact Nat.mul_le_mul_right _ hroom
      have hrun := run_append_room_cells (P := P) w t ty e i ht hi b 0 n cap ad m c news hl hnews h1 hroom (fun j hj => by rw [hb.cell]; simp; omega) (fun j hj => hb.free _ (by omega))
      simp only [Nat.zero_add] at hrun
      obtain ⟨h2, h3⟩ := Blk.setCells news (n * i.size) hb hfit
      refine ⟨_, _, some b, hrun, ⟨hlen, .inr ⟨b, cap, _, rfl, rfl, hroom, hcm, h2, by rw [splice_length _ _ _ hfit, hcl], ?_⟩⟩, h3, .inl rfl⟩
      unfold splice
      rw [← hlen, htake]
      exact List.take_left
    · have holds : ∀ j u, xs[j]? = some u → w.cell? ((⟨b, 0, none⟩ : Addr).add j) = some u := hb.cells (vs := xs) (by rw [List.drop_zero, h.1]; exact htake)
      obtain ⟨v', w', hrun, r1, r2⟩ := run_append_arg_grows (P := P) w t ty e i z size bytes ht hi hz hsize hby hzs hsz ⟨b, 0, none⟩ n cap xs h.1 holds ad m c news hl hnews (by omega) h63 hbytes
      obtain ⟨B', hB, hge⟩ := own_of_row r1
      refine ⟨v', w', B', hrun, hB, (Fr.of_grown r2).mono (by simp), ?_⟩
      cases B' with
      | none =>
        rcases hB.2 with ⟨rfl, h0, _⟩ | ⟨_, _, _, h0, _⟩
        · omega
        · cases h0
      | some g => exact .inr ⟨g, rfl, hge g rfl⟩

theorem wp_append (s x : Operand) (t : TypeId) (ho : o.op = .call { callee := .builtin .append, args := #[s, x], argTypes := #[t, t] })
    (e : TypeId) (i : TypeInfo) (z : Value) (size bytes : Nat) (ht : P.underlying t = some (.slice e)) (hi : P.info? e = some i) (hz : i.zero = some z)
    (hsize : i.size = size) (hby : i.bytes = bytes) (hzs : z.cells.size = size) (hsz : 0 < size) {v : Value} {n : Nat} {xs : List Value} {B : Option Nat} (hs : a.eval s = v) (h : Xr.Own w size v n xs B)
    (ad : Addr) (m c : Nat) (news : List Value) (hx : a.eval x = .slice (some ad) m c) (hl : news.length = m * size) (hnews : ∀ j u, news[j]? = some u → w.cell? (ad.add j) = some u) (h1 : ∀ u ∈ news, u.oneCell' = true)
    (h63 : n + m ≤ maxLen) (hbytes : (n + m) * bytes ≤ 140737488355328)
    (hK : ∀ v' w' B', Xr.Own w' size v' (n + m) (xs ++ news) B' → Fr B.toList w w' → (B' = B ∨ ∃ b, B' = some b ∧ w.heap.size ≤ b) → K (a.put o.dst v') w') : o.wp P a w K Q := by
  obtain ⟨v', w', B', hr, h2, h3, h4⟩ := run_append (P := P) t o.type e i z size bytes ht hi hz hsize hby hzs hsz h ad m c news hl hnews h1 h63 hbytes
  unfold Oper.wp execOp
  simp only [ho, resolve, invoke, builtin, Sem.run_bind, Sem.run_pure, Result.andThen_ok, List.map_toArray, List.map_cons, List.map_nil, hs, hx, hr]
  exact hK v' w' B' h2 h3 h4

theorem wpList_append (hg : o.guard = none) (s x : Operand) (t : TypeId) (ho : o.op = .call { callee := .builtin .append, args := #[s, x], argTypes := #[t, t] })
    (e : TypeId) (i : TypeInfo) (z : Value) (size bytes : Nat) (ht : P.underlying t = some (.slice e)) (hi : P.info? e = some i) (hz : i.zero = some z)
    (hsize : i.size = size) (hby : i.bytes = bytes) (hzs : z.cells.size = size) (hsz : 0 < size) {v : Value} {n : Nat} {xs : List Value} {B : Option Nat} (hs : a.eval s = v) (h : Xr.Own w size v n xs B)
    (ad : Addr) (m c : Nat) (news : List Value) (hx : a.eval x = .slice (some ad) m c) (hl : news.length = m * size) (hnews : ∀ j u, news[j]? = some u → w.cell? (ad.add j) = some u) (h1 : ∀ u ∈ news, u.oneCell' = true)
    (h63 : n + m ≤ maxLen) (hbytes : (n + m) * bytes ≤ 140737488355328)
    (hK : ∀ v' w' B', Xr.Own w' size v' (n + m) (xs ++ news) B' → Fr B.toList w w' → (B' = B ∨ ∃ b, B' = some b ∧ w.heap.size ≤ b) → wpList P ops Q rest (a.put o.dst v') w') : wpList P ops Q (o :: rest) a w :=
  wpList_plain hg fun _ hk => wp_append s x t ho e i z size bytes ht hi hz hsize hby hzs hsz hs h ad m c news hx hl hnews h1 h63 hbytes fun v' w' B' h2 h3 h4 => hk _ _ (hK v' w' B' h2 h3 h4)

/-! ### Slices of one element, made in place -/
theorem foldl_set_all : ∀ (l : List Value) (k : Nat) (cs : Array Value), k + l.length ≤ cs.size →
    (((l.zipIdx k).foldl (fun cs (p : Value × Nat) => cs.setIfInBounds p.2 p.1) cs).toList = cs.toList.take k ++ l ++ cs.toList.drop (k + l.length))
  | [], k, cs, _ => by simp
  | v :: l, k, cs, h => by
    simp only [List.length_cons] at h
    simp only [List.zipIdx_cons, List.foldl_cons]
    rw [foldl_set_all l (k + 1) _ (by simp; omega)]
    have hk : k < cs.toList.length := by simp; omega
    have e := splice_cons cs.toList k v l hk
    unfold splice at e
    simpa using e

theorem fill_one (size : Nat) (v : Value) (hv : v.cells.size = size) (cells : Array Value) (hc : cells.size = size) :
    Instr.fill (fun i => some (i * size, size)) cells [(0, v)] = some v.cells := by
  have h0 : ¬ (v.cells.size ≠ size ∨ cells.size < 0 * size + v.cells.size) := by omega
  have hf := foldl_set_all v.cells.toList 0 cells (by simp; omega)
  have e : (v.cells.zipIdx.foldl (fun (cs : Array Value) (x : Value × Nat) => cs.setIfInBounds (0 * size + x.2) x.1) cells) = v.cells := by
    apply Array.toList_inj.1
    have e1 : v.cells.zipIdx.foldl (fun (cs : Array Value) (x : Value × Nat) => cs.setIfInBounds (0 * size + x.2) x.1) cells = (v.cells.toList.zipIdx 0).foldl (fun cs (p : Value × Nat) => cs.setIfInBounds p.2 p.1) cells := by
      rw [← Array.foldl_toList]
      simp
    rw [e1, hf]
    simp
    omega
  simp only [Instr.fill, decide_eq_true_eq, Bool.or_eq_true]
  rw [if_neg (by simpa using h0)]
  simpa using e

theorem run_buildSlice_one (w : World) (t e : TypeId) (i : TypeInfo) (z v : Value) (ht : P.underlying t = some (.slice e)) (hi : P.info? e = some i) (hz : i.zero = some z)
    (hv : v.cells.size = i.size) (hzs : z.cells.size = i.size) (hle : i.size ≤ 16777216) (h0 : 0 < i.size) :
    (Instr.buildSlice t 1 #[(0, v)]).run P w = .ok (.slice (some ⟨w.heap.size, 0, none⟩) 1 1) (w.alloc (.cells v.cells e)) := by
  have hf : Instr.fill (fun k => some (k * i.size, i.size)) ((Array.range i.size).map fun k => z.cells[k % z.cells.size]!) [(0, v)] = some v.cells := fill_one i.size v hv _ (by simp)
  have h1 : ¬ (16777216 < i.size) := by omega
  have h2 : ¬ (i.size = 0) := by omega
  simp [Instr.buildSlice, run_underlying ht, sizeOf, typeInfo, hi, zeroValue, hz, h1, h2, newRow, hf]

theorem wp_buildSlice_one (t : TypeId) (x : Operand) (ho : o.op = .buildSlice t 1 #[(0, x)]) (e : TypeId) (i : TypeInfo) (z : Value) (size : Nat) (vs : List Value) (ht : P.underlying t = some (.slice e)) (hi : P.info? e = some i) (hz : i.zero = some z)
    (hsize : i.size = size) (hx : (a.eval x).cells.toList = vs) (hv : vs.length = size) (hzs : z.cells.size = size) (hle : size ≤ 16777216) (h0 : 0 < size)
    (h : Blk (w.alloc (.cells vs.toArray e)) w.heap.size vs → K (a.put o.dst (.slice (some ⟨w.heap.size, 0, none⟩) 1 1)) (w.alloc (.cells vs.toArray e))) : o.wp P a w K Q := by
  subst hsize
  have hr := run_buildSlice_one (P := P) w t e i z (a.eval x) ht hi hz (by rw [← Array.length_toList, hx, hv]) hzs hle h0
  have e1 : (a.eval x).cells = vs.toArray := by rw [← hx]
  unfold Oper.wp execOp
  simp only [ho, Sem.run_bind, Sem.run_pure, Result.andThen_ok, List.map_toArray, List.map_cons, List.map_nil, hr, e1]
  exact h (Blk.alloc w vs e)

theorem wpList_buildSlice_one (hg : o.guard = none) (t : TypeId) (x : Operand) (ho : o.op = .buildSlice t 1 #[(0, x)]) (e : TypeId) (i : TypeInfo) (z : Value) (size : Nat) (vs : List Value) (ht : P.underlying t = some (.slice e)) (hi : P.info? e = some i) (hz : i.zero = some z)
    (hsize : i.size = size) (hx : (a.eval x).cells.toList = vs) (hv : vs.length = size) (hzs : z.cells.size = size) (hle : size ≤ 16777216) (h0 : 0 < size)
    (h : Blk (w.alloc (.cells vs.toArray e)) w.heap.size vs → wpList P ops Q rest (a.put o.dst (.slice (some ⟨w.heap.size, 0, none⟩) 1 1)) (w.alloc (.cells vs.toArray e))) : wpList P ops Q (o :: rest) a w :=
  wpList_plain hg fun _ hK => wp_buildSlice_one t x ho e i z size vs ht hi hz hsize hx hv hzs hle h0 fun hb => hK _ _ (h hb)

/-- A new variable of an aggregate's type, whatever its zero value. -/
theorem wp_alloc_agg (t : TypeId) (ho : o.op = .alloc t) (i : TypeInfo) (z : Value) (size : Nat) (hi : P.info? t = some i) (hz : i.zero = some z) (hzs : z.cells.size = size)
    (h : ∀ zs : List Value, zs.length = size → zs = z.cells.toList → Blk (w.alloc (.cells zs.toArray t)) w.heap.size zs → K (a.put o.dst (.pointer (some ⟨w.heap.size, 0, none⟩))) (w.alloc (.cells zs.toArray t))) : o.wp P a w K Q := by
  unfold Oper.wp execOp
  have := h z.cells.toList (by simpa using hzs) rfl (Blk.alloc w _ t)
  simp only [Array.toArray_toList] at this
  simp [ho, Instr.alloc, zeroValue, typeInfo, hi, hz, newVar, newRow, Oper.upon, this]

theorem wpList_alloc_agg (hg : o.guard = none) (t : TypeId) (ho : o.op = .alloc t) (i : TypeInfo) (z : Value) (size : Nat) (hi : P.info? t = some i) (hz : i.zero = some z) (hzs : z.cells.size = size)
    (h : ∀ zs : List Value, zs.length = size → zs = z.cells.toList → Blk (w.alloc (.cells zs.toArray t)) w.heap.size zs → wpList P ops Q rest (a.put o.dst (.pointer (some ⟨w.heap.size, 0, none⟩))) (w.alloc (.cells zs.toArray t))) : wpList P ops Q (o :: rest) a w :=
  wpList_plain hg fun _ hK => wp_alloc_agg t ho i z size hi hz hzs fun zs h1 h2 h3 => hK _ _ (h zs h1 h2 h3)

theorem madeCells_rep (z : Array Value) (zc : Value) (size n : Nat) (hz : z.toList = List.replicate size zc) (h0 : 0 < size) : madeCells z n = (List.replicate n zc).toArray := by
  have hs : z.size = size := by rw [← Array.length_toList, hz]; simp
  apply Array.toList_inj.1
  apply List.ext_getElem (by rw [Array.length_toList, size_madeCells]; simp)
  intro j h1 h2
  have hj : j % z.size < z.size := Nat.mod_lt _ (by omega)
  have : z[j % z.size] = zc := by
    have e : z.toList[j % z.size]'(by simpa using hj) = zc := by simp [hz]
    simpa using e
  simp [madeCells, hj, this]

/-- 'make([]T, l, c)', whatever the element. -/
theorem wp_make (t : TypeId) (x y : Operand) (ho : o.op = .makeSlice t x y) (l c : Nat) (kl kc : IntKind) (hx : a.eval x = .int kl l) (hy : a.eval y = .int kc c) (e : TypeId) (i : TypeInfo) (z zc : Value) (size bytes : Nat) (ht : P.underlying t = some (.slice e)) (hi : P.info? e = some i) (hz : i.zero = some z)
    (hsize : i.size = size) (hby : i.bytes = bytes) (hzs : z.cells.toList = List.replicate size zc) (h0 : 0 < size) (hlc : l ≤ c) (hm : c ≤ 9223372036854775807) (hb : bytes * c ≤ 281474976710656)
    (h : Blk (w.alloc (.cells (List.replicate (c * size) zc).toArray e)) w.heap.size (List.replicate (c * size) zc) → K (a.put o.dst (.slice (some ⟨w.heap.size, 0, none⟩) l c)) (w.alloc (.cells (List.replicate (c * size) zc).toArray e))) : o.wp P a w K Q := by
  subst hsize
  subst hby
  have hr := run_make (P := P) w t e i z ht hi hz kl kc l c (by omega) (by omega) (by have h1 : ((i.bytes * c : Nat) : Int) ≤ 281474976710656 := Int.ofNat_le.2 hb; rwa [Int.natCast_mul] at h1) (by omega)
  simp only [Int.toNat_natCast, madeCells_rep z.cells zc i.size _ hzs h0] at hr
  unfold Oper.wp execOp
  simp only [ho, hx, hy, Sem.run_bind, Sem.run_pure, Result.andThen_ok, hr]
  exact h (Blk.alloc w _ e)

theorem wpList_make (hg : o.guard = none) (t : TypeId) (x y : Operand) (ho : o.op = .makeSlice t x y) (l c : Nat) (kl kc : IntKind) (hx : a.eval x = .int kl l) (hy : a.eval y = .int kc c) (e : TypeId) (i : TypeInfo) (z zc : Value) (size bytes : Nat) (ht : P.underlying t = some (.slice e)) (hi : P.info? e = some i) (hz : i.zero = some z)
    (hsize : i.size = size) (hby : i.bytes = bytes) (hzs : z.cells.toList = List.replicate size zc) (h0 : 0 < size) (hlc : l ≤ c) (hm : c ≤ 9223372036854775807) (hb : bytes * c ≤ 281474976710656)
    (h : Blk (w.alloc (.cells (List.replicate (c * size) zc).toArray e)) w.heap.size (List.replicate (c * size) zc) → wpList P ops Q rest (a.put o.dst (.slice (some ⟨w.heap.size, 0, none⟩) l c)) (w.alloc (.cells (List.replicate (c * size) zc).toArray e))) : wpList P ops Q (o :: rest) a w :=
  wpList_plain hg fun _ hK => wp_make t x y ho l c kl kc hx hy e i z zc size bytes ht hi hz hsize hby hzs h0 hlc hm hb fun hb => hK _ _ (h hb)

/-! ### Structs that are built of parts -/
theorem fill_step (place : Nat → Option (Nat × Nat)) (cells : Array Value) (i off size : Nat) (v : Value) (rest : List (Nat × Value)) (hp : place i = some (off, size)) (hv : v.cells.size = size) (hle : off + size ≤ cells.size) :
    Instr.fill place cells ((i, v) :: rest) = Instr.fill place (splice cells.toList off v.cells.toList).toArray rest := by
  have h0 : ¬ (v.cells.size ≠ size ∨ cells.size < off + v.cells.size) := by omega
  have e : ∀ (l : List Value) (k : Nat) (cs : Array Value), off + k + l.length ≤ cs.size →
      ((l.zipIdx k).foldl (fun (cs : Array Value) (x : Value × Nat) => cs.setIfInBounds (off + x.2) x.1) cs).toList = cs.toList.take (off + k) ++ l ++ cs.toList.drop (off + k + l.length) := by
    intro l
    induction l with
    | nil => intro k cs _; simp
    | cons u l ih =>
      intro k cs hk
      simp only [List.length_cons] at hk
      simp only [List.zipIdx_cons, List.foldl_cons]
      rw [ih (k + 1) _ (by simp; omega)]
      have hk' : off + k < cs.toList.length := by simp; omega
      have e := splice_cons cs.toList (off + k) u l hk'
      unfold splice at e
      simpa [Nat.add_assoc] using e
  have e1 : (v.cells.zipIdx.foldl (fun (cs : Array Value) (x : Value × Nat) => cs.setIfInBounds (off + x.2) x.1) cells) = (splice cells.toList off v.cells.toList).toArray := by
    apply Array.toList_inj.1
    rw [← Array.foldl_toList]
    have := e v.cells.toList 0 cells (by simp; omega)
    simp only [Nat.add_zero] at this
    simpa [splice] using this
  simp only [Instr.fill, hp, decide_eq_true_eq, Bool.or_eq_true]
  rw [if_neg (by simpa using h0)]
  exact congrArg (fun x => Instr.fill place x rest) e1

theorem splice_all (l vs : List Value) (h : l.length = vs.length) : splice l 0 vs = vs := by
  simp [splice, ← h]
theorem splice_end (l vs r : List Value) (h : r.length = vs.length) : splice (l ++ r) l.length vs = l ++ vs := by
  simp [splice, ← h]

theorem fill2 (place : Nat → Option (Nat × Nat)) (z : Array Value) (n0 n1 : Nat) (hz : z.size = n0 + n1) (v0 v1 : Value) (h0 : v0.cells.size = n0) (h1 : v1.cells.size = n1) (p0 : place 0 = some (0, n0)) (p1 : place 1 = some (n0, n1)) :
    Instr.fill place z [(0, v0), (1, v1)] = some (v0.cells.toList ++ v1.cells.toList).toArray := by
  have l0 : v0.cells.toList.length = n0 := by simpa using h0
  have l1 : v1.cells.toList.length = n1 := by simpa using h1
  have lz : z.toList.length = n0 + n1 := by simpa using hz
  rw [fill_step place z 0 0 n0 v0 _ p0 h0 (by omega)]
  rw [fill_step place _ 1 n0 n1 v1 _ p1 h1 (by rw [List.size_toArray, splice_length _ _ _ (by omega)]; omega)]
  simp only [Instr.fill]
  congr 2
  have e : splice z.toList 0 v0.cells.toList = v0.cells.toList ++ z.toList.drop n0 := by simp [splice, l0]
  rw [e]
  have := splice_end v0.cells.toList v1.cells.toList (z.toList.drop n0) (by rw [List.length_drop]; omega)
  rw [l0] at this
  exact this

/-- The places of a struct's fields, off the program's table. -/
theorem run_places (fs : List Field) (ps : List (Nat × Nat)) (h : (fs.map fun f => (f.offset, ((P.info? f.type).map (·.size)))) = ps.map (fun p => (p.1, some p.2))) (w : World) :
    (fs.toArray.mapM fun f => do pure (f.offset, ← sizeOf f.type) : Sem (Array (Nat × Nat))).run P w = .ok ps.toArray w := by
  have key : ∀ (fs : List Field) (ps : List (Nat × Nat)), (fs.map fun f => (f.offset, ((P.info? f.type).map (·.size)))) = ps.map (fun p => (p.1, some p.2)) →
      (fs.mapM fun f => do pure (f.offset, ← sizeOf f.type) : Sem (List (Nat × Nat))).run P w = .ok ps w := by
    intro fs
    induction fs with
    | nil =>
      intro ps h
      cases ps with
      | nil => simp
      | cons => simp at h
    | cons f fs ih =>
      intro ps h
      cases ps with
      | nil => simp at h
      | cons p ps =>
        simp only [List.map_cons, List.cons.injEq, Prod.mk.injEq] at h
        obtain ⟨⟨h1, h2⟩, h3⟩ := h
        have h4 := ih ps h3
        cases hq : P.info? f.type with
        | none => simp [hq] at h2
        | some i =>
          simp [hq] at h2
          have e : (sizeOf f.type).run P w = .ok p.2 w := by simp [sizeOf, typeInfo, hq, h2]
          simp only [List.mapM_cons, Sem.run_bind, e, Result.andThen_ok, Sem.run_pure, h4, h1]
  rw [List.mapM_toArray]
  simp only [Sem.run_map, key fs ps h, Result.andThen_ok]

theorem wp_build_struct (t : TypeId) (ps : Array (Nat × Operand)) (ho : o.op = .build t ps) (fields : Array Field) (places : Array (Nat × Nat)) (i : TypeInfo) (z : Value) (hu : P.underlying t = some (.struct fields)) (hi : P.info? t = some i) (hz : i.zero = some z)
    (hp : ∀ w, (fields.mapM fun f => do pure (f.offset, ← sizeOf f.type) : Sem (Array (Nat × Nat))).run P w = .ok places w) (vs : List Value)
    (hf : Instr.fill (places[·]?) z.cells (ps.toList.map fun p => (p.1, a.eval p.2)) = some vs.toArray) (h : K (a.put o.dst (.agg vs.toArray)) w) : o.wp P a w K Q := by
  have hf' : Instr.fill (places[·]?) z.cells (ps.map fun p => (p.1, a.eval p.2)).toList = some vs.toArray := by rw [Array.toList_map]; exact hf
  unfold Oper.wp execOp
  simp only [ho, Instr.build, zeroValue, typeInfo, program, Sem.run_bind, Sem.run, Result.andThen_ok, hi, hz, run_underlying hu, Sem.run_pure, hp, hf']
  exact h

theorem wpList_build_struct (hg : o.guard = none) (t : TypeId) (ps : Array (Nat × Operand)) (ho : o.op = .build t ps) (fields : Array Field) (places : Array (Nat × Nat)) (i : TypeInfo) (z : Value) (hu : P.underlying t = some (.struct fields)) (hi : P.info? t = some i) (hz : i.zero = some z)
    (hp : ∀ w, (fields.mapM fun f => do pure (f.offset, ← sizeOf f.type) : Sem (Array (Nat × Nat))).run P w = .ok places w) (vs : List Value)
    (hf : Instr.fill (places[·]?) z.cells (ps.toList.map fun p => (p.1, a.eval p.2)) = some vs.toArray) (h : wpList P ops Q rest (a.put o.dst (.agg vs.toArray)) w) : wpList P ops Q (o :: rest) a w :=
  wpList_plain hg fun _ hK => wp_build_struct t ps ho fields places i z hu hi hz hp vs hf (hK _ _ h)

/-- '[n]T(b)', '(*[n]T)(b)': the address. -/
theorem wp_arrayAt (t : TypeId) (x : Operand) (ho : o.op = .sliceToArrayPointer t x) (n : Nat) (e : TypeId) (hu : P.underlying t = some (.array n e)) {ad : Option Addr} {l c : Nat} (hx : a.eval x = .slice ad l c) (hl : n ≤ l)
    (h : K (a.put o.dst (.pointer ad)) w) : o.wp P a w K Q := by
  have hn : ¬ l < n := by omega
  unfold Oper.wp execOp
  simp only [ho, hx, Instr.arrayAt, Sem.run_bind, run_underlying hu, Result.andThen_ok, hn, if_false, Sem.run_pure]
  exact h
theorem wpList_arrayAt (hg : o.guard = none) (t : TypeId) (x : Operand) (ho : o.op = .sliceToArrayPointer t x) (n : Nat) (e : TypeId) (hu : P.underlying t = some (.array n e)) {ad : Option Addr} {l c : Nat} (hx : a.eval x = .slice ad l c) (hl : n ≤ l)
    (h : wpList P ops Q rest (a.put o.dst (.pointer ad)) w) : wpList P ops Q (o :: rest) a w :=
  wpList_plain hg fun _ hK => wp_arrayAt t x ho n e hu hx hl (hK _ _ h)
end
end Go.Xr

/- Words of 8, 32 and 64 bits as values that a walk leaves shut: what each operation makes of them. No condition. -/
namespace Go.Xr
open Go
set_option linter.unusedVariables false
set_option linter.unusedSimpArgs false

def W32 (x : UInt32) : Value := .int .u32 x.toNat
def W64 (x : UInt64) : Value := .int .u64 x.toNat
/-- A constant as a word. -/
def c8 (n : Int) : UInt8 := ⟨BitVec.ofInt 8 n⟩
def c32 (n : Int) : UInt32 := ⟨BitVec.ofInt 32 n⟩
def c64 (n : Int) : UInt64 := ⟨BitVec.ofInt 64 n⟩
def shl8 (a : UInt8) (n : Nat) : UInt8 := ⟨a.toBitVec <<< n⟩
def shr8 (a : UInt8) (n : Nat) : UInt8 := ⟨a.toBitVec >>> n⟩
def shl32 (a : UInt32) (n : Nat) : UInt32 := ⟨a.toBitVec <<< n⟩
def shr32 (a : UInt32) (n : Nat) : UInt32 := ⟨a.toBitVec >>> n⟩
def shl64 (a : UInt64) (n : Nat) : UInt64 := ⟨a.toBitVec <<< n⟩
def shr64 (a : UInt64) (n : Nat) : UInt64 := ⟨a.toBitVec >>> n⟩

theorem wrap_u8' (n : Int) : IntKind.u8.wrap n = n % 256 := by simp [IntKind.wrap, IntKind.bits, IntKind.signed]
theorem wrap_u32' (n : Int) : IntKind.u32.wrap n = n % 4294967296 := by simp [IntKind.wrap, IntKind.bits, IntKind.signed]
theorem wrap_u64' (n : Int) : IntKind.u64.wrap n = n % 18446744073709551616 := by simp [IntKind.wrap, IntKind.bits, IntKind.signed]
theorem bv_wrap (n : Nat) (x : Int) : ((BitVec.ofInt n x).toNat : Int) = x % (2 ^ n : Nat) := by
  rw [BitVec.toNat_ofInt]
  have : (0 : Int) ≤ x % (2 ^ n : Nat) := Int.emod_nonneg _ (by have := Nat.two_pow_pos n; omega)
  omega
theorem bv_sub (n : Nat) (x y : Int) : BitVec.ofInt n (x - y) = BitVec.ofInt n x - BitVec.ofInt n y := by
  rw [Int.sub_eq_add_neg, BitVec.ofInt_add, BitVec.ofInt_neg, BitVec.sub_eq_add_neg]
theorem ofInt_toNat {n : Nat} (x : BitVec n) : BitVec.ofInt n (x.toNat : Int) = x := by
  apply BitVec.eq_of_toNat_eq
  simp [BitVec.toNat_ofInt]


/-! ### u8 -/
theorem int_u8 (x : Int) : Value.int .u8 (IntKind.u8.wrap x) = bt ⟨BitVec.ofInt 8 x⟩ := by
  unfold bt
  rw [wrap_u8']
  congr 1
  exact (bv_wrap 8 x).symm
theorem val_u8 (a : UInt8) : bt a = .int .u8 a.toNat := rfl
theorem bvi_u8 (a : UInt8) : BitVec.ofInt 8 (a.toNat : Int) = a.toBitVec := ofInt_toNat a.toBitVec
theorem back_u8 (r : BitVec 8) : Value.int .u8 (IntKind.u8.wrap r.toNat) = bt ⟨r⟩ := by rw [int_u8, ofInt_toNat]

theorem add_u8 (t : TypeId) (a b : UInt8) : binOp .add t (bt a) (bt b) = pure (bt (a + b)) := by
  have e : IntKind.u8 = IntKind.u8 := rfl
  simp only [val_u8, binOp, ne_eq, not_true_eq_false, if_false, Op.intArith, int_u8, BitVec.ofInt_add, bvi_u8]
  rfl
theorem add_u8_c (t : TypeId) (a : UInt8) (n : Int) : binOp .add t (bt a) (.int .u8 n) = pure (bt (a + c8 n)) := by
  have e : IntKind.u8 = IntKind.u8 := rfl
  simp only [val_u8, binOp, ne_eq, not_true_eq_false, if_false, Op.intArith, int_u8, BitVec.ofInt_add, bvi_u8]
  rfl
theorem add_u8c_ (t : TypeId) (n : Int) (b : UInt8) : binOp .add t (.int .u8 n) (bt b) = pure (bt (c8 n + b)) := by
  have e : IntKind.u8 = IntKind.u8 := rfl
  simp only [val_u8, binOp, ne_eq, not_true_eq_false, if_false, Op.intArith, int_u8, BitVec.ofInt_add, bvi_u8]
  rfl
theorem sub_u8 (t : TypeId) (a b : UInt8) : binOp .sub t (bt a) (bt b) = pure (bt (a - b)) := by
  have e : IntKind.u8 = IntKind.u8 := rfl
  simp only [val_u8, binOp, ne_eq, not_true_eq_false, if_false, Op.intArith, int_u8, bv_sub, bvi_u8]
  rfl
theorem sub_u8_c (t : TypeId) (a : UInt8) (n : Int) : binOp .sub t (bt a) (.int .u8 n) = pure (bt (a - c8 n)) := by
  have e : IntKind.u8 = IntKind.u8 := rfl
  simp only [val_u8, binOp, ne_eq, not_true_eq_false, if_false, Op.intArith, int_u8, bv_sub, bvi_u8]
  rfl
theorem sub_u8c_ (t : TypeId) (n : Int) (b : UInt8) : binOp .sub t (.int .u8 n) (bt b) = pure (bt (c8 n - b)) := by
  have e : IntKind.u8 = IntKind.u8 := rfl
  simp only [val_u8, binOp, ne_eq, not_true_eq_false, if_false, Op.intArith, int_u8, bv_sub, bvi_u8]
  rfl
theorem mul_u8 (t : TypeId) (a b : UInt8) : binOp .mul t (bt a) (bt b) = pure (bt (a * b)) := by
  have e : IntKind.u8 = IntKind.u8 := rfl
  simp only [val_u8, binOp, ne_eq, not_true_eq_false, if_false, Op.intArith, int_u8, BitVec.ofInt_mul, bvi_u8]
  rfl
theorem mul_u8_c (t : TypeId) (a : UInt8) (n : Int) : binOp .mul t (bt a) (.int .u8 n) = pure (bt (a * c8 n)) := by
  have e : IntKind.u8 = IntKind.u8 := rfl
  simp only [val_u8, binOp, ne_eq, not_true_eq_false, if_false, Op.intArith, int_u8, BitVec.ofInt_mul, bvi_u8]
  rfl
theorem mul_u8c_ (t : TypeId) (n : Int) (b : UInt8) : binOp .mul t (.int .u8 n) (bt b) = pure (bt (c8 n * b)) := by
  have e : IntKind.u8 = IntKind.u8 := rfl
  simp only [val_u8, binOp, ne_eq, not_true_eq_false, if_false, Op.intArith, int_u8, BitVec.ofInt_mul, bvi_u8]
  rfl
theorem and_u8 (t : TypeId) (a b : UInt8) : binOp .and t (bt a) (bt b) = pure (bt (a &&& b)) := by
  simp only [val_u8, binOp, ne_eq, not_true_eq_false, if_false, Op.intBits, IntKind.bits, bvi_u8]
  rw [back_u8]
  rfl
theorem and_u8_c (t : TypeId) (a : UInt8) (n : Int) : binOp .and t (bt a) (.int .u8 n) = pure (bt (a &&& (c8 n))) := by
  simp only [val_u8, binOp, ne_eq, not_true_eq_false, if_false, Op.intBits, IntKind.bits, bvi_u8]
  rw [back_u8]
  rfl
theorem and_u8c_ (t : TypeId) (n : Int) (b : UInt8) : binOp .and t (.int .u8 n) (bt b) = pure (bt (c8 n &&& b)) := by
  simp only [val_u8, binOp, ne_eq, not_true_eq_false, if_false, Op.intBits, IntKind.bits, bvi_u8]
  rw [back_u8]
  rfl
theorem or_u8 (t : TypeId) (a b : UInt8) : binOp .or t (bt a) (bt b) = pure (bt (a ||| b)) := by
  simp only [val_u8, binOp, ne_eq, not_true_eq_false, if_false, Op.intBits, IntKind.bits, bvi_u8]
  rw [back_u8]
  rfl
theorem or_u8_c (t : TypeId) (a : UInt8) (n : Int) : binOp .or t (bt a) (.int .u8 n) = pure (bt (a ||| (c8 n))) := by
  simp only [val_u8, binOp, ne_eq, not_true_eq_false, if_false, Op.intBits, IntKind.bits, bvi_u8]
  rw [back_u8]
  rfl
theorem or_u8c_ (t : TypeId) (n : Int) (b : UInt8) : binOp .or t (.int .u8 n) (bt b) = pure (bt (c8 n ||| b)) := by
  simp only [val_u8, binOp, ne_eq, not_true_eq_false, if_false, Op.intBits, IntKind.bits, bvi_u8]
  rw [back_u8]
  rfl
theorem xor_u8 (t : TypeId) (a b : UInt8) : binOp .xor t (bt a) (bt b) = pure (bt (a ^^^ b)) := by
  simp only [val_u8, binOp, ne_eq, not_true_eq_false, if_false, Op.intBits, IntKind.bits, bvi_u8]
  rw [back_u8]
  rfl
theorem xor_u8_c (t : TypeId) (a : UInt8) (n : Int) : binOp .xor t (bt a) (.int .u8 n) = pure (bt (a ^^^ (c8 n))) := by
  simp only [val_u8, binOp, ne_eq, not_true_eq_false, if_false, Op.intBits, IntKind.bits, bvi_u8]
  rw [back_u8]
  rfl
theorem xor_u8c_ (t : TypeId) (n : Int) (b : UInt8) : binOp .xor t (.int .u8 n) (bt b) = pure (bt (c8 n ^^^ b)) := by
  simp only [val_u8, binOp, ne_eq, not_true_eq_false, if_false, Op.intBits, IntKind.bits, bvi_u8]
  rw [back_u8]
  rfl
theorem andNot_u8 (t : TypeId) (a b : UInt8) : binOp .andNot t (bt a) (bt b) = pure (bt (a &&& ~~~b)) := by
  simp only [val_u8, binOp, ne_eq, not_true_eq_false, if_false, Op.intBits, IntKind.bits, bvi_u8]
  rw [back_u8]
  rfl
theorem andNot_u8_c (t : TypeId) (a : UInt8) (n : Int) : binOp .andNot t (bt a) (.int .u8 n) = pure (bt (a &&& ~~~(c8 n))) := by
  simp only [val_u8, binOp, ne_eq, not_true_eq_false, if_false, Op.intBits, IntKind.bits, bvi_u8]
  rw [back_u8]
  rfl
theorem andNot_u8c_ (t : TypeId) (n : Int) (b : UInt8) : binOp .andNot t (.int .u8 n) (bt b) = pure (bt (c8 n &&& ~~~b)) := by
  simp only [val_u8, binOp, ne_eq, not_true_eq_false, if_false, Op.intBits, IntKind.bits, bvi_u8]
  rw [back_u8]
  rfl
theorem eql_u8 (t : TypeId) (a b : UInt8) : binOp .eql t (bt a) (bt b) = pure (.bool (a == b)) := by
  simp only [val_u8, binOp, ne_eq, not_true_eq_false, if_false, Op.intCmp]
  rw [show ((a.toNat : Int) == (b.toNat : Int)) = (a == b) from by rw [Bool.eq_iff_iff]; simp [← UInt8.toNat_inj]; omega]
theorem eql_u8_c (t : TypeId) (a : UInt8) (n : Int) : binOp .eql t (bt a) (.int .u8 n) = pure (.bool ((a.toNat : Int) == n)) := by
  simp only [val_u8, binOp, ne_eq, not_true_eq_false, if_false, Op.intCmp]
theorem neq_u8 (t : TypeId) (a b : UInt8) : binOp .neq t (bt a) (bt b) = pure (.bool (a != b)) := by
  simp only [val_u8, binOp, ne_eq, not_true_eq_false, if_false, Op.intCmp]
  rw [show ((a.toNat : Int) != (b.toNat : Int)) = (a != b) from by rw [Bool.eq_iff_iff]; simp [← UInt8.toNat_inj]; omega]
theorem neq_u8_c (t : TypeId) (a : UInt8) (n : Int) : binOp .neq t (bt a) (.int .u8 n) = pure (.bool ((a.toNat : Int) != n)) := by
  simp only [val_u8, binOp, ne_eq, not_true_eq_false, if_false, Op.intCmp]
theorem lss_u8 (t : TypeId) (a b : UInt8) : binOp .lss t (bt a) (bt b) = pure (.bool (decide (a < b))) := by
  simp only [val_u8, binOp, ne_eq, not_true_eq_false, if_false, Op.intCmp]
  rw [show (decide ((a.toNat : Int) < b.toNat)) = (decide (a < b)) from by rw [Bool.eq_iff_iff]; simp [UInt8.lt_iff_toNat_lt, UInt8.le_iff_toNat_le]]
theorem lss_u8_c (t : TypeId) (a : UInt8) (n : Int) : binOp .lss t (bt a) (.int .u8 n) = pure (.bool (decide ((a.toNat : Int) < n))) := by
  simp only [val_u8, binOp, ne_eq, not_true_eq_false, if_false, Op.intCmp]
theorem leq_u8 (t : TypeId) (a b : UInt8) : binOp .leq t (bt a) (bt b) = pure (.bool (decide (a ≤ b))) := by
  simp only [val_u8, binOp, ne_eq, not_true_eq_false, if_false, Op.intCmp]
  rw [show (decide ((a.toNat : Int) ≤ b.toNat)) = (decide (a ≤ b)) from by rw [Bool.eq_iff_iff]; simp [UInt8.lt_iff_toNat_lt, UInt8.le_iff_toNat_le]]
theorem leq_u8_c (t : TypeId) (a : UInt8) (n : Int) : binOp .leq t (bt a) (.int .u8 n) = pure (.bool (decide ((a.toNat : Int) ≤ n))) := by
  simp only [val_u8, binOp, ne_eq, not_true_eq_false, if_false, Op.intCmp]
theorem gtr_u8 (t : TypeId) (a b : UInt8) : binOp .gtr t (bt a) (bt b) = pure (.bool (decide (b < a))) := by
  simp only [val_u8, binOp, ne_eq, not_true_eq_false, if_false, Op.intCmp]
  rw [show (decide ((a.toNat : Int) > b.toNat)) = (decide (b < a)) from by rw [Bool.eq_iff_iff]; simp [UInt8.lt_iff_toNat_lt, UInt8.le_iff_toNat_le]]
theorem gtr_u8_c (t : TypeId) (a : UInt8) (n : Int) : binOp .gtr t (bt a) (.int .u8 n) = pure (.bool (decide ((a.toNat : Int) > n))) := by
  simp only [val_u8, binOp, ne_eq, not_true_eq_false, if_false, Op.intCmp]
theorem geq_u8 (t : TypeId) (a b : UInt8) : binOp .geq t (bt a) (bt b) = pure (.bool (decide (b ≤ a))) := by
  simp only [val_u8, binOp, ne_eq, not_true_eq_false, if_false, Op.intCmp]
  rw [show (decide ((a.toNat : Int) ≥ b.toNat)) = (decide (b ≤ a)) from by rw [Bool.eq_iff_iff]; simp [UInt8.lt_iff_toNat_lt, UInt8.le_iff_toNat_le]]
theorem geq_u8_c (t : TypeId) (a : UInt8) (n : Int) : binOp .geq t (bt a) (.int .u8 n) = pure (.bool (decide ((a.toNat : Int) ≥ n))) := by
  simp only [val_u8, binOp, ne_eq, not_true_eq_false, if_false, Op.intCmp]
theorem not_u8 (a : UInt8) : Op.unary .xor (bt a) = pure (bt (~~~a)) := by
  have h : BitVec.ofInt 8 IntKind.u8.max = BitVec.allOnes 8 := by decide
  have e : Op.unary .xor (bt a) = Op.intBits .xor .u8 IntKind.u8.max a.toNat := rfl
  rw [e]
  simp only [Op.intBits, IntKind.bits, bvi_u8, h, BitVec.allOnes_xor]
  rw [back_u8]
  rfl
theorem shl_u8 (t : TypeId) (a : UInt8) (yk : IntKind) (n : Int) (h : 0 ≤ n) : binOp .shl t (bt a) (.int yk n) = pure (bt (shl8 a n.toNat)) := by
  have hn : ¬ n < 0 := by omega
  simp only [val_u8, binOp, Op.shift, hn, if_false, IntKind.bits]
  have e : Value.int .u8 (IntKind.u8.wrap ((a.toNat : Int) * 2 ^ min n.toNat 8)) = Value.int .u8 ((shl8 a n.toNat).toNat : Int) := by
    rw [wrap_u8']
    congr 1
    unfold shl8
    show _ = ((a.toBitVec <<< n.toNat).toNat : Int)
    rw [BitVec.toNat_shiftLeft, Nat.shiftLeft_eq]
    have e2 : a.toBitVec.toNat = a.toNat := rfl
    rw [e2]
    by_cases hm : n.toNat ≤ 8
    · rw [Nat.min_eq_left hm]
      rw [Int.natCast_emod, Int.natCast_mul, Int.natCast_pow]
      rfl
    · rw [Nat.min_eq_right (by omega)]
      obtain ⟨j, hj⟩ : ∃ j, n.toNat = 8 + j := ⟨n.toNat - 8, by omega⟩
      have e3 : ((a.toNat * 2 ^ n.toNat) % 2 ^ 8 : Nat) = 0 := by
        rw [hj, Nat.pow_add, ← Nat.mul_assoc, Nat.mul_right_comm, Nat.mul_mod_left]
      rw [e3]
      exact Int.mul_emod_left _ _
  rw [e]
theorem shr_u8 (t : TypeId) (a : UInt8) (yk : IntKind) (n : Int) (h : 0 ≤ n) : binOp .shr t (bt a) (.int yk n) = pure (bt (shr8 a n.toNat)) := by
  have hn : ¬ n < 0 := by omega
  simp only [val_u8, binOp, Op.shift, hn, if_false, IntKind.bits]
  have e : Value.int .u8 ((a.toNat : Int).fdiv (2 ^ min n.toNat 8)) = Value.int .u8 ((shr8 a n.toNat).toNat : Int) := by
    congr 1
    unfold shr8
    show _ = ((a.toBitVec >>> n.toNat).toNat : Int)
    rw [BitVec.toNat_ushiftRight, Nat.shiftRight_eq_div_pow]
    have e2 : a.toBitVec.toNat = a.toNat := rfl
    rw [e2]
    have e4 : ∀ j : Nat, (a.toNat : Int).fdiv (2 ^ j) = ((a.toNat / 2 ^ j : Nat) : Int) := fun j => by
      rw [Int.fdiv_eq_ediv_of_nonneg _ (by exact Int.pow_nonneg (by decide))]
      rw [Int.natCast_ediv, Int.natCast_pow]
      rfl
    rw [e4]
    by_cases hm : n.toNat ≤ 8
    · rw [Nat.min_eq_left hm]
    · rw [Nat.min_eq_right (by omega)]
      have h1 : a.toNat < 2 ^ 8 := a.toBitVec.isLt
      have h2 : a.toNat < 2 ^ n.toNat := Nat.lt_of_lt_of_le h1 (Nat.pow_le_pow_right (by decide) (by omega))
      rw [Nat.div_eq_of_lt h1, Nat.div_eq_of_lt h2]
  rw [e]


/-! ### u32 -/
theorem int_u32 (x : Int) : Value.int .u32 (IntKind.u32.wrap x) = W32 ⟨BitVec.ofInt 32 x⟩ := by
  unfold W32
  rw [wrap_u32']
  congr 1
  exact (bv_wrap 32 x).symm
theorem val_u32 (a : UInt32) : W32 a = .int .u32 a.toNat := rfl
theorem bvi_u32 (a : UInt32) : BitVec.ofInt 32 (a.toNat : Int) = a.toBitVec := ofInt_toNat a.toBitVec
theorem back_u32 (r : BitVec 32) : Value.int .u32 (IntKind.u32.wrap r.toNat) = W32 ⟨r⟩ := by rw [int_u32, ofInt_toNat]

theorem add_u32 (t : TypeId) (a b : UInt32) : binOp .add t (W32 a) (W32 b) = pure (W32 (a + b)) := by
  have e : IntKind.u32 = IntKind.u32 := rfl
  simp only [val_u32, binOp, ne_eq, not_true_eq_false, if_false, Op.intArith, int_u32, BitVec.ofInt_add, bvi_u32]
  rfl
theorem add_u32_c (t : TypeId) (a : UInt32) (n : Int) : binOp .add t (W32 a) (.int .u32 n) = pure (W32 (a + c32 n)) := by
  have e : IntKind.u32 = IntKind.u32 := rfl
  simp only [val_u32, binOp, ne_eq, not_true_eq_false, if_false, Op.intArith, int_u32, BitVec.ofInt_add, bvi_u32]
  rfl
theorem add_u32c_ (t : TypeId) (n : Int) (b : UInt32) : binOp .add t (.int .u32 n) (W32 b) = pure (W32 (c32 n + b)) := by
  have e : IntKind.u32 = IntKind.u32 := rfl
  simp only [val_u32, binOp, ne_eq, not_true_eq_false, if_false, Op.intArith, int_u32, BitVec.ofInt_add, bvi_u32]
  rfl
theorem sub_u32 (t : TypeId) (a b : UInt32) : binOp .sub t (W32 a) (W32 b) = pure (W32 (a - b)) := by
  have e : IntKind.u32 = IntKind.u32 := rfl
  simp only [val_u32, binOp, ne_eq, not_true_eq_false, if_false, Op.intArith, int_u32, bv_sub, bvi_u32]
  rfl
theorem sub_u32_c (t : TypeId) (a : UInt32) (n : Int) : binOp .sub t (W32 a) (.int .u32 n) = pure (W32 (a - c32 n)) := by
  have e : IntKind.u32 = IntKind.u32 := rfl
  simp only [val_u32, binOp, ne_eq, not_true_eq_false, if_false, Op.intArith, int_u32, bv_sub, bvi_u32]
  rfl
theorem sub_u32c_ (t : TypeId) (n : Int) (b : UInt32) : binOp .sub t (.int .u32 n) (W32 b) = pure (W32 (c32 n - b)) := by
  have e : IntKind.u32 = IntKind.u32 := rfl
  simp only [val_u32, binOp, ne_eq, not_true_eq_false, if_false, Op.intArith, int_u32, bv_sub, bvi_u32]
  rfl
theorem mul_u32 (t : TypeId) (a b : UInt32) : binOp .mul t (W32 a) (W32 b) = pure (W32 (a * b)) := by
  have e : IntKind.u32 = IntKind.u32 := rfl
  simp only [val_u32, binOp, ne_eq, not_true_eq_false, if_false, Op.intArith, int_u32, BitVec.ofInt_mul, bvi_u32]
  rfl
theorem mul_u32_c (t : TypeId) (a : UInt32) (n : Int) : binOp .mul t (W32 a) (.int .u32 n) = pure (W32 (a * c32 n)) := by
  have e : IntKind.u32 = IntKind.u32 := rfl
  simp only [val_u32, binOp, ne_eq, not_true_eq_false, if_false, Op.intArith, int_u32, BitVec.ofInt_mul, bvi_u32]
  rfl
theorem mul_u32c_ (t : TypeId) (n : Int) (b : UInt32) : binOp .mul t (.int .u32 n) (W32 b) = pure (W32 (c32 n * b)) := by
  have e : IntKind.u32 = IntKind.u32 := rfl
  simp only [val_u32, binOp, ne_eq, not_true_eq_false, if_false, Op.intArith, int_u32, BitVec.ofInt_mul, bvi_u32]
  rfl
theorem and_u32 (t : TypeId) (a b : UInt32) : binOp .and t (W32 a) (W32 b) = pure (W32 (a &&& b)) := by
  simp only [val_u32, binOp, ne_eq, not_true_eq_false, if_false, Op.intBits, IntKind.bits, bvi_u32]
  rw [back_u32]
  rfl
theorem and_u32_c (t : TypeId) (a : UInt32) (n : Int) : binOp .and t (W32 a) (.int .u32 n) = pure (W32 (a &&& (c32 n))) := by
  simp only [val_u32, binOp, ne_eq, not_true_eq_false, if_false, Op.intBits, IntKind.bits, bvi_u32]
  rw [back_u32]
  rfl
theorem and_u32c_ (t : TypeId) (n : Int) (b : UInt32) : binOp .and t (.int .u32 n) (W32 b) = pure (W32 (c32 n &&& b)) := by
  simp only [val_u32, binOp, ne_eq, not_true_eq_false, if_false, Op.intBits, IntKind.bits, bvi_u32]
  rw [back_u32]
  rfl
theorem or_u32 (t : TypeId) (a b : UInt32) : binOp .or t (W32 a) (W32 b) = pure (W32 (a ||| b)) := by
  simp only [val_u32, binOp, ne_eq, not_true_eq_false, if_false, Op.intBits, IntKind.bits, bvi_u32]
  rw [back_u32]
  rfl
theorem or_u32_c (t : TypeId) (a : UInt32) (n : Int) : binOp .or t (W32 a) (.int .u32 n) = pure (W32 (a ||| (c32 n))) := by
  simp only [val_u32, binOp, ne_eq, not_true_eq_false, if_false, Op.intBits, IntKind.bits, bvi_u32]
  rw [back_u32]
  rfl
theorem or_u32c_ (t : TypeId) (n : Int) (b : UInt32) : binOp .or t (.int .u32 n) (W32 b) = pure (W32 (c32 n ||| b)) := by
  simp only [val_u32, binOp, ne_eq, not_true_eq_false, if_false, Op.intBits, IntKind.bits, bvi_u32]
  rw [back_u32]
  rfl
theorem xor_u32 (t : TypeId) (a b : UInt32) : binOp .xor t (W32 a) (W32 b) = pure (W32 (a ^^^ b)) := by
  simp only [val_u32, binOp, ne_eq, not_true_eq_false, if_false, Op.intBits, IntKind.bits, bvi_u32]
  rw [back_u32]
  rfl
theorem xor_u32_c (t : TypeId) (a : UInt32) (n : Int) : binOp .xor t (W32 a) (.int .u32 n) = pure (W32 (a ^^^ (c32 n))) := by
  simp only [val_u32, binOp, ne_eq, not_true_eq_false, if_false, Op.intBits, IntKind.bits, bvi_u32]
  rw [back_u32]
  rfl
theorem xor_u32c_ (t : TypeId) (n : Int) (b : UInt32) : binOp .xor t (.int .u32 n) (W32 b) = pure (W32 (c32 n ^^^ b)) := by
  simp only [val_u32, binOp, ne_eq, not_true_eq_false, if_false, Op.intBits, IntKind.bits, bvi_u32]
  rw [back_u32]
  rfl
theorem andNot_u32 (t : TypeId) (a b : UInt32) : binOp .andNot t (W32 a) (W32 b) = pure (W32 (a &&& ~~~b)) := by
  simp only [val_u32, binOp, ne_eq, not_true_eq_false, if_false, Op.intBits, IntKind.bits, bvi_u32]
  rw [back_u32]
  rfl
theorem andNot_u32_c (t : TypeId) (a : UInt32) (n : Int) : binOp .andNot t (W32 a) (.int .u32 n) = pure (W32 (a &&& ~~~(c32 n))) := by
  simp only [val_u32, binOp, ne_eq, not_true_eq_false, if_false, Op.intBits, IntKind.bits, bvi_u32]
  rw [back_u32]
  rfl
theorem andNot_u32c_ (t : TypeId) (n : Int) (b : UInt32) : binOp .andNot t (.int .u32 n) (W32 b) = pure (W32 (c32 n &&& ~~~b)) := by
  simp only [val_u32, binOp, ne_eq, not_true_eq_false, if_false, Op.intBits, IntKind.bits, bvi_u32]
  rw [back_u32]
  rfl
theorem eql_u32 (t : TypeId) (a b : UInt32) : binOp .eql t (W32 a) (W32 b) = pure (.bool (a == b)) := by
  simp only [val_u32, binOp, ne_eq, not_true_eq_false, if_false, Op.intCmp]
  rw [show ((a.toNat : Int) == (b.toNat : Int)) = (a == b) from by rw [Bool.eq_iff_iff]; simp [← UInt32.toNat_inj]; omega]
theorem eql_u32_c (t : TypeId) (a : UInt32) (n : Int) : binOp .eql t (W32 a) (.int .u32 n) = pure (.bool ((a.toNat : Int) == n)) := by
  simp only [val_u32, binOp, ne_eq, not_true_eq_false, if_false, Op.intCmp]
theorem neq_u32 (t : TypeId) (a b : UInt32) : binOp .neq t (W32 a) (W32 b) = pure (.bool (a != b)) := by
  simp only [val_u32, binOp, ne_eq, not_true_eq_false, if_false, Op.intCmp]
  rw [show ((a.toNat : Int) != (b.toNat : Int)) = (a != b) from by rw [Bool.eq_iff_iff]; simp [← UInt32.toNat_inj]; omega]
theorem neq_u32_c (t : TypeId) (a : UInt32) (n : Int) : binOp .neq t (W32 a) (.int .u32 n) = pure (.bool ((a.toNat : Int) != n)) := by
  simp only [val_u32, binOp, ne_eq, not_true_eq_false, if_false, Op.intCmp]
theorem lss_u32 (t : TypeId) (a b : UInt32) : binOp .lss t (W32 a) (W32 b) = pure (.bool (decide (a < b))) := by
  simp only [val_u32, binOp, ne_eq, not_true_eq_false, if_false, Op.intCmp]
  rw [show (decide ((a.toNat : Int) < b.toNat)) = (decide (a < b)) from by rw [Bool.eq_iff_iff]; simp [UInt32.lt_iff_toNat_lt, UInt32.le_iff_toNat_le]]
theorem lss_u32_c (t : TypeId) (a : UInt32) (n : Int) : binOp .lss t (W32 a) (.int .u32 n) = pure (.bool (decide ((a.toNat : Int) < n))) := by
  simp only [val_u32, binOp, ne_eq, not_true_eq_false, if_false, Op.intCmp]
theorem leq_u32 (t : TypeId) (a b : UInt32) : binOp .leq t (W32 a) (W32 b) = pure (.bool (decide (a ≤ b))) := by
  simp only [val_u32, binOp, ne_eq, not_true_eq_false, if_false, Op.intCmp]
  rw [show (decide ((a.toNat : Int) ≤ b.toNat)) = (decide (a ≤ b)) from by rw [Bool.eq_iff_iff]; simp [UInt32.lt_iff_toNat_lt, UInt32.le_iff_toNat_le]]
theorem leq_u32_c (t : TypeId) (a : UInt32) (n : Int) : binOp .leq t (W32 a) (.int .u32 n) = pure (.bool (decide ((a.toNat : Int) ≤ n))) := by
  simp only [val_u32, binOp, ne_eq, not_true_eq_false, if_false, Op.intCmp]
theorem gtr_u32 (t : TypeId) (a b : UInt32) : binOp .gtr t (W32 a) (W32 b) = pure (.bool (decide (b < a))) := by
  simp only [val_u32, binOp, ne_eq, not_true_eq_false, if_false, Op.intCmp]
  rw [show (decide ((a.toNat : Int) > b.toNat)) = (decide (b < a)) from by rw [Bool.eq_iff_iff]; simp [UInt32.lt_iff_toNat_lt, UInt32.le_iff_toNat_le]]
theorem gtr_u32_c (t : TypeId) (a : UInt32) (n : Int) : binOp .gtr t (W32 a) (.int .u32 n) = pure (.bool (decide ((a.toNat : Int) > n))) := by
  simp only [val_u32, binOp, ne_eq, not_true_eq_false, if_false, Op.intCmp]
theorem geq_u32 (t : TypeId) (a b : UInt32) : binOp .geq t (W32 a) (W32 b) = pure (.bool (decide (b ≤ a))) := by
  simp only [val_u32, binOp, ne_eq, not_true_eq_false, if_false, Op.intCmp]
  rw [show (decide ((a.toNat : Int) ≥ b.toNat)) = (decide (b ≤ a)) from by rw [Bool.eq_iff_iff]; simp [UInt32.lt_iff_toNat_lt, UInt32.le_iff_toNat_le]]
theorem geq_u32_c (t : TypeId) (a : UInt32) (n : Int) : binOp .geq t (W32 a) (.int .u32 n) = pure (.bool (decide ((a.toNat : Int) ≥ n))) := by
  simp only [val_u32, binOp, ne_eq, not_true_eq_false, if_false, Op.intCmp]
theorem not_u32 (a : UInt32) : Op.unary .xor (W32 a) = pure (W32 (~~~a)) := by
  have h : BitVec.ofInt 32 IntKind.u32.max = BitVec.allOnes 32 := by decide
  have e : Op.unary .xor (W32 a) = Op.intBits .xor .u32 IntKind.u32.max a.toNat := rfl
  rw [e]
  simp only [Op.intBits, IntKind.bits, bvi_u32, h, BitVec.allOnes_xor]
  rw [back_u32]
  rfl
theorem shl_u32 (t : TypeId) (a : UInt32) (yk : IntKind) (n : Int) (h : 0 ≤ n) : binOp .shl t (W32 a) (.int yk n) = pure (W32 (shl32 a n.toNat)) := by
  have hn : ¬ n < 0 := by omega
  simp only [val_u32, binOp, Op.shift, hn, if_false, IntKind.bits]
  have e : Value.int .u32 (IntKind.u32.wrap ((a.toNat : Int) * 2 ^ min n.toNat 32)) = Value.int .u32 ((shl32 a n.toNat).toNat : Int) := by
    rw [wrap_u32']
    congr 1
    unfold shl32
    show _ = ((a.toBitVec <<< n.toNat).toNat : Int)
    rw [BitVec.toNat_shiftLeft, Nat.shiftLeft_eq]
    have e2 : a.toBitVec.toNat = a.toNat := rfl
    rw [e2]
    by_cases hm : n.toNat ≤ 32
    · rw [Nat.min_eq_left hm]
      rw [Int.natCast_emod, Int.natCast_mul, Int.natCast_pow]
      rfl
    · rw [Nat.min_eq_right (by omega)]
      obtain ⟨j, hj⟩ : ∃ j, n.toNat = 32 + j := ⟨n.toNat - 32, by omega⟩
      have e3 : ((a.toNat * 2 ^ n.toNat) % 2 ^ 32 : Nat) = 0 := by
        rw [hj, Nat.pow_add, ← Nat.mul_assoc, Nat.mul_right_comm, Nat.mul_mod_left]
      rw [e3]
      exact Int.mul_emod_left _ _
  rw [e]
theorem shr_u32 (t : TypeId) (a : UInt32) (yk : IntKind) (n : Int) (h : 0 ≤ n) : binOp .shr t (W32 a) (.int yk n) = pure (W32 (shr32 a n.toNat)) := by
  have hn : ¬ n < 0 := by omega
  simp only [val_u32, binOp, Op.shift, hn, if_false, IntKind.bits]
  have e : Value.int .u32 ((a.toNat : Int).fdiv (2 ^ min n.toNat 32)) = Value.int .u32 ((shr32 a n.toNat).toNat : Int) := by
    congr 1
    unfold shr32
    show _ = ((a.toBitVec >>> n.toNat).toNat : Int)
    rw [BitVec.toNat_ushiftRight, Nat.shiftRight_eq_div_pow]
    have e2 : a.toBitVec.toNat = a.toNat := rfl
    rw [e2]
    have e4 : ∀ j : Nat, (a.toNat : Int).fdiv (2 ^ j) = ((a.toNat / 2 ^ j : Nat) : Int) := fun j => by
      rw [Int.fdiv_eq_ediv_of_nonneg _ (by exact Int.pow_nonneg (by decide))]
      rw [Int.natCast_ediv, Int.natCast_pow]
      rfl
    rw [e4]
    by_cases hm : n.toNat ≤ 32
    · rw [Nat.min_eq_left hm]
    · rw [Nat.min_eq_right (by omega)]
      have h1 : a.toNat < 2 ^ 32 := a.toBitVec.isLt
      have h2 : a.toNat < 2 ^ n.toNat := Nat.lt_of_lt_of_le h1 (Nat.pow_le_pow_right (by decide) (by omega))
      rw [Nat.div_eq_of_lt h1, Nat.div_eq_of_lt h2]
  rw [e]


/-! ### u64 -/
theorem int_u64 (x : Int) : Value.int .u64 (IntKind.u64.wrap x) = W64 ⟨BitVec.ofInt 64 x⟩ := by
  unfold W64
  rw [wrap_u64']
  congr 1
  exact (bv_wrap 64 x).symm
theorem val_u64 (a : UInt64) : W64 a = .int .u64 a.toNat := rfl
theorem bvi_u64 (a : UInt64) : BitVec.ofInt 64 (a.toNat : Int) = a.toBitVec := ofInt_toNat a.toBitVec
theorem back_u64 (r : BitVec 64) : Value.int .u64 (IntKind.u64.wrap r.toNat) = W64 ⟨r⟩ := by rw [int_u64, ofInt_toNat]

theorem add_u64 (t : TypeId) (a b : UInt64) : binOp .add t (W64 a) (W64 b) = pure (W64 (a + b)) := by
  have e : IntKind.u64 = IntKind.u64 := rfl
  simp only [val_u64, binOp, ne_eq, not_true_eq_false, if_false, Op.intArith, int_u64, BitVec.ofInt_add, bvi_u64]
  rfl
theorem add_u64_c (t : TypeId) (a : UInt64) (n : Int) : binOp .add t (W64 a) (.int .u64 n) = pure (W64 (a + c64 n)) := by
  have e : IntKind.u64 = IntKind.u64 := rfl
  simp only [val_u64, binOp, ne_eq, not_true_eq_false, if_false, Op.intArith, int_u64, BitVec.ofInt_add, bvi_u64]
  rfl
theorem add_u64c_ (t : TypeId) (n : Int) (b : UInt64) : binOp .add t (.int .u64 n) (W64 b) = pure (W64 (c64 n + b)) := by
  have e : IntKind.u64 = IntKind.u64 := rfl
  simp only [val_u64, binOp, ne_eq, not_true_eq_false, if_false, Op.intArith, int_u64, BitVec.ofInt_add, bvi_u64]
  rfl
theorem sub_u64 (t : TypeId) (a b : UInt64) : binOp .sub t (W64 a) (W64 b) = pure (W64 (a - b)) := by
  have e : IntKind.u64 = IntKind.u64 := rfl
  simp only [val_u64, binOp, ne_eq, not_true_eq_false, if_false, Op.intArith, int_u64, bv_sub, bvi_u64]
  rfl
theorem sub_u64_c (t : TypeId) (a : UInt64) (n : Int) : binOp .sub t (W64 a) (.int .u64 n) = pure (W64 (a - c64 n)) := by
  have e : IntKind.u64 = IntKind.u64 := rfl
  simp only [val_u64, binOp, ne_eq, not_true_eq_false, if_false, Op.intArith, int_u64, bv_sub, bvi_u64]
  rfl
theorem sub_u64c_ (t : TypeId) (n : Int) (b : UInt64) : binOp .sub t (.int .u64 n) (W64 b) = pure (W64 (c64 n - b)) := by
  have e : IntKind.u64 = IntKind.u64 := rfl
  simp only [val_u64, binOp, ne_eq, not_true_eq_false, if_false, Op.intArith, int_u64, bv_sub, bvi_u64]
  rfl
theorem mul_u64 (t : TypeId) (a b : UInt64) : binOp .mul t (W64 a) (W64 b) = pure (W64 (a * b)) := by
  have e : IntKind.u64 = IntKind.u64 := rfl
  simp only [val_u64, binOp, ne_eq, not_true_eq_false, if_false, Op.intArith, int_u64, BitVec.ofInt_mul, bvi_u64]
  rfl
theorem mul_u64_c (t : TypeId) (a : UInt64) (n : Int) : binOp .mul t (W64 a) (.int .u64 n) = pure (W64 (a * c64 n)) := by
  have e : IntKind.u64 = IntKind.u64 := rfl
  simp only [val_u64, binOp, ne_eq, not_true_eq_false, if_false, Op.intArith, int_u64, BitVec.ofInt_mul, bvi_u64]
  rfl
theorem mul_u64c_ (t : TypeId) (n : Int) (b : UInt64) : binOp .mul t (.int .u64 n) (W64 b) = pure (W64 (c64 n * b)) := by
  have e : IntKind.u64 = IntKind.u64 := rfl
  simp only [val_u64, binOp, ne_eq, not_true_eq_false, if_false, Op.intArith, int_u64, BitVec.ofInt_mul, bvi_u64]
  rfl
theorem and_u64 (t : TypeId) (a b : UInt64) : binOp .and t (W64 a) (W64 b) = pure (W64 (a &&& b)) := by
  simp only [val_u64, binOp, ne_eq, not_true_eq_false, if_false, Op.intBits, IntKind.bits, bvi_u64]
  rw [back_u64]
  rfl
theorem and_u64_c (t : TypeId) (a : UInt64) (n : Int) : binOp .and t (W64 a) (.int .u64 n) = pure (W64 (a &&& (c64 n))) := by
  simp only [val_u64, binOp, ne_eq, not_true_eq_false, if_false, Op.intBits, IntKind.bits, bvi_u64]
  rw [back_u64]
  rfl
theorem and_u64c_ (t : TypeId) (n : Int) (b : UInt64) : binOp .and t (.int .u64 n) (W64 b) = pure (W64 (c64 n &&& b)) := by
  simp only [val_u64, binOp, ne_eq, not_true_eq_false, if_false, Op.intBits, IntKind.bits, bvi_u64]
  rw [back_u64]
  rfl
theorem or_u64 (t : TypeId) (a b : UInt64) : binOp .or t (W64 a) (W64 b) = pure (W64 (a ||| b)) := by
  simp only [val_u64, binOp, ne_eq, not_true_eq_false, if_false, Op.intBits, IntKind.bits, bvi_u64]
  rw [back_u64]
  rfl
theorem or_u64_c (t : TypeId) (a : UInt64) (n : Int) : binOp .or t (W64 a) (.int .u64 n) = pure (W64 (a ||| (c64 n))) := by
  simp only [val_u64, binOp, ne_eq, not_true_eq_false, if_false, Op.intBits, IntKind.bits, bvi_u64]
  rw [back_u64]
  rfl
theorem or_u64c_ (t : TypeId) (n : Int) (b : UInt64) : binOp .or t (.int .u64 n) (W64 b) = pure (W64 (c64 n ||| b)) := by
  simp only [val_u64, binOp, ne_eq, not_true_eq_false, if_false, Op.intBits, IntKind.bits, bvi_u64]
  rw [back_u64]
  rfl
theorem xor_u64 (t : TypeId) (a b : UInt64) : binOp .xor t (W64 a) (W64 b) = pure (W64 (a ^^^ b)) := by
  simp only [val_u64, binOp, ne_eq, not_true_eq_false, if_false, Op.intBits, IntKind.bits, bvi_u64]
  rw [back_u64]
  rfl
theorem xor_u64_c (t : TypeId) (a : UInt64) (n : Int) : binOp .xor t (W64 a) (.int .u64 n) = pure (W64 (a ^^^ (c64 n))) := by
  simp only [val_u64, binOp, ne_eq, not_true_eq_false, if_false, Op.intBits, IntKind.bits, bvi_u64]
  rw [back_u64]
  rfl
theorem xor_u64c_ (t : TypeId) (n : Int) (b : UInt64) : binOp .xor t (.int .u64 n) (W64 b) = pure (W64 (c64 n ^^^ b)) := by
  simp only [val_u64, binOp, ne_eq, not_true_eq_false, if_false, Op.intBits, IntKind.bits, bvi_u64]
  rw [back_u64]
  rfl
theorem andNot_u64 (t : TypeId) (a b : UInt64) : binOp .andNot t (W64 a) (W64 b) = pure (W64 (a &&& ~~~b)) := by
  simp only [val_u64, binOp, ne_eq, not_true_eq_false, if_false, Op.intBits, IntKind.bits, bvi_u64]
  rw [back_u64]
  rfl
theorem andNot_u64_c (t : TypeId) (a : UInt64) (n : Int) : binOp .andNot t (W64 a) (.int .u64 n) = pure (W64 (a &&& ~~~(c64 n))) := by
  simp only [val_u64, binOp, ne_eq, not_true_eq_false, if_false, Op.intBits, IntKind.bits, bvi_u64]
  rw [back_u64]
  rfl
theorem andNot_u64c_ (t : TypeId) (n : Int) (b : UInt64) : binOp .andNot t (.int .u64 n) (W64 b) = pure (W64 (c64 n &&& ~~~b)) := by
  simp only [val_u64, binOp, ne_eq, not_true_eq_false, if_false, Op.intBits, IntKind.bits, bvi_u64]
  rw [back_u64]
  rfl
theorem eql_u64 (t : TypeId) (a b : UInt64) : binOp .eql t (W64 a) (W64 b) = pure (.bool (a == b)) := by
  simp only [val_u64, binOp, ne_eq, not_true_eq_false, if_false, Op.intCmp]
  rw [show ((a.toNat : Int) == (b.toNat : Int)) = (a == b) from by rw [Bool.eq_iff_iff]; simp [← UInt64.toNat_inj]; omega]
theorem eql_u64_c (t : TypeId) (a : UInt64) (n : Int) : binOp .eql t (W64 a) (.int .u64 n) = pure (.bool ((a.toNat : Int) == n)) := by
  simp only [val_u64, binOp, ne_eq, not_true_eq_false, if_false, Op.intCmp]
theorem neq_u64 (t : TypeId) (a b : UInt64) : binOp .neq t (W64 a) (W64 b) = pure (.bool (a != b)) := by
  simp only [val_u64, binOp, ne_eq, not_true_eq_false, if_false, Op.intCmp]
  rw [show ((a.toNat : Int) != (b.toNat : Int)) = (a != b) from by rw [Bool.eq_iff_iff]; simp [← UInt64.toNat_inj]; omega]
theorem neq_u64_c (t : TypeId) (a : UInt64) (n : Int) : binOp .neq t (W64 a) (.int .u64 n) = pure (.bool ((a.toNat : Int) != n)) := by
  simp only [val_u64, binOp, ne_eq, not_true_eq_false, if_false, Op.intCmp]
theorem lss_u64 (t : TypeId) (a b : UInt64) : binOp .lss t (W64 a) (W64 b) = pure (.bool (decide (a < b))) := by
  simp only [val_u64, binOp, ne_eq, not_true_eq_false, if_false, Op.intCmp]
  rw [show (decide ((a.toNat : Int) < b.toNat)) = (decide (a < b)) from by rw [Bool.eq_iff_iff]; simp [UInt64.lt_iff_toNat_lt, UInt64.le_iff_toNat_le]]
theorem lss_u64_c (t : TypeId) (a : UInt64) (n : Int) : binOp .lss t (W64 a) (.int .u64 n) = pure (.bool (decide ((a.toNat : Int) < n))) := by
  simp only [val_u64, binOp, ne_eq, not_true_eq_false, if_false, Op.intCmp]
theorem leq_u64 (t : TypeId) (a b : UInt64) : binOp .leq t (W64 a) (W64 b) = pure (.bool (decide (a ≤ b))) := by
  simp only [val_u64, binOp, ne_eq, not_true_eq_false, if_false, Op.intCmp]
  rw [show (decide ((a.toNat : Int) ≤ b.toNat)) = (decide (a ≤ b)) from by rw [Bool.eq_iff_iff]; simp [UInt64.lt_iff_toNat_lt, UInt64.le_iff_toNat_le]]
theorem leq_u64_c (t : TypeId) (a : UInt64) (n : Int) : binOp .leq t (W64 a) (.int .u64 n) = pure (.bool (decide ((a.toNat : Int) ≤ n))) := by
  simp only [val_u64, binOp, ne_eq, not_true_eq_false, if_false, Op.intCmp]
theorem gtr_u64 (t : TypeId) (a b : UInt64) : binOp .gtr t (W64 a) (W64 b) = pure (.bool (decide (b < a))) := by
  simp only [val_u64, binOp, ne_eq, not_true_eq_false, if_false, Op.intCmp]
  rw [show (decide ((a.toNat : Int) > b.toNat)) = (decide (b < a)) from by rw [Bool.eq_iff_iff]; simp [UInt64.lt_iff_toNat_lt, UInt64.le_iff_toNat_le]]
theorem gtr_u64_c (t : TypeId) (a : UInt64) (n : Int) : binOp .gtr t (W64 a) (.int .u64 n) = pure (.bool (decide ((a.toNat : Int) > n))) := by
  simp only [val_u64, binOp, ne_eq, not_true_eq_false, if_false, Op.intCmp]
theorem geq_u64 (t : TypeId) (a b : UInt64) : binOp .geq t (W64 a) (W64 b) = pure (.bool (decide (b ≤ a))) := by
  simp only [val_u64, binOp, ne_eq, not_true_eq_false, if_false, Op.intCmp]
  rw [show (decide ((a.toNat : Int) ≥ b.toNat)) = (decide (b ≤ a)) from by rw [Bool.eq_iff_iff]; simp [UInt64.lt_iff_toNat_lt, UInt64.le_iff_toNat_le]]
theorem geq_u64_c (t : TypeId) (a : UInt64) (n : Int) : binOp .geq t (W64 a) (.int .u64 n) = pure (.bool (decide ((a.toNat : Int) ≥ n))) := by
  simp only [val_u64, binOp, ne_eq, not_true_eq_false, if_false, Op.intCmp]
theorem not_u64 (a : UInt64) : Op.unary .xor (W64 a) = pure (W64 (~~~a)) := by
  have h : BitVec.ofInt 64 IntKind.u64.max = BitVec.allOnes 64 := by decide
  have e : Op.unary .xor (W64 a) = Op.intBits .xor .u64 IntKind.u64.max a.toNat := rfl
  rw [e]
  simp only [Op.intBits, IntKind.bits, bvi_u64, h, BitVec.allOnes_xor]
  rw [back_u64]
  rfl
theorem shl_u64 (t : TypeId) (a : UInt64) (yk : IntKind) (n : Int) (h : 0 ≤ n) : binOp .shl t (W64 a) (.int yk n) = pure (W64 (shl64 a n.toNat)) := by
  have hn : ¬ n < 0 := by omega
  simp only [val_u64, binOp, Op.shift, hn, if_false, IntKind.bits]
  have e : Value.int .u64 (IntKind.u64.wrap ((a.toNat : Int) * 2 ^ min n.toNat 64)) = Value.int .u64 ((shl64 a n.toNat).toNat : Int) := by
    rw [wrap_u64']
    congr 1
    unfold shl64
    show _ = ((a.toBitVec <<< n.toNat).toNat : Int)
    rw [BitVec.toNat_shiftLeft, Nat.shiftLeft_eq]
    have e2 : a.toBitVec.toNat = a.toNat := rfl
    rw [e2]
    by_cases hm : n.toNat ≤ 64
    · rw [Nat.min_eq_left hm]
      rw [Int.natCast_emod, Int.natCast_mul, Int.natCast_pow]
      rfl
    · rw [Nat.min_eq_right (by omega)]
      obtain ⟨j, hj⟩ : ∃ j, n.toNat = 64 + j := ⟨n.toNat - 64, by omega⟩
      have e3 : ((a.toNat * 2 ^ n.toNat) % 2 ^ 64 : Nat) = 0 := by
        rw [hj, Nat.pow_add, ← Nat.mul_assoc, Nat.mul_right_comm, Nat.mul_mod_left]
      rw [e3]
      exact Int.mul_emod_left _ _
  rw [e]
theorem shr_u64 (t : TypeId) (a : UInt64) (yk : IntKind) (n : Int) (h : 0 ≤ n) : binOp .shr t (W64 a) (.int yk n) = pure (W64 (shr64 a n.toNat)) := by
  have hn : ¬ n < 0 := by omega
  simp only [val_u64, binOp, Op.shift, hn, if_false, IntKind.bits]
  have e : Value.int .u64 ((a.toNat : Int).fdiv (2 ^ min n.toNat 64)) = Value.int .u64 ((shr64 a n.toNat).toNat : Int) := by
    congr 1
    unfold shr64
    show _ = ((a.toBitVec >>> n.toNat).toNat : Int)
    rw [BitVec.toNat_ushiftRight, Nat.shiftRight_eq_div_pow]
    have e2 : a.toBitVec.toNat = a.toNat := rfl
    rw [e2]
    have e4 : ∀ j : Nat, (a.toNat : Int).fdiv (2 ^ j) = ((a.toNat / 2 ^ j : Nat) : Int) := fun j => by
      rw [Int.fdiv_eq_ediv_of_nonneg _ (by exact Int.pow_nonneg (by decide))]
      rw [Int.natCast_ediv, Int.natCast_pow]
      rfl
    rw [e4]
    by_cases hm : n.toNat ≤ 64
    · rw [Nat.min_eq_left hm]
    · rw [Nat.min_eq_right (by omega)]
      have h1 : a.toNat < 2 ^ 64 := a.toBitVec.isLt
      have h2 : a.toNat < 2 ^ n.toNat := Nat.lt_of_lt_of_le h1 (Nat.pow_le_pow_right (by decide) (by omega))
      rw [Nat.div_eq_of_lt h1, Nat.div_eq_of_lt h2]
  rw [e]


/-! ### From one width to another -/
section
variable {P : Program}
theorem conv_u8_u32 (w : World) (s d : TypeId) (a : UInt8) {ds : TypeDesc} (hs : P.underlying s = some ds) (hd : P.underlying d = some (.int .u32)) (hn : ds = .int .u8) : (convert s d (bt a)).run P w = .ok (W32 a.toUInt32) w := by
  subst hn
  have e : Value.int .u32 (IntKind.u32.wrap (a.toNat : Int)) = W32 a.toUInt32 := by
    rw [wrap_u32']
    unfold W32
    refine congrArg (Value.int _) ?_
    have := a.toNat_lt
    simp [UInt8.toNat_toUInt32]
    try omega
  simp only [val_u8, convert, Sem.run_bind, run_underlying hs, run_underlying hd, Result.andThen_ok, Conv.intToInt, e, Sem.run_pure]
theorem conv_u8_u64 (w : World) (s d : TypeId) (a : UInt8) {ds : TypeDesc} (hs : P.underlying s = some ds) (hd : P.underlying d = some (.int .u64)) (hn : ds = .int .u8) : (convert s d (bt a)).run P w = .ok (W64 a.toUInt64) w := by
  subst hn
  have e : Value.int .u64 (IntKind.u64.wrap (a.toNat : Int)) = W64 a.toUInt64 := by
    rw [wrap_u64']
    unfold W64
    refine congrArg (Value.int _) ?_
    have := a.toNat_lt
    simp [UInt8.toNat_toUInt64]
    try omega
  simp only [val_u8, convert, Sem.run_bind, run_underlying hs, run_underlying hd, Result.andThen_ok, Conv.intToInt, e, Sem.run_pure]
theorem conv_u32_u8 (w : World) (s d : TypeId) (a : UInt32) {ds : TypeDesc} (hs : P.underlying s = some ds) (hd : P.underlying d = some (.int .u8)) (hn : ds = .int .u32) : (convert s d (W32 a)).run P w = .ok (bt a.toUInt8) w := by
  subst hn
  have e : Value.int .u8 (IntKind.u8.wrap (a.toNat : Int)) = bt a.toUInt8 := by
    rw [wrap_u8']
    unfold bt
    refine congrArg (Value.int _) ?_
    have := a.toNat_lt
    simp [UInt32.toNat_toUInt8]
    try omega
  simp only [val_u32, convert, Sem.run_bind, run_underlying hs, run_underlying hd, Result.andThen_ok, Conv.intToInt, e, Sem.run_pure]
theorem conv_u32_u64 (w : World) (s d : TypeId) (a : UInt32) {ds : TypeDesc} (hs : P.underlying s = some ds) (hd : P.underlying d = some (.int .u64)) (hn : ds = .int .u32) : (convert s d (W32 a)).run P w = .ok (W64 a.toUInt64) w := by
  subst hn
  have e : Value.int .u64 (IntKind.u64.wrap (a.toNat : Int)) = W64 a.toUInt64 := by
    rw [wrap_u64']
    unfold W64
    refine congrArg (Value.int _) ?_
    have := a.toNat_lt
    simp [UInt32.toNat_toUInt64]
    try omega
  simp only [val_u32, convert, Sem.run_bind, run_underlying hs, run_underlying hd, Result.andThen_ok, Conv.intToInt, e, Sem.run_pure]
theorem conv_u64_u8 (w : World) (s d : TypeId) (a : UInt64) {ds : TypeDesc} (hs : P.underlying s = some ds) (hd : P.underlying d = some (.int .u8)) (hn : ds = .int .u64) : (convert s d (W64 a)).run P w = .ok (bt a.toUInt8) w := by
  subst hn
  have e : Value.int .u8 (IntKind.u8.wrap (a.toNat : Int)) = bt a.toUInt8 := by
    rw [wrap_u8']
    unfold bt
    refine congrArg (Value.int _) ?_
    have := a.toNat_lt
    simp [UInt64.toNat_toUInt8]
    try omega
  simp only [val_u64, convert, Sem.run_bind, run_underlying hs, run_underlying hd, Result.andThen_ok, Conv.intToInt, e, Sem.run_pure]
theorem conv_u64_u32 (w : World) (s d : TypeId) (a : UInt64) {ds : TypeDesc} (hs : P.underlying s = some ds) (hd : P.underlying d = some (.int .u32)) (hn : ds = .int .u64) : (convert s d (W64 a)).run P w = .ok (W32 a.toUInt32) w := by
  subst hn
  have e : Value.int .u32 (IntKind.u32.wrap (a.toNat : Int)) = W32 a.toUInt32 := by
    rw [wrap_u32']
    unfold W32
    refine congrArg (Value.int _) ?_
    have := a.toNat_lt
    simp [UInt64.toNat_toUInt32]
    try omega
  simp only [val_u64, convert, Sem.run_bind, run_underlying hs, run_underlying hd, Result.andThen_ok, Conv.intToInt, e, Sem.run_pure]
/-- A word is stored. -/
theorem store_one (w : World) (b o : Nat) (v : Value) (h1 : v.oneCell' = true) (h : (w.cell? ⟨b, o, none⟩).isSome = true) (hf : w.frozen? ⟨b, o, none⟩ = false) : (storeCells ⟨b, o, none⟩ [v]).run P w = .ok () (w.setCell ⟨b, o, none⟩ v) := by
  have := run_storeCells_cells (P := P) b o [v] 0 w (by simpa using h) (by simpa using hf) (by simpa using h1)
  simpa [World.setCells] using this
theorem store_u8 (w : World) (b o : Nat) (x : UInt8) (h : (w.cell? ⟨b, o, none⟩).isSome = true) (hf : w.frozen? ⟨b, o, none⟩ = false) : (storeCells ⟨b, o, none⟩ [bt x]).run P w = .ok () (w.setCell ⟨b, o, none⟩ (bt x)) := store_one w b o _ rfl h hf
theorem store_u32 (w : World) (b o : Nat) (x : UInt32) (h : (w.cell? ⟨b, o, none⟩).isSome = true) (hf : w.frozen? ⟨b, o, none⟩ = false) : (storeCells ⟨b, o, none⟩ [W32 x]).run P w = .ok () (w.setCell ⟨b, o, none⟩ (W32 x)) := store_one w b o _ rfl h hf
theorem store_u64 (w : World) (b o : Nat) (x : UInt64) (h : (w.cell? ⟨b, o, none⟩).isSome = true) (hf : w.frozen? ⟨b, o, none⟩ = false) : (storeCells ⟨b, o, none⟩ [W64 x]).run P w = .ok () (w.setCell ⟨b, o, none⟩ (W64 x)) := store_one w b o _ rfl h hf
theorem cells_u8 (x : UInt8) : (bt x).cells = #[bt x] := rfl
theorem cells_u32 (x : UInt32) : (W32 x).cells = #[W32 x] := rfl
theorem cells_u64 (x : UInt64) : (W64 x).cells = #[W64 x] := rfl
theorem put_one (w : World) (b o : Nat) (v : Value) (h1 : v.oneCell' = true) (h : (w.cell? ⟨b, o, none⟩).isSome = true) (hf : w.frozen? ⟨b, o, none⟩ = false) : (store ⟨b, o, none⟩ v).run P w = .ok () (w.setCell ⟨b, o, none⟩ v) := by
  have := store_one (P := P) w b o v h1 h hf
  have hadd : (⟨b, o, none⟩ : Addr).add 0 = ⟨b, o, none⟩ := rfl
  simp only [storeCells, hadd, Sem.run_bind] at this
  generalize (store ⟨b, o, none⟩ v).run P w = r at this ⊢
  cases r with
  | ok u w' => simpa using this
  | halt x w' => simp at this
theorem put_u8 (w : World) (b o : Nat) (x : UInt8) (h : (w.cell? ⟨b, o, none⟩).isSome = true) (hf : w.frozen? ⟨b, o, none⟩ = false) : (store ⟨b, o, none⟩ (bt x)).run P w = .ok () (w.setCell ⟨b, o, none⟩ (bt x)) := put_one w b o _ rfl h hf
theorem put_u32 (w : World) (b o : Nat) (x : UInt32) (h : (w.cell? ⟨b, o, none⟩).isSome = true) (hf : w.frozen? ⟨b, o, none⟩ = false) : (store ⟨b, o, none⟩ (W32 x)).run P w = .ok () (w.setCell ⟨b, o, none⟩ (W32 x)) := put_one w b o _ rfl h hf
theorem put_u64 (w : World) (b o : Nat) (x : UInt64) (h : (w.cell? ⟨b, o, none⟩).isSome = true) (hf : w.frozen? ⟨b, o, none⟩ = false) : (store ⟨b, o, none⟩ (W64 x)).run P w = .ok () (w.setCell ⟨b, o, none⟩ (W64 x)) := put_one w b o _ rfl h hf
/-- An array that is a value, at a place. -/
theorem index_agg (w : World) (t e : TypeId) (n : Nat) (cs : Array Value) (k : IntKind) (i : Int) (h : P.underlying t = some (.array n e)) (hs : (P.info? e).map (·.size) = some 1) (hc : cs.size = n) (v : Value) (h0 : 0 ≤ i) (h1 : i < n) (hv : cs.toList[i.toNat]? = some v) (hna : (P.underlying e).map aggDesc = some false) :
    (Instr.index t (.agg cs) (.int k i)).run P w = .ok v w := by
  cases hq : P.info? e with
  | none => simp [hq] at hs
  | some inf =>
    have hs1 : inf.size = 1 := by simpa [hq] using hs
    have hv2 : cs[i.toNat]? = some v := by simpa using hv
    cases hu : P.underlying e with
    | none => simp [hu] at hna
    | some d =>
      have hd : aggDesc d = false := by simpa [hu] using hna
      have hagg : (isAgg e).run P w = .ok false w := by
        unfold isAgg
        rw [Sem.run_bind, run_underlying hu w]
        cases d <;> simp_all [aggDesc]
      simp [Instr.index, asIntOf, run_underlying h, h0, h1, part, hagg, sizeOf, typeInfo, hq, hs1, hv2]
end
section
variable {P : Program} {ops : Array Oper} {Q : Exit → Act → World → Prop} {a : Act} {w : World} {K : Act → World → Prop} {rest : List Oper} {o : Oper}
/-- A cell of a block is written; of the world behind it no more is told. -/
theorem wp_put (ty : TypeId) (x y : Operand) (ho : o.op = .store ty x y) {b off : Nat} (hx : a.eval x = .pointer (some ⟨b, off, none⟩)) (v : Value) (hy : a.eval y = v) (h1 : v.oneCell' = true) {cs : List Value} (hb : Blk w b cs) (hoff : off < cs.length)
    (hs : (P.info? ty).map (·.size) = some 1) (h : ∀ w', Fr [b] w w' → Blk w' b (cs.set off v) → w'.heap.size = w.heap.size → K (a.put o.dst undef) w') : o.wp P a w K Q := by
  cases hq : P.info? ty with
  | none => simp [hq] at hs
  | some i =>
    have hs1 : i.size = 1 := by simpa [hq] using hs
    have hvc : v.cells = #[v] := by cases v <;> simp_all [Value.cells, Value.oneCell']
    have hst := store_one (P := P) w b off v h1 (by rw [hb.cell]; simp; exact hoff) (hb.free off hoff)
    have hr : (storeVar ty ⟨b, off, none⟩ v).run P w = .ok () (w.setCell ⟨b, off, none⟩ v) := by simp [storeVar, sizeOf, typeInfo, hq, hs1, hvc, hst]
    unfold Oper.wp execOp
    simp only [ho, hx, hy, Instr.storeAt, Instr.sureAddr, Sem.run_bind, Sem.run_pure, Result.andThen_ok, hr]
    exact h _ ((Fr.refl [b] w).setCell (.inl (by simp)) v) (hb.set off v) (by simp)
theorem wpList_put (hg : o.guard = none) (ty : TypeId) (x y : Operand) (ho : o.op = .store ty x y) {b off : Nat} (hx : a.eval x = .pointer (some ⟨b, off, none⟩)) (v : Value) (hy : a.eval y = v) (h1 : v.oneCell' = true) {cs : List Value} (hb : Blk w b cs) (hoff : off < cs.length)
    (hs : (P.info? ty).map (·.size) = some 1) (h : ∀ w', Fr [b] w w' → Blk w' b (cs.set off v) → w'.heap.size = w.heap.size → wpList P ops Q rest (a.put o.dst undef) w') : wpList P ops Q (o :: rest) a w :=
  wpList_plain hg fun _ hK => wp_put ty x y ho hx v hy h1 hb hoff hs fun w' h2 h3 h4 => hK _ _ (h w' h2 h3 h4)
end
end Go.Xr

/- Arrays and slices that are built of parts, one cell each. -/
namespace Go.Xr
open Go Go.RowKit
set_option linter.unusedVariables false

theorem one_cells {v : Value} (h : v.oneCell' = true) : v.cells = #[v] := by cases v <;> simp_all [Value.cells, Value.oneCell']

theorem fill_ones (place : Nat → Option (Nat × Nat)) (hp : ∀ i, place i = some (i, 1)) : ∀ (vs : List Value) (k : Nat) (z : List Value), (∀ v ∈ vs, v.oneCell' = true) → k + vs.length ≤ z.length →
    Instr.fill place z.toArray ((List.range' k vs.length).zip vs) = some (z.take k ++ vs ++ z.drop (k + vs.length)).toArray
  | [], k, z, _, _ => by simp [Instr.fill]
  | v :: vs, k, z, h1, hl => by
    simp only [List.length_cons] at hl
    have hv := one_cells (h1 v (by simp))
    rw [List.length_cons, List.range'_succ, List.zip_cons_cons, fill_step place z.toArray k k 1 v _ (hp k) (by rw [hv]; rfl) (by rw [List.size_toArray]; omega)]
    have e : splice z.toArray.toList k v.cells.toList = z.take k ++ (v :: z.drop (k + 1)) := by
      rw [hv]
      simp [splice]
    rw [e]
    have ih := fill_ones place hp vs (k + 1) (z.take k ++ (v :: z.drop (k + 1))) (fun u hu => h1 u (by simp [hu])) (by simp; omega)
    rw [ih]
    have hk : (z.take k).length = k := by simp; omega
    have e1 : (z.take k ++ (v :: z.drop (k + 1))).take (k + 1) = z.take k ++ [v] := by
      have := List.take_length_add_append (l₁ := z.take k) (l₂ := v :: z.drop (k + 1)) 1
      rw [hk] at this
      simpa using this
    have e2 : (z.take k ++ (v :: z.drop (k + 1))).drop (k + 1 + vs.length) = z.drop (k + (vs.length + 1)) := by
      have := List.drop_length_add_append (l₁ := z.take k) (l₂ := v :: z.drop (k + 1)) (1 + vs.length)
      rw [hk, ← Nat.add_assoc] at this
      rw [this, Nat.add_comm 1, List.drop_succ_cons, List.drop_drop]
      congr 1
      omega
    rw [e1, e2, List.append_assoc (z.take k)]
    rfl

theorem zip_of {ps : List (Nat × Value)} {n : Nat} (h : ps.map (·.1) = List.range n) : ps = (List.range' 0 (ps.map (·.2)).length).zip (ps.map (·.2)) := by
  have hn : (ps.map (·.2)).length = n := by
    have := congrArg List.length h
    simpa using this
  rw [hn, ← List.range_eq_range', ← h]
  clear h hn
  induction ps with
  | nil => rfl
  | cons p ps ih => rw [List.map_cons, List.map_cons, List.zip_cons_cons, ← ih]

theorem fill_all (place : Nat → Option (Nat × Nat)) (hp : ∀ i, place i = some (i, 1)) (ps : List (Nat × Value)) (n : Nat) (h : ps.map (·.1) = List.range n) (vs : List Value) (hvs : ps.map (·.2) = vs) (h1 : ∀ v ∈ vs, v.oneCell' = true) (z : Array Value) (hz : z.size = n) :
    Instr.fill place z ps = some vs.toArray := by
  subst hvs
  have hn : (ps.map (·.2)).length = n := by
    have := congrArg List.length h
    simpa using this
  have hf := fill_ones place hp (ps.map (·.2)) 0 z.toList h1 (by simp at hn ⊢; omega)
  rw [← zip_of h] at hf
  simp only [Array.toArray_toList] at hf
  rw [hf]
  have : z.toList.drop (0 + (ps.map (·.2)).length) = [] := List.drop_eq_nil_of_le (by simp at hn ⊢; omega)
  rw [this, List.take_zero, List.nil_append, List.append_nil]

section
variable {P : Program} {ops : Array Oper} {Q : Exit → Act → World → Prop} {a : Act} {w : World} {K : Act → World → Prop} {rest : List Oper} {o : Oper}

theorem wp_build_arr (t : TypeId) (ps : Array (Nat × Operand)) (ho : o.op = .build t ps) (n : Nat) (e : TypeId) (hu : P.underlying t = some (.array n e)) (i : TypeInfo) (z : Value) (hi : P.info? t = some i) (hz : i.zero = some z) (hzs : z.cells.size = n)
    (hes : (P.info? e).map (·.size) = some 1) (hidx : ps.toList.map (·.1) = List.range n) (vs : List Value) (hvs : ps.toList.map (fun p => a.eval p.2) = vs) (h1 : ∀ v ∈ vs, v.oneCell' = true)
    (h : K (a.put o.dst (.agg vs.toArray)) w) : o.wp P a w K Q := by
  cases hq : P.info? e with
  | none => simp [hq] at hes
  | some ie =>
    have hs1 : ie.size = 1 := by simpa [hq] using hes
    have hf := fill_all (fun i => some (i * 1, 1)) (by simp) (ps.map fun p => (p.1, a.eval p.2)).toList n (by rw [Array.toList_map, List.map_map]; exact hidx) vs (by rw [Array.toList_map, List.map_map]; exact hvs) h1 z.cells hzs
    unfold Oper.wp execOp
    simp only [ho, Instr.build, zeroValue, typeInfo, program, Sem.run_bind, Sem.run, Result.andThen_ok, hi, hz, run_underlying hu, Sem.run_pure, sizeOf, hq, hs1, hf]
    exact h
theorem wpList_build_arr (hg : o.guard = none) (t : TypeId) (ps : Array (Nat × Operand)) (ho : o.op = .build t ps) (n : Nat) (e : TypeId) (hu : P.underlying t = some (.array n e)) (i : TypeInfo) (z : Value) (hi : P.info? t = some i) (hz : i.zero = some z) (hzs : z.cells.size = n)
    (hes : (P.info? e).map (·.size) = some 1) (hidx : ps.toList.map (·.1) = List.range n) (vs : List Value) (hvs : ps.toList.map (fun p => a.eval p.2) = vs) (h1 : ∀ v ∈ vs, v.oneCell' = true)
    (h : wpList P ops Q rest (a.put o.dst (.agg vs.toArray)) w) : wpList P ops Q (o :: rest) a w :=
  wpList_plain hg fun _ hK => wp_build_arr t ps ho n e hu i z hi hz hzs hes hidx vs hvs h1 (hK _ _ h)

/-- '[]T{..}', one cell each. -/
theorem wp_buildSlice_ones (t : TypeId) (n : Nat) (ps : Array (Nat × Operand)) (ho : o.op = .buildSlice t n ps) (e : TypeId) (hu : P.underlying t = some (.slice e)) (i : TypeInfo) (z : Value) (hi : P.info? e = some i) (hz : i.zero = some z) (hzs : z.cells.size = 1)
    (hs : i.size = 1) (hn : n ≤ 16777216) (hn0 : 0 < n) (hidx : ps.toList.map (·.1) = List.range n) (vs : List Value) (hvs : ps.toList.map (fun p => a.eval p.2) = vs) (h1 : ∀ v ∈ vs, v.oneCell' = true)
    (h : Blk (w.alloc (.cells vs.toArray e)) w.heap.size vs → K (a.put o.dst (.slice (some ⟨w.heap.size, 0, none⟩) n n)) (w.alloc (.cells vs.toArray e))) : o.wp P a w K Q := by
  have hf := fill_all (fun i => some (i * 1, 1)) (by simp) (ps.map fun p => (p.1, a.eval p.2)).toList n (by rw [Array.toList_map, List.map_map]; exact hidx) vs (by rw [Array.toList_map, List.map_map]; exact hvs) h1 ((Array.range n).map fun k => z.cells[k % z.cells.size]!) (by simp)
  have h2 : ¬ (16777216 < n) := by omega
  have h3 : ¬ (n = 0) := by omega
  have hr : (Instr.buildSlice t n (ps.map fun p => (p.1, a.eval p.2))).run P w = .ok (.slice (some ⟨w.heap.size, 0, none⟩) n n) (w.alloc (.cells vs.toArray e)) := by
    simp only [Instr.buildSlice, run_underlying hu, sizeOf, typeInfo, Sem.run_bind, Result.andThen_ok, program, Sem.run, hi, Sem.run_pure, hs, Nat.mul_one]
    rw [if_neg (by omega), if_neg h3]
    simp only [zeroValue, typeInfo, program, Sem.run_bind, Sem.run, Result.andThen_ok, hi, hz, Sem.run_pure]
    simp only [Nat.mul_one, Array.toList_map] at hf
    simp [hf, newRow]
  unfold Oper.wp execOp
  simp only [ho, Sem.run_bind, Sem.run_pure, Result.andThen_ok, hr]
  exact h (Blk.alloc w vs e)
theorem wpList_buildSlice_ones (hg : o.guard = none) (t : TypeId) (n : Nat) (ps : Array (Nat × Operand)) (ho : o.op = .buildSlice t n ps) (e : TypeId) (hu : P.underlying t = some (.slice e)) (i : TypeInfo) (z : Value) (hi : P.info? e = some i) (hz : i.zero = some z) (hzs : z.cells.size = 1)
    (hs : i.size = 1) (hn : n ≤ 16777216) (hn0 : 0 < n) (hidx : ps.toList.map (·.1) = List.range n) (vs : List Value) (hvs : ps.toList.map (fun p => a.eval p.2) = vs) (h1 : ∀ v ∈ vs, v.oneCell' = true)
    (h : Blk (w.alloc (.cells vs.toArray e)) w.heap.size vs → wpList P ops Q rest (a.put o.dst (.slice (some ⟨w.heap.size, 0, none⟩) n n)) (w.alloc (.cells vs.toArray e))) : wpList P ops Q (o :: rest) a w :=
  wpList_plain hg fun _ hK => wp_buildSlice_ones t n ps ho e hu i z hi hz hzs hs hn hn0 hidx vs hvs h1 fun hb => hK _ _ (h hb)
end

section
variable {P : Program} {ops : Array Oper} {Q : Exit → Act → World → Prop} {a : Act} {w : World} {K : Act → World → Prop} {rest : List Oper} {o : Oper}
/-- '[]byte(s)': a slice of its own. -/
theorem wp_bytes_own (src dst e : TypeId) (x : Operand) (ho : o.op = .convert src dst x) (s : ByteArray) (hx : a.eval x = .string s) (hm : s.size ≤ maxLen)
    (hs : P.underlying src = some .string) (hd : P.underlying dst = some (.slice e)) (he : P.underlying e = some (.int .u8))
    (h : ∀ w' cap, Fr [] w w' → w.heap.size < w'.heap.size → Xr.Own w' 1 (.slice (some ⟨w.heap.size, 0, none⟩) s.size cap) s.size (bv s.data.toList) (some w.heap.size) →
      K (a.put o.dst (.slice (some ⟨w.heap.size, 0, none⟩) s.size cap)) w') : o.wp P a w K Q := by
  unfold Oper.wp execOp
  simp only [ho, hx, Sem.run_bind, run_bytes_of_string w src dst e s hs hd he, Result.andThen_ok, Sem.run_pure]
  have hge := grownCap_ge w s.size 0 e
  have hle := grownCap_le_maxLen w s.size 0 e hm
  refine h _ _ (((Fr.refl [] w).drew).alloc _) (by simp) ?_
  have hb : Blk (w.drew.alloc (.cells (bytesRow s (grownCap w s.size 0 e)) e ((bytesRow s (grownCap w s.size 0 e)).size, (bytesRow s (grownCap w s.size 0 e)).size + 1))) w.heap.size (bytesRow s (grownCap w s.size 0 e)).toList := by
    refine ⟨e, _, by rw [Array.toArray_toList]; exact heap_alloc_new w.drew _, fun i hi => ?_⟩
    rw [Array.length_toList] at hi
    have : ¬ ((bytesRow s (grownCap w s.size 0 e)).size ≤ i) := by omega
    simp [this]
  have hl : (bytesRow s (grownCap w s.size 0 e)).toList.length = grownCap w s.size 0 e := by
    rw [bytesRow_toList, List.length_append, bv_length, List.length_replicate]
    have : s.data.toList.length = s.size := Array.length_toList
    omega
  have ho1 := Xr.Own.blk (size := 1) (n := s.size) hb hge hle (by rw [hl, Nat.mul_one])
  have ht : (bytesRow s (grownCap w s.size 0 e)).toList.take (s.size * 1) = bv s.data.toList := by
    rw [bytesRow_toList, Nat.mul_one]
    have : (bv s.data.toList).length = s.size := by rw [bv_length]; exact Array.length_toList
    rw [← this]
    exact List.take_left
  rw [ht] at ho1
  exact ho1
theorem wpList_bytes_own (hg : o.guard = none) (src dst e : TypeId) (x : Operand) (ho : o.op = .convert src dst x) (s : ByteArray) (hx : a.eval x = .string s) (hm : s.size ≤ maxLen)
    (hs : P.underlying src = some .string) (hd : P.underlying dst = some (.slice e)) (he : P.underlying e = some (.int .u8))
    (h : ∀ w' cap, Fr [] w w' → w.heap.size < w'.heap.size → Xr.Own w' 1 (.slice (some ⟨w.heap.size, 0, none⟩) s.size cap) s.size (bv s.data.toList) (some w.heap.size) →
      wpList P ops Q rest (a.put o.dst (.slice (some ⟨w.heap.size, 0, none⟩) s.size cap)) w') : wpList P ops Q (o :: rest) a w :=
  wpList_plain hg fun _ hK => wp_bytes_own src dst e x ho s hx hm hs hd he fun w' cap h1 h2 h3 => hK _ _ (h w' cap h1 h2 h3)

/-- 'append(s, v)' of one element of one cell, both steps: the element is laid first, then appended. -/
theorem wpList_append1 {o1 o2 : Oper} (hg1 : o1.guard = none) (hg2 : o2.guard = none) (t : TypeId) (x s y : Operand) (ho1 : o1.op = .buildSlice t 1 #[(0, x)]) (ho2 : o2.op = .call { callee := .builtin .append, args := #[s, y], argTypes := #[t, t] })
    (e : TypeId) (i : TypeInfo) (z : Value) (bytes : Nat) (ht : P.underlying t = some (.slice e)) (hi : P.info? e = some i) (hz : i.zero = some z) (hsize : i.size = 1) (hby : i.bytes = bytes) (hzs : z.cells.size = 1)
    (u : Value) (hx : a.eval x = u) (hu : u.oneCell' = true) {v : Value} {n : Nat} {xs : List Value} {B : Option Nat} (hs : (a.put o1.dst (.slice (some ⟨w.heap.size, 0, none⟩) 1 1)).eval s = v) (hy : (a.put o1.dst (.slice (some ⟨w.heap.size, 0, none⟩) 1 1)).eval y = .slice (some ⟨w.heap.size, 0, none⟩) 1 1)
    (h : Xr.Own w 1 v n xs B) (h63 : n + 1 ≤ maxLen) (hbytes : (n + 1) * bytes ≤ 140737488355328)
    (hK : ∀ v' w' B', Xr.Own w' 1 v' (n + 1) (xs ++ [u]) B' → Fr B.toList w w' → (B' = B ∨ ∃ b, B' = some b ∧ w.heap.size ≤ b) → wpList P ops Q rest ((a.put o1.dst (.slice (some ⟨w.heap.size, 0, none⟩) 1 1)).put o2.dst v') w') : wpList P ops Q (o1 :: o2 :: rest) a w := by
  have huc := one_cells hu
  refine wpList_buildSlice_one hg1 t x ho1 e i z 1 [u] ht hi hz hsize (by rw [hx, huc]) rfl hzs (by decide) (by decide) (fun hb => ?_)
  have hn := h.keep ((Fr.refl [] w).alloc (.cells [u].toArray e)) (by simp)
  refine wpList_append hg2 s y t ho2 e i z 1 bytes ht hi hz hsize hby hzs (by decide) hs hn ⟨w.heap.size, 0, none⟩ 1 1 [u] hy rfl (hb.cells rfl) (by simpa using hu) h63 hbytes (fun v' w' B' h1 f1 hB => ?_)
  refine hK v' w' B' h1 ?_ ?_
  · exact (((Fr.refl B.toList w).alloc (.cells [u].toArray e))).trans' f1
  · rcases hB with hB | ⟨b, hB, hge⟩
    · exact .inl hB
    · exact .inr ⟨b, hB, by simp at hge; omega⟩
end

/-- An owned slice that has elements, by its cells. -/
theorem Own.opened {w : World} {size n : Nat} {v : Value} {xs : List Value} {B : Option Nat} (h : Xr.Own w size v n xs B) (hn : 0 < n) :
    ∃ b cap, B = some b ∧ v = .slice (some ⟨b, 0, none⟩) n cap ∧ n ≤ cap ∧ cap ≤ maxLen ∧ ∀ j, j < xs.length → w.cell? ⟨b, j, none⟩ = xs[j]? ∧ w.frozen? ⟨b, j, none⟩ = false := by
  rcases h.2 with ⟨_, h1, _⟩ | ⟨b, cap, cs, hB, hv, h1, h2, h3, h4, h5⟩
  · omega
  · refine ⟨b, cap, hB, hv, h1, h2, fun j hj => ⟨h.cellAt hB hj, h3.free j ?_⟩⟩
    rw [← h5, List.length_take] at hj
    omega
/-- One element is written. -/
theorem Own.blkOf {w : World} {v : Value} {n : Nat} {xs : List Value} {b : Nat} (h : Xr.Own w 1 v n xs (some b)) : ∃ cs, Blk w b cs ∧ n ≤ cs.length ∧ cs.take n = xs ∧
    ∀ w' cs', Blk w' b cs' → cs'.length = cs.length → Xr.Own w' 1 v n (cs'.take n) (some b) := by
  rcases h.2 with ⟨_, _, h1⟩ | ⟨b', cap, cs, hB, hv, h1, h2, h3, h4, h5⟩
  · cases h1
  · cases hB
    rw [Nat.mul_one] at h4 h5
    refine ⟨cs, h3, by omega, h5, fun w' cs' hb hl => ⟨by rw [List.length_take, hl, h4, Nat.mul_one]; omega, .inr ⟨b, cap, cs', rfl, hv, h1, h2, hb, by rw [hl, h4, Nat.mul_one], by rw [Nat.mul_one]⟩⟩⟩
/-- The cells of the block of an owned slice. -/
theorem Own.cells1 {w : World} {v : Value} {n : Nat} {xs cs : List Value} {b : Nat} (h : Xr.Own w 1 v n xs (some b)) (hb : Blk w b cs) : cs.take n = xs := by
  obtain ⟨cs', h1, _, h2, _⟩ := h.blkOf
  rw [Blk.eq hb h1]
  exact h2
/-- Blocks that were made since w. -/
def Fresh (w : World) (B : Option Nat) : Prop := ∀ b, B = some b → w.heap.size ≤ b
theorem Fresh.none (w : World) : Fresh w none := fun b h => by cases h
theorem Fresh.step {w w1 : World} {B B' : Option Nat} (h : Fresh w B) (f : Fr [] w w1) (hB : B' = B ∨ ∃ b, B' = some b ∧ w1.heap.size ≤ b) : Fresh w B' := by
  intro b hb
  rcases hB with rfl | ⟨b', h1, h2⟩
  · exact h b hb
  · rw [h1] at hb
    cases hb
    exact Nat.le_trans f.size h2
theorem Fresh.fr {w w1 w2 : World} {B : Option Nat} (h : Fresh w B) (f : Fr [] w w1) (g : Fr B.toList w1 w2) : Fr [] w w2 :=
  f.trans g (fun x hx => .inr (h x (by simpa using hx)))
theorem Fresh.notin {w : World} {B : Option Nat} (h : Fresh w B) {b : Nat} (hb : b < w.heap.size) : b ∉ B.toList := by
  intro hx
  have := h b (by simpa using hx)
  omega
/-- A text's byte. -/
theorem index_str {P : Program} (w : World) (t : TypeId) (s : ByteArray) (k : IntKind) (i : Int) (j : Nat) (h : P.underlying t = some .string) (hi : i = j) (hj : j < s.size) (d : UInt8) : (Instr.index t (.string s) (.int k i)).run P w = .ok (bt (s.data.toList.getD j d)) w := by
  subst hi
  have h0 : (0 : Int) ≤ (j : Int) := by omega
  have hjl : j < s.data.toList.length := by rw [Array.length_toList]; exact hj
  have e : s[j]? = some (s.data.toList.getD j d) := by
    have h1 : s[j]? = some s[j] := getElem?_pos s j hj
    rw [h1]
    congr 1
    rw [List.getD_eq_getElem?_getD, List.getElem?_eq_getElem hjl]
    rfl
  simp only [Instr.index, asIntOf, Sem.run_bind, run_underlying h, Sem.run_pure, Result.andThen_ok, h0, if_true, Int.toNat_natCast, e]
  rfl
end Go.Xr

/- The builtin copy, of a text or of a row, into a row of a block. -/
namespace Go.Xr
open Go Go.RowKit
set_option linter.unusedVariables false

theorem setCells_heap (b : Nat) : ∀ (vs : List Value) (o : Nat) (w : World), (w.setCells b o vs).heap.size = w.heap.size
  | [], _, _ => rfl
  | v :: r, o, w => by rw [World.setCells, setCells_heap b r, World.size_setCell]

theorem bytes_len (s : ByteArray) : s.data.toList.length = s.size := Array.length_toList
theorem firstString (s : ByteArray) (n : Nat) : ((s.extract 0 n).data.map fun b => Value.int .u8 b.toNat).toList = bv (s.data.toList.take n) := by
  have e : (s.extract 0 n).data.toList = s.data.toList.take n := by simp
  rw [Array.toList_map, e]
  rfl

section
variable {P : Program} {ops : Array Oper} {Q : Exit → Act → World → Prop} {a : Act} {w : World} {K : Act → World → Prop} {rest : List Oper} {o : Oper}

theorem run_copy_str (w : World) (dT sT ty elem : TypeId) {b off : Nat} (dl dc : Nat) (s : ByteArray) (k : Nat) (hk : Nat.min s.size dl = k) {cs : List Value} (hb : Blk w b cs) (hu : P.underlying dT = some (.slice elem)) (hs : (P.info? elem).map (·.size) = some 1) (hl : off + k ≤ cs.length) :
    (Builtin.copy_ #[dT, sT] ty #[.slice (some ⟨b, off, none⟩) dl dc, .string s]).run P w = .ok (.int .i64 k) (w.setCells b off (bv (s.data.toList.take k))) := by
  have hk1 : k ≤ s.size := by rw [← hk]; exact Nat.min_le_left _ _
  have hlen : (bv (s.data.toList.take k)).length = k := by
    rw [bv_length, List.length_take, bytes_len]
    exact Nat.min_eq_left hk1
  have hst := run_storeCells_cells (P := P) b off (bv (s.data.toList.take k)) 0 w (fun j hj => by rw [hlen] at hj; rw [hb.cell, List.getElem?_eq_getElem (by omega)]; rfl) (fun j hj => hb.free _ (by omega)) (bv_one _)
  rw [Nat.add_zero] at hst
  cases hq : P.info? elem with
  | none => simp [hq] at hs
  | some i =>
    have hi : i.size = 1 := by simpa [hq] using hs
    have hsz : (sizeOf elem).run P w = .ok 1 w := by simp [sizeOf, typeInfo, hq, hi]
    have e0 : (#[dT, sT] : Array TypeId)[0]? = some dT := rfl
    have e1 : (#[Value.slice (some ⟨b, off, none⟩) dl dc, .string s] : Array Value)[0]? = some (Value.slice (some ⟨b, off, none⟩) dl dc) := rfl
    have e2 : (#[Value.slice (some ⟨b, off, none⟩) dl dc, .string s] : Array Value)[1]? = some (.string s) := rfl
    have hfs := firstString s k
    simp only [Builtin.copy_, e0, e1, e2, Sem.run_bind, run_underlying hu w, Result.andThen_ok, Builtin.lenOf, Sem.run_pure, hsz, hk, Builtin.firstCells, hfs, hst, goInt]

theorem wp_copy_str (dT sT elem : TypeId) (x y : Operand) (ho : o.op = .call { callee := .builtin .copy, args := #[x, y], argTypes := #[dT, sT] }) {b off : Nat} (dl dc : Nat) (s : ByteArray) (k : Nat) (hk : Nat.min s.size dl = k) (hx : a.eval x = .slice (some ⟨b, off, none⟩) dl dc) (hy : a.eval y = .string s)
    {cs : List Value} (hb : Blk w b cs) (hu : P.underlying dT = some (.slice elem)) (hs : (P.info? elem).map (·.size) = some 1) (hl : off + k ≤ cs.length)
    (h : ∀ w', Fr [b] w w' → Blk w' b (splice cs off (bv (s.data.toList.take k))) → w'.heap.size = w.heap.size → K (a.put o.dst (.int .i64 k)) w') : o.wp P a w K Q := by
  have hr := run_copy_str (P := P) w dT sT o.type elem dl dc s k hk hb hu hs hl
  have hk1 : k ≤ s.size := by rw [← hk]; exact Nat.min_le_left _ _
  have hlen : (bv (s.data.toList.take k)).length = k := by
    rw [bv_length, List.length_take, bytes_len]
    exact Nat.min_eq_left hk1
  obtain ⟨h2, h3⟩ := Blk.setCells (bv (s.data.toList.take k)) off hb (by omega)
  unfold Oper.wp execOp
  simp only [ho, resolve, invoke, builtin, Sem.run_bind, Sem.run_pure, Result.andThen_ok, List.map_toArray, List.map_cons, List.map_nil, hx, hy, hr]
  exact h _ h3 h2 (setCells_heap _ _ _ _)
theorem wpList_copy_str (hg : o.guard = none) (dT sT elem : TypeId) (x y : Operand) (ho : o.op = .call { callee := .builtin .copy, args := #[x, y], argTypes := #[dT, sT] }) {b off : Nat} (dl dc : Nat) (s : ByteArray) (k : Nat) (hk : Nat.min s.size dl = k) (hx : a.eval x = .slice (some ⟨b, off, none⟩) dl dc) (hy : a.eval y = .string s)
    {cs : List Value} (hb : Blk w b cs) (hu : P.underlying dT = some (.slice elem)) (hs : (P.info? elem).map (·.size) = some 1) (hl : off + k ≤ cs.length)
    (h : ∀ w', Fr [b] w w' → Blk w' b (splice cs off (bv (s.data.toList.take k))) → w'.heap.size = w.heap.size → wpList P ops Q rest (a.put o.dst (.int .i64 k)) w') : wpList P ops Q (o :: rest) a w :=
  wpList_plain hg fun _ hK => wp_copy_str dT sT elem x y ho dl dc s k hk hx hy hb hu hs hl fun w' h1 h2 h3 => hK _ _ (h w' h1 h2 h3)
end
end Go.Xr

/- Slices cut out of slices: elements of one cell. -/
namespace Go.Xr
open Go Go.RowKit
set_option linter.unusedVariables false
section
variable {P : Program} {ops : Array Oper} {Q : Exit → Act → World → Prop} {a : Act} {w : World} {K : Act → World → Prop} {rest : List Oper} {o : Oper}

theorem elem_of {t e : TypeId} (ht : P.underlying t = some (.slice e)) : P.elem t = e := by simp [Program.elem, ht]

/-- 's[l:h]'. -/
theorem wp_slice_lh (t : TypeId) (x lo hi : Operand) (ho : o.op = .slice t x (some lo) (some hi) none) {b off n c : Nat} (hx : a.eval x = .slice (some ⟨b, off, none⟩) n c) (kl kh : IntKind) (li hi' : Int) (l h : Nat) (hlo : a.eval lo = .int kl li) (hhi : a.eval hi = .int kh hi') (hl : li = l) (hh : hi' = h)
    (h1 : l ≤ h) (h2 : h ≤ c) (h3 : l < c) (e : TypeId) (ht : P.underlying t = some (.slice e)) (hs : (P.info? e).map (·.size) = some 1)
    (hK : K (a.put o.dst (.slice (some ⟨b, off + l, none⟩) (h - l) (c - l))) w) : o.wp P a w K Q := by
  subst hl
  subst hh
  cases hq : P.info? e with
  | none => simp [hq] at hs
  | some i =>
    have hs1 : i.size = 1 := by simpa [hq] using hs
    have he := elem_of ht
    have hr1 := run_sliceAt_slice (P := P) w t (.slice (some ⟨b, off, none⟩) n c) (some (.int kl l)) (some (.int kh h)) none (by rw [he]; exact ht)
    have hr2 := run_slice_lh (P := P) w t (some ⟨b, off, none⟩) n c (by rw [he]; exact ht) kl kh l h (by omega) (by omega) (by omega)
    have hsz : (sizeOf (P.elem t)).run P w = .ok 1 w := by rw [he]; simp [sizeOf, typeInfo, hq, hs1]
    have hv : sliced (some ⟨b, off, none⟩) l h c 1 = .slice (some ⟨b, off + l, none⟩) (h - l) (c - l) := by
      unfold sliced
      rw [if_neg (by omega), Nat.mul_one]
      unfold Addr.add
      by_cases h0 : l = 0
      · subst h0; rfl
      · simp [h0]
    have hr : (Instr.sliceAt t (.slice (some ⟨b, off, none⟩) n c) (some (.int kl l)) (some (.int kh h)) none).run P w = .ok (.slice (some ⟨b, off + l, none⟩) (h - l) (c - l)) w := by
      rw [hr1, hr2, hsz]
      simp only [Result.andThen_ok, Int.toNat_natCast, hv]
    unfold Oper.wp execOp
    simp only [ho, Option.map_some, Option.map_none, hx, hlo, hhi, Sem.run_bind, hr, Result.andThen_ok, Sem.run_pure]
    exact hK
theorem wpList_slice_lh (hg : o.guard = none) (t : TypeId) (x lo hi : Operand) (ho : o.op = .slice t x (some lo) (some hi) none) {b off n c : Nat} (hx : a.eval x = .slice (some ⟨b, off, none⟩) n c) (kl kh : IntKind) (li hi' : Int) (l h : Nat) (hlo : a.eval lo = .int kl li) (hhi : a.eval hi = .int kh hi') (hl : li = l) (hh : hi' = h)
    (h1 : l ≤ h) (h2 : h ≤ c) (h3 : l < c) (e : TypeId) (ht : P.underlying t = some (.slice e)) (hs : (P.info? e).map (·.size) = some 1)
    (hK : wpList P ops Q rest (a.put o.dst (.slice (some ⟨b, off + l, none⟩) (h - l) (c - l))) w) : wpList P ops Q (o :: rest) a w :=
  wpList_plain hg fun _ hk => wp_slice_lh t x lo hi ho hx kl kh li hi' l h hlo hhi hl hh h1 h2 h3 e ht hs (hk _ _ hK)

/-- 'make([]T, l, c)', elements of one cell: a slice of its own; of the world no more is told. -/
theorem wpList_make1 (hg : o.guard = none) (t : TypeId) (x y : Operand) (ho : o.op = .makeSlice t x y) (l c : Nat) (kl kc : IntKind) (hx : a.eval x = .int kl l) (hy : a.eval y = .int kc c) (e : TypeId) (i : TypeInfo) (z : Value) (bytes : Nat) (ht : P.underlying t = some (.slice e)) (hi : P.info? e = some i) (hz : i.zero = some z)
    (hsize : i.size = 1) (hby : i.bytes = bytes) (hz1 : z.oneCell' = true) (hlc : l ≤ c) (hm : c ≤ 9223372036854775807) (hb : bytes * c ≤ 281474976710656)
    (h : ∀ w', Fr [] w w' → w.heap.size < w'.heap.size → Xr.Own w' 1 (.slice (some ⟨w.heap.size, 0, none⟩) l c) l (List.replicate l z) (some w.heap.size) → wpList P ops Q rest (a.put o.dst (.slice (some ⟨w.heap.size, 0, none⟩) l c)) w') : wpList P ops Q (o :: rest) a w := by
  have hzc := one_cells hz1
  refine wpList_make hg t x y ho l c kl kc hx hy e i z z 1 bytes ht hi hz hsize hby (by rw [hzc]; rfl) (by decide) hlc hm hb (fun hb1 => ?_)
  refine h _ ((Fr.refl [] w).alloc _) (by simp) ?_
  have ho1 := Xr.Own.blk (size := 1) (n := l) (cap := c) hb1 hlc (by unfold maxLen; omega) (by rw [List.length_replicate])
  rw [Nat.mul_one, List.take_replicate, Nat.mul_one, Nat.min_eq_left hlc] at ho1
  rw [Nat.mul_one]
  exact ho1

/-- 'string(b)' of a slice of its own, nil too. -/
theorem wp_string_of_own (src dst e : TypeId) (x : Operand) (ho : o.op = .convert src dst x) {v : Value} {n : Nat} {l : List UInt8} {B : Option Nat} (hx : a.eval x = v) (hv : Xr.Own w 1 v n (bv l) B)
    (hs : P.underlying src = some (.slice e)) (he : P.underlying e = some (.int .u8)) (hd : P.underlying dst = some .string)
    (h : K (a.put o.dst (.string ⟨l.toArray⟩)) w) : o.wp P a w K Q := by
  have hl := hv.1
  rw [bv_length, Nat.mul_one] at hl
  rcases hv.2 with ⟨rfl, h0, _⟩ | ⟨b, cap, cs, _, rfl, h1, h2, h3, h4, h5⟩
  · obtain rfl : l = [] := List.eq_nil_of_length_eq_zero (by omega)
    have hr : (convert src dst (.slice none 0 0)).run P w = .ok (.string ⟨#[]⟩) w := by
      simp [convert, run_underlying hs, run_underlying hd, run_underlying he, Conv.bytesToString]
      rfl
    unfold Oper.wp execOp
    simp only [ho, hx, Sem.run_bind, hr, Result.andThen_ok, Sem.run_pure]
    exact h
  · exact wp_string_of_bytes src dst e x ho n cap hx h3 l hl (by rw [List.drop_zero, hl, ← h5, Nat.mul_one]) hs he hd h
theorem wpList_string_of_own (hg : o.guard = none) (src dst e : TypeId) (x : Operand) (ho : o.op = .convert src dst x) {v : Value} {n : Nat} {l : List UInt8} {B : Option Nat} (hx : a.eval x = v) (hv : Xr.Own w 1 v n (bv l) B)
    (hs : P.underlying src = some (.slice e)) (he : P.underlying e = some (.int .u8)) (hd : P.underlying dst = some .string)
    (h : wpList P ops Q rest (a.put o.dst (.string ⟨l.toArray⟩)) w) : wpList P ops Q (o :: rest) a w :=
  wpList_plain hg fun _ hk => wp_string_of_own src dst e x ho hx hv hs he hd (hk _ _ h)
end
end Go.Xr

/- Append of a text's bytes to a slice of its own; a variable made of a value's cells. -/
namespace Go.Xr
open Go Go.RowKit
set_option linter.unusedVariables false
section
variable {P : Program} {ops : Array Oper} {Q : Exit → Act → World → Prop} {a : Act} {w : World} {K : Act → World → Prop} {rest : List Oper} {o : Oper}

theorem run_append_str_room (t u ty e : TypeId) (i : TypeInfo) (ht : P.underlying t = some (.slice e)) (hu : P.underlying u = some .string) (hi : P.info? e = some i) (hs1 : i.size = 1)
    {w : World} {b n cap : Nat} {cs : List Value} (hb : Blk w b cs) (s : ByteArray) (hroom : n + s.size ≤ cap) (hfit : n + s.size ≤ cs.length) :
    (Builtin.append_ #[t, u] ty #[.slice (some ⟨b, 0, none⟩) n cap, .string s]).run P w = .ok (.slice (some ⟨b, 0, none⟩) (n + s.size) cap) (w.setCells b n (bv s.data.toList)) := by
  have hlen : (bv s.data.toList).length = s.size := by rw [bv_length, bytes_len]
  have hst := run_storeCells_cells (P := P) b n (bv s.data.toList) 0 w (fun j hj => by rw [hlen] at hj; rw [hb.cell, List.getElem?_eq_getElem (by omega)]; rfl) (fun j hj => hb.free _ (by omega)) (bv_one _)
  rw [Nat.add_zero] at hst
  have hf := Lib.run_firstCells_string (P := P) w 1 s
  have e1 : Lib.strCells s = bv s.data.toList := rfl
  rw [e1] at hf
  simp [Builtin.append_, run_underlying ht, run_underlying hu, sizeOf, typeInfo, hi, hs1, Builtin.lenOf, hroom, hf, Addr.add_lit, hst]

theorem run_append_str (t u ty e : TypeId) (i : TypeInfo) (ht : P.underlying t = some (.slice e)) (hu : P.underlying u = some .string) (hi : P.info? e = some i) (hz : i.zero = some (bt 0)) (hs1 : i.size = 1) (hby : i.bytes = 1)
    {w : World} {v : Value} {n : Nat} {xs : List Value} {B : Option Nat} (h : Xr.Own w 1 v n xs B) (s : ByteArray) (h63 : n + s.size ≤ maxLen) (hbytes : n + s.size ≤ 140737488355328) :
    ∃ v' w' B', (Builtin.append_ #[t, u] ty #[v, .string s]).run P w = .ok v' w' ∧ Xr.Own w' 1 v' (n + s.size) (xs ++ bv s.data.toList) B' ∧ Fr B.toList w w' ∧ (B' = B ∨ ∃ b, B' = some b ∧ w.heap.size ≤ b) := by
  have hsl : (bv s.data.toList).length = s.size := by rw [bv_length, bytes_len]
  have hlen : (xs ++ bv s.data.toList).length = n + s.size := by rw [List.length_append, h.1, hsl, Nat.mul_one]
  rcases h.2 with ⟨rfl, rfl, rfl⟩ | ⟨b, cap, cs, rfl, rfl, hnc, hcm, hb, hcl, htake⟩
  · obtain ⟨v', w', hrun, r1, r2, _⟩ := Lib.run_append_own_string (P := P) w w.heap.size t u ty e i ht hu hi hz hs1 hby (.slice none 0 0) 0 [] (World.ownsRow_nil w _ e 1) s h63 hbytes (Nat.le_refl _)
    obtain rfl : xs = [] := List.eq_nil_of_length_eq_zero (by simpa using h.1)
    obtain ⟨B', hB, hge⟩ := own_of_row r1
    refine ⟨v', w', B', hrun, hB, Fr.of_grown r2, ?_⟩
    cases B' with
    | none => exact .inl rfl
    | some g => exact .inr ⟨g, rfl, hge g rfl⟩
  · rw [Nat.mul_one] at hcl htake
    by_cases hroom : n + s.size ≤ cap
    · have hfit : n + (bv s.data.toList).length ≤ cs.length := by rw [hsl, hcl]; exact hroom
      obtain ⟨h2, h3⟩ := Blk.setCells (bv s.data.toList) n hb hfit
      refine ⟨_, _, some b, run_append_str_room t u ty e i ht hu hi hs1 hb s hroom (by omega), ⟨by rw [Nat.mul_one]; exact hlen, .inr ⟨b, cap, _, rfl, rfl, hroom, hcm, h2, by rw [splice_length _ _ _ hfit, hcl, Nat.mul_one], ?_⟩⟩, h3, .inl rfl⟩
      unfold splice
      rw [Nat.mul_one, ← hlen, htake]
      exact List.take_left
    · have holds : ∀ j u, xs[j]? = some u → w.cell? ((⟨b, 0, none⟩ : Addr).add j) = some u := hb.cells (vs := xs) (by rw [List.drop_zero, h.1, Nat.mul_one]; exact htake)
      have hr := Lib.run_append_grow_string (P := P) w t u ty e i (bt 0) ht hu hi hz ⟨b, 0, none⟩ n cap xs (by rw [hs1]; exact h.1) holds s (by omega) (by unfold maxLen at h63; omega) (by rw [hby]; exact growslice_fits (by omega) (by omega))
      have hge := grownCap_ge w (n + s.size) cap e
      have hcm2 : grownCap w (n + s.size) cap e ≤ maxLen := grownCap_le_maxLen w (n + s.size) cap e h63
      refine ⟨_, _, _, hr, ?_, ((Fr.refl _ _).drew).alloc _, .inr ⟨w.heap.size, rfl, Nat.le_refl _⟩⟩
      have hB := Blk.allocArr w.drew (xs.toArray ++ (Lib.strCells s).toArray ++ Builtin.zeroCells (bt 0).cells (grownCap w (n + s.size) cap e - (n + s.size))) e
      have ho := Xr.Own.blk (size := 1) (n := n + s.size) (cap := grownCap w (n + s.size) cap e) hB hge hcm2 (by
        have hz1 : (bt 0).cells.size = 1 := rfl
        have hx := h.1
        rw [Array.length_toList]
        simp only [Array.size_append, List.size_toArray, size_zeroCells, hz1, Lib.strCells_length]
        omega)
      have e2 : ((xs.toArray ++ (Lib.strCells s).toArray ++ Builtin.zeroCells (bt 0).cells (grownCap w (n + s.size) cap e - (n + s.size))).toList).take ((n + s.size) * 1) = xs ++ bv s.data.toList := by
        simp only [Array.toList_append]
        rw [Nat.mul_one, ← hlen]
        exact List.take_left
      rw [e2] at ho
      exact ho

theorem wpList_append_str (hg : o.guard = none) (s x : Operand) (t u : TypeId) (ho : o.op = .call { callee := .builtin .append, args := #[s, x], argTypes := #[t, u] })
    (e : TypeId) (i : TypeInfo) (ht : P.underlying t = some (.slice e)) (hu : P.underlying u = some .string) (hi : P.info? e = some i) (hz : i.zero = some (bt 0)) (hs1 : i.size = 1) (hby : i.bytes = 1)
    {v : Value} {n : Nat} {xs : List Value} {B : Option Nat} (hs : a.eval s = v) (h : Xr.Own w 1 v n xs B) (r : ByteArray) (hx : a.eval x = .string r) (h63 : n + r.size ≤ maxLen) (hbytes : n + r.size ≤ 140737488355328)
    (hK : ∀ v' w' B', Xr.Own w' 1 v' (n + r.size) (xs ++ bv r.data.toList) B' → Fr B.toList w w' → (B' = B ∨ ∃ b, B' = some b ∧ w.heap.size ≤ b) → wpList P ops Q rest (a.put o.dst v') w') : wpList P ops Q (o :: rest) a w := by
  refine wpList_plain hg fun K hk => ?_
  obtain ⟨v', w', B', hr, h2, h3, h4⟩ := run_append_str (P := P) t u o.type e i ht hu hi hz hs1 hby h r h63 hbytes
  unfold Oper.wp execOp
  simp only [ho, resolve, invoke, builtin, Sem.run_bind, Sem.run_pure, Result.andThen_ok, List.map_toArray, List.map_cons, List.map_nil, hs, hx, hr]
  exact hk _ _ (hK v' w' B' h2 h3 h4)

/-- A variable that holds an aggregate: of the world no more is told. -/
theorem wpList_box (hg : o.guard = none) (t : TypeId) (x : Operand) (ho : o.op = .box t x) (vs : List Value) (hx : a.eval x = .agg vs.toArray)
    (h : ∀ w', Fr [] w w' → w.heap.size < w'.heap.size → Blk w' w.heap.size vs → wpList P ops Q rest (a.put o.dst (.pointer (some ⟨w.heap.size, 0, none⟩))) w') : wpList P ops Q (o :: rest) a w := by
  refine Great.wpList_boxTo hg t x ho o.dst rfl w.heap.size rfl vs.toArray (by rw [hx]; rfl) ?_
  exact h _ ((Fr.refl [] w).alloc _) (by simp) (Blk.alloc w vs t)
/-- A new variable of an aggregate's type: of the world no more is told. -/
theorem wpList_alloc_any (hg : o.guard = none) (t : TypeId) (ho : o.op = .alloc t) (i : TypeInfo) (z : Value) (size : Nat) (hi : P.info? t = some i) (hz : i.zero = some z) (hzs : z.cells.size = size)
    (h : ∀ (zs : List Value) (w' : World), zs.length = size → zs = z.cells.toList → Fr [] w w' → w.heap.size < w'.heap.size → Blk w' w.heap.size zs → wpList P ops Q rest (a.put o.dst (.pointer (some ⟨w.heap.size, 0, none⟩))) w') : wpList P ops Q (o :: rest) a w :=
  wpList_alloc_agg hg t ho i z size hi hz hzs fun zs h1 h2 hb => h zs _ h1 h2 ((Fr.refl [] w).alloc _) (by simp) hb
/-- 'make([]T, n)', elements of one cell: a block of its own. -/
theorem wpList_make_blk (hg : o.guard = none) (t : TypeId) (x y : Operand) (ho : o.op = .makeSlice t x y) (l c : Nat) (kl kc : IntKind) (hx : a.eval x = .int kl l) (hy : a.eval y = .int kc c) (e : TypeId) (i : TypeInfo) (z : Value) (bytes : Nat) (ht : P.underlying t = some (.slice e)) (hi : P.info? e = some i) (hz : i.zero = some z)
    (hsize : i.size = 1) (hby : i.bytes = bytes) (hz1 : z.oneCell' = true) (hlc : l ≤ c) (hm : c ≤ 9223372036854775807) (hb : bytes * c ≤ 281474976710656)
    (h : ∀ w', Fr [] w w' → w.heap.size < w'.heap.size → Blk w' w.heap.size (List.replicate c z) → wpList P ops Q rest (a.put o.dst (.slice (some ⟨w.heap.size, 0, none⟩) l c)) w') : wpList P ops Q (o :: rest) a w := by
  have hzc := one_cells hz1
  refine wpList_make hg t x y ho l c kl kc hx hy e i z z 1 bytes ht hi hz hsize hby (by rw [hzc]; rfl) (by decide) hlc hm hb (fun hb1 => ?_)
  refine h _ ((Fr.refl [] w).alloc _) (by simp) ?_
  rw [Nat.mul_one] at hb1 ⊢
  exact hb1
end
end Go.Xr

/- A region that draws its order, walked once, where what only reads comes before whatever writes (each writing operation waits for it), or hangs on no world, or yields the same in every world that meets S. Condition: S holds behind each writing operation (but, if 'last', behind the last one of all). -/
namespace Go.Xr
open Go
set_option linter.unusedVariables false
section
variable {P : Program} {ops : Array Oper} {Q : Exit → Act → World → Prop} {S : World → Prop} {last : Bool} {qs : List Nat}

/-- It may change the world (qs: those of which the walk shows that they do not; i + 1000 in qs: i does, though it is a plain one, as a text that is made bytes). -/
def effB (ops : Array Oper) (qs : List Nat) (i : Nat) : Bool := (!(((ops[i]?).map plainOp).getD false) || qs.contains (i + 1000)) && !qs.contains i

def preds (ops : Array Oper) (k : Nat) : List Nat :=
  match ops[k]? with
  | some o => (o.after.toList.filter fun e => Region.binds .any e).map fun e => e.on
  | none => []

/-- What j waits for, all the way down. -/
def anc (ops : Array Oper) (j : Nat) : List Nat := ((List.range (j + 1)).reverse).foldl (fun s k => if s.contains k then preds ops k ++ s else s) [j]

theorem preds_spec {k x : Nat} (h : x ∈ preds ops k) : ∃ o, ops[k]? = some o ∧ ∃ e ∈ o.after, Region.binds .any e = true ∧ e.on = x := by
  unfold preds at h
  split at h
  · rename_i o ho
    obtain ⟨e, he, hx⟩ := List.mem_map.1 h
    have := List.mem_filter.1 he
    exact ⟨o, ho, e, by simpa using this.1, by simpa using this.2, hx⟩
  · cases h

theorem anc_listed {j : Nat} {listed : Array Bool} (hj : j ∈ Region.ready .any ops listed) (inv : Closed ops listed) : ∀ k ∈ anc ops j, k = j ∨ listed.getD k false = true := by
  have key : ∀ (l s : List Nat), (∀ k ∈ s, k = j ∨ listed.getD k false = true) → ∀ k ∈ l.foldl (fun s k => if s.contains k then preds ops k ++ s else s) s, k = j ∨ listed.getD k false = true := by
    intro l
    induction l with
    | nil => intro s hs; exact hs
    | cons x l ih =>
      intro s hs
      rw [List.foldl_cons]
      refine ih _ ?_
      split
      · rename_i hx
        intro k hk
        rcases List.mem_append.1 hk with hk | hk
        · obtain ⟨o, ho, e, he, hb, rfl⟩ := preds_spec hk
          rcases hs x (by simpa using hx) with rfl | hl
          · obtain ⟨_, oj, hoj, hall⟩ := mem_ready.1 hj
            have : o = oj := Option.some.inj (ho.symm.trans hoj)
            subst this
            have h2 := hall e he hb
            refine .inr ?_
            cases h3 : listed.getD e.on false with
            | true => rfl
            | false => exact h2.symm.trans (by rw [h3]) |>.symm
          · exact .inr (inv.closed x o ho hl e he hb)
        · exact hs k hk
      · exact hs
  exact key _ [j] (by simp)

def wpAnyD (P : Program) (ops : Array Oper) (Q : Exit → Act → World → Prop) (S : World → Prop) (last : Bool) (qs : List Nat) : Nat → Array Bool → Act → World → Prop
  | 0, listed, a, w => Region.ready .any ops listed = [] ∧ Q .normal a w
  | fuel + 1, listed, a, w =>
    (Region.ready .any ops listed = [] → Q .normal a w) ∧
    ∀ i ∈ Region.ready .any ops listed, wpOp P ops Q i (fun a' w' => (effB ops qs i = true ∨ w' = w) ∧ ((last = true ∧ i + 1 = ops.size) ∨ S w') ∧ wpAnyD P ops Q S last qs fuel (listed.setIfInBounds i true) a' w') a w

theorem wpAny_of_D : ∀ (fuel : Nat) (listed : Array Bool) (a : Act) (w : World), wpAnyD P ops Q S last qs fuel listed a w → wpAny P .any ops Q fuel listed a w
  | 0, _, _, _, h => h
  | fuel + 1, _, _, _, h => ⟨h.1, fun i hi => wpOp_mono (fun a' w' h' => wpAny_of_D fuel _ a' w' h'.2.2) (h.2 i hi)⟩

theorem ready_false {i j : Nat} {listed : Array Bool} (hr : i ∈ Region.ready .any ops listed) (hl : listed.getD i false = true) : False := by
  have h0 := (mem_ready.1 hr).1
  rcases Nat.lt_or_ge i listed.size with h' | h'
  · simp [h'] at h0 hl; rw [h0] at hl; cases hl
  · simp [Array.getElem?_eq_none h'] at hl

/-- R: the class of worlds in which the operation taken first yields. It is the world at hand (each writing operation waits for it), or all worlds, or S. -/
theorem wpAnyD_first {i : Nat} {oi : Oper} {v : Value} (hi : ops[i]? = some oi) (hsel : ∀ (j : Nat) (o : Oper) cs b, ops[j]? = some o → o.op ≠ .select cs b)
    (hQ : ∀ c a w, Q (.panic c) (a.put oi.dst v) w → Q (.panic c) a w) (kind : Nat) (R : World → World → Prop) (hR : R = if kind = 0 then (fun w w' => w' = w) else if kind = 1 then (fun _ _ => True) else (fun _ w' => S w'))
    (hlast : kind ≠ 0 → last = true → sinkB ops (ops.size - 1) = true) :
    ∀ (fuel : Nat) (listed : Array Bool) (a : Act) (w : World), Closed ops listed →
      (∀ j oj, ops[j]? = some oj → j ≠ i → listed.getD j true = false → (∀ e ∈ oj.after, Region.binds .any e = true → e.on ≠ i) → oi.apart ops oj = true) →
      (kind = 0 → ∀ j, j ≠ i → listed.getD j true = false → effB ops qs j = true → i ∈ anc ops j) →
      i ∈ Region.ready .any ops listed → YieldsIf P ops (R w) oi v a → R w w → S w →
      wpAnyD P ops Q S last qs fuel (listed.setIfInBounds i true) (a.put oi.dst v) w → wpAnyD P ops Q S last qs (fuel + 1) listed a w := by
  intro fuel
  induction fuel with
  | zero =>
    intro listed a w _ _ _ hr hy hw hS H
    refine ⟨fun h => (by rw [h] at hr; cases hr), fun j hj => ?_⟩
    by_cases hji : j = i
    · subst hji; exact hy.wpOp hi hw ⟨.inr rfl, .inr hS, H⟩
    · have := ready_mono hj hji
      rw [H.1] at this
      cases this
  | succ fuel ih =>
    intro listed a w inv hfree hhold hr hy hw hS H
    refine ⟨fun h => (by rw [h] at hr; cases hr), fun j hj => ?_⟩
    by_cases hji : j = i
    · subst hji; exact hy.wpOp hi hw ⟨.inr rfl, .inr hS, H⟩
    · have h1 := H.2 j (ready_mono hj hji)
      obtain ⟨hjun, oj, hoj, hall⟩ := mem_ready.1 hj
      have hiun := (mem_ready.1 hr).1
      have hilt : i < ops.size := (Array.getElem?_eq_some_iff.1 hi).1
      have hjlt : j < ops.size := (Array.getElem?_eq_some_iff.1 hoj).1
      have hnot : ∀ e ∈ oj.after, Region.binds .any e = true → e.on ≠ i := fun e he hb heq => by
        have h1 := hall e he hb
        have h0 := (mem_ready.1 hr).1
        rw [heq] at h1
        rcases Nat.lt_or_ge i listed.size with h' | h'
        · simp [h'] at h0 h1; rw [h0] at h1; cases h1
        · simp [Array.getElem?_eq_none h'] at h1
      have h2 := wpOp_putIf hoj (hfree j oj hoj hji hjun hnot) (fun cs b => hsel i oi cs b hi) (fun cs b => hsel j oj cs b hoj) hQ hy h1
      have hfree' : ∀ k ok, ops[k]? = some ok → k ≠ i → (listed.setIfInBounds j true).getD k true = false →
          (∀ e ∈ ok.after, Region.binds .any e = true → e.on ≠ i) → oi.apart ops ok = true := fun k ok hk hki hun hno => by
        refine hfree k ok hk hki ?_ hno
        by_cases hjk : j = k
        · subst hjk; exact hjun
        · rw [getD_set_ne true hjk] at hun; exact hun
      have hhold' : kind = 0 → ∀ k, k ≠ i → (listed.setIfInBounds j true).getD k true = false → effB ops qs k = true → i ∈ anc ops k := fun h0 k hki hun hef => by
        refine hhold h0 k hki ?_ hef
        by_cases hjk : j = k
        · subst hjk; exact hjun
        · rw [getD_set_ne true hjk] at hun; exact hun
      refine wpOp_mono (fun a' w' h3 => ?_) h2
      obtain ⟨hy', h4, h4b, h5⟩ := h3
      have h5' : wpAnyD P ops Q S last qs fuel ((listed.setIfInBounds j true).setIfInBounds i true) (a'.put oi.dst v) w' := by rw [Array.setIfInBounds_comm _ _ hji]; exact h5
      by_cases hk0 : kind = 0
      · have hne : ¬ effB ops qs j = true := fun hef => by
          rcases anc_listed hj inv i (hhold hk0 j hji hjun hef) with he | hl
          · exact hji he.symm
          · exact ready_false (i := i) (j := j) hr hl
        obtain rfl := h4.resolve_left hne
        exact ⟨.inr rfl, .inr hS, ih (listed.setIfInBounds j true) a' w' (inv.set hj) hfree' hhold' (ready_mono hr (Ne.symm hji)) hy' hw hS h5'⟩
      · have hnl : ¬ (last = true ∧ j + 1 = ops.size) := fun ⟨hl, hj1⟩ => by
          have hjn : j = ops.size - 1 := by omega
          exact sink_waits (hlast hk0 hl) (by omega) inv _ i rfl (by omega) hiun (hjn ▸ hj)
        have h4b := h4b.resolve_left hnl
        have eR : ∀ x, R x = R w := fun x => by rw [hR, if_neg hk0]; split <;> rfl
        refine ⟨h4, .inr h4b, ih (listed.setIfInBounds j true) a' w' (inv.set hj) hfree' hhold' (ready_mono hr (Ne.symm hji)) (by rw [eR]; exact hy') ?_ h4b h5'⟩
        by_cases hk1 : kind = 1
        · rw [hR, if_neg hk0, if_pos hk1]; trivial
        · rw [hR, if_neg hk0, if_neg hk1]; exact h4b

/-- The state of a walk: those in 'done' have come up. -/
def WD (P : Program) (ops : Array Oper) (Q : Exit → Act → World → Prop) (S : World → Prop) (last : Bool) (qs : List Nat) (done : List Nat) (a : Act) (w : World) : Prop :=
  Closed ops (marks ops.size done) → wpAnyD P ops (fun e a w => e = .normal ∧ Q .normal a w) S last qs (ops.size - done.length) (marks ops.size done) a w

/-- Every writing operation that has not come up waits for i. -/
def holdB (ops : Array Oper) (qs : List Nat) (done : List Nat) (i : Nat) : Bool :=
  (List.range ops.size).all fun j => j == i || (marks ops.size done).getD j true || !effB ops qs j || (anc ops j).contains i

def holdsB (ops : Array Oper) (qs : List Nat) : List Nat → List Nat → Bool
  | _, [] => true
  | done, i :: seg => holdB ops qs done i && holdsB ops qs (done ++ [i]) seg

def Rw (kind : Nat) (S : World → Prop) (w w' : World) : Prop := if kind = 0 then w' = w else if kind = 1 then True else S w'

theorem Rw_eq (kind : Nat) (S : World → Prop) : Rw kind S = if kind = 0 then (fun w w' => w' = w) else if kind = 1 then (fun _ _ => True) else (fun _ w' => S w') := by
  funext w w'
  unfold Rw
  by_cases h0 : kind = 0
  · simp [h0]
  · by_cases h1 : kind = 1 <;> simp [h0, h1]

theorem effB_size {j : Nat} (h : ops.size ≤ j) (l : Array Bool) (hl : l.size = ops.size) : l.getD j true = true := by
  simp [Array.getElem?_eq_none (show l.size ≤ j by omega)]

theorem WD.take {done : List Nat} {i : Nat} {a : Act} {w : World} {oi : Oper} {v : Value} (kind : Nat) (hi : ops[i]? = some oi) (hsel : Region.noSelect ops = true)
    (hlast : kind ≠ 0 → last = true → sinkB ops (ops.size - 1) = true) (hB : takeB ops done i = true) (hH : kind = 0 → holdB ops qs done i = true) (hS : S w) (hw : Rw kind S w w) (hy : YieldsIf P ops (Rw kind S w) oi v a)
    (h : WD P ops Q S last qs (done ++ [i]) (a.put oi.dst v) w) : WD P ops Q S last qs done a w := by
  intro inv
  simp only [takeB, Bool.and_eq_true, decide_eq_true_eq] at hB
  obtain ⟨⟨⟨hlen, hr⟩, hf⟩, _⟩ := hB
  have hr' : i ∈ Region.ready .any ops (marks ops.size done) := by simpa using hr
  have h2 := h (by rw [marks_snoc]; exact inv.set hr')
  rw [marks_snoc] at h2
  have e : ops.size - done.length = (ops.size - (done ++ [i]).length) + 1 := by simp; omega
  rw [e]
  refine wpAnyD_first hi (Region.noSelect_spec hsel) (fun c a w hq => by simp at hq) kind (Rw kind S) (Rw_eq kind S) hlast _ _ a w inv (Region.free_spec hi hf) ?_ hr' hy hw hS h2
  intro h0 j hji hun hef
  have h3 := List.all_eq_true.1 (hH h0) j (by
    rw [List.mem_range]
    rcases Nat.lt_or_ge j ops.size with h | h
    · exact h
    · rw [effB_size h _ inv.size] at hun; cases hun)
  simp only [Bool.or_eq_true, Bool.not_eq_true', beq_iff_eq] at h3
  rcases h3 with ((h3 | h3) | h3) | h3
  · exact absurd h3 hji
  · rw [hun] at h3; cases h3
  · rw [hef] at h3; cases h3
  · simpa using h3

theorem WD.pure' (kind : Nat) (hsel : Region.noSelect ops = true) (hlast : kind ≠ 0 → last = true → sinkB ops (ops.size - 1) = true) {w : World} (hS : S w) (hw : Rw kind S w w) :
    ∀ (seg done : List Nat) (a : Act), takesB ops done seg = true → (kind = 0 → holdsB ops qs done seg = true) →
      wpQuiet P ops (Rw kind S w) (fun a' => WD P ops Q S last qs (done ++ seg) a' w) (pick ops.toList seg) a → WD P ops Q S last qs done a w
  | [], done, a, _, _, h => by simpa [pick, wpQuiet] using h
  | i :: seg, done, a, hB, hH, h => by
    simp only [takesB, Bool.and_eq_true] at hB
    have hB1 := hB.1
    simp only [takeB, Bool.and_eq_true] at hB1
    have hp := hB1.2
    have hH1 : kind = 0 → holdB ops qs done i = true := fun h0 => by have := hH h0; simp only [holdsB, Bool.and_eq_true] at this; exact this.1
    have hH2 : kind = 0 → holdsB ops qs (done ++ [i]) seg = true := fun h0 => by have := hH h0; simp only [holdsB, Bool.and_eq_true] at this; exact this.2
    cases hi : ops[i]? with
    | none => simp [hi] at hp
    | some oi =>
      simp only [hi, Option.map_some, Option.getD_some] at hp
      have hpk : pick ops.toList (i :: seg) = oi :: pick ops.toList seg := by
        have : ops.toList[i]? = some oi := by simpa using hi
        simp only [pick, List.map_cons, List.getD, this, Option.getD_some]
      rw [hpk] at h
      have happ : done ++ (i :: seg) = (done ++ [i]) ++ seg := by simp
      rw [happ] at h
      simp only [wpQuiet] at h
      by_cases hwt : Region.wanted oi (yielded ops a.tmps) = true
      · rw [if_pos hwt] at h
        obtain ⟨v, h1, h2⟩ := h
        exact WD.take kind hi hsel hlast hB.1 hH1 hS hw (.inl ⟨hwt, fun w' hS' => yields_of_quiet hp h1 w' hS'⟩) (WD.pure' kind hsel hlast hS hw seg (done ++ [i]) _ hB.2 hH2 h2)
      · rw [if_neg hwt] at h
        exact WD.take kind hi hsel hlast hB.1 hH1 hS hw (.inr ⟨by simpa using hwt, rfl⟩) (WD.pure' kind hsel hlast hS hw seg (done ++ [i]) _ hB.2 hH2 h)

def pureDB (ops : Array Oper) (qs seg done : List Nat) : Bool := Region.noSelect ops && takesB ops done seg && holdsB ops qs done seg
def freeDB (ops : Array Oper) (last : Bool) (seg done : List Nat) : Bool := Region.noSelect ops && (!last || sinkB ops (ops.size - 1)) && takesB ops done seg

/-- Operations that read, at the world at hand: every writing one waits for them. -/
theorem WD.pure {done : List Nat} {a : Act} {w : World} (seg : List Nat) (hB : pureDB ops qs seg done = true) (hS : S w)
    (h : wpQuiet P ops (fun w' => w' = w) (fun a' => WD P ops Q S last qs (done ++ seg) a' w) (pick ops.toList seg) a) : WD P ops Q S last qs done a w := by
  simp only [pureDB, Bool.and_eq_true] at hB
  refine WD.pure' 0 hB.1.1 (fun h => absurd rfl h) hS rfl seg done a hB.1.2 (fun _ => hB.2) ?_
  exact h
/-- Operations that hang on no world. -/
theorem WD.free {done : List Nat} {a : Act} {w : World} (seg : List Nat) (hB : freeDB ops last seg done = true) (hS : S w)
    (h : wpQuiet P ops (fun _ => True) (fun a' => WD P ops Q S last qs (done ++ seg) a' w) (pick ops.toList seg) a) : WD P ops Q S last qs done a w := by
  simp only [freeDB, Bool.and_eq_true, Bool.or_eq_true, Bool.not_eq_true'] at hB
  refine WD.pure' 1 hB.1.1 (fun _ hl => by simpa [hl] using hB.1.2) hS trivial seg done a hB.2 (fun h => absurd h (by decide)) ?_
  exact h
/-- Operations that read what S tells. -/
theorem WD.held {done : List Nat} {a : Act} {w : World} (seg : List Nat) (hB : freeDB ops last seg done = true) (hS : S w)
    (h : wpQuiet P ops S (fun a' => WD P ops Q S last qs (done ++ seg) a' w) (pick ops.toList seg) a) : WD P ops Q S last qs done a w := by
  simp only [freeDB, Bool.and_eq_true, Bool.or_eq_true, Bool.not_eq_true'] at hB
  refine WD.pure' 2 hB.1.1 (fun _ hl => by simpa [hl] using hB.1.2) hS hS seg done a hB.2 (fun h => absurd h (by decide)) ?_
  exact h

/-- What is asked behind an operation that makes or writes memory (w0: the world it met). -/
def AfterD (P : Program) (ops : Array Oper) (Q : Exit → Act → World → Prop) (S : World → Prop) (last : Bool) (qs done : List Nat) (i : Nat) (w0 : World) : Exit → Act → World → Prop :=
  fun e a w => e = .normal ∧ (effB ops qs i = true ∨ w = w0) ∧ ((last = true ∧ i + 1 = ops.size) ∨ S w) ∧ WD P ops Q S last qs (done ++ [i]) a w

theorem AfterD.on {done : List Nat} {i : Nat} {a : Act} {w w0 : World} (hS : S w) (he : effB ops qs i = true) (h : WD P ops Q S last qs (done ++ [i]) a w) : AfterD P ops Q S last qs done i w0 .normal a w := ⟨rfl, .inl he, .inr hS, h⟩
theorem AfterD.quiet {done : List Nat} {i : Nat} {a : Act} {w w0 : World} (hS : S w) (he : w = w0) (h : WD P ops Q S last qs (done ++ [i]) a w) : AfterD P ops Q S last qs done i w0 .normal a w := ⟨rfl, .inr he, .inr hS, h⟩
theorem AfterD.end {done : List Nat} {i : Nat} {a : Act} {w w0 : World} (hi : i + 1 = ops.size) (he : effB ops qs i = true) (h : WD P ops Q S true qs (done ++ [i]) a w) : AfterD P ops Q S true qs done i w0 .normal a w := ⟨rfl, .inl he, .inl ⟨rfl, hi⟩, h⟩

theorem WD.effs {done : List Nat} {a : Act} {w : World} (rs : List Nat) (hB : readyB ops done rs = true) (hne : rs ≠ [])
    (h : ∀ i ∈ rs, wpList P ops (AfterD P ops Q S last qs done i w) (pick ops.toList [i]) a w) : WD P ops Q S last qs done a w := by
  intro inv
  simp only [readyB, Bool.and_eq_true, decide_eq_true_eq, List.all_eq_true] at hB
  obtain ⟨⟨hlen, hr⟩, hsome⟩ := hB
  have e : ops.size - done.length = (ops.size - (done.length + 1)) + 1 := by omega
  rw [e]
  refine ⟨fun h0 => absurd (hr ▸ h0) hne, fun i hi => ?_⟩
  have hi' := hi
  rw [hr] at hi'
  obtain ⟨oi, hoi⟩ := Option.isSome_iff_exists.1 (hsome i hi')
  have h1 := h i hi'
  have hpk : pick ops.toList [i] = [oi] := by
    have : ops.toList[i]? = some oi := by simpa using hoi
    simp only [pick, List.map_cons, List.map_nil, List.getD, this, Option.getD_some]
  rw [hpk] at h1
  refine wpOp_mono (fun a' w' ⟨_, h2, h3, h4⟩ => ⟨h2, h3, ?_⟩) (wpOp_of_list hoi (fun _ _ _ h => h.1) h1)
  have h5 := h4 (by rw [marks_snoc]; exact inv.set hi)
  rw [marks_snoc] at h5
  simpa using h5

theorem WD.eff {done : List Nat} {a : Act} {w : World} (i : Nat) (hB : readyB ops done [i] = true)
    (h : wpList P ops (AfterD P ops Q S last qs done i w) (pick ops.toList [i]) a w) : WD P ops Q S last qs done a w :=
  WD.effs [i] hB (by simp) (fun j hj => by rw [List.mem_singleton.1 hj]; exact h)

theorem WD.eff2 {done : List Nat} {a : Act} {w : World} (i j : Nat) (hB : readyB ops done [i, j] = true)
    (h1 : wpList P ops (AfterD P ops Q S last qs done i w) (pick ops.toList [i]) a w) (h2 : wpList P ops (AfterD P ops Q S last qs done j w) (pick ops.toList [j]) a w) : WD P ops Q S last qs done a w :=
  WD.effs [i, j] hB (by simp) (fun k hk => by
    simp only [List.mem_cons, List.not_mem_nil, or_false] at hk
    rcases hk with rfl | rfl
    · exact h1
    · exact h2)

theorem WD.done {done : List Nat} {a : Act} {w : World} (hB : (Region.ready .any ops (marks ops.size done)).isEmpty = true) (h : Q .normal a w) : WD P ops Q S last qs done a w := by
  intro _
  have hr : Region.ready .any ops (marks ops.size done) = [] := by simpa using hB
  cases ops.size - done.length with
  | zero => exact ⟨hr, rfl, h⟩
  | succ n => exact ⟨fun _ => ⟨rfl, h⟩, by rw [hr]; simp⟩

/-- THE BEGINNING. -/
theorem wp_region_D {id : Nat} {a : Act} {w : World} (S : World → Prop) (last : Bool) (qs : List Nat) (hm : P.follows .mixedOrders = true) (h : WD P ops Q S last qs [] a w.drew) : (Code.region id ops true).wp P Q a w := by
  have h1 := h (Closed.start ops)
  refine Code.wp_mono (fun e a w ⟨he, hq⟩ => by subst he; exact hq) (wp_region_any (Q := fun e a w => e = .normal ∧ Q .normal a w) hm ?_)
  exact wpAny_of_D _ _ _ _ h1

/-- A type of arrays or structs whose values have n cells. -/
def AggT (P : Program) (ty : TypeId) (n : Nat) : Prop := ∃ d, P.underlying ty = some d ∧ aggDesc d = true ∧ (P.info? ty).map (·.size) = some n
theorem quiet_load_ag {w : World} {a : Act} {o : Oper} {rest : List Oper} {Q' : Act → Prop} (hg : o.guard = none) (ty : TypeId) (x : Operand) (ho : o.op = .load ty x) {b off : Nat} (hx : a.eval x = .pointer (some ⟨b, off, none⟩)) {cs : List Value} (vs : List Value)
    (hb : Blk w b cs) {n : Nat} (hT : AggT P ty n) (hn : vs.length = n) (hv : (cs.drop off).take n = vs)
    (h : wpQuiet P ops (fun w' => w' = w) Q' rest (a.put o.dst (.agg vs.toArray))) : wpQuiet P ops (fun w' => w' = w) Q' (o :: rest) a := by
  obtain ⟨d, hu, hd, hs⟩ := hT
  exact quiet_load_agg hg ty x ho hx vs (fun w' hw => by rw [hw]; exact hb) d hu hd (by rw [hs, hn]) (by rw [hn]; exact hv) h
theorem quiet_load_agS {a : Act} {o : Oper} {rest : List Oper} {Q' : Act → Prop} (hg : o.guard = none) (ty : TypeId) (x : Operand) (ho : o.op = .load ty x) {b off : Nat} (hx : a.eval x = .pointer (some ⟨b, off, none⟩)) {cs : List Value} (vs : List Value)
    (hb : ∀ w, S w → Blk w b cs) {n : Nat} (hT : AggT P ty n) (hn : vs.length = n) (hv : (cs.drop off).take n = vs)
    (h : wpQuiet P ops S Q' rest (a.put o.dst (.agg vs.toArray))) : wpQuiet P ops S Q' (o :: rest) a := by
  obtain ⟨d, hu, hd, hs⟩ := hT
  exact quiet_load_agg hg ty x ho hx vs hb d hu hd (by rw [hs, hn]) (by rw [hn]; exact hv) h
theorem wpList_load_ag {w : World} {a : Act} {o : Oper} {rest : List Oper} (hg : o.guard = none) (ty : TypeId) (x : Operand) (ho : o.op = .load ty x) {b off : Nat} (hx : a.eval x = .pointer (some ⟨b, off, none⟩)) {cs : List Value} (vs : List Value) (hb : Blk w b cs)
    {n : Nat} (hT : AggT P ty n) (hn : vs.length = n) (hv : (cs.drop off).take n = vs)
    (h : wpList P ops Q rest (a.put o.dst (.agg vs.toArray)) w) : wpList P ops Q (o :: rest) a w := by
  obtain ⟨d, hu, hd, hs⟩ := hT
  exact wpList_load_agg hg ty x ho hx vs hb d hu hd (by rw [hs, hn]) (by rw [hn]; exact hv) h
theorem wpList_store_ag {w : World} {a : Act} {o : Oper} {rest : List Oper} (hg : o.guard = none) (ty : TypeId) (x y : Operand) (ho : o.op = .store ty x y) {b off : Nat} (hx : a.eval x = .pointer (some ⟨b, off, none⟩)) {cs : List Value} (vs : List Value) (hy : a.eval y = .agg vs.toArray) (hb : Blk w b cs)
    {n : Nat} (hT : AggT P ty n) (hn : vs.length = n) (hle : off + n ≤ cs.length) (h1 : ∀ u ∈ vs, u.oneCell' = true)
    (h : ∀ w', Fr [b] w w' → Blk w' b (splice cs off vs) → w'.heap.size = w.heap.size → wpList P ops Q rest (a.put o.dst undef) w') : wpList P ops Q (o :: rest) a w := by
  obtain ⟨d, hu, hd, hs⟩ := hT
  exact wpList_store_agg hg ty x y ho hx vs hy hb (by rw [hs, hn]) (by rw [hn]; exact hle) h1 h
end
end Go.Xr

/- 's[lo:]'. -/
namespace Go.Xr
open Go Go.RowKit
set_option linter.unusedVariables false
section
variable {P : Program} {ops : Array Oper} {Q : Exit → Act → World → Prop} {a : Act} {w : World} {K : Act → World → Prop} {rest : List Oper} {o : Oper}

theorem wp_slice_l (t : TypeId) (x lo : Operand) (ho : o.op = .slice t x (some lo) none none) {b off n c : Nat} (hx : a.eval x = .slice (some ⟨b, off, none⟩) n c) (kl : IntKind) (li : Int) (l : Nat) (hlo : a.eval lo = .int kl li) (hl : li = l)
    (h1 : l ≤ n) (h3 : l < c) (e : TypeId) (ht : P.underlying t = some (.slice e)) (hs : (P.info? e).map (·.size) = some 1)
    (hK : K (a.put o.dst (.slice (some ⟨b, off + l, none⟩) (n - l) (c - l))) w) : o.wp P a w K Q := by
  subst hl
  cases hq : P.info? e with
  | none => simp [hq] at hs
  | some i =>
    have hs1 : i.size = 1 := by simpa [hq] using hs
    have he := elem_of ht
    have hr1 := run_sliceAt_slice (P := P) w t (.slice (some ⟨b, off, none⟩) n c) (some (.int kl l)) none none (by rw [he]; exact ht)
    have hr2 := run_slice_l (P := P) w t (some ⟨b, off, none⟩) n c (by rw [he]; exact ht) kl l (by omega) (by omega)
    have hsz : (sizeOf (P.elem t)).run P w = .ok 1 w := by rw [he]; simp [sizeOf, typeInfo, hq, hs1]
    have hv : sliced (some ⟨b, off, none⟩) l n c 1 = .slice (some ⟨b, off + l, none⟩) (n - l) (c - l) := by
      unfold sliced
      rw [if_neg (by omega), Nat.mul_one]
      unfold Addr.add
      by_cases h0 : l = 0
      · subst h0; rfl
      · simp [h0]
    have hr : (Instr.sliceAt t (.slice (some ⟨b, off, none⟩) n c) (some (.int kl l)) none none).run P w = .ok (.slice (some ⟨b, off + l, none⟩) (n - l) (c - l)) w := by
      rw [hr1, hr2, hsz]
      simp only [Result.andThen_ok, Int.toNat_natCast, hv]
    unfold Oper.wp execOp
    simp only [ho, Option.map_some, Option.map_none, hx, hlo, Sem.run_bind, hr, Result.andThen_ok, Sem.run_pure]
    exact hK
theorem wpList_slice_l (hg : o.guard = none) (t : TypeId) (x lo : Operand) (ho : o.op = .slice t x (some lo) none none) {b off n c : Nat} (hx : a.eval x = .slice (some ⟨b, off, none⟩) n c) (kl : IntKind) (li : Int) (l : Nat) (hlo : a.eval lo = .int kl li) (hl : li = l)
    (h1 : l ≤ n) (h3 : l < c) (e : TypeId) (ht : P.underlying t = some (.slice e)) (hs : (P.info? e).map (·.size) = some 1)
    (hK : wpList P ops Q rest (a.put o.dst (.slice (some ⟨b, off + l, none⟩) (n - l) (c - l))) w) : wpList P ops Q (o :: rest) a w :=
  wpList_plain hg fun _ hk => wp_slice_l t x lo ho hx kl li l hlo hl h1 h3 e ht hs (hk _ _ hK)
end
end Go.Xr

/- A range over a function whose iterator keeps state in blocks of its own: the caller's law. Conditions: the caller's invariants speak of blocks that lay before the loop; the body writes only blocks of S. -/
namespace Go.Xr
open Go Go.RowKit
set_option linter.unusedVariables false

/-- The iterator: an endless row 'enc 0', 'enc 1', ..; each round goes on (fewer than N times) or says 'no more'. Keep: the blocks that the body leaves alone. -/
def SeqB (P : Program) (n g : Nat) (lb : Array Value) (enc : Nat → Value) (Keep : Nat → Prop) (w : World) : Prop :=
  ∀ (l : Nat) (S : List Nat) (J Jx : Nat → World → Prop) (W : World) (N : Nat), Fr [] w W → (∀ b ∈ S, b < W.heap.size ∧ ¬ Keep b) →
    (∀ k A B, J k A → Below W.heap.size A B → J k B) → (∀ k A B, Jx k A → Below W.heap.size A B → Jx k B) →
    (∀ k W1, J k W1 → YieldAt Fence.wide n P l #[enc k] W1 fun e W' =>
      (e = .returned (.bool true) ∧ J (k + 1) W' ∧ Fr S W1 W' ∧ k + 1 < N) ∨ (e = .returned (.bool false) ∧ Jx (k + 1) W')) →
    J 0 W →
    Calls P g (#[.func (.yield l) #[] #[]] ++ lb) W fun e W' => (∃ v, e = .returned v) ∧ ∃ k, Jx k W'

/-- How the body of a round may be left. -/
def ownB (S : List Nat) (I : Nat → World → Prop) (Ix : Code → Nat → World → Prop) (k N : Nat) (W : World) : Exit → Act → World → Prop
  | .normal, _, W' => Fr S W W' ∧ I k W' ∧ k < N
  | .ret, _, W' => Fr S W W' ∧ Ix .ret k W'
  | .exit id, _, W' => Fr S W W' ∧ Ix (.exit id) k W'
  | _, _, _ => False

theorem below_putObj (W : World) (l B : Nat) (o : Obj) (h : B ≤ l) (hB : B ≤ W.heap.size) : Below B W (W.putObj l o) :=
  ⟨rfl, rfl, rfl, by simp, fun k hk => World.putObj_heap_other (by omega)⟩
theorem fr_putObj (W : World) (l : Nat) (o : Obj) (hn : ¬ Pln W l) : Fr [l] W (W.putObj l o) :=
  ⟨rfl, rfl, rfl, by simp, fun k _ hk => World.putObj_heap_other (by simpa using hk), fun k hk => hk.same (World.putObj_heap_other (fun e => hn (e ▸ hk)))⟩
theorem pln_loop {W : World} {l : Nat} {r} (h : W.heap[l]? = some (.loop r)) : ¬ Pln W l := by
  rintro ⟨t, cs, h2⟩
  rw [h] at h2
  cases h2
theorem pln_def {W : World} {l : Nat} {r} (h : W.heap[l]? = some (.deferred r)) : ¬ Pln W l := by
  rintro ⟨t, cs, h2⟩
  rw [h] at h2
  cases h2

theorem wpIn_rangeFunc_B {n : Nat} {P : Program} {g : Operand} {ps : Array Tmp} {assign body : Code} {Q : Exit → Act → World → Prop} {a : Act} {w : World} {gf : Nat} {lb : Array Value} (hg : a.eval g = .func (.func gf) #[] lb) (eg : ∀ args w, (callFunc gf args).run P w = .ok (.enter gf args) w)
    {enc : Nat → Value} {Keep : Nat → Prop} (hseq : SeqB P (n - 1 - 1) gf lb enc Keep w) (hps : ps.size = 1)
    (S : List Nat) (hS : ∀ b ∈ S, b < w.heap.size ∧ ¬ Keep b) (hKeep : ∀ b, Keep b → b < w.heap.size) (N : Nat)
    (I : Nat → World → Prop) (Ix : Code → Nat → World → Prop) (hI : ∀ k A B, I k A → Below w.heap.size A B → I k B) (hIx : ∀ c k A B, Ix c k A → Below w.heap.size A B → Ix c k B) (h0 : I 0 w) (a₁ : Value → Act)
    (hassign : ∀ (l k : Nat) (W : World) (K : Act → World → Prop), K (a₁ (enc k)) W →
      assign.wpIn (Fence.wide.inRound l) (n - 1 - 1) P (Exit.then K (fun _ _ _ => False)) { tmps := (ps.zip #[enc k]).foldl (fun t (p, v) => t.setIfInBounds p v) a.tmps, defers := [] } W)
    (hbody : ∀ (l k : Nat) (W : World), w.heap.size ≤ l → I k W → body.wpIn (Fence.wide.inRound l) (n - 1 - 1) P (ownB S I Ix (k + 1) N W) (a₁ (enc k)) W)
    (hstop : ∀ (D : Nat) (c : Code) (k : Nat) (W : World), w.heap.size ≤ D → Ix c k W → W.heap[D]? = some (.deferred (some [])) → c.wpIn Fence.wide n P Q { a with defers := { target := .collected D, args := #[] } :: a.defers } W) :
    (Code.rangeFunc g ps assign body).wpIn Fence.wide n P Q a w := by
  refine wpIn_rangeFunc ?_
  intro fn hfn
  obtain ⟨rec, hrec⟩ : ∃ rec : LoopState → Option Code → Loop, rec = fun st pe => { state := st, pending := pe, fn, tmps := a.tmps, params := ps, assign, body, defers := w.heap.size } := ⟨_, rfl⟩
  obtain ⟨W1, hW1⟩ : ∃ W1, (w.alloc (.deferred (some []))).alloc (.loop (rec .ready none)) = W1 := ⟨_, rfl⟩
  have hL1 : W1.heap[w.heap.size + 1]? = some (.loop (rec .ready none)) := by
    rw [← hW1]; have := World.alloc_heap_new (w.alloc (.deferred (some []))) (.loop (rec .ready none)); rwa [World.size_alloc] at this
  have hK1 : W1.heap[w.heap.size]? = some (.deferred (some [])) := by
    rw [← hW1]; exact (Below.heap_alloc _ _ _ (by simp)).trans (World.alloc_heap_new w _)
  have hsz1 : W1.heap.size = w.heap.size + 2 := by rw [← hW1]; simp
  have hf1 : Fr [] w W1 := by rw [← hW1]; exact ((Fr.refl [] w).alloc _).alloc _
  have hI1 : I 0 W1 := hI 0 w W1 h0 (hf1.below (Nat.le_refl _) (by simp))
  refine ⟨w.heap.size + 1, [{ target := .collected w.heap.size, args := #[] }], W1, { target := .fn (.func gf) lb, args := #[.func (.yield (w.heap.size + 1)) #[] #[]] }, W1, gf,
    #[.func (.yield (w.heap.size + 1)) #[] #[]] ++ lb, W1, ?_, ?_, ?_, ?_, (fun h => (by cases h)), ?_⟩
  · rw [← hW1, hrec]; exact run_enterLoop_outer _ _ _ _ _
  · simp only [resolve, hg]
    simp [go_sem]
  · intro f' hf'; trivial
  · simp [invoke, go_sem, eg]
  · have hup : ∀ {A B : World}, Below W1.heap.size A B → Below w.heap.size A B := fun h => h.mono (by omega)
    have hat : ∀ {A B : World} {k : Nat} {o : Obj}, A.heap[k]? = some o → k < w.heap.size + 2 → Below W1.heap.size A B → B.heap[k]? = some o := fun hk hlt h => (h.block _ (by omega)).trans hk
    refine callsIn_wide.2 ((hseq (w.heap.size + 1) ((w.heap.size + 1) :: S)
      (fun k W => I k W ∧ W.heap[w.heap.size + 1]? = some (.loop (rec .ready none)) ∧ W.heap[w.heap.size]? = some (.deferred (some [])))
      (fun k W => ∃ c, Ix c k W ∧ W.heap[w.heap.size + 1]? = some (.loop (rec .done (some c))) ∧ W.heap[w.heap.size]? = some (.deferred (some [])))
      W1 N hf1 ?_
      (fun k A B h hb => ⟨hI k A B h.1 (hup hb), hat h.2.1 (by omega) hb, hat h.2.2 (by omega) hb⟩)
      (fun k A B h hb => by
        obtain ⟨c, h1, h2, h3⟩ := h
        exact ⟨c, hIx c k A B h1 (hup hb), hat h2 (by omega) hb, hat h3 (by omega) hb⟩)
      ?_ ⟨hI1, hL1, hK1⟩).mono ?_)
    · intro b hb
      rcases List.mem_cons.1 hb with rfl | hb
      · exact ⟨by omega, fun h => by have := hKeep _ h; omega⟩
      · exact ⟨by have := (hS b hb).1; omega, (hS b hb).2⟩
    · -- one round
      rintro k W ⟨hi, hl, hk⟩
      have hlt : w.heap.size + 1 < W.heap.size := (Array.getElem?_eq_some_iff.1 hl).1
      have hy := run_yield (P := P) (args := #[enc k]) hl (by rw [hrec]; simp [hps])
      rw [hrec] at hy
      refine ⟨fn, _, assign, body, hy, roundIn_of_wpIn hfn (hassign _ k W _ ⟨_, run_beginRound hl (by rw [hrec]), ?_⟩)⟩
      have hl2 : (W.putObj (w.heap.size + 1) (.loop { rec .ready none with state := .busy })).heap[w.heap.size + 1]? = some (.loop { rec .ready none with state := .busy }) := World.putObj_heap_same hlt
      have hk2 : (W.putObj (w.heap.size + 1) (.loop { rec .ready none with state := .busy })).heap[w.heap.size]? = some (.deferred (some [])) := (World.putObj_heap_other (by omega)).trans hk
      have hw2 : Fr [w.heap.size + 1] W (W.putObj (w.heap.size + 1) (.loop { rec .ready none with state := .busy })) := fr_putObj _ _ _ (pln_loop hl)
      have hi2 : I k (W.putObj (w.heap.size + 1) (.loop { rec .ready none with state := .busy })) := hI k _ _ hi (below_putObj _ _ _ _ (by omega) (by omega))
      refine wpIn_mono (hbody _ k _ (by omega) hi2) ?_
      have hSl : ∀ x, w.heap.size ≤ x → x ∉ S := fun x hx h => by have := (hS x h).1; omega
      have fin : ∀ (jump : Option Code) (W3 : World), Fr S (W.putObj (w.heap.size + 1) (.loop { rec .ready none with state := .busy })) W3 →
          (Instr.endRound (w.heap.size + 1) jump).run P W3 = .ok (.bool jump.isNone) (W3.putObj (w.heap.size + 1) (.loop (rec (if jump.isNone then .ready else .done) jump))) ∧
          (W3.putObj (w.heap.size + 1) (.loop (rec (if jump.isNone then .ready else .done) jump))).heap[w.heap.size + 1]? = some (.loop (rec (if jump.isNone then .ready else .done) jump)) ∧
          (W3.putObj (w.heap.size + 1) (.loop (rec (if jump.isNone then .ready else .done) jump))).heap[w.heap.size]? = some (.deferred (some [])) ∧
          Below w.heap.size W3 (W3.putObj (w.heap.size + 1) (.loop (rec (if jump.isNone then .ready else .done) jump))) ∧
          Fr ((w.heap.size + 1) :: S) W (W3.putObj (w.heap.size + 1) (.loop (rec (if jump.isNone then .ready else .done) jump))) := fun jump W3 hk3 => by
        have hl3 : W3.heap[w.heap.size + 1]? = some (.loop { rec .ready none with state := .busy }) := (hk3.block _ (by simp; omega) (hSl _ (by omega))).trans hl2
        have := run_endRound (P := P) jump hl3
        have hsz3 := hk3.size
        rw [World.putObj_size] at hsz3
        refine ⟨?_, World.putObj_heap_same (Array.getElem?_eq_some_iff.1 hl3).1, (World.putObj_heap_other (by omega)).trans ((hk3.block _ (by simp; omega) (hSl _ (by omega))).trans hk2), below_putObj _ _ _ _ (by omega) (by omega), ?_⟩
        · rw [hrec] at this ⊢
          exact this
        · exact ((hw2.mono (T := (w.heap.size + 1) :: S) (by simp)).trans' (hk3.mono (fun x hx => .inl (by simp [hx])))).trans' ((fr_putObj W3 (w.heap.size + 1) _ (pln_loop hl3)).mono (by simp))
      rintro e a3 W3 hp
      cases e with
      | normal =>
        obtain ⟨hk3, hi3, hN⟩ := hp
        obtain ⟨hr, hl4, hk4, hbl, hfr⟩ := fin none W3 hk3
        exact ⟨_, _, hr, .inl ⟨rfl, ⟨hI _ _ _ hi3 hbl, hl4, hk4⟩, hfr, hN⟩⟩
      | ret =>
        obtain ⟨hk3, hi3⟩ := hp
        obtain ⟨hr, hl4, hk4, hbl, hfr⟩ := fin (some .ret) W3 hk3
        exact ⟨_, _, hr, .inr ⟨rfl, .ret, hIx _ _ _ _ hi3 hbl, hl4, hk4⟩⟩
      | exit id =>
        obtain ⟨hk3, hi3⟩ := hp
        obtain ⟨hr, hl4, hk4, hbl, hfr⟩ := fin (some (.exit id)) W3 hk3
        exact ⟨_, _, hr, .inr ⟨rfl, .exit id, hIx _ _ _ _ hi3 hbl, hl4, hk4⟩⟩
      | goto t => exact hp.elim
      | panic ch => exact hp.elim
      | outgrown => exact hp.elim
    · -- behind the iterator
      rintro e W2 ⟨⟨v, rfl⟩, k, c, hi, hl, hk⟩
      have hlt : w.heap.size + 1 < W2.heap.size := (Array.getElem?_eq_some_iff.1 hl).1
      exact ⟨some c, _, by have := run_endLoop (P := P) hl (by rw [hrec]; simp); rw [hrec] at this; exact this, hstop _ c k _ (Nat.le_refl _) (hIx c k _ _ hi (below_putObj _ _ _ _ (by omega) (by omega))) ((World.putObj_heap_other (by omega)).trans hk)⟩
end Go.Xr

/- Zeros appended: 'append(s, make([]T, n)...)', elements of one cell; 's[:h:m]'. -/
namespace Go.Xr
open Go Go.RowKit
set_option linter.unusedVariables false
section
variable {P : Program} {ops : Array Oper} {Q : Exit → Act → World → Prop} {a : Act} {w : World} {K : Act → World → Prop} {rest : List Oper} {o : Oper}

theorem zeroCells_one {z : Value} (h : z.oneCell' = true) (n : Nat) : (Builtin.zeroCells z.cells n).toList = List.replicate n z := by
  have e : z.cells = #[z] := by cases z <;> simp_all [Value.cells, Value.oneCell']
  rw [e]
  apply List.ext_getElem
  · simp [Builtin.zeroCells]
  · intro i h1 h2
    simp [Builtin.zeroCells, Nat.mod_one]

theorem run_append_zeros (t u ty e : TypeId) (i : TypeInfo) (z : Value) (k : IntKind) (ht : P.underlying t = some (.slice e)) (hu : P.underlying u = some (.int k)) (hi : P.info? e = some i) (hz : i.zero = some z)
    (b : Addr) (sLen sCap : Nat) (olds : List Value) (hlo : olds.length = sLen * i.size) (holds : ∀ j v, olds[j]? = some v → w.cell? (b.add j) = some v) (m : Nat) (hm0 : 0 < m) (hs0 : i.size ≠ 0) (kx : IntKind)
    (hg : sCap < sLen + m) (h63 : ((sLen + m : Nat) : Int) ≤ 9223372036854775807) (hmz : m * i.bytes ≤ 281474976710656) (hfit : Builtin.nextslicecap (sLen + m) sCap * i.bytes ≤ 281474976710656) :
    (Builtin.append_ #[t, u] ty #[.slice (some b) sLen sCap, .int kx m]).run P w =
      .ok (.slice (some ⟨w.heap.size, 0, none⟩) (sLen + m) (grownCap w (sLen + m) sCap e))
        (w.drew.alloc (.cells (olds.toArray ++ Builtin.zeroCells z.cells m ++ Builtin.zeroCells z.cells (grownCap w (sLen + m) sCap e - (sLen + m))) e)) := by
  have hn : ¬ (sLen + m ≤ sCap) := by omega
  have hw : IntKind.i64.wrap (m : Int) = m := by rw [IntKind.wrap_i64]; omega
  have h63' : ¬ (9223372036854775807 < ((sLen : Int) + (m : Int))) := by omega
  have hneg : ¬ ((m : Int) < 0) := by omega
  have h48 : ¬ ((281474976710656 : Int) < (m : Int) * (i.bytes : Int)) := by
    have h1 : ((m * i.bytes : Nat) : Int) ≤ ((281474976710656 : Nat) : Int) := Int.ofNat_le.2 hmz
    rw [Int.natCast_mul] at h1
    omega
  have h48' : ¬ (281474976710656 < Builtin.nextslicecap (sLen + m) sCap * i.bytes) := by omega
  have hms : m * i.size ≠ 0 := Nat.mul_ne_zero (by omega) hs0
  have hfo := run_firstCells_some (P := P) w.drew i.size sLen b sLen sCap olds hlo (by simpa using holds)
  simp [Builtin.append_, run_underlying ht, run_underlying hu, sizeOf, typeInfo, zeroValue, hi, hz, asInt, asIntOf, hw, hneg, h48, hn, h63', h48', hms, Question.forced, hfo, newRow, grownCap]

theorem wpList_append_zeros (hg : o.guard = none) (s x : Operand) (t u : TypeId) (ho : o.op = .call { callee := .builtin .append, args := #[s, x], argTypes := #[t, u] })
    (e : TypeId) (i : TypeInfo) (z : Value) (k : IntKind) (ht : P.underlying t = some (.slice e)) (hu : P.underlying u = some (.int k)) (hi : P.info? e = some i) (hz : i.zero = some z) (hs1 : i.size = 1) (hz1 : z.oneCell' = true)
    {b : Addr} {n cap : Nat} (olds : List Value) (hs : a.eval s = .slice (some b) n cap) (hlo : olds.length = n) (holds : ∀ j v, olds[j]? = some v → w.cell? (b.add j) = some v) (m : Nat) (kx : IntKind) (hx : a.eval x = .int kx m) (hm0 : 0 < m)
    (hgr : cap < n + m) (h63 : n + m ≤ maxLen) (hmz : m * i.bytes ≤ 281474976710656) (hfit : Builtin.nextslicecap (n + m) cap * i.bytes ≤ 281474976710656)
    (hK : ∀ v' w', Xr.Own w' 1 v' (n + m) (olds ++ List.replicate m z) (some w.heap.size) → Fr [] w w' → w.heap.size < w'.heap.size → wpList P ops Q rest (a.put o.dst v') w') : wpList P ops Q (o :: rest) a w := by
  refine wpList_plain hg fun K hk => ?_
  have h63' : ((n + m : Nat) : Int) ≤ 9223372036854775807 := by unfold maxLen at h63; omega
  have hr := run_append_zeros (P := P) (w := w) t u o.type e i z k ht hu hi hz b n cap olds (by rw [hs1, Nat.mul_one]; exact hlo) holds m hm0 (by omega) kx hgr h63' hmz hfit
  have hge := grownCap_ge w (n + m) cap e
  have hcm2 : grownCap w (n + m) cap e ≤ maxLen := grownCap_le_maxLen w (n + m) cap e h63
  have hB := Blk.allocArr w.drew (olds.toArray ++ Builtin.zeroCells z.cells m ++ Builtin.zeroCells z.cells (grownCap w (n + m) cap e - (n + m))) e
  have hcs : z.cells.size = 1 := by cases z <;> simp_all [Value.cells, Value.oneCell']
  have ho2 := Xr.Own.blk (size := 1) (n := n + m) (cap := grownCap w (n + m) cap e) hB hge hcm2 (by
    rw [Array.length_toList]
    simp only [Array.size_append, List.size_toArray, size_zeroCells, hcs]
    omega)
  have e2 : ((olds.toArray ++ Builtin.zeroCells z.cells m ++ Builtin.zeroCells z.cells (grownCap w (n + m) cap e - (n + m))).toList).take ((n + m) * 1) = olds ++ List.replicate m z := by
    simp only [Array.toList_append, zeroCells_one hz1]
    have hl : (olds ++ List.replicate m z).length = n + m := by simp [hlo]
    rw [Nat.mul_one, ← hl]
    exact List.take_left
  rw [e2] at ho2
  unfold Oper.wp execOp
  simp only [ho, resolve, invoke, builtin, Sem.run_bind, Sem.run_pure, Result.andThen_ok, List.map_toArray, List.map_cons, List.map_nil, hs, hx, hr]
  exact hk _ _ (hK _ _ ho2 (((Fr.refl _ _).drew).alloc _) (by simp))
end
end Go.Xr

/- A load of one cell in a piece of a drawn region that reads what S tells. -/
namespace Go.Xr
open Go Go.RowKit
set_option linter.unusedVariables false
section
variable {P : Program} {ops : Array Oper} {Q : Exit → Act → World → Prop} {S : World → Prop}
theorem run_load_one (w : World) (ty : TypeId) (d : TypeDesc) (hu : P.underlying ty = some d) (hd : aggDesc d = false) {ad : Addr} {v : Value} (hv : w.cell? ad = some v) : (loadVar ty ad).run P w = .ok v w := by
  have hagg : (isAgg ty).run P w = .ok false w := by
    unfold isAgg
    rw [Sem.run_bind, run_underlying hu w]
    cases d <;> simp_all [aggDesc]
  simp [loadVar, Sem.run_bind, hagg, load, Sem.run, hv]
theorem quiet_load_1S {a : Act} {o : Oper} {rest : List Oper} {Q' : Act → Prop} (hg : o.guard = none) (ty : TypeId) (x : Operand) (ho : o.op = .load ty x) {b off : Nat} (hx : a.eval x = .pointer (some ⟨b, off, none⟩)) (v : Value)
    (hv : ∀ w, S w → w.cell? ⟨b, off, none⟩ = some v) (d : TypeDesc) (hu : P.underlying ty = some d) (hd : aggDesc d = false)
    (h : wpQuiet P ops S Q' rest (a.put o.dst v)) : wpQuiet P ops S Q' (o :: rest) a := by
  refine wpQuiet_step fun K hK => ?_
  rw [if_pos (by simp [Region.wanted, hg])]
  refine ⟨v, fun w hC => ?_, hK _ h⟩
  unfold Oper.quietAt execOp
  simp only [ho, hx, Instr.loadAt, Instr.sureAddr, Sem.run_bind, Sem.run_pure, Result.andThen_ok, run_load_one w ty d hu hd (hv w hC)]
  exact ⟨rfl, rfl⟩
/-- A guarded load of an aggregate, when it is wanted. -/
theorem quiet_load_aggW {a : Act} {o : Oper} {rest : List Oper} {Q' : Act → Prop} (hg : Region.wanted o (yielded ops a.tmps) = true) (ty : TypeId) (x : Operand) (ho : o.op = .load ty x) {b off : Nat} (hx : a.eval x = .pointer (some ⟨b, off, none⟩)) {cs : List Value} (vs : List Value)
    (hb : ∀ w, S w → Blk w b cs) (d : TypeDesc) (hu : P.underlying ty = some d) (hd : aggDesc d = true) (hs : (P.info? ty).map (·.size) = some vs.length) (hv : (cs.drop off).take vs.length = vs)
    (h : wpQuiet P ops S Q' rest (a.put o.dst (.agg vs.toArray))) : wpQuiet P ops S Q' (o :: rest) a := by
  refine wpQuiet_step fun K hK => ?_
  rw [if_pos hg]
  refine ⟨.agg vs.toArray, fun w hC => ?_, hK _ h⟩
  unfold Oper.quietAt execOp
  simp only [ho, hx, Instr.loadAt, Instr.sureAddr, Sem.run_bind, Sem.run_pure, Result.andThen_ok, run_loadVar_agg w ty d hu hd (hb w hC) hv hs]
  exact ⟨rfl, rfl⟩
/-- 's[l:h]', whatever it is. -/
theorem quiet_slice_v {a : Act} {o : Oper} {rest : List Oper} {Q' : Act → Prop} (hg : o.guard = none) (t : TypeId) (x : Operand) (lo hi : Option Operand) (ho : o.op = .slice t x lo hi none) (xv : Value) (hx : a.eval x = xv) (lv hv : Option Value) (hlo : lo.map a.eval = lv) (hhi : hi.map a.eval = hv) (v : Value)
    (hr : ∀ w, S w → (Instr.sliceAt t xv lv hv none).run P w = .ok v w) (h : wpQuiet P ops S Q' rest (a.put o.dst v)) : wpQuiet P ops S Q' (o :: rest) a := by
  refine wpQuiet_step fun K hK => ?_
  rw [if_pos (by simp [Region.wanted, hg])]
  refine ⟨v, fun w hC => ?_, hK _ h⟩
  unfold Oper.quietAt execOp
  simp only [ho, hx, hlo, hhi, Option.map_none, Sem.run_bind, Sem.run_pure, Result.andThen_ok, hr w hC]
  exact ⟨rfl, rfl⟩
/-- The same, guarded. -/
theorem quiet_slice_vW {a : Act} {o : Oper} {rest : List Oper} {Q' : Act → Prop} (hg : Region.wanted o (yielded ops a.tmps) = true) (t : TypeId) (x : Operand) (lo hi : Option Operand) (ho : o.op = .slice t x lo hi none) (xv : Value) (hx : a.eval x = xv) (lv hv : Option Value) (hlo : lo.map a.eval = lv) (hhi : hi.map a.eval = hv) (v : Value)
    (hr : ∀ w, S w → (Instr.sliceAt t xv lv hv none).run P w = .ok v w) (h : wpQuiet P ops S Q' rest (a.put o.dst v)) : wpQuiet P ops S Q' (o :: rest) a := by
  refine wpQuiet_step fun K hK => ?_
  rw [if_pos hg]
  refine ⟨v, fun w hC => ?_, hK _ h⟩
  unfold Oper.quietAt execOp
  simp only [ho, hx, hlo, hhi, Option.map_none, Sem.run_bind, Sem.run_pure, Result.andThen_ok, hr w hC]
  exact ⟨rfl, rfl⟩
/-- A conversion, whatever it is. -/
theorem quiet_conv_v {a : Act} {o : Oper} {rest : List Oper} {Q' : Act → Prop} (hg : Region.wanted o (yielded ops a.tmps) = true) (src dst : TypeId) (x : Operand) (ho : o.op = .convert src dst x) (xv : Value) (hx : a.eval x = xv) (v : Value)
    (hr : ∀ w, S w → (convert src dst xv).run P w = .ok v w) (h : wpQuiet P ops S Q' rest (a.put o.dst v)) : wpQuiet P ops S Q' (o :: rest) a := by
  refine wpQuiet_step fun K hK => ?_
  rw [if_pos hg]
  refine ⟨v, fun w hC => ?_, hK _ h⟩
  unfold Oper.quietAt execOp
  simp only [ho, hx, Sem.run_bind, Sem.run_pure, Result.andThen_ok, hr w hC]
  exact ⟨rfl, rfl⟩
theorem run_string_of_own (w : World) (src dst e : TypeId) {v : Value} {n : Nat} {l : List UInt8} {b : Nat} (hv : Xr.Own w 1 v n (bv l) (some b)) (hs : P.underlying src = some (.slice e)) (he : P.underlying e = some (.int .u8)) (hd : P.underlying dst = some .string) :
    (convert src dst v).run P w = .ok (.string ⟨l.toArray⟩) w := by
  have hl : l.length = n := by have := hv.1; rw [bv_length] at this; omega
  rcases hv.2 with ⟨_, _, h⟩ | ⟨b', cap, cs, hB, rfl, h1, h2, h3, h4, h5⟩
  · cases h
  · have := run_string_of_bytes (P := P) w src dst e h3 l cap (by rw [List.drop_zero, hl, ← h5, Nat.mul_one]) hs he hd
    rw [hl] at this
    exact this
theorem run_slice_s (w : World) (t : TypeId) (ht : P.underlying t = some .string) (s : ByteArray) (kl kh : IntKind) (li hi' : Int) (l h : Nat) (hl : li = l) (hh : hi' = h) (h1 : l ≤ h) (h2 : h ≤ s.size) :
    (Instr.sliceAt t (.string s) (some (.int kl li)) (some (.int kh hi')) none).run P w = .ok (.string (s.extract l h)) w := by
  subst hl
  subst hh
  have hu : (underlying t).run P w = .ok .string w := run_underlying ht w
  simp [Instr.sliceAt, hu, Instr.slice, Instr.sliceBounds, run_sliceBound, Sem.run_bind, h1, h2]
theorem run_slice_sh (w : World) (t : TypeId) (ht : P.underlying t = some .string) (s : ByteArray) (kh : IntKind) (hi' : Int) (h : Nat) (hh : hi' = h) (h2 : h ≤ s.size) :
    (Instr.sliceAt t (.string s) none (some (.int kh hi')) none).run P w = .ok (.string (s.extract 0 h)) w := by
  subst hh
  have hu : (underlying t).run P w = .ok .string w := run_underlying ht w
  simp [Instr.sliceAt, hu, Instr.slice, Instr.sliceBounds, run_sliceBound, Sem.run_bind, h2]
theorem run_slice_sl (w : World) (t : TypeId) (ht : P.underlying t = some .string) (s : ByteArray) (kl : IntKind) (li : Int) (l : Nat) (hl : li = l) (h1 : l ≤ s.size) :
    (Instr.sliceAt t (.string s) (some (.int kl li)) none none).run P w = .ok (.string (s.extract l s.size)) w := by
  subst hl
  have hu : (underlying t).run P w = .ok .string w := run_underlying ht w
  simp [Instr.sliceAt, hu, Instr.slice, Instr.sliceBounds, run_sliceBound, Sem.run_bind, h1]
end
end Go.Xr
