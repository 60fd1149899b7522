/- A range over a function whose iterator keeps state in blocks of its own: the caller's law. Conditions: the caller's invariants speak of blocks that lay before the loop; the body writes only blocks of S. -/
import Derived.Test.YtnkcogaaajkplaaDet
import Derived.RangeFuncNested
import Derived.RangeFuncBound
import Derived.RangeFuncCalls
import Derived.RangeFuncLeaves
import Derived.OwnWalkIn
import Derived.TacticsInMore
import Derived.LoopNIn
import Derived.LoopIn
namespace Go.Xr
open Go Go.RowKit
set_option linter.unusedVariables false

/-- The iterator: an endless row 'enc 0', 'enc 1', ..; each round goes on (fewer than N times) or says 'no more'. Keep: the blocks that the body leaves alone. -/
def SeqB (P : Program) (n g : Nat) (lb : Array Value) (enc : Nat → Value) (Keep : Nat → Prop) (w : World) : Prop :=
  ∀ (l : Nat) (S : List Nat) (J Jx : Nat → World → Prop) (W : World) (N : Nat), Fr [] w W → (∀ b ∈ S, b < W.heap.size ∧ ¬ Keep b) →
    (∀ k A B, J k A → Below W.heap.size A B → J k B) → (∀ k A B, Jx k A → Below W.heap.size A B → Jx k B) →
    (∀ k W1, J k W1 → YieldAt Fence.wide n P l #[enc k] W1 fun e W' =>
      (e = .returned (.bool true) ∧ J (k + 1) W' ∧ Fr S W1 W' ∧ k + 1 < N) ∨ (e = .returned (.bool false) ∧ Jx (k + 1) W')) →
    J 0 W →
    Calls P g (#[.func (.yield l) #[] #[]] ++ lb) W fun e W' => (∃ v, e = .returned v) ∧ ∃ k, Jx k W'

/-- How the body of a round may be left. -/
def ownB (S : List Nat) (I : Nat → World → Prop) (Ix : Code → Nat → World → Prop) (k N : Nat) (W : World) : Exit → Act → World → Prop
  | .normal, _, W' => Fr S W W' ∧ I k W' ∧ k < N
  | .ret, _, W' => Fr S W W' ∧ Ix .ret k W'
  | .exit id, _, W' => Fr S W W' ∧ Ix (.exit id) k W'
  | _, _, _ => False

theorem below_putObj (W : World) (l B : Nat) (o : Obj) (h : B ≤ l) (hB : B ≤ W.heap.size) : Below B W (W.putObj l o) :=
  ⟨rfl, rfl, rfl, by simp, fun k hk => World.putObj_heap_other (by omega)⟩
theorem fr_putObj (W : World) (l : Nat) (o : Obj) : Fr [l] W (W.putObj l o) :=
  ⟨rfl, rfl, rfl, by simp, fun k _ hk => World.putObj_heap_other (by simpa using hk)⟩

theorem wpIn_rangeFunc_B {n : Nat} {P : Program} {g : Operand} {ps : Array Tmp} {assign body : Code} {Q : Exit → Act → World → Prop} {a : Act} {w : World} {gf : Nat} {lb : Array Value} (hg : a.eval g = .func (.func gf) #[] lb) (eg : ∀ args w, (callFunc gf args).run P w = .ok (.enter gf args) w)
    {enc : Nat → Value} {Keep : Nat → Prop} (hseq : SeqB P (n - 1 - 1) gf lb enc Keep w) (hps : ps.size = 1)
    (S : List Nat) (hS : ∀ b ∈ S, b < w.heap.size ∧ ¬ Keep b) (hKeep : ∀ b, Keep b → b < w.heap.size) (N : Nat)
    (I : Nat → World → Prop) (Ix : Code → Nat → World → Prop) (hI : ∀ k A B, I k A → Below w.heap.size A B → I k B) (hIx : ∀ c k A B, Ix c k A → Below w.heap.size A B → Ix c k B) (h0 : I 0 w) (a₁ : Value → Act)
    (hassign : ∀ (l k : Nat) (W : World) (K : Act → World → Prop), K (a₁ (enc k)) W →
      assign.wpIn (Fence.wide.inRound l) (n - 1 - 1) P (Exit.then K (fun _ _ _ => False)) { tmps := (ps.zip #[enc k]).foldl (fun t (p, v) => t.setIfInBounds p v) a.tmps, defers := [] } W)
    (hbody : ∀ (l k : Nat) (W : World), w.heap.size ≤ l → I k W → body.wpIn (Fence.wide.inRound l) (n - 1 - 1) P (ownB S I Ix (k + 1) N W) (a₁ (enc k)) W)
    (hstop : ∀ (D : Nat) (c : Code) (k : Nat) (W : World), w.heap.size ≤ D → Ix c k W → W.heap[D]? = some (.deferred (some [])) → c.wpIn Fence.wide n P Q { a with defers := { target := .collected D, args := #[] } :: a.defers } W) :
    (Code.rangeFunc g ps assign body).wpIn Fence.wide n P Q a w := by
  refine wpIn_rangeFunc ?_
  intro fn hfn
  obtain ⟨rec, hrec⟩ : ∃ rec : LoopState → Option Code → Loop, rec = fun st pe => { state := st, pending := pe, fn, tmps := a.tmps, params := ps, assign, body, defers := w.heap.size } := ⟨_, rfl⟩
  obtain ⟨W1, hW1⟩ : ∃ W1, (w.alloc (.deferred (some []))).alloc (.loop (rec .ready none)) = W1 := ⟨_, rfl⟩
  have hL1 : W1.heap[w.heap.size + 1]? = some (.loop (rec .ready none)) := by
    rw [← hW1]; have := World.alloc_heap_new (w.alloc (.deferred (some []))) (.loop (rec .ready none)); rwa [World.size_alloc] at this
  have hK1 : W1.heap[w.heap.size]? = some (.deferred (some [])) := by
    rw [← hW1]; exact (Below.heap_alloc _ _ _ (by simp)).trans (World.alloc_heap_new w _)
  have hsz1 : W1.heap.size = w.heap.size + 2 := by rw [← hW1]; simp
  have hf1 : Fr [] w W1 := by rw [← hW1]; exact ((Fr.refl [] w).alloc _).alloc _
  have hI1 : I 0 W1 := hI 0 w W1 h0 (hf1.below (Nat.le_refl _) (by simp))
  refine ⟨w.heap.size + 1, [{ target := .collected w.heap.size, args := #[] }], W1, { target := .fn (.func gf) lb, args := #[.func (.yield (w.heap.size + 1)) #[] #[]] }, W1, gf,
    #[.func (.yield (w.heap.size + 1)) #[] #[]] ++ lb, W1, ?_, ?_, ?_, ?_, (fun h => (by cases h)), ?_⟩
  · rw [← hW1, hrec]; exact run_enterLoop_outer _ _ _ _ _
  · simp only [resolve, hg]
    simp [go_sem]
  · intro f' hf'; trivial
  · simp [invoke, go_sem, eg]
  · have hup : ∀ {A B : World}, Below W1.heap.size A B → Below w.heap.size A B := fun h => h.mono (by omega)
    have hat : ∀ {A B : World} {k : Nat} {o : Obj}, A.heap[k]? = some o → k < w.heap.size + 2 → Below W1.heap.size A B → B.heap[k]? = some o := fun hk hlt h => (h.block _ (by omega)).trans hk
    refine callsIn_wide.2 ((hseq (w.heap.size + 1) ((w.heap.size + 1) :: S)
      (fun k W => I k W ∧ W.heap[w.heap.size + 1]? = some (.loop (rec .ready none)) ∧ W.heap[w.heap.size]? = some (.deferred (some [])))
      (fun k W => ∃ c, Ix c k W ∧ W.heap[w.heap.size + 1]? = some (.loop (rec .done (some c))) ∧ W.heap[w.heap.size]? = some (.deferred (some [])))
      W1 N hf1 ?_
      (fun k A B h hb => ⟨hI k A B h.1 (hup hb), hat h.2.1 (by omega) hb, hat h.2.2 (by omega) hb⟩)
      (fun k A B h hb => by
        obtain ⟨c, h1, h2, h3⟩ := h
        exact ⟨c, hIx c k A B h1 (hup hb), hat h2 (by omega) hb, hat h3 (by omega) hb⟩)
      ?_ ⟨hI1, hL1, hK1⟩).mono ?_)
    · intro b hb
      rcases List.mem_cons.1 hb with rfl | hb
      · exact ⟨by omega, fun h => by have := hKeep _ h; omega⟩
      · exact ⟨by have := (hS b hb).1; omega, (hS b hb).2⟩
    · -- one round
      rintro k W ⟨hi, hl, hk⟩
      have hlt : w.heap.size + 1 < W.heap.size := (Array.getElem?_eq_some_iff.1 hl).1
      have hy := run_yield (P := P) (args := #[enc k]) hl (by rw [hrec]; simp [hps])
      rw [hrec] at hy
      refine ⟨fn, _, assign, body, hy, roundIn_of_wpIn hfn (hassign _ k W _ ⟨_, run_beginRound hl (by rw [hrec]), ?_⟩)⟩
      have hl2 : (W.putObj (w.heap.size + 1) (.loop { rec .ready none with state := .busy })).heap[w.heap.size + 1]? = some (.loop { rec .ready none with state := .busy }) := World.putObj_heap_same hlt
      have hk2 : (W.putObj (w.heap.size + 1) (.loop { rec .ready none with state := .busy })).heap[w.heap.size]? = some (.deferred (some [])) := (World.putObj_heap_other (by omega)).trans hk
      have hw2 : Fr [w.heap.size + 1] W (W.putObj (w.heap.size + 1) (.loop { rec .ready none with state := .busy })) := fr_putObj _ _ _
      have hi2 : I k (W.putObj (w.heap.size + 1) (.loop { rec .ready none with state := .busy })) := hI k _ _ hi (below_putObj _ _ _ _ (by omega) (by omega))
      refine wpIn_mono (hbody _ k _ (by omega) hi2) ?_
      have hSl : ∀ x, w.heap.size ≤ x → x ∉ S := fun x hx h => by have := (hS x h).1; omega
      have fin : ∀ (jump : Option Code) (W3 : World), Fr S (W.putObj (w.heap.size + 1) (.loop { rec .ready none with state := .busy })) W3 →
          (Instr.endRound (w.heap.size + 1) jump).run P W3 = .ok (.bool jump.isNone) (W3.putObj (w.heap.size + 1) (.loop (rec (if jump.isNone then .ready else .done) jump))) ∧
          (W3.putObj (w.heap.size + 1) (.loop (rec (if jump.isNone then .ready else .done) jump))).heap[w.heap.size + 1]? = some (.loop (rec (if jump.isNone then .ready else .done) jump)) ∧
          (W3.putObj (w.heap.size + 1) (.loop (rec (if jump.isNone then .ready else .done) jump))).heap[w.heap.size]? = some (.deferred (some [])) ∧
          Below w.heap.size W3 (W3.putObj (w.heap.size + 1) (.loop (rec (if jump.isNone then .ready else .done) jump))) ∧
          Fr ((w.heap.size + 1) :: S) W (W3.putObj (w.heap.size + 1) (.loop (rec (if jump.isNone then .ready else .done) jump))) := fun jump W3 hk3 => by
        have hl3 : W3.heap[w.heap.size + 1]? = some (.loop { rec .ready none with state := .busy }) := (hk3.block _ (by simp; omega) (hSl _ (by omega))).trans hl2
        have := run_endRound (P := P) jump hl3
        have hsz3 := hk3.size
        rw [World.putObj_size] at hsz3
        refine ⟨?_, World.putObj_heap_same (Array.getElem?_eq_some_iff.1 hl3).1, (World.putObj_heap_other (by omega)).trans ((hk3.block _ (by simp; omega) (hSl _ (by omega))).trans hk2), below_putObj _ _ _ _ (by omega) (by omega), ?_⟩
        · rw [hrec] at this ⊢
          exact this
        · exact ((hw2.mono (T := (w.heap.size + 1) :: S) (by simp)).trans' (hk3.mono (fun x hx => .inl (by simp [hx])))).trans' ((fr_putObj W3 (w.heap.size + 1) _).mono (by simp))
      rintro e a3 W3 hp
      cases e with
      | normal =>
        obtain ⟨hk3, hi3, hN⟩ := hp
        obtain ⟨hr, hl4, hk4, hbl, hfr⟩ := fin none W3 hk3
        exact ⟨_, _, hr, .inl ⟨rfl, ⟨hI _ _ _ hi3 hbl, hl4, hk4⟩, hfr, hN⟩⟩
      | ret =>
        obtain ⟨hk3, hi3⟩ := hp
        obtain ⟨hr, hl4, hk4, hbl, hfr⟩ := fin (some .ret) W3 hk3
        exact ⟨_, _, hr, .inr ⟨rfl, .ret, hIx _ _ _ _ hi3 hbl, hl4, hk4⟩⟩
      | exit id =>
        obtain ⟨hk3, hi3⟩ := hp
        obtain ⟨hr, hl4, hk4, hbl, hfr⟩ := fin (some (.exit id)) W3 hk3
        exact ⟨_, _, hr, .inr ⟨rfl, .exit id, hIx _ _ _ _ hi3 hbl, hl4, hk4⟩⟩
      | goto t => exact hp.elim
      | panic ch => exact hp.elim
      | outgrown => exact hp.elim
    · -- behind the iterator
      rintro e W2 ⟨⟨v, rfl⟩, k, c, hi, hl, hk⟩
      have hlt : w.heap.size + 1 < W2.heap.size := (Array.getElem?_eq_some_iff.1 hl).1
      exact ⟨some c, _, by have := run_endLoop (P := P) hl (by rw [hrec]; simp); rw [hrec] at this; exact this, hstop _ c k _ (Nat.le_refl _) (hIx c k _ _ hi (below_putObj _ _ _ _ (by omega) (by omega))) ((World.putObj_heap_other (by omega)).trans hk)⟩
end Go.Xr
