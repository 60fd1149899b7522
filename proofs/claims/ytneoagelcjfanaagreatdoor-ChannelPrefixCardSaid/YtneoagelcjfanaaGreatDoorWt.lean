/- A walk of the frames of one function alone; a range over a function whose rounds, or whose iterator, may panic. -/
import Derived.Test.YtneoagelcjfanaaGreatDoorRfN
import Derived.RangeFuncIn
import Derived.RangeFuncSeq
import Derived.RangeFuncLeaves
namespace Go.Xr
open Go Go.RowKit
set_option linter.unusedVariables false
set_option linter.unusedSimpArgs false
/-- What is asked at a round's end; a panic is let out, where the round has deferred nothing. -/
def roundPostP (P : Program) (l : Nat) (R : Ending → World → Prop) : Exit → Act → World → Prop
  | .panic chain, a, w => a.defers = [] ∧ R (.panicked chain) w
  | .normal, a, w => roundPost P l R .normal a w
  | .ret, a, w => roundPost P l R .ret a w
  | .exit id, a, w => roundPost P l R (.exit id) a w
  | .goto t, a, w => roundPost P l R (.goto t) a w
  | .outgrown, _, _ => False
theorem roundIn_of_wpInP {F : Fence} {n : Nat} {P : Program} {l : Nat} {f : FuncId} {tmps : Array Value} {assign body : Code} {w : World} {R : Ending → World → Prop} (hF : F.fn f) (hfn : ∃ fn, P.funcs[f]? = some fn)
    (h : assign.wpIn (F.inRound l) n P (Exit.then (fun a₁ w₁ => ∃ w₂, (Instr.beginRound l).run P w₁ = .ok () w₂ ∧ body.wpIn (F.inRound l) n P (roundPostP P l R) a₁ w₂) (fun _ _ _ => False))
      { tmps := tmps, defers := [] } w) :
    RoundIn F n P l f tmps assign body w R := by
  refine ⟨hF, fun c cs hr => ?_⟩
  let b : Frame := { (default : Frame) with fn := f, kind := .normal, roundOf := some l }
  have hb0 : Frame.round l f tmps assign body .normal = b.atR { tmps := tmps, defers := [] } [.code assign, .beginRound, .code body] := by
    simp [Frame.round, Frame.atR, b]
  have hr' : (F.inRound l).room ((c :: cs).length + 1 + n) := hr
  have hF' : (F.inRound l).fn b.fn := hF
  obtain ⟨e, a₁, w₁, hq, harr⟩ := h b [.beginRound, .code body] (c :: cs) rfl hF' hr'
  rw [← hb0] at harr
  cases e with
  | normal =>
    obtain ⟨w₂, hbr, hbody⟩ := hq
    have s1 : StepsIn (Machine.fenced P (F.inRound l)) P (lone (b.atR a₁ [.beginRound, .code body]) (c :: cs) w₁) (lone (b.atR a₁ [.code body]) (c :: cs) w₂) :=
      .one (fenced_calm (fr := b.atR a₁ [.beginRound, .code body]) hF' hr' rfl) (stepR_beginRound rfl hbr)
    obtain ⟨e₂, a₂, w₃, hq₂, harr₂⟩ := hbody b [] (c :: cs) rfl hF' hr'
    cases e₂ with
    | normal =>
      obtain ⟨v, w₄, hend, hR⟩ := hq₂
      exact ⟨.returned v, w₄, hR, (StepsIn.trans harr s1).trans (StepsIn.trans harr₂ (.one (fenced_calm (fr := b.atR a₂ []) hF' hr' rfl) (stepR_round_end rfl rfl hend)))⟩
    | ret =>
      obtain ⟨v, w₄, hend, hR⟩ := hq₂
      obtain ⟨k₁, hs⟩ := harr₂.2 rfl
      exact ⟨.returned v, w₄, hR, (StepsIn.trans harr s1).trans (StepsIn.trans hs (.one (fenced_calm (fr := b.atR a₂ (.code .ret :: k₁)) hF' hr' rfl) (stepR_round_ret rfl rfl hend)))⟩
    | exit id =>
      obtain ⟨v, w₄, hend, hR⟩ := hq₂
      obtain ⟨k₁, hk, hs⟩ := harr₂.2 rfl rfl
      exact ⟨.returned v, w₄, hR, (StepsIn.trans harr s1).trans (StepsIn.trans hs (.one (fenced_calm (fr := b.atR a₂ (.code (.exit id) :: k₁)) hF' hr' rfl) (stepR_round_exit rfl rfl hk hend)))⟩
    | goto t =>
      obtain ⟨v, w₄, hend, hR⟩ := hq₂
      obtain ⟨k₁, hk, hs⟩ := harr₂.2 rfl rfl
      exact ⟨.returned v, w₄, hR, (StepsIn.trans harr s1).trans (StepsIn.trans hs (.one (fenced_calm (fr := b.atR a₂ (.code (.goto t) :: k₁)) hF' hr' rfl) (stepR_round_goto rfl rfl hk hend)))⟩
    | panic chain =>
      obtain ⟨hd, hR⟩ := hq₂
      obtain ⟨todo, hs⟩ := harr₂
      have hleave : Frame.leaving P { b.atR a₂ todo with mode := .panicking chain } w₃ (.panicked chain) := ⟨rfl, hd, hfn⟩
      exact ⟨.panicked chain, w₃, hR, (StepsIn.trans harr s1).trans (StepsIn.trans hs (.one (fenced_leaving hF' hr' hleave) (step_leave_panicked hleave)))⟩
    | outgrown => exact hq₂.elim
  | exit id => exact hq.elim
  | goto t => exact hq.elim
  | ret => exact hq.elim
  | panic chain => exact hq.elim
  | outgrown => exact hq.elim
/-- A walk of the frames of function f0 alone. -/
def WT (P : Program) (f0 : FuncId) (c : Code) (Q : Exit → Act → World → Prop) (a : Act) (w : World) : Prop :=
  ∀ (b : Frame) (k : List Item) (cs : List Frame), b.roundOf = none → b.fn = f0 →
    ∃ e a' w', Q e a' w' ∧ ArrivesIn (Machine.fenced P Fence.wide) P (lone (b.atR a (.code c :: k)) cs w) b k cs e a' w'
section
variable {P : Program} {f0 : FuncId} {Q : Exit → Act → World → Prop} {a : Act} {w : World}
theorem WT.of_wp {c : Code} (h : c.wp P Q a w) : WT P f0 c Q a w := fun b k cs hro _ => (wpIn_wide (n := 2)).2 h b k cs hro trivial (room_wide _)
theorem WT.seq {x y : Code} (h : WT P f0 x (Exit.then (WT P f0 y Q) Q) a w) : WT P f0 (Code.seq x y) Q a w := by
  intro b k cs hro hb
  have h0 : (lone (b.atR a (.code (.seq x y) :: k)) cs w).fenced P Fence.wide := fenced_calm (n := 0) trivial (room_wide _) rfl
  obtain ⟨e, a₁, w₁, hq, harr⟩ := h b (.code y :: k) cs hro hb
  cases e with
  | normal =>
    obtain ⟨e₂, a₂, w₂, hq₂, harr₂⟩ := hq b k cs hro hb
    exact ⟨e₂, a₂, w₂, hq₂, .of_steps (.head h0 stepR_seq harr) harr₂⟩
  | exit id => exact ⟨_, a₁, w₁, hq, .of_steps (.one h0 stepR_seq) (.pass (x := .code y) rfl (fun _ _ => .inl (by simp)) harr)⟩
  | goto l => exact ⟨_, a₁, w₁, hq, .of_steps (.one h0 stepR_seq) (.pass (x := .code y) rfl (fun _ _ => .inl (by simp)) harr)⟩
  | ret => exact ⟨_, a₁, w₁, hq, .of_steps (.one h0 stepR_seq) (.pass (x := .code y) rfl (fun _ _ => .inl (by simp)) harr)⟩
  | panic ch => exact ⟨_, a₁, w₁, hq, .of_steps (.one h0 stepR_seq) (.pass (x := .code y) rfl (fun _ _ => .inl (by simp)) harr)⟩
  | outgrown => exact ⟨_, a₁, w₁, hq, .of_steps (.one h0 stepR_seq) (.pass (x := .code y) rfl (fun _ _ => .inl (by simp)) harr)⟩
/-- A part that is walked by the plain walk, and the rest. -/
theorem WT.seq_k {x y : Code} (h : ∀ K : Act → World → Prop, (∀ a w, WT P f0 y Q a w → K a w) → x.wp P (Exit.then K Q) a w) : WT P f0 (Code.seq x y) Q a w := WT.seq (WT.of_wp (h _ fun _ _ h => h))
theorem calls_of_WT {fn : Func} {c : Code} {args : Array Value} {R : Ending → World → Prop} (hf : P.funcs[f0]? = some fn) (hb : fn.body = some c)
    (h : WT P f0 c (bodyPostM Fence.wide 2 P fn R) { tmps := args ++ Array.replicate (fn.ntmps - args.size) undef, defers := [] } w) : Calls P f0 args w R := by
  refine (callsIn_wide (n := 2)).1 ⟨trivial, fun cs hr => ?_⟩
  let b : Frame := { (default : Frame) with fn := f0, kind := .normal, roundOf := none }
  have henter : Frame.enter P f0 args .normal = b.atR { tmps := args ++ Array.replicate (fn.ntmps - args.size) undef, defers := [] } [.code c] := by
    simp [Frame.enter, Frame.atR, hf, hb, b]
  obtain ⟨e, a', w', hq, harr⟩ := h b [] cs rfl rfl
  rw [← henter] at harr
  cases e with
  | normal =>
    obtain ⟨e', w'', fr', hR, hs, hfn, hl⟩ := leaves_stepsInM (n := 2) (F := Fence.wide) a'.defers .returning w' { b.atR a' [] with mode := .returning } cs rfl rfl rfl hf rfl trivial (room_wide _) hq
    exact ⟨e', w'', fr', hR, ComesIn.of_steps (StepsIn.trans harr (.one (fenced_calm (n := 0) (fr := b.atR a' []) trivial (room_wide _) rfl) (stepR_end rfl))) hs, hfn, hl⟩
  | ret =>
    obtain ⟨todo, hs₀⟩ := harr.1 rfl
    obtain ⟨e', w'', fr', hR, hs, hfn, hl⟩ := leaves_stepsInM (n := 2) (F := Fence.wide) a'.defers .returning w' { b.atR a' todo with mode := .returning } cs rfl rfl rfl hf rfl trivial (room_wide _) hq
    exact ⟨e', w'', fr', hR, ComesIn.of_steps hs₀ hs, hfn, hl⟩
  | panic chain =>
    obtain ⟨todo, hs₀⟩ := harr
    obtain ⟨e', w'', fr', hR, hs, hfn, hl⟩ := leaves_stepsInM (n := 2) (F := Fence.wide) a'.defers (.panicking chain) w' { b.atR a' todo with mode := .panicking chain } cs rfl rfl rfl hf rfl trivial (room_wide _) hq
    exact ⟨e', w'', fr', hR, ComesIn.of_steps hs₀ hs, hfn, hl⟩
  | exit id => exact hq.elim
  | goto l => exact hq.elim
  | outgrown => exact ⟨.outgrown, w', b, hq, harr.resolve_left (by simp [b]), rfl, trivial⟩
/-- A range over a function, in a frame of f0: the rounds are met where the iterator calls yield. -/
def loopOf (f0 : FuncId) (a : Act) (ps : Array Tmp) (assign body : Code) (D : Nat) (st : LoopState) : Loop := { state := st, pending := none, fn := f0, tmps := a.tmps, params := ps, assign, body, defers := D }
theorem WT.rangeFunc {g : Operand} {ps : Array Tmp} {assign body : Code} {gf : Nat} {lb : Array Value} (hg : a.eval g = .func (.func gf) #[] lb) (eg : ∀ args w, (callFunc gf args).run P w = .ok (.enter gf args) w)
    (h : ∀ (D : Nat) (W1 : World), D = w.heap.size → W1.heap.size = w.heap.size + 2 → Fr [] w W1 → W1.heap[D]? = some (.deferred (some [])) → W1.heap[D + 1]? = some (.loop (loopOf f0 a ps assign body D .ready)) →
      Calls P gf (#[.func (.yield (D + 1)) #[] #[]] ++ lb) W1 fun e W2 =>
        (∃ v, e = .returned v ∧ W2.heap[D + 1]? = some (.loop (loopOf f0 a ps assign body D .ready)) ∧ Q .normal { a with defers := { target := .collected D, args := #[] } :: a.defers } (W2.putObj (D + 1) (.loop (loopOf f0 a ps assign body D .exhausted)))) ∨
        (∃ chain, e = .panicked chain ∧ Q (.panic chain) { a with defers := { target := .collected D, args := #[] } :: a.defers } W2)) :
    WT P f0 (Code.rangeFunc g ps assign body) Q a w := by
  intro b k cs hro hb
  obtain ⟨W1, hW1⟩ : ∃ W1, (w.alloc (.deferred (some []))).alloc (.loop (loopOf f0 a ps assign body w.heap.size .ready)) = W1 := ⟨_, rfl⟩
  have hL1 : W1.heap[w.heap.size + 1]? = some (.loop (loopOf f0 a ps assign body w.heap.size .ready)) := by
    rw [← hW1]; have := World.alloc_heap_new (w.alloc (.deferred (some []))) (.loop (loopOf f0 a ps assign body w.heap.size .ready)); rwa [World.size_alloc] at this
  have hK1 : W1.heap[w.heap.size]? = some (.deferred (some [])) := by
    rw [← hW1]; exact (Below.heap_alloc _ _ _ (by simp)).trans (World.alloc_heap_new w _)
  have hsz1 : W1.heap.size = w.heap.size + 2 := by rw [← hW1]; simp
  have hf1 : Fr [] w W1 := by rw [← hW1]; exact ((Fr.refl [] w).alloc _).alloc _
  have he : (Instr.enterLoop b.fn a.tmps ps assign body b.roundOf).run P w = .ok (w.heap.size + 1, [{ target := .collected w.heap.size, args := #[] }]) W1 := by
    rw [hro, hb, ← hW1]; exact run_enterLoop_outer _ _ _ _ _
  have hres : (resolve a.eval (rangeCall g (w.heap.size + 1)) 0).run P W1 = .ok { target := .fn (.func gf) lb, args := #[.func (.yield (w.heap.size + 1)) #[] #[]] } W1 := by
    simp only [resolve, hg]; simp [go_sem]
  have hinv : (invoke (.fn (.func gf) lb) #[.func (.yield (w.heap.size + 1)) #[] #[]]).run P W1 = .ok (.enter gf (#[.func (.yield (w.heap.size + 1)) #[] #[]] ++ lb)) W1 := by
    simp [invoke, go_sem, eg]
  obtain ⟨e, w₃, fr, hR, hsteps, hfn, hleave⟩ := (callsIn_wide (n := 2)).2 (h w.heap.size W1 rfl hsz1 hf1 hK1 hL1) |>.2 (b.atR { a with defers := { target := .collected w.heap.size, args := #[] } :: a.defers } (.inRangeFunc (w.heap.size + 1) :: k) :: cs) (room_wide _)
  have h0 : (lone (b.atR a (.code (.rangeFunc g ps assign body) :: k)) cs w).fenced P Fence.wide := fenced_lone (.inl trivial) (fun _ _ => trivial) (by simp [Fence.wide, Fence.room])
  have henter := stepR_rangeFunc (P := P) (b := b) (a := a) (k := k) (cs := cs) (w := w) he hres hinv
  rcases hR with ⟨v, rfl, hl, hQ⟩ | ⟨chain, rfl, hQ⟩
  · have hl' : (lone fr (b.atR { a with defers := { target := .collected w.heap.size, args := #[] } :: a.defers } (.inRangeFunc (w.heap.size + 1) :: k) :: cs) w₃).fenced P Fence.wide := fenced_leaving (n := 0) trivial (room_wide _) hleave
    have hend := run_endLoop (P := P) hl (by simp [loopOf])
    refine ⟨.normal, _, _, hQ, .head h0 henter (StepsIn.trans hsteps (.head hl' ?_ (.one (fenced_calm (n := 0) (fr := b.atR { a with defers := { target := .collected w.heap.size, args := #[] } :: a.defers } (.endRangeFunc (w.heap.size + 1) :: k)) trivial (room_wide _) rfl) (stepR_endRangeFunc hend))))⟩
    rw [← finish_atR_inRangeFunc (w.heap.size + 1) v]; exact step_leave_returned hleave
  · have hl' : (lone fr (b.atR { a with defers := { target := .collected w.heap.size, args := #[] } :: a.defers } (.inRangeFunc (w.heap.size + 1) :: k) :: cs) w₃).fenced P Fence.wide := fenced_leaving (n := 0) trivial (room_wide _) hleave
    refine ⟨.panic chain, _, w₃, hQ, .inRangeFunc (w.heap.size + 1) :: k, .head h0 henter (StepsIn.trans hsteps (.one hl' ?_))⟩
    rw [← Frame.raise_atR]; exact step_leave_panicked hleave
theorem WT.block {id : Nat} {c : Code} (h : WT P f0 c (Exit.inBlock id Q) a w) : WT P f0 (Code.block id c) Q a w := by
  intro b k cs hro hb
  have h0 : (lone (b.atR a (.code (.block id c) :: k)) cs w).fenced P Fence.wide := fenced_calm (n := 0) trivial (room_wide _) rfl
  obtain ⟨e, a₁, w₁, hq, harr⟩ := h b (.inBlock id :: k) cs hro hb
  cases e with
  | normal => exact ⟨.normal, a₁, w₁, hq, .head h0 stepR_block (StepsIn.trans harr (.one (fenced_calm (n := 0) trivial (room_wide _) rfl) stepR_inBlock))⟩
  | exit id' =>
    by_cases hid : id' = id
    · simp only [Exit.inBlock, hid, if_true] at hq
      exact ⟨.normal, a₁, w₁, hq, .head h0 stepR_block (harr.1 k (by simp [exitTo, hid]))⟩
    · simp only [Exit.inBlock, hid, if_false] at hq
      have this : (id == id') = false := by simp; exact fun h => hid h.symm
      have hx : exitTo id' (.inBlock id :: k) = exitTo id' k := by simp [exitTo, this]
      exact ⟨.exit id', a₁, w₁, hq, fun k' hk => .head h0 stepR_block (harr.1 k' (by rw [hx]; exact hk)),
        fun hr' hk => let ⟨k₁, h1, h2⟩ := harr.2 hr' (by rw [hx]; exact hk); ⟨k₁, h1, .head h0 stepR_block h2⟩⟩
  | goto l =>
    have hx : gotoIn l (.inBlock id :: k) = gotoIn l k := by simp [gotoIn]
    exact ⟨_, a₁, w₁, hq, fun k' hk => .head h0 stepR_block (harr.1 k' (by rw [hx]; exact hk)),
      fun hr' hk => let ⟨k₁, h1, h2⟩ := harr.2 hr' (by rw [hx]; exact hk); ⟨k₁, h1, .head h0 stepR_block h2⟩⟩
  | ret => exact ⟨_, a₁, w₁, hq, .of_steps (.one h0 stepR_block) harr⟩
  | panic ch => exact ⟨_, a₁, w₁, hq, .of_steps (.one h0 stepR_block) harr⟩
  | outgrown => exact ⟨_, a₁, w₁, hq, .of_steps (.one h0 stepR_block) harr⟩
/-- How a round is left. -/
def roundT (l : Nat) (L : LoopState → Loop) (R : Ending → World → Prop) : Exit → Act → World → Prop
  | .normal, _, W => W.heap[l]? = some (.loop (L .busy)) ∧ R (.returned (.bool true)) (W.putObj l (.loop (L .ready)))
  | .panic chain, a, W => a.defers = [] ∧ R (.panicked chain) W
  | _, _, _ => False
/-- One round. -/
theorem yield_T {ps : Array Tmp} {assign body : Code} {D l n : Nat} {R : Ending → World → Prop} {W : World} {x : Value} (hl : W.heap[l]? = some (.loop (loopOf f0 a ps assign body D .ready))) (hps : ps.size = 1) (hfn : ∃ fn, P.funcs[f0]? = some fn) (a₁ : Act)
    (hassign : ∀ K : Act → World → Prop, K a₁ W → assign.wpIn (Fence.wide.inRound l) n P (Exit.then K (fun _ _ _ => False)) { tmps := (ps.zip #[x]).foldl (fun t (p, v) => t.setIfInBounds p v) a.tmps, defers := [] } W)
    (hbody : body.wpIn (Fence.wide.inRound l) n P (roundT l (loopOf f0 a ps assign body D) R) a₁ (W.putObj l (.loop (loopOf f0 a ps assign body D .busy)))) : YieldAt Fence.wide n P l #[x] W R := by
  have hy := run_yield (P := P) (args := #[x]) hl (by simp [loopOf, hps])
  refine ⟨f0, _, assign, body, hy, roundIn_of_wpInP trivial hfn (hassign _ ⟨_, run_beginRound hl (by simp [loopOf]), ?_⟩)⟩
  refine wpIn_mono hbody ?_
  rintro e a3 W3 hp
  cases e with
  | normal =>
    obtain ⟨hl3, hR⟩ := hp
    exact ⟨_, _, run_endRound (P := P) none hl3, hR⟩
  | panic chain => exact hp
  | _ => exact hp.elim
theorem wpListIn_ofT {l n : Nat} {P : Program} {ops : Array Oper} {Q : Exit → Act → World → Prop} (hL : ¬ LetsOut Q) : ∀ (rest : List Oper) (a : Act) (w : World), (∀ o ∈ rest, ∀ c, o.op ≠ .defer c) → wpList P ops Q rest a w → wpListIn (Fence.wide.inRound l) n P ops Q rest a w
  | [], _, _, _, h => h
  | o :: rest, a, w, hd, h => by
    unfold wpList at h
    refine wpListIn_step fun K hK => ?_
    have ih := fun (a : Act) (w : World) => wpListIn_ofT (l := l) (n := n) (P := P) (ops := ops) hL rest a w (fun o ho => hd o (List.mem_cons_of_mem _ ho))
    by_cases hw : Region.wanted o (yielded ops a.tmps) = true
    · simp only [hw, if_true] at h ⊢
      rcases h with h | ⟨_, h⟩
      · exact oper_wpIn_round (hd o (List.mem_cons_self ..)) (Oper.wp_mono (fun a w h => hK _ _ (ih a w h)) h)
      · exact (hL h).elim
    · simp only [hw, if_false, Bool.false_eq_true] at h ⊢
      exact ⟨fun _ _ => trivial, hK _ _ (ih _ _ h)⟩
/-- Two results, each in one cell. -/
theorem results_cell_2T {P : Program} {fn : Func} {p p2 : Tmp} {ty ty2 : TypeId} (h : fn.results = #[.cell p ty, .cell p2 ty2]) (tmps : Array Value) (w : World) {b b2 : Nat} {v v2 : Value} (hp : tmps.getD p undef = .pointer (some ⟨b, 0, none⟩)) (hp2 : tmps.getD p2 undef = .pointer (some ⟨b2, 0, none⟩)) (hv : w.cell? ⟨b, 0, none⟩ = some v) (hv2 : w.cell? ⟨b2, 0, none⟩ = some v2) (d : TypeDesc)
    (hu : P.underlying ty = some d) (hd : aggDesc d = false) (d2 : TypeDesc) (hu2 : P.underlying ty2 = some d2) (hd2 : aggDesc d2 = false) : (results fn tmps).run P w = .ok (.tuple #[v, v2]) w := by
  have hr := run_load_one w ty d hu hd hv
  have hr2 := run_load_one w ty2 d2 hu2 hd2 hv2
  have hp' : tmps[p]?.getD undef = .pointer (some ⟨b, 0, none⟩) := by simpa using hp
  have hp2' : tmps[p2]?.getD undef = .pointer (some ⟨b2, 0, none⟩) := by simpa using hp2
  simp [results, h, hp', hp2', asAddr, hr, hr2]
/-- A region that draws no order, in a round; it may panic. -/
theorem wpIn_region_P {l n : Nat} {ops : Array Oper} {id : Nat} (hd : noDefer ops = true) (h : wpList P ops (fun e a w => (e = .normal ∨ ∃ ch, e = .panic ch) ∧ Q e a w) ops.toList a w) : (Code.region id ops false).wpIn (Fence.wide.inRound l) n P Q a w := by
  refine wpIn_mono (wpIn_region_list (wpListIn_ofT (Q := fun e a w => (e = .normal ∨ ∃ ch, e = .panic ch) ∧ Q e a w) (by rintro ⟨_, _, h | ⟨_, h⟩, _⟩ <;> cases h) _ _ _ (fun o ho c hc => ?_) h)) (fun e a w ⟨_, hq⟩ => hq)
  obtain ⟨i, hi⟩ := List.getElem?_of_mem ho
  exact noDefer_at hd (by rw [← Array.getElem?_toList]; exact hi) c hc
end
end Go.Xr
