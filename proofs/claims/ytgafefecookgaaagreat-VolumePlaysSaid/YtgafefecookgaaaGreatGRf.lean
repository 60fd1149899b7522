/- Several texts put together: Rf, RfN, RfM. What each shows stands ahead of it. -/
import Derived.Test.YtgafefecookgaaaGreatGCore
import Derived.RangeFuncNested
import Derived.RangeFuncBound
import Derived.RangeFuncCalls
import Derived.RangeFuncLeaves
import Derived.OwnWalkIn
import Derived.TacticsInMore
import Derived.LoopNIn
import Derived.LoopIn
import Derived.OrdersIn
set_option linter.unusedVariables false
set_option linter.unusedSimpArgs false
set_option maxRecDepth 20000
set_option maxHeartbeats 16000000
namespace Go.Xr
open Go Go.RowKit
set_option linter.unusedVariables false
theorem fr_putObj (W : World) (l : Nat) (o : Obj) (hn : ¬ Pln W l) : Fr [l] W (W.putObj l o) :=
 ⟨rfl,rfl,rfl,by simp,fun k _ hk => World.putObj_heap_other (by simpa using hk),fun k hk => hk.same (World.putObj_heap_other (fun e => hn (e ▸ hk)))⟩
theorem pln_loop {W : World} {l : Nat} {r} (h : W.heap[l]? = some (.loop r)) : ¬ Pln W l:=by
 rintro ⟨t,cs,h2⟩
 rw [h] at h2
 cases h2
theorem pln_def {W : World} {l : Nat} {r} (h : W.heap[l]? = some (.deferred r)) : ¬ Pln W l:=by
 rintro ⟨t,cs,h2⟩
 rw [h] at h2
 cases h2
set_option linter.unusedVariables false
def Kept (Keep : Nat → Prop) (A B : World) : Prop:=A.heap.size ≤ B.heap.size ∧ ∀ b,Keep b → B.heap[b]? = A.heap[b]?
theorem Fr.kept {S : List Nat} {A B : World} {Keep : Nat → Prop} (h : Fr S A B) (hK : ∀ b,Keep b → b < A.heap.size ∧ b ∉ S) : Kept Keep A B :=
 ⟨h.size,fun b hb => h.block b (hK b hb).1 (hK b hb).2⟩
theorem Kept.trans {Keep : Nat → Prop} {A B C : World} (h : Kept Keep A B) (h' : Kept Keep B C) : Kept Keep A C:=⟨Nat.le_trans h.1 h'.1,fun b hb => (h'.2 b hb).trans (h.2 b hb)⟩
def noDefer (ops : Array Oper) : Bool:=ops.toList.all fun o => match o.op with | .defer _ => false | _ => true
theorem noDefer_at {ops : Array Oper} (h : noDefer ops = true) {i : Nat} {o : Oper} (hi : ops[i]? = some o) : ∀ c,o.op ≠ .defer c:=by
 intro c hc
 have h1:=List.all_eq_true.1 h o (by
  obtain ⟨hlt,rfl⟩:=Array.getElem?_eq_some_iff.1 hi
  exact Array.mem_toList_iff.2 (Array.getElem_mem hlt))
 rw [hc] at h1
 cases h1
theorem oper_wpIn_round {l n : Nat} {P : Program} {o : Oper} {a : Act} {w : World} {K : Act → World → Prop} {Q : Exit → Act → World → Prop} (hd : ∀ c,o.op ≠ .defer c) (h : o.wp P a w K Q) : o.wpIn (Fence.wide.inRound l) n P a w K Q:=by
 refine ⟨fun f _ => trivial,?_⟩
 rw [Oper.semAt_plain _ _ _ hd]
 unfold Oper.wp at h
 generalize (execOp a.eval o).run P w = r at h
 have hF : (Fence.wide.inRound l).depth.isSome = true → 1 ≤ n:=fun h => by cases h
 cases r with
 | ok x w' =>
   cases x with
   | value v => exact h
   | skip => exact h
   | defer d => exact h
   | enter f args => exact ⟨hF,CallsIn.inRound l (callsIn_wide.2 h)⟩
   | row row args =>
     refine ⟨hF,fun c cs _ => ?_⟩
     obtain ⟨v,w2,r1,r2⟩:=h c cs
     exact ⟨v,w2,r1,stepsIn_wide.2 r2⟩
   | _ => exact (h : False).elim
 | halt x w' =>
   cases x with
   | panic v => exact h
   | _ => exact (h : False).elim
theorem wpOp_in {l n : Nat} {P : Program} {ops : Array Oper} {Q : Exit → Act → World → Prop} (hL : ¬ LetsOut Q) (hd : noDefer ops = true) {i : Nat} {K : Act → World → Prop} {a : Act} {w : World} (h : wpOp P ops Q i K a w) : wpOpIn (Fence.wide.inRound l) n P ops Q i K a w:=by
 unfold wpOp at h
 unfold wpOpIn
 cases hi : ops[i]? with
 | none => simp only [hi] at h ⊢;exact h
 | some o =>
   simp only [hi] at h ⊢
   by_cases hw : Region.wanted o (yielded ops a.tmps) = true
   · simp only [hw,if_true] at h ⊢
     rcases h with h | ⟨_,h⟩
     · exact oper_wpIn_round (noDefer_at hd hi) h
     · exact (hL h).elim
   · simp only [hw] at h ⊢
     exact ⟨fun _ _ => trivial,h⟩
theorem wpAny_in {l n : Nat} {P : Program} {md : Region.Mode} {ops : Array Oper} {Q : Exit → Act → World → Prop} (hL : ¬ LetsOut Q) (hd : noDefer ops = true) : ∀ (fuel : Nat) (listed : Array Bool) (a : Act) (w : World),wpAny P md ops Q fuel listed a w → wpAnyIn (Fence.wide.inRound l) n P md ops Q fuel listed a w
 | 0,_,_,_,h => h
 | fuel + 1,_,_,_,h => ⟨h.1,fun i hi => wpOpIn_mono (fun a w => wpAny_in hL hd fuel _ a w) (wpOp_in hL hd (h.2 i hi))⟩
theorem wpIn_region_D {l n : Nat} {P : Program} {ops : Array Oper} {Q : Exit → Act → World → Prop} {id : Nat} {a : Act} {w : World} (hd : noDefer ops = true) (S : World → Prop) (last : Bool) (qs : List Nat) (hm : P.follows .mixedOrders = true) (h : WD P ops Q S last qs [] a w.drew) : (Code.region id ops true).wpIn (Fence.wide.inRound l) n P Q a w:=by
 have h1:=h (Closed.start ops)
 refine wpIn_mono (wpIn_region_any (Q:=fun e a w => e = .normal ∧ Q .normal a w) hm ?_) (fun e a w ⟨he,hq⟩ => by subst he;exact hq)
 exact wpAny_in (by rintro ⟨_,_,h,_⟩;cases h) hd _ _ _ _ (wpAny_of_D _ _ _ _ h1)
set_option linter.unusedVariables false
def SeqM (P : Program) (n g : Nat) (lb : Array Value) (enc : Nat → Value) (m : Nat) (Keep : Nat → Prop) (w : World) : Prop :=
 ∀ (l : Nat) (J : Nat → World → Prop) (Jx : World → Prop) (W : World),Fr [] w W → (∀ k A B,J k A → Fr [] A B → J k B) →
   (∀ k W1,k < m → J k W1 → YieldAt Fence.wide n P l #[enc k] W1 fun e W' => (e = .returned (.bool true) ∧ J (k + 1) W' ∧ Kept Keep W1 W') ∨ (e = .returned (.bool false) ∧ Jx W')) →
   J 0 W →
   Calls P g (#[.func (.yield l) #[] #[]] ++ lb) W fun e W' => (∃ v,e = .returned v) ∧ (J m W' ∨ Jx W')
def ownM (Keep : Nat → Prop) (I : Nat → World → Prop) (Ix : World → Prop) (k : Nat) (W : World) : Exit → Act → World → Prop
 | .normal,_,W' => Kept Keep W W' ∧ I k W'
 | .ret,_,W' => Kept Keep W W' ∧ Ix W'
 | _,_,_ => False
theorem wpIn_rangeFunc_M {n : Nat} {P : Program} {g : Operand} {ps : Array Tmp} {assign body : Code} {Q : Exit → Act → World → Prop} {a : Act} {w : World} {gf : Nat} {lb : Array Value} (hg : a.eval g = .func (.func gf) #[] lb) (eg : ∀ args w,(callFunc gf args).run P w = .ok (.enter gf args) w)
 {enc : Nat → Value} {m : Nat} {Keep : Nat → Prop} (hseq : SeqM P (n - 1 - 1) gf lb enc m Keep w) (hps : ps.size = 1)
 (hKeep : ∀ b,Keep b → b < w.heap.size)
 (I : Nat → World → Prop) (Ix : World → Prop) (hI : ∀ k A B,I k A → Fr [w.heap.size,w.heap.size + 1] A B → I k B) (hIx : ∀ A B,Ix A → Fr [w.heap.size,w.heap.size + 1] A B → Ix B) (h0 : I 0 w) (a₁ : Value → Act)
 (hassign : ∀ (l k : Nat) (W : World) (K : Act → World → Prop),K (a₁ (enc k)) W →
   assign.wpIn (Fence.wide.inRound l) (n - 1 - 1) P (Exit.then K (fun _ _ _ => False)) { tmps:=(ps.zip #[enc k]).foldl (fun t (p,v) => t.setIfInBounds p v) a.tmps,defers:=[] } W)
 (hbody : ∀ (l k : Nat) (W : World),k < m → w.heap.size + 2 ≤ W.heap.size → I k W → body.wpIn (Fence.wide.inRound l) (n - 1 - 1) P (ownM (fun b => Keep b ∨ b = w.heap.size ∨ b = w.heap.size + 1) I Ix (k + 1) W) (a₁ (enc k)) W)
 (hdone : ∀ (D : Nat) (W : World),D = w.heap.size → I m W → W.heap[D]? = some (.deferred (some [])) → Q .normal { a with defers:={ target:=.collected D,args:=#[] } :: a.defers } W)
 (hstop : ∀ (D : Nat) (W : World),D = w.heap.size → Ix W → W.heap[D]? = some (.deferred (some [])) → Code.ret.wpIn Fence.wide n P Q { a with defers:={ target:=.collected D,args:=#[] } :: a.defers } W) :
 (Code.rangeFunc g ps assign body).wpIn Fence.wide n P Q a w:=by
 refine wpIn_rangeFunc ?_
 intro fn hfn
 obtain ⟨rec,hrec⟩ : ∃ rec : LoopState → Option Code → Loop,rec = fun st pe => { state:=st,pending:=pe,fn,tmps:=a.tmps,params:=ps,assign,body,defers:=w.heap.size }:=⟨_,rfl⟩
 obtain ⟨W1,hW1⟩ : ∃ W1,(w.alloc (.deferred (some []))).alloc (.loop (rec .ready none)) = W1:=⟨_,rfl⟩
 have hL1 : W1.heap[w.heap.size + 1]? = some (.loop (rec .ready none)):=by
  rw [← hW1];have:=World.alloc_heap_new (w.alloc (.deferred (some []))) (.loop (rec .ready none));rwa [World.size_alloc] at this
 have hK1 : W1.heap[w.heap.size]? = some (.deferred (some [])):=by
  rw [← hW1];exact (Below.heap_alloc _ _ _ (by simp)).trans (World.alloc_heap_new w _)
 have hsz1 : W1.heap.size = w.heap.size + 2:=by rw [← hW1];simp
 have hf1 : Fr [] w W1:=by rw [← hW1];exact ((Fr.refl [] w).alloc _).alloc _
 have hI1 : I 0 W1:=hI 0 w W1 h0 (hf1.mono (by simp))
 refine ⟨w.heap.size + 1,[{ target:=.collected w.heap.size,args:=#[] }],W1,{ target:=.fn (.func gf) lb,args:=#[.func (.yield (w.heap.size + 1)) #[] #[]] },W1,gf,
  #[.func (.yield (w.heap.size + 1)) #[] #[]] ++ lb,W1,?_,?_,?_,?_,(fun h => (by cases h)),?_⟩
 · rw [← hW1,hrec];exact run_enterLoop_outer _ _ _ _ _
 · simp only [resolve,hg]
   simp [go_sem]
 · intro f' hf';trivial
 · simp [invoke,go_sem,eg]
 · refine callsIn_wide.2 ((hseq (w.heap.size + 1)
    (fun k W => I k W ∧ W.heap[w.heap.size + 1]? = some (.loop (rec .ready none)) ∧ W.heap[w.heap.size]? = some (.deferred (some [])))
    (fun W => Ix W ∧ W.heap[w.heap.size + 1]? = some (.loop (rec .done (some .ret))) ∧ W.heap[w.heap.size]? = some (.deferred (some [])))
    W1 hf1
    (fun k A B h hb => ⟨hI k A B h.1 (hb.mono (by simp)),(hb.block _ (Array.getElem?_eq_some_iff.1 h.2.1).1 (by simp)).trans h.2.1,(hb.block _ (Array.getElem?_eq_some_iff.1 h.2.2).1 (by simp)).trans h.2.2⟩)
    ?_ ⟨hI1,hL1,hK1⟩).mono ?_)
   · -- one round
     rintro k W hkm ⟨hi,hl,hk⟩
     have hlt : w.heap.size + 1 < W.heap.size:=(Array.getElem?_eq_some_iff.1 hl).1
     have hy:=run_yield (P:=P) (args:=#[enc k]) hl (by rw [hrec];simp [hps])
     rw [hrec] at hy
     refine ⟨fn,_,assign,body,hy,roundIn_of_wpIn hfn (hassign _ k W _ ⟨_,run_beginRound hl (by rw [hrec]),?_⟩)⟩
     have hl2 : (W.putObj (w.heap.size + 1) (.loop { rec .ready none with state:=.busy })).heap[w.heap.size + 1]? = some (.loop { rec .ready none with state:=.busy }):=World.putObj_heap_same hlt
     have hk2 : (W.putObj (w.heap.size + 1) (.loop { rec .ready none with state:=.busy })).heap[w.heap.size]? = some (.deferred (some [])):=(World.putObj_heap_other (by omega)).trans hk
     have hw2 : Fr [w.heap.size + 1] W (W.putObj (w.heap.size + 1) (.loop { rec .ready none with state:=.busy })):=fr_putObj _ _ _ (pln_loop hl)
     have hi2 : I k (W.putObj (w.heap.size + 1) (.loop { rec .ready none with state:=.busy })):=hI k _ _ hi (hw2.mono (by simp))
     refine wpIn_mono (hbody _ k _ hkm (by simp;omega) hi2) ?_
     have hKs : ∀ b,Keep b → b < W.heap.size ∧ b ∉ [w.heap.size + 1]:=fun b hb => by have:=hKeep b hb;simp;omega
     rintro e a3 W3 hp
     cases e with
     | normal =>
       obtain ⟨hk3,hi3⟩:=hp
       have hl3 : W3.heap[w.heap.size + 1]? = some (.loop { rec .ready none with state:=.busy }):=(hk3.2 _ (.inr (.inr rfl))).trans hl2
       have hk4 : W3.heap[w.heap.size]? = some (.deferred (some [])):=(hk3.2 _ (.inr (.inl rfl))).trans hk2
       have hr:=run_endRound (P:=P) none hl3
       have hsz3:=hk3.1
       rw [World.putObj_size] at hsz3
       have hw3 : Fr [w.heap.size + 1] W3 (W3.putObj (w.heap.size + 1) (.loop (rec .ready none))):=fr_putObj _ _ _ (pln_loop hl3)
       refine ⟨.bool true,W3.putObj (w.heap.size + 1) (.loop (rec .ready none)),?_,.inl ⟨rfl,⟨hI _ _ _ hi3 (hw3.mono (by simp)),World.putObj_heap_same (Array.getElem?_eq_some_iff.1 hl3).1,(World.putObj_heap_other (by omega)).trans hk4⟩,?_⟩⟩
       · rw [hrec] at hr ⊢
         exact hr
       · have h1 : Kept Keep W _:=hw2.kept hKs
         have h2 : Kept Keep _ W3:=⟨hk3.1,fun b hb => hk3.2 b (.inl hb)⟩
         exact (h1.trans h2).trans (hw3.kept fun b hb => by have:=hKeep b hb;simp;omega)
     | ret =>
       obtain ⟨hk3,hi3⟩:=hp
       have hl3 : W3.heap[w.heap.size + 1]? = some (.loop { rec .ready none with state:=.busy }):=(hk3.2 _ (.inr (.inr rfl))).trans hl2
       have hk4 : W3.heap[w.heap.size]? = some (.deferred (some [])):=(hk3.2 _ (.inr (.inl rfl))).trans hk2
       have hr:=run_endRound (P:=P) (some .ret) hl3
       have hsz3:=hk3.1
       rw [World.putObj_size] at hsz3
       have hw3 : Fr [w.heap.size + 1] W3 (W3.putObj (w.heap.size + 1) (.loop (rec .done (some .ret)))):=fr_putObj _ _ _ (pln_loop hl3)
       refine ⟨.bool false,W3.putObj (w.heap.size + 1) (.loop (rec .done (some .ret))),?_,.inr ⟨rfl,hIx _ _ hi3 (hw3.mono (by simp)),World.putObj_heap_same (Array.getElem?_eq_some_iff.1 hl3).1,(World.putObj_heap_other (by omega)).trans hk4⟩⟩
       rw [hrec] at hr ⊢
       exact hr
     | _ => exact hp.elim
   · -- behind the iterator
     rintro e W2 ⟨⟨v,rfl⟩,h | h⟩
     · obtain ⟨hi,hl,hk⟩:=h
       have hlt : w.heap.size + 1 < W2.heap.size:=(Array.getElem?_eq_some_iff.1 hl).1
       exact ⟨none,_,by have:=run_endLoop (P:=P) hl (by rw [hrec];simp);rw [hrec] at this;exact this,hdone _ _ rfl (hI m _ _ hi ((fr_putObj W2 (w.heap.size + 1) _ (pln_loop hl)).mono (by simp))) ((World.putObj_heap_other (by omega)).trans hk)⟩
     · obtain ⟨hi,hl,hk⟩:=h
       have hlt : w.heap.size + 1 < W2.heap.size:=(Array.getElem?_eq_some_iff.1 hl).1
       exact ⟨some .ret,_,by have:=run_endLoop (P:=P) hl (by rw [hrec];simp);rw [hrec] at this;exact this,hstop _ _ rfl (hIx _ _ hi ((fr_putObj W2 (w.heap.size + 1) _ (pln_loop hl)).mono (by simp))) ((World.putObj_heap_other (by omega)).trans hk)⟩
end Go.Xr
