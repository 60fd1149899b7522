/- Layer 22: what stands while records are taken. -/
import Derived.Test.YtneoagelcjfanaaGreatDoorChH
namespace Go.Proofs.YtneoagelcjfanaaGreatDoor.chn
open Go Go.Xr Go.RowKit Go.Proofs.YtneoagelcjfanaaGreatDoor Go.Proofs.YtneoagelcjfanaaGreatDoor.rcd
set_option linter.unusedVariables false
set_option linter.unusedSimpArgs false
/-- Between two rounds: the channel, the opener, the box, the results' cells, the builder, the iterator's box, the loop's blocks. -/
structure TJ (w0 : World) (cb s o N : Nat) (K : CH) (ns : UInt64) (lp : LoopState → Loop) (M : Nat) (st : LoopState) (oc : Bool) (no : UInt64) (H out : ByteArray) (A : World) : Prop where
  ids : w0.heap.size = N ∧ cb < N ∧ s < N ∧ o < N ∧ cb ≠ s ∧ cb ≠ o ∧ s ≠ o
  c : Blk A cb (chL s o H false)
  op : Blk A o (opL K.ci K.mi K.li no oc)
  sl : Blk A s (slL K.co K.mo K.lo ns)
  x : Blk A N [.pointer (some ⟨cb, 0, none⟩)]
  r4 : Blk A (N + 1) [.string ⟨#[]⟩]
  r5 : Blk A (N + 2) [.int .i64 0]
  bd : BD A (N + 3) out
  x2 : A.heap[N + 4]? = some (.cells #[.pointer (some ⟨cb, 0, none⟩)] 26)
  df : A.heap[N + 5]? = some (.deferred (some []))
  lo : A.heap[N + 6]? = some (.loop (lp st))
  fr : Fr [cb, s, o] w0 A
  m : out.size + H.size ≤ M
section
variable {w0 A B : World} {cb s o N M : Nat} {K : CH} {ns no no' : UInt64} {lp : LoopState → Loop} {st st' : LoopState} {oc oc' : Bool} {H H' out out' : ByteArray} {X : List Nat}
theorem TJ.go (h : TJ w0 cb s o N K ns lp M st oc no H out A) (f : Fr X A B) (hX : ∀ x ∈ X, x = cb ∨ x = o) (hc : Blk B cb (chL s o H' false)) (ho : Blk B o (opL K.ci K.mi K.li no' oc')) (hm : out.size + H'.size ≤ M) : TJ w0 cb s o N K ns lp M st oc' no' H' out B := by
  obtain ⟨i1, i2, i3, i4, i5, i6, i7⟩ := h.ids
  have hk : ∀ k, k = s ∨ N ≤ k → k ∉ X := fun k hk hx => by have := hX k hx; omega
  have hkk : ∀ {k : Nat} {ob : Obj}, N ≤ k → A.heap[k]? = some ob → B.heap[k]? = some ob := fun {k ob} hN hb => (f.block k (Array.getElem?_eq_some_iff.1 hb).1 (hk k (.inr hN))).trans hb
  exact ⟨h.ids, hc, ho, f.blk h.sl (hk _ (.inl rfl)), f.blk h.x (hk _ (.inr (by omega))), f.blk h.r4 (hk _ (.inr (by omega))), f.blk h.r5 (hk _ (.inr (by omega))), h.bd.keep f (fun x hx => by have := hX x hx; omega), hkk (by omega) h.x2, hkk (by omega) h.df, hkk (by omega) h.lo, h.fr.trans f (fun x hx => by have := hX x hx; simp; omega), hm⟩
theorem TJ.keep (h : TJ w0 cb s o N K ns lp M st oc no H out A) (f : Fr [] A B) : TJ w0 cb s o N K ns lp M st oc no H out B :=
  h.go f (by simp) (f.blk h.c (by simp)) (f.blk h.op (by simp)) h.m
theorem TJ.bf (h : TJ w0 cb s o N K ns lp M st oc no H out A) (f : BF (N + 3) A B) (hb : BD B (N + 3) out') (hm : out'.size + H.size ≤ M) : TJ w0 cb s o N K ns lp M st oc no H out' B := by
  obtain ⟨i1, i2, i3, i4, i5, i6, i7⟩ := h.ids
  exact ⟨h.ids, h.c.same (f.1.block _ (by omega)), h.op.same (f.1.block _ (by omega)), h.sl.same (f.1.block _ (by omega)), h.x.same (f.1.block _ (by omega)), h.r4.same (f.1.block _ (by omega)), h.r5.same (f.1.block _ (by omega)), hb, f.2 _ _ h.x2 (by simp) (by intro c fz e; cases e), f.2 _ _ h.df (by simp) (by intro c fz e; cases e), f.2 _ _ h.lo (by simp) (by intro c fz e; cases e), Fr.bf h.fr f (by omega), hm⟩
theorem TJ.turn (h : TJ w0 cb s o N K ns lp M st oc no H out A) (st' : LoopState) : TJ w0 cb s o N K ns lp M st' oc no H out (A.putObj (N + 6) (.loop (lp st'))) := by
  obtain ⟨i1, i2, i3, i4, i5, i6, i7⟩ := h.ids
  have hl : N + 6 < A.heap.size := (Array.getElem?_eq_some_iff.1 h.lo).1
  have f : Fr [N + 6] A (A.putObj (N + 6) (.loop (lp st'))) := fr_putObj _ _ _ (pln_loop h.lo)
  refine ⟨h.ids, f.blk h.c (by simp; omega), f.blk h.op (by simp; omega), f.blk h.sl (by simp; omega), f.blk h.x (by simp), f.blk h.r4 (by simp), f.blk h.r5 (by simp), h.bd.same ?_ (by simp), (World.putObj_heap_other (by omega)).trans h.x2, (World.putObj_heap_other (by omega)).trans h.df, World.putObj_heap_same hl, h.fr.trans f (fun x hx => by simp at hx; omega), h.m⟩
  intro k hk ⟨c, e, fz, hc⟩
  refine World.putObj_heap_other ?_
  rintro rfl
  rw [h.lo] at hc
  cases hc
end
end Go.Proofs.YtneoagelcjfanaaGreatDoor.chn
