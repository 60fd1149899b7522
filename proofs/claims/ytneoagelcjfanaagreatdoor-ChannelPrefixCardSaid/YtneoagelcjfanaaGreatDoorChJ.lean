/- Layer 22: Take. -/
import Derived.Test.YtneoagelcjfanaaGreatDoorChI
namespace Go.Proofs.YtneoagelcjfanaaGreatDoor.chn
open Go Go.Xr Go.RowKit Go.Proofs.YtneoagelcjfanaaGreatDoor Go.Proofs.YtneoagelcjfanaaGreatDoor.rcd
set_option linter.unusedVariables false
set_option linter.unusedSimpArgs false
theorem recT_le (c m label R : ByteArray) : (recT c m label R).size ≤ R.size := by
  have h1 : (recP c m label R).size ≤ R.size := by
    unfold recP openR
    split
    · rw [trnS_size, ByteArray.size_extract]; omega
    · exact Nat.zero_le _
  have h2 : ∀ P : ByteArray, (unpT P).size ≤ P.size := by
    intro P
    unfold unpT
    split
    · rw [ByteArray.size_extract]; omega
    · exact Nat.zero_le _
  exact Nat.le_trans (h2 _) h1
/-- What a channel is behind a Take. -/
def takeN (S : CHS) (T : TK) : CHS := if T.c = 0 then { S with no := T.no, held := T.H } else { S with no := T.no, held := ⟨#[]⟩, cl := true, oc := decide (T.c = 7) }
attribute [local go_sem] Oper.semAt_some
section
variable {w w' w0 : World} {cb s o : Nat} {K : CH} {S : CHS} {rs l : List Res}
theorem chan_ev {S' : CHS} (h : Held w (chR cb s o K S)) (f : Fr [cb, s, o] w w') (c : Blk w' cb (chL s o S'.held S'.cl)) (sl : Blk w' s (slL K.co K.mo K.lo S'.ns)) (op : Blk w' o (opL K.ci K.mi K.li S'.no S'.oc)) : Ev w (chR cb s o K S) w' (chR cb s o K S') := by
  have all : ∀ r ∈ chR cb s o K S', r.On w' := by
    intro r hr
    simp [chR] at hr
    rcases hr with rfl | rfl | rfl
    · exact Res.On.blk c
    · exact Res.On.blk sl
    · exact Res.On.blk op
  exact ⟨⟨fun r hr => (all r hr).loc, fun r hr => (all r hr).so, fun r hr => (all r hr).lt, h.apart⟩, f, fun b hb => .inl hb⟩
theorem chan_ids (h : Held w (chR cb s o K S)) : cb < w.heap.size ∧ s < w.heap.size ∧ o < w.heap.size ∧ cb ≠ s ∧ cb ≠ o ∧ s ≠ o := by
  have hn := h.apart
  have hn' : [cb, s, o].Nodup := hn
  simp at hn'
  exact ⟨(h.blkAt 0 rfl).lt, (h.blkAt 1 rfl).lt, (h.blkAt 2 rfl).lt, hn'.1.1, hn'.1.2, hn'.2⟩
theorem TJ.ev {S' : CHS} {N M : Nat} {lp : LoopState → Loop} {st : LoopState} {oc : Bool} {no : UInt64} {H out : ByteArray} {A B : World} {X : List Nat} (h : TJ w cb s o N K S.ns lp M st oc no H out A) (HH : Held w (chR cb s o K S)) (f : Fr X A B) (hX : ∀ x ∈ X, N ≤ x)
    (e1 : S'.ns = S.ns) (e2 : S'.no = no) (e3 : S'.held = H) (e4 : S'.cl = false) (e5 : S'.oc = oc) : Ev w (chR cb s o K S) B (chR cb s o K S') := by
  obtain ⟨i1, i2, i3, i4, i5, i6, i7⟩ := h.ids
  have hn : ∀ k, k < N → k ∉ X := fun k hk hx => by have := hX k hx; omega
  refine chan_ev HH (h.fr.trans f (fun x hx => .inr (by have := hX x hx; omega))) ?_ ?_ ?_
  · rw [e3, e4]; exact f.blk h.c (hn _ i2)
  · rw [e1]; exact f.blk h.sl (hn _ i3)
  · rw [e2, e5]; exact f.blk h.op (hn _ i4)
theorem TJ.shut {N M : Nat} {lp : LoopState → Loop} {st : LoopState} {oc : Bool} {no : UInt64} {H out : ByteArray} {A : World} (h : TJ w0 cb s o N K S.ns lp M st oc no H out A) : Fr [N + 5] A (A.putObj (N + 5) (.deferred none)) ∧ BD (A.putObj (N + 5) (.deferred none)) (N + 3) out := by
  have f : Fr [N + 5] A (A.putObj (N + 5) (.deferred none)) := fr_putObj _ _ _ (pln_def h.df)
  refine ⟨f, h.bd.same ?_ (by simp)⟩
  intro k hk ⟨c, e, fz, hc⟩
  refine World.putObj_heap_other ?_
  rintro rfl
  rw [h.df] at hc
  cases hc
/-- A panic, caught. -/
theorem caught_any {N M : Nat} {lp : LoopState → Loop} {st : LoopState} {oc : Bool} {no : UInt64} {H out : ByteArray} {A : World} {tmps : Array Value} (c : Int) (h : TJ w cb s o N K S.ns lp M st oc no H out A) (HH : Held w (chR cb s o K S)) (t4 : tmps.getD 4 undef = .pointer (some ⟨N + 1, 0, none⟩)) (t5 : tmps.getD 5 undef = .pointer (some ⟨N + 2, 0, none⟩)) :
    LeavesInM Fence.wide 2 Tryz.prog Tryz.f18 tmps (fun e w' => e = .returned (.tuple #[.string out, .int .i64 c]) ∧ Ev w (chR cb s o K S) w' (chR cb s o K { S with no := no, held := ⟨#[]⟩, cl := true, oc := oc }))
      [{ target := .collected (N + 5), args := #[] }, { target := .fn (.func 33) #[.pointer (some ⟨N, 0, none⟩), .pointer (some ⟨N + 3, 0, none⟩), .pointer (some ⟨N + 1, 0, none⟩), .pointer (some ⟨N + 2, 0, none⟩)], args := #[] }] (.panicking [{ v := refV c, recovered := false }]) A := by
  obtain ⟨i1, i2, i3, i4, i5, i6, i7⟩ := h.ids
  obtain ⟨f, bd⟩ := h.shut
  refine ⟨by simp, .inl ⟨N + 5, _, rfl, run_takeDeferred h.df, ?_⟩⟩
  have F := h.fr.trans f (fun x hx => .inr (by simp at hx; omega))
  refine ⟨by simp, .inr ⟨fun h => (by cases h), _, _, 33, #[.pointer (some ⟨N, 0, none⟩), .pointer (some ⟨N + 3, 0, none⟩), .pointer (some ⟨N + 1, 0, none⟩), .pointer (some ⟨N + 2, 0, none⟩)], rfl, by simp [go_sem], fun _ _ => trivial, ?_⟩⟩
  refine (take1_caught (s := s) (o := o) (H := H) (T := out) (S := [cb, s, o]) (w0 := w) c F (by simp) (by omega) ((f.blk h.x (by simp)).cell 0) (f.blk h.c (by simp; omega)) bd (f.blk h.r4 (by simp)) (f.blk h.r5 (by simp)) (by omega) (by omega)).mono ?_
  rintro e u' w' ⟨rfl, rfl, g1, g2, g3, g4, g5⟩
  refine ⟨_, results_cell_2T rfl _ _ t4 t5 (g4.cell 0) (g5.cell 0) _ Tryz.underlying9 rfl _ Tryz.underlying27 rfl, rfl, ?_⟩
  exact chan_ev HH g1 g3 ((f.blk h.sl (by simp; omega)).same (g2 s (by omega) (by simp; omega))) ((f.blk h.op (by simp; omega)).same (g2 o (by omega) (by simp; omega)))
set_option maxRecDepth 20000 in
set_option maxHeartbeats 4000000 in
theorem ctake_nil (w : World) (t : ByteArray) : Calls Tryz.prog 18 #[.pointer none, .string t] w fun e w' => e = .returned (.tuple #[.string ⟨#[]⟩, .int .i64 1]) ∧ Fr [] w w' := by
  go_enter Tryz.func18, Tryz.ntmps18
  go_wp2_with fail
  have f3 : Fr [] w (((w.alloc (.cells #[.pointer none] 26)).alloc (.cells #[.string ⟨#[]⟩] 9)).alloc (.cells #[.int .i64 1] 27)) := (((Fr.refl [] w).alloc _).alloc _).alloc _
  refine bodyPost_ret (results_cell_2T rfl _ _ (b := w.heap.size + 1) (b2 := w.heap.size + 1 + 1) rfl rfl (v := .string ⟨#[]⟩) (v2 := .int .i64 1) ?_ ?_ _ Tryz.underlying9 rfl _ Tryz.underlying27 rfl) rfl ⟨rfl, f3⟩
  · have h := ((Blk.allocArr (w.alloc (.cells #[.pointer none] 26)) #[.string ⟨#[]⟩] 9).old (.cells #[.int .i64 1] 27)).cell 0
    rw [World.size_alloc] at h
    exact h
  · have h := (Blk.allocArr ((w.alloc (.cells #[.pointer none] 26)).alloc (.cells #[.string ⟨#[]⟩] 9)) #[.int .i64 1] 27).cell 0
    rw [World.size_alloc, World.size_alloc] at h
    exact h
set_option maxRecDepth 20000 in
set_option maxHeartbeats 4000000 in
theorem ctake_shut (h : Held w (chR cb s o K S)) (hc : S.cl = true) (t : ByteArray) : Calls Tryz.prog 18 #[.pointer (some ⟨cb, 0, none⟩), .string t] w fun e w' => e = .returned (.tuple #[.string ⟨#[]⟩, .int .i64 3]) ∧ Fr [] w w' := by
  have f1 : Fr [] w (((w.alloc (.cells #[.pointer (some ⟨cb, 0, none⟩)] 26)).alloc (.cells #[.string ⟨#[]⟩] 9)).alloc (.cells #[.int .i64 0] 27)) := (((Fr.refl [] w).alloc _).alloc _).alloc _
  have f3 : Fr [] w (((w.alloc (.cells #[.pointer (some ⟨cb, 0, none⟩)] 26)).alloc (.cells #[.string ⟨#[]⟩] 9)).alloc (.cells #[.int .i64 3] 27)) := (((Fr.refl [] w).alloc _).alloc _).alloc _
  have k3 : w.cell? ⟨cb, 3, none⟩ = some (.bool true) := by have := (h.blkAt 0 rfl).cell 3; rw [hc] at this; exact this
  have q3 := f1.cell_some k3
  have F3 := hid f3
  clear h hc f1 f3 k3
  go_enter Tryz.func18, Tryz.ntmps18
  go_wp2_with fail
  refine bodyPost_ret (results_cell_2T rfl _ _ (b := w.heap.size + 1) (b2 := w.heap.size + 1 + 1) rfl rfl (v := .string ⟨#[]⟩) (v2 := .int .i64 3) ?_ ?_ _ Tryz.underlying9 rfl _ Tryz.underlying27 rfl) rfl ⟨rfl, F3.out⟩
  · have h := ((Blk.allocArr (w.alloc (.cells #[.pointer (some ⟨cb, 0, none⟩)] 26)) #[.string ⟨#[]⟩] 9).old (.cells #[.int .i64 3] 27)).cell 0
    rw [World.size_alloc] at h
    exact h
  · have h := (Blk.allocArr ((w.alloc (.cells #[.pointer (some ⟨cb, 0, none⟩)] 26)).alloc (.cells #[.string ⟨#[]⟩] 9)) #[.int .i64 3] 27).cell 0
    rw [World.size_alloc, World.size_alloc] at h
    exact h
theorem crecords_any (w : World) (cb : Nat) : Calls Tryz.prog 34 #[.pointer (some ⟨cb, 0, none⟩)] w fun e w' => e = .returned (.func (.func 53) #[] #[.pointer (some ⟨w.heap.size, 0, none⟩)]) ∧ w' = w.alloc (.cells #[.pointer (some ⟨cb, 0, none⟩)] 26) := by
  have hmf : ∀ (fn : Fn) (first cap : Array Value) (w : World), (Instr.makeFunc fn first cap).run Tryz.prog w = .ok (.func fn first cap) w := fun _ _ _ _ => rfl
  go_enter Tryz.func34, Tryz.ntmps34
  go_wp2_with fail
  go_ret
  exact ⟨rfl, rfl⟩
set_option maxRecDepth 20000 in
set_option maxHeartbeats 4000000 in
theorem ctake_any (h : Held w (chR cb s o K S)) (hk : KOk K) (hc : S.cl = false) (hoc : S.oc = false) (t : ByteArray) (ht : S.held.size + t.size ≤ 1099511627776) (T : TK) (hT : takeS K S.no (S.held ++ t) = T) :
    Calls Tryz.prog 18 #[.pointer (some ⟨cb, 0, none⟩), .string t] w fun e w' => e = .returned (.tuple #[.string T.out, .int .i64 T.c]) ∧ Ev w (chR cb s o K S) w' (chR cb s o K (takeN S T)) := by
  have k1 : w.cell? ⟨cb, 1, none⟩ = some (.pointer (some ⟨o, 0, none⟩)) := (h.blkAt 0 rfl).cell 1
  have k2 : w.cell? ⟨cb, 2, none⟩ = some (.string S.held) := (h.blkAt 0 rfl).cell 2
  have k3 : w.cell? ⟨cb, 3, none⟩ = some (.bool false) := by have := (h.blkAt 0 rfl).cell 3; rw [hc] at this; exact this
  have hmf : ∀ (fn : Fn) (first cap : Array Value) (w : World), (Instr.makeFunc fn first cap).run Tryz.prog w = .ok (.func fn first cap) w := fun _ _ _ _ => rfl
  have HH := hid h
  have HT := hid hT
  clear h hT
  refine calls_of_WT Tryz.func18 rfl ?_
  rw [show #[Value.pointer (some ⟨cb, 0, none⟩), Value.string t] ++ Array.replicate (Tryz.f18.ntmps - #[Value.pointer (some ⟨cb, 0, none⟩), Value.string t].size) undef = #[Value.pointer (some ⟨cb, 0, none⟩), Value.string t, undef, undef, undef, undef, undef, undef, undef, undef, undef, undef, undef, undef, undef, undef, undef, undef, undef, undef, undef, undef, undef, undef, undef, undef, undef, undef, undef, undef, undef, undef, undef, undef, undef, undef, undef, undef, undef, undef, undef, undef, undef, undef, undef, undef, undef, undef, undef, undef, undef, undef, undef] from by kernel_rfl]
  refine WT.seq_k fun K hK => ?_
  go_wp2_with fail
  obtain ⟨N, hN⟩ : ∃ N, w.heap.size = N := ⟨_, rfl⟩
  have F1 := hid ((((Fr.refl [] w).alloc (.cells #[.pointer (some ⟨cb, 0, none⟩)] 26)).alloc (.cells #[.string ⟨#[]⟩] 9)).alloc (.cells #[.int .i64 0] 27))
  have X1 := hid ((((Blk.allocArr w #[.pointer (some ⟨cb, 0, none⟩)] 26).old (.cells #[.string ⟨#[]⟩] 9))).old (.cells #[.int .i64 0] 27))
  have R4 := hid ((Blk.allocArr (w.alloc (.cells #[.pointer (some ⟨cb, 0, none⟩)] 26)) #[.string ⟨#[]⟩] 9).old (.cells #[.int .i64 0] 27))
  have R5 := hid (Blk.allocArr ((w.alloc (.cells #[.pointer (some ⟨cb, 0, none⟩)] 26)).alloc (.cells #[.string ⟨#[]⟩] 9)) #[.int .i64 0] 27)
  have W1s := hid (show (((w.alloc (.cells #[.pointer (some ⟨cb, 0, none⟩)] 26)).alloc (.cells #[.string ⟨#[]⟩] 9)).alloc (.cells #[.int .i64 0] 27)).heap.size = N + 3 by simp; omega)
  simp only [World.size_alloc, hN] at X1 R4 R5 ⊢
  generalize (((w.alloc (.cells #[.pointer (some ⟨cb, 0, none⟩)] 26)).alloc (.cells #[.string ⟨#[]⟩] 9)).alloc (.cells #[.int .i64 0] 27)) = w1 at *
  refine WT.seq_k fun K hK => ?_
  have q1 := F1.out.cell_some k1
  have q2 := F1.out.cell_some k2
  have q3 := F1.out.cell_some k3
  have x1 := X1.out.cell 0
  go_wp2_with fail
  clear k1 k2 k3 x1 q1 q3
  refine WT.seq_k fun K hK => ?_
  go_wp2_with fail
  have bd2 := BD.made w1
  have f2 := (Fr.refl [] w1).alloc (.cells #[.pointer none, .slice none 0 0] 69)
  have W2s := hid (show (w1.alloc (.cells #[.pointer none, .slice none 0 0] 69)).heap.size = N + 4 by rw [World.size_alloc, W1s.out])
  rw [W1s.out] at bd2
  simp only [W1s.out]
  have B2 := hid bd2
  have F2 := hid f2
  clear bd2 f2
  have q3 := F2.out.cell_some q2
  have x2 := F2.out.cell_some (X1.out.cell 0)
  generalize (w1.alloc (.cells #[.pointer none, .slice none 0 0] 69)) = w2 at *
  refine WT.seq_k fun K hK => ?_
  go_wp2_with fail
  refine WT.seq_k fun K hK => ?_
  have hsz : S.held.size + t.size ≤ 140737488355328 := by omega
  have c2 := hid (F2.out.blk (F1.out.blk (HH.out.blkAt 0 rfl) (by simp)) (by simp))
  go_wp2_with (first
    | (refine wpList_put rfl _ _ _ rfl rfl (.string (S.held ++ t)) rfl rfl c2.out (by simp [chL]) (by kernel_rfl) ?_; intro w3 f3 b3 hs3; simp only [World.size_alloc, World.size_drew, Act.put, List.setIfInBounds_toArray, List.set_cons_succ, List.set_cons_zero]))
  clear q2 q3 x2 hsz
  rw [show N + 1 + 1 = N + 2 from rfl] at *
  have x3 := (f3.blk (F2.out.blk X1.out (by simp)) (by simp; have := chan_ids HH.out; omega)).cell 0
  refine WT.seq (WT.seq_k fun K hK => ?_)
  go_wp2_with (first | (go_at_call 34; refine (crecords_any _ cb).mono ?_; rintro e w4 ⟨rfl, hw⟩; subst hw))
  have W3s : w3.heap.size = N + 4 := by rw [hs3, W2s.out]
  simp only [W2s.out]
  refine WT.block (WT.rangeFunc rfl (enters_of Tryz.func53 (by kernel_rfl) rfl) fun D W hD hWs hfW hdf hlo => ?_)
  rw [World.size_alloc, W3s] at hD
  subst hD
  rw [show N + 4 + 1 = N + 5 from rfl, show N + 5 + 1 = N + 6 from rfl] at *
  generalize hlp : loopOf 18 _ _ _ _ _ = lp at hlo ⊢
  obtain ⟨M, hM⟩ : ∃ M, (S.held ++ t).size = M := ⟨_, rfl⟩
  have hM2 : M ≤ 1099511627776 := by rw [← hM, ByteArray.size_append]; exact ht
  have J0 : TJ w cb s o N K S.ns lp M .ready false S.no (S.held ++ t) ⟨#[]⟩ W := by
    obtain ⟨i1, i2, i3, i4, i5, i6⟩ := chan_ids HH.out
    have hx2 : (w3.alloc (.cells #[.pointer (some ⟨cb, 0, none⟩)] 26)).heap[N + 4]? = some (.cells #[.pointer (some ⟨cb, 0, none⟩)] 26) := by rw [← W3s]; exact World.alloc_heap_new _ _
    have g3 : Fr [] w3 W := ((Fr.refl [] w3).alloc _).trans hfW (by simp)
    have g1 : Fr [cb] w1 W := ((F2.out.mono (T := [cb]) (by simp)).trans' f3).trans g3 (by simp)
    have g0 : Fr [cb] w W := (F1.out.mono (T := [cb]) (by simp)).trans' g1
    rw [hc] at b3
    refine ⟨⟨hN, by omega, by omega, by omega, i4, i5, i6⟩, g3.blk b3 (by simp), ?_, g0.blk (HH.out.blkAt 1 rfl) (by simp; omega), g1.blk X1.out (by simp; omega), g1.blk R4.out (by simp; omega), g1.blk R5.out (by simp; omega), ((B2.out.keep f3 (by simp; omega)).keep g3 (by simp)), (hfW.block (N + 4) (by rw [World.size_alloc]; omega) (by simp)).trans hx2, hdf, hlo, g0.mono (by simp), ?_⟩
    · have h2 : Blk w o (opL K.ci K.mi K.li S.no S.oc) := HH.out.blkAt 2 rfl
      rw [hoc] at h2
      exact g0.blk h2 (by simp; omega)
    · rw [hM]; show 0 + M ≤ M; omega
  clear hlo hdf hfW hWs x3 b3 f3 hs3 W3s c2 B2 F2 W2s R5 R4 X1 W1s F1 hmf
  have J0 := hid J0
  have HLP := hid hlp
  clear hlp
  obtain ⟨i0, i1, i2, i3, i4, i5, i6⟩ := J0.out.ids
  rw [show #[Value.func (Fn.yield (N + 6)) #[] #[]] ++ #[Value.pointer (some ⟨N + 4, 0, none⟩)] = #[Value.func (Fn.yield (N + 6)) #[] #[], Value.pointer (some ⟨N + 4, 0, none⟩)] from rfl]
  refine (records_any (cb := cb) (s := s) (o := o) (xb := N + 4) (K := K) (N + 6) (TJ w cb s o N K S.ns lp M .ready false) (TJ w cb s o N K S.ns lp M .busy true) (fun no H R out A => TJ w cb s o N K S.ns lp M .ready false no H out A ∧ out.size + H.size + R.size ≤ M) T ?cBlk ?cBox ?cFr ?cPut ?cSz ?cRound S.no (S.held ++ t) ⟨#[]⟩ (M + 1) (by omega) (by rw [← hM]; exact HT.out) J0.out).mono ?cPost
  case cBlk => exact fun no H out A h => h.c
  case cBox => exact fun no H out A h => (show Blk A (N + 4) [.pointer (some ⟨cb, 0, none⟩)] from ⟨_, (0, 0), h.x2, by simp⟩).cell 0
  case cFr => exact fun no H out A B h f => h.keep f
  case cPut => exact fun no H H' R out A B h f hb hm => ⟨h.go f (by simp) hb (f.blk h.op (by simp; omega)) (by have := h.m; omega), by have := h.m; omega⟩
  case cSz => exact fun no H out A h => by have := h.m; omega
  case cRound =>
    rintro no H out R A ⟨hj, hm⟩ hR
    have HJ := hid hj
    have ha := (HLP.out ▸ hj.lo : A.heap[N + 6]? = _)
    refine yield_T (n := 1) (a₁ := ?cA) ha rfl ⟨_, Tryz.func18⟩ ?cAs ?cBd
    case cAs =>
      intro K hK
      gi_wp2
      exact hK
    case cBd =>
    rw [HLP.out]
    have HA := hid (hj.turn .busy)
    generalize (A.putObj (N + 6) (.loop (lp .busy))) = A1 at *
    have x1 := HA.out.x.cell 0
    have y1 : A1.cell? ⟨cb, 1, none⟩ = some (.pointer (some ⟨o, 0, none⟩)) := HA.out.c.cell 1
    clear ha hj HJ HLP
    refine wpIn_block (wpIn_seq ?_)
    refine wpIn_region_P (by kernel_rfl) ?_
    have HO := hid (fun w0 h => oopen_any (w := w0) (p := o) (c := K.ci) (m := K.mi) (label := K.li) (nx := no) (cl := false) R h hk.ki (by omega) (by have := hk.li; omega))
    have Hm := hid hm
    have HR := hid hR
    clear hm hR
    cases hok : recOk K.ci K.mi K.li no R with
    | false =>
      have e1 : opnT K.ci K.mi K.li no false R = ⟨#[]⟩ := by simp [opnT, hok]
      have e2 : opnE K.ci K.mi K.li no false R = 7 := by simp [opnE, hok]
      have e3 : opnN K.ci K.mi K.li no false R = no := by simp [opnN, hok]
      have e4 : opnC K.ci K.mi K.li no false R = true := by simp [opnC, hok]
      rw [e1, e2, e3, e4] at HO
      clear e1 e2 e3 e4
      go_wp2_with (first | (go_at_call 35; refine (HO.out _ HA.out.op).mono ?_; rintro e w5 ⟨rfl, o5, f5⟩))
      have J5 := hid (HA.out.go f5 (by simp) (f5.blk HA.out.c (by simp; omega)) o5 HA.out.m)
      refine wpIn_seq (wpIn_seq ?_)
      refine wpIn_region_P (by kernel_rfl) ?_
      go_wp2_with fail
      refine wpIn_cond_true rfl ?_
      refine wpIn_region_P (by kernel_rfl) ?_
      go_wp2_with fail
      exact ⟨rfl, rfl, J5.out⟩
    | true =>
      have e1 : opnT K.ci K.mi K.li no false R = recT K.ci K.mi K.li R := by simp [opnT, hok]
      have e2 : opnE K.ci K.mi K.li no false R = 0 := by simp [opnE, hok]
      have e3 : opnN K.ci K.mi K.li no false R = no + 1 := by simp [opnN, hok]
      have e4 : opnC K.ci K.mi K.li no false R = false := by simp [opnC, hok]
      rw [e1, e2, e3, e4] at HO
      clear e1 e2 e3 e4
      have hRt := hid (recT_le K.ci K.mi K.li R)
      generalize recT K.ci K.mi K.li R = X at *
      go_wp2_with (first | (go_at_call 35; refine (HO.out _ HA.out.op).mono ?_; rintro e w5 ⟨rfl, o5, f5⟩))
      have J5 := hid (HA.out.go f5 (by simp) (f5.blk HA.out.c (by simp; omega)) o5 HA.out.m)
      refine wpIn_seq (wpIn_seq ?_)
      refine wpIn_region_P (by kernel_rfl) ?_
      go_wp2_with fail
      refine wpIn_cond_false rfl ?_
      refine wpIn_skip ?_
      refine wpIn_region_P (by kernel_rfl) ?_
      have hXl : out.size + X.size ≤ 140737488355328 := by have := Hm.out; have := hRt.out; omega
      go_wp2_with (first | (go_at_call 28; refine (wstr_any (N + 3) out X w5 J5.out.bd hXl (by have := J5.out.bd.lt; omega)).mono ?_; rintro e w6 ⟨rfl, b6, f6⟩))
      have J6 := J5.out.bf f6 b6 (by have := Hm.out; have := hRt.out; rw [ByteArray.size_append]; omega)
      exact ⟨J6.lo, rfl, J6.turn .ready⟩
  case cPost =>
    rintro e W2 hE
    clear J0 HLP HT
    rcases hE with ⟨hT0, ⟨v, rfl⟩, hj⟩ | ⟨hT0, rfl, hj⟩ | ⟨hT0, rfl, hj⟩
    · refine .inl ⟨v, rfl, hj.lo, ?_⟩
      have HJ := hid (hj.turn .exhausted)
      clear hj
      generalize (W2.putObj (N + 6) (.loop (lp .exhausted))) = W3 at *
      refine WT.seq_k fun K hK => ?_
      go_wp2_with (first
        | (go_at_call 30; refine (bstr_any (N + 3) T.out W3 HJ.out.bd (Nat.le_of_lt HJ.out.bd.lt)).mono ?_; rintro e w6 ⟨rfl, b6, f6⟩; have HJ6 := hid (HJ.out.bf f6 b6 HJ.out.m))
        | (refine wpList_put rfl _ _ _ rfl rfl (.string T.out) rfl rfl HJ6.out.r4 (by simp) (by kernel_rfl) ?_; intro w7 f7 b7 hs7; simp only [World.size_alloc, World.size_drew, Act.put, List.setIfInBounds_toArray, List.set_cons_succ, List.set_cons_zero])
        | (refine wpList_put rfl _ _ _ rfl rfl (.int .i64 0) rfl rfl (f7.blk HJ6.out.r5 (by simp)) (by simp) (by kernel_rfl) ?_; intro w8 f8 b8 hs8; simp only [World.size_alloc, World.size_drew, Act.put, List.setIfInBounds_toArray, List.set_cons_succ, List.set_cons_zero]))
      refine WT.of_wp (wp_ret ?_)
      have hd8 : w8.heap[N + 5]? = some (.deferred (some [])) := by
        have l6 : N + 5 < w6.heap.size := (Array.getElem?_eq_some_iff.1 HJ6.out.df).1
        rw [f8.block (N + 5) (f7.lt l6) (by simp), f7.block (N + 5) l6 (by simp)]
        exact HJ6.out.df
      have f9 : Fr [N + 5] w8 (w8.putObj (N + 5) (.deferred none)) := fr_putObj _ _ _ (pln_def hd8)
      have f69 : Fr [N + 1, N + 2, N + 5] w6 (w8.putObj (N + 5) (.deferred none)) := ((f7.mono (T := [N + 1, N + 2, N + 5]) (by simp)).trans f8 (by simp)).trans f9 (by simp)
      refine ⟨by simp, .inl ⟨N + 5, _, rfl, run_takeDeferred hd8, ?_⟩⟩
      refine ⟨by simp, .inr ⟨fun h => (by cases h), _, _, 33, #[.pointer (some ⟨N, 0, none⟩), .pointer (some ⟨N + 3, 0, none⟩), .pointer (some ⟨N + 1, 0, none⟩), .pointer (some ⟨N + 2, 0, none⟩)], rfl, by simp [go_sem], fun _ _ => trivial, ?_⟩⟩
      refine (take1_idle _ _ rfl).mono ?_
      rintro e u' w' ⟨rfl, rfl, rfl⟩
      rw [hT0]
      have eN : takeN S T = { S with no := T.no, held := T.H } := by unfold takeN; rw [if_pos hT0]
      rw [eN]
      refine ⟨_, results_cell_2T rfl _ _ rfl rfl ((f9.blk (f8.blk b7 (by simp)) (by simp)).cell 0) ((f9.blk b8 (by simp)).cell 0) _ Tryz.underlying9 rfl _ Tryz.underlying27 rfl, rfl, ?_⟩
      exact HJ6.out.ev HH.out f69 (by simp) rfl rfl rfl hc hoc
    · refine .inr ⟨_, rfl, ?_⟩
      have eN : takeN S T = { S with no := T.no, held := ⟨#[]⟩, cl := true, oc := false } := by unfold takeN; rw [if_neg (by rw [hT0]; decide), hT0]; rfl
      rw [eN, hT0]
      exact caught_any 51 hj HH.out rfl rfl
    · refine .inr ⟨_, rfl, ?_⟩
      have eN : takeN S T = { S with no := T.no, held := ⟨#[]⟩, cl := true, oc := true } := by unfold takeN; rw [if_neg (by rw [hT0]; decide), hT0]; rfl
      rw [eN, hT0]
      exact caught_any 7 hj HH.out rfl rfl
end
end Go.Proofs.YtneoagelcjfanaaGreatDoor.chn
