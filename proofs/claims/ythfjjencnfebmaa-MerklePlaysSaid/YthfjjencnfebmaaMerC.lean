/- Layer 10, merkle: a row in groups (slices.Chunk), and the row above it. -/
import Derived.Test.YthfjjencnfebmaaMerB
import Derived.Test.YthfjjencnfebmaaRfN
namespace Go.Xr
open Go Go.RowKit
set_option linter.unusedVariables false
/-- s[l:k:k] of a row. -/
def winV (ad : Option Addr) (l k : Nat) : Value := .slice (if k = l then ad else ad.map (·.add (l * 1))) (k - l) (k - l)
section
variable {P : Program} {w : World}
theorem wpListIn_slice_v {F : Fence} {m : Nat} {ops : Array Oper} {Q : Exit → Act → World → Prop} {a : Act} {rest : List Oper} {o : Oper} (hg : o.guard = none) (t : TypeId) (x : Operand) (lo hi mx : Option Operand) (ho : o.op = .slice t x lo hi mx) (xv : Value) (hx : a.eval x = xv) (lv hv mv : Option Value) (hlo : lo.map a.eval = lv) (hhi : hi.map a.eval = hv) (hmx : mx.map a.eval = mv) (v : Value)
    (hr : (Instr.sliceAt t xv lv hv mv).run P w = .ok v w) (h : wpListIn F m P ops Q rest (a.put o.dst v) w) : wpListIn F m P ops Q (o :: rest) a w := by
  refine wpListIn_plain hg fun K hK => ?_
  unfold Oper.wpIn
  refine ⟨by simp [Oper.about, ho], ?_⟩
  rw [Oper.semAt_plain F _ _ (by rw [ho]; intro c hc'; cases hc')]
  unfold execOp
  simp only [ho, hx, hlo, hhi, hmx, Sem.run_bind, Sem.run_pure, Result.andThen_ok, hr]
  exact hK _ _ h
theorem run_winV (t e : TypeId) (ht : P.underlying t = some (.slice e)) (hs : (P.info? e).map (·.size) = some 1) (ad : Option Addr) (n c l k : Nat) (h1 : l ≤ k) (h2 : k ≤ c) (w0 : World) (kl kh km : IntKind) :
    (Instr.sliceAt t (.slice ad n c) (some (.int kl (l : Int))) (some (.int kh (k : Int))) (some (.int km (k : Int)))).run P w0 = .ok (winV ad l k) w0 := by
  cases hq : P.info? e with
  | none => simp [hq] at hs
  | some i =>
    have hs1 : i.size = 1 := by simpa [hq] using hs
    have h3 : (l : Int) ≤ (k : Int) := by omega
    have h4 : (0 : Int) ≤ (l : Int) := by omega
    have h5 : (k : Int) ≤ (c : Int) := by omega
    have h7 : (0 : Int) ≤ (k : Int) := by omega
    simp [Instr.sliceAt, Instr.slice, run_underlying ht, Instr.sliceBounds, run_sliceBound, h3, h4, h5, h7, sizeOf, typeInfo, hq, hs1, winV]
theorem rc_winV {ad : Option Addr} {n c : Nat} {xs : List Value} {B : Option Nat} (hr : Rc w 1 (.slice ad n c) n xs B) (l k : Nat) (h1 : l ≤ k) (h2 : k ≤ n) : Rc w 1 (winV ad l k) (k - l) ((xs.drop l).take (k - l)) B := by
  obtain ⟨hl, hB, ad', c', hv, hc, hm, h6⟩ := hr
  obtain ⟨rfl, rfl⟩ : ad = ad' ∧ c = c' := by simpa using hv
  refine ⟨by rw [List.length_take, List.length_drop, hl]; omega, hB, _, _, rfl, by omega, by omega, fun hk0 => ?_⟩
  obtain ⟨b, off, hB', ha, hcs⟩ := h6 (by omega)
  refine ⟨b, off + l, hB', ?_, fun j hj => ?_⟩
  · rw [if_neg (by omega), ha, Option.map_some, Nat.mul_one]
    refine congrArg some ?_
    unfold Addr.add
    split <;> simp_all
  · rw [List.length_take, List.length_drop] at hj
    rw [List.getElem?_take, if_pos (by omega), List.getElem?_drop, Nat.add_assoc, hcs (l + j) (by omega)]
end
end Go.Xr
namespace Go.Proofs.Ythfjjencnfebmaa.mer
open Go Go.Xr Go.RowKit
set_option linter.unusedVariables false
set_option linter.unusedSimpArgs false
attribute [local go_sem] Oper.semAt_some
theorem chunk_any {w : World} {ad : Option Addr} {n c : Nat} : Calls Try.prog 47 #[.slice ad n c, .int .i64 8] w fun e w' => ∃ cb nb, e = .returned (.func (.func 57) #[] #[.pointer (some ⟨cb, 0, none⟩), .pointer (some ⟨nb, 0, none⟩)]) ∧
      w'.cell? ⟨cb, 0, none⟩ = some (.slice ad n c) ∧ w'.cell? ⟨nb, 0, none⟩ = some (.int .i64 8) ∧ w.heap.size ≤ cb ∧ cb < w'.heap.size ∧ w.heap.size ≤ nb ∧ nb < w'.heap.size ∧ Fr [] w w' := by
  have b1 := Blk.alloc w [Value.slice ad n c] 22
  have b2 := Blk.alloc (w.alloc (.cells [Value.slice ad n c].toArray 22)) [Value.int .i64 8] 3
  have b1' := b1.old (.cells [Value.int .i64 8].toArray 3)
  have e1 := b1'.cell 0
  have e2 := b2.cell 0
  rw [World.size_alloc] at e2
  simp only [List.getElem?_cons_zero] at e1 e2
  go_enter Try.func47, Try.ntmps47
  go_wp2_with fail
  go_ret
  exact ⟨w.heap.size, w.heap.size + 1, rfl, e1, e2, Nat.le_refl _, by simp; omega, by omega, by simp, ((Fr.refl [] w).alloc _).alloc _⟩
set_option maxRecDepth 20000 in
set_option maxHeartbeats 1000000 in
theorem chunk_seq {w : World} {ad : Option Addr} {n c cb nb : Nat} (hnc : n ≤ c) (hcm : c ≤ maxLen) (hn : n ≤ 16777215) (hc : w.cell? ⟨cb, 0, none⟩ = some (.slice ad n c)) (hb : w.cell? ⟨nb, 0, none⟩ = some (.int .i64 8)) :
    SeqN Try.prog 1 57 #[.pointer (some ⟨cb, 0, none⟩), .pointer (some ⟨nb, 0, none⟩)] (fun k => winV ad (8 * k) (min (8 * k + 8) n)) ((n + 7) / 8) (fun b => b = cb ∨ b = nb) w := by
  intro l J W hfr hJ hY h0
  have q1 := hfr.cell_some hc
  have q2 := hfr.cell_some hb
  have HJ := hid hJ
  have HY := hid hY
  have hcl : ∀ {b : Nat} {v : Value}, W.cell? ⟨b, 0, none⟩ = some v → b < W.heap.size := fun {b v} h => by
    unfold World.cell? at h
    rcases Nat.lt_or_ge b W.heap.size with h' | h'
    · exact h'
    · simp [h'] at h
  have hcb := hcl q1
  have hnb := hcl q2
  have Hcm := hid hcm
  clear hfr hc hb hJ hY hcl hcm
  show Calls _ _ #[.func (.yield l) #[] #[], .pointer (some ⟨cb, 0, none⟩), .pointer (some ⟨nb, 0, none⟩)] W _
  go_enter Try.func57, Try.ntmps57
  go_wp2_with fail
  go_loopw [4] (fun iv wr => ∃ j : Nat, j ≤ (n + 7) / 8 ∧ iv = .int .i64 ((8 * j : Nat) : Int) ∧ J j wr ∧ W.heap.size ≤ wr.heap.size ∧ wr.cell? ⟨cb, 0, none⟩ = some (.slice ad n c) ∧ wr.cell? ⟨nb, 0, none⟩ = some (.int .i64 8)) (fun iv _ => n + 8 - (intOf iv).toNat)
  case atStart => exact ⟨0, by omega, rfl, h0, Nat.le_refl _, q1, q2⟩
  case round =>
    obtain ⟨j, hj, rfl, hJj, hsz, c1, c2⟩ := hrel
    clear h0 q1 q2
    by_cases hli : 8 * j < n
    · obtain ⟨lo, hlo⟩ : ∃ lo, 8 * j = lo := ⟨_, rfl⟩
      obtain ⟨m, hm⟩ : ∃ m, n - lo = m := ⟨_, rfl⟩
      obtain ⟨e, he⟩ : ∃ e, min 8 m = e := ⟨_, rfl⟩
      obtain ⟨k, hk⟩ : ∃ k, lo + e = k := ⟨_, rfl⟩
      have hmin : min (8 : Int) (m : Int) = (e : Int) := by omega
      have hle : (lo : Int) + (e : Int) = (k : Int) := by omega
      have hkb : k ≤ 16777215 := by omega
      have hlb : lo ≤ 16777215 := by omega
      have hd : decide ((lo : Int) < (n : Int)) = true := by simp; omega
      have hd' : (lo : Int) < (n : Int) := by omega
      have d1 : wr.drew.cell? ⟨cb, 0, none⟩ = some (.slice ad n c) := c1
      have d2 : wr.drew.cell? ⟨nb, 0, none⟩ = some (.int .i64 8) := c2
      have f0 : Fr [] wr wr.drew := (Fr.refl [] wr).drew
      obtain ⟨V, hV, hVr⟩ : ∃ ad' c', ∀ w0 : World, (Instr.sliceAt 22 (.slice ad n c) (some (.int .i64 (lo : Int))) none none).run Try.prog w0 = .ok (.slice ad' m c') w0 :=
        ⟨_, _, fun w0 => by rw [← hm]; exact run_low_rc w0 _ 9 ad n c lo .i64 _ rfl Try.underlying22 (by kernel_rfl) (by omega)⟩
      have HVr := hid hVr
      have Hwin := hid fun w0 kl kh km => run_winV (P := Try.prog) 22 9 Try.underlying22 (by kernel_rfl) ad n c lo k (by omega) (by omega) w0 kl kh km
      have HE := hid (show winV ad lo k = winV ad (8 * j) (min (8 * j + 8) n) by rw [hlo]; congr 1; omega)
      obtain ⟨U, hU⟩ : ∃ U, winV ad lo k = U := ⟨_, rfl⟩
      rw [hU] at Hwin HE
      have Hj := hid (show j < (n + 7) / 8 by omega)
      have Hlo := hid hlo
      rw [hlo]
      clear hlo hm he hk hVr hU hli hj
      have hyield := HY.out j wr.drew Hj.out (HJ.out _ _ _ hJj f0)
      rw [← HE.out] at hyield
      obtain ⟨fn, tmps, assign, body, hy, hR⟩ := hyield
      go_wp2_with fail
      refine wp_region_D (fun _ => True) false [] (by kernel_rfl) ?_
      refine WD.pure [0, 1, 2, 3, 4, 5, 6] (by kernel_rfl) trivial ?_
      simp only [pick, List.toList_toArray, List.map_cons, List.map_nil, List.getD_cons_succ, List.getD_cons_zero]
      repeat (first | (refine quiet_slice_vW (by rfl) _ _ _ _ rfl _ rfl _ _ rfl rfl _ (fun w0 _ => HVr.out w0) ?_; simp only [World.size_alloc, World.size_drew, Act.put, List.setIfInBounds_toArray, List.set_cons_succ, List.set_cons_zero]) | go_big_quiet_step (fail))
      refine wpQuiet_nil ?_
      refine WD.done (by kernel_rfl) ?_
      rename_i hnext
      refine hnext _ _ ((wpIn_wide (n := 2)).1 ?_)
      clear hnext
      gi_wp2_with (refine wpListIn_slice_v rfl _ _ _ _ _ rfl _ rfl _ _ _ rfl rfl rfl _ (Hwin.out _ _ _ _) ?_; simp only [World.size_alloc, World.size_drew, Act.put, List.setIfInBounds_toArray, List.set_cons_succ, List.set_cons_zero])
      refine hR.mono ?_
      rintro e2 W2 ⟨rfl, hJ2, hf2⟩
      have r1 : W2.cell? ⟨cb, 0, none⟩ = some (.slice ad n c) := (World.cell?_of_block (w := wr.drew) (hf2.2 cb (.inl rfl))).trans d1
      have r2 : W2.cell? ⟨nb, 0, none⟩ = some (.int .i64 8) := (World.cell?_of_block (w := wr.drew) (hf2.2 nb (.inr rfl))).trans d2
      have r3 : W.heap.size ≤ W2.heap.size := Nat.le_trans (Nat.le_trans hsz f0.size) hf2.1
      clear hy hR hf2 d1 d2 c1 c2 hJj
      gi_wp2
      have hadd : (lo : Int) + 8 = ((8 * (j + 1) : Nat) : Int) := by have := Hlo.out; omega
      go_wp2_with fail
      go_roundw
      case rel => exact ⟨j + 1, by have := Hj.out; omega, by first | rfl | (rw [← hadd]; go_num), hJ2, r3, r1, r2⟩
      case measure => simp [intOf]; omega
    · obtain ⟨lo, hlo⟩ : ∃ lo, 8 * j = lo := ⟨_, rfl⟩
      have hd : decide ((lo : Int) < (n : Int)) = false := by simp; omega
      have hd' : ¬ ((lo : Int) < (n : Int)) := by omega
      have hd2 : n ≤ lo := by omega
      have ej : j = (n + 7) / 8 := by omega
      have HJd := hid (show J ((n + 7) / 8) wr by rw [← ej]; exact hJj)
      rw [hlo]
      clear ej hli hj hJj hlo
      go_wp2_with fail
      refine bodyPost_end (results_none rfl _ _ _) rfl ?_
      exact ⟨⟨_, rfl⟩, HJd.out⟩
end Go.Proofs.Ythfjjencnfebmaa.mer
