/- Layer 8: disks two by two (slices.Chunk). -/
import Derived.Test.YtgafefecookgaaaVolD
import Derived.Test.YtgafefecookgaaaWin
namespace Go.Proofs.Ytgafefecookgaaa
open Go Go.Xr Go.RowKit
set_option linter.unusedVariables false
set_option linter.unusedSimpArgs false
attribute [local go_sem] Oper.semAt_some
theorem chunk2_any {w : World} {ad : Option Addr} {n c : Nat} : Calls Try.prog 47 #[.slice ad n c, .int .i64 2] w fun e w' => ∃ cb nb, e = .returned (.func (.func 61) #[] #[.pointer (some ⟨cb, 0, none⟩), .pointer (some ⟨nb, 0, none⟩)]) ∧
      w'.cell? ⟨cb, 0, none⟩ = some (.slice ad n c) ∧ w'.cell? ⟨nb, 0, none⟩ = some (.int .i64 2) ∧ w.heap.size ≤ cb ∧ cb < w'.heap.size ∧ w.heap.size ≤ nb ∧ nb < w'.heap.size ∧ Fr [] w w' := by
  have b1 := Blk.alloc w [Value.slice ad n c] 22
  have b2 := Blk.alloc (w.alloc (.cells [Value.slice ad n c].toArray 22)) [Value.int .i64 2] 3
  have b1' := b1.old (.cells [Value.int .i64 2].toArray 3)
  have e1 := b1'.cell 0
  have e2 := b2.cell 0
  rw [World.size_alloc] at e2
  simp only [List.getElem?_cons_zero] at e1 e2
  go_enter Try.func47, Try.ntmps47
  go_wp2_with fail
  go_ret
  exact ⟨w.heap.size, w.heap.size + 1, rfl, e1, e2, Nat.le_refl _, by simp; omega, by omega, by simp, ((Fr.refl [] w).alloc _).alloc _⟩
set_option maxRecDepth 20000 in
set_option maxHeartbeats 1000000 in
theorem chunk2_seq {w : World} {ad : Option Addr} {n c cb nb : Nat} (hnc : n ≤ c) (hcm : c ≤ maxLen) (hn : n ≤ 16777215) (hc : w.cell? ⟨cb, 0, none⟩ = some (.slice ad n c)) (hb : w.cell? ⟨nb, 0, none⟩ = some (.int .i64 2)) :
    SeqM Try.prog 1 61 #[.pointer (some ⟨cb, 0, none⟩), .pointer (some ⟨nb, 0, none⟩)] (fun k => winV ad (2 * k) (min (2 * k + 2) n)) ((n + 1) / 2) (fun b => b = cb ∨ b = nb) w := by
  intro l J Jx W hfr hJ hY h0
  have q1 := hfr.cell_some hc
  have q2 := hfr.cell_some hb
  have HJ := hid hJ
  have HY := hid hY
  have hcl : ∀ {b : Nat} {v : Value}, W.cell? ⟨b, 0, none⟩ = some v → b < W.heap.size := fun {b v} h => by
    unfold World.cell? at h
    rcases Nat.lt_or_ge b W.heap.size with h' | h'
    · exact h'
    · simp [h'] at h
  have hcb := hcl q1
  have hnb := hcl q2
  have Hcm := hid hcm
  clear hfr hc hb hJ hY hcl hcm
  show Calls _ _ #[.func (.yield l) #[] #[], .pointer (some ⟨cb, 0, none⟩), .pointer (some ⟨nb, 0, none⟩)] W _
  go_enter Try.func61, Try.ntmps61
  go_wp2_with fail
  go_loopw [4] (fun iv wr => ∃ j : Nat, j ≤ (n + 1) / 2 ∧ iv = .int .i64 ((2 * j : Nat) : Int) ∧ J j wr ∧ W.heap.size ≤ wr.heap.size ∧ wr.cell? ⟨cb, 0, none⟩ = some (.slice ad n c) ∧ wr.cell? ⟨nb, 0, none⟩ = some (.int .i64 2)) (fun iv _ => n + 2 - (intOf iv).toNat)
  case atStart => exact ⟨0, by omega, rfl, h0, Nat.le_refl _, q1, q2⟩
  case round =>
    obtain ⟨j, hj, rfl, hJj, hsz, c1, c2⟩ := hrel
    clear h0 q1 q2
    by_cases hli : 2 * j < n
    · obtain ⟨lo, hlo⟩ : ∃ lo, 2 * j = lo := ⟨_, rfl⟩
      obtain ⟨m, hm⟩ : ∃ m, n - lo = m := ⟨_, rfl⟩
      obtain ⟨e, he⟩ : ∃ e, min 2 m = e := ⟨_, rfl⟩
      obtain ⟨k, hk⟩ : ∃ k, lo + e = k := ⟨_, rfl⟩
      have hmin : min (2 : Int) (m : Int) = (e : Int) := by omega
      have hle : (lo : Int) + (e : Int) = (k : Int) := by omega
      have hkb : k ≤ 16777215 := by omega
      have hlb : lo ≤ 16777215 := by omega
      have hd : decide ((lo : Int) < (n : Int)) = true := by simp; omega
      have hd' : (lo : Int) < (n : Int) := by omega
      have d1 : wr.drew.cell? ⟨cb, 0, none⟩ = some (.slice ad n c) := c1
      have d2 : wr.drew.cell? ⟨nb, 0, none⟩ = some (.int .i64 2) := c2
      have f0 : Fr [] wr wr.drew := (Fr.refl [] wr).drew
      obtain ⟨V, hV, hVr⟩ : ∃ ad' c', ∀ w0 : World, (Instr.sliceAt 22 (.slice ad n c) (some (.int .i64 (lo : Int))) none none).run Try.prog w0 = .ok (.slice ad' m c') w0 :=
        ⟨_, _, fun w0 => by rw [← hm]; exact run_low_rc w0 _ 37 ad n c lo .i64 _ rfl Try.underlying22 (by kernel_rfl) (by omega)⟩
      have HVr := hid hVr
      have Hwin := hid fun w0 kl kh km => run_winV (P := Try.prog) 22 37 Try.underlying22 (by kernel_rfl) ad n c lo k (by omega) (by omega) w0 kl kh km
      have HE := hid (show winV ad lo k = winV ad (2 * j) (min (2 * j + 2) n) by rw [hlo]; congr 1; omega)
      obtain ⟨U, hU⟩ : ∃ U, winV ad lo k = U := ⟨_, rfl⟩
      rw [hU] at Hwin HE
      have Hj := hid (show j < (n + 1) / 2 by omega)
      have Hlo := hid hlo
      rw [hlo]
      clear hlo hm he hk hVr hU hli hj
      have hyield := HY.out j wr.drew Hj.out (HJ.out _ _ _ hJj f0)
      rw [← HE.out] at hyield
      obtain ⟨fn, tmps, assign, body, hy, hR⟩ := hyield
      go_wp2_with fail
      refine wp_region_D (fun _ => True) false [] (by kernel_rfl) ?_
      refine WD.pure [0, 1, 2, 3, 4, 5, 6] (by kernel_rfl) trivial ?_
      simp only [pick, List.toList_toArray, List.map_cons, List.map_nil, List.getD_cons_succ, List.getD_cons_zero]
      repeat (first | (refine quiet_slice_vW (by rfl) _ _ _ _ rfl _ rfl _ _ rfl rfl _ (fun w0 _ => HVr.out w0) ?_; simp only [World.size_alloc, World.size_drew, Act.put, List.setIfInBounds_toArray, List.set_cons_succ, List.set_cons_zero]) | go_big_quiet_step (fail))
      refine wpQuiet_nil ?_
      refine WD.done (by kernel_rfl) ?_
      rename_i hnext
      refine hnext _ _ ((wpIn_wide (n := 2)).1 ?_)
      clear hnext
      gi_wp2_with (refine wpListIn_slice_v rfl _ _ _ _ _ rfl _ rfl _ _ _ rfl rfl rfl _ (Hwin.out _ _ _ _) ?_; simp only [World.size_alloc, World.size_drew, Act.put, List.setIfInBounds_toArray, List.set_cons_succ, List.set_cons_zero])
      refine hR.mono ?_
      rintro e2 W2 (⟨rfl, hJ2, hf2⟩ | ⟨rfl, hJx⟩)
      rotate_left
      · clear hy hR d1 d2 c1 c2 hJj
        gi_wp2
        refine bodyPost_ret (results_none rfl _ _ _) rfl ?_
        exact ⟨⟨_, rfl⟩, .inr hJx⟩
      have r1 : W2.cell? ⟨cb, 0, none⟩ = some (.slice ad n c) := (World.cell?_of_block (w := wr.drew) (hf2.2 cb (.inl rfl))).trans d1
      have r2 : W2.cell? ⟨nb, 0, none⟩ = some (.int .i64 2) := (World.cell?_of_block (w := wr.drew) (hf2.2 nb (.inr rfl))).trans d2
      have r3 : W.heap.size ≤ W2.heap.size := Nat.le_trans (Nat.le_trans hsz f0.size) hf2.1
      clear hy hR hf2 d1 d2 c1 c2 hJj
      gi_wp2
      have hadd : (lo : Int) + 2 = ((2 * (j + 1) : Nat) : Int) := by have := Hlo.out; omega
      go_wp2_with fail
      go_roundw
      case rel => exact ⟨j + 1, by have := Hj.out; omega, by first | rfl | (rw [← hadd]; go_num), hJ2, r3, r1, r2⟩
      case measure => simp [intOf]; omega
    · obtain ⟨lo, hlo⟩ : ∃ lo, 2 * j = lo := ⟨_, rfl⟩
      have hd : decide ((lo : Int) < (n : Int)) = false := by simp; omega
      have hd' : ¬ ((lo : Int) < (n : Int)) := by omega
      have hd2 : n ≤ lo := by omega
      have ej : j = (n + 1) / 2 := by omega
      have HJd := hid (show J ((n + 1) / 2) wr by rw [← ej]; exact hJj)
      rw [hlo]
      clear ej hli hj hJj hlo
      go_wp2_with fail
      refine bodyPost_end (results_none rfl _ _ _) rfl ?_
      exact ⟨⟨_, rfl⟩, .inl HJd.out⟩
end Go.Proofs.Ytgafefecookgaaa
