/- Layer 7 (great seat): a disk of the document's mirror is lost. -/
import Derived.Test.YtjgagcpmoffldaaGreatPmD
namespace Go.Proofs.YtjgagcpmoffldaaGreat
open Go Go.Xr Go.RowKit
set_option linter.unusedVariables false
set_option linter.unusedSimpArgs false
section
variable {w w' w0 : World} {l rs : List Res} {pbs : List Nat} {m db ib : Nat} {M M' : MS} {d : Bool → Nat} {FF FF' : Bool → List Nat}
set_option maxRecDepth 20000 in
set_option maxHeartbeats 1000000 in
theorem plose0_false (h : Held w (l ++ mirX pbs m db ib d FF M)) (hc : M.c true = false) :
    Calls Tryz.prog 83 #[.pointer (some ⟨m, 0, none⟩), .int .i64 0] w fun e w' => e = .returned (.tuple #[]) ∧ Ev w (l ++ mirX pbs m db ib d FF M) w' (l ++ mirX pbs m db ib d FF (M.off false)) := by
  obtain ⟨a0, a1, hi, h0, h1⟩ := xir_is h
  have k1 : w.cell? ⟨m, 1, none⟩ = some (.slice (some ⟨ib, 0, none⟩) 2 2) := (xir_blk h).cell 1
  have hany : (M.off false).any = false := by
    unfold MS.any MS.off
    have hc2 := hc
    unfold MS.c at hc2
    simp at hc2 ⊢
    exact hc2
  have HE := hid fun (w1 : World) (f : Fr [ib] w w1) (hb : Blk w1 ib [.int .i64 2, .int .i64 a1]) => xir_put (M' := M.off false) (Ev.refl h) f hb rfl rfl (by first | exact h0 | rfl) (by first | exact h1 | rfl)
  have HL := hid fun (w1 : World) (h1 : Held w1 (l ++ mirX pbs m db ib d FF (M.off false))) => plost_any h1
  rw [hany] at HL
  clear h hc h0 h1 hany
  go_enter Tryz.func83, Tryz.ntmps83
  go_wp2_with (first
    | (refine wpList_put rfl _ _ _ rfl rfl (.int .i64 2) rfl rfl hi (by simp) (by kernel_rfl) ?_; intro w1 f1 b1 hs1; have E1 := HE.out w1 f1 b1; clear f1 b1 hs1; simp only [World.size_alloc, World.size_drew, Act.put, List.setIfInBounds_toArray, List.set_cons_succ, List.set_cons_zero])
    | (go_at_call 82; refine (HL.out _ E1.held).mono ?_; rintro e w2 ⟨rfl, rfl⟩))
  refine bodyPost_ret (results_none rfl _ _ _) rfl ?_
  exact ⟨rfl, E1⟩
set_option maxRecDepth 20000 in
set_option maxHeartbeats 1000000 in
theorem plose0_true (h : Held w (l ++ mirX pbs m db ib d FF M)) (hc : M.c false = false) :
    Calls Tryz.prog 83 #[.pointer (some ⟨m, 0, none⟩), .int .i64 1] w fun e w' => e = .returned (.tuple #[]) ∧ Ev w (l ++ mirX pbs m db ib d FF M) w' (l ++ mirX pbs m db ib d FF (M.off true)) := by
  obtain ⟨a0, a1, hi, h0, h1⟩ := xir_is h
  have k1 : w.cell? ⟨m, 1, none⟩ = some (.slice (some ⟨ib, 0, none⟩) 2 2) := (xir_blk h).cell 1
  have hany : (M.off true).any = false := by
    unfold MS.any MS.off
    have hc2 := hc
    unfold MS.c at hc2
    simp at hc2 ⊢
    exact hc2
  have HE := hid fun (w1 : World) (f : Fr [ib] w w1) (hb : Blk w1 ib [.int .i64 a0, .int .i64 2]) => xir_put (M' := M.off true) (Ev.refl h) f hb rfl rfl (by first | exact h0 | rfl) (by first | exact h1 | rfl)
  have HL := hid fun (w1 : World) (h1 : Held w1 (l ++ mirX pbs m db ib d FF (M.off true))) => plost_any h1
  rw [hany] at HL
  clear h hc h0 h1 hany
  go_enter Tryz.func83, Tryz.ntmps83
  go_wp2_with (first
    | (refine wpList_put rfl _ _ _ rfl rfl (.int .i64 2) rfl rfl hi (by simp) (by kernel_rfl) ?_; intro w1 f1 b1 hs1; have E1 := HE.out w1 f1 b1; clear f1 b1 hs1; simp only [World.size_alloc, World.size_drew, Act.put, List.setIfInBounds_toArray, List.set_cons_succ, List.set_cons_zero])
    | (go_at_call 82; refine (HL.out _ E1.held).mono ?_; rintro e w2 ⟨rfl, rfl⟩))
  refine bodyPost_ret (results_none rfl _ _ _) rfl ?_
  exact ⟨rfl, E1⟩
theorem stamp1_c (M : MS) (b : Bool) : (M.stamp1 b).c (!b) = M.c (!b) := by
  unfold MS.stamp1
  rw [flush1_c, stampW_c]
  rfl
theorem lose_c (M : MS) (b : Bool) : (M.lose b).c b = false := by
  unfold MS.lose
  split
  · have h := stamp1_c (M.off b) (!b)
    rw [Bool.not_not] at h
    rw [h, off_c]
    simp
  · rw [off_c]
    simp
theorem lose_work {M M1 : MS} {b : Bool} (hc : M.c (!b) = true) (h1 : M1 = { M.off b with g := M.g + 1 }) {S : ByteArray} (hS : S = supS M1.g (M1.s.len (!b))) :
    (M1.s.wrC (!b) 0 S = 0 → (M1.s.wr (!b) 0 S).flC (!b) = 0 → M.lose b = { M1 with s := (M1.s.wr (!b) 0 S).fl (!b) }) ∧
    (M1.s.wrC (!b) 0 S = 0 → (M1.s.wr (!b) 0 S).flC (!b) ≠ 0 → M.lose b = MS.off { M1 with s := (M1.s.wr (!b) 0 S).fl (!b) } (!b)) ∧
    (M1.s.wrC (!b) 0 S ≠ 0 → M.lose b = MS.off { M1 with s := M1.s.wr (!b) 0 S } (!b)) := by
  have hoc : (M.off b).c (!b) = true := by rw [off_c]; cases b <;> simpa using hc
  have e : M.lose b = (M1.stampW (!b)).flush1 (!b) := by
    unfold MS.lose
    rw [if_pos hoc, h1]
    rfl
  have hc1 : M1.c (!b) = true := by rw [h1]; exact hoc
  rw [e]
  subst hS
  obtain ⟨s1, hs1⟩ : ∃ s1, M1.s.wr (!b) 0 (supS M1.g (M1.s.len (!b))) = s1 := ⟨_, rfl⟩
  have hcs : MS.c { M1 with s := s1 } (!b) = true := hc1
  have a : M1.stampW (!b) = if M1.s.wrC (!b) 0 (supS M1.g (M1.s.len (!b))) = 0 then { M1 with s := s1 } else MS.off { M1 with s := s1 } (!b) := by
    unfold MS.stampW MS.after
    rw [hs1]
  rw [hs1, a]
  refine ⟨fun e1 e2 => ?_, fun e1 e2 => ?_, fun e1 => ?_⟩
  · rw [if_pos e1]
    unfold MS.flush1 MS.after
    rw [if_pos hcs]
    exact if_pos e2
  · rw [if_pos e1]
    unfold MS.flush1 MS.after
    rw [if_pos hcs]
    exact if_neg e2
  · rw [if_neg e1]
    unfold MS.flush1
    rw [if_neg (by rw [off_c]; simp)]
set_option maxRecDepth 20000 in
set_option maxHeartbeats 4000000 in
theorem plose_false (h : Held w (l ++ mirX pbs m db ib d FF M)) (ok : SysOk M.s) (ht : M.s.T < 999990) :
    Calls Tryz.prog 83 #[.pointer (some ⟨m, 0, none⟩), .int .i64 0] w fun e w' => e = .returned (.tuple #[]) ∧ ∃ FF', Ev w (l ++ mirX pbs m db ib d FF M) w' (l ++ mirX pbs m db ib d FF' (M.lose false)) := by
  cases hc : M.c true with
  | false =>
    have e : M.lose false = M.off false := lose0 (b := false) hc
    rw [e]
    refine (plose0_false h hc).mono ?_
    rintro e w' ⟨rfl, ev⟩
    exact ⟨rfl, FF, ev⟩
  | true =>
  obtain ⟨a0, a1, hi, h0, h1⟩ := xir_is h
  have k1 : w.cell? ⟨m, 1, none⟩ = some (.slice (some ⟨ib, 0, none⟩) 2 2) := (xir_blk h).cell 1
  have hany : (M.off false).any = true := by
    unfold MS.any MS.off
    have hc2 := hc
    unfold MS.c at hc2
    simp at hc2 ⊢
    exact hc2
  have HE := hid fun (w1 : World) (f : Fr [ib] w w1) (hb : Blk w1 ib [.int .i64 2, .int .i64 a1]) => xir_put (M' := M.off false) (Ev.refl h) f hb rfl rfl (by first | exact h0 | rfl) (by first | exact h1 | rfl)
  have HL := hid fun (w1 : World) (h1 : Held w1 (l ++ mirX pbs m db ib d FF (M.off false))) => plost_any h1
  rw [hany] at HL
  obtain ⟨M1, hM1⟩ : ∃ M1 : MS, M1 = { M.off false with g := M.g + 1 } := ⟨_, rfl⟩
  obtain ⟨M2, hM2⟩ : ∃ M2 : MS, M.lose false = M2 := ⟨_, rfl⟩
  have HW0 := lose_work (b := false) (S := supS M1.g (M1.s.len true)) hc hM1 rfl
  simp only [Bool.not_false, Bool.not_true] at HW0
  have HW := hid HW0
  clear HW0
  rw [hM2] at HW ⊢
  have c1 : M1.c false = false := by rw [hM1]; rfl
  have c2 : M2.c false = false := by rw [← hM2]; exact lose_c M false
  have c1n : M1.c true = true := by rw [hM1]; exact (off_c M false true).trans hc
  have HM := hid fun (w1 w2 : World) (e : Ev w (l ++ mirX pbs m db ib d FF M) w1 (l ++ mirX pbs m db ib d FF (M.off false))) (f : Fr [m] w1 w2) (hb : Blk w2 m (gmL db ib (M.g + 1))) => (show Ev w (l ++ mirX pbs m db ib d FF M) w2 (l ++ mirX pbs m db ib d FF M1) from by rw [hM1]; exact xir_gen e f hb)
  have ok1 : SysOk M1.s := by rw [hM1]; exact ok
  have ht1 : M1.s.T < 999990 := by rw [hM1]; exact ht
  have hadd : ∀ t, binOp .add t (W64 M.g) (.int .u64 1) = pure (W64 (M.g + 1)) := fun t => add_u64 t M.g 1
  clear h0 h1 hany hM1 hM2 hc ok ht h
  go_enter Tryz.func83, Tryz.ntmps83
  go_wp2_with (first
    | (refine wpList_put rfl _ _ _ rfl rfl (.int .i64 2) rfl rfl hi (by simp) (by kernel_rfl) ?_; intro w1 f1 b1 hs1; have E1 := hid (HE.out w1 f1 b1); clear f1 b1 hs1 HE; simp only [World.size_alloc, World.size_drew, Act.put, List.setIfInBounds_toArray, List.set_cons_succ, List.set_cons_zero])
    | (go_at_call 82; refine (HL.out _ E1.out.held).mono ?_; rintro e w2 ⟨rfl, e2⟩; have e2' := hid e2; rw [e2'.out]; clear e2 HL; have bm := xir_blk E1.out.held; have g2 : w1.cell? ⟨m, 2, none⟩ = some (W64 M.g) := bm.cell 2)
    | (refine wpList_put rfl _ _ _ rfl rfl (W64 (M.g + 1)) rfl rfl bm (by simp [gmL]) (by kernel_rfl) ?_; intro w3 f3 b3 hs3; have E3 := hid (HM.out _ _ E1.out f3 b3); clear f3 b3 bm hs3 HM E1; simp only [World.size_alloc, World.size_drew, Act.put, List.setIfInBounds_toArray, List.set_cons_succ, List.set_cons_zero]))
  go_loopw [4] (fun kv wr => ∃ q : Nat, q ≤ 2 ∧ kv = .int .i64 (q : Int) ∧ ∃ FF', Hid (Ev w (l ++ mirX pbs m db ib d FF M) wr (l ++ mirX pbs m db ib d FF' (if q ≤ 1 then M1 else M2)))) (fun kv _ => 2 - (intOf kv).toNat)
  case atStart => exact ⟨0, by decide, rfl, FF, by rw [if_pos (by decide)]; exact E3⟩
  case round =>
    obtain ⟨q, hq, rfl, FF1, E⟩ := hrel
    clear E3
    have hq3 : q = 1 ∨ q = 0 ∨ q = 2 := by omega
    rcases hq3 with rfl | rfl | rfl
    · rw [show ((1 : Nat) : Int) = 1 from rfl]
      rw [if_pos (by decide)] at E
      obtain ⟨b0, b1, hib, hb0, hb1⟩ := xir_is E.out.held
      obtain ⟨kb, kc, hkk, _⟩ := psee true E.out.held ok1
      have hz : b1 = 0 := by
        have : decide (b1 = 0) = true := hb1.symm.trans c1n
        simpa using this
      have i1 : wr.cell? ⟨m, 1, none⟩ = some (.slice (some ⟨ib, 0, none⟩) 2 2) := (xir_blk E.out.held).cell 1
      have i2 : wr.cell? ⟨ib, 1, none⟩ = some (.int .i64 0) := by rw [← hz]; exact hib.cell 1
      have Ed := hid (E.out.step (Fr.refl [] wr).drew)
      have hbd := xir_blk Ed.out.held
      have hdd := xir_dbl Ed.out.held
      have k0 : wr.drew.cell? ⟨m, 0, none⟩ = some (.slice (some ⟨db, 0, none⟩) 2 2) := hbd.cell 0
      have k2 : wr.drew.cell? ⟨m, 2, none⟩ = some (W64 M1.g) := hbd.cell 2
      have d0 : wr.drew.cell? ⟨db, 1, none⟩ = some (.pointer (some ⟨d true, 0, none⟩)) := hdd.cell 1
      have x0 : wr.drew.cell? ⟨d true, 0, none⟩ = some (.slice (some ⟨kb, 0, none⟩) (M1.s.len true) kc) := hkk
      have hn := (len_pos ok1 true).2
      have HSu := hid fun w1 : World => rsuper_any (w := w1) M1.g (M1.s.len true) hn
      have hSz := supS_size M1.g (M1.s.len true)
      generalize supS M1.g (M1.s.len true) = Sb at *
      generalize M1.s.len true = n at *
      have HWr := hid fun (w1 : World) (FF2 : Bool → List Nat) (h1 : Held w1 (l ++ mirX pbs m db ib d FF2 M1)) => pW true h1 ok1 (by omega) 0 Sb (by rw [hSz]; decide)
      have okA : SysOk (M1.s.wr true 0 Sb) := (wr_stp M1.s true 0 Sb).ok ok1
      have htA : (M1.s.wr true 0 Sb).T ≤ M1.s.T + 2 := (wr_stp M1.s true 0 Sb).T ok1
      have HFl := hid fun (w1 : World) (FF2 : Bool → List Nat) (h1 : Held w1 (l ++ mirX pbs m db ib d FF2 { M1 with s := M1.s.wr true 0 Sb })) => pF true h1 okA (show (M1.s.wr true 0 Sb).T < 1000000 by omega)
      have HLA := hid fun (w1 : World) (FF2 : Bool → List Nat) (h1 : Held w1 (l ++ mirX pbs m db ib d FF2 { M1 with s := M1.s.wr true 0 Sb })) => plose0_true h1 (show M1.c false = false from c1)
      have HLB := hid fun (w1 : World) (FF2 : Bool → List Nat) (h1 : Held w1 (l ++ mirX pbs m db ib d FF2 { M1 with s := (M1.s.wr true 0 Sb).fl true })) => plose0_true h1 (show M1.c false = false from c1)
      obtain ⟨q1, q2, q3⟩ := HW.out
      obtain ⟨e1, he1⟩ : ∃ e1, M1.s.wrC true 0 Sb = e1 := ⟨_, rfl⟩
      obtain ⟨e2, he2⟩ : ∃ e2, (M1.s.wr true 0 Sb).flC true = e2 := ⟨_, rfl⟩
      simp only at HFl
      rw [he1] at q1 q2 q3 HWr
      rw [he2] at q1 q2 HFl
      clear he1 he2 okA htA hib hb0 hb1 hkk hz hn hSz HW c1 c2 c1n E
      by_cases z1 : e1 = 0
      · by_cases z2 : e2 = 0
        · have HQ := hid (q1 z1 z2)
          subst z1 z2
          clear q1 q2 q3 HLA HLB
          go_wp2_with fail
          refine wp_region_D (fun w' => Blk w' m (gmL db ib M1.g) ∧ Blk w' db (dbL d)) false [] (by kernel_rfl) ?_
          refine WD.pure [7, 8, 9, 10, 11, 12, 13, 14, 15, 16, 17, 18, 19, 20, 21] (by kernel_rfl) ⟨hbd, hdd⟩ ?_
          simp only [pick, List.toList_toArray, List.map_cons, List.map_nil, List.getD_cons_succ, List.getD_cons_zero]
          repeat (first | (refine quiet_load_1R (by rfl) _ _ rfl rfl (.slice (some ⟨db, 0, none⟩) 2 2) (fun wq h => by first|exact h.1.cell 0|(rw [h];exact k0)) _ Tryz.underlying76 rfl ?_; simp only [World.size_alloc, World.size_drew, Act.put, List.setIfInBounds_toArray, List.set_cons_succ, List.set_cons_zero]) | (refine quiet_load_1R (by rfl) _ _ rfl rfl (.pointer (some ⟨d true, 0, none⟩)) (fun wq h => by first|exact h.2.cell 1|(rw [h];exact d0)) _ Tryz.underlying26 rfl ?_; simp only [World.size_alloc, World.size_drew, Act.put, List.setIfInBounds_toArray, List.set_cons_succ, List.set_cons_zero]) | go_big_quiet_step (fail))
          refine wpQuiet_nil ?_
          refine WD.free [0, 1, 2, 4] (by kernel_rfl) ⟨hbd, hdd⟩ ?_
          simp only [pick, List.toList_toArray, List.map_cons, List.map_nil, List.getD_cons_succ, List.getD_cons_zero]
          repeat (first | (refine quiet_load_1R (by rfl) _ _ rfl rfl (.slice (some ⟨db, 0, none⟩) 2 2) (fun wq h => by first|exact h.1.cell 0|(rw [h];exact k0)) _ Tryz.underlying76 rfl ?_; simp only [World.size_alloc, World.size_drew, Act.put, List.setIfInBounds_toArray, List.set_cons_succ, List.set_cons_zero]) | (refine quiet_load_1R (by rfl) _ _ rfl rfl (.pointer (some ⟨d true, 0, none⟩)) (fun wq h => by first|exact h.2.cell 1|(rw [h];exact d0)) _ Tryz.underlying26 rfl ?_; simp only [World.size_alloc, World.size_drew, Act.put, List.setIfInBounds_toArray, List.set_cons_succ, List.set_cons_zero]) | go_big_quiet_step (fail))
          refine wpQuiet_nil ?_
          refine WD.held [3] (by kernel_rfl) ⟨hbd, hdd⟩ ?_
          simp only [pick, List.toList_toArray, List.map_cons, List.map_nil, List.getD_cons_succ, List.getD_cons_zero]
          repeat (first | (refine quiet_load_1R (by rfl) _ _ rfl rfl (.slice (some ⟨db, 0, none⟩) 2 2) (fun wq h => by first|exact h.1.cell 0|(rw [h];exact k0)) _ Tryz.underlying76 rfl ?_; simp only [World.size_alloc, World.size_drew, Act.put, List.setIfInBounds_toArray, List.set_cons_succ, List.set_cons_zero]) | (refine quiet_load_1R (by rfl) _ _ rfl rfl (.pointer (some ⟨d true, 0, none⟩)) (fun wq h => by first|exact h.2.cell 1|(rw [h];exact d0)) _ Tryz.underlying26 rfl ?_; simp only [World.size_alloc, World.size_drew, Act.put, List.setIfInBounds_toArray, List.set_cons_succ, List.set_cons_zero]) | go_big_quiet_step (fail))
          refine wpQuiet_nil ?_
          refine WD.free [5] (by kernel_rfl) ⟨hbd, hdd⟩ ?_
          simp only [pick, List.toList_toArray, List.map_cons, List.map_nil, List.getD_cons_succ, List.getD_cons_zero]
          repeat (first | (refine quiet_load_1R (by rfl) _ _ rfl rfl (.slice (some ⟨db, 0, none⟩) 2 2) (fun wq h => by first|exact h.1.cell 0|(rw [h];exact k0)) _ Tryz.underlying76 rfl ?_; simp only [World.size_alloc, World.size_drew, Act.put, List.setIfInBounds_toArray, List.set_cons_succ, List.set_cons_zero]) | (refine quiet_load_1R (by rfl) _ _ rfl rfl (.pointer (some ⟨d true, 0, none⟩)) (fun wq h => by first|exact h.2.cell 1|(rw [h];exact d0)) _ Tryz.underlying26 rfl ?_; simp only [World.size_alloc, World.size_drew, Act.put, List.setIfInBounds_toArray, List.set_cons_succ, List.set_cons_zero]) | go_big_quiet_step (fail))
          refine wpQuiet_nil ?_
          refine WD.held [6] (by kernel_rfl) ⟨hbd, hdd⟩ ?_
          simp only [pick, List.toList_toArray, List.map_cons, List.map_nil, List.getD_cons_succ, List.getD_cons_zero]
          repeat (first | (refine quiet_load_1R (by rfl) _ _ rfl rfl (.slice (some ⟨db, 0, none⟩) 2 2) (fun wq h => by first|exact h.1.cell 0|(rw [h];exact k0)) _ Tryz.underlying76 rfl ?_; simp only [World.size_alloc, World.size_drew, Act.put, List.setIfInBounds_toArray, List.set_cons_succ, List.set_cons_zero]) | (refine quiet_load_1R (by rfl) _ _ rfl rfl (.pointer (some ⟨d true, 0, none⟩)) (fun wq h => by first|exact h.2.cell 1|(rw [h];exact d0)) _ Tryz.underlying26 rfl ?_; simp only [World.size_alloc, World.size_drew, Act.put, List.setIfInBounds_toArray, List.set_cons_succ, List.set_cons_zero]) | go_big_quiet_step (fail))
          refine wpQuiet_nil ?_
          refine WD.eff 22 (by kernel_rfl) ?_
          simp only [pick, List.toList_toArray, List.map_cons, List.map_nil, List.getD_cons_succ, List.getD_cons_zero]
          go_wp2_with (go_at_call 36; refine (HSu.out _).mono ?_; rintro e w5 ⟨rfl, f5⟩; have E5 := hid (Ed.out.step f5); have b5 := xir_blk E5.out.held; have c5 := xir_dbl E5.out.held; clear f5 HSu)
          try refine wpList_nil ?_
          refine AfterD.on ⟨b5, c5⟩ (by kernel_rfl) ?_
          try simp only [World.size_alloc, World.size_drew, Act.put, List.setIfInBounds_toArray, List.set_cons_succ, List.set_cons_zero]
          refine WD.eff 23 (by kernel_rfl) ?_
          simp only [pick, List.toList_toArray, List.map_cons, List.map_nil, List.getD_cons_succ, List.getD_cons_zero]
          go_wp2_with (go_at_call 37; refine (HWr.out _ _ E5.out.held).mono ?_; rintro e w6 ⟨rfl, FF6, v6⟩; have E6 := hid (E5.out.trans v6); have b6 := xir_blk E6.out.held; have c6 := xir_dbl E6.out.held; have y0 : w6.cell? ⟨m, 0, none⟩ = some (.slice (some ⟨db, 0, none⟩) 2 2) := b6.cell 0; have y1 : w6.cell? ⟨db, 1, none⟩ = some (.pointer (some ⟨d true, 0, none⟩)) := c6.cell 1; clear v6 E5 HWr)
          try refine wpList_nil ?_
          refine AfterD.on ⟨b6, c6⟩ (by kernel_rfl) ?_
          try simp only [World.size_alloc, World.size_drew, Act.put, List.setIfInBounds_toArray, List.set_cons_succ, List.set_cons_zero]
          refine WD.pure [24] (by kernel_rfl) ⟨b6, c6⟩ ?_
          simp only [pick, List.toList_toArray, List.map_cons, List.map_nil, List.getD_cons_succ, List.getD_cons_zero]
          repeat (first | (refine quiet_load_1R (by rfl) _ _ rfl rfl (.slice (some ⟨db, 0, none⟩) 2 2) (fun wq h => by first|exact h.1.cell 0|(rw [h];exact k0)) _ Tryz.underlying76 rfl ?_; simp only [World.size_alloc, World.size_drew, Act.put, List.setIfInBounds_toArray, List.set_cons_succ, List.set_cons_zero]) | (refine quiet_load_1R (by rfl) _ _ rfl rfl (.pointer (some ⟨d true, 0, none⟩)) (fun wq h => by first|exact h.2.cell 1|(rw [h];exact d0)) _ Tryz.underlying26 rfl ?_; simp only [World.size_alloc, World.size_drew, Act.put, List.setIfInBounds_toArray, List.set_cons_succ, List.set_cons_zero]) | go_big_quiet_step (fail))
          refine wpQuiet_nil ?_
          refine WD.done (by kernel_rfl) ?_
          go_wp2_with (go_at_call 38; refine (HFl.out _ _ E6.out.held).mono ?_; rintro e w7 ⟨rfl, FF7, v7⟩; have E7 := hid (E6.out.trans v7); clear v7 HFl)
          go_roundw
          case rel => exact ⟨1 + 1, by decide, by first | rfl | go_num, FF7, by rw [if_neg (by decide), HQ.out]; exact E7⟩
          case measure => simp [intOf]
        · have HQ := hid (q2 z1 z2)
          subst z1
          have u1 : (e2 != 0) = true := by simpa using z2
          clear q1 q2 q3 HLA z2
          go_wp2_with fail
          refine wp_region_D (fun w' => Blk w' m (gmL db ib M1.g) ∧ Blk w' db (dbL d)) false [] (by kernel_rfl) ?_
          refine WD.pure [7, 8, 9, 10, 11, 12, 13, 14, 15, 16, 17, 18, 19, 20, 21] (by kernel_rfl) ⟨hbd, hdd⟩ ?_
          simp only [pick, List.toList_toArray, List.map_cons, List.map_nil, List.getD_cons_succ, List.getD_cons_zero]
          repeat (first | (refine quiet_load_1R (by rfl) _ _ rfl rfl (.slice (some ⟨db, 0, none⟩) 2 2) (fun wq h => by first|exact h.1.cell 0|(rw [h];exact k0)) _ Tryz.underlying76 rfl ?_; simp only [World.size_alloc, World.size_drew, Act.put, List.setIfInBounds_toArray, List.set_cons_succ, List.set_cons_zero]) | (refine quiet_load_1R (by rfl) _ _ rfl rfl (.pointer (some ⟨d true, 0, none⟩)) (fun wq h => by first|exact h.2.cell 1|(rw [h];exact d0)) _ Tryz.underlying26 rfl ?_; simp only [World.size_alloc, World.size_drew, Act.put, List.setIfInBounds_toArray, List.set_cons_succ, List.set_cons_zero]) | go_big_quiet_step (fail))
          refine wpQuiet_nil ?_
          refine WD.free [0, 1, 2, 4] (by kernel_rfl) ⟨hbd, hdd⟩ ?_
          simp only [pick, List.toList_toArray, List.map_cons, List.map_nil, List.getD_cons_succ, List.getD_cons_zero]
          repeat (first | (refine quiet_load_1R (by rfl) _ _ rfl rfl (.slice (some ⟨db, 0, none⟩) 2 2) (fun wq h => by first|exact h.1.cell 0|(rw [h];exact k0)) _ Tryz.underlying76 rfl ?_; simp only [World.size_alloc, World.size_drew, Act.put, List.setIfInBounds_toArray, List.set_cons_succ, List.set_cons_zero]) | (refine quiet_load_1R (by rfl) _ _ rfl rfl (.pointer (some ⟨d true, 0, none⟩)) (fun wq h => by first|exact h.2.cell 1|(rw [h];exact d0)) _ Tryz.underlying26 rfl ?_; simp only [World.size_alloc, World.size_drew, Act.put, List.setIfInBounds_toArray, List.set_cons_succ, List.set_cons_zero]) | go_big_quiet_step (fail))
          refine wpQuiet_nil ?_
          refine WD.held [3] (by kernel_rfl) ⟨hbd, hdd⟩ ?_
          simp only [pick, List.toList_toArray, List.map_cons, List.map_nil, List.getD_cons_succ, List.getD_cons_zero]
          repeat (first | (refine quiet_load_1R (by rfl) _ _ rfl rfl (.slice (some ⟨db, 0, none⟩) 2 2) (fun wq h => by first|exact h.1.cell 0|(rw [h];exact k0)) _ Tryz.underlying76 rfl ?_; simp only [World.size_alloc, World.size_drew, Act.put, List.setIfInBounds_toArray, List.set_cons_succ, List.set_cons_zero]) | (refine quiet_load_1R (by rfl) _ _ rfl rfl (.pointer (some ⟨d true, 0, none⟩)) (fun wq h => by first|exact h.2.cell 1|(rw [h];exact d0)) _ Tryz.underlying26 rfl ?_; simp only [World.size_alloc, World.size_drew, Act.put, List.setIfInBounds_toArray, List.set_cons_succ, List.set_cons_zero]) | go_big_quiet_step (fail))
          refine wpQuiet_nil ?_
          refine WD.free [5] (by kernel_rfl) ⟨hbd, hdd⟩ ?_
          simp only [pick, List.toList_toArray, List.map_cons, List.map_nil, List.getD_cons_succ, List.getD_cons_zero]
          repeat (first | (refine quiet_load_1R (by rfl) _ _ rfl rfl (.slice (some ⟨db, 0, none⟩) 2 2) (fun wq h => by first|exact h.1.cell 0|(rw [h];exact k0)) _ Tryz.underlying76 rfl ?_; simp only [World.size_alloc, World.size_drew, Act.put, List.setIfInBounds_toArray, List.set_cons_succ, List.set_cons_zero]) | (refine quiet_load_1R (by rfl) _ _ rfl rfl (.pointer (some ⟨d true, 0, none⟩)) (fun wq h => by first|exact h.2.cell 1|(rw [h];exact d0)) _ Tryz.underlying26 rfl ?_; simp only [World.size_alloc, World.size_drew, Act.put, List.setIfInBounds_toArray, List.set_cons_succ, List.set_cons_zero]) | go_big_quiet_step (fail))
          refine wpQuiet_nil ?_
          refine WD.held [6] (by kernel_rfl) ⟨hbd, hdd⟩ ?_
          simp only [pick, List.toList_toArray, List.map_cons, List.map_nil, List.getD_cons_succ, List.getD_cons_zero]
          repeat (first | (refine quiet_load_1R (by rfl) _ _ rfl rfl (.slice (some ⟨db, 0, none⟩) 2 2) (fun wq h => by first|exact h.1.cell 0|(rw [h];exact k0)) _ Tryz.underlying76 rfl ?_; simp only [World.size_alloc, World.size_drew, Act.put, List.setIfInBounds_toArray, List.set_cons_succ, List.set_cons_zero]) | (refine quiet_load_1R (by rfl) _ _ rfl rfl (.pointer (some ⟨d true, 0, none⟩)) (fun wq h => by first|exact h.2.cell 1|(rw [h];exact d0)) _ Tryz.underlying26 rfl ?_; simp only [World.size_alloc, World.size_drew, Act.put, List.setIfInBounds_toArray, List.set_cons_succ, List.set_cons_zero]) | go_big_quiet_step (fail))
          refine wpQuiet_nil ?_
          refine WD.eff 22 (by kernel_rfl) ?_
          simp only [pick, List.toList_toArray, List.map_cons, List.map_nil, List.getD_cons_succ, List.getD_cons_zero]
          go_wp2_with (go_at_call 36; refine (HSu.out _).mono ?_; rintro e w5 ⟨rfl, f5⟩; have E5 := hid (Ed.out.step f5); have b5 := xir_blk E5.out.held; have c5 := xir_dbl E5.out.held; clear f5 HSu)
          try refine wpList_nil ?_
          refine AfterD.on ⟨b5, c5⟩ (by kernel_rfl) ?_
          try simp only [World.size_alloc, World.size_drew, Act.put, List.setIfInBounds_toArray, List.set_cons_succ, List.set_cons_zero]
          refine WD.eff 23 (by kernel_rfl) ?_
          simp only [pick, List.toList_toArray, List.map_cons, List.map_nil, List.getD_cons_succ, List.getD_cons_zero]
          go_wp2_with (go_at_call 37; refine (HWr.out _ _ E5.out.held).mono ?_; rintro e w6 ⟨rfl, FF6, v6⟩; have E6 := hid (E5.out.trans v6); have b6 := xir_blk E6.out.held; have c6 := xir_dbl E6.out.held; have y0 : w6.cell? ⟨m, 0, none⟩ = some (.slice (some ⟨db, 0, none⟩) 2 2) := b6.cell 0; have y1 : w6.cell? ⟨db, 1, none⟩ = some (.pointer (some ⟨d true, 0, none⟩)) := c6.cell 1; clear v6 E5 HWr)
          try refine wpList_nil ?_
          refine AfterD.on ⟨b6, c6⟩ (by kernel_rfl) ?_
          try simp only [World.size_alloc, World.size_drew, Act.put, List.setIfInBounds_toArray, List.set_cons_succ, List.set_cons_zero]
          refine WD.pure [24] (by kernel_rfl) ⟨b6, c6⟩ ?_
          simp only [pick, List.toList_toArray, List.map_cons, List.map_nil, List.getD_cons_succ, List.getD_cons_zero]
          repeat (first | (refine quiet_load_1R (by rfl) _ _ rfl rfl (.slice (some ⟨db, 0, none⟩) 2 2) (fun wq h => by first|exact h.1.cell 0|(rw [h];exact k0)) _ Tryz.underlying76 rfl ?_; simp only [World.size_alloc, World.size_drew, Act.put, List.setIfInBounds_toArray, List.set_cons_succ, List.set_cons_zero]) | (refine quiet_load_1R (by rfl) _ _ rfl rfl (.pointer (some ⟨d true, 0, none⟩)) (fun wq h => by first|exact h.2.cell 1|(rw [h];exact d0)) _ Tryz.underlying26 rfl ?_; simp only [World.size_alloc, World.size_drew, Act.put, List.setIfInBounds_toArray, List.set_cons_succ, List.set_cons_zero]) | go_big_quiet_step (fail))
          refine wpQuiet_nil ?_
          refine WD.done (by kernel_rfl) ?_
          go_wp2_with (first
            | (go_at_call 38; refine (HFl.out _ _ E6.out.held).mono ?_; rintro e w7 ⟨rfl, FF7, v7⟩; have E7 := hid (E6.out.trans v7); clear v7 HFl)
            | (go_at_call 83; refine (HLB.out _ _ E7.out.held).mono ?_; rintro e w8 ⟨rfl, v8⟩; have E8 := hid (E7.out.trans v8); clear v8 HLB))
          go_roundw
          case rel => exact ⟨1 + 1, by decide, by first | rfl | go_num, FF7, by rw [if_neg (by decide), HQ.out]; exact E8⟩
          case measure => simp [intOf]
      · have HQ := hid (q3 z1)
        have u1 : (e1 != 0) = true := by simpa using z1
        have u2 : (e1 == 0) = false := by simpa using z1
        clear q1 q2 q3 HLB HFl z1
        go_wp2_with fail
        refine wp_region_D (fun w' => Blk w' m (gmL db ib M1.g) ∧ Blk w' db (dbL d)) false [] (by kernel_rfl) ?_
        refine WD.pure [7, 8, 9, 10, 11, 12, 13, 14, 15, 16, 17, 18, 19, 20, 21] (by kernel_rfl) ⟨hbd, hdd⟩ ?_
        simp only [pick, List.toList_toArray, List.map_cons, List.map_nil, List.getD_cons_succ, List.getD_cons_zero]
        repeat (first | (refine quiet_load_1R (by rfl) _ _ rfl rfl (.slice (some ⟨db, 0, none⟩) 2 2) (fun wq h => by first|exact h.1.cell 0|(rw [h];exact k0)) _ Tryz.underlying76 rfl ?_; simp only [World.size_alloc, World.size_drew, Act.put, List.setIfInBounds_toArray, List.set_cons_succ, List.set_cons_zero]) | (refine quiet_load_1R (by rfl) _ _ rfl rfl (.pointer (some ⟨d true, 0, none⟩)) (fun wq h => by first|exact h.2.cell 1|(rw [h];exact d0)) _ Tryz.underlying26 rfl ?_; simp only [World.size_alloc, World.size_drew, Act.put, List.setIfInBounds_toArray, List.set_cons_succ, List.set_cons_zero]) | go_big_quiet_step (fail))
        refine wpQuiet_nil ?_
        refine WD.free [0, 1, 2, 4] (by kernel_rfl) ⟨hbd, hdd⟩ ?_
        simp only [pick, List.toList_toArray, List.map_cons, List.map_nil, List.getD_cons_succ, List.getD_cons_zero]
        repeat (first | (refine quiet_load_1R (by rfl) _ _ rfl rfl (.slice (some ⟨db, 0, none⟩) 2 2) (fun wq h => by first|exact h.1.cell 0|(rw [h];exact k0)) _ Tryz.underlying76 rfl ?_; simp only [World.size_alloc, World.size_drew, Act.put, List.setIfInBounds_toArray, List.set_cons_succ, List.set_cons_zero]) | (refine quiet_load_1R (by rfl) _ _ rfl rfl (.pointer (some ⟨d true, 0, none⟩)) (fun wq h => by first|exact h.2.cell 1|(rw [h];exact d0)) _ Tryz.underlying26 rfl ?_; simp only [World.size_alloc, World.size_drew, Act.put, List.setIfInBounds_toArray, List.set_cons_succ, List.set_cons_zero]) | go_big_quiet_step (fail))
        refine wpQuiet_nil ?_
        refine WD.held [3] (by kernel_rfl) ⟨hbd, hdd⟩ ?_
        simp only [pick, List.toList_toArray, List.map_cons, List.map_nil, List.getD_cons_succ, List.getD_cons_zero]
        repeat (first | (refine quiet_load_1R (by rfl) _ _ rfl rfl (.slice (some ⟨db, 0, none⟩) 2 2) (fun wq h => by first|exact h.1.cell 0|(rw [h];exact k0)) _ Tryz.underlying76 rfl ?_; simp only [World.size_alloc, World.size_drew, Act.put, List.setIfInBounds_toArray, List.set_cons_succ, List.set_cons_zero]) | (refine quiet_load_1R (by rfl) _ _ rfl rfl (.pointer (some ⟨d true, 0, none⟩)) (fun wq h => by first|exact h.2.cell 1|(rw [h];exact d0)) _ Tryz.underlying26 rfl ?_; simp only [World.size_alloc, World.size_drew, Act.put, List.setIfInBounds_toArray, List.set_cons_succ, List.set_cons_zero]) | go_big_quiet_step (fail))
        refine wpQuiet_nil ?_
        refine WD.free [5] (by kernel_rfl) ⟨hbd, hdd⟩ ?_
        simp only [pick, List.toList_toArray, List.map_cons, List.map_nil, List.getD_cons_succ, List.getD_cons_zero]
        repeat (first | (refine quiet_load_1R (by rfl) _ _ rfl rfl (.slice (some ⟨db, 0, none⟩) 2 2) (fun wq h => by first|exact h.1.cell 0|(rw [h];exact k0)) _ Tryz.underlying76 rfl ?_; simp only [World.size_alloc, World.size_drew, Act.put, List.setIfInBounds_toArray, List.set_cons_succ, List.set_cons_zero]) | (refine quiet_load_1R (by rfl) _ _ rfl rfl (.pointer (some ⟨d true, 0, none⟩)) (fun wq h => by first|exact h.2.cell 1|(rw [h];exact d0)) _ Tryz.underlying26 rfl ?_; simp only [World.size_alloc, World.size_drew, Act.put, List.setIfInBounds_toArray, List.set_cons_succ, List.set_cons_zero]) | go_big_quiet_step (fail))
        refine wpQuiet_nil ?_
        refine WD.held [6] (by kernel_rfl) ⟨hbd, hdd⟩ ?_
        simp only [pick, List.toList_toArray, List.map_cons, List.map_nil, List.getD_cons_succ, List.getD_cons_zero]
        repeat (first | (refine quiet_load_1R (by rfl) _ _ rfl rfl (.slice (some ⟨db, 0, none⟩) 2 2) (fun wq h => by first|exact h.1.cell 0|(rw [h];exact k0)) _ Tryz.underlying76 rfl ?_; simp only [World.size_alloc, World.size_drew, Act.put, List.setIfInBounds_toArray, List.set_cons_succ, List.set_cons_zero]) | (refine quiet_load_1R (by rfl) _ _ rfl rfl (.pointer (some ⟨d true, 0, none⟩)) (fun wq h => by first|exact h.2.cell 1|(rw [h];exact d0)) _ Tryz.underlying26 rfl ?_; simp only [World.size_alloc, World.size_drew, Act.put, List.setIfInBounds_toArray, List.set_cons_succ, List.set_cons_zero]) | go_big_quiet_step (fail))
        refine wpQuiet_nil ?_
        refine WD.eff 22 (by kernel_rfl) ?_
        simp only [pick, List.toList_toArray, List.map_cons, List.map_nil, List.getD_cons_succ, List.getD_cons_zero]
        go_wp2_with (go_at_call 36; refine (HSu.out _).mono ?_; rintro e w5 ⟨rfl, f5⟩; have E5 := hid (Ed.out.step f5); have b5 := xir_blk E5.out.held; have c5 := xir_dbl E5.out.held; clear f5 HSu)
        try refine wpList_nil ?_
        refine AfterD.on ⟨b5, c5⟩ (by kernel_rfl) ?_
        try simp only [World.size_alloc, World.size_drew, Act.put, List.setIfInBounds_toArray, List.set_cons_succ, List.set_cons_zero]
        refine WD.eff 23 (by kernel_rfl) ?_
        simp only [pick, List.toList_toArray, List.map_cons, List.map_nil, List.getD_cons_succ, List.getD_cons_zero]
        go_wp2_with (go_at_call 37; refine (HWr.out _ _ E5.out.held).mono ?_; rintro e w6 ⟨rfl, FF6, v6⟩; have E6 := hid (E5.out.trans v6); have b6 := xir_blk E6.out.held; have c6 := xir_dbl E6.out.held; have y0 : w6.cell? ⟨m, 0, none⟩ = some (.slice (some ⟨db, 0, none⟩) 2 2) := b6.cell 0; have y1 : w6.cell? ⟨db, 1, none⟩ = some (.pointer (some ⟨d true, 0, none⟩)) := c6.cell 1; clear v6 E5 HWr)
        try refine wpList_nil ?_
        refine AfterD.on ⟨b6, c6⟩ (by kernel_rfl) ?_
        try simp only [World.size_alloc, World.size_drew, Act.put, List.setIfInBounds_toArray, List.set_cons_succ, List.set_cons_zero]
        refine WD.pure [24] (by kernel_rfl) ⟨b6, c6⟩ ?_
        simp only [pick, List.toList_toArray, List.map_cons, List.map_nil, List.getD_cons_succ, List.getD_cons_zero]
        repeat (first | (refine quiet_load_1R (by rfl) _ _ rfl rfl (.slice (some ⟨db, 0, none⟩) 2 2) (fun wq h => by first|exact h.1.cell 0|(rw [h];exact k0)) _ Tryz.underlying76 rfl ?_; simp only [World.size_alloc, World.size_drew, Act.put, List.setIfInBounds_toArray, List.set_cons_succ, List.set_cons_zero]) | (refine quiet_load_1R (by rfl) _ _ rfl rfl (.pointer (some ⟨d true, 0, none⟩)) (fun wq h => by first|exact h.2.cell 1|(rw [h];exact d0)) _ Tryz.underlying26 rfl ?_; simp only [World.size_alloc, World.size_drew, Act.put, List.setIfInBounds_toArray, List.set_cons_succ, List.set_cons_zero]) | go_big_quiet_step (fail))
        refine wpQuiet_nil ?_
        refine WD.done (by kernel_rfl) ?_
        go_wp2_with (go_at_call 83; refine (HLA.out _ _ E6.out.held).mono ?_; rintro e w8 ⟨rfl, v8⟩; have E8 := hid (E6.out.trans v8); clear v8 HLA)
        go_roundw
        case rel => exact ⟨1 + 1, by decide, by first | rfl | go_num, FF6, by rw [if_neg (by decide), HQ.out]; exact E8⟩
        case measure => simp [intOf]
    · have cx : MS.c (if 0 ≤ 1 then M1 else M2) false = false := by first | exact c1 | exact c2
      obtain ⟨b0, b1, hib, hb0, hb1⟩ := xir_is E.out.held
      have hz : (b0 != 0) = true := by
        have : decide (b0 = 0) = false := hb0.symm.trans cx
        simpa using this
      have i1 : wr.cell? ⟨m, 1, none⟩ = some (.slice (some ⟨ib, 0, none⟩) 2 2) := (xir_blk E.out.held).cell 1
      have i2 : wr.cell? ⟨ib, 0, none⟩ = some (.int .i64 b0) := hib.cell 0
      clear hib hb0 hb1 cx
      go_wp2_with fail
      go_roundw
      case rel => exact ⟨0 + 1, by decide, by first | rfl | go_num, FF1, by first | exact E | simpa using E⟩
      case measure => simp [intOf]
    · rw [if_neg (by decide)] at E
      go_wp2_with fail
      go_end0
      exact ⟨rfl, FF1, E.out⟩
set_option maxRecDepth 20000 in
set_option maxHeartbeats 4000000 in
theorem plose_true (h : Held w (l ++ mirX pbs m db ib d FF M)) (ok : SysOk M.s) (ht : M.s.T < 999990) :
    Calls Tryz.prog 83 #[.pointer (some ⟨m, 0, none⟩), .int .i64 1] w fun e w' => e = .returned (.tuple #[]) ∧ ∃ FF', Ev w (l ++ mirX pbs m db ib d FF M) w' (l ++ mirX pbs m db ib d FF' (M.lose true)) := by
  cases hc : M.c false with
  | false =>
    have e : M.lose true = M.off true := lose0 (b := true) hc
    rw [e]
    refine (plose0_true h hc).mono ?_
    rintro e w' ⟨rfl, ev⟩
    exact ⟨rfl, FF, ev⟩
  | true =>
  obtain ⟨a0, a1, hi, h0, h1⟩ := xir_is h
  have k1 : w.cell? ⟨m, 1, none⟩ = some (.slice (some ⟨ib, 0, none⟩) 2 2) := (xir_blk h).cell 1
  have hany : (M.off true).any = true := by
    unfold MS.any MS.off
    have hc2 := hc
    unfold MS.c at hc2
    simp at hc2 ⊢
    exact hc2
  have HE := hid fun (w1 : World) (f : Fr [ib] w w1) (hb : Blk w1 ib [.int .i64 a0, .int .i64 2]) => xir_put (M' := M.off true) (Ev.refl h) f hb rfl rfl (by first | exact h0 | rfl) (by first | exact h1 | rfl)
  have HL := hid fun (w1 : World) (h1 : Held w1 (l ++ mirX pbs m db ib d FF (M.off true))) => plost_any h1
  rw [hany] at HL
  obtain ⟨M1, hM1⟩ : ∃ M1 : MS, M1 = { M.off true with g := M.g + 1 } := ⟨_, rfl⟩
  obtain ⟨M2, hM2⟩ : ∃ M2 : MS, M.lose true = M2 := ⟨_, rfl⟩
  have HW0 := lose_work (b := true) (S := supS M1.g (M1.s.len false)) hc hM1 rfl
  simp only [Bool.not_false, Bool.not_true] at HW0
  have HW := hid HW0
  clear HW0
  rw [hM2] at HW ⊢
  have c1 : M1.c true = false := by rw [hM1]; rfl
  have c2 : M2.c true = false := by rw [← hM2]; exact lose_c M true
  have c1n : M1.c false = true := by rw [hM1]; exact (off_c M true false).trans hc
  have HM := hid fun (w1 w2 : World) (e : Ev w (l ++ mirX pbs m db ib d FF M) w1 (l ++ mirX pbs m db ib d FF (M.off true))) (f : Fr [m] w1 w2) (hb : Blk w2 m (gmL db ib (M.g + 1))) => (show Ev w (l ++ mirX pbs m db ib d FF M) w2 (l ++ mirX pbs m db ib d FF M1) from by rw [hM1]; exact xir_gen e f hb)
  have ok1 : SysOk M1.s := by rw [hM1]; exact ok
  have ht1 : M1.s.T < 999990 := by rw [hM1]; exact ht
  have hadd : ∀ t, binOp .add t (W64 M.g) (.int .u64 1) = pure (W64 (M.g + 1)) := fun t => add_u64 t M.g 1
  clear h0 h1 hany hM1 hM2 hc ok ht h
  go_enter Tryz.func83, Tryz.ntmps83
  go_wp2_with (first
    | (refine wpList_put rfl _ _ _ rfl rfl (.int .i64 2) rfl rfl hi (by simp) (by kernel_rfl) ?_; intro w1 f1 b1 hs1; have E1 := hid (HE.out w1 f1 b1); clear f1 b1 hs1 HE; simp only [World.size_alloc, World.size_drew, Act.put, List.setIfInBounds_toArray, List.set_cons_succ, List.set_cons_zero])
    | (go_at_call 82; refine (HL.out _ E1.out.held).mono ?_; rintro e w2 ⟨rfl, e2⟩; have e2' := hid e2; rw [e2'.out]; clear e2 HL; have bm := xir_blk E1.out.held; have g2 : w1.cell? ⟨m, 2, none⟩ = some (W64 M.g) := bm.cell 2)
    | (refine wpList_put rfl _ _ _ rfl rfl (W64 (M.g + 1)) rfl rfl bm (by simp [gmL]) (by kernel_rfl) ?_; intro w3 f3 b3 hs3; have E3 := hid (HM.out _ _ E1.out f3 b3); clear f3 b3 bm hs3 HM E1; simp only [World.size_alloc, World.size_drew, Act.put, List.setIfInBounds_toArray, List.set_cons_succ, List.set_cons_zero]))
  go_loopw [4] (fun kv wr => ∃ q : Nat, q ≤ 2 ∧ kv = .int .i64 (q : Int) ∧ ∃ FF', Hid (Ev w (l ++ mirX pbs m db ib d FF M) wr (l ++ mirX pbs m db ib d FF' (if q ≤ 0 then M1 else M2)))) (fun kv _ => 2 - (intOf kv).toNat)
  case atStart => exact ⟨0, by decide, rfl, FF, by rw [if_pos (by decide)]; exact E3⟩
  case round =>
    obtain ⟨q, hq, rfl, FF1, E⟩ := hrel
    clear E3
    have hq3 : q = 0 ∨ q = 1 ∨ q = 2 := by omega
    rcases hq3 with rfl | rfl | rfl
    · rw [show ((0 : Nat) : Int) = 0 from rfl]
      rw [if_pos (by decide)] at E
      obtain ⟨b0, b1, hib, hb0, hb1⟩ := xir_is E.out.held
      obtain ⟨kb, kc, hkk, _⟩ := psee false E.out.held ok1
      have hz : b0 = 0 := by
        have : decide (b0 = 0) = true := hb0.symm.trans c1n
        simpa using this
      have i1 : wr.cell? ⟨m, 1, none⟩ = some (.slice (some ⟨ib, 0, none⟩) 2 2) := (xir_blk E.out.held).cell 1
      have i2 : wr.cell? ⟨ib, 0, none⟩ = some (.int .i64 0) := by rw [← hz]; exact hib.cell 0
      have Ed := hid (E.out.step (Fr.refl [] wr).drew)
      have hbd := xir_blk Ed.out.held
      have hdd := xir_dbl Ed.out.held
      have k0 : wr.drew.cell? ⟨m, 0, none⟩ = some (.slice (some ⟨db, 0, none⟩) 2 2) := hbd.cell 0
      have k2 : wr.drew.cell? ⟨m, 2, none⟩ = some (W64 M1.g) := hbd.cell 2
      have d0 : wr.drew.cell? ⟨db, 0, none⟩ = some (.pointer (some ⟨d false, 0, none⟩)) := hdd.cell 0
      have x0 : wr.drew.cell? ⟨d false, 0, none⟩ = some (.slice (some ⟨kb, 0, none⟩) (M1.s.len false) kc) := hkk
      have hn := (len_pos ok1 false).2
      have HSu := hid fun w1 : World => rsuper_any (w := w1) M1.g (M1.s.len false) hn
      have hSz := supS_size M1.g (M1.s.len false)
      generalize supS M1.g (M1.s.len false) = Sb at *
      generalize M1.s.len false = n at *
      have HWr := hid fun (w1 : World) (FF2 : Bool → List Nat) (h1 : Held w1 (l ++ mirX pbs m db ib d FF2 M1)) => pW false h1 ok1 (by omega) 0 Sb (by rw [hSz]; decide)
      have okA : SysOk (M1.s.wr false 0 Sb) := (wr_stp M1.s false 0 Sb).ok ok1
      have htA : (M1.s.wr false 0 Sb).T ≤ M1.s.T + 2 := (wr_stp M1.s false 0 Sb).T ok1
      have HFl := hid fun (w1 : World) (FF2 : Bool → List Nat) (h1 : Held w1 (l ++ mirX pbs m db ib d FF2 { M1 with s := M1.s.wr false 0 Sb })) => pF false h1 okA (show (M1.s.wr false 0 Sb).T < 1000000 by omega)
      have HLA := hid fun (w1 : World) (FF2 : Bool → List Nat) (h1 : Held w1 (l ++ mirX pbs m db ib d FF2 { M1 with s := M1.s.wr false 0 Sb })) => plose0_false h1 (show M1.c true = false from c1)
      have HLB := hid fun (w1 : World) (FF2 : Bool → List Nat) (h1 : Held w1 (l ++ mirX pbs m db ib d FF2 { M1 with s := (M1.s.wr false 0 Sb).fl false })) => plose0_false h1 (show M1.c true = false from c1)
      obtain ⟨q1, q2, q3⟩ := HW.out
      obtain ⟨e1, he1⟩ : ∃ e1, M1.s.wrC false 0 Sb = e1 := ⟨_, rfl⟩
      obtain ⟨e2, he2⟩ : ∃ e2, (M1.s.wr false 0 Sb).flC false = e2 := ⟨_, rfl⟩
      simp only at HFl
      rw [he1] at q1 q2 q3 HWr
      rw [he2] at q1 q2 HFl
      clear he1 he2 okA htA hib hb0 hb1 hkk hz hn hSz HW c1 c2 c1n E
      by_cases z1 : e1 = 0
      · by_cases z2 : e2 = 0
        · have HQ := hid (q1 z1 z2)
          subst z1 z2
          clear q1 q2 q3 HLA HLB
          go_wp2_with fail
          refine wp_region_D (fun w' => Blk w' m (gmL db ib M1.g) ∧ Blk w' db (dbL d)) false [] (by kernel_rfl) ?_
          refine WD.pure [7, 8, 9, 10, 11, 12, 13, 14, 15, 16, 17, 18, 19, 20, 21] (by kernel_rfl) ⟨hbd, hdd⟩ ?_
          simp only [pick, List.toList_toArray, List.map_cons, List.map_nil, List.getD_cons_succ, List.getD_cons_zero]
          repeat (first | (refine quiet_load_1R (by rfl) _ _ rfl rfl (.slice (some ⟨db, 0, none⟩) 2 2) (fun wq h => by first|exact h.1.cell 0|(rw [h];exact k0)) _ Tryz.underlying76 rfl ?_; simp only [World.size_alloc, World.size_drew, Act.put, List.setIfInBounds_toArray, List.set_cons_succ, List.set_cons_zero]) | (refine quiet_load_1R (by rfl) _ _ rfl rfl (.pointer (some ⟨d false, 0, none⟩)) (fun wq h => by first|exact h.2.cell 0|(rw [h];exact d0)) _ Tryz.underlying26 rfl ?_; simp only [World.size_alloc, World.size_drew, Act.put, List.setIfInBounds_toArray, List.set_cons_succ, List.set_cons_zero]) | go_big_quiet_step (fail))
          refine wpQuiet_nil ?_
          refine WD.free [0, 1, 2, 4] (by kernel_rfl) ⟨hbd, hdd⟩ ?_
          simp only [pick, List.toList_toArray, List.map_cons, List.map_nil, List.getD_cons_succ, List.getD_cons_zero]
          repeat (first | (refine quiet_load_1R (by rfl) _ _ rfl rfl (.slice (some ⟨db, 0, none⟩) 2 2) (fun wq h => by first|exact h.1.cell 0|(rw [h];exact k0)) _ Tryz.underlying76 rfl ?_; simp only [World.size_alloc, World.size_drew, Act.put, List.setIfInBounds_toArray, List.set_cons_succ, List.set_cons_zero]) | (refine quiet_load_1R (by rfl) _ _ rfl rfl (.pointer (some ⟨d false, 0, none⟩)) (fun wq h => by first|exact h.2.cell 0|(rw [h];exact d0)) _ Tryz.underlying26 rfl ?_; simp only [World.size_alloc, World.size_drew, Act.put, List.setIfInBounds_toArray, List.set_cons_succ, List.set_cons_zero]) | go_big_quiet_step (fail))
          refine wpQuiet_nil ?_
          refine WD.held [3] (by kernel_rfl) ⟨hbd, hdd⟩ ?_
          simp only [pick, List.toList_toArray, List.map_cons, List.map_nil, List.getD_cons_succ, List.getD_cons_zero]
          repeat (first | (refine quiet_load_1R (by rfl) _ _ rfl rfl (.slice (some ⟨db, 0, none⟩) 2 2) (fun wq h => by first|exact h.1.cell 0|(rw [h];exact k0)) _ Tryz.underlying76 rfl ?_; simp only [World.size_alloc, World.size_drew, Act.put, List.setIfInBounds_toArray, List.set_cons_succ, List.set_cons_zero]) | (refine quiet_load_1R (by rfl) _ _ rfl rfl (.pointer (some ⟨d false, 0, none⟩)) (fun wq h => by first|exact h.2.cell 0|(rw [h];exact d0)) _ Tryz.underlying26 rfl ?_; simp only [World.size_alloc, World.size_drew, Act.put, List.setIfInBounds_toArray, List.set_cons_succ, List.set_cons_zero]) | go_big_quiet_step (fail))
          refine wpQuiet_nil ?_
          refine WD.free [5] (by kernel_rfl) ⟨hbd, hdd⟩ ?_
          simp only [pick, List.toList_toArray, List.map_cons, List.map_nil, List.getD_cons_succ, List.getD_cons_zero]
          repeat (first | (refine quiet_load_1R (by rfl) _ _ rfl rfl (.slice (some ⟨db, 0, none⟩) 2 2) (fun wq h => by first|exact h.1.cell 0|(rw [h];exact k0)) _ Tryz.underlying76 rfl ?_; simp only [World.size_alloc, World.size_drew, Act.put, List.setIfInBounds_toArray, List.set_cons_succ, List.set_cons_zero]) | (refine quiet_load_1R (by rfl) _ _ rfl rfl (.pointer (some ⟨d false, 0, none⟩)) (fun wq h => by first|exact h.2.cell 0|(rw [h];exact d0)) _ Tryz.underlying26 rfl ?_; simp only [World.size_alloc, World.size_drew, Act.put, List.setIfInBounds_toArray, List.set_cons_succ, List.set_cons_zero]) | go_big_quiet_step (fail))
          refine wpQuiet_nil ?_
          refine WD.held [6] (by kernel_rfl) ⟨hbd, hdd⟩ ?_
          simp only [pick, List.toList_toArray, List.map_cons, List.map_nil, List.getD_cons_succ, List.getD_cons_zero]
          repeat (first | (refine quiet_load_1R (by rfl) _ _ rfl rfl (.slice (some ⟨db, 0, none⟩) 2 2) (fun wq h => by first|exact h.1.cell 0|(rw [h];exact k0)) _ Tryz.underlying76 rfl ?_; simp only [World.size_alloc, World.size_drew, Act.put, List.setIfInBounds_toArray, List.set_cons_succ, List.set_cons_zero]) | (refine quiet_load_1R (by rfl) _ _ rfl rfl (.pointer (some ⟨d false, 0, none⟩)) (fun wq h => by first|exact h.2.cell 0|(rw [h];exact d0)) _ Tryz.underlying26 rfl ?_; simp only [World.size_alloc, World.size_drew, Act.put, List.setIfInBounds_toArray, List.set_cons_succ, List.set_cons_zero]) | go_big_quiet_step (fail))
          refine wpQuiet_nil ?_
          refine WD.eff 22 (by kernel_rfl) ?_
          simp only [pick, List.toList_toArray, List.map_cons, List.map_nil, List.getD_cons_succ, List.getD_cons_zero]
          go_wp2_with (go_at_call 36; refine (HSu.out _).mono ?_; rintro e w5 ⟨rfl, f5⟩; have E5 := hid (Ed.out.step f5); have b5 := xir_blk E5.out.held; have c5 := xir_dbl E5.out.held; clear f5 HSu)
          try refine wpList_nil ?_
          refine AfterD.on ⟨b5, c5⟩ (by kernel_rfl) ?_
          try simp only [World.size_alloc, World.size_drew, Act.put, List.setIfInBounds_toArray, List.set_cons_succ, List.set_cons_zero]
          refine WD.eff 23 (by kernel_rfl) ?_
          simp only [pick, List.toList_toArray, List.map_cons, List.map_nil, List.getD_cons_succ, List.getD_cons_zero]
          go_wp2_with (go_at_call 37; refine (HWr.out _ _ E5.out.held).mono ?_; rintro e w6 ⟨rfl, FF6, v6⟩; have E6 := hid (E5.out.trans v6); have b6 := xir_blk E6.out.held; have c6 := xir_dbl E6.out.held; have y0 : w6.cell? ⟨m, 0, none⟩ = some (.slice (some ⟨db, 0, none⟩) 2 2) := b6.cell 0; have y1 : w6.cell? ⟨db, 0, none⟩ = some (.pointer (some ⟨d false, 0, none⟩)) := c6.cell 0; clear v6 E5 HWr)
          try refine wpList_nil ?_
          refine AfterD.on ⟨b6, c6⟩ (by kernel_rfl) ?_
          try simp only [World.size_alloc, World.size_drew, Act.put, List.setIfInBounds_toArray, List.set_cons_succ, List.set_cons_zero]
          refine WD.pure [24] (by kernel_rfl) ⟨b6, c6⟩ ?_
          simp only [pick, List.toList_toArray, List.map_cons, List.map_nil, List.getD_cons_succ, List.getD_cons_zero]
          repeat (first | (refine quiet_load_1R (by rfl) _ _ rfl rfl (.slice (some ⟨db, 0, none⟩) 2 2) (fun wq h => by first|exact h.1.cell 0|(rw [h];exact k0)) _ Tryz.underlying76 rfl ?_; simp only [World.size_alloc, World.size_drew, Act.put, List.setIfInBounds_toArray, List.set_cons_succ, List.set_cons_zero]) | (refine quiet_load_1R (by rfl) _ _ rfl rfl (.pointer (some ⟨d false, 0, none⟩)) (fun wq h => by first|exact h.2.cell 0|(rw [h];exact d0)) _ Tryz.underlying26 rfl ?_; simp only [World.size_alloc, World.size_drew, Act.put, List.setIfInBounds_toArray, List.set_cons_succ, List.set_cons_zero]) | go_big_quiet_step (fail))
          refine wpQuiet_nil ?_
          refine WD.done (by kernel_rfl) ?_
          go_wp2_with (go_at_call 38; refine (HFl.out _ _ E6.out.held).mono ?_; rintro e w7 ⟨rfl, FF7, v7⟩; have E7 := hid (E6.out.trans v7); clear v7 HFl)
          go_roundw
          case rel => exact ⟨0 + 1, by decide, by first | rfl | go_num, FF7, by rw [if_neg (by decide), HQ.out]; exact E7⟩
          case measure => simp [intOf]
        · have HQ := hid (q2 z1 z2)
          subst z1
          have u1 : (e2 != 0) = true := by simpa using z2
          clear q1 q2 q3 HLA z2
          go_wp2_with fail
          refine wp_region_D (fun w' => Blk w' m (gmL db ib M1.g) ∧ Blk w' db (dbL d)) false [] (by kernel_rfl) ?_
          refine WD.pure [7, 8, 9, 10, 11, 12, 13, 14, 15, 16, 17, 18, 19, 20, 21] (by kernel_rfl) ⟨hbd, hdd⟩ ?_
          simp only [pick, List.toList_toArray, List.map_cons, List.map_nil, List.getD_cons_succ, List.getD_cons_zero]
          repeat (first | (refine quiet_load_1R (by rfl) _ _ rfl rfl (.slice (some ⟨db, 0, none⟩) 2 2) (fun wq h => by first|exact h.1.cell 0|(rw [h];exact k0)) _ Tryz.underlying76 rfl ?_; simp only [World.size_alloc, World.size_drew, Act.put, List.setIfInBounds_toArray, List.set_cons_succ, List.set_cons_zero]) | (refine quiet_load_1R (by rfl) _ _ rfl rfl (.pointer (some ⟨d false, 0, none⟩)) (fun wq h => by first|exact h.2.cell 0|(rw [h];exact d0)) _ Tryz.underlying26 rfl ?_; simp only [World.size_alloc, World.size_drew, Act.put, List.setIfInBounds_toArray, List.set_cons_succ, List.set_cons_zero]) | go_big_quiet_step (fail))
          refine wpQuiet_nil ?_
          refine WD.free [0, 1, 2, 4] (by kernel_rfl) ⟨hbd, hdd⟩ ?_
          simp only [pick, List.toList_toArray, List.map_cons, List.map_nil, List.getD_cons_succ, List.getD_cons_zero]
          repeat (first | (refine quiet_load_1R (by rfl) _ _ rfl rfl (.slice (some ⟨db, 0, none⟩) 2 2) (fun wq h => by first|exact h.1.cell 0|(rw [h];exact k0)) _ Tryz.underlying76 rfl ?_; simp only [World.size_alloc, World.size_drew, Act.put, List.setIfInBounds_toArray, List.set_cons_succ, List.set_cons_zero]) | (refine quiet_load_1R (by rfl) _ _ rfl rfl (.pointer (some ⟨d false, 0, none⟩)) (fun wq h => by first|exact h.2.cell 0|(rw [h];exact d0)) _ Tryz.underlying26 rfl ?_; simp only [World.size_alloc, World.size_drew, Act.put, List.setIfInBounds_toArray, List.set_cons_succ, List.set_cons_zero]) | go_big_quiet_step (fail))
          refine wpQuiet_nil ?_
          refine WD.held [3] (by kernel_rfl) ⟨hbd, hdd⟩ ?_
          simp only [pick, List.toList_toArray, List.map_cons, List.map_nil, List.getD_cons_succ, List.getD_cons_zero]
          repeat (first | (refine quiet_load_1R (by rfl) _ _ rfl rfl (.slice (some ⟨db, 0, none⟩) 2 2) (fun wq h => by first|exact h.1.cell 0|(rw [h];exact k0)) _ Tryz.underlying76 rfl ?_; simp only [World.size_alloc, World.size_drew, Act.put, List.setIfInBounds_toArray, List.set_cons_succ, List.set_cons_zero]) | (refine quiet_load_1R (by rfl) _ _ rfl rfl (.pointer (some ⟨d false, 0, none⟩)) (fun wq h => by first|exact h.2.cell 0|(rw [h];exact d0)) _ Tryz.underlying26 rfl ?_; simp only [World.size_alloc, World.size_drew, Act.put, List.setIfInBounds_toArray, List.set_cons_succ, List.set_cons_zero]) | go_big_quiet_step (fail))
          refine wpQuiet_nil ?_
          refine WD.free [5] (by kernel_rfl) ⟨hbd, hdd⟩ ?_
          simp only [pick, List.toList_toArray, List.map_cons, List.map_nil, List.getD_cons_succ, List.getD_cons_zero]
          repeat (first | (refine quiet_load_1R (by rfl) _ _ rfl rfl (.slice (some ⟨db, 0, none⟩) 2 2) (fun wq h => by first|exact h.1.cell 0|(rw [h];exact k0)) _ Tryz.underlying76 rfl ?_; simp only [World.size_alloc, World.size_drew, Act.put, List.setIfInBounds_toArray, List.set_cons_succ, List.set_cons_zero]) | (refine quiet_load_1R (by rfl) _ _ rfl rfl (.pointer (some ⟨d false, 0, none⟩)) (fun wq h => by first|exact h.2.cell 0|(rw [h];exact d0)) _ Tryz.underlying26 rfl ?_; simp only [World.size_alloc, World.size_drew, Act.put, List.setIfInBounds_toArray, List.set_cons_succ, List.set_cons_zero]) | go_big_quiet_step (fail))
          refine wpQuiet_nil ?_
          refine WD.held [6] (by kernel_rfl) ⟨hbd, hdd⟩ ?_
          simp only [pick, List.toList_toArray, List.map_cons, List.map_nil, List.getD_cons_succ, List.getD_cons_zero]
          repeat (first | (refine quiet_load_1R (by rfl) _ _ rfl rfl (.slice (some ⟨db, 0, none⟩) 2 2) (fun wq h => by first|exact h.1.cell 0|(rw [h];exact k0)) _ Tryz.underlying76 rfl ?_; simp only [World.size_alloc, World.size_drew, Act.put, List.setIfInBounds_toArray, List.set_cons_succ, List.set_cons_zero]) | (refine quiet_load_1R (by rfl) _ _ rfl rfl (.pointer (some ⟨d false, 0, none⟩)) (fun wq h => by first|exact h.2.cell 0|(rw [h];exact d0)) _ Tryz.underlying26 rfl ?_; simp only [World.size_alloc, World.size_drew, Act.put, List.setIfInBounds_toArray, List.set_cons_succ, List.set_cons_zero]) | go_big_quiet_step (fail))
          refine wpQuiet_nil ?_
          refine WD.eff 22 (by kernel_rfl) ?_
          simp only [pick, List.toList_toArray, List.map_cons, List.map_nil, List.getD_cons_succ, List.getD_cons_zero]
          go_wp2_with (go_at_call 36; refine (HSu.out _).mono ?_; rintro e w5 ⟨rfl, f5⟩; have E5 := hid (Ed.out.step f5); have b5 := xir_blk E5.out.held; have c5 := xir_dbl E5.out.held; clear f5 HSu)
          try refine wpList_nil ?_
          refine AfterD.on ⟨b5, c5⟩ (by kernel_rfl) ?_
          try simp only [World.size_alloc, World.size_drew, Act.put, List.setIfInBounds_toArray, List.set_cons_succ, List.set_cons_zero]
          refine WD.eff 23 (by kernel_rfl) ?_
          simp only [pick, List.toList_toArray, List.map_cons, List.map_nil, List.getD_cons_succ, List.getD_cons_zero]
          go_wp2_with (go_at_call 37; refine (HWr.out _ _ E5.out.held).mono ?_; rintro e w6 ⟨rfl, FF6, v6⟩; have E6 := hid (E5.out.trans v6); have b6 := xir_blk E6.out.held; have c6 := xir_dbl E6.out.held; have y0 : w6.cell? ⟨m, 0, none⟩ = some (.slice (some ⟨db, 0, none⟩) 2 2) := b6.cell 0; have y1 : w6.cell? ⟨db, 0, none⟩ = some (.pointer (some ⟨d false, 0, none⟩)) := c6.cell 0; clear v6 E5 HWr)
          try refine wpList_nil ?_
          refine AfterD.on ⟨b6, c6⟩ (by kernel_rfl) ?_
          try simp only [World.size_alloc, World.size_drew, Act.put, List.setIfInBounds_toArray, List.set_cons_succ, List.set_cons_zero]
          refine WD.pure [24] (by kernel_rfl) ⟨b6, c6⟩ ?_
          simp only [pick, List.toList_toArray, List.map_cons, List.map_nil, List.getD_cons_succ, List.getD_cons_zero]
          repeat (first | (refine quiet_load_1R (by rfl) _ _ rfl rfl (.slice (some ⟨db, 0, none⟩) 2 2) (fun wq h => by first|exact h.1.cell 0|(rw [h];exact k0)) _ Tryz.underlying76 rfl ?_; simp only [World.size_alloc, World.size_drew, Act.put, List.setIfInBounds_toArray, List.set_cons_succ, List.set_cons_zero]) | (refine quiet_load_1R (by rfl) _ _ rfl rfl (.pointer (some ⟨d false, 0, none⟩)) (fun wq h => by first|exact h.2.cell 0|(rw [h];exact d0)) _ Tryz.underlying26 rfl ?_; simp only [World.size_alloc, World.size_drew, Act.put, List.setIfInBounds_toArray, List.set_cons_succ, List.set_cons_zero]) | go_big_quiet_step (fail))
          refine wpQuiet_nil ?_
          refine WD.done (by kernel_rfl) ?_
          go_wp2_with (first
            | (go_at_call 38; refine (HFl.out _ _ E6.out.held).mono ?_; rintro e w7 ⟨rfl, FF7, v7⟩; have E7 := hid (E6.out.trans v7); clear v7 HFl)
            | (go_at_call 83; refine (HLB.out _ _ E7.out.held).mono ?_; rintro e w8 ⟨rfl, v8⟩; have E8 := hid (E7.out.trans v8); clear v8 HLB))
          go_roundw
          case rel => exact ⟨0 + 1, by decide, by first | rfl | go_num, FF7, by rw [if_neg (by decide), HQ.out]; exact E8⟩
          case measure => simp [intOf]
      · have HQ := hid (q3 z1)
        have u1 : (e1 != 0) = true := by simpa using z1
        have u2 : (e1 == 0) = false := by simpa using z1
        clear q1 q2 q3 HLB HFl z1
        go_wp2_with fail
        refine wp_region_D (fun w' => Blk w' m (gmL db ib M1.g) ∧ Blk w' db (dbL d)) false [] (by kernel_rfl) ?_
        refine WD.pure [7, 8, 9, 10, 11, 12, 13, 14, 15, 16, 17, 18, 19, 20, 21] (by kernel_rfl) ⟨hbd, hdd⟩ ?_
        simp only [pick, List.toList_toArray, List.map_cons, List.map_nil, List.getD_cons_succ, List.getD_cons_zero]
        repeat (first | (refine quiet_load_1R (by rfl) _ _ rfl rfl (.slice (some ⟨db, 0, none⟩) 2 2) (fun wq h => by first|exact h.1.cell 0|(rw [h];exact k0)) _ Tryz.underlying76 rfl ?_; simp only [World.size_alloc, World.size_drew, Act.put, List.setIfInBounds_toArray, List.set_cons_succ, List.set_cons_zero]) | (refine quiet_load_1R (by rfl) _ _ rfl rfl (.pointer (some ⟨d false, 0, none⟩)) (fun wq h => by first|exact h.2.cell 0|(rw [h];exact d0)) _ Tryz.underlying26 rfl ?_; simp only [World.size_alloc, World.size_drew, Act.put, List.setIfInBounds_toArray, List.set_cons_succ, List.set_cons_zero]) | go_big_quiet_step (fail))
        refine wpQuiet_nil ?_
        refine WD.free [0, 1, 2, 4] (by kernel_rfl) ⟨hbd, hdd⟩ ?_
        simp only [pick, List.toList_toArray, List.map_cons, List.map_nil, List.getD_cons_succ, List.getD_cons_zero]
        repeat (first | (refine quiet_load_1R (by rfl) _ _ rfl rfl (.slice (some ⟨db, 0, none⟩) 2 2) (fun wq h => by first|exact h.1.cell 0|(rw [h];exact k0)) _ Tryz.underlying76 rfl ?_; simp only [World.size_alloc, World.size_drew, Act.put, List.setIfInBounds_toArray, List.set_cons_succ, List.set_cons_zero]) | (refine quiet_load_1R (by rfl) _ _ rfl rfl (.pointer (some ⟨d false, 0, none⟩)) (fun wq h => by first|exact h.2.cell 0|(rw [h];exact d0)) _ Tryz.underlying26 rfl ?_; simp only [World.size_alloc, World.size_drew, Act.put, List.setIfInBounds_toArray, List.set_cons_succ, List.set_cons_zero]) | go_big_quiet_step (fail))
        refine wpQuiet_nil ?_
        refine WD.held [3] (by kernel_rfl) ⟨hbd, hdd⟩ ?_
        simp only [pick, List.toList_toArray, List.map_cons, List.map_nil, List.getD_cons_succ, List.getD_cons_zero]
        repeat (first | (refine quiet_load_1R (by rfl) _ _ rfl rfl (.slice (some ⟨db, 0, none⟩) 2 2) (fun wq h => by first|exact h.1.cell 0|(rw [h];exact k0)) _ Tryz.underlying76 rfl ?_; simp only [World.size_alloc, World.size_drew, Act.put, List.setIfInBounds_toArray, List.set_cons_succ, List.set_cons_zero]) | (refine quiet_load_1R (by rfl) _ _ rfl rfl (.pointer (some ⟨d false, 0, none⟩)) (fun wq h => by first|exact h.2.cell 0|(rw [h];exact d0)) _ Tryz.underlying26 rfl ?_; simp only [World.size_alloc, World.size_drew, Act.put, List.setIfInBounds_toArray, List.set_cons_succ, List.set_cons_zero]) | go_big_quiet_step (fail))
        refine wpQuiet_nil ?_
        refine WD.free [5] (by kernel_rfl) ⟨hbd, hdd⟩ ?_
        simp only [pick, List.toList_toArray, List.map_cons, List.map_nil, List.getD_cons_succ, List.getD_cons_zero]
        repeat (first | (refine quiet_load_1R (by rfl) _ _ rfl rfl (.slice (some ⟨db, 0, none⟩) 2 2) (fun wq h => by first|exact h.1.cell 0|(rw [h];exact k0)) _ Tryz.underlying76 rfl ?_; simp only [World.size_alloc, World.size_drew, Act.put, List.setIfInBounds_toArray, List.set_cons_succ, List.set_cons_zero]) | (refine quiet_load_1R (by rfl) _ _ rfl rfl (.pointer (some ⟨d false, 0, none⟩)) (fun wq h => by first|exact h.2.cell 0|(rw [h];exact d0)) _ Tryz.underlying26 rfl ?_; simp only [World.size_alloc, World.size_drew, Act.put, List.setIfInBounds_toArray, List.set_cons_succ, List.set_cons_zero]) | go_big_quiet_step (fail))
        refine wpQuiet_nil ?_
        refine WD.held [6] (by kernel_rfl) ⟨hbd, hdd⟩ ?_
        simp only [pick, List.toList_toArray, List.map_cons, List.map_nil, List.getD_cons_succ, List.getD_cons_zero]
        repeat (first | (refine quiet_load_1R (by rfl) _ _ rfl rfl (.slice (some ⟨db, 0, none⟩) 2 2) (fun wq h => by first|exact h.1.cell 0|(rw [h];exact k0)) _ Tryz.underlying76 rfl ?_; simp only [World.size_alloc, World.size_drew, Act.put, List.setIfInBounds_toArray, List.set_cons_succ, List.set_cons_zero]) | (refine quiet_load_1R (by rfl) _ _ rfl rfl (.pointer (some ⟨d false, 0, none⟩)) (fun wq h => by first|exact h.2.cell 0|(rw [h];exact d0)) _ Tryz.underlying26 rfl ?_; simp only [World.size_alloc, World.size_drew, Act.put, List.setIfInBounds_toArray, List.set_cons_succ, List.set_cons_zero]) | go_big_quiet_step (fail))
        refine wpQuiet_nil ?_
        refine WD.eff 22 (by kernel_rfl) ?_
        simp only [pick, List.toList_toArray, List.map_cons, List.map_nil, List.getD_cons_succ, List.getD_cons_zero]
        go_wp2_with (go_at_call 36; refine (HSu.out _).mono ?_; rintro e w5 ⟨rfl, f5⟩; have E5 := hid (Ed.out.step f5); have b5 := xir_blk E5.out.held; have c5 := xir_dbl E5.out.held; clear f5 HSu)
        try refine wpList_nil ?_
        refine AfterD.on ⟨b5, c5⟩ (by kernel_rfl) ?_
        try simp only [World.size_alloc, World.size_drew, Act.put, List.setIfInBounds_toArray, List.set_cons_succ, List.set_cons_zero]
        refine WD.eff 23 (by kernel_rfl) ?_
        simp only [pick, List.toList_toArray, List.map_cons, List.map_nil, List.getD_cons_succ, List.getD_cons_zero]
        go_wp2_with (go_at_call 37; refine (HWr.out _ _ E5.out.held).mono ?_; rintro e w6 ⟨rfl, FF6, v6⟩; have E6 := hid (E5.out.trans v6); have b6 := xir_blk E6.out.held; have c6 := xir_dbl E6.out.held; have y0 : w6.cell? ⟨m, 0, none⟩ = some (.slice (some ⟨db, 0, none⟩) 2 2) := b6.cell 0; have y1 : w6.cell? ⟨db, 0, none⟩ = some (.pointer (some ⟨d false, 0, none⟩)) := c6.cell 0; clear v6 E5 HWr)
        try refine wpList_nil ?_
        refine AfterD.on ⟨b6, c6⟩ (by kernel_rfl) ?_
        try simp only [World.size_alloc, World.size_drew, Act.put, List.setIfInBounds_toArray, List.set_cons_succ, List.set_cons_zero]
        refine WD.pure [24] (by kernel_rfl) ⟨b6, c6⟩ ?_
        simp only [pick, List.toList_toArray, List.map_cons, List.map_nil, List.getD_cons_succ, List.getD_cons_zero]
        repeat (first | (refine quiet_load_1R (by rfl) _ _ rfl rfl (.slice (some ⟨db, 0, none⟩) 2 2) (fun wq h => by first|exact h.1.cell 0|(rw [h];exact k0)) _ Tryz.underlying76 rfl ?_; simp only [World.size_alloc, World.size_drew, Act.put, List.setIfInBounds_toArray, List.set_cons_succ, List.set_cons_zero]) | (refine quiet_load_1R (by rfl) _ _ rfl rfl (.pointer (some ⟨d false, 0, none⟩)) (fun wq h => by first|exact h.2.cell 0|(rw [h];exact d0)) _ Tryz.underlying26 rfl ?_; simp only [World.size_alloc, World.size_drew, Act.put, List.setIfInBounds_toArray, List.set_cons_succ, List.set_cons_zero]) | go_big_quiet_step (fail))
        refine wpQuiet_nil ?_
        refine WD.done (by kernel_rfl) ?_
        go_wp2_with (go_at_call 83; refine (HLA.out _ _ E6.out.held).mono ?_; rintro e w8 ⟨rfl, v8⟩; have E8 := hid (E6.out.trans v8); clear v8 HLA)
        go_roundw
        case rel => exact ⟨0 + 1, by decide, by first | rfl | go_num, FF6, by rw [if_neg (by decide), HQ.out]; exact E8⟩
        case measure => simp [intOf]
    · have cx : MS.c (if 1 ≤ 0 then M1 else M2) true = false := by first | exact c1 | exact c2
      obtain ⟨b0, b1, hib, hb0, hb1⟩ := xir_is E.out.held
      have hz : (b1 != 0) = true := by
        have : decide (b1 = 0) = false := hb1.symm.trans cx
        simpa using this
      have i1 : wr.cell? ⟨m, 1, none⟩ = some (.slice (some ⟨ib, 0, none⟩) 2 2) := (xir_blk E.out.held).cell 1
      have i2 : wr.cell? ⟨ib, 1, none⟩ = some (.int .i64 b1) := hib.cell 1
      clear hib hb0 hb1 cx
      go_wp2_with fail
      go_roundw
      case rel => exact ⟨1 + 1, by decide, by first | rfl | go_num, FF1, by first | exact E | simpa using E⟩
      case measure => simp [intOf]
    · rw [if_neg (by decide)] at E
      go_wp2_with fail
      go_end0
      exact ⟨rfl, FF1, E.out⟩
end
end Go.Proofs.YtjgagcpmoffldaaGreat
