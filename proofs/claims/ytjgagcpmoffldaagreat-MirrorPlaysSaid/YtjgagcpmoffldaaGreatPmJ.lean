/- Layer 7 (great seat): Resync of the document's mirror. -/
import Derived.Test.YtjgagcpmoffldaaGreatPmH
import Derived.Test.YtjgagcpmoffldaaGreatGMirD
namespace Go.Proofs.YtjgagcpmoffldaaGreat
open Go Go.Xr Go.RowKit
set_option linter.unusedVariables false
set_option linter.unusedSimpArgs false
section
variable {w w' w0 : World} {l rs : List Res} {pbs : List Nat} {m db ib : Nat} {s : Sys} {M M' : MS} {d : Bool → Nat} {FF FF' : Bool → List Nat}
theorem pfacts (F : Bool) (h : Held w (l ++ mirX pbs m db ib d FF M)) (ok : SysOk M.s) : ∃ kb c : Nat, w.cell? ⟨m, 0, none⟩ = some (.slice (some ⟨db, 0, none⟩) 2 2) ∧ w.cell? ⟨db, 0, none⟩ = some (.pointer (some ⟨d false, 0, none⟩)) ∧ w.cell? ⟨db, 1, none⟩ = some (.pointer (some ⟨d true, 0, none⟩)) ∧ w.cell? ⟨d F, 0, none⟩ = some (.slice (some ⟨kb, 0, none⟩) (M.s.len F) c) := by
  obtain ⟨kb, c, h0, _⟩ := psee F h ok
  exact ⟨kb, c, (xir_blk h).cell 0, (xir_dbl h).cell 0, (xir_dbl h).cell 1, h0⟩
theorem pis (h : Held w (l ++ mirX pbs m db ib d FF M)) : ∃ b0 b1 : Int, w.cell? ⟨m, 1, none⟩ = some (.slice (some ⟨ib, 0, none⟩) 2 2) ∧ w.cell? ⟨ib, 0, none⟩ = some (.int .i64 b0) ∧ w.cell? ⟨ib, 1, none⟩ = some (.int .i64 b1) ∧ (b0 != 0) = !M.c0 ∧ (b1 != 0) = !M.c1 ∧ (b0 == 0) = M.c0 ∧ (b1 == 0) = M.c1 := by
  obtain ⟨b0, b1, hb, h0, h1⟩ := xir_is h
  refine ⟨b0, b1, (xir_blk h).cell 1, hb.cell 0, hb.cell 1, ?_, ?_, ?_, ?_⟩
  · rw [h0]; by_cases e : b0 = 0 <;> simp [e]
  · rw [h1]; by_cases e : b1 = 0 <;> simp [e]
  · rw [h0]; by_cases e : b0 = 0 <;> simp [e]
  · rw [h1]; by_cases e : b1 = 0 <;> simp [e]
set_option maxRecDepth 20000 in
set_option maxHeartbeats 1000000 in
theorem presync_lost (h : Held w (l ++ mirX pbs m db ib d FF M)) (ha : M.any = false) :
    Calls Tryz.prog 58 #[.pointer (some ⟨m, 0, none⟩)] w fun e w' => e = .returned (.tuple #[.int .i64 0, .int .i64 70]) ∧ w' = w := by
  have HL := hid (plost_any h)
  rw [ha] at HL
  clear h ha
  go_enter Tryz.func58, Tryz.ntmps58
  go_wp2_with (go_at_call 82; refine HL.out.mono ?_; rintro e w1 ⟨rfl, e1⟩; have e1' := hid e1; rw [e1'.out]; clear e1)
  go_ret2
  exact ⟨rfl, rfl⟩
set_option maxRecDepth 20000 in
set_option maxHeartbeats 4000000 in
theorem presync_dead_false (h : Held w (l ++ mirX pbs m db ib d FF M)) (ok : SysOk M.s) (ht : M.s.T < 998800) (h0 : M.c0 = true) (hc : M.c false = true) (hd : (M.s.X true).Dead = true) :
    Calls Tryz.prog 58 #[.pointer (some ⟨m, 0, none⟩)] w fun e w' => e = .returned (.tuple #[.int .i64 0, .int .i64 (M.rsDead false).leftC]) ∧ ∃ FF', Ev w (l ++ mirX pbs m db ib d FF M) w' (l ++ mirX pbs m db ib d FF' (M.rsDead false)) := by
  have HL := hid (plost_any h)
  have ha : M.any = true := by
    have hc' := hc
    unfold MS.c at hc'
    simp at hc'
    unfold MS.any
    simp [hc']
  rw [ha] at HL
  obtain ⟨b0, b1, i1, i2, i3, n0, n1, q0, q1⟩ := pis h
  obtain ⟨ka, ca, p0, p1, p2, p3⟩ := pfacts true h ok
  obtain ⟨kb, kc, _, y3⟩ := psee true h ok
  rw [hd] at y3
  rw [h0] at n0
  have E0 := hid (Ev.refl h)
  have HLo := hid (plose_true h ok (by omega))
  unfold MS.rsDead
  rw [show (!false) = true from rfl]
  have HL2 := hid fun (w1 : World) (FF2 : Bool → List Nat) (h1 : Held w1 (l ++ mirX pbs m db ib d FF2 (M.lose true))) => plost_any h1
  have qo : (b1 == 0) = M.c true := by first | exact q0 | exact q1
  simp only [Bool.not_true, Bool.not_false] at n0
  cases hcn : M.c true with
  | false =>
    rw [hcn] at qo
    simp only [Bool.false_eq_true, if_false]
    have HC := hid (show M.leftC = 0 by unfold MS.leftC; rw [ha]; rfl)
    clear h ok ht h0 hc hd ha n1 q0 q1 hcn HLo HL2
    go_enter Tryz.func58, Tryz.ntmps58
    go_wp2_with (go_at_call 82; refine HL.out.mono ?_; rintro e w1 ⟨rfl, e1⟩; have e1' := hid e1; rw [e1'.out]; clear e1)
    go_ret2
    rw [HC.out]
    exact ⟨rfl, FF, E0.out⟩
  | true =>
    rw [hcn] at qo
    simp only [if_true]
    cases ha2 : (M.lose true).any with
    | false =>
      rw [ha2] at HL2
      have HC := hid (show (M.lose true).leftC = 70 by unfold MS.leftC; rw [ha2]; rfl)
      clear h ok ht h0 hc hd ha n1 q0 q1 hcn ha2
      go_enter Tryz.func58, Tryz.ntmps58
      go_wp2_with (first
        | (go_at_call 82; refine HL.out.mono ?_; rintro e w1 ⟨rfl, e1⟩; have e1' := hid e1; rw [e1'.out]; clear e1 HL)
        | (go_at_call 83; refine HLo.out.mono ?_; rintro e w6 ⟨rfl, FF6, v6⟩; have E6 := hid (E0.out.trans v6); clear v6 HLo)
        | (go_at_call 82; refine (HL2.out _ _ E6.out.held).mono ?_; rintro e w7 ⟨rfl, e7⟩; have e7' := hid e7; rw [e7'.out]; clear e7 HL2))
      go_ret2
      rw [HC.out]
      exact ⟨rfl, FF6, E6.out⟩
    | true =>
      rw [ha2] at HL2
      have HC := hid (show (M.lose true).leftC = 0 by unfold MS.leftC; rw [ha2]; rfl)
      clear h ok ht h0 hc hd ha n1 q0 q1 hcn ha2
      go_enter Tryz.func58, Tryz.ntmps58
      go_wp2_with (first
        | (go_at_call 82; refine HL.out.mono ?_; rintro e w1 ⟨rfl, e1⟩; have e1' := hid e1; rw [e1'.out]; clear e1 HL)
        | (go_at_call 83; refine HLo.out.mono ?_; rintro e w6 ⟨rfl, FF6, v6⟩; have E6 := hid (E0.out.trans v6); clear v6 HLo)
        | (go_at_call 82; refine (HL2.out _ _ E6.out.held).mono ?_; rintro e w7 ⟨rfl, e7⟩; have e7' := hid e7; rw [e7'.out]; clear e7 HL2))
      go_ret2
      rw [HC.out]
      exact ⟨rfl, FF6, E6.out⟩
set_option maxRecDepth 20000 in
set_option maxHeartbeats 4000000 in
theorem presync_dead_true (h : Held w (l ++ mirX pbs m db ib d FF M)) (ok : SysOk M.s) (ht : M.s.T < 998800) (h0 : M.c0 = false) (hc : M.c true = true) (hd : (M.s.X false).Dead = true) :
    Calls Tryz.prog 58 #[.pointer (some ⟨m, 0, none⟩)] w fun e w' => e = .returned (.tuple #[.int .i64 0, .int .i64 (M.rsDead true).leftC]) ∧ ∃ FF', Ev w (l ++ mirX pbs m db ib d FF M) w' (l ++ mirX pbs m db ib d FF' (M.rsDead true)) := by
  have HL := hid (plost_any h)
  have ha : M.any = true := by
    have hc' := hc
    unfold MS.c at hc'
    simp at hc'
    unfold MS.any
    simp [hc']
  rw [ha] at HL
  obtain ⟨b0, b1, i1, i2, i3, n0, n1, q0, q1⟩ := pis h
  obtain ⟨ka, ca, p0, p1, p2, p3⟩ := pfacts false h ok
  obtain ⟨kb, kc, _, y3⟩ := psee false h ok
  rw [hd] at y3
  rw [h0] at n0
  have E0 := hid (Ev.refl h)
  have HLo := hid (plose_false h ok (by omega))
  unfold MS.rsDead
  rw [show (!true) = false from rfl]
  have HL2 := hid fun (w1 : World) (FF2 : Bool → List Nat) (h1 : Held w1 (l ++ mirX pbs m db ib d FF2 (M.lose false))) => plost_any h1
  have qo : (b0 == 0) = M.c false := by first | exact q0 | exact q1
  simp only [Bool.not_true, Bool.not_false] at n0
  cases hcn : M.c false with
  | false =>
    rw [hcn] at qo
    simp only [Bool.false_eq_true, if_false]
    have HC := hid (show M.leftC = 0 by unfold MS.leftC; rw [ha]; rfl)
    clear h ok ht h0 hc hd ha n1 q0 q1 hcn HLo HL2
    go_enter Tryz.func58, Tryz.ntmps58
    go_wp2_with (go_at_call 82; refine HL.out.mono ?_; rintro e w1 ⟨rfl, e1⟩; have e1' := hid e1; rw [e1'.out]; clear e1)
    go_ret2
    rw [HC.out]
    exact ⟨rfl, FF, E0.out⟩
  | true =>
    rw [hcn] at qo
    simp only [if_true]
    cases ha2 : (M.lose false).any with
    | false =>
      rw [ha2] at HL2
      have HC := hid (show (M.lose false).leftC = 70 by unfold MS.leftC; rw [ha2]; rfl)
      clear h ok ht h0 hc hd ha n1 q0 q1 hcn ha2
      go_enter Tryz.func58, Tryz.ntmps58
      go_wp2_with (first
        | (go_at_call 82; refine HL.out.mono ?_; rintro e w1 ⟨rfl, e1⟩; have e1' := hid e1; rw [e1'.out]; clear e1 HL)
        | (go_at_call 83; refine HLo.out.mono ?_; rintro e w6 ⟨rfl, FF6, v6⟩; have E6 := hid (E0.out.trans v6); clear v6 HLo)
        | (go_at_call 82; refine (HL2.out _ _ E6.out.held).mono ?_; rintro e w7 ⟨rfl, e7⟩; have e7' := hid e7; rw [e7'.out]; clear e7 HL2))
      go_ret2
      rw [HC.out]
      exact ⟨rfl, FF6, E6.out⟩
    | true =>
      rw [ha2] at HL2
      have HC := hid (show (M.lose false).leftC = 0 by unfold MS.leftC; rw [ha2]; rfl)
      clear h ok ht h0 hc hd ha n1 q0 q1 hcn ha2
      go_enter Tryz.func58, Tryz.ntmps58
      go_wp2_with (first
        | (go_at_call 82; refine HL.out.mono ?_; rintro e w1 ⟨rfl, e1⟩; have e1' := hid e1; rw [e1'.out]; clear e1 HL)
        | (go_at_call 83; refine HLo.out.mono ?_; rintro e w6 ⟨rfl, FF6, v6⟩; have E6 := hid (E0.out.trans v6); clear v6 HLo)
        | (go_at_call 82; refine (HL2.out _ _ E6.out.held).mono ?_; rintro e w7 ⟨rfl, e7⟩; have e7' := hid e7; rw [e7'.out]; clear e7 HL2))
      go_ret2
      rw [HC.out]
      exact ⟨rfl, FF6, E6.out⟩
set_option maxRecDepth 20000 in
set_option maxHeartbeats 8000000 in
theorem presync_main_false (h : Held w (l ++ mirX pbs m db ib d FF M)) (ok : SysOk M.s) (ht : M.s.T + 2 * M.s.len false < 998800) (h0 : M.c0 = true) (hc : M.c false = true) (hd : (M.s.X true).Dead = false) :
    Calls Tryz.prog 58 #[.pointer (some ⟨m, 0, none⟩)] w fun e w' => e = .returned (.tuple #[.int .i64 ((M.rsF false).2.1 : Int), .int .i64 (M.rsF false).2.2]) ∧ ∃ FF', Ev w (l ++ mirX pbs m db ib d FF M) w' (l ++ mirX pbs m db ib d FF' (M.rsF false).1) := by
  have HL := hid (plost_any h)
  have ha : M.any = true := by
    have hc' := hc
    unfold MS.c at hc'
    simp at hc'
    unfold MS.any
    simp [hc']
  rw [ha] at HL
  obtain ⟨b0, b1, i1, i2, i3, n0, n1, q0, q1⟩ := pis h
  obtain ⟨ka, ca, p0, p1, p2, p3⟩ := pfacts true h ok
  obtain ⟨kb, kc, _, y3⟩ := psee true h ok
  rw [hd] at y3
  rw [h0] at n0
  simp only [Bool.not_true, Bool.not_false] at n0
  have E0 := hid (Ev.refl h)
  have hRS : M.rsF false = M.rsMain false (RS.run false (M.s.len false - 1) 1 ⟨M.s, 0⟩) := by unfold MS.rsF; rw [show (!false) = true from rfl, if_neg (by rw [hd]; decide)]
  rw [hRS]
  have OK := hid ok
  have HT := hid ht
  have HLp := hid (len_pos ok false)
  obtain ⟨L, hL⟩ : ∃ L, M.s.len false = L := ⟨_, rfl⟩
  rw [hL] at HT HLp ⊢
  have HLe := hid hL
  clear h ok ht h0 hc hd ha n1 q0 q1 hL hRS p3
  go_enter Tryz.func58, Tryz.ntmps58
  go_wp2_with (go_at_call 82; refine HL.out.mono ?_; rintro e w1 ⟨rfl, e1⟩; have e1' := hid e1; rw [e1'.out]; clear e1 HL)
  clear i1 i2 i3 p0 p1 p2 y3 n0
  go_loopw [6, 7] (fun nv iv wr => ∃ (i k : Nat) (r : RS) (FF' : Bool → List Nat), iv = .int .i64 (i : Int) ∧ nv = .int .i64 (r.n : Int) ∧ 1 ≤ i ∧ Hid (i + k = L) ∧ Hid (RS.run false (L - 1) 1 ⟨M.s, 0⟩ = RS.run false k i r) ∧ Hid (SysOk r.s) ∧ Hid (r.s.T + 2 * k < 998850) ∧ r.n ≤ i ∧ Hid (r.s.len false = L) ∧ Hid (Ev w (l ++ mirX pbs m db ib d FF M) wr (l ++ mirX pbs m db ib d FF' { M with s := r.s }))) (fun _ iv _ => L - (intOf iv).toNat)
  case atStart => exact ⟨1, L - 1, ⟨M.s, 0⟩, FF, rfl, rfl, Nat.le_refl _, hid (by have := HLp.out; omega), hid rfl, OK, hid (by have := HT.out; show M.s.T + 2 * (L - 1) < 998850; omega), Nat.zero_le _, HLe, E0⟩
  case round =>
    obtain ⟨i, k, r, FF1, rfl, rfl, h1, Hik, Hrun, OKr, Tr, hn, Hlr, EV⟩ := hrel
    have hLe := HLp.out.2
    have hik := Hik.out
    obtain ⟨ka, ca, p0, p1, p2, p3⟩ := pfacts false EV.out.held OKr.out
    rw [show (MS.mk r.s M.c0 M.c1 M.g).s.len false = r.s.len false from rfl, Hlr.out] at p3
    clear E0
    cases k with
    | zero =>
      have hd : decide ((i : Int) < (L : Int)) = false := by simp; omega
      have hdn : decide (i < L) = false := by simp; omega
      have hadd : ∀ t, binOp .add t (W64 M.g) (.int .u64 1) = pure (W64 (M.g + 1)) := fun t => add_u64 t M.g 1
      have HM := hid (show M.rsMain false (RS.run false (L - 1) 1 ⟨M.s, 0⟩) = ((MS.rsEnd ⟨r.s, M.c0, M.c1, M.g⟩ false).1, r.n, (MS.rsEnd ⟨r.s, M.c0, M.c1, M.g⟩ false).2) by rw [Hrun.out]; rfl)
      have HE : Hid (MS.rsEnd ⟨r.s, M.c0, M.c1, M.g⟩ false = if (r.s.fl true).wrC false 0 (supS (M.g + 1) ((r.s.fl true).len false)) = 0 then (⟨((((r.s.fl true).wr false 0 (supS (M.g + 1) ((r.s.fl true).len false))).wr true 0 (supS (M.g + 1) ((r.s.fl true).len false))).fl false).fl true, true, true, M.g + 1⟩, 0) else (MS.lose ⟨(r.s.fl true).wr false 0 (supS (M.g + 1) ((r.s.fl true).len false)), M.c0, M.c1, M.g + 1⟩ false, (MS.lose ⟨(r.s.fl true).wr false 0 (supS (M.g + 1) ((r.s.fl true).len false)), M.c0, M.c1, M.g + 1⟩ false).leftC)) := hid rfl
      have OK2 := hid ((fl_stp r.s true).ok OKr.out)
      have T2 : Hid ((r.s.fl true).T < 998900) := hid (by have := (fl_stp r.s true).T OKr.out; have := Tr.out; omega)
      have hf1 := hid (pF true EV.out.held OKr.out (by have := Tr.out; show r.s.T < 1000000; omega))
      rw [show (MS.mk r.s M.c0 M.c1 M.g).s = r.s from rfl] at hf1
      generalize r.s.fl true = S2 at *
      have HU := hid fun w1 : World => rsuper_any (w := w1) (M.g + 1) (S2.len false) (len_pos OK2.out false).2
      have HPF := hid fun (w1 : World) (FF2 : Bool → List Nat) (h1 : Held w1 (l ++ mirX pbs m db ib d FF2 ⟨S2, M.c0, M.c1, M.g + 1⟩)) => pfacts false h1 OK2.out
      have HW2 := hid fun (w1 : World) (FF2 : Bool → List Nat) (h1 : Held w1 (l ++ mirX pbs m db ib d FF2 ⟨S2, M.c0, M.c1, M.g + 1⟩)) => pW false h1 OK2.out (Nat.lt_of_lt_of_le T2.out (by decide)) 0 (supS (M.g + 1) (S2.len false)) (by rw [supS_size]; decide)
      have OK3 := hid ((wr_stp S2 false 0 (supS (M.g + 1) (S2.len false))).ok OK2.out)
      have T3 : Hid ((S2.wr false 0 (supS (M.g + 1) (S2.len false))).T < 998910) := hid (by have := (wr_stp S2 false 0 (supS (M.g + 1) (S2.len false))).T OK2.out; have := T2.out; omega)
      have hsz := supS_size (M.g + 1) (S2.len false)
      rw [show (MS.mk S2 M.c0 M.c1 (M.g + 1)).s.len false = S2.len false from rfl] at HPF
      generalize supS (M.g + 1) (S2.len false) = Z at *
      generalize S2.len false = n2 at *
      have HKD := hid fun (w1 : World) (FF2 : Bool → List Nat) (S : Sys) (g : UInt64) (h1 : Held w1 (l ++ mirX pbs m db ib d FF2 ⟨S, M.c0, M.c1, g⟩)) => And.intro ((xir_blk h1).cell 0) (And.intro ((xir_dbl h1).cell 0) ((xir_dbl h1).cell 1))
      clear hik Hlr Hrun
      go_wp2_with (first
        | (go_at_call 38; (with_reducible refine hf1.out.mono ?_); rintro e w7 ⟨rfl, FF7, v7⟩; have E7 := hid (EV.out.trans v7); have b7 := xir_blk E7.out.held; have k7 : w7.cell? ⟨m, 2, none⟩ = some (W64 M.g) := b7.cell 2; clear v7)
        | (refine wpList_put rfl _ _ _ rfl rfl (W64 (M.g + 1)) rfl rfl b7 (by simp [gmL]) (by kernel_rfl) ?_; intro w8 f8 b8 hs8; have E8 := hid (xir_gen E7.out f8 (g := M.g + 1) b8); clear b7 k7 b8 f8; simp only [World.size_alloc, World.size_drew, Act.put, List.setIfInBounds_toArray, List.set_cons_succ, List.set_cons_zero]))
      have E9 := hid (show Ev w (l ++ mirX pbs m db ib d FF M) w8.drew (l ++ mirX pbs m db ib d FF7 ⟨S2, M.c0, M.c1, M.g + 1⟩) from E8.out.step (Fr.refl [] w8).drew)
      obtain ⟨ja, jc, j0, j1, j2, j3⟩ := HPF.out _ _ E9.out.held
      have j4 : w8.drew.cell? ⟨m, 2, none⟩ = some (W64 (M.g + 1)) := (xir_blk E9.out.held).cell 2
      clear hf1 hd hdn p0 p1 p2 p3
      refine wp_region_D (fun _ => True) false [] (by kernel_rfl) ?_
      refine WD.pure [0, 1, 2, 3, 4, 5, 6, 7, 8, 9, 10, 11, 12, 13, 14] (by kernel_rfl) trivial ?_
      simp only [pick, List.toList_toArray, List.map_cons, List.map_nil, List.getD_cons_succ, List.getD_cons_zero]
      repeat (first | go_big_quiet_step (fail))
      refine wpQuiet_nil ?_
      refine WD.eff 15 (by kernel_rfl) ?_
      simp only [pick, List.toList_toArray, List.map_cons, List.map_nil, List.getD_cons_succ, List.getD_cons_zero]
      go_wp2_with (go_at_call 36; refine (HU.out _).mono ?_; rintro e w11 ⟨rfl, f11⟩)
      have E11 := hid (E9.out.step f11)
      obtain ⟨z0, z1, z2⟩ := HKD.out _ _ _ _ E11.out.held
      clear j0 j1 j2 j3 j4
      have z0' : w11.cell? ⟨m, 0, none⟩ = some (.slice (some ⟨db, 0, none⟩) 2 2) := z0
      have z1' : w11.cell? ⟨db, 0, none⟩ = some (.pointer (some ⟨d false, 0, none⟩)) := z1
      have z2' : w11.cell? ⟨db, 1, none⟩ = some (.pointer (some ⟨d true, 0, none⟩)) := z2
      clear z0 z1 z2
      try refine wpList_nil ?_
      refine AfterD.on trivial (by kernel_rfl) ?_
      try simp only [World.size_alloc, World.size_drew, Act.put, List.setIfInBounds_toArray, List.set_cons_succ, List.set_cons_zero]
      refine WD.pure [16] (by kernel_rfl) trivial ?_
      simp only [pick, List.toList_toArray, List.map_cons, List.map_nil, List.getD_cons_succ, List.getD_cons_zero]
      repeat (first | go_big_quiet_step (fail))
      refine wpQuiet_nil ?_
      refine WD.done (by kernel_rfl) ?_
      have hW2 := hid (HW2.out _ _ E11.out.held)
      clear HW2 HU
      by_cases he : S2.wrC false 0 Z = 0
      · have HX := hid (HM.out.trans (by rw [HE.out.trans (if_pos he)]))
        have OK4 := hid ((wr_stp (S2.wr false 0 Z) true 0 Z).ok OK3.out)
        have T4 : Hid (((S2.wr false 0 Z).wr true 0 Z).T < 998920) := hid (by have := (wr_stp (S2.wr false 0 Z) true 0 Z).T OK3.out; have := T3.out; omega)
        have OK5 := hid ((fl_stp ((S2.wr false 0 Z).wr true 0 Z) false).ok OK4.out)
        have T5 : Hid ((((S2.wr false 0 Z).wr true 0 Z).fl false).T < 998930) := hid (by have := (fl_stp ((S2.wr false 0 Z).wr true 0 Z) false).T OK4.out; have := T4.out; omega)
        have HW3 := hid fun (w1 : World) (FF2 : Bool → List Nat) (h1 : Held w1 (l ++ mirX pbs m db ib d FF2 ⟨S2.wr false 0 Z, M.c0, M.c1, M.g + 1⟩)) => pW true h1 OK3.out (Nat.lt_of_lt_of_le T3.out (by decide)) 0 Z (by rw [hsz]; decide)
        have HF4 := hid fun (w1 : World) (FF2 : Bool → List Nat) (h1 : Held w1 (l ++ mirX pbs m db ib d FF2 ⟨(S2.wr false 0 Z).wr true 0 Z, M.c0, M.c1, M.g + 1⟩)) => pF false h1 OK4.out (Nat.lt_of_lt_of_le T4.out (by decide))
        have HF5 := hid fun (w1 : World) (FF2 : Bool → List Nat) (h1 : Held w1 (l ++ mirX pbs m db ib d FF2 ⟨((S2.wr false 0 Z).wr true 0 Z).fl false, M.c0, M.c1, M.g + 1⟩)) => pF true h1 OK5.out (Nat.lt_of_lt_of_le T5.out (by decide))
        rw [he] at hW2
        clear HE he HM hsz
        go_wp2_with (first
          | (go_at_call 37; (with_reducible refine hW2.out.mono ?_); rintro e w12 ⟨rfl, FF12, v12⟩; have E12 := hid (E11.out.trans v12); have hW3 := hid (HW3.out _ _ E12.out.held); obtain ⟨y0, y1, y2⟩ := HKD.out _ _ _ _ E12.out.held; have y0' : w12.cell? ⟨m, 0, none⟩ = some (.slice (some ⟨db, 0, none⟩) 2 2) := y0; have y1' : w12.cell? ⟨db, 0, none⟩ = some (.pointer (some ⟨d false, 0, none⟩)) := y1; have y2' : w12.cell? ⟨db, 1, none⟩ = some (.pointer (some ⟨d true, 0, none⟩)) := y2; clear hW2 v12 y0 y1 y2)
          | (go_at_call 37; (with_reducible refine hW3.out.mono ?_); rintro e w13 ⟨rfl, FF13, v13⟩; have E13 := hid (E12.out.trans v13); have hF4 := hid (HF4.out _ _ E13.out.held); obtain ⟨x0, x1, x2⟩ := HKD.out _ _ _ _ E13.out.held; have x0' : w13.cell? ⟨m, 0, none⟩ = some (.slice (some ⟨db, 0, none⟩) 2 2) := x0; have x1' : w13.cell? ⟨db, 0, none⟩ = some (.pointer (some ⟨d false, 0, none⟩)) := x1; have x2' : w13.cell? ⟨db, 1, none⟩ = some (.pointer (some ⟨d true, 0, none⟩)) := x2; clear hW3 v13 x0 x1 x2)
          | (go_at_call 38; (with_reducible refine hF4.out.mono ?_); rintro e w14 ⟨rfl, FF14, v14⟩; have E14 := hid (E13.out.trans v14); have hF5 := hid (HF5.out _ _ E14.out.held); obtain ⟨u0, u1, u2⟩ := HKD.out _ _ _ _ E14.out.held; have u0' : w14.cell? ⟨m, 0, none⟩ = some (.slice (some ⟨db, 0, none⟩) 2 2) := u0; have u1' : w14.cell? ⟨db, 0, none⟩ = some (.pointer (some ⟨d false, 0, none⟩)) := u1; have u2' : w14.cell? ⟨db, 1, none⟩ = some (.pointer (some ⟨d true, 0, none⟩)) := u2; clear hF4 v14 u0 u1 u2)
          | (go_at_call 38; (with_reducible refine hF5.out.mono ?_); rintro e w15 ⟨rfl, FF15, v15⟩; have E15 := hid (E14.out.trans v15); obtain ⟨c0, c1, b15, _, _⟩ := xir_is E15.out.held; have i15 : w15.cell? ⟨m, 1, none⟩ = some (.slice (some ⟨ib, 0, none⟩) 2 2) := (xir_blk E15.out.held).cell 1; have HI15 := hid fun (w2 : World) (f : Fr [ib] w15 w2) => f; clear hF5 v15)
          | (refine wpList_put rfl _ _ _ rfl rfl (.int .i64 0) rfl rfl b15 (by simp) (by kernel_rfl) ?_; intro w16 f16 b16 hs16; have b16' : Blk w16 ib [.int .i64 0, .int .i64 c1] := b16; have E16 := hid (xir_put (M' := ⟨(((S2.wr false 0 Z).wr true 0 Z).fl false).fl true, true, decide (c1 = 0), M.g + 1⟩) E15.out f16 b16' rfl rfl rfl rfl); have i16 : w16.cell? ⟨m, 1, none⟩ = some (.slice (some ⟨ib, 0, none⟩) 2 2) := (xir_blk E16.out.held).cell 1; clear b15 b16 f16; simp only [World.size_alloc, World.size_drew, Act.put, List.setIfInBounds_toArray, List.set_cons_succ, List.set_cons_zero])
          | (refine wpList_put rfl _ _ _ rfl rfl (.int .i64 0) rfl rfl b16' (by simp) (by kernel_rfl) ?_; intro w17 f17 b17 hs17; have b17' : Blk w17 ib [.int .i64 0, .int .i64 0] := b17; have E17 := hid (xir_put (M' := ⟨(((S2.wr false 0 Z).wr true 0 Z).fl false).fl true, true, true, M.g + 1⟩) E16.out f17 b17' rfl rfl rfl rfl); clear b17 b16' f17; simp only [World.size_alloc, World.size_drew, Act.put, List.setIfInBounds_toArray, List.set_cons_succ, List.set_cons_zero]))
        go_ret2
        rw [HX.out]
        exact ⟨rfl, FF15, E17.out⟩
      · have u0 : (S2.wrC false 0 Z != 0) = true := by simpa using he
        have HX := hid (HM.out.trans (by rw [HE.out.trans (if_neg he)]))
        have HLo := hid fun (w1 : World) (FF2 : Bool → List Nat) (h1 : Held w1 (l ++ mirX pbs m db ib d FF2 ⟨S2.wr false 0 Z, M.c0, M.c1, M.g + 1⟩)) => plose_false h1 OK3.out (Nat.lt_of_lt_of_le T3.out (by decide))
        have HLf := hid fun (w1 : World) (FF2 : Bool → List Nat) (h1 : Held w1 (l ++ mirX pbs m db ib d FF2 (MS.lose ⟨S2.wr false 0 Z, M.c0, M.c1, M.g + 1⟩ false))) => pleft_any h1
        clear HE he HM
        generalize MS.lose ⟨S2.wr false 0 Z, M.c0, M.c1, M.g + 1⟩ false = ML at *
        generalize S2.wrC false 0 Z = c at *
        go_wp2_with (first
          | (go_at_call 37; (with_reducible refine hW2.out.mono ?_); rintro e w12 ⟨rfl, FF12, v12⟩; have E12 := hid (E11.out.trans v12); have hlo := hid (HLo.out _ _ E12.out.held); clear hW2 v12)
          | (go_at_call 83; refine hlo.out.mono ?_; rintro e w13 ⟨rfl, FF13, v13⟩; have E13 := hid (E12.out.trans v13); have hlf := hid (HLf.out _ _ E13.out.held); clear hlo v13)
          | (go_at_call 84; refine hlf.out.mono ?_; rintro e w14 ⟨rfl, hw⟩; have hw' := hid hw; rw [hw'.out]; clear hw))
        go_ret2
        rw [HX.out]
        exact ⟨rfl, FF13, E13.out⟩
    | succ k =>
      have hd : decide ((i : Int) < (L : Int)) = true := by simp; omega
      have hdn : decide (i < L) = true := by simp; omega
      have hR := hid (xR' false EV.out.held OKr.out (by have := Tr.out; show r.s.T < 1000000; omega) (i : Int))
      have hi4 : (i : Int) ≤ 16384 := by omega
      have hn4 : (r.n : Int) ≤ 16384 := by omega
      by_cases hz : r.s.rdC false i = 0
      · have hT := hid (xR' true EV.out.held OKr.out (by have := Tr.out; show r.s.T < 1000000; omega) (i : Int))
        have HRN := hid (show RS.run false (L - 1) 1 ⟨M.s, 0⟩ = RS.run false k (i + 1) (r.step false i) by rw [Hrun.out, RS.run, if_pos hz])
        have OK2 := hid ((step_stp r false i).ok OKr.out)
        have T2 : Hid ((r.step false i).s.T + 2 * k < 998850) := hid (by have := (step_stp r false i).T OKr.out; have := Tr.out; omega)
        have L2 : Hid ((r.step false i).s.len false = L) := hid (((step_stp r false i).len OKr.out false).trans Hlr.out)
        have hW := hid (pW true EV.out.held OKr.out (by have := Tr.out; show r.s.T < 1000000; omega) (i : Int) (r.s.rdS false i) (Nat.le_trans (Nat.le_of_eq (mt_rd_size (OKr.out.g false) _ _ hz)) (by decide)))
        have hst : RS.step r false i = if r.s.rdS false i = r.s.rdS true i then r else ⟨r.s.wr true i (r.s.rdS false i), r.n + 1⟩ := rfl
        rw [show (MS.mk r.s M.c0 M.c1 M.g).s = r.s from rfl] at hR hT hW
        rw [hz] at hR
        by_cases he : r.s.rdS false i = r.s.rdS true i
        · have hne : ((r.s.rdS false i).toList == (r.s.rdS true i).toList) = true := by rw [mt_beq]; exact decide_eq_true he
          rw [if_pos he] at hst
          rw [hst] at HRN OK2 T2 L2
          generalize r.s.rdS false i = S1 at *
          generalize r.s.rdS true i = S2 at *
          clear hW hz he hst hik
          go_wp2_with (first
            | (go_at_call 41; (with_reducible refine hR.out.mono ?_); rintro e w7 ⟨rfl, hw⟩; have hw' := hid hw; rw [hw'.out]; clear hw hR)
            | (go_at_call 41; (with_reducible refine hT.out.mono ?_); rintro e w8 ⟨rfl, hw⟩; have hw'' := hid hw; rw [hw''.out]; clear hw hT))
          go_roundw
          case rel => exact ⟨i + 1, k, r, FF1, by go_num, rfl, by omega, hid (by have := Hik.out; omega), HRN, OK2, T2, by omega, L2, EV⟩
          case measure => have := Hik.out; simp [intOf]; omega
        · have hne : ((r.s.rdS false i).toList == (r.s.rdS true i).toList) = false := by rw [mt_beq]; exact decide_eq_false he
          rw [if_neg he] at hst
          rw [hst] at HRN OK2 T2 L2
          generalize r.s.rdS false i = S1 at *
          generalize r.s.rdS true i = S2 at *
          clear hz he hst hik
          go_wp2_with (first
            | (go_at_call 41; (with_reducible refine hR.out.mono ?_); rintro e w7 ⟨rfl, hw⟩; have hw' := hid hw; rw [hw'.out]; clear hw hR)
            | (go_at_call 41; (with_reducible refine hT.out.mono ?_); rintro e w8 ⟨rfl, hw⟩; have hw'' := hid hw; rw [hw''.out]; clear hw hT)
            | (go_at_call 37; (with_reducible refine hW.out.mono ?_); rintro e w9 ⟨rfl, FF8, v8⟩))
          go_roundw
          case rel => exact ⟨i + 1, k, _, FF8, by go_num, by go_num, by omega, hid (by have := Hik.out; omega), HRN, OK2, T2, by show r.n + 1 ≤ i + 1; omega, L2, hid (EV.out.trans v8)⟩
          case measure => have := Hik.out; simp [intOf]; omega
      · have u0 : (r.s.rdC false i != 0) = true := by simpa using hz
        have hlo := hid (plose_false EV.out.held OKr.out (by have := Tr.out; show r.s.T < 999990; omega))
        have HLf := hid fun (w1 : World) (FF2 : Bool → List Nat) (h1 : Held w1 (l ++ mirX pbs m db ib d FF2 (MS.lose ⟨r.s, M.c0, M.c1, M.g⟩ false))) => pleft_any h1
        have HM := hid (show M.rsMain false (RS.run false (L - 1) 1 ⟨M.s, 0⟩) = (MS.lose ⟨r.s, M.c0, M.c1, M.g⟩ false, r.n, (MS.lose ⟨r.s, M.c0, M.c1, M.g⟩ false).leftC) by rw [Hrun.out, RS.run, if_neg hz]; rfl)
        rw [show (MS.mk r.s M.c0 M.c1 M.g).s = r.s from rfl] at hR
        generalize MS.lose ⟨r.s, M.c0, M.c1, M.g⟩ false = ML at *
        generalize r.s.rdC false i = c at *
        generalize r.s.rdS false i = S1 at *
        clear hz hik
        go_wp2_with (first
          | (go_at_call 41; (with_reducible refine hR.out.mono ?_); rintro e w7 ⟨rfl, hw⟩; have hw' := hid hw; rw [hw'.out]; clear hw hR)
          | (go_at_call 83; refine hlo.out.mono ?_; rintro e w8 ⟨rfl, FF8, v8⟩; have E8 := hid (EV.out.trans v8); have hlf := HLf.out _ _ E8.out.held; clear HLf v8)
          | (go_at_call 84; refine hlf.mono ?_; rintro e w9 ⟨rfl, hw⟩; have hw'' := hid hw; rw [hw''.out]; clear hw))
        go_ret2
        rw [HM.out]
        exact ⟨rfl, FF8, E8.out⟩
set_option maxRecDepth 20000 in
set_option maxHeartbeats 8000000 in
theorem presync_main_true (h : Held w (l ++ mirX pbs m db ib d FF M)) (ok : SysOk M.s) (ht : M.s.T + 2 * M.s.len true < 998800) (h0 : M.c0 = false) (hc : M.c true = true) (hd : (M.s.X false).Dead = false) :
    Calls Tryz.prog 58 #[.pointer (some ⟨m, 0, none⟩)] w fun e w' => e = .returned (.tuple #[.int .i64 ((M.rsF true).2.1 : Int), .int .i64 (M.rsF true).2.2]) ∧ ∃ FF', Ev w (l ++ mirX pbs m db ib d FF M) w' (l ++ mirX pbs m db ib d FF' (M.rsF true).1) := by
  have HL := hid (plost_any h)
  have ha : M.any = true := by
    have hc' := hc
    unfold MS.c at hc'
    simp at hc'
    unfold MS.any
    simp [hc']
  rw [ha] at HL
  obtain ⟨b0, b1, i1, i2, i3, n0, n1, q0, q1⟩ := pis h
  obtain ⟨ka, ca, p0, p1, p2, p3⟩ := pfacts false h ok
  obtain ⟨kb, kc, _, y3⟩ := psee false h ok
  rw [hd] at y3
  rw [h0] at n0
  simp only [Bool.not_true, Bool.not_false] at n0
  have E0 := hid (Ev.refl h)
  have hRS : M.rsF true = M.rsMain true (RS.run true (M.s.len true - 1) 1 ⟨M.s, 0⟩) := by unfold MS.rsF; rw [show (!true) = false from rfl, if_neg (by rw [hd]; decide)]
  rw [hRS]
  have OK := hid ok
  have HT := hid ht
  have HLp := hid (len_pos ok true)
  obtain ⟨L, hL⟩ : ∃ L, M.s.len true = L := ⟨_, rfl⟩
  rw [hL] at HT HLp ⊢
  have HLe := hid hL
  clear h ok ht h0 hc hd ha n1 q0 q1 hL hRS p3
  go_enter Tryz.func58, Tryz.ntmps58
  go_wp2_with (go_at_call 82; refine HL.out.mono ?_; rintro e w1 ⟨rfl, e1⟩; have e1' := hid e1; rw [e1'.out]; clear e1 HL)
  clear i1 i2 i3 p0 p1 p2 y3 n0
  go_loopw [6, 7] (fun nv iv wr => ∃ (i k : Nat) (r : RS) (FF' : Bool → List Nat), iv = .int .i64 (i : Int) ∧ nv = .int .i64 (r.n : Int) ∧ 1 ≤ i ∧ Hid (i + k = L) ∧ Hid (RS.run true (L - 1) 1 ⟨M.s, 0⟩ = RS.run true k i r) ∧ Hid (SysOk r.s) ∧ Hid (r.s.T + 2 * k < 998850) ∧ r.n ≤ i ∧ Hid (r.s.len true = L) ∧ Hid (Ev w (l ++ mirX pbs m db ib d FF M) wr (l ++ mirX pbs m db ib d FF' { M with s := r.s }))) (fun _ iv _ => L - (intOf iv).toNat)
  case atStart => exact ⟨1, L - 1, ⟨M.s, 0⟩, FF, rfl, rfl, Nat.le_refl _, hid (by have := HLp.out; omega), hid rfl, OK, hid (by have := HT.out; show M.s.T + 2 * (L - 1) < 998850; omega), Nat.zero_le _, HLe, E0⟩
  case round =>
    obtain ⟨i, k, r, FF1, rfl, rfl, h1, Hik, Hrun, OKr, Tr, hn, Hlr, EV⟩ := hrel
    have hLe := HLp.out.2
    have hik := Hik.out
    obtain ⟨ka, ca, p0, p1, p2, p3⟩ := pfacts true EV.out.held OKr.out
    rw [show (MS.mk r.s M.c0 M.c1 M.g).s.len true = r.s.len true from rfl, Hlr.out] at p3
    clear E0
    cases k with
    | zero =>
      have hd : decide ((i : Int) < (L : Int)) = false := by simp; omega
      have hdn : decide (i < L) = false := by simp; omega
      have hadd : ∀ t, binOp .add t (W64 M.g) (.int .u64 1) = pure (W64 (M.g + 1)) := fun t => add_u64 t M.g 1
      have HM := hid (show M.rsMain true (RS.run true (L - 1) 1 ⟨M.s, 0⟩) = ((MS.rsEnd ⟨r.s, M.c0, M.c1, M.g⟩ true).1, r.n, (MS.rsEnd ⟨r.s, M.c0, M.c1, M.g⟩ true).2) by rw [Hrun.out]; rfl)
      have HE : Hid (MS.rsEnd ⟨r.s, M.c0, M.c1, M.g⟩ true = if (r.s.fl false).wrC true 0 (supS (M.g + 1) ((r.s.fl false).len true)) = 0 then (⟨((((r.s.fl false).wr true 0 (supS (M.g + 1) ((r.s.fl false).len true))).wr false 0 (supS (M.g + 1) ((r.s.fl false).len true))).fl true).fl false, true, true, M.g + 1⟩, 0) else (MS.lose ⟨(r.s.fl false).wr true 0 (supS (M.g + 1) ((r.s.fl false).len true)), M.c0, M.c1, M.g + 1⟩ true, (MS.lose ⟨(r.s.fl false).wr true 0 (supS (M.g + 1) ((r.s.fl false).len true)), M.c0, M.c1, M.g + 1⟩ true).leftC)) := hid rfl
      have OK2 := hid ((fl_stp r.s false).ok OKr.out)
      have T2 : Hid ((r.s.fl false).T < 998900) := hid (by have := (fl_stp r.s false).T OKr.out; have := Tr.out; omega)
      have hf1 := hid (pF false EV.out.held OKr.out (by have := Tr.out; show r.s.T < 1000000; omega))
      rw [show (MS.mk r.s M.c0 M.c1 M.g).s = r.s from rfl] at hf1
      generalize r.s.fl false = S2 at *
      have HU := hid fun w1 : World => rsuper_any (w := w1) (M.g + 1) (S2.len true) (len_pos OK2.out true).2
      have HPF := hid fun (w1 : World) (FF2 : Bool → List Nat) (h1 : Held w1 (l ++ mirX pbs m db ib d FF2 ⟨S2, M.c0, M.c1, M.g + 1⟩)) => pfacts true h1 OK2.out
      have HW2 := hid fun (w1 : World) (FF2 : Bool → List Nat) (h1 : Held w1 (l ++ mirX pbs m db ib d FF2 ⟨S2, M.c0, M.c1, M.g + 1⟩)) => pW true h1 OK2.out (Nat.lt_of_lt_of_le T2.out (by decide)) 0 (supS (M.g + 1) (S2.len true)) (by rw [supS_size]; decide)
      have OK3 := hid ((wr_stp S2 true 0 (supS (M.g + 1) (S2.len true))).ok OK2.out)
      have T3 : Hid ((S2.wr true 0 (supS (M.g + 1) (S2.len true))).T < 998910) := hid (by have := (wr_stp S2 true 0 (supS (M.g + 1) (S2.len true))).T OK2.out; have := T2.out; omega)
      have hsz := supS_size (M.g + 1) (S2.len true)
      rw [show (MS.mk S2 M.c0 M.c1 (M.g + 1)).s.len true = S2.len true from rfl] at HPF
      generalize supS (M.g + 1) (S2.len true) = Z at *
      generalize S2.len true = n2 at *
      have HKD := hid fun (w1 : World) (FF2 : Bool → List Nat) (S : Sys) (g : UInt64) (h1 : Held w1 (l ++ mirX pbs m db ib d FF2 ⟨S, M.c0, M.c1, g⟩)) => And.intro ((xir_blk h1).cell 0) (And.intro ((xir_dbl h1).cell 0) ((xir_dbl h1).cell 1))
      clear hik Hlr Hrun
      go_wp2_with (first
        | (go_at_call 38; (with_reducible refine hf1.out.mono ?_); rintro e w7 ⟨rfl, FF7, v7⟩; have E7 := hid (EV.out.trans v7); have b7 := xir_blk E7.out.held; have k7 : w7.cell? ⟨m, 2, none⟩ = some (W64 M.g) := b7.cell 2; clear v7)
        | (refine wpList_put rfl _ _ _ rfl rfl (W64 (M.g + 1)) rfl rfl b7 (by simp [gmL]) (by kernel_rfl) ?_; intro w8 f8 b8 hs8; have E8 := hid (xir_gen E7.out f8 (g := M.g + 1) b8); clear b7 k7 b8 f8; simp only [World.size_alloc, World.size_drew, Act.put, List.setIfInBounds_toArray, List.set_cons_succ, List.set_cons_zero]))
      have E9 := hid (show Ev w (l ++ mirX pbs m db ib d FF M) w8.drew (l ++ mirX pbs m db ib d FF7 ⟨S2, M.c0, M.c1, M.g + 1⟩) from E8.out.step (Fr.refl [] w8).drew)
      obtain ⟨ja, jc, j0, j1, j2, j3⟩ := HPF.out _ _ E9.out.held
      have j4 : w8.drew.cell? ⟨m, 2, none⟩ = some (W64 (M.g + 1)) := (xir_blk E9.out.held).cell 2
      clear hf1 hd hdn p0 p1 p2 p3
      refine wp_region_D (fun _ => True) false [] (by kernel_rfl) ?_
      refine WD.pure [0, 1, 2, 3, 4, 5, 6, 7, 8, 9, 10, 11, 12, 13, 14] (by kernel_rfl) trivial ?_
      simp only [pick, List.toList_toArray, List.map_cons, List.map_nil, List.getD_cons_succ, List.getD_cons_zero]
      repeat (first | go_big_quiet_step (fail))
      refine wpQuiet_nil ?_
      refine WD.eff 15 (by kernel_rfl) ?_
      simp only [pick, List.toList_toArray, List.map_cons, List.map_nil, List.getD_cons_succ, List.getD_cons_zero]
      go_wp2_with (go_at_call 36; refine (HU.out _).mono ?_; rintro e w11 ⟨rfl, f11⟩)
      have E11 := hid (E9.out.step f11)
      obtain ⟨z0, z1, z2⟩ := HKD.out _ _ _ _ E11.out.held
      clear j0 j1 j2 j3 j4
      have z0' : w11.cell? ⟨m, 0, none⟩ = some (.slice (some ⟨db, 0, none⟩) 2 2) := z0
      have z1' : w11.cell? ⟨db, 0, none⟩ = some (.pointer (some ⟨d false, 0, none⟩)) := z1
      have z2' : w11.cell? ⟨db, 1, none⟩ = some (.pointer (some ⟨d true, 0, none⟩)) := z2
      clear z0 z1 z2
      try refine wpList_nil ?_
      refine AfterD.on trivial (by kernel_rfl) ?_
      try simp only [World.size_alloc, World.size_drew, Act.put, List.setIfInBounds_toArray, List.set_cons_succ, List.set_cons_zero]
      refine WD.pure [16] (by kernel_rfl) trivial ?_
      simp only [pick, List.toList_toArray, List.map_cons, List.map_nil, List.getD_cons_succ, List.getD_cons_zero]
      repeat (first | go_big_quiet_step (fail))
      refine wpQuiet_nil ?_
      refine WD.done (by kernel_rfl) ?_
      have hW2 := hid (HW2.out _ _ E11.out.held)
      clear HW2 HU
      by_cases he : S2.wrC true 0 Z = 0
      · have HX := hid (HM.out.trans (by rw [HE.out.trans (if_pos he)]))
        have OK4 := hid ((wr_stp (S2.wr true 0 Z) false 0 Z).ok OK3.out)
        have T4 : Hid (((S2.wr true 0 Z).wr false 0 Z).T < 998920) := hid (by have := (wr_stp (S2.wr true 0 Z) false 0 Z).T OK3.out; have := T3.out; omega)
        have OK5 := hid ((fl_stp ((S2.wr true 0 Z).wr false 0 Z) true).ok OK4.out)
        have T5 : Hid ((((S2.wr true 0 Z).wr false 0 Z).fl true).T < 998930) := hid (by have := (fl_stp ((S2.wr true 0 Z).wr false 0 Z) true).T OK4.out; have := T4.out; omega)
        have HW3 := hid fun (w1 : World) (FF2 : Bool → List Nat) (h1 : Held w1 (l ++ mirX pbs m db ib d FF2 ⟨S2.wr true 0 Z, M.c0, M.c1, M.g + 1⟩)) => pW false h1 OK3.out (Nat.lt_of_lt_of_le T3.out (by decide)) 0 Z (by rw [hsz]; decide)
        have HF4 := hid fun (w1 : World) (FF2 : Bool → List Nat) (h1 : Held w1 (l ++ mirX pbs m db ib d FF2 ⟨(S2.wr true 0 Z).wr false 0 Z, M.c0, M.c1, M.g + 1⟩)) => pF true h1 OK4.out (Nat.lt_of_lt_of_le T4.out (by decide))
        have HF5 := hid fun (w1 : World) (FF2 : Bool → List Nat) (h1 : Held w1 (l ++ mirX pbs m db ib d FF2 ⟨((S2.wr true 0 Z).wr false 0 Z).fl true, M.c0, M.c1, M.g + 1⟩)) => pF false h1 OK5.out (Nat.lt_of_lt_of_le T5.out (by decide))
        rw [he] at hW2
        clear HE he HM hsz
        go_wp2_with (first
          | (go_at_call 37; (with_reducible refine hW2.out.mono ?_); rintro e w12 ⟨rfl, FF12, v12⟩; have E12 := hid (E11.out.trans v12); have hW3 := hid (HW3.out _ _ E12.out.held); obtain ⟨y0, y1, y2⟩ := HKD.out _ _ _ _ E12.out.held; have y0' : w12.cell? ⟨m, 0, none⟩ = some (.slice (some ⟨db, 0, none⟩) 2 2) := y0; have y1' : w12.cell? ⟨db, 0, none⟩ = some (.pointer (some ⟨d false, 0, none⟩)) := y1; have y2' : w12.cell? ⟨db, 1, none⟩ = some (.pointer (some ⟨d true, 0, none⟩)) := y2; clear hW2 v12 y0 y1 y2)
          | (go_at_call 37; (with_reducible refine hW3.out.mono ?_); rintro e w13 ⟨rfl, FF13, v13⟩; have E13 := hid (E12.out.trans v13); have hF4 := hid (HF4.out _ _ E13.out.held); obtain ⟨x0, x1, x2⟩ := HKD.out _ _ _ _ E13.out.held; have x0' : w13.cell? ⟨m, 0, none⟩ = some (.slice (some ⟨db, 0, none⟩) 2 2) := x0; have x1' : w13.cell? ⟨db, 0, none⟩ = some (.pointer (some ⟨d false, 0, none⟩)) := x1; have x2' : w13.cell? ⟨db, 1, none⟩ = some (.pointer (some ⟨d true, 0, none⟩)) := x2; clear hW3 v13 x0 x1 x2)
          | (go_at_call 38; (with_reducible refine hF4.out.mono ?_); rintro e w14 ⟨rfl, FF14, v14⟩; have E14 := hid (E13.out.trans v14); have hF5 := hid (HF5.out _ _ E14.out.held); obtain ⟨u0, u1, u2⟩ := HKD.out _ _ _ _ E14.out.held; have u0' : w14.cell? ⟨m, 0, none⟩ = some (.slice (some ⟨db, 0, none⟩) 2 2) := u0; have u1' : w14.cell? ⟨db, 0, none⟩ = some (.pointer (some ⟨d false, 0, none⟩)) := u1; have u2' : w14.cell? ⟨db, 1, none⟩ = some (.pointer (some ⟨d true, 0, none⟩)) := u2; clear hF4 v14 u0 u1 u2)
          | (go_at_call 38; (with_reducible refine hF5.out.mono ?_); rintro e w15 ⟨rfl, FF15, v15⟩; have E15 := hid (E14.out.trans v15); obtain ⟨c0, c1, b15, _, _⟩ := xir_is E15.out.held; have i15 : w15.cell? ⟨m, 1, none⟩ = some (.slice (some ⟨ib, 0, none⟩) 2 2) := (xir_blk E15.out.held).cell 1; have HI15 := hid fun (w2 : World) (f : Fr [ib] w15 w2) => f; clear hF5 v15)
          | (refine wpList_put rfl _ _ _ rfl rfl (.int .i64 0) rfl rfl b15 (by simp) (by kernel_rfl) ?_; intro w16 f16 b16 hs16; have b16' : Blk w16 ib [.int .i64 0, .int .i64 c1] := b16; have E16 := hid (xir_put (M' := ⟨(((S2.wr true 0 Z).wr false 0 Z).fl true).fl false, true, decide (c1 = 0), M.g + 1⟩) E15.out f16 b16' rfl rfl rfl rfl); have i16 : w16.cell? ⟨m, 1, none⟩ = some (.slice (some ⟨ib, 0, none⟩) 2 2) := (xir_blk E16.out.held).cell 1; clear b15 b16 f16; simp only [World.size_alloc, World.size_drew, Act.put, List.setIfInBounds_toArray, List.set_cons_succ, List.set_cons_zero])
          | (refine wpList_put rfl _ _ _ rfl rfl (.int .i64 0) rfl rfl b16' (by simp) (by kernel_rfl) ?_; intro w17 f17 b17 hs17; have b17' : Blk w17 ib [.int .i64 0, .int .i64 0] := b17; have E17 := hid (xir_put (M' := ⟨(((S2.wr true 0 Z).wr false 0 Z).fl true).fl false, true, true, M.g + 1⟩) E16.out f17 b17' rfl rfl rfl rfl); clear b17 b16' f17; simp only [World.size_alloc, World.size_drew, Act.put, List.setIfInBounds_toArray, List.set_cons_succ, List.set_cons_zero]))
        go_ret2
        rw [HX.out]
        exact ⟨rfl, FF15, E17.out⟩
      · have u0 : (S2.wrC true 0 Z != 0) = true := by simpa using he
        have HX := hid (HM.out.trans (by rw [HE.out.trans (if_neg he)]))
        have HLo := hid fun (w1 : World) (FF2 : Bool → List Nat) (h1 : Held w1 (l ++ mirX pbs m db ib d FF2 ⟨S2.wr true 0 Z, M.c0, M.c1, M.g + 1⟩)) => plose_true h1 OK3.out (Nat.lt_of_lt_of_le T3.out (by decide))
        have HLf := hid fun (w1 : World) (FF2 : Bool → List Nat) (h1 : Held w1 (l ++ mirX pbs m db ib d FF2 (MS.lose ⟨S2.wr true 0 Z, M.c0, M.c1, M.g + 1⟩ true))) => pleft_any h1
        clear HE he HM
        generalize MS.lose ⟨S2.wr true 0 Z, M.c0, M.c1, M.g + 1⟩ true = ML at *
        generalize S2.wrC true 0 Z = c at *
        go_wp2_with (first
          | (go_at_call 37; (with_reducible refine hW2.out.mono ?_); rintro e w12 ⟨rfl, FF12, v12⟩; have E12 := hid (E11.out.trans v12); have hlo := hid (HLo.out _ _ E12.out.held); clear hW2 v12)
          | (go_at_call 83; refine hlo.out.mono ?_; rintro e w13 ⟨rfl, FF13, v13⟩; have E13 := hid (E12.out.trans v13); have hlf := hid (HLf.out _ _ E13.out.held); clear hlo v13)
          | (go_at_call 84; refine hlf.out.mono ?_; rintro e w14 ⟨rfl, hw⟩; have hw' := hid hw; rw [hw'.out]; clear hw))
        go_ret2
        rw [HX.out]
        exact ⟨rfl, FF13, E13.out⟩
    | succ k =>
      have hd : decide ((i : Int) < (L : Int)) = true := by simp; omega
      have hdn : decide (i < L) = true := by simp; omega
      have hR := hid (xR' true EV.out.held OKr.out (by have := Tr.out; show r.s.T < 1000000; omega) (i : Int))
      have hi4 : (i : Int) ≤ 16384 := by omega
      have hn4 : (r.n : Int) ≤ 16384 := by omega
      by_cases hz : r.s.rdC true i = 0
      · have hT := hid (xR' false EV.out.held OKr.out (by have := Tr.out; show r.s.T < 1000000; omega) (i : Int))
        have HRN := hid (show RS.run true (L - 1) 1 ⟨M.s, 0⟩ = RS.run true k (i + 1) (r.step true i) by rw [Hrun.out, RS.run, if_pos hz])
        have OK2 := hid ((step_stp r true i).ok OKr.out)
        have T2 : Hid ((r.step true i).s.T + 2 * k < 998850) := hid (by have := (step_stp r true i).T OKr.out; have := Tr.out; omega)
        have L2 : Hid ((r.step true i).s.len true = L) := hid (((step_stp r true i).len OKr.out true).trans Hlr.out)
        have hW := hid (pW false EV.out.held OKr.out (by have := Tr.out; show r.s.T < 1000000; omega) (i : Int) (r.s.rdS true i) (Nat.le_trans (Nat.le_of_eq (mt_rd_size (OKr.out.g true) _ _ hz)) (by decide)))
        have hst : RS.step r true i = if r.s.rdS true i = r.s.rdS false i then r else ⟨r.s.wr false i (r.s.rdS true i), r.n + 1⟩ := rfl
        rw [show (MS.mk r.s M.c0 M.c1 M.g).s = r.s from rfl] at hR hT hW
        rw [hz] at hR
        by_cases he : r.s.rdS true i = r.s.rdS false i
        · have hne : ((r.s.rdS true i).toList == (r.s.rdS false i).toList) = true := by rw [mt_beq]; exact decide_eq_true he
          rw [if_pos he] at hst
          rw [hst] at HRN OK2 T2 L2
          generalize r.s.rdS true i = S1 at *
          generalize r.s.rdS false i = S2 at *
          clear hW hz he hst hik
          go_wp2_with (first
            | (go_at_call 41; (with_reducible refine hR.out.mono ?_); rintro e w7 ⟨rfl, hw⟩; have hw' := hid hw; rw [hw'.out]; clear hw hR)
            | (go_at_call 41; (with_reducible refine hT.out.mono ?_); rintro e w8 ⟨rfl, hw⟩; have hw'' := hid hw; rw [hw''.out]; clear hw hT))
          go_roundw
          case rel => exact ⟨i + 1, k, r, FF1, by go_num, rfl, by omega, hid (by have := Hik.out; omega), HRN, OK2, T2, by omega, L2, EV⟩
          case measure => have := Hik.out; simp [intOf]; omega
        · have hne : ((r.s.rdS true i).toList == (r.s.rdS false i).toList) = false := by rw [mt_beq]; exact decide_eq_false he
          rw [if_neg he] at hst
          rw [hst] at HRN OK2 T2 L2
          generalize r.s.rdS true i = S1 at *
          generalize r.s.rdS false i = S2 at *
          clear hz he hst hik
          go_wp2_with (first
            | (go_at_call 41; (with_reducible refine hR.out.mono ?_); rintro e w7 ⟨rfl, hw⟩; have hw' := hid hw; rw [hw'.out]; clear hw hR)
            | (go_at_call 41; (with_reducible refine hT.out.mono ?_); rintro e w8 ⟨rfl, hw⟩; have hw'' := hid hw; rw [hw''.out]; clear hw hT)
            | (go_at_call 37; (with_reducible refine hW.out.mono ?_); rintro e w9 ⟨rfl, FF8, v8⟩))
          go_roundw
          case rel => exact ⟨i + 1, k, _, FF8, by go_num, by go_num, by omega, hid (by have := Hik.out; omega), HRN, OK2, T2, by show r.n + 1 ≤ i + 1; omega, L2, hid (EV.out.trans v8)⟩
          case measure => have := Hik.out; simp [intOf]; omega
      · have u0 : (r.s.rdC true i != 0) = true := by simpa using hz
        have hlo := hid (plose_true EV.out.held OKr.out (by have := Tr.out; show r.s.T < 999990; omega))
        have HLf := hid fun (w1 : World) (FF2 : Bool → List Nat) (h1 : Held w1 (l ++ mirX pbs m db ib d FF2 (MS.lose ⟨r.s, M.c0, M.c1, M.g⟩ true))) => pleft_any h1
        have HM := hid (show M.rsMain true (RS.run true (L - 1) 1 ⟨M.s, 0⟩) = (MS.lose ⟨r.s, M.c0, M.c1, M.g⟩ true, r.n, (MS.lose ⟨r.s, M.c0, M.c1, M.g⟩ true).leftC) by rw [Hrun.out, RS.run, if_neg hz]; rfl)
        rw [show (MS.mk r.s M.c0 M.c1 M.g).s = r.s from rfl] at hR
        generalize MS.lose ⟨r.s, M.c0, M.c1, M.g⟩ true = ML at *
        generalize r.s.rdC true i = c at *
        generalize r.s.rdS true i = S1 at *
        clear hz hik
        go_wp2_with (first
          | (go_at_call 41; (with_reducible refine hR.out.mono ?_); rintro e w7 ⟨rfl, hw⟩; have hw' := hid hw; rw [hw'.out]; clear hw hR)
          | (go_at_call 83; refine hlo.out.mono ?_; rintro e w8 ⟨rfl, FF8, v8⟩; have E8 := hid (EV.out.trans v8); have hlf := HLf.out _ _ E8.out.held; clear HLf v8)
          | (go_at_call 84; refine hlf.mono ?_; rintro e w9 ⟨rfl, hw⟩; have hw'' := hid hw; rw [hw''.out]; clear hw))
        go_ret2
        rw [HM.out]
        exact ⟨rfl, FF8, E8.out⟩
theorem presync_any (h : Held w (l ++ mirX pbs m db ib d FF M)) (ok : SysOk M.s) (ht : M.s.T + 2 * M.s.len (!M.c0) < 998800) :
    Calls Tryz.prog 58 #[.pointer (some ⟨m, 0, none⟩)] w fun e w' => e = .returned (.tuple #[.int .i64 (M.rs.2.1 : Int), .int .i64 M.rs.2.2]) ∧ ∃ FF', Ev w (l ++ mirX pbs m db ib d FF M) w' (l ++ mirX pbs m db ib d FF' M.rs.1) := by
  cases ha : M.any with
  | false =>
    have e1 : M.rs = (M, 0, 70) := by unfold MS.rs; rw [if_neg (by rw [ha]; decide)]
    rw [e1]
    refine (presync_lost h ha).mono ?_
    rintro e w' ⟨rfl, rfl⟩
    exact ⟨rfl, FF, Ev.refl h⟩
  | true =>
    have hc : M.c (!M.c0) = true := by
      unfold MS.any at ha
      cases h0 : M.c0
      · rw [h0] at ha; exact ha
      · exact h0
    have e1 : M.rs = M.rsF (!M.c0) := by unfold MS.rs; rw [if_pos ha]
    rw [e1]
    cases h0 : M.c0 with
    | true =>
      rw [h0] at hc ht
      simp only [Bool.not_true] at hc ht ⊢
      cases hd : (M.s.X true).Dead with
      | true =>
        have e2 : M.rsF false = (M.rsDead false, 0, (M.rsDead false).leftC) := by unfold MS.rsF; exact if_pos hd
        rw [e2]
        exact presync_dead_false h ok (by omega) h0 hc hd
      | false => exact presync_main_false h ok ht h0 hc hd
    | false =>
      rw [h0] at hc ht
      simp only [Bool.not_false] at hc ht ⊢
      cases hd : (M.s.X false).Dead with
      | true =>
        have e2 : M.rsF true = (M.rsDead true, 0, (M.rsDead true).leftC) := by unfold MS.rsF; exact if_pos hd
        rw [e2]
        exact presync_dead_true h ok (by omega) h0 hc hd
      | false => exact presync_main_true h ok ht h0 hc hd
end
end Go.Proofs.YtjgagcpmoffldaaGreat
