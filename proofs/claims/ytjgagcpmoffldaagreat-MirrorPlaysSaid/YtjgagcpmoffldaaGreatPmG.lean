/- Layer 7 (great seat): Read and Other of the document's mirror. -/
import Derived.Test.YtjgagcpmoffldaaGreatPmF
import Derived.Test.YtjgagcpmoffldaaGreatGMirB
namespace Go.Proofs.YtjgagcpmoffldaaGreat
open Go Go.Xr Go.RowKit
set_option linter.unusedVariables false
set_option linter.unusedSimpArgs false
theorem xR' {w : World} {l : List Res} {pbs : List Nat} {m db ib : Nat} {M : MS} {d : Bool → Nat} {FF : Bool → List Nat} (b : Bool) (h : Held w (l ++ mirX pbs m db ib d FF M)) (ok : SysOk M.s) (ht : M.s.T < 1000000) (j : Int) :
    Calls Tryz.prog 41 #[.pointer (some ⟨d b, 0, none⟩), .int .i64 j] w fun e w' => e = .returned (.tuple #[.string (M.s.rdS b j), .int .i64 (M.s.rdC b j)]) ∧ w' = w := xR b (xir_sys h) ok ht j
theorem rd_in {M : MS} {i : Int} (h : M.atC i = M.leftC) : M.rd i = M.rd0 i := by
  unfold MS.rd
  rw [h]
  cases ha : M.any with
  | true =>
    rw [if_pos (by unfold MS.leftC; rw [ha]; rfl)]
  | false =>
    have hl : M.leftC = 70 := by unfold MS.leftC; rw [ha]; rfl
    have h2 : M.c0 = false ∧ M.c1 = false := by unfold MS.any at ha; simpa using ha
    rw [hl, if_neg (by decide)]
    unfold MS.rd0 MS.rd1
    rw [h2.1, h2.2]
    rfl
section
variable {w w' w0 : World} {l rs : List Res} {pbs : List Nat} {m db ib : Nat} {M M' : MS} {d : Bool → Nat} {FF FF' : Bool → List Nat}
set_option maxRecDepth 20000 in
set_option maxHeartbeats 4000000 in
theorem pread_any (h : Held w (l ++ mirX pbs m db ib d FF M)) (ok : SysOk M.s) (ht : M.s.T < 999800) (i : Int) :
    Calls Tryz.prog 53 #[.pointer (some ⟨m, 0, none⟩), .int .i64 i] w fun e w' => e = .returned (.tuple #[.string (M.rd i).2.1, .int .i64 (M.rd i).2.2]) ∧ ∃ FF', Ev w (l ++ mirX pbs m db ib d FF M) w' (l ++ mirX pbs m db ib d FF' (M.rd i).1) := by
  have HY := hid (pmay_any h ok i)
  have E0 := hid (Ev.refl h)
  cases hm : mayB (M.s.len false) i with
  | false =>
    have ha := pmayB_at M i hm
    have e1 : M.rd i = (M, ⟨#[]⟩, 2) := by unfold MS.rd; rw [ha]; rfl
    rw [e1]
    rw [hm] at HY
    clear h ok ht hm ha e1
    go_enter Tryz.func53, Tryz.ntmps53
    go_wp2_with (go_at_call 81; refine HY.out.mono ?_; rintro e w1 ⟨rfl, e1⟩; have e1' := hid e1; rw [e1'.out]; clear e1)
    go_ret2
    exact ⟨rfl, FF, E0.out⟩
  | true =>
    obtain ⟨ha, hi0, hi1⟩ := pmayB_in M i hm
    rw [hm] at HY
    rw [rd_in ha]
    have hlen := (len_pos ok false).2
    have hib' : i ≤ 16384 := by omega
    obtain ⟨I, hI⟩ : ∃ I, i + 1 = I := ⟨_, rfl⟩
    have HI := hid hI
    have HT := hid ht
    have HOK := hid ok
    obtain ⟨R, hR⟩ : ∃ R, M.rd0 i = R := ⟨_, rfl⟩
    rw [hR]
    have H00 := hid fun hc : M.c false = false => (show R = M.rd1 i from by rw [← hR]; unfold MS.rd0; rw [show M.c0 = false from hc]; rfl)
    have H01 := hid fun (hc : M.c false = true) (st : ByteArray) (z : M.s.rdC false I = 0) (hs : M.s.rdS false I = st) => (show R = (M, st, 0) from by rw [← hR, ← hs, ← hI]; unfold MS.rd0; rw [show M.c0 = true from hc, hI, if_pos rfl, if_pos z])
    have H02 := hid fun (hc : M.c false = true) (z : M.s.rdC false I ≠ 0) => (show R = (M.lose false).rd1 i from by rw [← hR]; unfold MS.rd0; rw [show M.c0 = true from hc, hI, if_pos rfl, if_neg z])
    clear h ok ht hm ha hlen hi1 hR hI
    go_enter Tryz.func53, Tryz.ntmps53
    go_wp2_with (go_at_call 81; refine HY.out.mono ?_; rintro e w1 ⟨rfl, e1⟩; have e1' := hid e1; rw [e1'.out]; clear e1)
    clear HY
    go_loopw [6] (fun kv wr => ∃ (q : Nat) (FF' : Bool → List Nat) (Mx : MS), q ≤ 2 ∧ kv = .int .i64 (q : Int) ∧ Hid (Ev w (l ++ mirX pbs m db ib d FF M) wr (l ++ mirX pbs m db ib d FF' Mx)) ∧ Hid (SysOk Mx.s) ∧ Hid (Mx.s.T < 999800 + 10 * q) ∧ (q = 0 → Mx = M) ∧ (q = 1 → Hid (R = Mx.rd1 i)) ∧ (q = 2 → Hid (R = (Mx, ⟨#[]⟩, 70)))) (fun kv _ => 2 - (intOf kv).toNat)
    case atStart => exact ⟨0, FF, M, by decide, rfl, E0, HOK, hid (by have := HT.out; omega), fun _ => rfl, (fun h => absurd h (by decide)), (fun h => absurd h (by decide))⟩
    case round =>
      obtain ⟨q, FF1, Mx, hq, rfl, E, OK, TX, g0, g1, g2⟩ := hrel
      clear E0 HOK HT
      have hq3 : q = 0 ∨ q = 1 ∨ q = 2 := by omega
      rcases hq3 with rfl | rfl | rfl
      · obtain rfl := g0 rfl
        clear g0 g1 g2
        rw [show ((0 : Nat) : Int) = 0 from rfl]
        obtain ⟨b0, b1, hib, hb0, hb1⟩ := xir_is E.out.held
        have i1 : wr.cell? ⟨m, 1, none⟩ = some (.slice (some ⟨ib, 0, none⟩) 2 2) := (xir_blk E.out.held).cell 1
        have i2 : wr.cell? ⟨ib, 0, none⟩ = some (.int .i64 b0) := hib.cell 0
        cases hc : Mx.c false with
        | false =>
          have hz : (b0 != 0) = true := by
            have : decide (b0 = 0) = false := hb0.symm.trans hc
            simpa using this
          have HS := hid ((fun hc => H00.out hc) hc)
          clear hib hb0 hb1 hc
          go_wp2_with fail
          go_roundw
          case rel => exact ⟨0 + 1, FF1, Mx, by decide, by first | rfl | go_num, E, OK, hid (by have := TX.out; omega), (fun h => absurd h (by decide)), fun _ => HS, (fun h => absurd h (by decide))⟩
          case measure => simp [intOf]
        | true =>
          have hz : b0 = 0 := by
            have : decide (b0 = 0) = true := hb0.symm.trans hc
            simpa using this
          have hz2 : (b0 != 0) = false := by simp [hz]
          have k0 : wr.cell? ⟨m, 0, none⟩ = some (.slice (some ⟨db, 0, none⟩) 2 2) := (xir_blk E.out.held).cell 0
          have d0 : wr.cell? ⟨db, 0, none⟩ = some (.pointer (some ⟨d false, 0, none⟩)) := (xir_dbl E.out.held).cell 0
          have HR := hid (xR' false E.out.held OK.out (by have := TX.out; omega) I)
          have HLo := hid fun (w1 : World) (h1 : Held w1 (l ++ mirX pbs m db ib d FF1 Mx)) => plose_false h1 OK.out (by have := TX.out; omega)
          obtain ⟨ec, hec⟩ : ∃ ec, Mx.s.rdC false I = ec := ⟨_, rfl⟩
          obtain ⟨st, hst⟩ : ∃ st, Mx.s.rdS false I = st := ⟨_, rfl⟩
          rw [hec, hst] at HR
          clear hib hb0 hb1 hz
          by_cases z1 : ec = 0
          · have HS := hid ((fun hc z hs => H01.out hc _ z hs) hc (hec.trans z1) hst)
            subst z1
            clear HLo hc hec hst
            go_wp2_with (go_at_call 41; rw [HI.out]; refine HR.out.mono ?_; rintro e w5 ⟨rfl, e5⟩; have e5' := hid e5; rw [e5'.out]; clear e5)
            go_ret2
            rw [HS.out]
            exact ⟨rfl, FF1, E.out⟩
          · have HS := hid ((fun hc z => H02.out hc z) hc (fun e => z1 (hec.symm.trans e)))
            have u1 : (ec == 0) = false := by simpa using z1
            clear hc z1 hec hst
            go_wp2_with (first
              | (go_at_call 41; rw [HI.out]; refine HR.out.mono ?_; rintro e w5 ⟨rfl, e5⟩; have e5' := hid e5; rw [e5'.out]; clear e5)
              | (go_at_call 83; refine (HLo.out _ E.out.held).mono ?_; rintro e w6 ⟨rfl, FF6, v6⟩; have E6 := hid (E.out.trans v6); clear v6 HLo))
            go_roundw
            case rel => exact ⟨0 + 1, FF6, Mx.lose false, by decide, by first | rfl | go_num, E6, hid ((lose_stp Mx false).ok OK.out), hid (by have := (lose_stp Mx false).T OK.out; have := TX.out; omega), (fun h => absurd h (by decide)), fun _ => HS, (fun h => absurd h (by decide))⟩
            case measure => simp [intOf]
      · have G := (g1 rfl)
        clear g0 g1 g2 H00 H01 H02
        rw [show ((1 : Nat) : Int) = 1 from rfl]
        have K0 := hid fun hc : Mx.c true = false => (show R = (Mx, ⟨#[]⟩, 70) from by rw [G.out]; unfold MS.rd1; rw [show Mx.c1 = false from hc]; rfl)
        have K1 := hid fun (hc : Mx.c true = true) (st : ByteArray) (z : Mx.s.rdC true I = 0) (hs : Mx.s.rdS true I = st) => (show R = (Mx, st, 0) from by rw [G.out, ← hs, ← HI.out]; unfold MS.rd1; rw [show Mx.c1 = true from hc, HI.out, if_pos rfl, if_pos z])
        have K2 := hid fun (hc : Mx.c true = true) (z : Mx.s.rdC true I ≠ 0) => (show R = (Mx.lose true, ⟨#[]⟩, 70) from by rw [G.out]; unfold MS.rd1; rw [show Mx.c1 = true from hc, HI.out, if_pos rfl, if_neg z])
        obtain ⟨b0, b1, hib, hb0, hb1⟩ := xir_is E.out.held
        have i1 : wr.cell? ⟨m, 1, none⟩ = some (.slice (some ⟨ib, 0, none⟩) 2 2) := (xir_blk E.out.held).cell 1
        have i2 : wr.cell? ⟨ib, 1, none⟩ = some (.int .i64 b1) := hib.cell 1
        cases hc : Mx.c true with
        | false =>
          have hz : (b1 != 0) = true := by
            have : decide (b1 = 0) = false := hb1.symm.trans hc
            simpa using this
          have HS := hid ((fun hc => K0.out hc) hc)
          clear hib hb0 hb1 hc
          go_wp2_with fail
          go_roundw
          case rel => exact ⟨1 + 1, FF1, Mx, by decide, by first | rfl | go_num, E, OK, hid (by have := TX.out; omega), (fun h => absurd h (by decide)), (fun h => absurd h (by decide)), fun _ => HS⟩
          case measure => simp [intOf]
        | true =>
          have hz : b1 = 0 := by
            have : decide (b1 = 0) = true := hb1.symm.trans hc
            simpa using this
          have hz2 : (b1 != 0) = false := by simp [hz]
          have k0 : wr.cell? ⟨m, 0, none⟩ = some (.slice (some ⟨db, 0, none⟩) 2 2) := (xir_blk E.out.held).cell 0
          have d0 : wr.cell? ⟨db, 1, none⟩ = some (.pointer (some ⟨d true, 0, none⟩)) := (xir_dbl E.out.held).cell 1
          have HR := hid (xR' true E.out.held OK.out (by have := TX.out; omega) I)
          have HLo := hid fun (w1 : World) (h1 : Held w1 (l ++ mirX pbs m db ib d FF1 Mx)) => plose_true h1 OK.out (by have := TX.out; omega)
          obtain ⟨ec, hec⟩ : ∃ ec, Mx.s.rdC true I = ec := ⟨_, rfl⟩
          obtain ⟨st, hst⟩ : ∃ st, Mx.s.rdS true I = st := ⟨_, rfl⟩
          rw [hec, hst] at HR
          clear hib hb0 hb1 hz
          by_cases z1 : ec = 0
          · have HS := hid ((fun hc z hs => K1.out hc _ z hs) hc (hec.trans z1) hst)
            subst z1
            clear HLo hc hec hst
            go_wp2_with (go_at_call 41; rw [HI.out]; refine HR.out.mono ?_; rintro e w5 ⟨rfl, e5⟩; have e5' := hid e5; rw [e5'.out]; clear e5)
            go_ret2
            rw [HS.out]
            exact ⟨rfl, FF1, E.out⟩
          · have HS := hid ((fun hc z => K2.out hc z) hc (fun e => z1 (hec.symm.trans e)))
            have u1 : (ec == 0) = false := by simpa using z1
            clear hc z1 hec hst
            go_wp2_with (first
              | (go_at_call 41; rw [HI.out]; refine HR.out.mono ?_; rintro e w5 ⟨rfl, e5⟩; have e5' := hid e5; rw [e5'.out]; clear e5)
              | (go_at_call 83; refine (HLo.out _ E.out.held).mono ?_; rintro e w6 ⟨rfl, FF6, v6⟩; have E6 := hid (E.out.trans v6); clear v6 HLo))
            go_roundw
            case rel => exact ⟨1 + 1, FF6, Mx.lose true, by decide, by first | rfl | go_num, E6, hid ((lose_stp Mx true).ok OK.out), hid (by have := (lose_stp Mx true).T OK.out; have := TX.out; omega), (fun h => absurd h (by decide)), (fun h => absurd h (by decide)), fun _ => HS⟩
            case measure => simp [intOf]
      · have G := (g2 rfl)
        clear g0 g1 g2
        go_wp2_with fail
        go_ret2
        rw [G.out]
        exact ⟨rfl, FF1, E.out⟩
set_option maxRecDepth 20000 in
set_option maxHeartbeats 4000000 in
theorem pother_any (h : Held w (l ++ mirX pbs m db ib d FF M)) (ok : SysOk M.s) (ht : M.s.T < 999800) (i : Int) :
    Calls Tryz.prog 55 #[.pointer (some ⟨m, 0, none⟩), .int .i64 i] w fun e w' => e = .returned (.tuple #[.string (M.ot i).2.1, .int .i64 (M.ot i).2.2]) ∧ ∃ FF', Ev w (l ++ mirX pbs m db ib d FF M) w' (l ++ mirX pbs m db ib d FF' (M.ot i).1) := by
  have HY := hid (pmay_any h ok i)
  have HL := hid (plost_any h)
  have E0 := hid (Ev.refl h)
  cases hm : mayB (M.s.len false) i with
  | false =>
    have ha := pmayB_at M i hm
    have e1 : M.ot i = (M, ⟨#[]⟩, 2) := by unfold MS.ot; rw [ha]; rfl
    rw [e1]
    rw [hm] at HY
    clear h ok ht hm ha e1
    go_enter Tryz.func55, Tryz.ntmps55
    go_wp2_with (go_at_call 81; refine HY.out.mono ?_; rintro e w1 ⟨rfl, e1⟩; have e1' := hid e1; rw [e1'.out]; clear e1)
    go_ret2
    exact ⟨rfl, FF, E0.out⟩
  | true =>
    obtain ⟨ha, hi0, hi1⟩ := pmayB_in M i hm
    rw [hm] at HY
    cases hn : M.any with
    | false =>
      have hl0 : M.leftC = 70 := by unfold MS.leftC; rw [hn]; rfl
      have e1 : M.ot i = (M, ⟨#[]⟩, 70) := by unfold MS.ot; rw [ha, hl0]; rfl
      rw [e1]
      rw [hn] at HL
      clear h ok ht hm ha hn hl0 e1
      go_enter Tryz.func55, Tryz.ntmps55
      go_wp2_with (first
        | (go_at_call 81; refine HY.out.mono ?_; rintro e w1 ⟨rfl, e1⟩; have e1' := hid e1; rw [e1'.out]; clear e1)
        | (go_at_call 82; refine HL.out.mono ?_; rintro e w2 ⟨rfl, e2⟩; have e2' := hid e2; rw [e2'.out]; clear e2))
      go_ret2
      exact ⟨rfl, FF, E0.out⟩
    | true =>
      rw [hn] at HL
      have hl0 : M.leftC = 0 := by unfold MS.leftC; rw [hn]; rfl
      have e0 : M.ot i = if M.c0 && M.c1 then M.ot1 i else (M, ⟨#[]⟩, 5) := by unfold MS.ot; rw [ha, hl0, if_pos rfl]
      rw [e0]
      obtain ⟨b0, b1, hib, hb0, hb1⟩ := xir_is h
      have i1 : w.cell? ⟨m, 1, none⟩ = some (.slice (some ⟨ib, 0, none⟩) 2 2) := (xir_blk h).cell 1
      have i2 : w.cell? ⟨ib, 0, none⟩ = some (.int .i64 b0) := hib.cell 0
      have i3 : w.cell? ⟨ib, 1, none⟩ = some (.int .i64 b1) := hib.cell 1
      by_cases z0 : b0 = 0
      · by_cases z1 : b1 = 0
        · have c0 : M.c0 = true := by rw [hb0, z0]; rfl
          have c1 : M.c1 = true := by rw [hb1, z1]; rfl
          rw [c0, c1]
          simp only [Bool.and_self, if_true]
          have u0 : (b0 != 0) = false := by simp [z0]
          have u1 : (b1 != 0) = false := by simp [z1]
          have k0 : w.cell? ⟨m, 0, none⟩ = some (.slice (some ⟨db, 0, none⟩) 2 2) := (xir_blk h).cell 0
          have d0 : w.cell? ⟨db, 1, none⟩ = some (.pointer (some ⟨d true, 0, none⟩)) := (xir_dbl h).cell 1
          have hlen := (len_pos ok false).2
          have hib' : i ≤ 16384 := by omega
          obtain ⟨I, hI⟩ : ∃ I, i + 1 = I := ⟨_, rfl⟩
          have HI := hid hI
          have HR := hid (xR' true h ok (by omega) I)
          have HLo := hid fun (w1 : World) (h1 : Held w1 (l ++ mirX pbs m db ib d FF M)) => plose_true h1 ok (by omega)
          have HL2 := hid fun (w1 : World) (FF2 : Bool → List Nat) (h1 : Held w1 (l ++ mirX pbs m db ib d FF2 (M.lose true))) => plost_any h1
          unfold MS.ot1
          rw [hI]
          obtain ⟨ec, hec⟩ : ∃ ec, M.s.rdC true I = ec := ⟨_, rfl⟩
          obtain ⟨st, hst⟩ : ∃ st, M.s.rdS true I = st := ⟨_, rfl⟩
          rw [hec, hst] at HR ⊢
          clear h ok ht hm ha hn hl0 e0 hib hb0 hb1 z0 z1 c0 c1 hlen hec hst hI hi1
          by_cases z1 : ec = 0
          · rw [if_pos z1]
            subst z1
            clear HL2 HLo
            go_enter Tryz.func55, Tryz.ntmps55
            go_wp2_with (first
              | (go_at_call 81; refine HY.out.mono ?_; rintro e w1 ⟨rfl, e1⟩; have e1' := hid e1; rw [e1'.out]; clear e1)
              | (go_at_call 82; refine HL.out.mono ?_; rintro e w2 ⟨rfl, e2⟩; have e2' := hid e2; rw [e2'.out]; clear e2)
              | (go_at_call 41; rw [HI.out]; refine HR.out.mono ?_; rintro e w5 ⟨rfl, e5⟩; have e5' := hid e5; rw [e5'.out]; clear e5))
            go_ret2
            exact ⟨rfl, FF, E0.out⟩
          · rw [if_neg z1]
            have v1 : (ec == 0) = false := by simpa using z1
            clear z1
            cases ha : (M.lose true).any with
            | false =>
              rw [ha] at HL2
              have hl : (M.lose true).leftC = 70 := by unfold MS.leftC; rw [ha]; rfl
              rw [hl, if_neg (by decide)]
              clear ha hl
              go_enter Tryz.func55, Tryz.ntmps55
              go_wp2_with (first
                | (go_at_call 81; refine HY.out.mono ?_; rintro e w1 ⟨rfl, e1⟩; have e1' := hid e1; rw [e1'.out]; clear e1)
                | (go_at_call 82; refine HL.out.mono ?_; rintro e w2 ⟨rfl, e2⟩; have e2' := hid e2; rw [e2'.out]; clear e2 HL)
                | (go_at_call 41; rw [HI.out]; refine HR.out.mono ?_; rintro e w5 ⟨rfl, e5⟩; have e5' := hid e5; rw [e5'.out]; clear e5)
                | (go_at_call 83; refine (HLo.out _ E0.out.held).mono ?_; rintro e w6 ⟨rfl, FF6, v6⟩; have E6 := hid v6; clear v6 HLo)
                | (go_at_call 82; refine (HL2.out _ _ E6.out.held).mono ?_; rintro e w7 ⟨rfl, e7⟩; have e7' := hid e7; rw [e7'.out]; clear e7 HL2))
              go_ret2
              exact ⟨rfl, FF6, E6.out⟩
            | true =>
              rw [ha] at HL2
              have hl : (M.lose true).leftC = 0 := by unfold MS.leftC; rw [ha]; rfl
              rw [hl, if_pos rfl]
              clear ha hl
              go_enter Tryz.func55, Tryz.ntmps55
              go_wp2_with (first
                | (go_at_call 81; refine HY.out.mono ?_; rintro e w1 ⟨rfl, e1⟩; have e1' := hid e1; rw [e1'.out]; clear e1)
                | (go_at_call 82; refine HL.out.mono ?_; rintro e w2 ⟨rfl, e2⟩; have e2' := hid e2; rw [e2'.out]; clear e2 HL)
                | (go_at_call 41; rw [HI.out]; refine HR.out.mono ?_; rintro e w5 ⟨rfl, e5⟩; have e5' := hid e5; rw [e5'.out]; clear e5)
                | (go_at_call 83; refine (HLo.out _ E0.out.held).mono ?_; rintro e w6 ⟨rfl, FF6, v6⟩; have E6 := hid v6; clear v6 HLo)
                | (go_at_call 82; refine (HL2.out _ _ E6.out.held).mono ?_; rintro e w7 ⟨rfl, e7⟩; have e7' := hid e7; rw [e7'.out]; clear e7 HL2))
              go_ret2
              exact ⟨rfl, FF6, E6.out⟩
        · have c1 : M.c1 = false := by rw [hb1]; simpa using z1
          rw [c1, Bool.and_false]
          simp only [Bool.false_eq_true, if_false]
          have u0 : (b0 != 0) = false := by simp [z0]
          have u1 : (b1 != 0) = true := by simpa using z1
          clear h ok ht hm ha hn hl0 e0 hib hb0 hb1 z0 z1 c1
          go_enter Tryz.func55, Tryz.ntmps55
          go_wp2_with (first
            | (go_at_call 81; refine HY.out.mono ?_; rintro e w1 ⟨rfl, e1⟩; have e1' := hid e1; rw [e1'.out]; clear e1)
            | (go_at_call 82; refine HL.out.mono ?_; rintro e w2 ⟨rfl, e2⟩; have e2' := hid e2; rw [e2'.out]; clear e2))
          go_ret2
          exact ⟨rfl, FF, E0.out⟩
      · have c0 : M.c0 = false := by rw [hb0]; simpa using z0
        rw [c0, Bool.false_and]
        simp only [Bool.false_eq_true, if_false]
        have u0 : (b0 != 0) = true := by simpa using z0
        clear h ok ht hm ha hn hl0 e0 hib hb0 hb1 z0 c0
        go_enter Tryz.func55, Tryz.ntmps55
        go_wp2_with (first
          | (go_at_call 81; refine HY.out.mono ?_; rintro e w1 ⟨rfl, e1⟩; have e1' := hid e1; rw [e1'.out]; clear e1)
          | (go_at_call 82; refine HL.out.mono ?_; rintro e w2 ⟨rfl, e2⟩; have e2' := hid e2; rw [e2'.out]; clear e2))
        go_ret2
        exact ⟨rfl, FF, E0.out⟩
end
end Go.Proofs.YtjgagcpmoffldaaGreat
