/- Layer 7 (great seat): Write and Flush of the document's mirror. -/
import Derived.Test.YtjgagcpmoffldaaGreatPmE
import Derived.Test.YtjgagcpmoffldaaGreatGMirB
namespace Go.Proofs.YtjgagcpmoffldaaGreat
open Go Go.Xr Go.RowKit
set_option linter.unusedVariables false
set_option linter.unusedSimpArgs false
theorem pmayB_at (M : MS) (i : Int) (h : mayB (M.s.len false) i = false) : M.atC i = 2 := by
  unfold mayB at h
  unfold MS.atC
  rw [if_pos]
  simp at h
  by_cases h0 : i < 0
  · exact .inl h0
  · exact .inr (h (by omega))
theorem pmayB_in (M : MS) (i : Int) (h : mayB (M.s.len false) i = true) : M.atC i = M.leftC ∧ 0 ≤ i ∧ i < (M.s.len false : Int) - 1 := by
  unfold mayB at h
  simp at h
  unfold MS.atC
  rw [if_neg (by omega)]
  exact ⟨rfl, h.1, h.2⟩
section
variable {w w' w0 : World} {l rs : List Res} {pbs : List Nat} {m db ib : Nat} {M M' : MS} {d : Bool → Nat} {FF FF' : Bool → List Nat}
theorem doW_skip {M : MS} {I : Int} {S : ByteArray} {b : Bool} (h : M.c b = false) : M.doW I S b = M := by unfold MS.doW; rw [h]; rfl
theorem doW_good {M : MS} {I : Int} {S : ByteArray} {b : Bool} (h : M.c b = true) (e : M.s.wrC b I S = 0) : M.doW I S b = { M with s := M.s.wr b I S } := by unfold MS.doW MS.after; rw [if_pos h, if_pos e]
theorem doW_bad {M : MS} {I : Int} {S : ByteArray} {b : Bool} (h : M.c b = true) (e : M.s.wrC b I S ≠ 0) : M.doW I S b = MS.lose { M with s := M.s.wr b I S } b := by unfold MS.doW MS.after; rw [if_pos h, if_neg e]
theorem doF_good {M : MS} {b : Bool} (h : M.c b = true) (e : M.s.flC b = 0) : M.doF b = { M with s := M.s.fl b } := by unfold MS.doF MS.after; rw [if_pos h, if_pos e]
theorem doF_bad {M : MS} {b : Bool} (h : M.c b = true) (e : M.s.flC b ≠ 0) : M.doF b = MS.lose { M with s := M.s.fl b } b := by unfold MS.doF MS.after; rw [if_pos h, if_neg e]
def flushK (M : MS) : Nat → MS
  | 0 => M
  | 1 => M.doF false
  | _ => M.eachF
set_option maxRecDepth 20000 in
set_option maxHeartbeats 4000000 in
theorem pflush_any (h : Held w (l ++ mirX pbs m db ib d FF M)) (ok : SysOk M.s) (ht : M.s.T < 999800) :
    Calls Tryz.prog 56 #[.pointer (some ⟨m, 0, none⟩)] w fun e w' => e = .returned (.int .i64 M.flushC) ∧ ∃ FF', Ev w (l ++ mirX pbs m db ib d FF M) w' (l ++ mirX pbs m db ib d FF' M.flushM) := by
  have HL := hid (plost_any h)
  unfold MS.flushC MS.flushM
  cases ha : M.any with
  | false =>
    rw [ha] at HL
    simp only [Bool.false_eq_true, if_false]
    have HH := hid h
    clear h ha ok ht
    go_enter Tryz.func56, Tryz.ntmps56
    go_wp2_with (go_at_call 82; refine HL.out.mono ?_; rintro e w1 ⟨rfl, rfl⟩)
    go_ret
    exact ⟨rfl, FF, Ev.refl HH.out⟩
  | true =>
    rw [ha] at HL
    simp only [if_true]
    have E0 := hid (Ev.refl h)
    have ok1 : SysOk (M.doF false).s := (doF_stp M false).ok ok
    have ht1 : (M.doF false).s.T < 999900 := by have := (doF_stp M false).T ok; omega
    clear ha
    go_enter Tryz.func56, Tryz.ntmps56
    go_wp2_with (go_at_call 82; refine HL.out.mono ?_; rintro e w1 ⟨rfl, e1⟩; have e1' := hid e1; rw [e1'.out]; clear e1)
    clear HL
    go_loopw [3] (fun kv wr => ∃ q : Nat, q ≤ 2 ∧ kv = .int .i64 (q : Int) ∧ ∃ FF', Hid (Ev w (l ++ mirX pbs m db ib d FF M) wr (l ++ mirX pbs m db ib d FF' (flushK M q)))) (fun kv _ => 2 - (intOf kv).toNat)
    case atStart => exact ⟨0, by decide, rfl, FF, E0⟩
    case round =>
      obtain ⟨q, hq, rfl, FF1, E⟩ := hrel
      clear E0
      have hq3 : q = 0 ∨ q = 1 ∨ q = 2 := by omega
      rcases hq3 with rfl | rfl | rfl
      · rw [show flushK M 0 = M from rfl] at E
        rw [show ((0 : Nat) : Int) = 0 from rfl]
        obtain ⟨b0, b1, hib, hb0, hb1⟩ := xir_is E.out.held
        have i1 : wr.cell? ⟨m, 1, none⟩ = some (.slice (some ⟨ib, 0, none⟩) 2 2) := (xir_blk E.out.held).cell 1
        have i2 : wr.cell? ⟨ib, 0, none⟩ = some (.int .i64 b0) := hib.cell 0
        cases hc : (M).c false with
        | false =>
          have hz : (b0 == 0) = false := by
            have : decide (b0 = 0) = false := hb0.symm.trans hc
            simpa using this
          have HS := hid (doF_off hc)
          clear hib hb0 hb1 hc
          go_wp2_with fail
          go_roundw
          case rel => exact ⟨0 + 1, by decide, by first | rfl | go_num, FF1, by rw [show flushK M (0 + 1) = M.doF false from rfl]; rw [HS.out]; exact E⟩
          case measure => simp [intOf]
        | true =>
          have hz : b0 = 0 := by
            have : decide (b0 = 0) = true := hb0.symm.trans hc
            simpa using this
          have hz2 : (b0 == 0) = true := by simp [hz]
          have k0 : wr.cell? ⟨m, 0, none⟩ = some (.slice (some ⟨db, 0, none⟩) 2 2) := (xir_blk E.out.held).cell 0
          have d0 : wr.cell? ⟨db, 0, none⟩ = some (.pointer (some ⟨d false, 0, none⟩)) := (xir_dbl E.out.held).cell 0
          have okx : SysOk (M).s := ok
          have htx : (M).s.T < 999900 := (by omega)
          obtain ⟨ec, hec⟩ : ∃ ec, M.s.flC false = ec := ⟨_, rfl⟩; have HCa := hid (pF false E.out.held okx (by omega)); have HLo := hid fun (w1 : World) (FF2 : Bool → List Nat) (h1 : Held w1 (l ++ mirX pbs m db ib d FF2 { M with s := M.s.fl false })) => plose_false h1 ((fl_stp M.s false).ok okx) (show (M.s.fl false).T < 999990 by have := (fl_stp M.s false).T okx; omega); rw [hec] at HCa
          clear hib hb0 hb1 hz
          by_cases z1 : ec = 0
          · have HS := hid ((fun hc z => doF_good hc (hec.trans z)) hc z1)
            subst z1
            clear HLo hc
            go_wp2_with (go_at_call 38; skip; refine HCa.out.mono ?_; rintro e w5 ⟨rfl, FF5, v5⟩; have E5 := hid (E.out.trans v5); clear v5 HCa)
            go_roundw
            case rel => exact ⟨0 + 1, by decide, by first | rfl | go_num, FF5, by rw [show flushK M (0 + 1) = M.doF false from rfl]; rw [HS.out]; exact E5⟩
            case measure => simp [intOf]
          · have HS := hid ((fun hc z => doF_bad hc (fun e => z (hec.symm.trans e))) hc z1)
            have u1 : (ec != 0) = true := by simpa using z1
            clear hc z1
            go_wp2_with (first
              | (go_at_call 38; skip; refine HCa.out.mono ?_; rintro e w5 ⟨rfl, FF5, v5⟩; have E5 := hid (E.out.trans v5); clear v5 HCa)
              | (go_at_call 83; refine (HLo.out _ _ E5.out.held).mono ?_; rintro e w6 ⟨rfl, FF6, v6⟩; have E6 := hid (E5.out.trans v6); clear v6 HLo))
            go_roundw
            case rel => exact ⟨0 + 1, by decide, by first | rfl | go_num, FF6, by rw [show flushK M (0 + 1) = M.doF false from rfl]; rw [HS.out]; exact E6⟩
            case measure => simp [intOf]
      · rw [show flushK M 1 = M.doF false from rfl] at E
        rw [show ((1 : Nat) : Int) = 1 from rfl]
        have hK2 : flushK M (1 + 1) = (M.doF false).doF true := rfl
        generalize M.doF false = M1 at *
        obtain ⟨b0, b1, hib, hb0, hb1⟩ := xir_is E.out.held
        have i1 : wr.cell? ⟨m, 1, none⟩ = some (.slice (some ⟨ib, 0, none⟩) 2 2) := (xir_blk E.out.held).cell 1
        have i2 : wr.cell? ⟨ib, 1, none⟩ = some (.int .i64 b1) := hib.cell 1
        cases hc : (M1).c true with
        | false =>
          have hz : (b1 == 0) = false := by
            have : decide (b1 = 0) = false := hb1.symm.trans hc
            simpa using this
          have HS := hid (doF_off hc)
          clear hib hb0 hb1 hc
          go_wp2_with fail
          go_roundw
          case rel => exact ⟨1 + 1, by decide, by first | rfl | go_num, FF1, by rw [hK2]; rw [HS.out]; exact E⟩
          case measure => simp [intOf]
        | true =>
          have hz : b1 = 0 := by
            have : decide (b1 = 0) = true := hb1.symm.trans hc
            simpa using this
          have hz2 : (b1 == 0) = true := by simp [hz]
          have k0 : wr.cell? ⟨m, 0, none⟩ = some (.slice (some ⟨db, 0, none⟩) 2 2) := (xir_blk E.out.held).cell 0
          have d0 : wr.cell? ⟨db, 1, none⟩ = some (.pointer (some ⟨d true, 0, none⟩)) := (xir_dbl E.out.held).cell 1
          have okx : SysOk (M1).s := ok1
          have htx : (M1).s.T < 999900 := ht1
          obtain ⟨ec, hec⟩ : ∃ ec, M1.s.flC true = ec := ⟨_, rfl⟩; have HCa := hid (pF true E.out.held okx (by omega)); have HLo := hid fun (w1 : World) (FF2 : Bool → List Nat) (h1 : Held w1 (l ++ mirX pbs m db ib d FF2 { M1 with s := M1.s.fl true })) => plose_true h1 ((fl_stp M1.s true).ok okx) (show (M1.s.fl true).T < 999990 by have := (fl_stp M1.s true).T okx; omega); rw [hec] at HCa
          clear hib hb0 hb1 hz
          by_cases z1 : ec = 0
          · have HS := hid ((fun hc z => doF_good hc (hec.trans z)) hc z1)
            subst z1
            clear HLo hc
            go_wp2_with (go_at_call 38; skip; refine HCa.out.mono ?_; rintro e w5 ⟨rfl, FF5, v5⟩; have E5 := hid (E.out.trans v5); clear v5 HCa)
            go_roundw
            case rel => exact ⟨1 + 1, by decide, by first | rfl | go_num, FF5, by rw [hK2]; rw [HS.out]; exact E5⟩
            case measure => simp [intOf]
          · have HS := hid ((fun hc z => doF_bad hc (fun e => z (hec.symm.trans e))) hc z1)
            have u1 : (ec != 0) = true := by simpa using z1
            clear hc z1
            go_wp2_with (first
              | (go_at_call 38; skip; refine HCa.out.mono ?_; rintro e w5 ⟨rfl, FF5, v5⟩; have E5 := hid (E.out.trans v5); clear v5 HCa)
              | (go_at_call 83; refine (HLo.out _ _ E5.out.held).mono ?_; rintro e w6 ⟨rfl, FF6, v6⟩; have E6 := hid (E5.out.trans v6); clear v6 HLo))
            go_roundw
            case rel => exact ⟨1 + 1, by decide, by first | rfl | go_num, FF6, by rw [hK2]; rw [HS.out]; exact E6⟩
            case measure => simp [intOf]
      · rw [show flushK M 2 = M.eachF from rfl] at E
        have HL2 := hid (plost_any E.out.held)
        cases ha : M.eachF.any with
        | false =>
          rw [ha] at HL2
          have HC := hid (show M.eachF.leftC = 70 by unfold MS.leftC; rw [ha]; rfl)
          go_wp2_with (go_at_call 82; refine HL2.out.mono ?_; rintro e w9 ⟨rfl, e9⟩; have e9' := hid e9; rw [e9'.out]; clear e9)
          go_ret
          rw [HC.out]
          exact ⟨rfl, FF1, E.out⟩
        | true =>
          rw [ha] at HL2
          have HC := hid (show M.eachF.leftC = 0 by unfold MS.leftC; rw [ha]; rfl)
          go_wp2_with (go_at_call 82; refine HL2.out.mono ?_; rintro e w9 ⟨rfl, e9⟩; have e9' := hid e9; rw [e9'.out]; clear e9)
          go_ret
          rw [HC.out]
          exact ⟨rfl, FF1, E.out⟩
def writeK (M : MS) (I : Int) (S : ByteArray) : Nat → MS
  | 0 => M
  | 1 => M.doW I S false
  | _ => M.eachW I S
set_option maxRecDepth 20000 in
set_option maxHeartbeats 4000000 in
theorem pwrite_any (h : Held w (l ++ mirX pbs m db ib d FF M)) (ok : SysOk M.s) (ht : M.s.T < 999800) (i : Int) (S : ByteArray) (hS : S.size ≤ 9223372036854775807) :
    Calls Tryz.prog 52 #[.pointer (some ⟨m, 0, none⟩), .int .i64 i, .string S] w fun e w' => e = .returned (.int .i64 (M.wrE i S)) ∧ ∃ FF', Ev w (l ++ mirX pbs m db ib d FF M) w' (l ++ mirX pbs m db ib d FF' (M.wrM i S)) := by
  have HY := hid (pmay_any h ok i)
  have HL := hid (plost_any h)
  have E0 := hid (Ev.refl h)
  unfold MS.wrE MS.wrM
  cases hm : mayB (M.s.len false) i with
  | false =>
    have ha := pmayB_at M i hm
    have e1 : (if S.size = 512 then (if M.atC i = 0 then (M.eachW (i + 1) S).leftC else M.atC i) else 2) = 2 := by rw [ha]; split <;> rfl
    have e2 : (if S.size = 512 then (if M.atC i = 0 then M.eachW (i + 1) S else M) else M) = M := by rw [ha]; split <;> rfl
    rw [e1, e2]
    rw [hm] at HY
    clear h ok ht hm ha e1 e2
    go_enter Tryz.func52, Tryz.ntmps52
    go_wp2_with (go_at_call 81; refine HY.out.mono ?_; rintro e w1 ⟨rfl, e1⟩; have e1' := hid e1; rw [e1'.out]; clear e1)
    go_ret
    exact ⟨rfl, FF, E0.out⟩
  | true =>
    obtain ⟨ha, hi0, hi1⟩ := pmayB_in M i hm
    rw [hm] at HY
    by_cases h5 : S.size = 512
    · rw [if_pos h5, if_pos h5, ha]
      have hd5 : ((S.size : Int) != 512) = false := by simp; omega
      cases hn : M.any with
      | false =>
        rw [hn] at HL
        have hl0 : M.leftC = 70 := by unfold MS.leftC; rw [hn]; rfl
        rw [hl0]
        clear h ok ht hm ha hn hl0
        go_enter Tryz.func52, Tryz.ntmps52
        go_wp2_with (first
          | (go_at_call 81; refine HY.out.mono ?_; rintro e w1 ⟨rfl, e1⟩; have e1' := hid e1; rw [e1'.out]; clear e1)
          | (go_at_call 82; refine HL.out.mono ?_; rintro e w2 ⟨rfl, e2⟩; have e2' := hid e2; rw [e2'.out]; clear e2))
        go_ret
        exact ⟨rfl, FF, E0.out⟩
      | true =>
        rw [hn] at HL
        have hl0 : M.leftC = 0 := by unfold MS.leftC; rw [hn]; rfl
        rw [hl0, if_pos rfl, if_pos rfl]
        have hlen := (len_pos ok false).2
        have hib : i ≤ 16384 := by omega
        obtain ⟨I, hI⟩ : ∃ I, i + 1 = I := ⟨_, rfl⟩
        have HI := hid hI
        have ok1 : SysOk (M.doW I S false).s := (doW_stp M I S false).ok ok
        have ht1 : (M.doW I S false).s.T < 999900 := by have := (doW_stp M I S false).T ok; omega
        rw [hI]
        clear hm ha hn hl0 hlen h5 hi1 hI
        go_enter Tryz.func52, Tryz.ntmps52
        go_wp2_with (first
          | (go_at_call 81; refine HY.out.mono ?_; rintro e w1 ⟨rfl, e1⟩; have e1' := hid e1; rw [e1'.out]; clear e1)
          | (go_at_call 82; refine HL.out.mono ?_; rintro e w2 ⟨rfl, e2⟩; have e2' := hid e2; rw [e2'.out]; clear e2))
        clear HL HY
        go_loopw [7] (fun kv wr => ∃ q : Nat, q ≤ 2 ∧ kv = .int .i64 (q : Int) ∧ ∃ FF', Hid (Ev w (l ++ mirX pbs m db ib d FF M) wr (l ++ mirX pbs m db ib d FF' (writeK M I S q)))) (fun kv _ => 2 - (intOf kv).toNat)
        case atStart => exact ⟨0, by decide, rfl, FF, E0⟩
        case round =>
          obtain ⟨q, hq, rfl, FF1, E⟩ := hrel
          clear E0
          have hq3 : q = 0 ∨ q = 1 ∨ q = 2 := by omega
          rcases hq3 with rfl | rfl | rfl
          · rw [show writeK M I S 0 = M from rfl] at E
            rw [show ((0 : Nat) : Int) = 0 from rfl]
            obtain ⟨b0, b1, hib, hb0, hb1⟩ := xir_is E.out.held
            have i1 : wr.cell? ⟨m, 1, none⟩ = some (.slice (some ⟨ib, 0, none⟩) 2 2) := (xir_blk E.out.held).cell 1
            have i2 : wr.cell? ⟨ib, 0, none⟩ = some (.int .i64 b0) := hib.cell 0
            cases hc : (M).c false with
            | false =>
              have hz : (b0 == 0) = false := by
                have : decide (b0 = 0) = false := hb0.symm.trans hc
                simpa using this
              have HS := hid ((fun hc => doW_skip (I := I) (S := S) hc) hc)
              clear hib hb0 hb1 hc
              go_wp2_with fail
              go_roundw
              case rel => exact ⟨0 + 1, by decide, by first | rfl | go_num, FF1, by rw [show writeK M I S (0 + 1) = M.doW I S false from rfl]; rw [HS.out]; exact E⟩
              case measure => simp [intOf]
            | true =>
              have hz : b0 = 0 := by
                have : decide (b0 = 0) = true := hb0.symm.trans hc
                simpa using this
              have hz2 : (b0 == 0) = true := by simp [hz]
              have k0 : wr.cell? ⟨m, 0, none⟩ = some (.slice (some ⟨db, 0, none⟩) 2 2) := (xir_blk E.out.held).cell 0
              have d0 : wr.cell? ⟨db, 0, none⟩ = some (.pointer (some ⟨d false, 0, none⟩)) := (xir_dbl E.out.held).cell 0
              have okx : SysOk (M).s := ok
              have htx : (M).s.T < 999900 := (by omega)
              obtain ⟨ec, hec⟩ : ∃ ec, M.s.wrC false I S = ec := ⟨_, rfl⟩; have HCa := hid (pW false E.out.held okx (by omega) I S hS); have HLo := hid fun (w1 : World) (FF2 : Bool → List Nat) (h1 : Held w1 (l ++ mirX pbs m db ib d FF2 { M with s := M.s.wr false I S })) => plose_false h1 ((wr_stp M.s false I S).ok okx) (show (M.s.wr false I S).T < 999990 by have := (wr_stp M.s false I S).T okx; omega); rw [hec] at HCa
              clear hib hb0 hb1 hz
              by_cases z1 : ec = 0
              · have HS := hid ((fun hc z => doW_good (I := I) (S := S) hc (hec.trans z)) hc z1)
                subst z1
                clear HLo hc
                go_wp2_with (go_at_call 37; rw [HI.out]; refine HCa.out.mono ?_; rintro e w5 ⟨rfl, FF5, v5⟩; have E5 := hid (E.out.trans v5); clear v5 HCa)
                go_roundw
                case rel => exact ⟨0 + 1, by decide, by first | rfl | go_num, FF5, by rw [show writeK M I S (0 + 1) = M.doW I S false from rfl]; rw [HS.out]; exact E5⟩
                case measure => simp [intOf]
              · have HS := hid ((fun hc z => doW_bad (I := I) (S := S) hc (fun e => z (hec.symm.trans e))) hc z1)
                have u1 : (ec != 0) = true := by simpa using z1
                clear hc z1
                go_wp2_with (first
                  | (go_at_call 37; rw [HI.out]; refine HCa.out.mono ?_; rintro e w5 ⟨rfl, FF5, v5⟩; have E5 := hid (E.out.trans v5); clear v5 HCa)
                  | (go_at_call 83; refine (HLo.out _ _ E5.out.held).mono ?_; rintro e w6 ⟨rfl, FF6, v6⟩; have E6 := hid (E5.out.trans v6); clear v6 HLo))
                go_roundw
                case rel => exact ⟨0 + 1, by decide, by first | rfl | go_num, FF6, by rw [show writeK M I S (0 + 1) = M.doW I S false from rfl]; rw [HS.out]; exact E6⟩
                case measure => simp [intOf]
          · rw [show writeK M I S 1 = M.doW I S false from rfl] at E
            rw [show ((1 : Nat) : Int) = 1 from rfl]
            have hK2 : writeK M I S (1 + 1) = (M.doW I S false).doW I S true := rfl
            generalize M.doW I S false = M1 at *
            obtain ⟨b0, b1, hib, hb0, hb1⟩ := xir_is E.out.held
            have i1 : wr.cell? ⟨m, 1, none⟩ = some (.slice (some ⟨ib, 0, none⟩) 2 2) := (xir_blk E.out.held).cell 1
            have i2 : wr.cell? ⟨ib, 1, none⟩ = some (.int .i64 b1) := hib.cell 1
            cases hc : (M1).c true with
            | false =>
              have hz : (b1 == 0) = false := by
                have : decide (b1 = 0) = false := hb1.symm.trans hc
                simpa using this
              have HS := hid ((fun hc => doW_skip (I := I) (S := S) hc) hc)
              clear hib hb0 hb1 hc
              go_wp2_with fail
              go_roundw
              case rel => exact ⟨1 + 1, by decide, by first | rfl | go_num, FF1, by rw [hK2]; rw [HS.out]; exact E⟩
              case measure => simp [intOf]
            | true =>
              have hz : b1 = 0 := by
                have : decide (b1 = 0) = true := hb1.symm.trans hc
                simpa using this
              have hz2 : (b1 == 0) = true := by simp [hz]
              have k0 : wr.cell? ⟨m, 0, none⟩ = some (.slice (some ⟨db, 0, none⟩) 2 2) := (xir_blk E.out.held).cell 0
              have d0 : wr.cell? ⟨db, 1, none⟩ = some (.pointer (some ⟨d true, 0, none⟩)) := (xir_dbl E.out.held).cell 1
              have okx : SysOk (M1).s := ok1
              have htx : (M1).s.T < 999900 := ht1
              obtain ⟨ec, hec⟩ : ∃ ec, M1.s.wrC true I S = ec := ⟨_, rfl⟩; have HCa := hid (pW true E.out.held okx (by omega) I S hS); have HLo := hid fun (w1 : World) (FF2 : Bool → List Nat) (h1 : Held w1 (l ++ mirX pbs m db ib d FF2 { M1 with s := M1.s.wr true I S })) => plose_true h1 ((wr_stp M1.s true I S).ok okx) (show (M1.s.wr true I S).T < 999990 by have := (wr_stp M1.s true I S).T okx; omega); rw [hec] at HCa
              clear hib hb0 hb1 hz
              by_cases z1 : ec = 0
              · have HS := hid ((fun hc z => doW_good (I := I) (S := S) hc (hec.trans z)) hc z1)
                subst z1
                clear HLo hc
                go_wp2_with (go_at_call 37; rw [HI.out]; refine HCa.out.mono ?_; rintro e w5 ⟨rfl, FF5, v5⟩; have E5 := hid (E.out.trans v5); clear v5 HCa)
                go_roundw
                case rel => exact ⟨1 + 1, by decide, by first | rfl | go_num, FF5, by rw [hK2]; rw [HS.out]; exact E5⟩
                case measure => simp [intOf]
              · have HS := hid ((fun hc z => doW_bad (I := I) (S := S) hc (fun e => z (hec.symm.trans e))) hc z1)
                have u1 : (ec != 0) = true := by simpa using z1
                clear hc z1
                go_wp2_with (first
                  | (go_at_call 37; rw [HI.out]; refine HCa.out.mono ?_; rintro e w5 ⟨rfl, FF5, v5⟩; have E5 := hid (E.out.trans v5); clear v5 HCa)
                  | (go_at_call 83; refine (HLo.out _ _ E5.out.held).mono ?_; rintro e w6 ⟨rfl, FF6, v6⟩; have E6 := hid (E5.out.trans v6); clear v6 HLo))
                go_roundw
                case rel => exact ⟨1 + 1, by decide, by first | rfl | go_num, FF6, by rw [hK2]; rw [HS.out]; exact E6⟩
                case measure => simp [intOf]
          · rw [show writeK M I S 2 = M.eachW I S from rfl] at E
            have HL2 := hid (plost_any E.out.held)
            cases ha : (M.eachW I S).any with
            | false =>
              rw [ha] at HL2
              have HC := hid (show (M.eachW I S).leftC = 70 by unfold MS.leftC; rw [ha]; rfl)
              go_wp2_with (go_at_call 82; refine HL2.out.mono ?_; rintro e w9 ⟨rfl, e9⟩; have e9' := hid e9; rw [e9'.out]; clear e9)
              go_ret
              rw [HC.out]
              exact ⟨rfl, FF1, E.out⟩
            | true =>
              rw [ha] at HL2
              have HC := hid (show (M.eachW I S).leftC = 0 by unfold MS.leftC; rw [ha]; rfl)
              go_wp2_with (go_at_call 82; refine HL2.out.mono ?_; rintro e w9 ⟨rfl, e9⟩; have e9' := hid e9; rw [e9'.out]; clear e9)
              go_ret
              rw [HC.out]
              exact ⟨rfl, FF1, E.out⟩
    · rw [if_neg h5, if_neg h5]
      have hd5 : ((S.size : Int) != 512) = true := by simp; omega
      clear h ok ht hm ha h5
      go_enter Tryz.func52, Tryz.ntmps52
      go_wp2_with (go_at_call 81; refine HY.out.mono ?_; rintro e w1 ⟨rfl, e1⟩; have e1' := hid e1; rw [e1'.out]; clear e1)
      go_ret
      exact ⟨rfl, FF, E0.out⟩
end
end Go.Proofs.YtjgagcpmoffldaaGreat
