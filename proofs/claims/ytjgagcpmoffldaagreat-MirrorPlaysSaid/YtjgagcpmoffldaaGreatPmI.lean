/- Layer 7 (great seat): the document's Open. -/
import Derived.Test.YtjgagcpmoffldaaGreatPmH
import Derived.Test.YtjgagcpmoffldaaGreatGMirC
namespace Go.Proofs.YtjgagcpmoffldaaGreat
open Go Go.Xr Go.RowKit
set_option linter.unusedVariables false
set_option linter.unusedSimpArgs false
attribute [local go_sem] gtr_u64 eql_u64 mt_eqg
def Sys.opA (s : Sys) : UInt64 × Bool := if s.stO false then (s.stG false, true) else (0, false)
def Sys.opB (s : Sys) : UInt64 × Bool := if s.stO true && (!s.opA.2 || decide (s.opA.1 < s.stG true)) then (s.stG true, true) else s.opA
def Sys.cur (s : Sys) (b : Bool) : Bool := s.stO b && decide (s.stG b = s.opB.1)
theorem op1_any (s : Sys) : s.op1.2 = s.opB.2 := by
  unfold Sys.op1 Sys.op0 Sys.opB Sys.opA MS.opR
  cases h0 : s.stO false <;> cases h1 : s.stO true <;> simp [h0, h1]
  by_cases e1 : s.stG false < s.stG true
  · simp [e1]
  · by_cases e2 : s.stG true = s.stG false
    · simp [e1, e2]
    · simp [e1, e2]
theorem op1_cur (s : Sys) (h : s.opB.2 = true) : s.op1.1 = ⟨s, s.cur false, s.cur true, s.opB.1⟩ := by
  unfold Sys.op1 Sys.op0 Sys.cur
  unfold Sys.opB Sys.opA at h ⊢
  unfold MS.opR
  cases h0 : s.stO false <;> cases h1 : s.stO true <;> simp [h0, h1] at h ⊢
  by_cases e1 : s.stG false < s.stG true
  · have e2 : ¬ s.stG false = s.stG true := fun e => by rw [e] at e1; exact absurd e1 (by simp [UInt64.lt_irrefl])
    simp [e1, e2]
  · by_cases e2 : s.stG true = s.stG false
    · simp [e1, e2]
    · have e3 : ¬ s.stG false = s.stG true := fun e => e2 e.symm
      simp [e1, e2, e3]
theorem sto_dead {s : Sys} {b : Bool} (h : (s.X b).Dead = true) : s.stO b = false := by
  unfold Sys.stO
  rw [if_neg]
  intro e
  have e2 : mayN (s.X b) (mk 0 (s.lf b)) 0 ⟨#[]⟩ false = 0 := e
  obtain ⟨hd, _⟩ := mayN_ok e2
  unfold xdead at hd
  rw [h] at hd
  simp at hd
section
variable {w w' w0 : World} {l rs : List Res} {pbs : List Nat} {m db ib : Nat} {s : Sys} {M M' : MS} {d : Bool → Nat} {FF FF' : Bool → List Nat}
set_option maxRecDepth 20000 in
set_option maxHeartbeats 1000000 in
theorem popen_bad (h : Held w (l ++ sysX pbs s d FF)) (ok : SysOk s) (hc : s.mayC ≠ 0) :
    Calls Tryz.prog 8 #[.pointer (some ⟨d false, 0, none⟩), .pointer (some ⟨d true, 0, none⟩)] w fun e w' => e = .returned (.tuple #[.pointer none, .int .i64 2]) ∧ Fr [] w w' := by
  have HY := hid (pmay2_any h ok)
  have e2 : s.mayC = 2 := by unfold Sys.mayC at hc ⊢; split at hc; exact absurd rfl hc; rename_i hh; exact if_neg hh
  rw [e2] at HY
  clear h ok hc e2
  go_enter Tryz.func8, Tryz.ntmps8
  go_wp2_with (go_at_call 28; refine HY.out.mono ?_; rintro e w1 ⟨rfl, f1⟩)
  go_ret2
  exact ⟨rfl, f1⟩
set_option maxRecDepth 20000 in
set_option maxHeartbeats 1000000 in
theorem popen_lost (h : Held w (l ++ sysX pbs s d FF)) (ok : SysOk s) (hc : s.mayC = 0) (h0 : (s.X false).Dead = true) (h1 : (s.X true).Dead = true) :
    Calls Tryz.prog 8 #[.pointer (some ⟨d false, 0, none⟩), .pointer (some ⟨d true, 0, none⟩)] w fun e w' => e = .returned (.tuple #[.pointer none, .int .i64 70]) ∧ Fr [] w w' := by
  have HY := hid (pmay2_any h ok)
  rw [hc] at HY
  have HA := hid fun (w1 : World) (f : Fr [] w w1) => (xsee2 false (h.keep0 f) ok).choose_spec.choose_spec.2
  have HB := hid fun (w1 : World) (f : Fr [] w w1) => (xsee2 true (h.keep0 f) ok).choose_spec.choose_spec.2
  rw [h0] at HA
  rw [h1] at HB
  clear h ok hc h0 h1
  go_enter Tryz.func8, Tryz.ntmps8
  go_wp2_with (go_at_call 28; refine HY.out.mono ?_; rintro e w1 ⟨rfl, f1⟩; have a1 := HA.out _ f1; have b1 := HB.out _ f1)
  go_ret2
  exact ⟨rfl, f1⟩
def opK (s : Sys) : Nat → UInt64 × Bool
  | 0 => (0, false)
  | 1 => s.opA
  | _ => s.opB
def opM (s : Sys) : Nat → MS
  | 0 => ⟨s, false, false, s.opB.1⟩
  | 1 => ⟨s, s.cur false, false, s.opB.1⟩
  | _ => ⟨s, s.cur false, s.cur true, s.opB.1⟩
set_option maxRecDepth 20000 in
set_option maxHeartbeats 8000000 in
theorem popen_no (h : Held w (l ++ sysX pbs s d FF)) (ok : SysOk s) (ht : s.T < 998900) (hc : s.mayC = 0) (hd : (s.X false).Dead = false ∨ (s.X true).Dead = false) (hB : s.opB.2 = false) :
    Calls Tryz.prog 8 #[.pointer (some ⟨d false, 0, none⟩), .pointer (some ⟨d true, 0, none⟩)] w fun e w' => e = .returned (.tuple #[.pointer none, .int .i64 71]) ∧ Ev w (l ++ sysX pbs s d FF) w' (l ++ sysX pbs s d FF) := by
  have HY := hid (pmay2_any h ok)
  rw [hc] at HY
  obtain ⟨i26, hi26, hz26, hs26⟩ := pinf26
  obtain ⟨i3, hi3, hz3, hs3⟩ := pinf3
  have Hi := hid hi26
  have Hz := hid hz26
  have Hs := hid hs26
  have Ji := hid hi3
  have Jz := hid hz3
  have Js := hid hs3
  have HA := hid fun (w1 : World) (f : Fr [] w w1) => (xsee2 false (h.keep0 f) ok).choose_spec.choose_spec.2
  have HB := hid fun (w1 : World) (f : Fr [] w w1) => (xsee2 true (h.keep0 f) ok).choose_spec.choose_spec.2
  have E0 := hid (Ev.refl h)
  have OK := hid ok
  have TX := hid (show s.T < 1000000 by omega)
  have hdd : ((s.X false).Dead && (s.X true).Dead) = false := by rcases hd with hd | hd <;> simp [hd]
  obtain ⟨x0, hx0⟩ : ∃ v, (s.X false).Dead = v := ⟨_, rfl⟩
  obtain ⟨x1, hx1⟩ : ∃ v, (s.X true).Dead = v := ⟨_, rfl⟩
  have HX0 := hid hx0
  have HX1 := hid hx1
  rw [hx0] at HA hdd
  rw [hx1] at HB hdd
  clear h ok hc ht hi26 hz26 hs26 hi3 hz3 hs3 hd hx0 hx1
  go_enter Tryz.func8, Tryz.ntmps8
  cases x0 with
  | true =>
    have hx1 : x1 = false := by simpa using hdd
    subst hx1
    clear hdd
    go_wp2_with (first
      | (go_at_call 28; refine HY.out.mono ?_; rintro e w1 ⟨rfl, f1⟩; have a1 := HA.out _ f1; have b1 := HB.out _ f1; have E1 := hid (E0.out.step f1); clear f1 HY E0 HA HB)
      | (refine pbuild_any rfl _ 2 _ rfl 26 Tryz.underlying76 _ _ Hi.out Hz.out rfl Hs.out (by decide) (by decide) rfl (dbL d) rfl (by simp [dbL, Value.oneCell']) ?_; intro w7 f7 hlt7 hb7; have E7 := hid (E1.out.new f7 (Res.On.blk hb7) (fun b hb => by simp [Res.blk] at hb; omega)); clear f7 hlt7 hb7 E1; simp only [World.size_alloc, World.size_drew, Act.put, List.setIfInBounds_toArray, List.set_cons_succ, List.set_cons_zero])
      | (refine pbuild_any rfl _ 2 _ rfl 3 Tryz.underlying60 _ _ Ji.out Jz.out rfl Js.out (by decide) (by decide) rfl [.int .i64 1, .int .i64 1] rfl (by simp [Value.oneCell']) ?_; intro w8 f8 hlt8 hb8; have E8 := hid (E7.out.new f8 (isR_on (M := ⟨s, false, false, 0⟩) hb8 rfl rfl) (fun b hb => by simp [isR] at hb; omega)); clear f8 hlt8 hb8 E7; simp only [World.size_alloc, World.size_drew, Act.put, List.setIfInBounds_toArray, List.set_cons_succ, List.set_cons_zero])
      | (refine wpList_box rfl _ _ rfl (gmL w1.heap.size w7.heap.size 0) rfl ?_; intro w9 f9 hlt9 hb9; have E9 := hid (Ev.three (E8.out.new f9 (Res.On.blk hb9) (fun b hb => by simp [Res.blk] at hb; omega))); clear f9 hlt9 hb9 E8; simp only [World.size_alloc, World.size_drew, Act.put, List.setIfInBounds_toArray, List.set_cons_succ, List.set_cons_zero]))
    obtain ⟨m, hm⟩ : ∃ m, w8.heap.size = m := ⟨_, rfl⟩
    obtain ⟨db, hdb⟩ : ∃ m, w1.heap.size = m := ⟨_, rfl⟩
    obtain ⟨ib, hib⟩ : ∃ m, w7.heap.size = m := ⟨_, rfl⟩
    rw [hm] at E9 ⊢
    rw [hdb, hib] at E9
    clear hm hdb hib a1 b1
    go_loopw [8, 9] (fun av iv wr => ∃ q : Nat, q ≤ 2 ∧ iv = .int .i64 (q : Int) ∧ av = .bool (opK s q).2 ∧ Hid (Ev w (l ++ sysX pbs s d FF) wr (l ++ mirX pbs m db ib d FF ⟨s, false, false, (opK s q).1⟩))) (fun _ iv _ => 2 - (intOf iv).toNat)
    case atStart => exact ⟨0, by decide, rfl, rfl, E9⟩
    case round =>
      obtain ⟨q, hq, rfl, rfl, E⟩ := hrel
      clear E9
      have hq3 : q = 0 ∨ q = 1 ∨ q = 2 := by omega
      rcases hq3 with rfl | rfl | rfl
      · rw [show (opK s 0).1 = 0 from rfl] at E
        rw [show (opK s 0).2 = false from rfl, show ((0 : Nat) : Int) = 0 from rfl]
        have bm := xir_blk E.out.held
        have k0 : wr.cell? ⟨m, 0, none⟩ = some (.slice (some ⟨db, 0, none⟩) 2 2) := bm.cell 0
        have d0 : wr.cell? ⟨db, 0, none⟩ = some (.pointer (some ⟨d false, 0, none⟩)) := (xir_dbl E.out.held).cell 0
        have HS := hid (pstamp_any false (xir_sys E.out.held) OK.out TX.out)
        have HQ : Hid (opK s (0 + 1) = if s.stO false then (s.stG false, true) else (0, false)) := hid rfl
        generalize s.stG false = g at *
        cases ho : s.stO false with
        | false =>
          rw [ho] at HS HQ
          clear bm
          go_wp2_with (go_at_call 29; refine HS.out.mono ?_; rintro e w2 ⟨rfl, f2⟩; have E2 := hid (E.out.step f2); clear f2 E HS)
          go_roundw
          case rel => exact ⟨0 + 1, by decide, by first | rfl | go_num, by rw [HQ.out]; rfl, by rw [HQ.out]; exact E2⟩
          case measure => simp [intOf]
        | true =>
          rw [ho] at HS HQ
          clear bm
          go_wp2_with (first
            | (go_at_call 29; refine HS.out.mono ?_; rintro e w2 ⟨rfl, f2⟩; have E2 := hid (E.out.step f2); have b2 := xir_blk E2.out.held; clear f2 E HS)
            | (refine wpList_put rfl _ _ _ rfl rfl (W64 g) rfl rfl b2 (by simp [gmL]) (by kernel_rfl) ?_; intro w3 f3 b3 hs3; have E3 := hid (xir_gen E2.out f3 (g := g) b3); clear f3 b3 b2 E2 hs3; simp only [World.size_alloc, World.size_drew, Act.put, List.setIfInBounds_toArray, List.set_cons_succ, List.set_cons_zero]))
          go_roundw
          case rel => exact ⟨0 + 1, by decide, by first | rfl | go_num, by rw [HQ.out]; rfl, by rw [HQ.out]; exact E3⟩
          case measure => simp [intOf]
      · rw [show opK s 1 = s.opA from rfl] at E
        rw [show opK s 1 = s.opA from rfl, show ((1 : Nat) : Int) = 1 from rfl]
        have bm := xir_blk E.out.held
        have k0 : wr.cell? ⟨m, 0, none⟩ = some (.slice (some ⟨db, 0, none⟩) 2 2) := bm.cell 0
        have d0 : wr.cell? ⟨db, 1, none⟩ = some (.pointer (some ⟨d true, 0, none⟩)) := (xir_dbl E.out.held).cell 1
        have HS := hid (pstamp_any true (xir_sys E.out.held) OK.out TX.out)
        have HQ : Hid (opK s (1 + 1) = if s.stO true && (!s.opA.2 || decide (s.opA.1 < s.stG true)) then (s.stG true, true) else s.opA) := hid rfl
        have HPr := hid (show s.opA = (s.opA.1, s.opA.2) from rfl)
        have k2 : wr.cell? ⟨m, 2, none⟩ = some (W64 s.opA.1) := bm.cell 2
        have HK2 := hid fun (w2 : World) (f : Fr [] wr w2) => f.cell_some k2
        generalize s.stG true = g at *
        obtain ⟨G1, hG1⟩ : ∃ v, s.opA.1 = v := ⟨_, rfl⟩
        rw [hG1] at E HQ HPr HK2
        clear k2 bm hG1
        cases ha : s.opA.2 with
        | false =>
          rw [ha] at HQ HPr
          cases ho : s.stO true with
          | false =>
            rw [ho] at HS HQ
            go_wp2_with (go_at_call 29; refine HS.out.mono ?_; rintro e w2 ⟨rfl, f2⟩; have E2 := hid (E.out.step f2); clear f2 E HS)
            go_roundw
            case rel => exact ⟨1 + 1, by decide, by first | rfl | go_num, by rw [HQ.out]; simp [ha], by rw [HQ.out]; simp only [Bool.false_and, Bool.false_eq_true, if_false]; rw [HPr.out]; exact E2⟩
            case measure => simp [intOf]
          | true =>
            rw [ho] at HS HQ
            go_wp2_with (first
              | (go_at_call 29; refine HS.out.mono ?_; rintro e w2 ⟨rfl, f2⟩; have E2 := hid (E.out.step f2); have b2 := xir_blk E2.out.held; clear f2 E HS)
              | (refine wpList_put rfl _ _ _ rfl rfl (W64 g) rfl rfl b2 (by simp [gmL]) (by kernel_rfl) ?_; intro w3 f3 b3 hs3; have E3 := hid (xir_gen E2.out f3 (g := g) b3); clear f3 b3 b2 E2 hs3; simp only [World.size_alloc, World.size_drew, Act.put, List.setIfInBounds_toArray, List.set_cons_succ, List.set_cons_zero]))
            go_roundw
            case rel => exact ⟨1 + 1, by decide, by first | rfl | go_num, by rw [HQ.out]; rfl, by rw [HQ.out]; exact E3⟩
            case measure => simp [intOf]
        | true =>
          rw [ha] at HQ HPr
          cases ho : s.stO true with
          | false =>
            rw [ho] at HS HQ
            go_wp2_with (go_at_call 29; refine HS.out.mono ?_; rintro e w2 ⟨rfl, f2⟩; have E2 := hid (E.out.step f2); clear f2 E HS)
            go_roundw
            case rel => exact ⟨1 + 1, by decide, by first | rfl | go_num, by rw [HQ.out]; simp [ha], by rw [HQ.out]; simp only [Bool.false_and, Bool.false_eq_true, if_false]; rw [HPr.out]; exact E2⟩
            case measure => simp [intOf]
          | true =>
            rw [ho] at HS HQ
            cases hlt : decide (G1 < g) with
            | false =>
              rw [hlt] at HQ
              go_wp2_with (go_at_call 29; refine HS.out.mono ?_; rintro e w2 ⟨rfl, f2⟩; have E2 := hid (E.out.step f2); have kk := HK2.out _ f2; clear f2 E HS)
              go_roundw
              case rel => exact ⟨1 + 1, by decide, by first | rfl | go_num, by rw [HQ.out]; simp [ha], by rw [HQ.out]; simp only [Bool.not_true, Bool.or_self, Bool.and_false, Bool.false_eq_true, if_false]; rw [HPr.out]; exact E2⟩
              case measure => simp [intOf]
            | true =>
              rw [hlt] at HQ
              go_wp2_with (first
                | (go_at_call 29; refine HS.out.mono ?_; rintro e w2 ⟨rfl, f2⟩; have E2 := hid (E.out.step f2); have kk := HK2.out _ f2; have b2 := xir_blk E2.out.held; clear f2 E HS)
                | (refine wpList_put rfl _ _ _ rfl rfl (W64 g) rfl rfl b2 (by simp [gmL]) (by kernel_rfl) ?_; intro w3 f3 b3 hs3; have E3 := hid (xir_gen E2.out f3 (g := g) b3); clear f3 b3 b2 E2 hs3; simp only [World.size_alloc, World.size_drew, Act.put, List.setIfInBounds_toArray, List.set_cons_succ, List.set_cons_zero]))
              go_roundw
              case rel => exact ⟨1 + 1, by decide, by first | rfl | go_num, by rw [HQ.out]; rfl, by rw [HQ.out]; exact E3⟩
              case measure => simp [intOf]
      · rw [show opK s 2 = s.opB from rfl] at E
        rw [show opK s 2 = s.opB from rfl, hB]
        go_wp2_with fail
        go_ret2
        exact ⟨rfl, Ev.less l _ (Ev.less l _ (Ev.less l _ E.out))⟩
  | false =>
    go_wp2_with (first
      | (go_at_call 28; refine HY.out.mono ?_; rintro e w1 ⟨rfl, f1⟩; have a1 := HA.out _ f1; have b1 := HB.out _ f1; have E1 := hid (E0.out.step f1); clear f1 HY E0 HA HB)
      | (refine pbuild_any rfl _ 2 _ rfl 26 Tryz.underlying76 _ _ Hi.out Hz.out rfl Hs.out (by decide) (by decide) rfl (dbL d) rfl (by simp [dbL, Value.oneCell']) ?_; intro w7 f7 hlt7 hb7; have E7 := hid (E1.out.new f7 (Res.On.blk hb7) (fun b hb => by simp [Res.blk] at hb; omega)); clear f7 hlt7 hb7 E1; simp only [World.size_alloc, World.size_drew, Act.put, List.setIfInBounds_toArray, List.set_cons_succ, List.set_cons_zero])
      | (refine pbuild_any rfl _ 2 _ rfl 3 Tryz.underlying60 _ _ Ji.out Jz.out rfl Js.out (by decide) (by decide) rfl [.int .i64 1, .int .i64 1] rfl (by simp [Value.oneCell']) ?_; intro w8 f8 hlt8 hb8; have E8 := hid (E7.out.new f8 (isR_on (M := ⟨s, false, false, 0⟩) hb8 rfl rfl) (fun b hb => by simp [isR] at hb; omega)); clear f8 hlt8 hb8 E7; simp only [World.size_alloc, World.size_drew, Act.put, List.setIfInBounds_toArray, List.set_cons_succ, List.set_cons_zero])
      | (refine wpList_box rfl _ _ rfl (gmL w1.heap.size w7.heap.size 0) rfl ?_; intro w9 f9 hlt9 hb9; have E9 := hid (Ev.three (E8.out.new f9 (Res.On.blk hb9) (fun b hb => by simp [Res.blk] at hb; omega))); clear f9 hlt9 hb9 E8; simp only [World.size_alloc, World.size_drew, Act.put, List.setIfInBounds_toArray, List.set_cons_succ, List.set_cons_zero]))
    obtain ⟨m, hm⟩ : ∃ m, w8.heap.size = m := ⟨_, rfl⟩
    obtain ⟨db, hdb⟩ : ∃ m, w1.heap.size = m := ⟨_, rfl⟩
    obtain ⟨ib, hib⟩ : ∃ m, w7.heap.size = m := ⟨_, rfl⟩
    rw [hm] at E9 ⊢
    rw [hdb, hib] at E9
    clear hm hdb hib a1 b1
    go_loopw [8, 9] (fun av iv wr => ∃ q : Nat, q ≤ 2 ∧ iv = .int .i64 (q : Int) ∧ av = .bool (opK s q).2 ∧ Hid (Ev w (l ++ sysX pbs s d FF) wr (l ++ mirX pbs m db ib d FF ⟨s, false, false, (opK s q).1⟩))) (fun _ iv _ => 2 - (intOf iv).toNat)
    case atStart => exact ⟨0, by decide, rfl, rfl, E9⟩
    case round =>
      obtain ⟨q, hq, rfl, rfl, E⟩ := hrel
      clear E9
      have hq3 : q = 0 ∨ q = 1 ∨ q = 2 := by omega
      rcases hq3 with rfl | rfl | rfl
      · rw [show (opK s 0).1 = 0 from rfl] at E
        rw [show (opK s 0).2 = false from rfl, show ((0 : Nat) : Int) = 0 from rfl]
        have bm := xir_blk E.out.held
        have k0 : wr.cell? ⟨m, 0, none⟩ = some (.slice (some ⟨db, 0, none⟩) 2 2) := bm.cell 0
        have d0 : wr.cell? ⟨db, 0, none⟩ = some (.pointer (some ⟨d false, 0, none⟩)) := (xir_dbl E.out.held).cell 0
        have HS := hid (pstamp_any false (xir_sys E.out.held) OK.out TX.out)
        have HQ : Hid (opK s (0 + 1) = if s.stO false then (s.stG false, true) else (0, false)) := hid rfl
        generalize s.stG false = g at *
        cases ho : s.stO false with
        | false =>
          rw [ho] at HS HQ
          clear bm
          go_wp2_with (go_at_call 29; refine HS.out.mono ?_; rintro e w2 ⟨rfl, f2⟩; have E2 := hid (E.out.step f2); clear f2 E HS)
          go_roundw
          case rel => exact ⟨0 + 1, by decide, by first | rfl | go_num, by rw [HQ.out]; rfl, by rw [HQ.out]; exact E2⟩
          case measure => simp [intOf]
        | true =>
          rw [ho] at HS HQ
          clear bm
          go_wp2_with (first
            | (go_at_call 29; refine HS.out.mono ?_; rintro e w2 ⟨rfl, f2⟩; have E2 := hid (E.out.step f2); have b2 := xir_blk E2.out.held; clear f2 E HS)
            | (refine wpList_put rfl _ _ _ rfl rfl (W64 g) rfl rfl b2 (by simp [gmL]) (by kernel_rfl) ?_; intro w3 f3 b3 hs3; have E3 := hid (xir_gen E2.out f3 (g := g) b3); clear f3 b3 b2 E2 hs3; simp only [World.size_alloc, World.size_drew, Act.put, List.setIfInBounds_toArray, List.set_cons_succ, List.set_cons_zero]))
          go_roundw
          case rel => exact ⟨0 + 1, by decide, by first | rfl | go_num, by rw [HQ.out]; rfl, by rw [HQ.out]; exact E3⟩
          case measure => simp [intOf]
      · rw [show opK s 1 = s.opA from rfl] at E
        rw [show opK s 1 = s.opA from rfl, show ((1 : Nat) : Int) = 1 from rfl]
        have bm := xir_blk E.out.held
        have k0 : wr.cell? ⟨m, 0, none⟩ = some (.slice (some ⟨db, 0, none⟩) 2 2) := bm.cell 0
        have d0 : wr.cell? ⟨db, 1, none⟩ = some (.pointer (some ⟨d true, 0, none⟩)) := (xir_dbl E.out.held).cell 1
        have HS := hid (pstamp_any true (xir_sys E.out.held) OK.out TX.out)
        have HQ : Hid (opK s (1 + 1) = if s.stO true && (!s.opA.2 || decide (s.opA.1 < s.stG true)) then (s.stG true, true) else s.opA) := hid rfl
        have HPr := hid (show s.opA = (s.opA.1, s.opA.2) from rfl)
        have k2 : wr.cell? ⟨m, 2, none⟩ = some (W64 s.opA.1) := bm.cell 2
        have HK2 := hid fun (w2 : World) (f : Fr [] wr w2) => f.cell_some k2
        generalize s.stG true = g at *
        obtain ⟨G1, hG1⟩ : ∃ v, s.opA.1 = v := ⟨_, rfl⟩
        rw [hG1] at E HQ HPr HK2
        clear k2 bm hG1
        cases ha : s.opA.2 with
        | false =>
          rw [ha] at HQ HPr
          cases ho : s.stO true with
          | false =>
            rw [ho] at HS HQ
            go_wp2_with (go_at_call 29; refine HS.out.mono ?_; rintro e w2 ⟨rfl, f2⟩; have E2 := hid (E.out.step f2); clear f2 E HS)
            go_roundw
            case rel => exact ⟨1 + 1, by decide, by first | rfl | go_num, by rw [HQ.out]; simp [ha], by rw [HQ.out]; simp only [Bool.false_and, Bool.false_eq_true, if_false]; rw [HPr.out]; exact E2⟩
            case measure => simp [intOf]
          | true =>
            rw [ho] at HS HQ
            go_wp2_with (first
              | (go_at_call 29; refine HS.out.mono ?_; rintro e w2 ⟨rfl, f2⟩; have E2 := hid (E.out.step f2); have b2 := xir_blk E2.out.held; clear f2 E HS)
              | (refine wpList_put rfl _ _ _ rfl rfl (W64 g) rfl rfl b2 (by simp [gmL]) (by kernel_rfl) ?_; intro w3 f3 b3 hs3; have E3 := hid (xir_gen E2.out f3 (g := g) b3); clear f3 b3 b2 E2 hs3; simp only [World.size_alloc, World.size_drew, Act.put, List.setIfInBounds_toArray, List.set_cons_succ, List.set_cons_zero]))
            go_roundw
            case rel => exact ⟨1 + 1, by decide, by first | rfl | go_num, by rw [HQ.out]; rfl, by rw [HQ.out]; exact E3⟩
            case measure => simp [intOf]
        | true =>
          rw [ha] at HQ HPr
          cases ho : s.stO true with
          | false =>
            rw [ho] at HS HQ
            go_wp2_with (go_at_call 29; refine HS.out.mono ?_; rintro e w2 ⟨rfl, f2⟩; have E2 := hid (E.out.step f2); clear f2 E HS)
            go_roundw
            case rel => exact ⟨1 + 1, by decide, by first | rfl | go_num, by rw [HQ.out]; simp [ha], by rw [HQ.out]; simp only [Bool.false_and, Bool.false_eq_true, if_false]; rw [HPr.out]; exact E2⟩
            case measure => simp [intOf]
          | true =>
            rw [ho] at HS HQ
            cases hlt : decide (G1 < g) with
            | false =>
              rw [hlt] at HQ
              go_wp2_with (go_at_call 29; refine HS.out.mono ?_; rintro e w2 ⟨rfl, f2⟩; have E2 := hid (E.out.step f2); have kk := HK2.out _ f2; clear f2 E HS)
              go_roundw
              case rel => exact ⟨1 + 1, by decide, by first | rfl | go_num, by rw [HQ.out]; simp [ha], by rw [HQ.out]; simp only [Bool.not_true, Bool.or_self, Bool.and_false, Bool.false_eq_true, if_false]; rw [HPr.out]; exact E2⟩
              case measure => simp [intOf]
            | true =>
              rw [hlt] at HQ
              go_wp2_with (first
                | (go_at_call 29; refine HS.out.mono ?_; rintro e w2 ⟨rfl, f2⟩; have E2 := hid (E.out.step f2); have kk := HK2.out _ f2; have b2 := xir_blk E2.out.held; clear f2 E HS)
                | (refine wpList_put rfl _ _ _ rfl rfl (W64 g) rfl rfl b2 (by simp [gmL]) (by kernel_rfl) ?_; intro w3 f3 b3 hs3; have E3 := hid (xir_gen E2.out f3 (g := g) b3); clear f3 b3 b2 E2 hs3; simp only [World.size_alloc, World.size_drew, Act.put, List.setIfInBounds_toArray, List.set_cons_succ, List.set_cons_zero]))
              go_roundw
              case rel => exact ⟨1 + 1, by decide, by first | rfl | go_num, by rw [HQ.out]; rfl, by rw [HQ.out]; exact E3⟩
              case measure => simp [intOf]
      · rw [show opK s 2 = s.opB from rfl] at E
        rw [show opK s 2 = s.opB from rfl, hB]
        go_wp2_with fail
        go_ret2
        exact ⟨rfl, Ev.less l _ (Ev.less l _ (Ev.less l _ E.out))⟩
set_option maxRecDepth 20000 in
set_option maxHeartbeats 8000000 in
theorem popen_yes (h : Held w (l ++ sysX pbs s d FF)) (ok : SysOk s) (ht : s.T < 998900) (hc : s.mayC = 0) (hd : (s.X false).Dead = false ∨ (s.X true).Dead = false) (hB : s.opB.2 = true) :
    Calls Tryz.prog 8 #[.pointer (some ⟨d false, 0, none⟩), .pointer (some ⟨d true, 0, none⟩)] w fun e w' => ∃ m db ib, e = .returned (.tuple #[.pointer (some ⟨m, 0, none⟩), .int .i64 0]) ∧ Ev w (l ++ sysX pbs s d FF) w' (l ++ mirX pbs m db ib d FF ⟨s, s.cur false, s.cur true, s.opB.1⟩) := by
  have HY := hid (pmay2_any h ok)
  rw [hc] at HY
  obtain ⟨i26, hi26, hz26, hs26⟩ := pinf26
  obtain ⟨i3, hi3, hz3, hs3⟩ := pinf3
  have Hi := hid hi26
  have Hz := hid hz26
  have Hs := hid hs26
  have Ji := hid hi3
  have Jz := hid hz3
  have Js := hid hs3
  have HA := hid fun (w1 : World) (f : Fr [] w w1) => (xsee2 false (h.keep0 f) ok).choose_spec.choose_spec.2
  have HB := hid fun (w1 : World) (f : Fr [] w w1) => (xsee2 true (h.keep0 f) ok).choose_spec.choose_spec.2
  have E0 := hid (Ev.refl h)
  have OK := hid ok
  have TX := hid (show s.T < 1000000 by omega)
  have hdd : ((s.X false).Dead && (s.X true).Dead) = false := by rcases hd with hd | hd <;> simp [hd]
  obtain ⟨x0, hx0⟩ : ∃ v, (s.X false).Dead = v := ⟨_, rfl⟩
  obtain ⟨x1, hx1⟩ : ∃ v, (s.X true).Dead = v := ⟨_, rfl⟩
  have HX0 := hid hx0
  have HX1 := hid hx1
  rw [hx0] at HA hdd
  rw [hx1] at HB hdd
  clear h ok hc ht hi26 hz26 hs26 hi3 hz3 hs3 hd hx0 hx1
  go_enter Tryz.func8, Tryz.ntmps8
  cases x0 with
  | true =>
    have hx1 : x1 = false := by simpa using hdd
    subst hx1
    clear hdd
    go_wp2_with (first
      | (go_at_call 28; refine HY.out.mono ?_; rintro e w1 ⟨rfl, f1⟩; have a1 := HA.out _ f1; have b1 := HB.out _ f1; have E1 := hid (E0.out.step f1); clear f1 HY E0 HA HB)
      | (refine pbuild_any rfl _ 2 _ rfl 26 Tryz.underlying76 _ _ Hi.out Hz.out rfl Hs.out (by decide) (by decide) rfl (dbL d) rfl (by simp [dbL, Value.oneCell']) ?_; intro w7 f7 hlt7 hb7; have E7 := hid (E1.out.new f7 (Res.On.blk hb7) (fun b hb => by simp [Res.blk] at hb; omega)); clear f7 hlt7 hb7 E1; simp only [World.size_alloc, World.size_drew, Act.put, List.setIfInBounds_toArray, List.set_cons_succ, List.set_cons_zero])
      | (refine pbuild_any rfl _ 2 _ rfl 3 Tryz.underlying60 _ _ Ji.out Jz.out rfl Js.out (by decide) (by decide) rfl [.int .i64 1, .int .i64 1] rfl (by simp [Value.oneCell']) ?_; intro w8 f8 hlt8 hb8; have E8 := hid (E7.out.new f8 (isR_on (M := ⟨s, false, false, 0⟩) hb8 rfl rfl) (fun b hb => by simp [isR] at hb; omega)); clear f8 hlt8 hb8 E7; simp only [World.size_alloc, World.size_drew, Act.put, List.setIfInBounds_toArray, List.set_cons_succ, List.set_cons_zero])
      | (refine wpList_box rfl _ _ rfl (gmL w1.heap.size w7.heap.size 0) rfl ?_; intro w9 f9 hlt9 hb9; have E9 := hid (Ev.three (E8.out.new f9 (Res.On.blk hb9) (fun b hb => by simp [Res.blk] at hb; omega))); clear f9 hlt9 hb9 E8; simp only [World.size_alloc, World.size_drew, Act.put, List.setIfInBounds_toArray, List.set_cons_succ, List.set_cons_zero]))
    obtain ⟨m, hm⟩ : ∃ m, w8.heap.size = m := ⟨_, rfl⟩
    obtain ⟨db, hdb⟩ : ∃ m, w1.heap.size = m := ⟨_, rfl⟩
    obtain ⟨ib, hib⟩ : ∃ m, w7.heap.size = m := ⟨_, rfl⟩
    rw [hm] at E9 ⊢
    rw [hdb, hib] at E9
    clear hm hdb hib a1 b1
    go_loopw [8, 9] (fun av iv wr => ∃ q : Nat, q ≤ 2 ∧ iv = .int .i64 (q : Int) ∧ av = .bool (opK s q).2 ∧ Hid (Ev w (l ++ sysX pbs s d FF) wr (l ++ mirX pbs m db ib d FF ⟨s, false, false, (opK s q).1⟩))) (fun _ iv _ => 2 - (intOf iv).toNat)
    case atStart => exact ⟨0, by decide, rfl, rfl, E9⟩
    case round =>
      obtain ⟨q, hq, rfl, rfl, E⟩ := hrel
      clear E9
      have hq3 : q = 0 ∨ q = 1 ∨ q = 2 := by omega
      rcases hq3 with rfl | rfl | rfl
      · rw [show (opK s 0).1 = 0 from rfl] at E
        rw [show (opK s 0).2 = false from rfl, show ((0 : Nat) : Int) = 0 from rfl]
        have bm := xir_blk E.out.held
        have k0 : wr.cell? ⟨m, 0, none⟩ = some (.slice (some ⟨db, 0, none⟩) 2 2) := bm.cell 0
        have d0 : wr.cell? ⟨db, 0, none⟩ = some (.pointer (some ⟨d false, 0, none⟩)) := (xir_dbl E.out.held).cell 0
        have HS := hid (pstamp_any false (xir_sys E.out.held) OK.out TX.out)
        have HQ : Hid (opK s (0 + 1) = if s.stO false then (s.stG false, true) else (0, false)) := hid rfl
        generalize s.stG false = g at *
        cases ho : s.stO false with
        | false =>
          rw [ho] at HS HQ
          clear bm
          go_wp2_with (go_at_call 29; refine HS.out.mono ?_; rintro e w2 ⟨rfl, f2⟩; have E2 := hid (E.out.step f2); clear f2 E HS)
          go_roundw
          case rel => exact ⟨0 + 1, by decide, by first | rfl | go_num, by rw [HQ.out]; rfl, by rw [HQ.out]; exact E2⟩
          case measure => simp [intOf]
        | true =>
          rw [ho] at HS HQ
          clear bm
          go_wp2_with (first
            | (go_at_call 29; refine HS.out.mono ?_; rintro e w2 ⟨rfl, f2⟩; have E2 := hid (E.out.step f2); have b2 := xir_blk E2.out.held; clear f2 E HS)
            | (refine wpList_put rfl _ _ _ rfl rfl (W64 g) rfl rfl b2 (by simp [gmL]) (by kernel_rfl) ?_; intro w3 f3 b3 hs3; have E3 := hid (xir_gen E2.out f3 (g := g) b3); clear f3 b3 b2 E2 hs3; simp only [World.size_alloc, World.size_drew, Act.put, List.setIfInBounds_toArray, List.set_cons_succ, List.set_cons_zero]))
          go_roundw
          case rel => exact ⟨0 + 1, by decide, by first | rfl | go_num, by rw [HQ.out]; rfl, by rw [HQ.out]; exact E3⟩
          case measure => simp [intOf]
      · rw [show opK s 1 = s.opA from rfl] at E
        rw [show opK s 1 = s.opA from rfl, show ((1 : Nat) : Int) = 1 from rfl]
        have bm := xir_blk E.out.held
        have k0 : wr.cell? ⟨m, 0, none⟩ = some (.slice (some ⟨db, 0, none⟩) 2 2) := bm.cell 0
        have d0 : wr.cell? ⟨db, 1, none⟩ = some (.pointer (some ⟨d true, 0, none⟩)) := (xir_dbl E.out.held).cell 1
        have HS := hid (pstamp_any true (xir_sys E.out.held) OK.out TX.out)
        have HQ : Hid (opK s (1 + 1) = if s.stO true && (!s.opA.2 || decide (s.opA.1 < s.stG true)) then (s.stG true, true) else s.opA) := hid rfl
        have HPr := hid (show s.opA = (s.opA.1, s.opA.2) from rfl)
        have k2 : wr.cell? ⟨m, 2, none⟩ = some (W64 s.opA.1) := bm.cell 2
        have HK2 := hid fun (w2 : World) (f : Fr [] wr w2) => f.cell_some k2
        generalize s.stG true = g at *
        obtain ⟨G1, hG1⟩ : ∃ v, s.opA.1 = v := ⟨_, rfl⟩
        rw [hG1] at E HQ HPr HK2
        clear k2 bm hG1
        cases ha : s.opA.2 with
        | false =>
          rw [ha] at HQ HPr
          cases ho : s.stO true with
          | false =>
            rw [ho] at HS HQ
            go_wp2_with (go_at_call 29; refine HS.out.mono ?_; rintro e w2 ⟨rfl, f2⟩; have E2 := hid (E.out.step f2); clear f2 E HS)
            go_roundw
            case rel => exact ⟨1 + 1, by decide, by first | rfl | go_num, by rw [HQ.out]; simp [ha], by rw [HQ.out]; simp only [Bool.false_and, Bool.false_eq_true, if_false]; rw [HPr.out]; exact E2⟩
            case measure => simp [intOf]
          | true =>
            rw [ho] at HS HQ
            go_wp2_with (first
              | (go_at_call 29; refine HS.out.mono ?_; rintro e w2 ⟨rfl, f2⟩; have E2 := hid (E.out.step f2); have b2 := xir_blk E2.out.held; clear f2 E HS)
              | (refine wpList_put rfl _ _ _ rfl rfl (W64 g) rfl rfl b2 (by simp [gmL]) (by kernel_rfl) ?_; intro w3 f3 b3 hs3; have E3 := hid (xir_gen E2.out f3 (g := g) b3); clear f3 b3 b2 E2 hs3; simp only [World.size_alloc, World.size_drew, Act.put, List.setIfInBounds_toArray, List.set_cons_succ, List.set_cons_zero]))
            go_roundw
            case rel => exact ⟨1 + 1, by decide, by first | rfl | go_num, by rw [HQ.out]; rfl, by rw [HQ.out]; exact E3⟩
            case measure => simp [intOf]
        | true =>
          rw [ha] at HQ HPr
          cases ho : s.stO true with
          | false =>
            rw [ho] at HS HQ
            go_wp2_with (go_at_call 29; refine HS.out.mono ?_; rintro e w2 ⟨rfl, f2⟩; have E2 := hid (E.out.step f2); clear f2 E HS)
            go_roundw
            case rel => exact ⟨1 + 1, by decide, by first | rfl | go_num, by rw [HQ.out]; simp [ha], by rw [HQ.out]; simp only [Bool.false_and, Bool.false_eq_true, if_false]; rw [HPr.out]; exact E2⟩
            case measure => simp [intOf]
          | true =>
            rw [ho] at HS HQ
            cases hlt : decide (G1 < g) with
            | false =>
              rw [hlt] at HQ
              go_wp2_with (go_at_call 29; refine HS.out.mono ?_; rintro e w2 ⟨rfl, f2⟩; have E2 := hid (E.out.step f2); have kk := HK2.out _ f2; clear f2 E HS)
              go_roundw
              case rel => exact ⟨1 + 1, by decide, by first | rfl | go_num, by rw [HQ.out]; simp [ha], by rw [HQ.out]; simp only [Bool.not_true, Bool.or_self, Bool.and_false, Bool.false_eq_true, if_false]; rw [HPr.out]; exact E2⟩
              case measure => simp [intOf]
            | true =>
              rw [hlt] at HQ
              go_wp2_with (first
                | (go_at_call 29; refine HS.out.mono ?_; rintro e w2 ⟨rfl, f2⟩; have E2 := hid (E.out.step f2); have kk := HK2.out _ f2; have b2 := xir_blk E2.out.held; clear f2 E HS)
                | (refine wpList_put rfl _ _ _ rfl rfl (W64 g) rfl rfl b2 (by simp [gmL]) (by kernel_rfl) ?_; intro w3 f3 b3 hs3; have E3 := hid (xir_gen E2.out f3 (g := g) b3); clear f3 b3 b2 E2 hs3; simp only [World.size_alloc, World.size_drew, Act.put, List.setIfInBounds_toArray, List.set_cons_succ, List.set_cons_zero]))
              go_roundw
              case rel => exact ⟨1 + 1, by decide, by first | rfl | go_num, by rw [HQ.out]; rfl, by rw [HQ.out]; exact E3⟩
              case measure => simp [intOf]
      · rw [show opK s 2 = s.opB from rfl] at E
        rw [show opK s 2 = s.opB from rfl, hB, show ((2 : Nat) : Int) = 2 from rfl]
        go_wp2_with fail
        go_loopw [12] (fun iv wq => ∃ q : Nat, q ≤ 2 ∧ iv = .int .i64 (q : Int) ∧ Hid (Ev w (l ++ sysX pbs s d FF) wq (l ++ mirX pbs m db ib d FF (opM s q)))) (fun iv _ => 2 - (intOf iv).toNat)
        case atStart => exact ⟨0, by decide, rfl, E⟩
        case round =>
          obtain ⟨q, hq, rfl, E2⟩ := hrel
          clear E
          have hq3 : q = 0 ∨ q = 1 ∨ q = 2 := by omega
          rcases hq3 with rfl | rfl | rfl
          · rw [show ((0 : Nat) : Int) = 0 from rfl]
            have bm := xir_blk E2.out.held
            obtain ⟨b0, b1, hib, hb0, hb1⟩ := xir_is E2.out.held
            have k0 : wr.cell? ⟨m, 0, none⟩ = some (.slice (some ⟨db, 0, none⟩) 2 2) := bm.cell 0
            have k1 : wr.cell? ⟨m, 1, none⟩ = some (.slice (some ⟨ib, 0, none⟩) 2 2) := bm.cell 1
            have k2 : wr.cell? ⟨m, 2, none⟩ = some (W64 s.opB.1) := bm.cell 2
            have d0 : wr.cell? ⟨db, 0, none⟩ = some (.pointer (some ⟨d false, 0, none⟩)) := (xir_dbl E2.out.held).cell 0
            have HSS := pstamp_any false (xir_sys E2.out.held) (show SysOk (opM s 0).s from OK.out) (show (opM s 0).s.T < 1000000 from TX.out)
            have HS : Hid (Calls Tryz.prog 29 #[.pointer (some ⟨d false, 0, none⟩)] wr fun e w' => e = .returned (.tuple #[W64 (s.stG false), .bool (s.stO false)]) ∧ Fr [] wr w') := hid HSS
            obtain ⟨kb, kc, _, y3⟩ := psee false E2.out.held (show SysOk (opM s 0).s from OK.out)
            have y3' : wr.cell? ⟨d false, 3, none⟩ = some (.bool (s.X false).Dead) := y3
            have KC := hid (show s.cur false = (s.stO false && decide (s.stG false = s.opB.1)) from rfl)
            have DD := hid fun h : (s.X false).Dead = true => sto_dead h
            have SK := hid fun h : s.cur false = false => (show opM s (0 + 1) = opM s 0 from by unfold opM; simp only; rw [h])
            have HF := hid fun (w2 : World) (f : Fr [] wr w2) => And.intro (f.cell_some k0) (And.intro (f.cell_some d0) (And.intro (f.cell_some y3') (And.intro (f.blk hib (by simp)) (And.intro (f.cell_some k1) (f.cell_some k2)))))
            have PUT := hid fun (v : Int) (hv : s.cur false = decide (v = 0)) (w2 w3 : World) (e2 : Ev w (l ++ sysX pbs s d FF) w2 (l ++ mirX pbs m db ib d FF (opM s 0))) (f : Fr [ib] w2 w3) (hb : Blk w3 ib [.int .i64 v, .int .i64 b1]) => (show Ev w (l ++ sysX pbs s d FF) w3 (l ++ mirX pbs m db ib d FF (opM s (0 + 1))) from xir_put (M' := opM s (0 + 1)) e2 f hb rfl rfl hv hb1)
            obtain ⟨xb, hxb⟩ : ∃ v, (s.X false).Dead = v := ⟨_, rfl⟩
            rw [hxb] at HF DD
            generalize s.stG false = g at *
            generalize s.opB.1 = G at *
            clear y3 y3' HSS k1 k2 bm hib hb0 hb1 hxb
            cases xb with
            | true =>
              have ho := DD.out rfl
              rw [ho] at HS KC
              have hv : s.cur false = decide ((2 : Int) = 0) := by rw [KC.out]; rfl
              have HV := hid hv
              clear ho hv DD SK
              go_wp2_with (first
                | (go_at_call 29; refine HS.out.mono ?_; rintro e w4 ⟨rfl, f4⟩; obtain ⟨j0, j1, j3, j4, j5, j6⟩ := HF.out _ f4; have E4 := hid (E2.out.step f4); clear f4 E2 HS HF)
                | (refine wpList_put rfl _ _ _ rfl rfl (.int .i64 2) rfl rfl j4 (by simp) (by kernel_rfl) ?_; intro w5 f5 b5 hs5; have E5 := hid (PUT.out 2 HV.out _ _ E4.out f5 b5); clear f5 b5 j4 E4 hs5; simp only [World.size_alloc, World.size_drew, Act.put, List.setIfInBounds_toArray, List.set_cons_succ, List.set_cons_zero]))
              go_roundw
              case rel => exact ⟨0 + 1, by decide, by first | rfl | go_num, E5⟩
              case measure => simp [intOf]
            | false =>
              cases ho : s.stO false with
              | false =>
                rw [ho] at HS KC
                have HV := hid (SK.out (by rw [KC.out]; rfl))
                clear ho DD SK PUT
                go_wp2_with (go_at_call 29; refine HS.out.mono ?_; rintro e w4 ⟨rfl, f4⟩; obtain ⟨j0, j1, j3, j4, j5, j6⟩ := HF.out _ f4; have E4 := hid (E2.out.step f4); clear f4 E2 HS HF)
                go_roundw
                case rel => exact ⟨0 + 1, by decide, by first | rfl | go_num, by rw [HV.out]; exact E4⟩
                case measure => simp [intOf]
              | true =>
                rw [ho] at HS KC
                by_cases hg : g = G
                · have hv : s.cur false = decide ((0 : Int) = 0) := by rw [KC.out]; simp [hg]
                  have HV := hid hv
                  have hq : (g == G) = true := by simpa using hg
                  clear ho hv hg DD SK
                  go_wp2_with (first
                    | (go_at_call 29; refine HS.out.mono ?_; rintro e w4 ⟨rfl, f4⟩; obtain ⟨j0, j1, j3, j4, j5, j6⟩ := HF.out _ f4; have E4 := hid (E2.out.step f4); clear f4 E2 HS HF)
                    | (refine wpList_put rfl _ _ _ rfl rfl (.int .i64 0) rfl rfl j4 (by simp) (by kernel_rfl) ?_; intro w5 f5 b5 hs5; have E5 := hid (PUT.out 0 HV.out _ _ E4.out f5 b5); clear f5 b5 j4 E4 hs5; simp only [World.size_alloc, World.size_drew, Act.put, List.setIfInBounds_toArray, List.set_cons_succ, List.set_cons_zero]))
                  go_roundw
                  case rel => exact ⟨0 + 1, by decide, by first | rfl | go_num, E5⟩
                  case measure => simp [intOf]
                · have HV := hid (SK.out (by rw [KC.out]; simp [hg]))
                  have hq : (g == G) = false := by simpa using hg
                  clear ho hg DD SK PUT
                  go_wp2_with (go_at_call 29; refine HS.out.mono ?_; rintro e w4 ⟨rfl, f4⟩; obtain ⟨j0, j1, j3, j4, j5, j6⟩ := HF.out _ f4; have E4 := hid (E2.out.step f4); clear f4 E2 HS HF)
                  go_roundw
                  case rel => exact ⟨0 + 1, by decide, by first | rfl | go_num, by rw [HV.out]; exact E4⟩
                  case measure => simp [intOf]
          · rw [show ((1 : Nat) : Int) = 1 from rfl]
            have bm := xir_blk E2.out.held
            obtain ⟨b0, b1, hib, hb0, hb1⟩ := xir_is E2.out.held
            have k0 : wr.cell? ⟨m, 0, none⟩ = some (.slice (some ⟨db, 0, none⟩) 2 2) := bm.cell 0
            have k1 : wr.cell? ⟨m, 1, none⟩ = some (.slice (some ⟨ib, 0, none⟩) 2 2) := bm.cell 1
            have k2 : wr.cell? ⟨m, 2, none⟩ = some (W64 s.opB.1) := bm.cell 2
            have d0 : wr.cell? ⟨db, 1, none⟩ = some (.pointer (some ⟨d true, 0, none⟩)) := (xir_dbl E2.out.held).cell 1
            have HSS := pstamp_any true (xir_sys E2.out.held) (show SysOk (opM s 1).s from OK.out) (show (opM s 1).s.T < 1000000 from TX.out)
            have HS : Hid (Calls Tryz.prog 29 #[.pointer (some ⟨d true, 0, none⟩)] wr fun e w' => e = .returned (.tuple #[W64 (s.stG true), .bool (s.stO true)]) ∧ Fr [] wr w') := hid HSS
            obtain ⟨kb, kc, _, y3⟩ := psee true E2.out.held (show SysOk (opM s 1).s from OK.out)
            have y3' : wr.cell? ⟨d true, 3, none⟩ = some (.bool (s.X true).Dead) := y3
            have KC := hid (show s.cur true = (s.stO true && decide (s.stG true = s.opB.1)) from rfl)
            have DD := hid fun h : (s.X true).Dead = true => sto_dead h
            have SK := hid fun h : s.cur true = false => (show opM s (1 + 1) = opM s 1 from by unfold opM; simp only; rw [h])
            have HF := hid fun (w2 : World) (f : Fr [] wr w2) => And.intro (f.cell_some k0) (And.intro (f.cell_some d0) (And.intro (f.cell_some y3') (And.intro (f.blk hib (by simp)) (And.intro (f.cell_some k1) (f.cell_some k2)))))
            have PUT := hid fun (v : Int) (hv : s.cur true = decide (v = 0)) (w2 w3 : World) (e2 : Ev w (l ++ sysX pbs s d FF) w2 (l ++ mirX pbs m db ib d FF (opM s 1))) (f : Fr [ib] w2 w3) (hb : Blk w3 ib [.int .i64 b0, .int .i64 v]) => (show Ev w (l ++ sysX pbs s d FF) w3 (l ++ mirX pbs m db ib d FF (opM s (1 + 1))) from xir_put (M' := opM s (1 + 1)) e2 f hb rfl rfl hb0 hv)
            obtain ⟨xb, hxb⟩ : ∃ v, (s.X true).Dead = v := ⟨_, rfl⟩
            rw [hxb] at HF DD
            generalize s.stG true = g at *
            generalize s.opB.1 = G at *
            clear y3 y3' HSS k1 k2 bm hib hb0 hb1 hxb
            cases xb with
            | true =>
              have ho := DD.out rfl
              rw [ho] at HS KC
              have hv : s.cur true = decide ((2 : Int) = 0) := by rw [KC.out]; rfl
              have HV := hid hv
              clear ho hv DD SK
              go_wp2_with (first
                | (go_at_call 29; refine HS.out.mono ?_; rintro e w4 ⟨rfl, f4⟩; obtain ⟨j0, j1, j3, j4, j5, j6⟩ := HF.out _ f4; have E4 := hid (E2.out.step f4); clear f4 E2 HS HF)
                | (refine wpList_put rfl _ _ _ rfl rfl (.int .i64 2) rfl rfl j4 (by simp) (by kernel_rfl) ?_; intro w5 f5 b5 hs5; have E5 := hid (PUT.out 2 HV.out _ _ E4.out f5 b5); clear f5 b5 j4 E4 hs5; simp only [World.size_alloc, World.size_drew, Act.put, List.setIfInBounds_toArray, List.set_cons_succ, List.set_cons_zero]))
              go_roundw
              case rel => exact ⟨1 + 1, by decide, by first | rfl | go_num, E5⟩
              case measure => simp [intOf]
            | false =>
              cases ho : s.stO true with
              | false =>
                rw [ho] at HS KC
                have HV := hid (SK.out (by rw [KC.out]; rfl))
                clear ho DD SK PUT
                go_wp2_with (go_at_call 29; refine HS.out.mono ?_; rintro e w4 ⟨rfl, f4⟩; obtain ⟨j0, j1, j3, j4, j5, j6⟩ := HF.out _ f4; have E4 := hid (E2.out.step f4); clear f4 E2 HS HF)
                go_roundw
                case rel => exact ⟨1 + 1, by decide, by first | rfl | go_num, by rw [HV.out]; exact E4⟩
                case measure => simp [intOf]
              | true =>
                rw [ho] at HS KC
                by_cases hg : g = G
                · have hv : s.cur true = decide ((0 : Int) = 0) := by rw [KC.out]; simp [hg]
                  have HV := hid hv
                  have hq : (g == G) = true := by simpa using hg
                  clear ho hv hg DD SK
                  go_wp2_with (first
                    | (go_at_call 29; refine HS.out.mono ?_; rintro e w4 ⟨rfl, f4⟩; obtain ⟨j0, j1, j3, j4, j5, j6⟩ := HF.out _ f4; have E4 := hid (E2.out.step f4); clear f4 E2 HS HF)
                    | (refine wpList_put rfl _ _ _ rfl rfl (.int .i64 0) rfl rfl j4 (by simp) (by kernel_rfl) ?_; intro w5 f5 b5 hs5; have E5 := hid (PUT.out 0 HV.out _ _ E4.out f5 b5); clear f5 b5 j4 E4 hs5; simp only [World.size_alloc, World.size_drew, Act.put, List.setIfInBounds_toArray, List.set_cons_succ, List.set_cons_zero]))
                  go_roundw
                  case rel => exact ⟨1 + 1, by decide, by first | rfl | go_num, E5⟩
                  case measure => simp [intOf]
                · have HV := hid (SK.out (by rw [KC.out]; simp [hg]))
                  have hq : (g == G) = false := by simpa using hg
                  clear ho hg DD SK PUT
                  go_wp2_with (go_at_call 29; refine HS.out.mono ?_; rintro e w4 ⟨rfl, f4⟩; obtain ⟨j0, j1, j3, j4, j5, j6⟩ := HF.out _ f4; have E4 := hid (E2.out.step f4); clear f4 E2 HS HF)
                  go_roundw
                  case rel => exact ⟨1 + 1, by decide, by first | rfl | go_num, by rw [HV.out]; exact E4⟩
                  case measure => simp [intOf]
          · go_wp2_with fail
            go_ret2
            exact ⟨m, db, ib, rfl, E2.out⟩
  | false =>
    go_wp2_with (first
      | (go_at_call 28; refine HY.out.mono ?_; rintro e w1 ⟨rfl, f1⟩; have a1 := HA.out _ f1; have b1 := HB.out _ f1; have E1 := hid (E0.out.step f1); clear f1 HY E0 HA HB)
      | (refine pbuild_any rfl _ 2 _ rfl 26 Tryz.underlying76 _ _ Hi.out Hz.out rfl Hs.out (by decide) (by decide) rfl (dbL d) rfl (by simp [dbL, Value.oneCell']) ?_; intro w7 f7 hlt7 hb7; have E7 := hid (E1.out.new f7 (Res.On.blk hb7) (fun b hb => by simp [Res.blk] at hb; omega)); clear f7 hlt7 hb7 E1; simp only [World.size_alloc, World.size_drew, Act.put, List.setIfInBounds_toArray, List.set_cons_succ, List.set_cons_zero])
      | (refine pbuild_any rfl _ 2 _ rfl 3 Tryz.underlying60 _ _ Ji.out Jz.out rfl Js.out (by decide) (by decide) rfl [.int .i64 1, .int .i64 1] rfl (by simp [Value.oneCell']) ?_; intro w8 f8 hlt8 hb8; have E8 := hid (E7.out.new f8 (isR_on (M := ⟨s, false, false, 0⟩) hb8 rfl rfl) (fun b hb => by simp [isR] at hb; omega)); clear f8 hlt8 hb8 E7; simp only [World.size_alloc, World.size_drew, Act.put, List.setIfInBounds_toArray, List.set_cons_succ, List.set_cons_zero])
      | (refine wpList_box rfl _ _ rfl (gmL w1.heap.size w7.heap.size 0) rfl ?_; intro w9 f9 hlt9 hb9; have E9 := hid (Ev.three (E8.out.new f9 (Res.On.blk hb9) (fun b hb => by simp [Res.blk] at hb; omega))); clear f9 hlt9 hb9 E8; simp only [World.size_alloc, World.size_drew, Act.put, List.setIfInBounds_toArray, List.set_cons_succ, List.set_cons_zero]))
    obtain ⟨m, hm⟩ : ∃ m, w8.heap.size = m := ⟨_, rfl⟩
    obtain ⟨db, hdb⟩ : ∃ m, w1.heap.size = m := ⟨_, rfl⟩
    obtain ⟨ib, hib⟩ : ∃ m, w7.heap.size = m := ⟨_, rfl⟩
    rw [hm] at E9 ⊢
    rw [hdb, hib] at E9
    clear hm hdb hib a1 b1
    go_loopw [8, 9] (fun av iv wr => ∃ q : Nat, q ≤ 2 ∧ iv = .int .i64 (q : Int) ∧ av = .bool (opK s q).2 ∧ Hid (Ev w (l ++ sysX pbs s d FF) wr (l ++ mirX pbs m db ib d FF ⟨s, false, false, (opK s q).1⟩))) (fun _ iv _ => 2 - (intOf iv).toNat)
    case atStart => exact ⟨0, by decide, rfl, rfl, E9⟩
    case round =>
      obtain ⟨q, hq, rfl, rfl, E⟩ := hrel
      clear E9
      have hq3 : q = 0 ∨ q = 1 ∨ q = 2 := by omega
      rcases hq3 with rfl | rfl | rfl
      · rw [show (opK s 0).1 = 0 from rfl] at E
        rw [show (opK s 0).2 = false from rfl, show ((0 : Nat) : Int) = 0 from rfl]
        have bm := xir_blk E.out.held
        have k0 : wr.cell? ⟨m, 0, none⟩ = some (.slice (some ⟨db, 0, none⟩) 2 2) := bm.cell 0
        have d0 : wr.cell? ⟨db, 0, none⟩ = some (.pointer (some ⟨d false, 0, none⟩)) := (xir_dbl E.out.held).cell 0
        have HS := hid (pstamp_any false (xir_sys E.out.held) OK.out TX.out)
        have HQ : Hid (opK s (0 + 1) = if s.stO false then (s.stG false, true) else (0, false)) := hid rfl
        generalize s.stG false = g at *
        cases ho : s.stO false with
        | false =>
          rw [ho] at HS HQ
          clear bm
          go_wp2_with (go_at_call 29; refine HS.out.mono ?_; rintro e w2 ⟨rfl, f2⟩; have E2 := hid (E.out.step f2); clear f2 E HS)
          go_roundw
          case rel => exact ⟨0 + 1, by decide, by first | rfl | go_num, by rw [HQ.out]; rfl, by rw [HQ.out]; exact E2⟩
          case measure => simp [intOf]
        | true =>
          rw [ho] at HS HQ
          clear bm
          go_wp2_with (first
            | (go_at_call 29; refine HS.out.mono ?_; rintro e w2 ⟨rfl, f2⟩; have E2 := hid (E.out.step f2); have b2 := xir_blk E2.out.held; clear f2 E HS)
            | (refine wpList_put rfl _ _ _ rfl rfl (W64 g) rfl rfl b2 (by simp [gmL]) (by kernel_rfl) ?_; intro w3 f3 b3 hs3; have E3 := hid (xir_gen E2.out f3 (g := g) b3); clear f3 b3 b2 E2 hs3; simp only [World.size_alloc, World.size_drew, Act.put, List.setIfInBounds_toArray, List.set_cons_succ, List.set_cons_zero]))
          go_roundw
          case rel => exact ⟨0 + 1, by decide, by first | rfl | go_num, by rw [HQ.out]; rfl, by rw [HQ.out]; exact E3⟩
          case measure => simp [intOf]
      · rw [show opK s 1 = s.opA from rfl] at E
        rw [show opK s 1 = s.opA from rfl, show ((1 : Nat) : Int) = 1 from rfl]
        have bm := xir_blk E.out.held
        have k0 : wr.cell? ⟨m, 0, none⟩ = some (.slice (some ⟨db, 0, none⟩) 2 2) := bm.cell 0
        have d0 : wr.cell? ⟨db, 1, none⟩ = some (.pointer (some ⟨d true, 0, none⟩)) := (xir_dbl E.out.held).cell 1
        have HS := hid (pstamp_any true (xir_sys E.out.held) OK.out TX.out)
        have HQ : Hid (opK s (1 + 1) = if s.stO true && (!s.opA.2 || decide (s.opA.1 < s.stG true)) then (s.stG true, true) else s.opA) := hid rfl
        have HPr := hid (show s.opA = (s.opA.1, s.opA.2) from rfl)
        have k2 : wr.cell? ⟨m, 2, none⟩ = some (W64 s.opA.1) := bm.cell 2
        have HK2 := hid fun (w2 : World) (f : Fr [] wr w2) => f.cell_some k2
        generalize s.stG true = g at *
        obtain ⟨G1, hG1⟩ : ∃ v, s.opA.1 = v := ⟨_, rfl⟩
        rw [hG1] at E HQ HPr HK2
        clear k2 bm hG1
        cases ha : s.opA.2 with
        | false =>
          rw [ha] at HQ HPr
          cases ho : s.stO true with
          | false =>
            rw [ho] at HS HQ
            go_wp2_with (go_at_call 29; refine HS.out.mono ?_; rintro e w2 ⟨rfl, f2⟩; have E2 := hid (E.out.step f2); clear f2 E HS)
            go_roundw
            case rel => exact ⟨1 + 1, by decide, by first | rfl | go_num, by rw [HQ.out]; simp [ha], by rw [HQ.out]; simp only [Bool.false_and, Bool.false_eq_true, if_false]; rw [HPr.out]; exact E2⟩
            case measure => simp [intOf]
          | true =>
            rw [ho] at HS HQ
            go_wp2_with (first
              | (go_at_call 29; refine HS.out.mono ?_; rintro e w2 ⟨rfl, f2⟩; have E2 := hid (E.out.step f2); have b2 := xir_blk E2.out.held; clear f2 E HS)
              | (refine wpList_put rfl _ _ _ rfl rfl (W64 g) rfl rfl b2 (by simp [gmL]) (by kernel_rfl) ?_; intro w3 f3 b3 hs3; have E3 := hid (xir_gen E2.out f3 (g := g) b3); clear f3 b3 b2 E2 hs3; simp only [World.size_alloc, World.size_drew, Act.put, List.setIfInBounds_toArray, List.set_cons_succ, List.set_cons_zero]))
            go_roundw
            case rel => exact ⟨1 + 1, by decide, by first | rfl | go_num, by rw [HQ.out]; rfl, by rw [HQ.out]; exact E3⟩
            case measure => simp [intOf]
        | true =>
          rw [ha] at HQ HPr
          cases ho : s.stO true with
          | false =>
            rw [ho] at HS HQ
            go_wp2_with (go_at_call 29; refine HS.out.mono ?_; rintro e w2 ⟨rfl, f2⟩; have E2 := hid (E.out.step f2); clear f2 E HS)
            go_roundw
            case rel => exact ⟨1 + 1, by decide, by first | rfl | go_num, by rw [HQ.out]; simp [ha], by rw [HQ.out]; simp only [Bool.false_and, Bool.false_eq_true, if_false]; rw [HPr.out]; exact E2⟩
            case measure => simp [intOf]
          | true =>
            rw [ho] at HS HQ
            cases hlt : decide (G1 < g) with
            | false =>
              rw [hlt] at HQ
              go_wp2_with (go_at_call 29; refine HS.out.mono ?_; rintro e w2 ⟨rfl, f2⟩; have E2 := hid (E.out.step f2); have kk := HK2.out _ f2; clear f2 E HS)
              go_roundw
              case rel => exact ⟨1 + 1, by decide, by first | rfl | go_num, by rw [HQ.out]; simp [ha], by rw [HQ.out]; simp only [Bool.not_true, Bool.or_self, Bool.and_false, Bool.false_eq_true, if_false]; rw [HPr.out]; exact E2⟩
              case measure => simp [intOf]
            | true =>
              rw [hlt] at HQ
              go_wp2_with (first
                | (go_at_call 29; refine HS.out.mono ?_; rintro e w2 ⟨rfl, f2⟩; have E2 := hid (E.out.step f2); have kk := HK2.out _ f2; have b2 := xir_blk E2.out.held; clear f2 E HS)
                | (refine wpList_put rfl _ _ _ rfl rfl (W64 g) rfl rfl b2 (by simp [gmL]) (by kernel_rfl) ?_; intro w3 f3 b3 hs3; have E3 := hid (xir_gen E2.out f3 (g := g) b3); clear f3 b3 b2 E2 hs3; simp only [World.size_alloc, World.size_drew, Act.put, List.setIfInBounds_toArray, List.set_cons_succ, List.set_cons_zero]))
              go_roundw
              case rel => exact ⟨1 + 1, by decide, by first | rfl | go_num, by rw [HQ.out]; rfl, by rw [HQ.out]; exact E3⟩
              case measure => simp [intOf]
      · rw [show opK s 2 = s.opB from rfl] at E
        rw [show opK s 2 = s.opB from rfl, hB, show ((2 : Nat) : Int) = 2 from rfl]
        go_wp2_with fail
        go_loopw [12] (fun iv wq => ∃ q : Nat, q ≤ 2 ∧ iv = .int .i64 (q : Int) ∧ Hid (Ev w (l ++ sysX pbs s d FF) wq (l ++ mirX pbs m db ib d FF (opM s q)))) (fun iv _ => 2 - (intOf iv).toNat)
        case atStart => exact ⟨0, by decide, rfl, E⟩
        case round =>
          obtain ⟨q, hq, rfl, E2⟩ := hrel
          clear E
          have hq3 : q = 0 ∨ q = 1 ∨ q = 2 := by omega
          rcases hq3 with rfl | rfl | rfl
          · rw [show ((0 : Nat) : Int) = 0 from rfl]
            have bm := xir_blk E2.out.held
            obtain ⟨b0, b1, hib, hb0, hb1⟩ := xir_is E2.out.held
            have k0 : wr.cell? ⟨m, 0, none⟩ = some (.slice (some ⟨db, 0, none⟩) 2 2) := bm.cell 0
            have k1 : wr.cell? ⟨m, 1, none⟩ = some (.slice (some ⟨ib, 0, none⟩) 2 2) := bm.cell 1
            have k2 : wr.cell? ⟨m, 2, none⟩ = some (W64 s.opB.1) := bm.cell 2
            have d0 : wr.cell? ⟨db, 0, none⟩ = some (.pointer (some ⟨d false, 0, none⟩)) := (xir_dbl E2.out.held).cell 0
            have HSS := pstamp_any false (xir_sys E2.out.held) (show SysOk (opM s 0).s from OK.out) (show (opM s 0).s.T < 1000000 from TX.out)
            have HS : Hid (Calls Tryz.prog 29 #[.pointer (some ⟨d false, 0, none⟩)] wr fun e w' => e = .returned (.tuple #[W64 (s.stG false), .bool (s.stO false)]) ∧ Fr [] wr w') := hid HSS
            obtain ⟨kb, kc, _, y3⟩ := psee false E2.out.held (show SysOk (opM s 0).s from OK.out)
            have y3' : wr.cell? ⟨d false, 3, none⟩ = some (.bool (s.X false).Dead) := y3
            have KC := hid (show s.cur false = (s.stO false && decide (s.stG false = s.opB.1)) from rfl)
            have DD := hid fun h : (s.X false).Dead = true => sto_dead h
            have SK := hid fun h : s.cur false = false => (show opM s (0 + 1) = opM s 0 from by unfold opM; simp only; rw [h])
            have HF := hid fun (w2 : World) (f : Fr [] wr w2) => And.intro (f.cell_some k0) (And.intro (f.cell_some d0) (And.intro (f.cell_some y3') (And.intro (f.blk hib (by simp)) (And.intro (f.cell_some k1) (f.cell_some k2)))))
            have PUT := hid fun (v : Int) (hv : s.cur false = decide (v = 0)) (w2 w3 : World) (e2 : Ev w (l ++ sysX pbs s d FF) w2 (l ++ mirX pbs m db ib d FF (opM s 0))) (f : Fr [ib] w2 w3) (hb : Blk w3 ib [.int .i64 v, .int .i64 b1]) => (show Ev w (l ++ sysX pbs s d FF) w3 (l ++ mirX pbs m db ib d FF (opM s (0 + 1))) from xir_put (M' := opM s (0 + 1)) e2 f hb rfl rfl hv hb1)
            obtain ⟨xb, hxb⟩ : ∃ v, (s.X false).Dead = v := ⟨_, rfl⟩
            rw [hxb] at HF DD
            generalize s.stG false = g at *
            generalize s.opB.1 = G at *
            clear y3 y3' HSS k1 k2 bm hib hb0 hb1 hxb
            cases xb with
            | true =>
              have ho := DD.out rfl
              rw [ho] at HS KC
              have hv : s.cur false = decide ((2 : Int) = 0) := by rw [KC.out]; rfl
              have HV := hid hv
              clear ho hv DD SK
              go_wp2_with (first
                | (go_at_call 29; refine HS.out.mono ?_; rintro e w4 ⟨rfl, f4⟩; obtain ⟨j0, j1, j3, j4, j5, j6⟩ := HF.out _ f4; have E4 := hid (E2.out.step f4); clear f4 E2 HS HF)
                | (refine wpList_put rfl _ _ _ rfl rfl (.int .i64 2) rfl rfl j4 (by simp) (by kernel_rfl) ?_; intro w5 f5 b5 hs5; have E5 := hid (PUT.out 2 HV.out _ _ E4.out f5 b5); clear f5 b5 j4 E4 hs5; simp only [World.size_alloc, World.size_drew, Act.put, List.setIfInBounds_toArray, List.set_cons_succ, List.set_cons_zero]))
              go_roundw
              case rel => exact ⟨0 + 1, by decide, by first | rfl | go_num, E5⟩
              case measure => simp [intOf]
            | false =>
              cases ho : s.stO false with
              | false =>
                rw [ho] at HS KC
                have HV := hid (SK.out (by rw [KC.out]; rfl))
                clear ho DD SK PUT
                go_wp2_with (go_at_call 29; refine HS.out.mono ?_; rintro e w4 ⟨rfl, f4⟩; obtain ⟨j0, j1, j3, j4, j5, j6⟩ := HF.out _ f4; have E4 := hid (E2.out.step f4); clear f4 E2 HS HF)
                go_roundw
                case rel => exact ⟨0 + 1, by decide, by first | rfl | go_num, by rw [HV.out]; exact E4⟩
                case measure => simp [intOf]
              | true =>
                rw [ho] at HS KC
                by_cases hg : g = G
                · have hv : s.cur false = decide ((0 : Int) = 0) := by rw [KC.out]; simp [hg]
                  have HV := hid hv
                  have hq : (g == G) = true := by simpa using hg
                  clear ho hv hg DD SK
                  go_wp2_with (first
                    | (go_at_call 29; refine HS.out.mono ?_; rintro e w4 ⟨rfl, f4⟩; obtain ⟨j0, j1, j3, j4, j5, j6⟩ := HF.out _ f4; have E4 := hid (E2.out.step f4); clear f4 E2 HS HF)
                    | (refine wpList_put rfl _ _ _ rfl rfl (.int .i64 0) rfl rfl j4 (by simp) (by kernel_rfl) ?_; intro w5 f5 b5 hs5; have E5 := hid (PUT.out 0 HV.out _ _ E4.out f5 b5); clear f5 b5 j4 E4 hs5; simp only [World.size_alloc, World.size_drew, Act.put, List.setIfInBounds_toArray, List.set_cons_succ, List.set_cons_zero]))
                  go_roundw
                  case rel => exact ⟨0 + 1, by decide, by first | rfl | go_num, E5⟩
                  case measure => simp [intOf]
                · have HV := hid (SK.out (by rw [KC.out]; simp [hg]))
                  have hq : (g == G) = false := by simpa using hg
                  clear ho hg DD SK PUT
                  go_wp2_with (go_at_call 29; refine HS.out.mono ?_; rintro e w4 ⟨rfl, f4⟩; obtain ⟨j0, j1, j3, j4, j5, j6⟩ := HF.out _ f4; have E4 := hid (E2.out.step f4); clear f4 E2 HS HF)
                  go_roundw
                  case rel => exact ⟨0 + 1, by decide, by first | rfl | go_num, by rw [HV.out]; exact E4⟩
                  case measure => simp [intOf]
          · rw [show ((1 : Nat) : Int) = 1 from rfl]
            have bm := xir_blk E2.out.held
            obtain ⟨b0, b1, hib, hb0, hb1⟩ := xir_is E2.out.held
            have k0 : wr.cell? ⟨m, 0, none⟩ = some (.slice (some ⟨db, 0, none⟩) 2 2) := bm.cell 0
            have k1 : wr.cell? ⟨m, 1, none⟩ = some (.slice (some ⟨ib, 0, none⟩) 2 2) := bm.cell 1
            have k2 : wr.cell? ⟨m, 2, none⟩ = some (W64 s.opB.1) := bm.cell 2
            have d0 : wr.cell? ⟨db, 1, none⟩ = some (.pointer (some ⟨d true, 0, none⟩)) := (xir_dbl E2.out.held).cell 1
            have HSS := pstamp_any true (xir_sys E2.out.held) (show SysOk (opM s 1).s from OK.out) (show (opM s 1).s.T < 1000000 from TX.out)
            have HS : Hid (Calls Tryz.prog 29 #[.pointer (some ⟨d true, 0, none⟩)] wr fun e w' => e = .returned (.tuple #[W64 (s.stG true), .bool (s.stO true)]) ∧ Fr [] wr w') := hid HSS
            obtain ⟨kb, kc, _, y3⟩ := psee true E2.out.held (show SysOk (opM s 1).s from OK.out)
            have y3' : wr.cell? ⟨d true, 3, none⟩ = some (.bool (s.X true).Dead) := y3
            have KC := hid (show s.cur true = (s.stO true && decide (s.stG true = s.opB.1)) from rfl)
            have DD := hid fun h : (s.X true).Dead = true => sto_dead h
            have SK := hid fun h : s.cur true = false => (show opM s (1 + 1) = opM s 1 from by unfold opM; simp only; rw [h])
            have HF := hid fun (w2 : World) (f : Fr [] wr w2) => And.intro (f.cell_some k0) (And.intro (f.cell_some d0) (And.intro (f.cell_some y3') (And.intro (f.blk hib (by simp)) (And.intro (f.cell_some k1) (f.cell_some k2)))))
            have PUT := hid fun (v : Int) (hv : s.cur true = decide (v = 0)) (w2 w3 : World) (e2 : Ev w (l ++ sysX pbs s d FF) w2 (l ++ mirX pbs m db ib d FF (opM s 1))) (f : Fr [ib] w2 w3) (hb : Blk w3 ib [.int .i64 b0, .int .i64 v]) => (show Ev w (l ++ sysX pbs s d FF) w3 (l ++ mirX pbs m db ib d FF (opM s (1 + 1))) from xir_put (M' := opM s (1 + 1)) e2 f hb rfl rfl hb0 hv)
            obtain ⟨xb, hxb⟩ : ∃ v, (s.X true).Dead = v := ⟨_, rfl⟩
            rw [hxb] at HF DD
            generalize s.stG true = g at *
            generalize s.opB.1 = G at *
            clear y3 y3' HSS k1 k2 bm hib hb0 hb1 hxb
            cases xb with
            | true =>
              have ho := DD.out rfl
              rw [ho] at HS KC
              have hv : s.cur true = decide ((2 : Int) = 0) := by rw [KC.out]; rfl
              have HV := hid hv
              clear ho hv DD SK
              go_wp2_with (first
                | (go_at_call 29; refine HS.out.mono ?_; rintro e w4 ⟨rfl, f4⟩; obtain ⟨j0, j1, j3, j4, j5, j6⟩ := HF.out _ f4; have E4 := hid (E2.out.step f4); clear f4 E2 HS HF)
                | (refine wpList_put rfl _ _ _ rfl rfl (.int .i64 2) rfl rfl j4 (by simp) (by kernel_rfl) ?_; intro w5 f5 b5 hs5; have E5 := hid (PUT.out 2 HV.out _ _ E4.out f5 b5); clear f5 b5 j4 E4 hs5; simp only [World.size_alloc, World.size_drew, Act.put, List.setIfInBounds_toArray, List.set_cons_succ, List.set_cons_zero]))
              go_roundw
              case rel => exact ⟨1 + 1, by decide, by first | rfl | go_num, E5⟩
              case measure => simp [intOf]
            | false =>
              cases ho : s.stO true with
              | false =>
                rw [ho] at HS KC
                have HV := hid (SK.out (by rw [KC.out]; rfl))
                clear ho DD SK PUT
                go_wp2_with (go_at_call 29; refine HS.out.mono ?_; rintro e w4 ⟨rfl, f4⟩; obtain ⟨j0, j1, j3, j4, j5, j6⟩ := HF.out _ f4; have E4 := hid (E2.out.step f4); clear f4 E2 HS HF)
                go_roundw
                case rel => exact ⟨1 + 1, by decide, by first | rfl | go_num, by rw [HV.out]; exact E4⟩
                case measure => simp [intOf]
              | true =>
                rw [ho] at HS KC
                by_cases hg : g = G
                · have hv : s.cur true = decide ((0 : Int) = 0) := by rw [KC.out]; simp [hg]
                  have HV := hid hv
                  have hq : (g == G) = true := by simpa using hg
                  clear ho hv hg DD SK
                  go_wp2_with (first
                    | (go_at_call 29; refine HS.out.mono ?_; rintro e w4 ⟨rfl, f4⟩; obtain ⟨j0, j1, j3, j4, j5, j6⟩ := HF.out _ f4; have E4 := hid (E2.out.step f4); clear f4 E2 HS HF)
                    | (refine wpList_put rfl _ _ _ rfl rfl (.int .i64 0) rfl rfl j4 (by simp) (by kernel_rfl) ?_; intro w5 f5 b5 hs5; have E5 := hid (PUT.out 0 HV.out _ _ E4.out f5 b5); clear f5 b5 j4 E4 hs5; simp only [World.size_alloc, World.size_drew, Act.put, List.setIfInBounds_toArray, List.set_cons_succ, List.set_cons_zero]))
                  go_roundw
                  case rel => exact ⟨1 + 1, by decide, by first | rfl | go_num, E5⟩
                  case measure => simp [intOf]
                · have HV := hid (SK.out (by rw [KC.out]; simp [hg]))
                  have hq : (g == G) = false := by simpa using hg
                  clear ho hg DD SK PUT
                  go_wp2_with (go_at_call 29; refine HS.out.mono ?_; rintro e w4 ⟨rfl, f4⟩; obtain ⟨j0, j1, j3, j4, j5, j6⟩ := HF.out _ f4; have E4 := hid (E2.out.step f4); clear f4 E2 HS HF)
                  go_roundw
                  case rel => exact ⟨1 + 1, by decide, by first | rfl | go_num, by rw [HV.out]; exact E4⟩
                  case measure => simp [intOf]
          · go_wp2_with fail
            go_ret2
            exact ⟨m, db, ib, rfl, E2.out⟩
end
end Go.Proofs.YtjgagcpmoffldaaGreat
