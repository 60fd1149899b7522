/- Layer 7 (great seat): have both pairs of disks the same sectors and traces? -/
import Derived.Test.YtjgagcpmoffldaaGreatPmM
namespace Go.Proofs.YtjgagcpmoffldaaGreat
open Go Go.Xr Go.RowKit
set_option linter.unusedVariables false
set_option linter.unusedSimpArgs false
section
variable {w w' w0 : World} {l lc lx : List Res} {pbs qbs : List Nat} {m y db ib : Nat} {s : Sys} {M M' : MS} {d x : Bool → Nat} {FF GG : Bool → List Nat}
theorem sTrace (b : Bool) (h : Held w (l ++ sysC pbs s d FF)) (ok : SysOk s) (ht : s.T < 1000000) :
    Calls Tryz.prog 39 #[.pointer (some ⟨d b, 0, none⟩)] w fun e w' => (∃ a c B, e = .returned (.slice a (s.X b).Trace.length c) ∧ Rc w' 1 (.slice a (s.X b).Trace.length c) (s.X b).Trace.length ((s.X b).Trace.map (.int .i64)) B) ∧ Fr [] w w' := by
  have hT := T_le s b
  have hr := Held.rep (one_op (sys_part b h) (ok.k b))
  refine (trace_any hr (by show (s.X b).Trace.length < 1000000; omega)).mono ?_
  rintro e w' ⟨⟨v, B, rfl, hv⟩, f⟩
  have hv' : Rd w' 1 v (s.X b).Trace.length ((s.X b).Trace.map (.int .i64)) B := hv
  obtain ⟨a, c, rfl⟩ := hv'.isSlice
  exact ⟨⟨a, c, B, rfl, hv'.rc⟩, f⟩
theorem xsee3 (b : Bool) (h : Held w (l ++ sysX pbs s d FF)) (ok : SysOk s) : ∃ (kb kc : Nat) (a : Option Addr) (c : Nat) (B : Option Nat), w.cell? ⟨d b, 0, none⟩ = some (.slice (some ⟨kb, 0, none⟩) (s.len b) kc) ∧ w.cell? ⟨d b, 2, none⟩ = some (.slice a (s.X b).Trace.length c) ∧ w.cell? ⟨d b, 3, none⟩ = some (.bool (s.X b).Dead) ∧ Rc w 1 (.slice a (s.X b).Trace.length c) (s.X b).Trace.length ((s.X b).Trace.map (.int .i64)) B := by
  have hp := xys_part b h
  obtain ⟨i, hF, hx⟩ := xone_op hp (ok.k b)
  have hb := (Held.xpsOf hx).blkAt 0 rfl
  have ho := (Held.xpsOf hx).at 1 rfl
  have h3 : Xr.Own w 1 i.tv (s.X b).Trace.length ((s.X b).Trace.map (.int .i64)) i.T := (Held.xpsOf hx).at 3 rfl
  obtain ⟨kb, kc, _, hv, _, _, _⟩ := own_open ho (ok.g b).pos
  obtain ⟨a, c, hv3⟩ := h3.isSlice
  rw [hv] at hb
  have e3 := hv3
  rw [e3] at h3 hb
  exact ⟨kb, kc, a, c, i.T, hb.cell 0, hb.cell 2, hb.cell 3, h3.rd.rc⟩
set_option maxRecDepth 20000 in
set_option maxHeartbeats 8000000 in
theorem pdisks_any (hc : Held w (lc ++ sysC pbs s d FF)) (hx : Held w (lx ++ sysX qbs s x GG)) (ok : SysOk s) (ht : s.T < 1000000) :
    Calls Tryz.prog 12 #[.agg #[.pointer (some ⟨d false, 0, none⟩), .pointer (some ⟨d true, 0, none⟩)], .agg #[.pointer (some ⟨x false, 0, none⟩), .pointer (some ⟨x true, 0, none⟩)]] w fun e w' => e = .returned (.bool true) ∧ Fr [] w w' := by
  have HC := hid hc
  have HX := hid hx
  clear hc hx
  go_enter Tryz.func12, Tryz.ntmps12
  go_wp2_with (first
    | (refine wpList_box rfl _ _ rfl [.pointer (some ⟨d false, 0, none⟩), .pointer (some ⟨d true, 0, none⟩)] rfl ?_; intro w1 f1 hlt1 hb1; simp only [World.size_alloc, World.size_drew, Act.put, List.setIfInBounds_toArray, List.set_cons_succ, List.set_cons_zero])
    | (refine wpList_box rfl _ _ rfl [.pointer (some ⟨x false, 0, none⟩), .pointer (some ⟨x true, 0, none⟩)] rfl ?_; intro w2 f2 hlt2 hb2; simp only [World.size_alloc, World.size_drew, Act.put, List.setIfInBounds_toArray, List.set_cons_succ, List.set_cons_zero]))
  have hbc := f2.blk hb1 (by simp)
  have hbx := hb2
  obtain ⟨bc, hbc'⟩ : ∃ v, w.heap.size = v := ⟨_, rfl⟩
  obtain ⟨bx, hbx'⟩ : ∃ v, w1.heap.size = v := ⟨_, rfl⟩
  rw [hbc'] at hbc ⊢
  rw [hbx'] at hbx ⊢
  have f12 := f1.trans' f2
  have hc2 := HC.out.keep0 f12
  have hx2 := HX.out.keep0 f12
  have F12 := hid f12
  clear HC HX f1 f2 hlt1 hlt2 hb1 hb2 f12 hbc' hbx'
  go_loopw [5] (fun kv wr => ∃ q : Nat, q ≤ 2 ∧ kv = .int .i64 (q : Int) ∧ Fr [] w2 wr) (fun kv _ => 2 - (intOf kv).toNat)
  case atStart => exact ⟨0, by decide, rfl, Fr.refl _ _⟩
  case round =>
    obtain ⟨q, hq, rfl, f⟩ := hrel
    have hq3 : q = 0 ∨ q = 1 ∨ q = 2 := by omega
    rcases hq3 with rfl | rfl | rfl
    · rw [show ((0 : Nat) : Int) = 0 from rfl]
      have F0 := hid f
      have c0 : wr.cell? ⟨bc, 0, none⟩ = some (.pointer (some ⟨d false, 0, none⟩)) := (f.blk hbc (by simp)).cell 0
      have hcd : wr.drew.cell? ⟨bc, 0, none⟩ = some (.pointer (some ⟨d false, 0, none⟩)) := c0
      have HBC := hid fun (w1 : World) (f : Fr [] w2 w1) => ((f.blk hbc (by simp)).cell 0 : w1.cell? ⟨bc, 0, none⟩ = some (.pointer (some ⟨d false, 0, none⟩)))
      have HBX := hid fun (w1 : World) (f : Fr [] w2 w1) => ((f.blk hbx (by simp)).cell 0 : w1.cell? ⟨bx, 0, none⟩ = some (.pointer (some ⟨x false, 0, none⟩)))
      obtain ⟨kb, kc, ta, tc, TB, y0, y2, y3, ytr⟩ := xsee3 false hx2 ok
      have HY := hid fun (w1 : World) (f : Fr [] w2 w1) => And.intro (f.cell_some y0) (And.intro (f.cell_some y2) (And.intro (f.cell_some y3) (ytr.keep f (by simp))))
      have HD := hid fun (w1 : World) (f : Fr [] w2 w1) => sDead false (hc2.keep0 f) ok
      have HT := hid fun (w1 : World) (f : Fr [] w2 w1) => sTrace false (hc2.keep0 f) ok ht
      have HRc := hid fun (w1 : World) (f : Fr [] w2 w1) (j : Nat) (hj : j ≤ 16384) => sR false (hc2.keep0 f) ok (j : Int) (by omega) (by omega)
      have HRx := hid fun (w1 : World) (f : Fr [] w2 w1) (j : Nat) (hj : j ≤ 16384) => xR false (hx2.keep0 f) ok ht (j : Int)
      have hlen := (len_pos ok false).2
      have g0 : Fr [] w2 wr.drew := f.drew
      have G0 := hid g0
      have bxd := HBX.out _ g0
      obtain ⟨_, _, y3d, _⟩ := HY.out _ g0
      have htb : (s.X false).Trace.length ≤ 1000000 := by have := T_le s false; omega
      generalize s.len false = n at *
      generalize (s.X false).Dead = dd at *
      generalize (s.X false).Trace = tr at *
      obtain ⟨tn, htn⟩ : ∃ v, tr.length = v := ⟨_, rfl⟩
      rw [htn] at HT HY htb
      have htn' := hid htn
      clear y0 y2 y3 ytr
      go_wp2_with fail
      refine wp_region_D (fun w' => w'.cell? ⟨bx, 0, none⟩ = some (.pointer (some ⟨x false, 0, none⟩)) ∧ w'.cell? ⟨x false, 3, none⟩ = some (.bool dd)) false [] (by kernel_rfl) ?_
      refine WD.pure [0, 1, 2] (by kernel_rfl) ⟨bxd, y3d⟩ ?_
      simp only [pick, List.toList_toArray, List.map_cons, List.map_nil, List.getD_cons_succ, List.getD_cons_zero]
      repeat (first | (refine quiet_load_1R (by rfl) _ _ rfl rfl (.pointer (some ⟨x false, 0, none⟩)) (fun wq h => by first|exact h.1|(rw [h];exact bxd)) _ Tryz.underlying26 rfl ?_; simp only [World.size_alloc, World.size_drew, Act.put, List.setIfInBounds_toArray, List.set_cons_succ, List.set_cons_zero]) | (refine quiet_load_1R (by rfl) _ _ rfl rfl (.bool dd) (fun wq h => by first|exact h.2|(rw [h];exact y3d)) _ Tryz.underlying4 rfl ?_; simp only [World.size_alloc, World.size_drew, Act.put, List.setIfInBounds_toArray, List.set_cons_succ, List.set_cons_zero]) | go_big_quiet_step (fail))
      refine wpQuiet_nil ?_
      refine WD.free [4, 5] (by kernel_rfl) ⟨bxd, y3d⟩ ?_
      simp only [pick, List.toList_toArray, List.map_cons, List.map_nil, List.getD_cons_succ, List.getD_cons_zero]
      repeat (first | (refine quiet_load_1R (by rfl) _ _ rfl rfl (.pointer (some ⟨x false, 0, none⟩)) (fun wq h => by first|exact h.1|(rw [h];exact bxd)) _ Tryz.underlying26 rfl ?_; simp only [World.size_alloc, World.size_drew, Act.put, List.setIfInBounds_toArray, List.set_cons_succ, List.set_cons_zero]) | (refine quiet_load_1R (by rfl) _ _ rfl rfl (.bool dd) (fun wq h => by first|exact h.2|(rw [h];exact y3d)) _ Tryz.underlying4 rfl ?_; simp only [World.size_alloc, World.size_drew, Act.put, List.setIfInBounds_toArray, List.set_cons_succ, List.set_cons_zero]) | go_big_quiet_step (fail))
      refine wpQuiet_nil ?_
      refine WD.held [6] (by kernel_rfl) ⟨bxd, y3d⟩ ?_
      simp only [pick, List.toList_toArray, List.map_cons, List.map_nil, List.getD_cons_succ, List.getD_cons_zero]
      repeat (first | (refine quiet_load_1R (by rfl) _ _ rfl rfl (.pointer (some ⟨x false, 0, none⟩)) (fun wq h => by first|exact h.1|(rw [h];exact bxd)) _ Tryz.underlying26 rfl ?_; simp only [World.size_alloc, World.size_drew, Act.put, List.setIfInBounds_toArray, List.set_cons_succ, List.set_cons_zero]) | (refine quiet_load_1R (by rfl) _ _ rfl rfl (.bool dd) (fun wq h => by first|exact h.2|(rw [h];exact y3d)) _ Tryz.underlying4 rfl ?_; simp only [World.size_alloc, World.size_drew, Act.put, List.setIfInBounds_toArray, List.set_cons_succ, List.set_cons_zero]) | go_big_quiet_step (fail))
      refine wpQuiet_nil ?_
      refine WD.free [7, 8] (by kernel_rfl) ⟨bxd, y3d⟩ ?_
      simp only [pick, List.toList_toArray, List.map_cons, List.map_nil, List.getD_cons_succ, List.getD_cons_zero]
      repeat (first | (refine quiet_load_1R (by rfl) _ _ rfl rfl (.pointer (some ⟨x false, 0, none⟩)) (fun wq h => by first|exact h.1|(rw [h];exact bxd)) _ Tryz.underlying26 rfl ?_; simp only [World.size_alloc, World.size_drew, Act.put, List.setIfInBounds_toArray, List.set_cons_succ, List.set_cons_zero]) | (refine quiet_load_1R (by rfl) _ _ rfl rfl (.bool dd) (fun wq h => by first|exact h.2|(rw [h];exact y3d)) _ Tryz.underlying4 rfl ?_; simp only [World.size_alloc, World.size_drew, Act.put, List.setIfInBounds_toArray, List.set_cons_succ, List.set_cons_zero]) | go_big_quiet_step (fail))
      refine wpQuiet_nil ?_
      refine WD.held [9] (by kernel_rfl) ⟨bxd, y3d⟩ ?_
      simp only [pick, List.toList_toArray, List.map_cons, List.map_nil, List.getD_cons_succ, List.getD_cons_zero]
      repeat (first | (refine quiet_load_1R (by rfl) _ _ rfl rfl (.pointer (some ⟨x false, 0, none⟩)) (fun wq h => by first|exact h.1|(rw [h];exact bxd)) _ Tryz.underlying26 rfl ?_; simp only [World.size_alloc, World.size_drew, Act.put, List.setIfInBounds_toArray, List.set_cons_succ, List.set_cons_zero]) | (refine quiet_load_1R (by rfl) _ _ rfl rfl (.bool dd) (fun wq h => by first|exact h.2|(rw [h];exact y3d)) _ Tryz.underlying4 rfl ?_; simp only [World.size_alloc, World.size_drew, Act.put, List.setIfInBounds_toArray, List.set_cons_succ, List.set_cons_zero]) | go_big_quiet_step (fail))
      refine wpQuiet_nil ?_
      refine WD.eff 3 (by kernel_rfl) ?_
      simp only [pick, List.toList_toArray, List.map_cons, List.map_nil, List.getD_cons_succ, List.getD_cons_zero]
      go_wp2_with (go_at_call 26; refine (HD.out _ G0.out).mono ?_; rintro e w3 ⟨rfl, rfl⟩)
      try refine wpList_nil ?_
      refine AfterD.on ⟨bxd, y3d⟩ (by kernel_rfl) ?_
      try simp only [World.size_alloc, World.size_drew, Act.put, List.setIfInBounds_toArray, List.set_cons_succ, List.set_cons_zero]
      refine WD.pure [10] (by kernel_rfl) ⟨bxd, y3d⟩ ?_
      simp only [pick, List.toList_toArray, List.map_cons, List.map_nil, List.getD_cons_succ, List.getD_cons_zero]
      repeat (first | (refine quiet_load_1R (by rfl) _ _ rfl rfl (.pointer (some ⟨x false, 0, none⟩)) (fun wq h => by first|exact h.1|(rw [h];exact bxd)) _ Tryz.underlying26 rfl ?_; simp only [World.size_alloc, World.size_drew, Act.put, List.setIfInBounds_toArray, List.set_cons_succ, List.set_cons_zero]) | (refine quiet_load_1R (by rfl) _ _ rfl rfl (.bool dd) (fun wq h => by first|exact h.2|(rw [h];exact y3d)) _ Tryz.underlying4 rfl ?_; simp only [World.size_alloc, World.size_drew, Act.put, List.setIfInBounds_toArray, List.set_cons_succ, List.set_cons_zero]) | go_big_quiet_step (fail))
      refine wpQuiet_nil ?_
      refine WD.done (by kernel_rfl) ?_
      have c1 := HBC.out _ G0.out
      go_wp2_with (go_at_call 39; refine (HT.out _ G0.out).mono ?_; rintro e w4 ⟨⟨a, c, TB2, rfl, hr⟩, f4⟩; have F4 := hid (G0.out.trans' f4); have HR := hid hr; have bx4 := HBX.out _ F4.out; obtain ⟨_, y24, _, _⟩ := HY.out _ F4.out; clear f4 hr HT HD)
      clear c0 hcd bxd y3d c1 bx4 y24 g0 f
      go_loopw [7] (fun iv wr => ∃ i : Nat, i ≤ tn ∧ iv = .int .i64 (i : Int) ∧ Hid (Fr [] w4 wr)) (fun iv _ => tn - (intOf iv).toNat)
      case atStart => exact ⟨0, Nat.zero_le _, rfl, hid (Fr.refl _ _)⟩
      case round =>
        obtain ⟨i, hi, rfl, g⟩ := hrel
        by_cases hlt : i < tn
        · have hd1 : decide (i < tn) = true := by simpa using hlt
          have hd2 : decide ((i : Int) < (tn : Int)) = true := by simp; omega
          have g1 := hid g.out.drew
          have F5 := hid (F4.out.trans' g1.out)
          have htl : tr.length = tn := htn'.out
          obtain ⟨b, o, c', hB, hv, _, _, _, hcell⟩ := (HR.out.keep g1.out (by simp)).some (by omega)
          obtain ⟨rfl, rfl⟩ : a = some ⟨b, o, none⟩ ∧ c = c' := by simpa using hv
          obtain ⟨_, z2, _, zr⟩ := HY.out _ F5.out
          obtain ⟨b2, o2, c2, hB2, hv2, _, _, _, hcell2⟩ := zr.some (by omega)
          obtain ⟨rfl, rfl⟩ : ta = some ⟨b2, o2, none⟩ ∧ tc = c2 := by simpa using hv2
          have hb := HBX.out _ F5.out
          obtain ⟨zz, hzz⟩ : ∃ v, tr[i]'(by omega) = v := ⟨_, rfl⟩
          have e0 : (tr.map (Value.int .i64))[i]? = some (.int .i64 zz) := by rw [List.getElem?_map, List.getElem?_eq_getElem (by omega), hzz]; rfl
          have k1 : wr.drew.cell? ⟨b, o + i, none⟩ = some (.int .i64 zz) := (hcell i (by simp; omega)).trans e0
          have k2 : wr.drew.cell? ⟨b2, o2 + i, none⟩ = some (.int .i64 zz) := (hcell2 i (by simp; omega)).trans e0
          clear hcell hcell2 hv hv2 hB hB2 zr hzz e0
          go_wp2_with fail
          refine wp_region_D (fun _ => True) false [] (by kernel_rfl) ?_
          refine WD.pure [0, 1, 2, 3, 4, 5, 6, 7, 8, 9, 10, 11, 12, 13] (by kernel_rfl) trivial ?_
          simp only [pick, List.toList_toArray, List.map_cons, List.map_nil, List.getD_cons_succ, List.getD_cons_zero]
          repeat (first | go_big_quiet_step (fail))
          refine wpQuiet_nil ?_
          refine WD.done (by kernel_rfl) ?_
          go_wp2_with fail
          go_roundw
          case rel => exact ⟨i + 1, by omega, by go_num, g1⟩
          case measure => simp [intOf]; omega
        · have hd1 : decide (i < tn) = false := by simpa using hlt
          have hd2 : decide ((i : Int) < (tn : Int)) = false := by simp; omega
          have F5 := hid (F4.out.trans' g.out)
          obtain ⟨w5, hw5⟩ : ∃ w5, wr = w5 := ⟨_, rfl⟩
          rw [hw5] at F5 ⊢
          clear hw5 hlt
          go_wp2_with fail
          go_loopw [8] (fun iv wr => ∃ j : Nat, j ≤ n ∧ iv = .int .i64 (j : Int) ∧ Hid (wr = w5)) (fun iv _ => n - (intOf iv).toNat)
          case atStart => exact ⟨0, Nat.zero_le _, rfl, hid rfl⟩
          case round =>
            obtain ⟨j, hj, rfl, hw⟩ := hrel
            obtain rfl := hw.out
            obtain ⟨z0, _, _, _⟩ := HY.out _ F5.out
            have hb := HBX.out _ F5.out
            have hcc := HBC.out _ F5.out
            by_cases hlt : j < n
            · have hd3 : decide (j < n) = true := by simpa using hlt
              have hd4 : decide ((j : Int) < (n : Int)) = true := by simp; omega
              have HR1 := hid (HRc.out _ F5.out j (by omega))
              have HR2 := hid (HRx.out _ F5.out j (by omega))
              generalize s.rdS false (j : Int) = S1 at *
              generalize s.rdC false (j : Int) = C1 at *
              go_wp2_with (first
                | (go_at_call 40; refine HR1.out.mono ?_; rintro e w7 ⟨rfl, e7⟩; have e7' := hid e7; rw [e7'.out]; clear e7 HR1)
                | (go_at_call 41; refine HR2.out.mono ?_; rintro e w8 ⟨rfl, e8⟩; have e8' := hid e8; rw [e8'.out]; clear e8 HR2))
              go_roundw
              case rel => exact ⟨j + 1, by omega, by go_num, by first | exact hid rfl | exact hid trivial⟩
              case measure => simp [intOf]; omega
            · have hd3 : decide (j < n) = false := by simpa using hlt
              have hd4 : decide ((j : Int) < (n : Int)) = false := by simp; omega
              clear hlt
              go_wp2_with fail
              go_roundw
              case rel => exact ⟨0 + 1, by decide, by first | rfl | go_num, F5.out⟩
              case measure => simp [intOf]
    · rw [show ((1 : Nat) : Int) = 1 from rfl]
      have F0 := hid f
      have c0 : wr.cell? ⟨bc, 1, none⟩ = some (.pointer (some ⟨d true, 0, none⟩)) := (f.blk hbc (by simp)).cell 1
      have hcd : wr.drew.cell? ⟨bc, 1, none⟩ = some (.pointer (some ⟨d true, 0, none⟩)) := c0
      have HBC := hid fun (w1 : World) (f : Fr [] w2 w1) => ((f.blk hbc (by simp)).cell 1 : w1.cell? ⟨bc, 1, none⟩ = some (.pointer (some ⟨d true, 0, none⟩)))
      have HBX := hid fun (w1 : World) (f : Fr [] w2 w1) => ((f.blk hbx (by simp)).cell 1 : w1.cell? ⟨bx, 1, none⟩ = some (.pointer (some ⟨x true, 0, none⟩)))
      obtain ⟨kb, kc, ta, tc, TB, y0, y2, y3, ytr⟩ := xsee3 true hx2 ok
      have HY := hid fun (w1 : World) (f : Fr [] w2 w1) => And.intro (f.cell_some y0) (And.intro (f.cell_some y2) (And.intro (f.cell_some y3) (ytr.keep f (by simp))))
      have HD := hid fun (w1 : World) (f : Fr [] w2 w1) => sDead true (hc2.keep0 f) ok
      have HT := hid fun (w1 : World) (f : Fr [] w2 w1) => sTrace true (hc2.keep0 f) ok ht
      have HRc := hid fun (w1 : World) (f : Fr [] w2 w1) (j : Nat) (hj : j ≤ 16384) => sR true (hc2.keep0 f) ok (j : Int) (by omega) (by omega)
      have HRx := hid fun (w1 : World) (f : Fr [] w2 w1) (j : Nat) (hj : j ≤ 16384) => xR true (hx2.keep0 f) ok ht (j : Int)
      have hlen := (len_pos ok true).2
      have g0 : Fr [] w2 wr.drew := f.drew
      have G0 := hid g0
      have bxd := HBX.out _ g0
      obtain ⟨_, _, y3d, _⟩ := HY.out _ g0
      have htb : (s.X true).Trace.length ≤ 1000000 := by have := T_le s true; omega
      generalize s.len true = n at *
      generalize (s.X true).Dead = dd at *
      generalize (s.X true).Trace = tr at *
      obtain ⟨tn, htn⟩ : ∃ v, tr.length = v := ⟨_, rfl⟩
      rw [htn] at HT HY htb
      have htn' := hid htn
      clear y0 y2 y3 ytr
      go_wp2_with fail
      refine wp_region_D (fun w' => w'.cell? ⟨bx, 1, none⟩ = some (.pointer (some ⟨x true, 0, none⟩)) ∧ w'.cell? ⟨x true, 3, none⟩ = some (.bool dd)) false [] (by kernel_rfl) ?_
      refine WD.pure [0, 1, 2] (by kernel_rfl) ⟨bxd, y3d⟩ ?_
      simp only [pick, List.toList_toArray, List.map_cons, List.map_nil, List.getD_cons_succ, List.getD_cons_zero]
      repeat (first | (refine quiet_load_1R (by rfl) _ _ rfl rfl (.pointer (some ⟨x true, 0, none⟩)) (fun wq h => by first|exact h.1|(rw [h];exact bxd)) _ Tryz.underlying26 rfl ?_; simp only [World.size_alloc, World.size_drew, Act.put, List.setIfInBounds_toArray, List.set_cons_succ, List.set_cons_zero]) | (refine quiet_load_1R (by rfl) _ _ rfl rfl (.bool dd) (fun wq h => by first|exact h.2|(rw [h];exact y3d)) _ Tryz.underlying4 rfl ?_; simp only [World.size_alloc, World.size_drew, Act.put, List.setIfInBounds_toArray, List.set_cons_succ, List.set_cons_zero]) | go_big_quiet_step (fail))
      refine wpQuiet_nil ?_
      refine WD.free [4, 5] (by kernel_rfl) ⟨bxd, y3d⟩ ?_
      simp only [pick, List.toList_toArray, List.map_cons, List.map_nil, List.getD_cons_succ, List.getD_cons_zero]
      repeat (first | (refine quiet_load_1R (by rfl) _ _ rfl rfl (.pointer (some ⟨x true, 0, none⟩)) (fun wq h => by first|exact h.1|(rw [h];exact bxd)) _ Tryz.underlying26 rfl ?_; simp only [World.size_alloc, World.size_drew, Act.put, List.setIfInBounds_toArray, List.set_cons_succ, List.set_cons_zero]) | (refine quiet_load_1R (by rfl) _ _ rfl rfl (.bool dd) (fun wq h => by first|exact h.2|(rw [h];exact y3d)) _ Tryz.underlying4 rfl ?_; simp only [World.size_alloc, World.size_drew, Act.put, List.setIfInBounds_toArray, List.set_cons_succ, List.set_cons_zero]) | go_big_quiet_step (fail))
      refine wpQuiet_nil ?_
      refine WD.held [6] (by kernel_rfl) ⟨bxd, y3d⟩ ?_
      simp only [pick, List.toList_toArray, List.map_cons, List.map_nil, List.getD_cons_succ, List.getD_cons_zero]
      repeat (first | (refine quiet_load_1R (by rfl) _ _ rfl rfl (.pointer (some ⟨x true, 0, none⟩)) (fun wq h => by first|exact h.1|(rw [h];exact bxd)) _ Tryz.underlying26 rfl ?_; simp only [World.size_alloc, World.size_drew, Act.put, List.setIfInBounds_toArray, List.set_cons_succ, List.set_cons_zero]) | (refine quiet_load_1R (by rfl) _ _ rfl rfl (.bool dd) (fun wq h => by first|exact h.2|(rw [h];exact y3d)) _ Tryz.underlying4 rfl ?_; simp only [World.size_alloc, World.size_drew, Act.put, List.setIfInBounds_toArray, List.set_cons_succ, List.set_cons_zero]) | go_big_quiet_step (fail))
      refine wpQuiet_nil ?_
      refine WD.free [7, 8] (by kernel_rfl) ⟨bxd, y3d⟩ ?_
      simp only [pick, List.toList_toArray, List.map_cons, List.map_nil, List.getD_cons_succ, List.getD_cons_zero]
      repeat (first | (refine quiet_load_1R (by rfl) _ _ rfl rfl (.pointer (some ⟨x true, 0, none⟩)) (fun wq h => by first|exact h.1|(rw [h];exact bxd)) _ Tryz.underlying26 rfl ?_; simp only [World.size_alloc, World.size_drew, Act.put, List.setIfInBounds_toArray, List.set_cons_succ, List.set_cons_zero]) | (refine quiet_load_1R (by rfl) _ _ rfl rfl (.bool dd) (fun wq h => by first|exact h.2|(rw [h];exact y3d)) _ Tryz.underlying4 rfl ?_; simp only [World.size_alloc, World.size_drew, Act.put, List.setIfInBounds_toArray, List.set_cons_succ, List.set_cons_zero]) | go_big_quiet_step (fail))
      refine wpQuiet_nil ?_
      refine WD.held [9] (by kernel_rfl) ⟨bxd, y3d⟩ ?_
      simp only [pick, List.toList_toArray, List.map_cons, List.map_nil, List.getD_cons_succ, List.getD_cons_zero]
      repeat (first | (refine quiet_load_1R (by rfl) _ _ rfl rfl (.pointer (some ⟨x true, 0, none⟩)) (fun wq h => by first|exact h.1|(rw [h];exact bxd)) _ Tryz.underlying26 rfl ?_; simp only [World.size_alloc, World.size_drew, Act.put, List.setIfInBounds_toArray, List.set_cons_succ, List.set_cons_zero]) | (refine quiet_load_1R (by rfl) _ _ rfl rfl (.bool dd) (fun wq h => by first|exact h.2|(rw [h];exact y3d)) _ Tryz.underlying4 rfl ?_; simp only [World.size_alloc, World.size_drew, Act.put, List.setIfInBounds_toArray, List.set_cons_succ, List.set_cons_zero]) | go_big_quiet_step (fail))
      refine wpQuiet_nil ?_
      refine WD.eff 3 (by kernel_rfl) ?_
      simp only [pick, List.toList_toArray, List.map_cons, List.map_nil, List.getD_cons_succ, List.getD_cons_zero]
      go_wp2_with (go_at_call 26; refine (HD.out _ G0.out).mono ?_; rintro e w3 ⟨rfl, rfl⟩)
      try refine wpList_nil ?_
      refine AfterD.on ⟨bxd, y3d⟩ (by kernel_rfl) ?_
      try simp only [World.size_alloc, World.size_drew, Act.put, List.setIfInBounds_toArray, List.set_cons_succ, List.set_cons_zero]
      refine WD.pure [10] (by kernel_rfl) ⟨bxd, y3d⟩ ?_
      simp only [pick, List.toList_toArray, List.map_cons, List.map_nil, List.getD_cons_succ, List.getD_cons_zero]
      repeat (first | (refine quiet_load_1R (by rfl) _ _ rfl rfl (.pointer (some ⟨x true, 0, none⟩)) (fun wq h => by first|exact h.1|(rw [h];exact bxd)) _ Tryz.underlying26 rfl ?_; simp only [World.size_alloc, World.size_drew, Act.put, List.setIfInBounds_toArray, List.set_cons_succ, List.set_cons_zero]) | (refine quiet_load_1R (by rfl) _ _ rfl rfl (.bool dd) (fun wq h => by first|exact h.2|(rw [h];exact y3d)) _ Tryz.underlying4 rfl ?_; simp only [World.size_alloc, World.size_drew, Act.put, List.setIfInBounds_toArray, List.set_cons_succ, List.set_cons_zero]) | go_big_quiet_step (fail))
      refine wpQuiet_nil ?_
      refine WD.done (by kernel_rfl) ?_
      have c1 := HBC.out _ G0.out
      go_wp2_with (go_at_call 39; refine (HT.out _ G0.out).mono ?_; rintro e w4 ⟨⟨a, c, TB2, rfl, hr⟩, f4⟩; have F4 := hid (G0.out.trans' f4); have HR := hid hr; have bx4 := HBX.out _ F4.out; obtain ⟨_, y24, _, _⟩ := HY.out _ F4.out; clear f4 hr HT HD)
      clear c0 hcd bxd y3d c1 bx4 y24 g0 f
      go_loopw [7] (fun iv wr => ∃ i : Nat, i ≤ tn ∧ iv = .int .i64 (i : Int) ∧ Hid (Fr [] w4 wr)) (fun iv _ => tn - (intOf iv).toNat)
      case atStart => exact ⟨0, Nat.zero_le _, rfl, hid (Fr.refl _ _)⟩
      case round =>
        obtain ⟨i, hi, rfl, g⟩ := hrel
        by_cases hlt : i < tn
        · have hd1 : decide (i < tn) = true := by simpa using hlt
          have hd2 : decide ((i : Int) < (tn : Int)) = true := by simp; omega
          have g1 := hid g.out.drew
          have F5 := hid (F4.out.trans' g1.out)
          have htl : tr.length = tn := htn'.out
          obtain ⟨b, o, c', hB, hv, _, _, _, hcell⟩ := (HR.out.keep g1.out (by simp)).some (by omega)
          obtain ⟨rfl, rfl⟩ : a = some ⟨b, o, none⟩ ∧ c = c' := by simpa using hv
          obtain ⟨_, z2, _, zr⟩ := HY.out _ F5.out
          obtain ⟨b2, o2, c2, hB2, hv2, _, _, _, hcell2⟩ := zr.some (by omega)
          obtain ⟨rfl, rfl⟩ : ta = some ⟨b2, o2, none⟩ ∧ tc = c2 := by simpa using hv2
          have hb := HBX.out _ F5.out
          obtain ⟨zz, hzz⟩ : ∃ v, tr[i]'(by omega) = v := ⟨_, rfl⟩
          have e0 : (tr.map (Value.int .i64))[i]? = some (.int .i64 zz) := by rw [List.getElem?_map, List.getElem?_eq_getElem (by omega), hzz]; rfl
          have k1 : wr.drew.cell? ⟨b, o + i, none⟩ = some (.int .i64 zz) := (hcell i (by simp; omega)).trans e0
          have k2 : wr.drew.cell? ⟨b2, o2 + i, none⟩ = some (.int .i64 zz) := (hcell2 i (by simp; omega)).trans e0
          clear hcell hcell2 hv hv2 hB hB2 zr hzz e0
          go_wp2_with fail
          refine wp_region_D (fun _ => True) false [] (by kernel_rfl) ?_
          refine WD.pure [0, 1, 2, 3, 4, 5, 6, 7, 8, 9, 10, 11, 12, 13] (by kernel_rfl) trivial ?_
          simp only [pick, List.toList_toArray, List.map_cons, List.map_nil, List.getD_cons_succ, List.getD_cons_zero]
          repeat (first | go_big_quiet_step (fail))
          refine wpQuiet_nil ?_
          refine WD.done (by kernel_rfl) ?_
          go_wp2_with fail
          go_roundw
          case rel => exact ⟨i + 1, by omega, by go_num, g1⟩
          case measure => simp [intOf]; omega
        · have hd1 : decide (i < tn) = false := by simpa using hlt
          have hd2 : decide ((i : Int) < (tn : Int)) = false := by simp; omega
          have F5 := hid (F4.out.trans' g.out)
          obtain ⟨w5, hw5⟩ : ∃ w5, wr = w5 := ⟨_, rfl⟩
          rw [hw5] at F5 ⊢
          clear hw5 hlt
          go_wp2_with fail
          go_loopw [8] (fun iv wr => ∃ j : Nat, j ≤ n ∧ iv = .int .i64 (j : Int) ∧ Hid (wr = w5)) (fun iv _ => n - (intOf iv).toNat)
          case atStart => exact ⟨0, Nat.zero_le _, rfl, hid rfl⟩
          case round =>
            obtain ⟨j, hj, rfl, hw⟩ := hrel
            obtain rfl := hw.out
            obtain ⟨z0, _, _, _⟩ := HY.out _ F5.out
            have hb := HBX.out _ F5.out
            have hcc := HBC.out _ F5.out
            by_cases hlt : j < n
            · have hd3 : decide (j < n) = true := by simpa using hlt
              have hd4 : decide ((j : Int) < (n : Int)) = true := by simp; omega
              have HR1 := hid (HRc.out _ F5.out j (by omega))
              have HR2 := hid (HRx.out _ F5.out j (by omega))
              generalize s.rdS true (j : Int) = S1 at *
              generalize s.rdC true (j : Int) = C1 at *
              go_wp2_with (first
                | (go_at_call 40; refine HR1.out.mono ?_; rintro e w7 ⟨rfl, e7⟩; have e7' := hid e7; rw [e7'.out]; clear e7 HR1)
                | (go_at_call 41; refine HR2.out.mono ?_; rintro e w8 ⟨rfl, e8⟩; have e8' := hid e8; rw [e8'.out]; clear e8 HR2))
              go_roundw
              case rel => exact ⟨j + 1, by omega, by go_num, by first | exact hid rfl | exact hid trivial⟩
              case measure => simp [intOf]; omega
            · have hd3 : decide (j < n) = false := by simpa using hlt
              have hd4 : decide ((j : Int) < (n : Int)) = false := by simp; omega
              clear hlt
              go_wp2_with fail
              go_roundw
              case rel => exact ⟨1 + 1, by decide, by first | rfl | go_num, F5.out⟩
              case measure => simp [intOf]
    · have F3 := hid (F12.out.trans' f)
      clear hc2 hx2 hbc hbx
      go_wp2_with fail
      go_ret
      exact ⟨rfl, F3.out⟩
end
end Go.Proofs.YtjgagcpmoffldaaGreat
