/- Layer 7 (great seat): what is done to disks from outside, as a step says. -/
import Derived.Test.YtjgagcpmoffldaaGreatPmN
import Derived.Test.YtjgagcpmoffldaaGreatPmO
namespace Go.Proofs.YtjgagcpmoffldaaGreat
open Go Go.Xr Go.RowKit
set_option linter.unusedVariables false
set_option linter.unusedSimpArgs false
theorem Out.trans {a b c : Sys} (h : Out a b) (h2 : Out b c) : Out a c := ⟨h2.ok, Nat.le_trans h2.T h.T, fun x => (h2.len x).trans (h.len x)⟩
def kb7 (a : Step7) : Bool := decide (bits .and .i64 a.D 1 = 1)
def Sys.wr2 (s : Sys) (n : Nat) : Nat → Sys
  | 0 => s.more n
  | 1 => (s.more n).wire false s.L.length
  | _ => ((s.more n).wire false s.L.length).wire true s.L.length
def Sys.outS (s : Sys) (a : Step7) : Sys := if a.Do = 5 then s.fa (kb7 a) else if a.Do = 6 then s.rp (kb7 a) else if a.Do = 9 then s.ta (kb7 a) a.I (fill7 a.C) else s.wr2 a.I.toNat 2
theorem wire_L (s : Sys) (b : Bool) (j : Nat) : (s.wire b j).L = s.L := by unfold Sys.wire; split <;> rfl
theorem wr2_L (s : Sys) (n q : Nat) : (s.wr2 n q).L = s.L ++ [n] := by
  match q with
  | 0 => rfl
  | 1 => exact wire_L _ _ _
  | _ + 2 => exact (wire_L _ _ _).trans (wire_L _ _ _)
theorem wr2_out {s : Sys} (ok : SysOk s) (n q : Nat) : Out s (s.wr2 n q) := by
  have h0 := more_out ok n
  have h1 := h0.trans (wire_out h0.ok false (j := s.L.length) (by simp [Sys.more]))
  have h2 := h1.trans (wire_out h1.ok true (j := s.L.length) (by rw [wire_L]; simp [Sys.more]))
  match q with
  | 0 => exact h0
  | 1 => exact h1
  | _ + 2 => exact h2
theorem outS_out {s : Sys} (ok : SysOk s) (a : Step7) : Out s (s.outS a) := by
  unfold Sys.outS
  split
  · exact stp_out (fa_stp s _) ok
  · split
    · exact stp_out (rp_stp s _) ok
    · split
      · exact stp_out (ta_stp s _ _ _) ok
      · exact wr2_out ok _ _
section
variable {w w' w0 : World} {lb hc hx : List Res} {pbs qbs : List Nat} {s : Sys} {d x : Bool → Nat} {FF GG : Bool → List Nat}
set_option maxRecDepth 20000 in
set_option maxHeartbeats 8000000 in
theorem pouter_any (h : Held w (lb ++ (hc ++ sysC pbs s d FF) ++ (hx ++ sysX qbs s x GG))) (ok : SysOk s) (ht : s.T < 1000000) (a : Step7) (ha : StOk7 w a) :
    Calls Tryz.prog 13 #[.agg (dbL d).toArray, .agg (dbL x).toArray, .agg (stc7 a).toArray] w fun e w' => ∃ c : Int, e = .returned (.tuple #[.int .i64 c, .int .i64 c]) ∧ ∃ pbs' qbs' FF' GG', Ev w (lb ++ (hc ++ sysC pbs s d FF) ++ (hx ++ sysX qbs s x GG)) w' (lb ++ (hc ++ sysC pbs' (s.outS a) d FF') ++ (hx ++ sysX qbs' (s.outS a) x GG')) := by
  have E0 := hid (Ev.refl h)
  have OK := hid ok
  have HT := hid ht
  have HF := hid fun w1 : World => fill7_any w1 a.C
  have hb := k_bit a.D
  have hi1 := ha.i1
  have hi2 := ha.i2
  obtain ⟨dov, iv, dd, cv, tx, kp, ks, KB⟩ := a
  simp only at HF hi1 hi2 hb
  obtain ⟨s2, hs2⟩ : ∃ s2, s.outS ⟨dov, iv, dd, cv, tx, kp, ks, KB⟩ = s2 := ⟨_, rfl⟩
  rw [hs2]
  unfold Sys.outS at hs2
  simp only [kb7] at hs2
  rw [show (stc7 ⟨dov, iv, dd, cv, tx, kp, ks, KB⟩) = [.int .i64 dov, .int .i64 iv, .int .i64 dd, .int .u8 (cv.toNat : Int), .string tx, kp] from rfl]
  have hfs : (fill7 cv).size ≤ 9223372036854775807 := by rw [fill7_size]; decide
  generalize fill7 cv = fl at *
  clear h ha ok ht
  obtain ⟨cs, hcs⟩ : ∃ cs : List Value, [.int .i64 dov, .int .i64 iv, .int .i64 dd, .int .u8 (cv.toNat : Int), .string tx, kp] = cs := ⟨_, rfl⟩
  have c0 : cs[0]? = some (.int .i64 dov) := by rw [← hcs]; rfl
  have c1 : cs[1]? = some (.int .i64 iv) := by rw [← hcs]; rfl
  have c2 : cs[2]? = some (.int .i64 dd) := by rw [← hcs]; rfl
  have c3 : cs[3]? = some (.int .u8 (cv.toNat : Int)) := by rw [← hcs]; rfl
  rw [hcs]
  clear hcs
  obtain ⟨dl, hdl⟩ : ∃ v, dbL d = v := ⟨_, rfl⟩
  obtain ⟨xl, hxl⟩ : ∃ v, dbL x = v := ⟨_, rfl⟩
  rw [hdl, hxl]
  go_enter Tryz.func13, Tryz.ntmps13
  go_wp2_with (first
    | (refine wpList_box rfl _ _ rfl dl rfl ?_; intro w1 f1 hlt1 hb1; have E1 := hid (E0.out.new f1 (Res.On.blk hb1) (fun b hb => by simp [Res.blk] at hb; omega)); clear f1 hlt1 hb1 E0; simp only [World.size_alloc, World.size_drew, Act.put, List.setIfInBounds_toArray, List.set_cons_succ, List.set_cons_zero])
    | (refine wpList_box rfl _ _ rfl xl rfl ?_; intro w2 f2 hlt2 hb2; have E2 := hid (E1.out.new f2 (Res.On.blk hb2) (fun b hb => by simp [Res.blk] at hb; omega)); clear f2 hlt2 hb2 E1; simp only [World.size_alloc, World.size_drew, Act.put, List.setIfInBounds_toArray, List.set_cons_succ, List.set_cons_zero])
    | (refine wpList_box rfl _ _ rfl cs rfl ?_; intro w3 f3 hlt3 hb3; have E3 := hid (E2.out.new f3 (Res.On.blk hb3) (fun b hb => by simp [Res.blk] at hb; omega)); clear f3 hlt3 hb3 E2; simp only [World.size_alloc, World.size_drew, Act.put, List.setIfInBounds_toArray, List.set_cons_succ, List.set_cons_zero]; have nst := hid trivial; revert nst))
  intro _
  obtain ⟨b0, hb0⟩ : ∃ v, w.heap.size = v := ⟨_, rfl⟩
  obtain ⟨b1, hb1⟩ : ∃ v, w1.heap.size = v := ⟨_, rfl⟩
  obtain ⟨b2, hb2⟩ : ∃ v, w2.heap.size = v := ⟨_, rfl⟩
  rw [hb0, hb1, hb2] at E3
  rw [hb0, hb1, hb2]
  rw [← hdl, ← hxl] at E3
  clear hb0 hb1 hb2 hdl hxl
  have E3 : Hid (Ev w (lb ++ (hc ++ sysC pbs s d FF) ++ (hx ++ sysX qbs s x GG)) w3 ([Res.blk b2 cs, Res.blk b1 (dbL x), Res.blk b0 (dbL d)] ++ lb ++ (hc ++ sysC pbs s d FF) ++ (hx ++ sysX qbs s x GG))) := E3
  have k0 : w3.cell? ⟨b2, 0, none⟩ = some (.int .i64 dov) := ((E3.out.held.blkAt 0 rfl).cell 0).trans c0
  have k2 : w3.cell? ⟨b2, 2, none⟩ = some (.int .i64 dd) := ((E3.out.held.blkAt 0 rfl).cell 2).trans c2
  by_cases d5 : dov = 5
  · subst d5
    rw [if_pos rfl] at hs2
    rcases hb with hb | hb
    · rw [show decide (bits .and .i64 dd 1 = 1) = false by rw [hb]; decide] at hs2
      subst hs2
      have HA := hid fun (w1 : World) (FF2 : Bool → List Nat) (h1 : Held w1 ([] ++ (hc ++ sysC pbs s d FF2))) => sFail false (l := hc) h1 OK.out
      have HB := hid fun (w1 : World) (FF2 : Bool → List Nat) (h1 : Held w1 ([] ++ (hx ++ sysX qbs s x FF2))) => xFail false (l := hx) h1 OK.out
      go_wp2_with fail
      have E3d := hid (E3.out.step (Fr.refl [] w3).drew)
      have JJ := hid fun (w1 : World) (C D : List Res) (h : Held w1 ([Res.blk b2 cs, Res.blk b1 (dbL x), Res.blk b0 (dbL d)] ++ lb ++ C ++ D)) => And.intro (show w1.cell? ⟨b0, 0, none⟩ = some (.pointer (some ⟨d false, 0, none⟩)) from (h.blkAt 2 rfl).cell 0) (show w1.cell? ⟨b1, 0, none⟩ = some (.pointer (some ⟨x false, 0, none⟩)) from (h.blkAt 1 rfl).cell 0)
      have jj := JJ.out _ _ _ E3d.out.held
      refine wp_region_D (fun w' => w'.cell? ⟨b0, 0, none⟩ = some (.pointer (some ⟨d false, 0, none⟩)) ∧ w'.cell? ⟨b1, 0, none⟩ = some (.pointer (some ⟨x false, 0, none⟩))) false [] (by kernel_rfl) ?_
      refine WD.pure [0, 1, 2] (by kernel_rfl) jj ?_
      simp only [pick, List.toList_toArray, List.map_cons, List.map_nil, List.getD_cons_succ, List.getD_cons_zero]
      repeat (first | (refine quiet_load_1R (by rfl) _ _ rfl rfl (.pointer (some ⟨d false, 0, none⟩)) (fun wq h => by first|exact h.1|(rw [h];exact jj.1)) _ Tryz.underlying24 rfl ?_; simp only [World.size_alloc, World.size_drew, Act.put, List.setIfInBounds_toArray, List.set_cons_succ, List.set_cons_zero]) | (refine quiet_load_1R (by rfl) _ _ rfl rfl (.pointer (some ⟨x false, 0, none⟩)) (fun wq h => by first|exact h.2|(rw [h];exact jj.2)) _ Tryz.underlying26 rfl ?_; simp only [World.size_alloc, World.size_drew, Act.put, List.setIfInBounds_toArray, List.set_cons_succ, List.set_cons_zero]) | go_big_quiet_step (fail))
      refine wpQuiet_nil ?_
      refine WD.free [4, 5] (by kernel_rfl) jj ?_
      simp only [pick, List.toList_toArray, List.map_cons, List.map_nil, List.getD_cons_succ, List.getD_cons_zero]
      repeat (first | (refine quiet_load_1R (by rfl) _ _ rfl rfl (.pointer (some ⟨d false, 0, none⟩)) (fun wq h => by first|exact h.1|(rw [h];exact jj.1)) _ Tryz.underlying24 rfl ?_; simp only [World.size_alloc, World.size_drew, Act.put, List.setIfInBounds_toArray, List.set_cons_succ, List.set_cons_zero]) | (refine quiet_load_1R (by rfl) _ _ rfl rfl (.pointer (some ⟨x false, 0, none⟩)) (fun wq h => by first|exact h.2|(rw [h];exact jj.2)) _ Tryz.underlying26 rfl ?_; simp only [World.size_alloc, World.size_drew, Act.put, List.setIfInBounds_toArray, List.set_cons_succ, List.set_cons_zero]) | go_big_quiet_step (fail))
      refine wpQuiet_nil ?_
      refine WD.held [6] (by kernel_rfl) jj ?_
      simp only [pick, List.toList_toArray, List.map_cons, List.map_nil, List.getD_cons_succ, List.getD_cons_zero]
      repeat (first | (refine quiet_load_1R (by rfl) _ _ rfl rfl (.pointer (some ⟨d false, 0, none⟩)) (fun wq h => by first|exact h.1|(rw [h];exact jj.1)) _ Tryz.underlying24 rfl ?_; simp only [World.size_alloc, World.size_drew, Act.put, List.setIfInBounds_toArray, List.set_cons_succ, List.set_cons_zero]) | (refine quiet_load_1R (by rfl) _ _ rfl rfl (.pointer (some ⟨x false, 0, none⟩)) (fun wq h => by first|exact h.2|(rw [h];exact jj.2)) _ Tryz.underlying26 rfl ?_; simp only [World.size_alloc, World.size_drew, Act.put, List.setIfInBounds_toArray, List.set_cons_succ, List.set_cons_zero]) | go_big_quiet_step (fail))
      refine wpQuiet_nil ?_
      refine WD.eff 3 (by kernel_rfl) ?_
      simp only [pick, List.toList_toArray, List.map_cons, List.map_nil, List.getD_cons_succ, List.getD_cons_zero]
      go_wp2_with (go_at_call 20; refine (HA.out _ _ (thr_hc E3d.out.held)).mono ?_; rintro e w4 ⟨rfl, FF4, v4⟩; have E4 := hid (thr_c E3d.out v4); have jj4 := JJ.out _ _ _ E4.out.held; clear v4 HA)
      try refine wpList_nil ?_
      refine AfterD.on jj4 (by kernel_rfl) ?_
      try simp only [World.size_alloc, World.size_drew, Act.put, List.setIfInBounds_toArray, List.set_cons_succ, List.set_cons_zero]
      refine WD.eff 7 (by kernel_rfl) ?_
      simp only [pick, List.toList_toArray, List.map_cons, List.map_nil, List.getD_cons_succ, List.getD_cons_zero]
      go_wp2_with (go_at_call 42; refine (HB.out _ _ (thr_hd E4.out.held)).mono ?_; rintro e w5 ⟨rfl, GG5, v5⟩; have E5 := hid (thr_d E4.out v5); have jj5 := JJ.out _ _ _ E5.out.held; clear v5 HB)
      try refine wpList_nil ?_
      refine AfterD.on jj5 (by kernel_rfl) ?_
      try simp only [World.size_alloc, World.size_drew, Act.put, List.setIfInBounds_toArray, List.set_cons_succ, List.set_cons_zero]
      refine WD.pure [8, 9] (by kernel_rfl) jj5 ?_
      simp only [pick, List.toList_toArray, List.map_cons, List.map_nil, List.getD_cons_succ, List.getD_cons_zero]
      repeat (first | (refine quiet_load_1R (by rfl) _ _ rfl rfl (.pointer (some ⟨d false, 0, none⟩)) (fun wq h => by first|exact h.1|(rw [h];exact jj.1)) _ Tryz.underlying24 rfl ?_; simp only [World.size_alloc, World.size_drew, Act.put, List.setIfInBounds_toArray, List.set_cons_succ, List.set_cons_zero]) | (refine quiet_load_1R (by rfl) _ _ rfl rfl (.pointer (some ⟨x false, 0, none⟩)) (fun wq h => by first|exact h.2|(rw [h];exact jj.2)) _ Tryz.underlying26 rfl ?_; simp only [World.size_alloc, World.size_drew, Act.put, List.setIfInBounds_toArray, List.set_cons_succ, List.set_cons_zero]) | go_big_quiet_step (fail))
      refine wpQuiet_nil ?_
      refine WD.done (by kernel_rfl) ?_
      go_wp2_with fail
      go_ret2
      exact ⟨_, rfl, pbs, qbs, FF4, GG5, Ev.less [] _ (Ev.less [] _ (Ev.less [] _ E5.out))⟩
    · rw [show decide (bits .and .i64 dd 1 = 1) = true by rw [hb]; decide] at hs2
      subst hs2
      have HA := hid fun (w1 : World) (FF2 : Bool → List Nat) (h1 : Held w1 ([] ++ (hc ++ sysC pbs s d FF2))) => sFail true (l := hc) h1 OK.out
      have HB := hid fun (w1 : World) (FF2 : Bool → List Nat) (h1 : Held w1 ([] ++ (hx ++ sysX qbs s x FF2))) => xFail true (l := hx) h1 OK.out
      go_wp2_with fail
      have E3d := hid (E3.out.step (Fr.refl [] w3).drew)
      have JJ := hid fun (w1 : World) (C D : List Res) (h : Held w1 ([Res.blk b2 cs, Res.blk b1 (dbL x), Res.blk b0 (dbL d)] ++ lb ++ C ++ D)) => And.intro (show w1.cell? ⟨b0, 1, none⟩ = some (.pointer (some ⟨d true, 0, none⟩)) from (h.blkAt 2 rfl).cell 1) (show w1.cell? ⟨b1, 1, none⟩ = some (.pointer (some ⟨x true, 0, none⟩)) from (h.blkAt 1 rfl).cell 1)
      have jj := JJ.out _ _ _ E3d.out.held
      refine wp_region_D (fun w' => w'.cell? ⟨b0, 1, none⟩ = some (.pointer (some ⟨d true, 0, none⟩)) ∧ w'.cell? ⟨b1, 1, none⟩ = some (.pointer (some ⟨x true, 0, none⟩))) false [] (by kernel_rfl) ?_
      refine WD.pure [0, 1, 2] (by kernel_rfl) jj ?_
      simp only [pick, List.toList_toArray, List.map_cons, List.map_nil, List.getD_cons_succ, List.getD_cons_zero]
      repeat (first | (refine quiet_load_1R (by rfl) _ _ rfl rfl (.pointer (some ⟨d true, 0, none⟩)) (fun wq h => by first|exact h.1|(rw [h];exact jj.1)) _ Tryz.underlying24 rfl ?_; simp only [World.size_alloc, World.size_drew, Act.put, List.setIfInBounds_toArray, List.set_cons_succ, List.set_cons_zero]) | (refine quiet_load_1R (by rfl) _ _ rfl rfl (.pointer (some ⟨x true, 0, none⟩)) (fun wq h => by first|exact h.2|(rw [h];exact jj.2)) _ Tryz.underlying26 rfl ?_; simp only [World.size_alloc, World.size_drew, Act.put, List.setIfInBounds_toArray, List.set_cons_succ, List.set_cons_zero]) | go_big_quiet_step (fail))
      refine wpQuiet_nil ?_
      refine WD.free [4, 5] (by kernel_rfl) jj ?_
      simp only [pick, List.toList_toArray, List.map_cons, List.map_nil, List.getD_cons_succ, List.getD_cons_zero]
      repeat (first | (refine quiet_load_1R (by rfl) _ _ rfl rfl (.pointer (some ⟨d true, 0, none⟩)) (fun wq h => by first|exact h.1|(rw [h];exact jj.1)) _ Tryz.underlying24 rfl ?_; simp only [World.size_alloc, World.size_drew, Act.put, List.setIfInBounds_toArray, List.set_cons_succ, List.set_cons_zero]) | (refine quiet_load_1R (by rfl) _ _ rfl rfl (.pointer (some ⟨x true, 0, none⟩)) (fun wq h => by first|exact h.2|(rw [h];exact jj.2)) _ Tryz.underlying26 rfl ?_; simp only [World.size_alloc, World.size_drew, Act.put, List.setIfInBounds_toArray, List.set_cons_succ, List.set_cons_zero]) | go_big_quiet_step (fail))
      refine wpQuiet_nil ?_
      refine WD.held [6] (by kernel_rfl) jj ?_
      simp only [pick, List.toList_toArray, List.map_cons, List.map_nil, List.getD_cons_succ, List.getD_cons_zero]
      repeat (first | (refine quiet_load_1R (by rfl) _ _ rfl rfl (.pointer (some ⟨d true, 0, none⟩)) (fun wq h => by first|exact h.1|(rw [h];exact jj.1)) _ Tryz.underlying24 rfl ?_; simp only [World.size_alloc, World.size_drew, Act.put, List.setIfInBounds_toArray, List.set_cons_succ, List.set_cons_zero]) | (refine quiet_load_1R (by rfl) _ _ rfl rfl (.pointer (some ⟨x true, 0, none⟩)) (fun wq h => by first|exact h.2|(rw [h];exact jj.2)) _ Tryz.underlying26 rfl ?_; simp only [World.size_alloc, World.size_drew, Act.put, List.setIfInBounds_toArray, List.set_cons_succ, List.set_cons_zero]) | go_big_quiet_step (fail))
      refine wpQuiet_nil ?_
      refine WD.eff 3 (by kernel_rfl) ?_
      simp only [pick, List.toList_toArray, List.map_cons, List.map_nil, List.getD_cons_succ, List.getD_cons_zero]
      go_wp2_with (go_at_call 20; refine (HA.out _ _ (thr_hc E3d.out.held)).mono ?_; rintro e w4 ⟨rfl, FF4, v4⟩; have E4 := hid (thr_c E3d.out v4); have jj4 := JJ.out _ _ _ E4.out.held; clear v4 HA)
      try refine wpList_nil ?_
      refine AfterD.on jj4 (by kernel_rfl) ?_
      try simp only [World.size_alloc, World.size_drew, Act.put, List.setIfInBounds_toArray, List.set_cons_succ, List.set_cons_zero]
      refine WD.eff 7 (by kernel_rfl) ?_
      simp only [pick, List.toList_toArray, List.map_cons, List.map_nil, List.getD_cons_succ, List.getD_cons_zero]
      go_wp2_with (go_at_call 42; refine (HB.out _ _ (thr_hd E4.out.held)).mono ?_; rintro e w5 ⟨rfl, GG5, v5⟩; have E5 := hid (thr_d E4.out v5); have jj5 := JJ.out _ _ _ E5.out.held; clear v5 HB)
      try refine wpList_nil ?_
      refine AfterD.on jj5 (by kernel_rfl) ?_
      try simp only [World.size_alloc, World.size_drew, Act.put, List.setIfInBounds_toArray, List.set_cons_succ, List.set_cons_zero]
      refine WD.pure [8, 9] (by kernel_rfl) jj5 ?_
      simp only [pick, List.toList_toArray, List.map_cons, List.map_nil, List.getD_cons_succ, List.getD_cons_zero]
      repeat (first | (refine quiet_load_1R (by rfl) _ _ rfl rfl (.pointer (some ⟨d true, 0, none⟩)) (fun wq h => by first|exact h.1|(rw [h];exact jj.1)) _ Tryz.underlying24 rfl ?_; simp only [World.size_alloc, World.size_drew, Act.put, List.setIfInBounds_toArray, List.set_cons_succ, List.set_cons_zero]) | (refine quiet_load_1R (by rfl) _ _ rfl rfl (.pointer (some ⟨x true, 0, none⟩)) (fun wq h => by first|exact h.2|(rw [h];exact jj.2)) _ Tryz.underlying26 rfl ?_; simp only [World.size_alloc, World.size_drew, Act.put, List.setIfInBounds_toArray, List.set_cons_succ, List.set_cons_zero]) | go_big_quiet_step (fail))
      refine wpQuiet_nil ?_
      refine WD.done (by kernel_rfl) ?_
      go_wp2_with fail
      go_ret2
      exact ⟨_, rfl, pbs, qbs, FF4, GG5, Ev.less [] _ (Ev.less [] _ (Ev.less [] _ E5.out))⟩
  · rw [if_neg d5] at hs2
    have u5 : (dov == 5) = false := by simpa using d5
    by_cases d6 : dov = 6
    · subst d6
      rw [if_pos rfl] at hs2
      rcases hb with hb | hb
      · rw [show decide (bits .and .i64 dd 1 = 1) = false by rw [hb]; decide] at hs2
        subst hs2
        have HA := hid fun (w1 : World) (FF2 : Bool → List Nat) (h1 : Held w1 ([] ++ (hc ++ sysC pbs s d FF2))) => sReplace false (l := hc) h1 OK.out
        have HB := hid fun (w1 : World) (FF2 : Bool → List Nat) (h1 : Held w1 ([] ++ (hx ++ sysX qbs s x FF2))) => xReplace false (l := hx) h1 OK.out
        go_wp2_with fail
        obtain ⟨c, hc6⟩ : ∃ c, (if (s.X false).Dead then (0 : Int) else 3) = c := ⟨_, rfl⟩
        rw [hc6] at HA HB
        clear hc6
        have E3d := hid (E3.out.step (Fr.refl [] w3).drew)
        have JJ := hid fun (w1 : World) (C D : List Res) (h : Held w1 ([Res.blk b2 cs, Res.blk b1 (dbL x), Res.blk b0 (dbL d)] ++ lb ++ C ++ D)) => And.intro (show w1.cell? ⟨b0, 0, none⟩ = some (.pointer (some ⟨d false, 0, none⟩)) from (h.blkAt 2 rfl).cell 0) (show w1.cell? ⟨b1, 0, none⟩ = some (.pointer (some ⟨x false, 0, none⟩)) from (h.blkAt 1 rfl).cell 0)
        have jj := JJ.out _ _ _ E3d.out.held
        refine wp_region_D (fun w' => w'.cell? ⟨b0, 0, none⟩ = some (.pointer (some ⟨d false, 0, none⟩)) ∧ w'.cell? ⟨b1, 0, none⟩ = some (.pointer (some ⟨x false, 0, none⟩))) false [] (by kernel_rfl) ?_
        refine WD.pure [0, 1, 2] (by kernel_rfl) jj ?_
        simp only [pick, List.toList_toArray, List.map_cons, List.map_nil, List.getD_cons_succ, List.getD_cons_zero]
        repeat (first | (refine quiet_load_1R (by rfl) _ _ rfl rfl (.pointer (some ⟨d false, 0, none⟩)) (fun wq h => by first|exact h.1|(rw [h];exact jj.1)) _ Tryz.underlying24 rfl ?_; simp only [World.size_alloc, World.size_drew, Act.put, List.setIfInBounds_toArray, List.set_cons_succ, List.set_cons_zero]) | (refine quiet_load_1R (by rfl) _ _ rfl rfl (.pointer (some ⟨x false, 0, none⟩)) (fun wq h => by first|exact h.2|(rw [h];exact jj.2)) _ Tryz.underlying26 rfl ?_; simp only [World.size_alloc, World.size_drew, Act.put, List.setIfInBounds_toArray, List.set_cons_succ, List.set_cons_zero]) | go_big_quiet_step (fail))
        refine wpQuiet_nil ?_
        refine WD.free [4, 5] (by kernel_rfl) jj ?_
        simp only [pick, List.toList_toArray, List.map_cons, List.map_nil, List.getD_cons_succ, List.getD_cons_zero]
        repeat (first | (refine quiet_load_1R (by rfl) _ _ rfl rfl (.pointer (some ⟨d false, 0, none⟩)) (fun wq h => by first|exact h.1|(rw [h];exact jj.1)) _ Tryz.underlying24 rfl ?_; simp only [World.size_alloc, World.size_drew, Act.put, List.setIfInBounds_toArray, List.set_cons_succ, List.set_cons_zero]) | (refine quiet_load_1R (by rfl) _ _ rfl rfl (.pointer (some ⟨x false, 0, none⟩)) (fun wq h => by first|exact h.2|(rw [h];exact jj.2)) _ Tryz.underlying26 rfl ?_; simp only [World.size_alloc, World.size_drew, Act.put, List.setIfInBounds_toArray, List.set_cons_succ, List.set_cons_zero]) | go_big_quiet_step (fail))
        refine wpQuiet_nil ?_
        refine WD.held [6] (by kernel_rfl) jj ?_
        simp only [pick, List.toList_toArray, List.map_cons, List.map_nil, List.getD_cons_succ, List.getD_cons_zero]
        repeat (first | (refine quiet_load_1R (by rfl) _ _ rfl rfl (.pointer (some ⟨d false, 0, none⟩)) (fun wq h => by first|exact h.1|(rw [h];exact jj.1)) _ Tryz.underlying24 rfl ?_; simp only [World.size_alloc, World.size_drew, Act.put, List.setIfInBounds_toArray, List.set_cons_succ, List.set_cons_zero]) | (refine quiet_load_1R (by rfl) _ _ rfl rfl (.pointer (some ⟨x false, 0, none⟩)) (fun wq h => by first|exact h.2|(rw [h];exact jj.2)) _ Tryz.underlying26 rfl ?_; simp only [World.size_alloc, World.size_drew, Act.put, List.setIfInBounds_toArray, List.set_cons_succ, List.set_cons_zero]) | go_big_quiet_step (fail))
        refine wpQuiet_nil ?_
        refine WD.eff 3 (by kernel_rfl) ?_
        simp only [pick, List.toList_toArray, List.map_cons, List.map_nil, List.getD_cons_succ, List.getD_cons_zero]
        go_wp2_with (go_at_call 43; refine (HA.out _ _ (thr_hc E3d.out.held)).mono ?_; rintro e w4 ⟨rfl, FF4, v4⟩; have E4 := hid (thr_c E3d.out v4); have jj4 := JJ.out _ _ _ E4.out.held; clear v4 HA)
        try refine wpList_nil ?_
        refine AfterD.on jj4 (by kernel_rfl) ?_
        try simp only [World.size_alloc, World.size_drew, Act.put, List.setIfInBounds_toArray, List.set_cons_succ, List.set_cons_zero]
        refine WD.eff 7 (by kernel_rfl) ?_
        simp only [pick, List.toList_toArray, List.map_cons, List.map_nil, List.getD_cons_succ, List.getD_cons_zero]
        go_wp2_with (go_at_call 44; refine (HB.out _ _ (thr_hd E4.out.held)).mono ?_; rintro e w5 ⟨rfl, GG5, v5⟩; have E5 := hid (thr_d E4.out v5); have jj5 := JJ.out _ _ _ E5.out.held; clear v5 HB)
        try refine wpList_nil ?_
        refine AfterD.on jj5 (by kernel_rfl) ?_
        try simp only [World.size_alloc, World.size_drew, Act.put, List.setIfInBounds_toArray, List.set_cons_succ, List.set_cons_zero]
        refine WD.pure [8, 9] (by kernel_rfl) jj5 ?_
        simp only [pick, List.toList_toArray, List.map_cons, List.map_nil, List.getD_cons_succ, List.getD_cons_zero]
        repeat (first | (refine quiet_load_1R (by rfl) _ _ rfl rfl (.pointer (some ⟨d false, 0, none⟩)) (fun wq h => by first|exact h.1|(rw [h];exact jj.1)) _ Tryz.underlying24 rfl ?_; simp only [World.size_alloc, World.size_drew, Act.put, List.setIfInBounds_toArray, List.set_cons_succ, List.set_cons_zero]) | (refine quiet_load_1R (by rfl) _ _ rfl rfl (.pointer (some ⟨x false, 0, none⟩)) (fun wq h => by first|exact h.2|(rw [h];exact jj.2)) _ Tryz.underlying26 rfl ?_; simp only [World.size_alloc, World.size_drew, Act.put, List.setIfInBounds_toArray, List.set_cons_succ, List.set_cons_zero]) | go_big_quiet_step (fail))
        refine wpQuiet_nil ?_
        refine WD.done (by kernel_rfl) ?_
        go_wp2_with fail
        go_ret2
        exact ⟨_, rfl, pbs, qbs, FF4, GG5, Ev.less [] _ (Ev.less [] _ (Ev.less [] _ E5.out))⟩
      · rw [show decide (bits .and .i64 dd 1 = 1) = true by rw [hb]; decide] at hs2
        subst hs2
        have HA := hid fun (w1 : World) (FF2 : Bool → List Nat) (h1 : Held w1 ([] ++ (hc ++ sysC pbs s d FF2))) => sReplace true (l := hc) h1 OK.out
        have HB := hid fun (w1 : World) (FF2 : Bool → List Nat) (h1 : Held w1 ([] ++ (hx ++ sysX qbs s x FF2))) => xReplace true (l := hx) h1 OK.out
        go_wp2_with fail
        obtain ⟨c, hc6⟩ : ∃ c, (if (s.X true).Dead then (0 : Int) else 3) = c := ⟨_, rfl⟩
        rw [hc6] at HA HB
        clear hc6
        have E3d := hid (E3.out.step (Fr.refl [] w3).drew)
        have JJ := hid fun (w1 : World) (C D : List Res) (h : Held w1 ([Res.blk b2 cs, Res.blk b1 (dbL x), Res.blk b0 (dbL d)] ++ lb ++ C ++ D)) => And.intro (show w1.cell? ⟨b0, 1, none⟩ = some (.pointer (some ⟨d true, 0, none⟩)) from (h.blkAt 2 rfl).cell 1) (show w1.cell? ⟨b1, 1, none⟩ = some (.pointer (some ⟨x true, 0, none⟩)) from (h.blkAt 1 rfl).cell 1)
        have jj := JJ.out _ _ _ E3d.out.held
        refine wp_region_D (fun w' => w'.cell? ⟨b0, 1, none⟩ = some (.pointer (some ⟨d true, 0, none⟩)) ∧ w'.cell? ⟨b1, 1, none⟩ = some (.pointer (some ⟨x true, 0, none⟩))) false [] (by kernel_rfl) ?_
        refine WD.pure [0, 1, 2] (by kernel_rfl) jj ?_
        simp only [pick, List.toList_toArray, List.map_cons, List.map_nil, List.getD_cons_succ, List.getD_cons_zero]
        repeat (first | (refine quiet_load_1R (by rfl) _ _ rfl rfl (.pointer (some ⟨d true, 0, none⟩)) (fun wq h => by first|exact h.1|(rw [h];exact jj.1)) _ Tryz.underlying24 rfl ?_; simp only [World.size_alloc, World.size_drew, Act.put, List.setIfInBounds_toArray, List.set_cons_succ, List.set_cons_zero]) | (refine quiet_load_1R (by rfl) _ _ rfl rfl (.pointer (some ⟨x true, 0, none⟩)) (fun wq h => by first|exact h.2|(rw [h];exact jj.2)) _ Tryz.underlying26 rfl ?_; simp only [World.size_alloc, World.size_drew, Act.put, List.setIfInBounds_toArray, List.set_cons_succ, List.set_cons_zero]) | go_big_quiet_step (fail))
        refine wpQuiet_nil ?_
        refine WD.free [4, 5] (by kernel_rfl) jj ?_
        simp only [pick, List.toList_toArray, List.map_cons, List.map_nil, List.getD_cons_succ, List.getD_cons_zero]
        repeat (first | (refine quiet_load_1R (by rfl) _ _ rfl rfl (.pointer (some ⟨d true, 0, none⟩)) (fun wq h => by first|exact h.1|(rw [h];exact jj.1)) _ Tryz.underlying24 rfl ?_; simp only [World.size_alloc, World.size_drew, Act.put, List.setIfInBounds_toArray, List.set_cons_succ, List.set_cons_zero]) | (refine quiet_load_1R (by rfl) _ _ rfl rfl (.pointer (some ⟨x true, 0, none⟩)) (fun wq h => by first|exact h.2|(rw [h];exact jj.2)) _ Tryz.underlying26 rfl ?_; simp only [World.size_alloc, World.size_drew, Act.put, List.setIfInBounds_toArray, List.set_cons_succ, List.set_cons_zero]) | go_big_quiet_step (fail))
        refine wpQuiet_nil ?_
        refine WD.held [6] (by kernel_rfl) jj ?_
        simp only [pick, List.toList_toArray, List.map_cons, List.map_nil, List.getD_cons_succ, List.getD_cons_zero]
        repeat (first | (refine quiet_load_1R (by rfl) _ _ rfl rfl (.pointer (some ⟨d true, 0, none⟩)) (fun wq h => by first|exact h.1|(rw [h];exact jj.1)) _ Tryz.underlying24 rfl ?_; simp only [World.size_alloc, World.size_drew, Act.put, List.setIfInBounds_toArray, List.set_cons_succ, List.set_cons_zero]) | (refine quiet_load_1R (by rfl) _ _ rfl rfl (.pointer (some ⟨x true, 0, none⟩)) (fun wq h => by first|exact h.2|(rw [h];exact jj.2)) _ Tryz.underlying26 rfl ?_; simp only [World.size_alloc, World.size_drew, Act.put, List.setIfInBounds_toArray, List.set_cons_succ, List.set_cons_zero]) | go_big_quiet_step (fail))
        refine wpQuiet_nil ?_
        refine WD.eff 3 (by kernel_rfl) ?_
        simp only [pick, List.toList_toArray, List.map_cons, List.map_nil, List.getD_cons_succ, List.getD_cons_zero]
        go_wp2_with (go_at_call 43; refine (HA.out _ _ (thr_hc E3d.out.held)).mono ?_; rintro e w4 ⟨rfl, FF4, v4⟩; have E4 := hid (thr_c E3d.out v4); have jj4 := JJ.out _ _ _ E4.out.held; clear v4 HA)
        try refine wpList_nil ?_
        refine AfterD.on jj4 (by kernel_rfl) ?_
        try simp only [World.size_alloc, World.size_drew, Act.put, List.setIfInBounds_toArray, List.set_cons_succ, List.set_cons_zero]
        refine WD.eff 7 (by kernel_rfl) ?_
        simp only [pick, List.toList_toArray, List.map_cons, List.map_nil, List.getD_cons_succ, List.getD_cons_zero]
        go_wp2_with (go_at_call 44; refine (HB.out _ _ (thr_hd E4.out.held)).mono ?_; rintro e w5 ⟨rfl, GG5, v5⟩; have E5 := hid (thr_d E4.out v5); have jj5 := JJ.out _ _ _ E5.out.held; clear v5 HB)
        try refine wpList_nil ?_
        refine AfterD.on jj5 (by kernel_rfl) ?_
        try simp only [World.size_alloc, World.size_drew, Act.put, List.setIfInBounds_toArray, List.set_cons_succ, List.set_cons_zero]
        refine WD.pure [8, 9] (by kernel_rfl) jj5 ?_
        simp only [pick, List.toList_toArray, List.map_cons, List.map_nil, List.getD_cons_succ, List.getD_cons_zero]
        repeat (first | (refine quiet_load_1R (by rfl) _ _ rfl rfl (.pointer (some ⟨d true, 0, none⟩)) (fun wq h => by first|exact h.1|(rw [h];exact jj.1)) _ Tryz.underlying24 rfl ?_; simp only [World.size_alloc, World.size_drew, Act.put, List.setIfInBounds_toArray, List.set_cons_succ, List.set_cons_zero]) | (refine quiet_load_1R (by rfl) _ _ rfl rfl (.pointer (some ⟨x true, 0, none⟩)) (fun wq h => by first|exact h.2|(rw [h];exact jj.2)) _ Tryz.underlying26 rfl ?_; simp only [World.size_alloc, World.size_drew, Act.put, List.setIfInBounds_toArray, List.set_cons_succ, List.set_cons_zero]) | go_big_quiet_step (fail))
        refine wpQuiet_nil ?_
        refine WD.done (by kernel_rfl) ?_
        go_wp2_with fail
        go_ret2
        exact ⟨_, rfl, pbs, qbs, FF4, GG5, Ev.less [] _ (Ev.less [] _ (Ev.less [] _ E5.out))⟩
    · rw [if_neg d6] at hs2
      have u6 : (dov == 6) = false := by simpa using d6
      by_cases d9 : dov = 9
      · subst d9
        rw [if_pos rfl] at hs2
        rcases hb with hb | hb
        · rw [show decide (bits .and .i64 dd 1 = 1) = false by rw [hb]; decide] at hs2
          subst hs2
          have HA := hid fun (w1 : World) (FF2 : Bool → List Nat) (h1 : Held w1 ([] ++ (hc ++ sysC pbs s d FF2))) => sTamper false (l := hc) h1 OK.out HT.out iv hi1 hi2 fl hfs
          have HB := hid fun (w1 : World) (FF2 : Bool → List Nat) (h1 : Held w1 ([] ++ (hx ++ sysX qbs s x FF2))) => xTamper false (l := hx) h1 OK.out HT.out iv fl hfs
          generalize taC (s.X false) (s.lf false) iv fl = c at *
          go_wp2_with fail
          have E3d := hid (E3.out.step (Fr.refl [] w3).drew)
          have JJ := hid fun (w1 : World) (C D : List Res) (h : Held w1 ([Res.blk b2 cs, Res.blk b1 (dbL x), Res.blk b0 (dbL d)] ++ lb ++ C ++ D)) => And.intro (show w1.cell? ⟨b0, 0, none⟩ = some (.pointer (some ⟨d false, 0, none⟩)) from (h.blkAt 2 rfl).cell 0) (And.intro (show w1.cell? ⟨b1, 0, none⟩ = some (.pointer (some ⟨x false, 0, none⟩)) from (h.blkAt 1 rfl).cell 0) (And.intro (show w1.cell? ⟨b2, 1, none⟩ = some (.int .i64 iv) from ((h.blkAt 0 rfl).cell 1).trans c1) (show w1.cell? ⟨b2, 3, none⟩ = some (.int .u8 (cv.toNat : Int)) from ((h.blkAt 0 rfl).cell 3).trans c3)))
          have jj := JJ.out _ _ _ E3d.out.held
          refine wp_region_D (fun w' => w'.cell? ⟨b0, 0, none⟩ = some (.pointer (some ⟨d false, 0, none⟩)) ∧ w'.cell? ⟨b1, 0, none⟩ = some (.pointer (some ⟨x false, 0, none⟩)) ∧ w'.cell? ⟨b2, 1, none⟩ = some (.int .i64 iv) ∧ w'.cell? ⟨b2, 3, none⟩ = some (.int .u8 (cv.toNat : Int))) false [] (by kernel_rfl) ?_
          refine WD.pure [5, 6] (by kernel_rfl) jj ?_
          simp only [pick, List.toList_toArray, List.map_cons, List.map_nil, List.getD_cons_succ, List.getD_cons_zero]
          repeat (first | (refine quiet_load_1R (by rfl) _ _ rfl rfl (.pointer (some ⟨d false, 0, none⟩)) (fun wq h => by first|exact h.1|(rw [h];exact jj.1)) _ Tryz.underlying24 rfl ?_; simp only [World.size_alloc, World.size_drew, Act.put, List.setIfInBounds_toArray, List.set_cons_succ, List.set_cons_zero]) | (refine quiet_load_1R (by rfl) _ _ rfl rfl (.pointer (some ⟨x false, 0, none⟩)) (fun wq h => by first|exact h.2.1|(rw [h];exact jj.2.1)) _ Tryz.underlying26 rfl ?_; simp only [World.size_alloc, World.size_drew, Act.put, List.setIfInBounds_toArray, List.set_cons_succ, List.set_cons_zero]) | (refine quiet_load_1R (by rfl) _ _ rfl rfl (.int .i64 iv) (fun wq h => by first|exact h.2.2.1|(rw [h];exact jj.2.2.1)) _ Tryz.underlying3 rfl ?_; simp only [World.size_alloc, World.size_drew, Act.put, List.setIfInBounds_toArray, List.set_cons_succ, List.set_cons_zero]) | (refine quiet_load_1R (by rfl) _ _ rfl rfl (.int .u8 (cv.toNat : Int)) (fun wq h => by first|exact h.2.2.2|(rw [h];exact jj.2.2.2)) _ Tryz.underlying5 rfl ?_; simp only [World.size_alloc, World.size_drew, Act.put, List.setIfInBounds_toArray, List.set_cons_succ, List.set_cons_zero]) | go_big_quiet_step (fail))
          refine wpQuiet_nil ?_
          refine WD.free [0, 1, 3, 9, 10, 12, 14] (by kernel_rfl) jj ?_
          simp only [pick, List.toList_toArray, List.map_cons, List.map_nil, List.getD_cons_succ, List.getD_cons_zero]
          repeat (first | (refine quiet_load_1R (by rfl) _ _ rfl rfl (.pointer (some ⟨d false, 0, none⟩)) (fun wq h => by first|exact h.1|(rw [h];exact jj.1)) _ Tryz.underlying24 rfl ?_; simp only [World.size_alloc, World.size_drew, Act.put, List.setIfInBounds_toArray, List.set_cons_succ, List.set_cons_zero]) | (refine quiet_load_1R (by rfl) _ _ rfl rfl (.pointer (some ⟨x false, 0, none⟩)) (fun wq h => by first|exact h.2.1|(rw [h];exact jj.2.1)) _ Tryz.underlying26 rfl ?_; simp only [World.size_alloc, World.size_drew, Act.put, List.setIfInBounds_toArray, List.set_cons_succ, List.set_cons_zero]) | (refine quiet_load_1R (by rfl) _ _ rfl rfl (.int .i64 iv) (fun wq h => by first|exact h.2.2.1|(rw [h];exact jj.2.2.1)) _ Tryz.underlying3 rfl ?_; simp only [World.size_alloc, World.size_drew, Act.put, List.setIfInBounds_toArray, List.set_cons_succ, List.set_cons_zero]) | (refine quiet_load_1R (by rfl) _ _ rfl rfl (.int .u8 (cv.toNat : Int)) (fun wq h => by first|exact h.2.2.2|(rw [h];exact jj.2.2.2)) _ Tryz.underlying5 rfl ?_; simp only [World.size_alloc, World.size_drew, Act.put, List.setIfInBounds_toArray, List.set_cons_succ, List.set_cons_zero]) | go_big_quiet_step (fail))
          refine wpQuiet_nil ?_
          refine WD.held [2, 4, 11, 13, 15] (by kernel_rfl) jj ?_
          simp only [pick, List.toList_toArray, List.map_cons, List.map_nil, List.getD_cons_succ, List.getD_cons_zero]
          repeat (first | (refine quiet_load_1R (by rfl) _ _ rfl rfl (.pointer (some ⟨d false, 0, none⟩)) (fun wq h => by first|exact h.1|(rw [h];exact jj.1)) _ Tryz.underlying24 rfl ?_; simp only [World.size_alloc, World.size_drew, Act.put, List.setIfInBounds_toArray, List.set_cons_succ, List.set_cons_zero]) | (refine quiet_load_1R (by rfl) _ _ rfl rfl (.pointer (some ⟨x false, 0, none⟩)) (fun wq h => by first|exact h.2.1|(rw [h];exact jj.2.1)) _ Tryz.underlying26 rfl ?_; simp only [World.size_alloc, World.size_drew, Act.put, List.setIfInBounds_toArray, List.set_cons_succ, List.set_cons_zero]) | (refine quiet_load_1R (by rfl) _ _ rfl rfl (.int .i64 iv) (fun wq h => by first|exact h.2.2.1|(rw [h];exact jj.2.2.1)) _ Tryz.underlying3 rfl ?_; simp only [World.size_alloc, World.size_drew, Act.put, List.setIfInBounds_toArray, List.set_cons_succ, List.set_cons_zero]) | (refine quiet_load_1R (by rfl) _ _ rfl rfl (.int .u8 (cv.toNat : Int)) (fun wq h => by first|exact h.2.2.2|(rw [h];exact jj.2.2.2)) _ Tryz.underlying5 rfl ?_; simp only [World.size_alloc, World.size_drew, Act.put, List.setIfInBounds_toArray, List.set_cons_succ, List.set_cons_zero]) | go_big_quiet_step (fail))
          refine wpQuiet_nil ?_
          refine WD.eff 7 (by kernel_rfl) ?_
          simp only [pick, List.toList_toArray, List.map_cons, List.map_nil, List.getD_cons_succ, List.getD_cons_zero]
          go_wp2_with (go_at_call 18; refine (HF.out _).mono ?_; rintro e w4 ⟨rfl, f4⟩; have E4 := hid (E3d.out.step f4); have jj4 := JJ.out _ _ _ E4.out.held; clear f4)
          try refine wpList_nil ?_
          refine AfterD.on jj4 (by kernel_rfl) ?_
          try simp only [World.size_alloc, World.size_drew, Act.put, List.setIfInBounds_toArray, List.set_cons_succ, List.set_cons_zero]
          refine WD.eff 8 (by kernel_rfl) ?_
          simp only [pick, List.toList_toArray, List.map_cons, List.map_nil, List.getD_cons_succ, List.getD_cons_zero]
          go_wp2_with (go_at_call 45; refine (HA.out _ _ (thr_hc E4.out.held)).mono ?_; rintro e w5 ⟨rfl, FF5, v5⟩; have E5 := hid (thr_c E4.out v5); have jj5 := JJ.out _ _ _ E5.out.held; clear v5 HA)
          try refine wpList_nil ?_
          refine AfterD.on jj5 (by kernel_rfl) ?_
          try simp only [World.size_alloc, World.size_drew, Act.put, List.setIfInBounds_toArray, List.set_cons_succ, List.set_cons_zero]
          refine WD.eff 16 (by kernel_rfl) ?_
          simp only [pick, List.toList_toArray, List.map_cons, List.map_nil, List.getD_cons_succ, List.getD_cons_zero]
          go_wp2_with (go_at_call 18; refine (HF.out _).mono ?_; rintro e w6 ⟨rfl, f6⟩; have E6 := hid (E5.out.step f6); have jj6 := JJ.out _ _ _ E6.out.held; clear f6)
          try refine wpList_nil ?_
          refine AfterD.on jj6 (by kernel_rfl) ?_
          try simp only [World.size_alloc, World.size_drew, Act.put, List.setIfInBounds_toArray, List.set_cons_succ, List.set_cons_zero]
          refine WD.eff 17 (by kernel_rfl) ?_
          simp only [pick, List.toList_toArray, List.map_cons, List.map_nil, List.getD_cons_succ, List.getD_cons_zero]
          go_wp2_with (go_at_call 46; refine (HB.out _ _ (thr_hd E6.out.held)).mono ?_; rintro e w7 ⟨rfl, GG7, v7⟩; have E7 := hid (thr_d E6.out v7); have jj7 := JJ.out _ _ _ E7.out.held; clear v7 HB)
          try refine wpList_nil ?_
          refine AfterD.on jj7 (by kernel_rfl) ?_
          try simp only [World.size_alloc, World.size_drew, Act.put, List.setIfInBounds_toArray, List.set_cons_succ, List.set_cons_zero]
          refine WD.pure [18, 19] (by kernel_rfl) jj7 ?_
          simp only [pick, List.toList_toArray, List.map_cons, List.map_nil, List.getD_cons_succ, List.getD_cons_zero]
          repeat (first | (refine quiet_load_1R (by rfl) _ _ rfl rfl (.pointer (some ⟨d false, 0, none⟩)) (fun wq h => by first|exact h.1|(rw [h];exact jj.1)) _ Tryz.underlying24 rfl ?_; simp only [World.size_alloc, World.size_drew, Act.put, List.setIfInBounds_toArray, List.set_cons_succ, List.set_cons_zero]) | (refine quiet_load_1R (by rfl) _ _ rfl rfl (.pointer (some ⟨x false, 0, none⟩)) (fun wq h => by first|exact h.2.1|(rw [h];exact jj.2.1)) _ Tryz.underlying26 rfl ?_; simp only [World.size_alloc, World.size_drew, Act.put, List.setIfInBounds_toArray, List.set_cons_succ, List.set_cons_zero]) | (refine quiet_load_1R (by rfl) _ _ rfl rfl (.int .i64 iv) (fun wq h => by first|exact h.2.2.1|(rw [h];exact jj.2.2.1)) _ Tryz.underlying3 rfl ?_; simp only [World.size_alloc, World.size_drew, Act.put, List.setIfInBounds_toArray, List.set_cons_succ, List.set_cons_zero]) | (refine quiet_load_1R (by rfl) _ _ rfl rfl (.int .u8 (cv.toNat : Int)) (fun wq h => by first|exact h.2.2.2|(rw [h];exact jj.2.2.2)) _ Tryz.underlying5 rfl ?_; simp only [World.size_alloc, World.size_drew, Act.put, List.setIfInBounds_toArray, List.set_cons_succ, List.set_cons_zero]) | go_big_quiet_step (fail))
          refine wpQuiet_nil ?_
          refine WD.done (by kernel_rfl) ?_
          go_wp2_with fail
          go_ret2
          exact ⟨_, rfl, pbs, qbs, FF5, GG7, Ev.less [] _ (Ev.less [] _ (Ev.less [] _ E7.out))⟩
        · rw [show decide (bits .and .i64 dd 1 = 1) = true by rw [hb]; decide] at hs2
          subst hs2
          have HA := hid fun (w1 : World) (FF2 : Bool → List Nat) (h1 : Held w1 ([] ++ (hc ++ sysC pbs s d FF2))) => sTamper true (l := hc) h1 OK.out HT.out iv hi1 hi2 fl hfs
          have HB := hid fun (w1 : World) (FF2 : Bool → List Nat) (h1 : Held w1 ([] ++ (hx ++ sysX qbs s x FF2))) => xTamper true (l := hx) h1 OK.out HT.out iv fl hfs
          generalize taC (s.X true) (s.lf true) iv fl = c at *
          go_wp2_with fail
          have E3d := hid (E3.out.step (Fr.refl [] w3).drew)
          have JJ := hid fun (w1 : World) (C D : List Res) (h : Held w1 ([Res.blk b2 cs, Res.blk b1 (dbL x), Res.blk b0 (dbL d)] ++ lb ++ C ++ D)) => And.intro (show w1.cell? ⟨b0, 1, none⟩ = some (.pointer (some ⟨d true, 0, none⟩)) from (h.blkAt 2 rfl).cell 1) (And.intro (show w1.cell? ⟨b1, 1, none⟩ = some (.pointer (some ⟨x true, 0, none⟩)) from (h.blkAt 1 rfl).cell 1) (And.intro (show w1.cell? ⟨b2, 1, none⟩ = some (.int .i64 iv) from ((h.blkAt 0 rfl).cell 1).trans c1) (show w1.cell? ⟨b2, 3, none⟩ = some (.int .u8 (cv.toNat : Int)) from ((h.blkAt 0 rfl).cell 3).trans c3)))
          have jj := JJ.out _ _ _ E3d.out.held
          refine wp_region_D (fun w' => w'.cell? ⟨b0, 1, none⟩ = some (.pointer (some ⟨d true, 0, none⟩)) ∧ w'.cell? ⟨b1, 1, none⟩ = some (.pointer (some ⟨x true, 0, none⟩)) ∧ w'.cell? ⟨b2, 1, none⟩ = some (.int .i64 iv) ∧ w'.cell? ⟨b2, 3, none⟩ = some (.int .u8 (cv.toNat : Int))) false [] (by kernel_rfl) ?_
          refine WD.pure [5, 6] (by kernel_rfl) jj ?_
          simp only [pick, List.toList_toArray, List.map_cons, List.map_nil, List.getD_cons_succ, List.getD_cons_zero]
          repeat (first | (refine quiet_load_1R (by rfl) _ _ rfl rfl (.pointer (some ⟨d true, 0, none⟩)) (fun wq h => by first|exact h.1|(rw [h];exact jj.1)) _ Tryz.underlying24 rfl ?_; simp only [World.size_alloc, World.size_drew, Act.put, List.setIfInBounds_toArray, List.set_cons_succ, List.set_cons_zero]) | (refine quiet_load_1R (by rfl) _ _ rfl rfl (.pointer (some ⟨x true, 0, none⟩)) (fun wq h => by first|exact h.2.1|(rw [h];exact jj.2.1)) _ Tryz.underlying26 rfl ?_; simp only [World.size_alloc, World.size_drew, Act.put, List.setIfInBounds_toArray, List.set_cons_succ, List.set_cons_zero]) | (refine quiet_load_1R (by rfl) _ _ rfl rfl (.int .i64 iv) (fun wq h => by first|exact h.2.2.1|(rw [h];exact jj.2.2.1)) _ Tryz.underlying3 rfl ?_; simp only [World.size_alloc, World.size_drew, Act.put, List.setIfInBounds_toArray, List.set_cons_succ, List.set_cons_zero]) | (refine quiet_load_1R (by rfl) _ _ rfl rfl (.int .u8 (cv.toNat : Int)) (fun wq h => by first|exact h.2.2.2|(rw [h];exact jj.2.2.2)) _ Tryz.underlying5 rfl ?_; simp only [World.size_alloc, World.size_drew, Act.put, List.setIfInBounds_toArray, List.set_cons_succ, List.set_cons_zero]) | go_big_quiet_step (fail))
          refine wpQuiet_nil ?_
          refine WD.free [0, 1, 3, 9, 10, 12, 14] (by kernel_rfl) jj ?_
          simp only [pick, List.toList_toArray, List.map_cons, List.map_nil, List.getD_cons_succ, List.getD_cons_zero]
          repeat (first | (refine quiet_load_1R (by rfl) _ _ rfl rfl (.pointer (some ⟨d true, 0, none⟩)) (fun wq h => by first|exact h.1|(rw [h];exact jj.1)) _ Tryz.underlying24 rfl ?_; simp only [World.size_alloc, World.size_drew, Act.put, List.setIfInBounds_toArray, List.set_cons_succ, List.set_cons_zero]) | (refine quiet_load_1R (by rfl) _ _ rfl rfl (.pointer (some ⟨x true, 0, none⟩)) (fun wq h => by first|exact h.2.1|(rw [h];exact jj.2.1)) _ Tryz.underlying26 rfl ?_; simp only [World.size_alloc, World.size_drew, Act.put, List.setIfInBounds_toArray, List.set_cons_succ, List.set_cons_zero]) | (refine quiet_load_1R (by rfl) _ _ rfl rfl (.int .i64 iv) (fun wq h => by first|exact h.2.2.1|(rw [h];exact jj.2.2.1)) _ Tryz.underlying3 rfl ?_; simp only [World.size_alloc, World.size_drew, Act.put, List.setIfInBounds_toArray, List.set_cons_succ, List.set_cons_zero]) | (refine quiet_load_1R (by rfl) _ _ rfl rfl (.int .u8 (cv.toNat : Int)) (fun wq h => by first|exact h.2.2.2|(rw [h];exact jj.2.2.2)) _ Tryz.underlying5 rfl ?_; simp only [World.size_alloc, World.size_drew, Act.put, List.setIfInBounds_toArray, List.set_cons_succ, List.set_cons_zero]) | go_big_quiet_step (fail))
          refine wpQuiet_nil ?_
          refine WD.held [2, 4, 11, 13, 15] (by kernel_rfl) jj ?_
          simp only [pick, List.toList_toArray, List.map_cons, List.map_nil, List.getD_cons_succ, List.getD_cons_zero]
          repeat (first | (refine quiet_load_1R (by rfl) _ _ rfl rfl (.pointer (some ⟨d true, 0, none⟩)) (fun wq h => by first|exact h.1|(rw [h];exact jj.1)) _ Tryz.underlying24 rfl ?_; simp only [World.size_alloc, World.size_drew, Act.put, List.setIfInBounds_toArray, List.set_cons_succ, List.set_cons_zero]) | (refine quiet_load_1R (by rfl) _ _ rfl rfl (.pointer (some ⟨x true, 0, none⟩)) (fun wq h => by first|exact h.2.1|(rw [h];exact jj.2.1)) _ Tryz.underlying26 rfl ?_; simp only [World.size_alloc, World.size_drew, Act.put, List.setIfInBounds_toArray, List.set_cons_succ, List.set_cons_zero]) | (refine quiet_load_1R (by rfl) _ _ rfl rfl (.int .i64 iv) (fun wq h => by first|exact h.2.2.1|(rw [h];exact jj.2.2.1)) _ Tryz.underlying3 rfl ?_; simp only [World.size_alloc, World.size_drew, Act.put, List.setIfInBounds_toArray, List.set_cons_succ, List.set_cons_zero]) | (refine quiet_load_1R (by rfl) _ _ rfl rfl (.int .u8 (cv.toNat : Int)) (fun wq h => by first|exact h.2.2.2|(rw [h];exact jj.2.2.2)) _ Tryz.underlying5 rfl ?_; simp only [World.size_alloc, World.size_drew, Act.put, List.setIfInBounds_toArray, List.set_cons_succ, List.set_cons_zero]) | go_big_quiet_step (fail))
          refine wpQuiet_nil ?_
          refine WD.eff 7 (by kernel_rfl) ?_
          simp only [pick, List.toList_toArray, List.map_cons, List.map_nil, List.getD_cons_succ, List.getD_cons_zero]
          go_wp2_with (go_at_call 18; refine (HF.out _).mono ?_; rintro e w4 ⟨rfl, f4⟩; have E4 := hid (E3d.out.step f4); have jj4 := JJ.out _ _ _ E4.out.held; clear f4)
          try refine wpList_nil ?_
          refine AfterD.on jj4 (by kernel_rfl) ?_
          try simp only [World.size_alloc, World.size_drew, Act.put, List.setIfInBounds_toArray, List.set_cons_succ, List.set_cons_zero]
          refine WD.eff 8 (by kernel_rfl) ?_
          simp only [pick, List.toList_toArray, List.map_cons, List.map_nil, List.getD_cons_succ, List.getD_cons_zero]
          go_wp2_with (go_at_call 45; refine (HA.out _ _ (thr_hc E4.out.held)).mono ?_; rintro e w5 ⟨rfl, FF5, v5⟩; have E5 := hid (thr_c E4.out v5); have jj5 := JJ.out _ _ _ E5.out.held; clear v5 HA)
          try refine wpList_nil ?_
          refine AfterD.on jj5 (by kernel_rfl) ?_
          try simp only [World.size_alloc, World.size_drew, Act.put, List.setIfInBounds_toArray, List.set_cons_succ, List.set_cons_zero]
          refine WD.eff 16 (by kernel_rfl) ?_
          simp only [pick, List.toList_toArray, List.map_cons, List.map_nil, List.getD_cons_succ, List.getD_cons_zero]
          go_wp2_with (go_at_call 18; refine (HF.out _).mono ?_; rintro e w6 ⟨rfl, f6⟩; have E6 := hid (E5.out.step f6); have jj6 := JJ.out _ _ _ E6.out.held; clear f6)
          try refine wpList_nil ?_
          refine AfterD.on jj6 (by kernel_rfl) ?_
          try simp only [World.size_alloc, World.size_drew, Act.put, List.setIfInBounds_toArray, List.set_cons_succ, List.set_cons_zero]
          refine WD.eff 17 (by kernel_rfl) ?_
          simp only [pick, List.toList_toArray, List.map_cons, List.map_nil, List.getD_cons_succ, List.getD_cons_zero]
          go_wp2_with (go_at_call 46; refine (HB.out _ _ (thr_hd E6.out.held)).mono ?_; rintro e w7 ⟨rfl, GG7, v7⟩; have E7 := hid (thr_d E6.out v7); have jj7 := JJ.out _ _ _ E7.out.held; clear v7 HB)
          try refine wpList_nil ?_
          refine AfterD.on jj7 (by kernel_rfl) ?_
          try simp only [World.size_alloc, World.size_drew, Act.put, List.setIfInBounds_toArray, List.set_cons_succ, List.set_cons_zero]
          refine WD.pure [18, 19] (by kernel_rfl) jj7 ?_
          simp only [pick, List.toList_toArray, List.map_cons, List.map_nil, List.getD_cons_succ, List.getD_cons_zero]
          repeat (first | (refine quiet_load_1R (by rfl) _ _ rfl rfl (.pointer (some ⟨d true, 0, none⟩)) (fun wq h => by first|exact h.1|(rw [h];exact jj.1)) _ Tryz.underlying24 rfl ?_; simp only [World.size_alloc, World.size_drew, Act.put, List.setIfInBounds_toArray, List.set_cons_succ, List.set_cons_zero]) | (refine quiet_load_1R (by rfl) _ _ rfl rfl (.pointer (some ⟨x true, 0, none⟩)) (fun wq h => by first|exact h.2.1|(rw [h];exact jj.2.1)) _ Tryz.underlying26 rfl ?_; simp only [World.size_alloc, World.size_drew, Act.put, List.setIfInBounds_toArray, List.set_cons_succ, List.set_cons_zero]) | (refine quiet_load_1R (by rfl) _ _ rfl rfl (.int .i64 iv) (fun wq h => by first|exact h.2.2.1|(rw [h];exact jj.2.2.1)) _ Tryz.underlying3 rfl ?_; simp only [World.size_alloc, World.size_drew, Act.put, List.setIfInBounds_toArray, List.set_cons_succ, List.set_cons_zero]) | (refine quiet_load_1R (by rfl) _ _ rfl rfl (.int .u8 (cv.toNat : Int)) (fun wq h => by first|exact h.2.2.2|(rw [h];exact jj.2.2.2)) _ Tryz.underlying5 rfl ?_; simp only [World.size_alloc, World.size_drew, Act.put, List.setIfInBounds_toArray, List.set_cons_succ, List.set_cons_zero]) | go_big_quiet_step (fail))
          refine wpQuiet_nil ?_
          refine WD.done (by kernel_rfl) ?_
          go_wp2_with fail
          go_ret2
          exact ⟨_, rfl, pbs, qbs, FF5, GG7, Ev.less [] _ (Ev.less [] _ (Ev.less [] _ E7.out))⟩
      · rw [if_neg d9] at hs2
        have u9 : (dov == 9) = false := by simpa using d9
        clear hb d5 d6 d9
        have k1 : w3.cell? ⟨b2, 1, none⟩ = some (.int .i64 iv) := ((E3.out.held.blkAt 0 rfl).cell 1).trans c1
        have HK := hid fun (w1 : World) (C D : List Res) (h : Held w1 ([Res.blk b2 cs, Res.blk b1 (dbL x), Res.blk b0 (dbL d)] ++ lb ++ C ++ D)) => (show w1.cell? ⟨b2, 1, none⟩ = some (.int .i64 iv) from ((h.blkAt 0 rfl).cell 1).trans c1)
        have hmx : max iv 0 = (iv.toNat : Int) := by omega
        have hmx' : (if (0 : Int) > iv then 0 else iv) = (iv.toNat : Int) := by split <;> omega
        have HN := hid (show iv.toNat ≤ 9223372036854775807 by omega)
        have HP := hid fun w1 : World => newPower_int w1 iv hi1 hi2
        have HL1 := hid (show pbs.length = s.L.length from (Held.part (w := w3) ([Res.blk b2 cs, Res.blk b1 (dbL x), Res.blk b0 (dbL d)] ++ lb ++ hc) (dk (d false) (s.X false) pbs (s.k false) (FF false) :: dk (d true) (s.X true) pbs (s.k true) (FF true) :: (hx ++ sysX qbs s x GG)) (ps := [Res.pows pbs s.L]) (by have := E3.out.held; simpa [sysC] using this)).at 0 rfl |>.1)
        have HL2 := hid (show qbs.length = s.L.length from (Held.part (w := w3) ([Res.blk b2 cs, Res.blk b1 (dbL x), Res.blk b0 (dbL d)] ++ lb ++ (hc ++ sysC pbs s d FF) ++ hx) (xdk (x false) (s.X false) qbs (s.k false) (GG false) :: xdk (x true) (s.X true) qbs (s.k true) (GG true) :: []) (ps := [Res.pows qbs s.L]) (by have := E3.out.held; simpa [sysX] using this)).at 0 rfl |>.1)
        have HS1 := hid fun (w1 w2 : World) (p : Nat) (FF1 : Bool → List Nat) (h1 : Held w1 ([] ++ (hc ++ sysC pbs s d FF1))) (f : Fr [] w1 w2) (hp : pwOk w2 (some (p, iv.toNat))) (hnew : w1.heap.size ≤ p) => sMore (l := hc) h1 OK.out f hp hnew
        have HS2 := hid fun (w1 w2 : World) (p : Nat) (FF1 : Bool → List Nat) (h1 : Held w1 ([] ++ (hx ++ sysX qbs s x FF1))) (f : Fr [] w1 w2) (hp : pwOk w2 (some (p, iv.toNat))) (hnew : w1.heap.size ≤ p) => xMore (l := hx) h1 OK.out f hp hnew
        obtain ⟨n, hn⟩ : ∃ n, iv.toNat = n := ⟨_, rfl⟩
        rw [hn] at hmx hmx' HN HP HS1 HS2 hs2
        have HSS := hid hs2
        clear hs2 hn HF hfs c0 c1 c2 c3
        go_wp2_with (first
          | (go_at_call 47; refine (HP.out _).mono ?_; rintro e w4 ⟨rfl, hb4, f4⟩; have E4 := hid (thr_c E3.out (HS1.out _ _ _ _ (thr_hc E3.out.held) f4 ⟨hb4, HN.out⟩ (Nat.le_refl _))); have l4 := HK.out _ _ _ E4.out.held; clear f4 hb4 HP k1 E3)
          | (refine wpList_box rfl _ _ rfl [.int .i64 (n : Int)] rfl ?_; intro w5 f5 hlt5 hb5; have E5 := hid (thr_d E4.out (HS2.out _ _ _ _ (thr_hd E4.out.held) f5 ⟨hb5, HN.out⟩ (Nat.le_refl _))); clear f5 hlt5 hb5 E4 l4; simp only [World.size_alloc, World.size_drew, Act.put, List.setIfInBounds_toArray, List.set_cons_succ, List.set_cons_zero]))
        obtain ⟨p, hp⟩ : ∃ v, w3.heap.size = v := ⟨_, rfl⟩
        obtain ⟨q, hq⟩ : ∃ v, w4.heap.size = v := ⟨_, rfl⟩
        rw [hp, hq] at E5
        rw [hp, hq]
        clear hp hq
        have HP1 := hid (show (pbs ++ [p])[s.L.length]? = some p by rw [← HL1.out]; simp)
        have HP2 := hid (show (qbs ++ [q])[s.L.length]? = some q by rw [← HL2.out]; simp)
        go_loopw [11] (fun jv wr => ∃ (j : Nat) (FFj GGj : Bool → List Nat), j ≤ 2 ∧ jv = .int .i64 (j : Int) ∧ Hid (Ev w (lb ++ (hc ++ sysC pbs s d FF) ++ (hx ++ sysX qbs s x GG)) wr ([Res.blk b2 cs, Res.blk b1 (dbL x), Res.blk b0 (dbL d)] ++ lb ++ (hc ++ sysC (pbs ++ [p]) (s.wr2 n j) d FFj) ++ (hx ++ sysX (qbs ++ [q]) (s.wr2 n j) x GGj)))) (fun jv _ => 2 - (intOf jv).toNat)
        case atStart => exact ⟨0, FF, GG, by decide, rfl, E5⟩
        case round =>
          obtain ⟨j, FFj, GGj, hj, rfl, E⟩ := hrel
          clear E5
          have hj3 : j = 0 ∨ j = 1 ∨ j = 2 := by omega
          rcases hj3 with rfl | rfl | rfl
          · rw [show ((0 : Nat) : Int) = 0 from rfl]
            have jd : wr.cell? ⟨b0, 0, none⟩ = some (.pointer (some ⟨d false, 0, none⟩)) := (E.out.held.blkAt 2 rfl).cell 0
            have jx : wr.cell? ⟨b1, 0, none⟩ = some (.pointer (some ⟨x false, 0, none⟩)) := (E.out.held.blkAt 1 rfl).cell 0
            have HJ := hid fun (w1 : World) (C D : List Res) (h : Held w1 ([Res.blk b2 cs, Res.blk b1 (dbL x), Res.blk b0 (dbL d)] ++ lb ++ C ++ D)) => (show w1.cell? ⟨b1, 0, none⟩ = some (.pointer (some ⟨x false, 0, none⟩)) from (h.blkAt 1 rfl).cell 0)
            have o := wr2_out OK.out n 0
            have oT : (s.wr2 n 0).T < 1000000 := Nat.lt_of_le_of_lt o.T HT.out
            have hL : (s.wr2 n 0).L = s.L ++ [n] := wr2_L s n 0
            have hp : (pbs ++ [p])[s.L.length]? = some p := HP1.out
            have hq : (qbs ++ [q])[s.L.length]? = some q := HP2.out
            have hl : (s.wr2 n 0).L[s.L.length]? = some n := by rw [hL]; simp
            have HA := hid fun (w1 : World) (FF2 : Bool → List Nat) (h1 : Held w1 ([] ++ (hc ++ sysC (pbs ++ [p]) (s.wr2 n 0) d FF2))) => sWire false (l := hc) h1 o.ok hp hl
            have HB := hid fun (w1 : World) (FF2 : Bool → List Nat) (h1 : Held w1 ([] ++ (hx ++ sysX (qbs ++ [q]) (s.wr2 n 0) x FF2))) => xWire false (l := hx) h1 o.ok hq hl
            rw [show (s.wr2 n 0).wire false s.L.length = s.wr2 n (0 + 1) from rfl] at HA HB
            generalize (s.wr2 n 0).wiC false = c at *
            clear o oT hL hp hq hl
            go_wp2_with (first
              | (go_at_call 48; refine (HA.out _ _ (thr_hc E.out.held)).mono ?_; rintro e w5 ⟨rfl, FF5, v5⟩; have E5 := hid (thr_c E.out v5); have jy := HJ.out _ _ _ E5.out.held; clear v5 HA jx E)
              | (go_at_call 49; refine (HB.out _ _ (thr_hd E5.out.held)).mono ?_; rintro e w6 ⟨rfl, GG6, v6⟩; have E6 := hid (thr_d E5.out v6); clear v6 HB))
            go_roundw
            case rel => exact ⟨0 + 1, FF5, GG6, by decide, by first | rfl | go_num, E6⟩
            case measure => simp [intOf]
          · rw [show ((1 : Nat) : Int) = 1 from rfl]
            have jd : wr.cell? ⟨b0, 1, none⟩ = some (.pointer (some ⟨d true, 0, none⟩)) := (E.out.held.blkAt 2 rfl).cell 1
            have jx : wr.cell? ⟨b1, 1, none⟩ = some (.pointer (some ⟨x true, 0, none⟩)) := (E.out.held.blkAt 1 rfl).cell 1
            have HJ := hid fun (w1 : World) (C D : List Res) (h : Held w1 ([Res.blk b2 cs, Res.blk b1 (dbL x), Res.blk b0 (dbL d)] ++ lb ++ C ++ D)) => (show w1.cell? ⟨b1, 1, none⟩ = some (.pointer (some ⟨x true, 0, none⟩)) from (h.blkAt 1 rfl).cell 1)
            have o := wr2_out OK.out n 1
            have oT : (s.wr2 n 1).T < 1000000 := Nat.lt_of_le_of_lt o.T HT.out
            have hL : (s.wr2 n 1).L = s.L ++ [n] := wr2_L s n 1
            have hp : (pbs ++ [p])[s.L.length]? = some p := HP1.out
            have hq : (qbs ++ [q])[s.L.length]? = some q := HP2.out
            have hl : (s.wr2 n 1).L[s.L.length]? = some n := by rw [hL]; simp
            have HA := hid fun (w1 : World) (FF2 : Bool → List Nat) (h1 : Held w1 ([] ++ (hc ++ sysC (pbs ++ [p]) (s.wr2 n 1) d FF2))) => sWire true (l := hc) h1 o.ok hp hl
            have HB := hid fun (w1 : World) (FF2 : Bool → List Nat) (h1 : Held w1 ([] ++ (hx ++ sysX (qbs ++ [q]) (s.wr2 n 1) x FF2))) => xWire true (l := hx) h1 o.ok hq hl
            rw [show (s.wr2 n 1).wire true s.L.length = s.wr2 n (1 + 1) from rfl] at HA HB
            generalize (s.wr2 n 1).wiC true = c at *
            clear o oT hL hp hq hl
            go_wp2_with (first
              | (go_at_call 48; refine (HA.out _ _ (thr_hc E.out.held)).mono ?_; rintro e w5 ⟨rfl, FF5, v5⟩; have E5 := hid (thr_c E.out v5); have jy := HJ.out _ _ _ E5.out.held; clear v5 HA jx E)
              | (go_at_call 49; refine (HB.out _ _ (thr_hd E5.out.held)).mono ?_; rintro e w6 ⟨rfl, GG6, v6⟩; have E6 := hid (thr_d E5.out v6); clear v6 HB))
            go_roundw
            case rel => exact ⟨1 + 1, FF5, GG6, by decide, by first | rfl | go_num, E6⟩
            case measure => simp [intOf]
          · go_wp2_with fail
            go_ret2
            exact ⟨_, rfl, _, _, FFj, GGj, HSS.out ▸ Ev.less [] _ (Ev.less [] _ (Ev.less [] _ E.out))⟩
end
end Go.Proofs.YtjgagcpmoffldaaGreat
