/- Layer 7 (great seat): one call of both mirrors. -/
import Derived.Test.YtjgagcpmoffldaaGreatPmN
import Derived.Test.YtjgagcpmoffldaaGreatMirSt
namespace Go.Proofs.YtjgagcpmoffldaaGreat
open Go Go.Xr Go.RowKit
set_option linter.unusedVariables false
set_option linter.unusedSimpArgs false
section
variable {w0 w w' : World} {rs B C C' D D' : List Res}
theorem thr_c (a : Ev w0 rs w (B ++ C ++ D)) (e : Ev w C w' C') : Ev w0 rs w' (B ++ C' ++ D) := Ev.then B D a e
theorem thr_d (a : Ev w0 rs w (B ++ C ++ D)) (e : Ev w D w' D') : Ev w0 rs w' (B ++ C ++ D') := by
  have h := Ev.then (B ++ C) [] (by rw [List.append_nil]; exact a) e
  rw [List.append_nil] at h
  exact h
theorem thr_hc (h : Held w (B ++ C ++ D)) : Held w ([] ++ C) := Held.part B D h
theorem thr_hd (h : Held w (B ++ C ++ D)) : Held w ([] ++ D) := Held.part (B ++ C) [] (by rw [List.append_nil]; exact h)
end
def doesB (a : Step7) : ByteArray := if a.Text.size = 0 then fill7 a.C else a.Text
def doesM (M : MS) (a : Step7) : MS := if a.Do = 0 then (if 2000 < (doesB a).size then M else M.wrM a.I (doesB a)) else if a.Do = 1 then (M.rd a.I).1 else if a.Do = 2 then (M.ot a.I).1 else if a.Do = 3 then M.flushM else M.rs.1
theorem ne_emp7 {K : ByteArray} (h : 0 < K.size) : K.toList.isEmpty = false := by
  have hK1 : ¬(K = ⟨#[]⟩) := fun h2 => by rw [h2] at h; exact absurd h (by decide)
  have e := mt_beq K ⟨#[]⟩
  cases hK : K.toList.isEmpty with
  | false => rfl
  | true =>
    have : K.toList = [] := by simpa using hK
    rw [this] at e
    have e2 : (([] : List UInt8) == (ByteArray.toList ⟨#[]⟩)) = true := by decide +kernel
    rw [e2] at e
    exact absurd (of_decide_eq_true e.symm) hK1
section
variable {w w' w0 : World} {lb : List Res} {pbs qbs : List Nat} {m y db ib : Nat} {s : Sys} {M M' : MS} {d x : Bool → Nat} {FF GG : Bool → List Nat}
set_option maxRecDepth 20000 in
set_option maxHeartbeats 8000000 in
theorem pdoes_any (h : Held w (lb ++ mirC pbs m d FF M ++ mirX qbs y db ib x GG M)) (ok : SysOk M.s) (ht : M.s.T + 2 * M.s.len (!M.c0) < 998800) (a : Step7) (ha : StOk7 w a) :
    Calls Tryz.prog 16 #[.pointer (some ⟨m, 0, none⟩), .pointer (some ⟨y, 0, none⟩), .agg (stc7 a).toArray] w fun e w' => e = .returned (.bool true) ∧ ∃ FF' GG', Ev w (lb ++ mirC pbs m d FF M ++ mirX qbs y db ib x GG M) w' (lb ++ mirC pbs m d FF' (doesM M a) ++ mirX qbs y db ib x GG' (doesM M a)) := by
  have HH := hid h
  have HF := hid fun w1 : World => fill7_any w1 a.C
  have hts : a.Text.size ≤ 9223372036854775807 := by have := ha.t; unfold maxLen at this; omega
  have hi1 := ha.i1
  have hi2 := ha.i2
  obtain ⟨dov, iv, dd, cv, tx, kp, ks, KB⟩ := a
  simp only at HF hts hi1 hi2
  have hfs : (fill7 cv).size ≤ 9223372036854775807 := by rw [fill7_size]; decide
  rw [show (stc7 ⟨dov, iv, dd, cv, tx, kp, ks, KB⟩) = [.int .i64 dov, .int .i64 iv, .int .i64 dd, .int .u8 (cv.toNat : Int), .string tx, kp] from rfl]
  unfold doesM doesB
  simp only
  have OK := hid ok
  have HT := hid ht
  clear h ha ok ht
  obtain ⟨fl, hfl⟩ : ∃ v, fill7 cv = v := ⟨_, rfl⟩
  rw [hfl] at HF hfs ⊢
  clear hfl
  obtain ⟨cs, hcs⟩ : ∃ cs : List Value, [.int .i64 dov, .int .i64 iv, .int .i64 dd, .int .u8 (cv.toNat : Int), .string tx, kp] = cs := ⟨_, rfl⟩
  have c0 : cs[0]? = some (.int .i64 dov) := by rw [← hcs]; rfl
  have c1 : cs[1]? = some (.int .i64 iv) := by rw [← hcs]; rfl
  have c3 : cs[3]? = some (.int .u8 (cv.toNat : Int)) := by rw [← hcs]; rfl
  have c4 : cs[4]? = some (.string tx) := by rw [← hcs]; rfl
  rw [hcs]
  clear hcs
  by_cases ht0 : tx.size = 0
  · have etx : tx = ⟨#[]⟩ := ByteArray.ext (Array.eq_empty_of_size_eq_zero ht0)
    rw [if_pos ht0]
    subst etx
    clear ht0
    by_cases d0 : dov = 0
    · subst d0
      rw [if_pos rfl]
      by_cases hbg : 2000 < (fl).size
      · rw [if_pos hbg]
        have hg1 : decide (2000 < (fl).size) = true := by simpa using hbg
        have hg2 : decide ((2000 : Int) < ((fl).size : Int)) = true := by simp; omega
        clear hbg
        go_enter Tryz.func16, Tryz.ntmps16
        go_wp2_with (first
          | (refine wpList_box rfl _ _ rfl cs rfl ?_; intro w1 f1 hlt1 hb1; have E1 := hid ((Ev.refl HH.out).new f1 (Res.On.blk hb1) (fun b hb => by simp [Res.blk] at hb; omega)); have k0 : w1.cell? ⟨w.heap.size, 0, none⟩ = some (.int .i64 0) := (hb1.cell 0).trans c0; have k3 : w1.cell? ⟨w.heap.size, 3, none⟩ = some (.int .u8 (cv.toNat : Int)) := (hb1.cell 3).trans c3; clear hb1 f1 hlt1; simp only [World.size_alloc, World.size_drew, Act.put, List.setIfInBounds_toArray, List.set_cons_succ, List.set_cons_zero])
          | (go_at_call 18; refine (HF.out _).mono ?_; rintro e w2 ⟨rfl, f2⟩; have E2 := hid (show Ev w (lb ++ mirC pbs m d FF M ++ mirX qbs y db ib x GG M) w2 ((Res.blk w.heap.size cs :: lb) ++ mirC pbs m d FF M ++ mirX qbs y db ib x GG M) from E1.out.step f2); have j0 : w2.cell? ⟨w.heap.size, 0, none⟩ = some (.int .i64 0) := ((E2.out.held.blkAt 0 rfl).cell 0).trans c0; have j4 := ((E2.out.held.blkAt 0 rfl).cell 4).trans c4; have j1 : w2.cell? ⟨w.heap.size, 1, none⟩ = some (.int .i64 iv) := ((E2.out.held.blkAt 0 rfl).cell 1).trans c1; clear f2 E1 HF))
        refine wp_region_D (fun _ => True) false [] (by kernel_rfl) ?_
        refine WD.pure [0, 1, 2, 3, 4, 5, 6, 7] (by kernel_rfl) trivial ?_
        simp only [pick, List.toList_toArray, List.map_cons, List.map_nil, List.getD_cons_succ, List.getD_cons_zero]
        repeat (first | go_big_quiet_step (fail))
        refine wpQuiet_nil ?_
        refine WD.free [9, 10, 12] (by kernel_rfl) trivial ?_
        simp only [pick, List.toList_toArray, List.map_cons, List.map_nil, List.getD_cons_succ, List.getD_cons_zero]
        repeat (first | go_big_quiet_step (fail))
        refine wpQuiet_nil ?_
        refine WD.held [11] (by kernel_rfl) trivial ?_
        simp only [pick, List.toList_toArray, List.map_cons, List.map_nil, List.getD_cons_succ, List.getD_cons_zero]
        repeat (first | go_big_quiet_step (fail))
        refine wpQuiet_nil ?_
        refine WD.eff 8 (by kernel_rfl) ?_
        simp only [pick, List.toList_toArray, List.map_cons, List.map_nil, List.getD_cons_succ, List.getD_cons_zero]
        go_wp2_with fail
        try refine wpList_nil ?_
        refine AfterD.on trivial (by kernel_rfl) ?_
        try simp only [World.size_alloc, World.size_drew, Act.put, List.setIfInBounds_toArray, List.set_cons_succ, List.set_cons_zero]
        refine WD.eff 13 (by kernel_rfl) ?_
        simp only [pick, List.toList_toArray, List.map_cons, List.map_nil, List.getD_cons_succ, List.getD_cons_zero]
        go_wp2_with fail
        try refine wpList_nil ?_
        refine AfterD.on trivial (by kernel_rfl) ?_
        try simp only [World.size_alloc, World.size_drew, Act.put, List.setIfInBounds_toArray, List.set_cons_succ, List.set_cons_zero]
        refine WD.pure [14, 15, 16] (by kernel_rfl) trivial ?_
        simp only [pick, List.toList_toArray, List.map_cons, List.map_nil, List.getD_cons_succ, List.getD_cons_zero]
        repeat (first | go_big_quiet_step (fail))
        refine wpQuiet_nil ?_
        refine WD.done (by kernel_rfl) ?_
        go_wp2_with fail
        go_ret
        exact ⟨rfl, FF, GG, Ev.less [] _ (E2.out.step (Fr.refl [] w2).drew)⟩
      · rw [if_neg hbg]
        have hg1 : decide (2000 < (fl).size) = false := by simpa using hbg
        have hg2 : decide ((2000 : Int) < ((fl).size : Int)) = false := by simp; omega
        have HA := hid fun (w1 : World) (FF2 : Bool → List Nat) (h1 : Held w1 ([] ++ mirC pbs m d FF2 M)) => mwrite_any h1 OK.out (by have := HT.out; omega) iv (fl) (by omega)
        have HB := hid fun (w1 : World) (FF2 : Bool → List Nat) (h1 : Held w1 ([] ++ mirX qbs y db ib x FF2 M)) => pwrite_any h1 OK.out (by have := HT.out; omega) iv (fl) (by omega)
        generalize M.wrM iv (fl) = M2 at *
        generalize M.wrE iv (fl) = e2 at *
        clear hbg
        go_enter Tryz.func16, Tryz.ntmps16
        go_wp2_with (first
          | (refine wpList_box rfl _ _ rfl cs rfl ?_; intro w1 f1 hlt1 hb1; have E1 := hid ((Ev.refl HH.out).new f1 (Res.On.blk hb1) (fun b hb => by simp [Res.blk] at hb; omega)); have k0 : w1.cell? ⟨w.heap.size, 0, none⟩ = some (.int .i64 0) := (hb1.cell 0).trans c0; have k3 : w1.cell? ⟨w.heap.size, 3, none⟩ = some (.int .u8 (cv.toNat : Int)) := (hb1.cell 3).trans c3; clear hb1 f1 hlt1; simp only [World.size_alloc, World.size_drew, Act.put, List.setIfInBounds_toArray, List.set_cons_succ, List.set_cons_zero])
          | (go_at_call 18; refine (HF.out _).mono ?_; rintro e w2 ⟨rfl, f2⟩; have E2 := hid (show Ev w (lb ++ mirC pbs m d FF M ++ mirX qbs y db ib x GG M) w2 ((Res.blk w.heap.size cs :: lb) ++ mirC pbs m d FF M ++ mirX qbs y db ib x GG M) from E1.out.step f2); have j0 : w2.cell? ⟨w.heap.size, 0, none⟩ = some (.int .i64 0) := ((E2.out.held.blkAt 0 rfl).cell 0).trans c0; have j4 := ((E2.out.held.blkAt 0 rfl).cell 4).trans c4; have j1 : w2.cell? ⟨w.heap.size, 1, none⟩ = some (.int .i64 iv) := ((E2.out.held.blkAt 0 rfl).cell 1).trans c1; clear f2 E1 HF))
        have E2d := hid (E2.out.step (Fr.refl [] w2).drew)
        have bx := E2d.out.held.blkAt 0 rfl
        have ji : w2.drew.cell? ⟨w.heap.size, 1, none⟩ = some (.int .i64 iv) := (bx.cell 1).trans c1
        refine wp_region_D (fun w' => w'.cell? ⟨w.heap.size, 1, none⟩ = some (.int .i64 iv)) false [] (by kernel_rfl) ?_
        refine WD.pure [0, 1, 2, 3, 4, 5, 6, 7] (by kernel_rfl) ji ?_
        simp only [pick, List.toList_toArray, List.map_cons, List.map_nil, List.getD_cons_succ, List.getD_cons_zero]
        repeat (first | (refine quiet_load_1R (by rfl) _ _ rfl rfl (.int .i64 iv) (fun wq h => by first|exact h|(rw [h];exact ji)) _ Tryz.underlying3 rfl ?_; simp only [World.size_alloc, World.size_drew, Act.put, List.setIfInBounds_toArray, List.set_cons_succ, List.set_cons_zero]) | go_big_quiet_step (fail))
        refine wpQuiet_nil ?_
        refine WD.free [9, 10, 12] (by kernel_rfl) ji ?_
        simp only [pick, List.toList_toArray, List.map_cons, List.map_nil, List.getD_cons_succ, List.getD_cons_zero]
        repeat (first | (refine quiet_load_1R (by rfl) _ _ rfl rfl (.int .i64 iv) (fun wq h => by first|exact h|(rw [h];exact ji)) _ Tryz.underlying3 rfl ?_; simp only [World.size_alloc, World.size_drew, Act.put, List.setIfInBounds_toArray, List.set_cons_succ, List.set_cons_zero]) | go_big_quiet_step (fail))
        refine wpQuiet_nil ?_
        refine WD.held [11] (by kernel_rfl) ji ?_
        simp only [pick, List.toList_toArray, List.map_cons, List.map_nil, List.getD_cons_succ, List.getD_cons_zero]
        repeat (first | (refine quiet_load_1R (by rfl) _ _ rfl rfl (.int .i64 iv) (fun wq h => by first|exact h|(rw [h];exact ji)) _ Tryz.underlying3 rfl ?_; simp only [World.size_alloc, World.size_drew, Act.put, List.setIfInBounds_toArray, List.set_cons_succ, List.set_cons_zero]) | go_big_quiet_step (fail))
        refine wpQuiet_nil ?_
        refine WD.eff 8 (by kernel_rfl) ?_
        simp only [pick, List.toList_toArray, List.map_cons, List.map_nil, List.getD_cons_succ, List.getD_cons_zero]
        go_wp2_with (go_at_call 17; refine (HA.out _ _ (thr_hc E2d.out.held)).mono ?_; rintro e w3 ⟨rfl, FF3, v3⟩; have E3 := hid (thr_c E2d.out v3); have jj : w3.cell? ⟨w.heap.size, 1, none⟩ = some (.int .i64 iv) := ((E3.out.held.blkAt 0 rfl).cell 1).trans c1; clear v3 HA)
        try refine wpList_nil ?_
        refine AfterD.on jj (by kernel_rfl) ?_
        try simp only [World.size_alloc, World.size_drew, Act.put, List.setIfInBounds_toArray, List.set_cons_succ, List.set_cons_zero]
        refine WD.eff 13 (by kernel_rfl) ?_
        simp only [pick, List.toList_toArray, List.map_cons, List.map_nil, List.getD_cons_succ, List.getD_cons_zero]
        go_wp2_with (go_at_call 52; refine (HB.out _ _ (thr_hd E3.out.held)).mono ?_; rintro e w4 ⟨rfl, GG4, v4⟩; have E4 := hid (thr_d E3.out v4); have jk : w4.cell? ⟨w.heap.size, 1, none⟩ = some (.int .i64 iv) := ((E4.out.held.blkAt 0 rfl).cell 1).trans c1; clear v4 HB)
        try refine wpList_nil ?_
        refine AfterD.on jk (by kernel_rfl) ?_
        try simp only [World.size_alloc, World.size_drew, Act.put, List.setIfInBounds_toArray, List.set_cons_succ, List.set_cons_zero]
        refine WD.pure [14, 15, 16] (by kernel_rfl) jk ?_
        simp only [pick, List.toList_toArray, List.map_cons, List.map_nil, List.getD_cons_succ, List.getD_cons_zero]
        repeat (first | (refine quiet_load_1R (by rfl) _ _ rfl rfl (.int .i64 iv) (fun wq h => by first|exact h|(rw [h];exact ji)) _ Tryz.underlying3 rfl ?_; simp only [World.size_alloc, World.size_drew, Act.put, List.setIfInBounds_toArray, List.set_cons_succ, List.set_cons_zero]) | go_big_quiet_step (fail))
        refine wpQuiet_nil ?_
        refine WD.done (by kernel_rfl) ?_
        go_wp2_with fail
        go_ret
        exact ⟨by simp, FF3, GG4, Ev.less [] _ E4.out⟩
    · rw [if_neg d0]
      have u0 : (dov == 0) = false := by simpa using d0
      by_cases d1 : dov = 1
      · subst d1
        rw [if_pos rfl]
        have HA := hid fun (w1 : World) (FF2 : Bool → List Nat) (h1 : Held w1 ([] ++ mirC pbs m d FF2 M)) => mread_any h1 OK.out (by have := HT.out; omega) iv
        have HB := hid fun (w1 : World) (FF2 : Bool → List Nat) (h1 : Held w1 ([] ++ mirX qbs y db ib x FF2 M)) => pread_any h1 OK.out (by have := HT.out; omega) iv
        generalize M.rd iv = R at *
        obtain ⟨M2, sr, er⟩ := R
        simp only at HA HB ⊢
        go_enter Tryz.func16, Tryz.ntmps16
        go_wp2_with (first
          | (refine wpList_box rfl _ _ rfl cs rfl ?_; intro w1 f1 hlt1 hb1; have E1 := hid ((Ev.refl HH.out).new f1 (Res.On.blk hb1) (fun b hb => by simp [Res.blk] at hb; omega)); have k0 : w1.cell? ⟨w.heap.size, 0, none⟩ = some (.int .i64 1) := (hb1.cell 0).trans c0; have k3 : w1.cell? ⟨w.heap.size, 3, none⟩ = some (.int .u8 (cv.toNat : Int)) := (hb1.cell 3).trans c3; clear hb1 f1 hlt1; simp only [World.size_alloc, World.size_drew, Act.put, List.setIfInBounds_toArray, List.set_cons_succ, List.set_cons_zero])
          | (go_at_call 18; refine (HF.out _).mono ?_; rintro e w2 ⟨rfl, f2⟩; have E2 := hid (show Ev w (lb ++ mirC pbs m d FF M ++ mirX qbs y db ib x GG M) w2 ((Res.blk w.heap.size cs :: lb) ++ mirC pbs m d FF M ++ mirX qbs y db ib x GG M) from E1.out.step f2); have j0 : w2.cell? ⟨w.heap.size, 0, none⟩ = some (.int .i64 1) := ((E2.out.held.blkAt 0 rfl).cell 0).trans c0; have j4 := ((E2.out.held.blkAt 0 rfl).cell 4).trans c4; have j1 : w2.cell? ⟨w.heap.size, 1, none⟩ = some (.int .i64 iv) := ((E2.out.held.blkAt 0 rfl).cell 1).trans c1; clear f2 E1 HF)
          | (go_at_call 21; refine (HA.out _ _ (thr_hc E2.out.held)).mono ?_; rintro e w3 ⟨rfl, FF3, v3⟩; have E3 := hid (thr_c E2.out v3); have q1 : w3.cell? ⟨w.heap.size, 1, none⟩ = some (.int .i64 iv) := ((E3.out.held.blkAt 0 rfl).cell 1).trans c1; clear v3 E2 HA)
          | (go_at_call 53; refine (HB.out _ _ (thr_hd E3.out.held)).mono ?_; rintro e w4 ⟨rfl, GG4, v4⟩; have E4 := hid (thr_d E3.out v4); clear v4 E3 HB))
        go_ret
        exact ⟨by simp, FF3, GG4, Ev.less [] _ E4.out⟩
      · rw [if_neg d1]
        have u1 : (dov == 1) = false := by simpa using d1
        by_cases d2 : dov = 2
        · subst d2
          rw [if_pos rfl]
          have HA := hid fun (w1 : World) (FF2 : Bool → List Nat) (h1 : Held w1 ([] ++ mirC pbs m d FF2 M)) => mother_any h1 OK.out (by have := HT.out; omega) iv
          have HB := hid fun (w1 : World) (FF2 : Bool → List Nat) (h1 : Held w1 ([] ++ mirX qbs y db ib x FF2 M)) => pother_any h1 OK.out (by have := HT.out; omega) iv
          generalize M.ot iv = R at *
          obtain ⟨M2, sr, er⟩ := R
          simp only at HA HB ⊢
          go_enter Tryz.func16, Tryz.ntmps16
          go_wp2_with (first
            | (refine wpList_box rfl _ _ rfl cs rfl ?_; intro w1 f1 hlt1 hb1; have E1 := hid ((Ev.refl HH.out).new f1 (Res.On.blk hb1) (fun b hb => by simp [Res.blk] at hb; omega)); have k0 : w1.cell? ⟨w.heap.size, 0, none⟩ = some (.int .i64 2) := (hb1.cell 0).trans c0; have k3 : w1.cell? ⟨w.heap.size, 3, none⟩ = some (.int .u8 (cv.toNat : Int)) := (hb1.cell 3).trans c3; clear hb1 f1 hlt1; simp only [World.size_alloc, World.size_drew, Act.put, List.setIfInBounds_toArray, List.set_cons_succ, List.set_cons_zero])
            | (go_at_call 18; refine (HF.out _).mono ?_; rintro e w2 ⟨rfl, f2⟩; have E2 := hid (show Ev w (lb ++ mirC pbs m d FF M ++ mirX qbs y db ib x GG M) w2 ((Res.blk w.heap.size cs :: lb) ++ mirC pbs m d FF M ++ mirX qbs y db ib x GG M) from E1.out.step f2); have j0 : w2.cell? ⟨w.heap.size, 0, none⟩ = some (.int .i64 2) := ((E2.out.held.blkAt 0 rfl).cell 0).trans c0; have j4 := ((E2.out.held.blkAt 0 rfl).cell 4).trans c4; have j1 : w2.cell? ⟨w.heap.size, 1, none⟩ = some (.int .i64 iv) := ((E2.out.held.blkAt 0 rfl).cell 1).trans c1; clear f2 E1 HF)
            | (go_at_call 54; refine (HA.out _ _ (thr_hc E2.out.held)).mono ?_; rintro e w3 ⟨rfl, FF3, v3⟩; have E3 := hid (thr_c E2.out v3); have q1 : w3.cell? ⟨w.heap.size, 1, none⟩ = some (.int .i64 iv) := ((E3.out.held.blkAt 0 rfl).cell 1).trans c1; clear v3 E2 HA)
            | (go_at_call 55; refine (HB.out _ _ (thr_hd E3.out.held)).mono ?_; rintro e w4 ⟨rfl, GG4, v4⟩; have E4 := hid (thr_d E3.out v4); clear v4 E3 HB))
          go_ret
          exact ⟨by simp, FF3, GG4, Ev.less [] _ E4.out⟩
        · rw [if_neg d2]
          have u2 : (dov == 2) = false := by simpa using d2
          by_cases d3 : dov = 3
          · subst d3
            rw [if_pos rfl]
            have HA := hid fun (w1 : World) (FF2 : Bool → List Nat) (h1 : Held w1 ([] ++ mirC pbs m d FF2 M)) => mflush_any h1 OK.out (by have := HT.out; omega)
            have HB := hid fun (w1 : World) (FF2 : Bool → List Nat) (h1 : Held w1 ([] ++ mirX qbs y db ib x FF2 M)) => pflush_any h1 OK.out (by have := HT.out; omega)
            generalize M.flushM = M2 at *
            generalize M.flushC = e2 at *
            go_enter Tryz.func16, Tryz.ntmps16
            go_wp2_with (first
              | (refine wpList_box rfl _ _ rfl cs rfl ?_; intro w1 f1 hlt1 hb1; have E1 := hid ((Ev.refl HH.out).new f1 (Res.On.blk hb1) (fun b hb => by simp [Res.blk] at hb; omega)); have k0 : w1.cell? ⟨w.heap.size, 0, none⟩ = some (.int .i64 3) := (hb1.cell 0).trans c0; have k3 : w1.cell? ⟨w.heap.size, 3, none⟩ = some (.int .u8 (cv.toNat : Int)) := (hb1.cell 3).trans c3; clear hb1 f1 hlt1; simp only [World.size_alloc, World.size_drew, Act.put, List.setIfInBounds_toArray, List.set_cons_succ, List.set_cons_zero])
              | (go_at_call 18; refine (HF.out _).mono ?_; rintro e w2 ⟨rfl, f2⟩; have E2 := hid (show Ev w (lb ++ mirC pbs m d FF M ++ mirX qbs y db ib x GG M) w2 ((Res.blk w.heap.size cs :: lb) ++ mirC pbs m d FF M ++ mirX qbs y db ib x GG M) from E1.out.step f2); have j0 : w2.cell? ⟨w.heap.size, 0, none⟩ = some (.int .i64 3) := ((E2.out.held.blkAt 0 rfl).cell 0).trans c0; have j4 := ((E2.out.held.blkAt 0 rfl).cell 4).trans c4; have j1 : w2.cell? ⟨w.heap.size, 1, none⟩ = some (.int .i64 iv) := ((E2.out.held.blkAt 0 rfl).cell 1).trans c1; clear f2 E1 HF)
              | (go_at_call 19; refine (HA.out _ _ (thr_hc E2.out.held)).mono ?_; rintro e w3 ⟨rfl, FF3, v3⟩; have E3 := hid (thr_c E2.out v3); have q1 : w3.cell? ⟨w.heap.size, 1, none⟩ = some (.int .i64 iv) := ((E3.out.held.blkAt 0 rfl).cell 1).trans c1; clear v3 E2 HA)
              | (go_at_call 56; refine (HB.out _ _ (thr_hd E3.out.held)).mono ?_; rintro e w4 ⟨rfl, GG4, v4⟩; have E4 := hid (thr_d E3.out v4); clear v4 E3 HB))
            go_ret
            exact ⟨by simp, FF3, GG4, Ev.less [] _ E4.out⟩
          · rw [if_neg d3]
            have u3 : (dov == 3) = false := by simpa using d3
            have HA := hid fun (w1 : World) (FF2 : Bool → List Nat) (h1 : Held w1 ([] ++ mirC pbs m d FF2 M)) => mresync_any h1 OK.out HT.out
            have HB := hid fun (w1 : World) (FF2 : Bool → List Nat) (h1 : Held w1 ([] ++ mirX qbs y db ib x FF2 M)) => presync_any h1 OK.out HT.out
            generalize M.rs = R at *
            obtain ⟨M2, nr, er⟩ := R
            simp only at HA HB ⊢
            go_enter Tryz.func16, Tryz.ntmps16
            go_wp2_with (first
              | (refine wpList_box rfl _ _ rfl cs rfl ?_; intro w1 f1 hlt1 hb1; have E1 := hid ((Ev.refl HH.out).new f1 (Res.On.blk hb1) (fun b hb => by simp [Res.blk] at hb; omega)); have k0 : w1.cell? ⟨w.heap.size, 0, none⟩ = some (.int .i64 dov) := (hb1.cell 0).trans c0; have k3 : w1.cell? ⟨w.heap.size, 3, none⟩ = some (.int .u8 (cv.toNat : Int)) := (hb1.cell 3).trans c3; clear hb1 f1 hlt1; simp only [World.size_alloc, World.size_drew, Act.put, List.setIfInBounds_toArray, List.set_cons_succ, List.set_cons_zero])
              | (go_at_call 18; refine (HF.out _).mono ?_; rintro e w2 ⟨rfl, f2⟩; have E2 := hid (show Ev w (lb ++ mirC pbs m d FF M ++ mirX qbs y db ib x GG M) w2 ((Res.blk w.heap.size cs :: lb) ++ mirC pbs m d FF M ++ mirX qbs y db ib x GG M) from E1.out.step f2); have j0 : w2.cell? ⟨w.heap.size, 0, none⟩ = some (.int .i64 dov) := ((E2.out.held.blkAt 0 rfl).cell 0).trans c0; have j4 := ((E2.out.held.blkAt 0 rfl).cell 4).trans c4; have j1 : w2.cell? ⟨w.heap.size, 1, none⟩ = some (.int .i64 iv) := ((E2.out.held.blkAt 0 rfl).cell 1).trans c1; clear f2 E1 HF)
              | (go_at_call 57; refine (HA.out _ _ (thr_hc E2.out.held)).mono ?_; rintro e w3 ⟨rfl, FF3, v3⟩; have E3 := hid (thr_c E2.out v3); have q1 : w3.cell? ⟨w.heap.size, 1, none⟩ = some (.int .i64 iv) := ((E3.out.held.blkAt 0 rfl).cell 1).trans c1; clear v3 E2 HA)
              | (go_at_call 58; refine (HB.out _ _ (thr_hd E3.out.held)).mono ?_; rintro e w4 ⟨rfl, GG4, v4⟩; have E4 := hid (thr_d E3.out v4); clear v4 E3 HB))
            go_ret
            exact ⟨by simp, FF3, GG4, Ev.less [] _ E4.out⟩
  · rw [if_neg ht0]
    have hte := ne_emp7 (K := tx) (by omega)
    by_cases d0 : dov = 0
    · subst d0
      rw [if_pos rfl]
      by_cases hbg : 2000 < (tx).size
      · rw [if_pos hbg]
        have hg1 : decide (2000 < (tx).size) = true := by simpa using hbg
        have hg2 : decide ((2000 : Int) < ((tx).size : Int)) = true := by simp; omega
        clear hbg
        go_enter Tryz.func16, Tryz.ntmps16
        go_wp2_with (first
          | (refine wpList_box rfl _ _ rfl cs rfl ?_; intro w1 f1 hlt1 hb1; have E1 := hid ((Ev.refl HH.out).new f1 (Res.On.blk hb1) (fun b hb => by simp [Res.blk] at hb; omega)); have k0 : w1.cell? ⟨w.heap.size, 0, none⟩ = some (.int .i64 0) := (hb1.cell 0).trans c0; have k3 : w1.cell? ⟨w.heap.size, 3, none⟩ = some (.int .u8 (cv.toNat : Int)) := (hb1.cell 3).trans c3; clear hb1 f1 hlt1; simp only [World.size_alloc, World.size_drew, Act.put, List.setIfInBounds_toArray, List.set_cons_succ, List.set_cons_zero])
          | (go_at_call 18; refine (HF.out _).mono ?_; rintro e w2 ⟨rfl, f2⟩; have E2 := hid (show Ev w (lb ++ mirC pbs m d FF M ++ mirX qbs y db ib x GG M) w2 ((Res.blk w.heap.size cs :: lb) ++ mirC pbs m d FF M ++ mirX qbs y db ib x GG M) from E1.out.step f2); have j0 : w2.cell? ⟨w.heap.size, 0, none⟩ = some (.int .i64 0) := ((E2.out.held.blkAt 0 rfl).cell 0).trans c0; have j4 := ((E2.out.held.blkAt 0 rfl).cell 4).trans c4; have j1 : w2.cell? ⟨w.heap.size, 1, none⟩ = some (.int .i64 iv) := ((E2.out.held.blkAt 0 rfl).cell 1).trans c1; clear f2 E1 HF))
        refine wp_region_D (fun _ => True) false [] (by kernel_rfl) ?_
        refine WD.pure [0, 1, 2, 3, 4, 5, 6, 7] (by kernel_rfl) trivial ?_
        simp only [pick, List.toList_toArray, List.map_cons, List.map_nil, List.getD_cons_succ, List.getD_cons_zero]
        repeat (first | go_big_quiet_step (fail))
        refine wpQuiet_nil ?_
        refine WD.free [9, 10, 12] (by kernel_rfl) trivial ?_
        simp only [pick, List.toList_toArray, List.map_cons, List.map_nil, List.getD_cons_succ, List.getD_cons_zero]
        repeat (first | go_big_quiet_step (fail))
        refine wpQuiet_nil ?_
        refine WD.held [11] (by kernel_rfl) trivial ?_
        simp only [pick, List.toList_toArray, List.map_cons, List.map_nil, List.getD_cons_succ, List.getD_cons_zero]
        repeat (first | go_big_quiet_step (fail))
        refine wpQuiet_nil ?_
        refine WD.eff 8 (by kernel_rfl) ?_
        simp only [pick, List.toList_toArray, List.map_cons, List.map_nil, List.getD_cons_succ, List.getD_cons_zero]
        go_wp2_with fail
        try refine wpList_nil ?_
        refine AfterD.on trivial (by kernel_rfl) ?_
        try simp only [World.size_alloc, World.size_drew, Act.put, List.setIfInBounds_toArray, List.set_cons_succ, List.set_cons_zero]
        refine WD.eff 13 (by kernel_rfl) ?_
        simp only [pick, List.toList_toArray, List.map_cons, List.map_nil, List.getD_cons_succ, List.getD_cons_zero]
        go_wp2_with fail
        try refine wpList_nil ?_
        refine AfterD.on trivial (by kernel_rfl) ?_
        try simp only [World.size_alloc, World.size_drew, Act.put, List.setIfInBounds_toArray, List.set_cons_succ, List.set_cons_zero]
        refine WD.pure [14, 15, 16] (by kernel_rfl) trivial ?_
        simp only [pick, List.toList_toArray, List.map_cons, List.map_nil, List.getD_cons_succ, List.getD_cons_zero]
        repeat (first | go_big_quiet_step (fail))
        refine wpQuiet_nil ?_
        refine WD.done (by kernel_rfl) ?_
        go_wp2_with fail
        go_ret
        exact ⟨rfl, FF, GG, Ev.less [] _ (E2.out.step (Fr.refl [] w2).drew)⟩
      · rw [if_neg hbg]
        have hg1 : decide (2000 < (tx).size) = false := by simpa using hbg
        have hg2 : decide ((2000 : Int) < ((tx).size : Int)) = false := by simp; omega
        have HA := hid fun (w1 : World) (FF2 : Bool → List Nat) (h1 : Held w1 ([] ++ mirC pbs m d FF2 M)) => mwrite_any h1 OK.out (by have := HT.out; omega) iv (tx) (by omega)
        have HB := hid fun (w1 : World) (FF2 : Bool → List Nat) (h1 : Held w1 ([] ++ mirX qbs y db ib x FF2 M)) => pwrite_any h1 OK.out (by have := HT.out; omega) iv (tx) (by omega)
        generalize M.wrM iv (tx) = M2 at *
        generalize M.wrE iv (tx) = e2 at *
        clear hbg
        go_enter Tryz.func16, Tryz.ntmps16
        go_wp2_with (first
          | (refine wpList_box rfl _ _ rfl cs rfl ?_; intro w1 f1 hlt1 hb1; have E1 := hid ((Ev.refl HH.out).new f1 (Res.On.blk hb1) (fun b hb => by simp [Res.blk] at hb; omega)); have k0 : w1.cell? ⟨w.heap.size, 0, none⟩ = some (.int .i64 0) := (hb1.cell 0).trans c0; have k3 : w1.cell? ⟨w.heap.size, 3, none⟩ = some (.int .u8 (cv.toNat : Int)) := (hb1.cell 3).trans c3; clear hb1 f1 hlt1; simp only [World.size_alloc, World.size_drew, Act.put, List.setIfInBounds_toArray, List.set_cons_succ, List.set_cons_zero])
          | (go_at_call 18; refine (HF.out _).mono ?_; rintro e w2 ⟨rfl, f2⟩; have E2 := hid (show Ev w (lb ++ mirC pbs m d FF M ++ mirX qbs y db ib x GG M) w2 ((Res.blk w.heap.size cs :: lb) ++ mirC pbs m d FF M ++ mirX qbs y db ib x GG M) from E1.out.step f2); have j0 : w2.cell? ⟨w.heap.size, 0, none⟩ = some (.int .i64 0) := ((E2.out.held.blkAt 0 rfl).cell 0).trans c0; have j4 := ((E2.out.held.blkAt 0 rfl).cell 4).trans c4; have j1 : w2.cell? ⟨w.heap.size, 1, none⟩ = some (.int .i64 iv) := ((E2.out.held.blkAt 0 rfl).cell 1).trans c1; clear f2 E1 HF))
        have E2d := hid (E2.out.step (Fr.refl [] w2).drew)
        have bx := E2d.out.held.blkAt 0 rfl
        have ji : w2.drew.cell? ⟨w.heap.size, 1, none⟩ = some (.int .i64 iv) := (bx.cell 1).trans c1
        refine wp_region_D (fun w' => w'.cell? ⟨w.heap.size, 1, none⟩ = some (.int .i64 iv)) false [] (by kernel_rfl) ?_
        refine WD.pure [0, 1, 2, 3, 4, 5, 6, 7] (by kernel_rfl) ji ?_
        simp only [pick, List.toList_toArray, List.map_cons, List.map_nil, List.getD_cons_succ, List.getD_cons_zero]
        repeat (first | (refine quiet_load_1R (by rfl) _ _ rfl rfl (.int .i64 iv) (fun wq h => by first|exact h|(rw [h];exact ji)) _ Tryz.underlying3 rfl ?_; simp only [World.size_alloc, World.size_drew, Act.put, List.setIfInBounds_toArray, List.set_cons_succ, List.set_cons_zero]) | go_big_quiet_step (fail))
        refine wpQuiet_nil ?_
        refine WD.free [9, 10, 12] (by kernel_rfl) ji ?_
        simp only [pick, List.toList_toArray, List.map_cons, List.map_nil, List.getD_cons_succ, List.getD_cons_zero]
        repeat (first | (refine quiet_load_1R (by rfl) _ _ rfl rfl (.int .i64 iv) (fun wq h => by first|exact h|(rw [h];exact ji)) _ Tryz.underlying3 rfl ?_; simp only [World.size_alloc, World.size_drew, Act.put, List.setIfInBounds_toArray, List.set_cons_succ, List.set_cons_zero]) | go_big_quiet_step (fail))
        refine wpQuiet_nil ?_
        refine WD.held [11] (by kernel_rfl) ji ?_
        simp only [pick, List.toList_toArray, List.map_cons, List.map_nil, List.getD_cons_succ, List.getD_cons_zero]
        repeat (first | (refine quiet_load_1R (by rfl) _ _ rfl rfl (.int .i64 iv) (fun wq h => by first|exact h|(rw [h];exact ji)) _ Tryz.underlying3 rfl ?_; simp only [World.size_alloc, World.size_drew, Act.put, List.setIfInBounds_toArray, List.set_cons_succ, List.set_cons_zero]) | go_big_quiet_step (fail))
        refine wpQuiet_nil ?_
        refine WD.eff 8 (by kernel_rfl) ?_
        simp only [pick, List.toList_toArray, List.map_cons, List.map_nil, List.getD_cons_succ, List.getD_cons_zero]
        go_wp2_with (go_at_call 17; refine (HA.out _ _ (thr_hc E2d.out.held)).mono ?_; rintro e w3 ⟨rfl, FF3, v3⟩; have E3 := hid (thr_c E2d.out v3); have jj : w3.cell? ⟨w.heap.size, 1, none⟩ = some (.int .i64 iv) := ((E3.out.held.blkAt 0 rfl).cell 1).trans c1; clear v3 HA)
        try refine wpList_nil ?_
        refine AfterD.on jj (by kernel_rfl) ?_
        try simp only [World.size_alloc, World.size_drew, Act.put, List.setIfInBounds_toArray, List.set_cons_succ, List.set_cons_zero]
        refine WD.eff 13 (by kernel_rfl) ?_
        simp only [pick, List.toList_toArray, List.map_cons, List.map_nil, List.getD_cons_succ, List.getD_cons_zero]
        go_wp2_with (go_at_call 52; refine (HB.out _ _ (thr_hd E3.out.held)).mono ?_; rintro e w4 ⟨rfl, GG4, v4⟩; have E4 := hid (thr_d E3.out v4); have jk : w4.cell? ⟨w.heap.size, 1, none⟩ = some (.int .i64 iv) := ((E4.out.held.blkAt 0 rfl).cell 1).trans c1; clear v4 HB)
        try refine wpList_nil ?_
        refine AfterD.on jk (by kernel_rfl) ?_
        try simp only [World.size_alloc, World.size_drew, Act.put, List.setIfInBounds_toArray, List.set_cons_succ, List.set_cons_zero]
        refine WD.pure [14, 15, 16] (by kernel_rfl) jk ?_
        simp only [pick, List.toList_toArray, List.map_cons, List.map_nil, List.getD_cons_succ, List.getD_cons_zero]
        repeat (first | (refine quiet_load_1R (by rfl) _ _ rfl rfl (.int .i64 iv) (fun wq h => by first|exact h|(rw [h];exact ji)) _ Tryz.underlying3 rfl ?_; simp only [World.size_alloc, World.size_drew, Act.put, List.setIfInBounds_toArray, List.set_cons_succ, List.set_cons_zero]) | go_big_quiet_step (fail))
        refine wpQuiet_nil ?_
        refine WD.done (by kernel_rfl) ?_
        go_wp2_with fail
        go_ret
        exact ⟨by simp, FF3, GG4, Ev.less [] _ E4.out⟩
    · rw [if_neg d0]
      have u0 : (dov == 0) = false := by simpa using d0
      by_cases d1 : dov = 1
      · subst d1
        rw [if_pos rfl]
        have HA := hid fun (w1 : World) (FF2 : Bool → List Nat) (h1 : Held w1 ([] ++ mirC pbs m d FF2 M)) => mread_any h1 OK.out (by have := HT.out; omega) iv
        have HB := hid fun (w1 : World) (FF2 : Bool → List Nat) (h1 : Held w1 ([] ++ mirX qbs y db ib x FF2 M)) => pread_any h1 OK.out (by have := HT.out; omega) iv
        generalize M.rd iv = R at *
        obtain ⟨M2, sr, er⟩ := R
        simp only at HA HB ⊢
        go_enter Tryz.func16, Tryz.ntmps16
        go_wp2_with (first
          | (refine wpList_box rfl _ _ rfl cs rfl ?_; intro w1 f1 hlt1 hb1; have E1 := hid ((Ev.refl HH.out).new f1 (Res.On.blk hb1) (fun b hb => by simp [Res.blk] at hb; omega)); have k0 : w1.cell? ⟨w.heap.size, 0, none⟩ = some (.int .i64 1) := (hb1.cell 0).trans c0; have k3 : w1.cell? ⟨w.heap.size, 3, none⟩ = some (.int .u8 (cv.toNat : Int)) := (hb1.cell 3).trans c3; clear hb1 f1 hlt1; simp only [World.size_alloc, World.size_drew, Act.put, List.setIfInBounds_toArray, List.set_cons_succ, List.set_cons_zero])
          | (go_at_call 18; refine (HF.out _).mono ?_; rintro e w2 ⟨rfl, f2⟩; have E2 := hid (show Ev w (lb ++ mirC pbs m d FF M ++ mirX qbs y db ib x GG M) w2 ((Res.blk w.heap.size cs :: lb) ++ mirC pbs m d FF M ++ mirX qbs y db ib x GG M) from E1.out.step f2); have j0 : w2.cell? ⟨w.heap.size, 0, none⟩ = some (.int .i64 1) := ((E2.out.held.blkAt 0 rfl).cell 0).trans c0; have j4 := ((E2.out.held.blkAt 0 rfl).cell 4).trans c4; have j1 : w2.cell? ⟨w.heap.size, 1, none⟩ = some (.int .i64 iv) := ((E2.out.held.blkAt 0 rfl).cell 1).trans c1; clear f2 E1 HF)
          | (go_at_call 21; refine (HA.out _ _ (thr_hc E2.out.held)).mono ?_; rintro e w3 ⟨rfl, FF3, v3⟩; have E3 := hid (thr_c E2.out v3); have q1 : w3.cell? ⟨w.heap.size, 1, none⟩ = some (.int .i64 iv) := ((E3.out.held.blkAt 0 rfl).cell 1).trans c1; clear v3 E2 HA)
          | (go_at_call 53; refine (HB.out _ _ (thr_hd E3.out.held)).mono ?_; rintro e w4 ⟨rfl, GG4, v4⟩; have E4 := hid (thr_d E3.out v4); clear v4 E3 HB))
        go_ret
        exact ⟨by simp, FF3, GG4, Ev.less [] _ E4.out⟩
      · rw [if_neg d1]
        have u1 : (dov == 1) = false := by simpa using d1
        by_cases d2 : dov = 2
        · subst d2
          rw [if_pos rfl]
          have HA := hid fun (w1 : World) (FF2 : Bool → List Nat) (h1 : Held w1 ([] ++ mirC pbs m d FF2 M)) => mother_any h1 OK.out (by have := HT.out; omega) iv
          have HB := hid fun (w1 : World) (FF2 : Bool → List Nat) (h1 : Held w1 ([] ++ mirX qbs y db ib x FF2 M)) => pother_any h1 OK.out (by have := HT.out; omega) iv
          generalize M.ot iv = R at *
          obtain ⟨M2, sr, er⟩ := R
          simp only at HA HB ⊢
          go_enter Tryz.func16, Tryz.ntmps16
          go_wp2_with (first
            | (refine wpList_box rfl _ _ rfl cs rfl ?_; intro w1 f1 hlt1 hb1; have E1 := hid ((Ev.refl HH.out).new f1 (Res.On.blk hb1) (fun b hb => by simp [Res.blk] at hb; omega)); have k0 : w1.cell? ⟨w.heap.size, 0, none⟩ = some (.int .i64 2) := (hb1.cell 0).trans c0; have k3 : w1.cell? ⟨w.heap.size, 3, none⟩ = some (.int .u8 (cv.toNat : Int)) := (hb1.cell 3).trans c3; clear hb1 f1 hlt1; simp only [World.size_alloc, World.size_drew, Act.put, List.setIfInBounds_toArray, List.set_cons_succ, List.set_cons_zero])
            | (go_at_call 18; refine (HF.out _).mono ?_; rintro e w2 ⟨rfl, f2⟩; have E2 := hid (show Ev w (lb ++ mirC pbs m d FF M ++ mirX qbs y db ib x GG M) w2 ((Res.blk w.heap.size cs :: lb) ++ mirC pbs m d FF M ++ mirX qbs y db ib x GG M) from E1.out.step f2); have j0 : w2.cell? ⟨w.heap.size, 0, none⟩ = some (.int .i64 2) := ((E2.out.held.blkAt 0 rfl).cell 0).trans c0; have j4 := ((E2.out.held.blkAt 0 rfl).cell 4).trans c4; have j1 : w2.cell? ⟨w.heap.size, 1, none⟩ = some (.int .i64 iv) := ((E2.out.held.blkAt 0 rfl).cell 1).trans c1; clear f2 E1 HF)
            | (go_at_call 54; refine (HA.out _ _ (thr_hc E2.out.held)).mono ?_; rintro e w3 ⟨rfl, FF3, v3⟩; have E3 := hid (thr_c E2.out v3); have q1 : w3.cell? ⟨w.heap.size, 1, none⟩ = some (.int .i64 iv) := ((E3.out.held.blkAt 0 rfl).cell 1).trans c1; clear v3 E2 HA)
            | (go_at_call 55; refine (HB.out _ _ (thr_hd E3.out.held)).mono ?_; rintro e w4 ⟨rfl, GG4, v4⟩; have E4 := hid (thr_d E3.out v4); clear v4 E3 HB))
          go_ret
          exact ⟨by simp, FF3, GG4, Ev.less [] _ E4.out⟩
        · rw [if_neg d2]
          have u2 : (dov == 2) = false := by simpa using d2
          by_cases d3 : dov = 3
          · subst d3
            rw [if_pos rfl]
            have HA := hid fun (w1 : World) (FF2 : Bool → List Nat) (h1 : Held w1 ([] ++ mirC pbs m d FF2 M)) => mflush_any h1 OK.out (by have := HT.out; omega)
            have HB := hid fun (w1 : World) (FF2 : Bool → List Nat) (h1 : Held w1 ([] ++ mirX qbs y db ib x FF2 M)) => pflush_any h1 OK.out (by have := HT.out; omega)
            generalize M.flushM = M2 at *
            generalize M.flushC = e2 at *
            go_enter Tryz.func16, Tryz.ntmps16
            go_wp2_with (first
              | (refine wpList_box rfl _ _ rfl cs rfl ?_; intro w1 f1 hlt1 hb1; have E1 := hid ((Ev.refl HH.out).new f1 (Res.On.blk hb1) (fun b hb => by simp [Res.blk] at hb; omega)); have k0 : w1.cell? ⟨w.heap.size, 0, none⟩ = some (.int .i64 3) := (hb1.cell 0).trans c0; have k3 : w1.cell? ⟨w.heap.size, 3, none⟩ = some (.int .u8 (cv.toNat : Int)) := (hb1.cell 3).trans c3; clear hb1 f1 hlt1; simp only [World.size_alloc, World.size_drew, Act.put, List.setIfInBounds_toArray, List.set_cons_succ, List.set_cons_zero])
              | (go_at_call 18; refine (HF.out _).mono ?_; rintro e w2 ⟨rfl, f2⟩; have E2 := hid (show Ev w (lb ++ mirC pbs m d FF M ++ mirX qbs y db ib x GG M) w2 ((Res.blk w.heap.size cs :: lb) ++ mirC pbs m d FF M ++ mirX qbs y db ib x GG M) from E1.out.step f2); have j0 : w2.cell? ⟨w.heap.size, 0, none⟩ = some (.int .i64 3) := ((E2.out.held.blkAt 0 rfl).cell 0).trans c0; have j4 := ((E2.out.held.blkAt 0 rfl).cell 4).trans c4; have j1 : w2.cell? ⟨w.heap.size, 1, none⟩ = some (.int .i64 iv) := ((E2.out.held.blkAt 0 rfl).cell 1).trans c1; clear f2 E1 HF)
              | (go_at_call 19; refine (HA.out _ _ (thr_hc E2.out.held)).mono ?_; rintro e w3 ⟨rfl, FF3, v3⟩; have E3 := hid (thr_c E2.out v3); have q1 : w3.cell? ⟨w.heap.size, 1, none⟩ = some (.int .i64 iv) := ((E3.out.held.blkAt 0 rfl).cell 1).trans c1; clear v3 E2 HA)
              | (go_at_call 56; refine (HB.out _ _ (thr_hd E3.out.held)).mono ?_; rintro e w4 ⟨rfl, GG4, v4⟩; have E4 := hid (thr_d E3.out v4); clear v4 E3 HB))
            go_ret
            exact ⟨by simp, FF3, GG4, Ev.less [] _ E4.out⟩
          · rw [if_neg d3]
            have u3 : (dov == 3) = false := by simpa using d3
            have HA := hid fun (w1 : World) (FF2 : Bool → List Nat) (h1 : Held w1 ([] ++ mirC pbs m d FF2 M)) => mresync_any h1 OK.out HT.out
            have HB := hid fun (w1 : World) (FF2 : Bool → List Nat) (h1 : Held w1 ([] ++ mirX qbs y db ib x FF2 M)) => presync_any h1 OK.out HT.out
            generalize M.rs = R at *
            obtain ⟨M2, nr, er⟩ := R
            simp only at HA HB ⊢
            go_enter Tryz.func16, Tryz.ntmps16
            go_wp2_with (first
              | (refine wpList_box rfl _ _ rfl cs rfl ?_; intro w1 f1 hlt1 hb1; have E1 := hid ((Ev.refl HH.out).new f1 (Res.On.blk hb1) (fun b hb => by simp [Res.blk] at hb; omega)); have k0 : w1.cell? ⟨w.heap.size, 0, none⟩ = some (.int .i64 dov) := (hb1.cell 0).trans c0; have k3 : w1.cell? ⟨w.heap.size, 3, none⟩ = some (.int .u8 (cv.toNat : Int)) := (hb1.cell 3).trans c3; clear hb1 f1 hlt1; simp only [World.size_alloc, World.size_drew, Act.put, List.setIfInBounds_toArray, List.set_cons_succ, List.set_cons_zero])
              | (go_at_call 18; refine (HF.out _).mono ?_; rintro e w2 ⟨rfl, f2⟩; have E2 := hid (show Ev w (lb ++ mirC pbs m d FF M ++ mirX qbs y db ib x GG M) w2 ((Res.blk w.heap.size cs :: lb) ++ mirC pbs m d FF M ++ mirX qbs y db ib x GG M) from E1.out.step f2); have j0 : w2.cell? ⟨w.heap.size, 0, none⟩ = some (.int .i64 dov) := ((E2.out.held.blkAt 0 rfl).cell 0).trans c0; have j4 := ((E2.out.held.blkAt 0 rfl).cell 4).trans c4; have j1 : w2.cell? ⟨w.heap.size, 1, none⟩ = some (.int .i64 iv) := ((E2.out.held.blkAt 0 rfl).cell 1).trans c1; clear f2 E1 HF)
              | (go_at_call 57; refine (HA.out _ _ (thr_hc E2.out.held)).mono ?_; rintro e w3 ⟨rfl, FF3, v3⟩; have E3 := hid (thr_c E2.out v3); have q1 : w3.cell? ⟨w.heap.size, 1, none⟩ = some (.int .i64 iv) := ((E3.out.held.blkAt 0 rfl).cell 1).trans c1; clear v3 E2 HA)
              | (go_at_call 58; refine (HB.out _ _ (thr_hd E3.out.held)).mono ?_; rintro e w4 ⟨rfl, GG4, v4⟩; have E4 := hid (thr_d E3.out v4); clear v4 E3 HB))
            go_ret
            exact ⟨by simp, FF3, GG4, Ev.less [] _ E4.out⟩
end
end Go.Proofs.YtjgagcpmoffldaaGreat
