/- Layer 21, record: a record read, the program's and the document's. -/
import Derived.Test.YtneoagelcjfanaaGreatDoorRecI
namespace Go.Proofs.YtneoagelcjfanaaGreatDoor.rcd
open Go Go.Xr Go.RowKit
set_option linter.unusedVariables false
set_option linter.unusedSimpArgs false
attribute [local go_sem] eqgA eqgB eql_u64 eql_u64_c neq_u64 neq_u64_c add_u64_c
/-- Whether a record is the next one; what it holds. -/
def recP (c m label R : ByteArray) : ByteArray := openR c m label R
def recOk (c m label : ByteArray) (nx : UInt64) (R : ByteArray) : Bool := openB c m label R && (decide (unpE (recP c m label R) = 0) && (decide (rdN R.data.toList 8 = nx) && decide (((recP c m label R).size : Int) = clsI ((unpT (recP c m label R)).size : Int))))
def recT (c m label R : ByteArray) : ByteArray := unpT (recP c m label R)
theorem openB_size {c m label R : ByteArray} (h : openB c m label R = true) : 40 ≤ R.size ∧ R.size ≤ 1048616 := by
  simp only [openB, Bool.and_eq_true, decide_eq_true_eq] at h
  exact ⟨h.2.1, h.2.2.1⟩
theorem trnS_size (c nn s : ByteArray) : (trnS c nn s).size = s.size := by
  unfold trnS
  rw [size_mk', trnL_len, ba_len]
theorem recP_size (c m label R : ByteArray) : (recP c m label R).size ≤ 1048576 := by
  unfold recP openR
  split
  · rename_i h
    have := openB_size h
    rw [trnS_size]
    simp
    omega
  · decide
theorem unpT_le (s : ByteArray) : (unpT s).size ≤ s.size := by
  unfold unpT
  split
  · simp
    omega
  · exact Nat.zero_le _

set_option maxRecDepth 20000 in
set_option maxHeartbeats 1000000 in
theorem read_ok {w : World} {p : Nat} {c m label : ByteArray} {nx : UInt64} {cl : Bool} (R : ByteArray) (h : Blk w p (opL c m label nx cl)) (hk : mayS c m = true) (hR : R.size ≤ 9223372036854775807) (hl : label.size < 1099500000000) : Calls Tryz.prog 58 #[.pointer (some ⟨p, 0, none⟩), .string R] w fun e w' => (∃ t, e = .returned (.tuple #[.string t, .bool (recOk c m label nx R)]) ∧ (recOk c m label nx R = true → t = recT c m label R)) ∧ Fr [] w w' := by
  have hcm : c.size = 16 ∧ m.size = 32 := by simpa [mayS] using hk
  have Ho := hid fun w0 : World => open_any (w := w0) c m label R (by omega) (by omega) hR hl
  have hPs := recP_size c m label R
  have hE : openE c m label R = if openB c m label R then 0 else 7 := by simp [openE, hk]
  have hb := h.drew
  have hpd : w.drew.cell? ⟨p, 2, none⟩ = some (.string label) := hb.cell 2
  have Hu := hid fun w0 : World => unpad_any (w := w0) (recP c m label R) (by omega)
  have hTs : (unpT (recP c m label R)).size ≤ 1048576 := Nat.le_trans (unpT_le _) hPs
  have Hc := hid fun w0 : World => class_any (w := w0) ((unpT (recP c m label R)).size : Int) (by omega) (by omega)
  have Hrd := hid fun (w0 : World) (hq : openB c m label R = true) => read_any (w := w0) R (openB_size hq).1 hR
  rw [hE] at Ho
  rw [show openR c m label R = recP c m label R from rfl] at Ho
  have hOk : recOk c m label nx R = (openB c m label R && (decide (unpE (recP c m label R) = 0) && (decide (rdN R.data.toList 8 = nx) && decide (((recP c m label R).size : Int) = clsI ((unpT (recP c m label R)).size : Int))))) := rfl
  have hTT : recT c m label R = unpT (recP c m label R) := rfl
  obtain ⟨P, hP⟩ : ∃ P, recP c m label R = P := ⟨_, rfl⟩
  rw [hP] at Ho Hu Hc hOk hTs hTT hPs
  obtain ⟨T, hT⟩ : ∃ T, unpT P = T := ⟨_, rfl⟩
  obtain ⟨e0, he0⟩ : ∃ e0, unpE P = e0 := ⟨_, rfl⟩
  rw [hT, he0] at Hu
  rw [hT] at Hc hOk hTs hTT
  rw [he0] at hOk
  obtain ⟨n, hn⟩ : ∃ n, rdN R.data.toList 8 = n := ⟨_, rfl⟩
  rw [hn] at Hrd hOk
  obtain ⟨k, hkk⟩ : ∃ k, clsI (T.size : Int) = k := ⟨_, rfl⟩
  rw [hkk] at Hc hOk
  clear hcm hE hk hP hT he0 hn hkk
  cases hob : openB c m label R
  case false =>
    have HOk := hid (show recOk c m label nx R = false by rw [hOk, hob]; rfl)
    rw [hob] at Ho
    simp only [Bool.false_eq_true, if_false] at Ho
    clear hob hOk
    go_enter Tryz.func58, Tryz.ntmps58
    go_wp2_with fail
    refine wp_region_D (fun _ => True) false [] (by kernel_rfl) ?_
    refine WD.pure [0, 1, 2, 3, 4, 5, 6, 7, 8, 9, 10] (by kernel_rfl) trivial ?_
    simp only [pick, List.toList_toArray, List.map_cons, List.map_nil, List.getD_cons_succ, List.getD_cons_zero]
    repeat (first | (refine quiet_load_aggW (by rfl) _ _ rfl rfl [.string c, .string m] (fun _ h => by cases h; exact hb) _ Tryz.underlying45 rfl keyT2 rfl ?_; simp only [World.size_alloc, World.size_drew, Act.put, List.setIfInBounds_toArray, List.set_cons_succ, List.set_cons_zero]) | go_big_quiet_step (fail))
    refine wpQuiet_nil ?_
    refine WD.eff 11 (by kernel_rfl) ?_
    simp only [pick, List.toList_toArray, List.map_cons, List.map_nil, List.getD_cons_succ, List.getD_cons_zero]
    go_wp2_with fail
    refine (Ho.out _).mono ?_
    rintro e w2 ⟨rfl, f2⟩
    go_wp2_with fail
    try refine wpList_nil ?_
    refine AfterD.on trivial (by kernel_rfl) ?_
    try simp only [World.size_alloc, World.size_drew, Act.put, List.setIfInBounds_toArray, List.set_cons_succ, List.set_cons_zero]
    refine WD.pure [12, 13, 14, 15, 16] (by kernel_rfl) trivial ?_
    simp only [pick, List.toList_toArray, List.map_cons, List.map_nil, List.getD_cons_succ, List.getD_cons_zero]
    repeat (first | (refine quiet_load_aggW (by rfl) _ _ rfl rfl [.string c, .string m] (fun _ h => by cases h; exact hb) _ Tryz.underlying45 rfl keyT2 rfl ?_; simp only [World.size_alloc, World.size_drew, Act.put, List.setIfInBounds_toArray, List.set_cons_succ, List.set_cons_zero]) | go_big_quiet_step (fail))
    refine wpQuiet_nil ?_
    refine WD.done (by kernel_rfl) ?_
    go_wp2_with fail
    go_ret2
    rw [HOk.out]
    exact ⟨⟨_, rfl, fun h => by cases h⟩, ((Fr.refl [] w).drew).trans' f2⟩
  case true =>
    rw [hob] at Ho hOk
    simp only [if_true] at Ho
    have Hrd2 := hid fun w0 : World => Hrd.out w0 hob
    clear hob Hrd
    rw [Bool.true_and] at hOk
    by_cases h1 : e0 = 0
    case neg =>
      have hd1 : (e0 == 0) = false := by simpa using h1
      have HOk := hid (show recOk c m label nx R = false by rw [hOk]; simp [h1])
      clear hOk h1
      go_enter Tryz.func58, Tryz.ntmps58
      go_wp2_with fail
      refine wp_region_D (fun _ => True) false [] (by kernel_rfl) ?_
      refine WD.pure [0, 1, 2, 3, 4, 5, 6, 7, 8, 9, 10] (by kernel_rfl) trivial ?_
      simp only [pick, List.toList_toArray, List.map_cons, List.map_nil, List.getD_cons_succ, List.getD_cons_zero]
      repeat (first | (refine quiet_load_aggW (by rfl) _ _ rfl rfl [.string c, .string m] (fun _ h => by cases h; exact hb) _ Tryz.underlying45 rfl keyT2 rfl ?_; simp only [World.size_alloc, World.size_drew, Act.put, List.setIfInBounds_toArray, List.set_cons_succ, List.set_cons_zero]) | go_big_quiet_step (fail))
      refine wpQuiet_nil ?_
      refine WD.eff 11 (by kernel_rfl) ?_
      simp only [pick, List.toList_toArray, List.map_cons, List.map_nil, List.getD_cons_succ, List.getD_cons_zero]
      go_wp2_with fail
      refine (Ho.out _).mono ?_
      rintro e w2 ⟨rfl, f2⟩
      go_wp2_with fail
      try refine wpList_nil ?_
      refine AfterD.on trivial (by kernel_rfl) ?_
      try simp only [World.size_alloc, World.size_drew, Act.put, List.setIfInBounds_toArray, List.set_cons_succ, List.set_cons_zero]
      refine WD.pure [12, 13, 14, 15, 16] (by kernel_rfl) trivial ?_
      simp only [pick, List.toList_toArray, List.map_cons, List.map_nil, List.getD_cons_succ, List.getD_cons_zero]
      repeat (first | (refine quiet_load_aggW (by rfl) _ _ rfl rfl [.string c, .string m] (fun _ h => by cases h; exact hb) _ Tryz.underlying45 rfl keyT2 rfl ?_; simp only [World.size_alloc, World.size_drew, Act.put, List.setIfInBounds_toArray, List.set_cons_succ, List.set_cons_zero]) | go_big_quiet_step (fail))
      refine wpQuiet_nil ?_
      refine WD.done (by kernel_rfl) ?_
      go_wp2_with fail
      refine (Hrd2.out _).mono ?_
      rintro e w3 ⟨rfl, f3⟩
      go_wp2_with fail
      refine (Hu.out _).mono ?_
      rintro e w4 ⟨rfl, f4⟩
      have g4 : Fr [] w w4 := ((((Fr.refl [] w).drew).trans' f2).trans' f3).trans' f4
      have k3 : w4.cell? ⟨p, 3, none⟩ = some (W64 nx) := (((f2.trans' f3).trans' f4).blk hb (by simp)).cell 3
      clear f2 f3 f4
      go_wp2_with fail
      go_ret2
      rw [HOk.out]
      exact ⟨⟨_, rfl, fun h => by cases h⟩, g4⟩
    case pos =>
      have hd1 : (e0 == 0) = true := by simpa using h1
      by_cases h2 : n = nx
      case neg =>
        have hd2 : (n == nx) = false := by simpa using h2
        have HOk := hid (show recOk c m label nx R = false by rw [hOk]; simp [h2])
        clear hOk h1 h2
        go_enter Tryz.func58, Tryz.ntmps58
        go_wp2_with fail
        refine wp_region_D (fun _ => True) false [] (by kernel_rfl) ?_
        refine WD.pure [0, 1, 2, 3, 4, 5, 6, 7, 8, 9, 10] (by kernel_rfl) trivial ?_
        simp only [pick, List.toList_toArray, List.map_cons, List.map_nil, List.getD_cons_succ, List.getD_cons_zero]
        repeat (first | (refine quiet_load_aggW (by rfl) _ _ rfl rfl [.string c, .string m] (fun _ h => by cases h; exact hb) _ Tryz.underlying45 rfl keyT2 rfl ?_; simp only [World.size_alloc, World.size_drew, Act.put, List.setIfInBounds_toArray, List.set_cons_succ, List.set_cons_zero]) | go_big_quiet_step (fail))
        refine wpQuiet_nil ?_
        refine WD.eff 11 (by kernel_rfl) ?_
        simp only [pick, List.toList_toArray, List.map_cons, List.map_nil, List.getD_cons_succ, List.getD_cons_zero]
        go_wp2_with fail
        refine (Ho.out _).mono ?_
        rintro e w2 ⟨rfl, f2⟩
        go_wp2_with fail
        try refine wpList_nil ?_
        refine AfterD.on trivial (by kernel_rfl) ?_
        try simp only [World.size_alloc, World.size_drew, Act.put, List.setIfInBounds_toArray, List.set_cons_succ, List.set_cons_zero]
        refine WD.pure [12, 13, 14, 15, 16] (by kernel_rfl) trivial ?_
        simp only [pick, List.toList_toArray, List.map_cons, List.map_nil, List.getD_cons_succ, List.getD_cons_zero]
        repeat (first | (refine quiet_load_aggW (by rfl) _ _ rfl rfl [.string c, .string m] (fun _ h => by cases h; exact hb) _ Tryz.underlying45 rfl keyT2 rfl ?_; simp only [World.size_alloc, World.size_drew, Act.put, List.setIfInBounds_toArray, List.set_cons_succ, List.set_cons_zero]) | go_big_quiet_step (fail))
        refine wpQuiet_nil ?_
        refine WD.done (by kernel_rfl) ?_
        go_wp2_with fail
        refine (Hrd2.out _).mono ?_
        rintro e w3 ⟨rfl, f3⟩
        go_wp2_with fail
        refine (Hu.out _).mono ?_
        rintro e w4 ⟨rfl, f4⟩
        have g4 : Fr [] w w4 := ((((Fr.refl [] w).drew).trans' f2).trans' f3).trans' f4
        have k3 : w4.cell? ⟨p, 3, none⟩ = some (W64 nx) := (((f2.trans' f3).trans' f4).blk hb (by simp)).cell 3
        clear f2 f3 f4
        go_wp2_with fail
        go_ret2
        rw [HOk.out]
        exact ⟨⟨_, rfl, fun h => by cases h⟩, g4⟩
      case pos =>
        have hd2 : (n == nx) = true := by simpa using h2
        have HOk := hid (show recOk c m label nx R = ((P.size : Int) == k) by rw [hOk, h1, h2, Bool.eq_iff_iff]; simp)
        clear hOk h1 h2
        go_enter Tryz.func58, Tryz.ntmps58
        go_wp2_with fail
        refine wp_region_D (fun _ => True) false [] (by kernel_rfl) ?_
        refine WD.pure [0, 1, 2, 3, 4, 5, 6, 7, 8, 9, 10] (by kernel_rfl) trivial ?_
        simp only [pick, List.toList_toArray, List.map_cons, List.map_nil, List.getD_cons_succ, List.getD_cons_zero]
        repeat (first | (refine quiet_load_aggW (by rfl) _ _ rfl rfl [.string c, .string m] (fun _ h => by cases h; exact hb) _ Tryz.underlying45 rfl keyT2 rfl ?_; simp only [World.size_alloc, World.size_drew, Act.put, List.setIfInBounds_toArray, List.set_cons_succ, List.set_cons_zero]) | go_big_quiet_step (fail))
        refine wpQuiet_nil ?_
        refine WD.eff 11 (by kernel_rfl) ?_
        simp only [pick, List.toList_toArray, List.map_cons, List.map_nil, List.getD_cons_succ, List.getD_cons_zero]
        go_wp2_with fail
        refine (Ho.out _).mono ?_
        rintro e w2 ⟨rfl, f2⟩
        go_wp2_with fail
        try refine wpList_nil ?_
        refine AfterD.on trivial (by kernel_rfl) ?_
        try simp only [World.size_alloc, World.size_drew, Act.put, List.setIfInBounds_toArray, List.set_cons_succ, List.set_cons_zero]
        refine WD.pure [12, 13, 14, 15, 16] (by kernel_rfl) trivial ?_
        simp only [pick, List.toList_toArray, List.map_cons, List.map_nil, List.getD_cons_succ, List.getD_cons_zero]
        repeat (first | (refine quiet_load_aggW (by rfl) _ _ rfl rfl [.string c, .string m] (fun _ h => by cases h; exact hb) _ Tryz.underlying45 rfl keyT2 rfl ?_; simp only [World.size_alloc, World.size_drew, Act.put, List.setIfInBounds_toArray, List.set_cons_succ, List.set_cons_zero]) | go_big_quiet_step (fail))
        refine wpQuiet_nil ?_
        refine WD.done (by kernel_rfl) ?_
        go_wp2_with fail
        refine (Hrd2.out _).mono ?_
        rintro e w3 ⟨rfl, f3⟩
        go_wp2_with fail
        refine (Hu.out _).mono ?_
        rintro e w4 ⟨rfl, f4⟩
        have g4 : Fr [] w w4 := ((((Fr.refl [] w).drew).trans' f2).trans' f3).trans' f4
        have k3 : w4.cell? ⟨p, 3, none⟩ = some (W64 nx) := (((f2.trans' f3).trans' f4).blk hb (by simp)).cell 3
        clear f2 f3 f4
        go_wp2_with fail
        refine (Hc.out _).mono ?_
        rintro e w5 ⟨rfl, f5⟩
        go_wp2_with fail
        go_ret2
        rw [HOk.out]
        exact ⟨⟨_, rfl, fun _ => hTT.symm⟩, g4.trans' f5⟩
end Go.Proofs.YtneoagelcjfanaaGreatDoor.rcd
