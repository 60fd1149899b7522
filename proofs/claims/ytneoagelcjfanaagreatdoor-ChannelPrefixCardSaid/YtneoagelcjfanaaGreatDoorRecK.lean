/- Layer 21, record: a record read, the document's; openers. -/
import Derived.Test.YtneoagelcjfanaaGreatDoorRecJ
namespace Go.Proofs.YtneoagelcjfanaaGreatDoor.rcd
open Go Go.Xr Go.RowKit
set_option linter.unusedVariables false
set_option linter.unusedSimpArgs false
attribute [local go_sem] eqgA eqgB eql_u64 eql_u64_c neq_u64 neq_u64_c add_u64_c
set_option maxRecDepth 20000 in
set_option maxHeartbeats 1000000 in
theorem rreadr_ok {w : World} (c m label : ByteArray) (nx : UInt64) (R : ByteArray) (hk : mayS c m = true) (hR : R.size ≤ 9223372036854775807) (hl : label.size < 1099500000000) : Calls Tryz.prog 59 #[.agg #[.string c, .string m], .string label, W64 nx, .string R] w fun e w' => (∃ t, e = .returned (.tuple #[.string t, .bool (recOk c m label nx R)]) ∧ (recOk c m label nx R = true → t = recT c m label R)) ∧ Fr [] w w' := by
  have hcm : c.size = 16 ∧ m.size = 32 := by simpa [mayS] using hk
  have Ho := hid fun w0 : World => ropen_any (w := w0) c m label R (by omega) (by omega) hR hl
  have hPs := recP_size c m label R
  have hE : openE c m label R = if openB c m label R then 0 else 7 := by simp [openE, hk]
  have Hu := hid fun w0 : World => runpad_any (w := w0) (recP c m label R) (by omega)
  have hTs : (unpT (recP c m label R)).size ≤ 1048576 := Nat.le_trans (unpT_le _) hPs
  have Hc := hid fun w0 : World => rclass_any (w := w0) ((unpT (recP c m label R)).size : Int) (by omega) (by omega)
  have Hrd := hid fun (w0 : World) (hq : openB c m label R = true) => rread_any (w := w0) R (openB_size hq).1 hR
  rw [hE] at Ho
  rw [show openR c m label R = recP c m label R from rfl] at Ho
  have hOk : recOk c m label nx R = (openB c m label R && (decide (unpE (recP c m label R) = 0) && (decide (rdN R.data.toList 8 = nx) && decide (((recP c m label R).size : Int) = clsI ((unpT (recP c m label R)).size : Int))))) := rfl
  have hTT : recT c m label R = unpT (recP c m label R) := rfl
  obtain ⟨P, hP⟩ : ∃ P, recP c m label R = P := ⟨_, rfl⟩
  rw [hP] at Ho Hu Hc hOk hTs hTT hPs
  obtain ⟨T, hT⟩ : ∃ T, unpT P = T := ⟨_, rfl⟩
  obtain ⟨e0, he0⟩ : ∃ e0, unpE P = e0 := ⟨_, rfl⟩
  rw [hT, he0] at Hu
  rw [hT] at Hc hOk hTs hTT
  rw [he0] at hOk
  obtain ⟨n, hn⟩ : ∃ n, rdN R.data.toList 8 = n := ⟨_, rfl⟩
  rw [hn] at Hrd hOk
  obtain ⟨k, hkk⟩ : ∃ k, clsI (T.size : Int) = k := ⟨_, rfl⟩
  rw [hkk] at Hc hOk
  clear hcm hE hk hP hT he0 hn hkk
  cases hob : openB c m label R
  case false =>
    have HOk := hid (show recOk c m label nx R = false by rw [hOk, hob]; rfl)
    rw [hob] at Ho
    simp only [Bool.false_eq_true, if_false] at Ho
    clear hob hOk
    go_enter Tryz.func59, Tryz.ntmps59
    go_wp2_with (refine wpList_box rfl _ _ rfl [.string c, .string m] rfl ?_; intro w1 f1 hlt1 hb1; have k0 := hb1.cell 0; have k1 := hb1.cell 1; simp only [World.size_alloc, World.size_drew, Act.put, List.setIfInBounds_toArray, List.set_cons_succ, List.set_cons_zero])
    refine (Ho.out _).mono ?_
    rintro e w2 ⟨rfl, f2⟩
    go_wp2_with fail
    go_ret2
    rw [HOk.out]
    exact ⟨⟨_, rfl, fun h => by cases h⟩, f1.trans' f2⟩
  case true =>
    rw [hob] at Ho hOk
    simp only [if_true] at Ho
    have Hrd2 := hid fun w0 : World => Hrd.out w0 hob
    clear hob Hrd
    rw [Bool.true_and] at hOk
    by_cases h1 : e0 = 0
    case neg =>
      have hd1 : (e0 != 0) = true := by simpa using h1
      have HOk := hid (show recOk c m label nx R = false by rw [hOk]; simp [h1])
      clear hOk h1
      go_enter Tryz.func59, Tryz.ntmps59
      go_wp2_with (refine wpList_box rfl _ _ rfl [.string c, .string m] rfl ?_; intro w1 f1 hlt1 hb1; have k0 := hb1.cell 0; have k1 := hb1.cell 1; simp only [World.size_alloc, World.size_drew, Act.put, List.setIfInBounds_toArray, List.set_cons_succ, List.set_cons_zero])
      refine (Ho.out _).mono ?_
      rintro e w2 ⟨rfl, f2⟩
      go_wp2_with fail
      refine (Hrd2.out _).mono ?_
      rintro e w3 ⟨rfl, f3⟩
      go_wp2_with fail
      refine (Hu.out _).mono ?_
      rintro e w4 ⟨rfl, f4⟩
      have g4 : Fr [] w w4 := ((f1.trans' f2).trans' f3).trans' f4
      clear f1 f2 f3 f4 k0 k1 hb1
      go_wp2_with fail
      go_ret2
      rw [HOk.out]
      exact ⟨⟨_, rfl, fun h => by cases h⟩, g4⟩
    case pos =>
      have hd1 : (e0 != 0) = false := by simpa using h1
      by_cases h2 : n = nx
      case neg =>
        have hd2 : (n != nx) = true := by simpa using h2
        have HOk := hid (show recOk c m label nx R = false by rw [hOk]; simp [h2])
        clear hOk h1 h2
        go_enter Tryz.func59, Tryz.ntmps59
        go_wp2_with (refine wpList_box rfl _ _ rfl [.string c, .string m] rfl ?_; intro w1 f1 hlt1 hb1; have k0 := hb1.cell 0; have k1 := hb1.cell 1; simp only [World.size_alloc, World.size_drew, Act.put, List.setIfInBounds_toArray, List.set_cons_succ, List.set_cons_zero])
        refine (Ho.out _).mono ?_
        rintro e w2 ⟨rfl, f2⟩
        go_wp2_with fail
        refine (Hrd2.out _).mono ?_
        rintro e w3 ⟨rfl, f3⟩
        go_wp2_with fail
        refine (Hu.out _).mono ?_
        rintro e w4 ⟨rfl, f4⟩
        have g4 : Fr [] w w4 := ((f1.trans' f2).trans' f3).trans' f4
        clear f1 f2 f3 f4 k0 k1 hb1
        go_wp2_with fail
        go_ret2
        rw [HOk.out]
        exact ⟨⟨_, rfl, fun h => by cases h⟩, g4⟩
      case pos =>
        have hd2 : (n != nx) = false := by simpa using h2
        by_cases h3 : (P.size : Int) = k
        case neg =>
          have hd3 : ((P.size : Int) != k) = true := by simpa using h3
          have HOk := hid (show recOk c m label nx R = false by rw [hOk]; simp [h3])
          clear hOk h1 h2 h3
          go_enter Tryz.func59, Tryz.ntmps59
          go_wp2_with (refine wpList_box rfl _ _ rfl [.string c, .string m] rfl ?_; intro w1 f1 hlt1 hb1; have k0 := hb1.cell 0; have k1 := hb1.cell 1; simp only [World.size_alloc, World.size_drew, Act.put, List.setIfInBounds_toArray, List.set_cons_succ, List.set_cons_zero])
          refine (Ho.out _).mono ?_
          rintro e w2 ⟨rfl, f2⟩
          go_wp2_with fail
          refine (Hrd2.out _).mono ?_
          rintro e w3 ⟨rfl, f3⟩
          go_wp2_with fail
          refine (Hu.out _).mono ?_
          rintro e w4 ⟨rfl, f4⟩
          have g4 : Fr [] w w4 := ((f1.trans' f2).trans' f3).trans' f4
          clear f1 f2 f3 f4 k0 k1 hb1
          go_wp2_with fail
          refine (Hc.out _).mono ?_
          rintro e w5 ⟨rfl, f5⟩
          go_wp2_with fail
          go_ret2
          rw [HOk.out]
          exact ⟨⟨_, rfl, fun h => by cases h⟩, g4.trans' f5⟩
        case pos =>
          have hd3 : ((P.size : Int) != k) = false := by simpa using h3
          have HOk := hid (show recOk c m label nx R = true by rw [hOk]; simp [h1, h2, h3])
          clear hOk h1 h2 h3
          go_enter Tryz.func59, Tryz.ntmps59
          go_wp2_with (refine wpList_box rfl _ _ rfl [.string c, .string m] rfl ?_; intro w1 f1 hlt1 hb1; have k0 := hb1.cell 0; have k1 := hb1.cell 1; simp only [World.size_alloc, World.size_drew, Act.put, List.setIfInBounds_toArray, List.set_cons_succ, List.set_cons_zero])
          refine (Ho.out _).mono ?_
          rintro e w2 ⟨rfl, f2⟩
          go_wp2_with fail
          refine (Hrd2.out _).mono ?_
          rintro e w3 ⟨rfl, f3⟩
          go_wp2_with fail
          refine (Hu.out _).mono ?_
          rintro e w4 ⟨rfl, f4⟩
          have g4 : Fr [] w w4 := ((f1.trans' f2).trans' f3).trans' f4
          clear f1 f2 f3 f4 k0 k1 hb1
          go_wp2_with fail
          refine (Hc.out _).mono ?_
          rintro e w5 ⟨rfl, f5⟩
          go_wp2_with fail
          go_ret2
          rw [HOk.out]
          exact ⟨⟨_, rfl, fun _ => hTT.symm⟩, g4.trans' f5⟩

/-- What an opener answers; what it is behind it. -/
def opnT (c m label : ByteArray) (nx : UInt64) (cl : Bool) (R : ByteArray) : ByteArray := if cl then ⟨#[]⟩ else if recOk c m label nx R then recT c m label R else ⟨#[]⟩
def opnE (c m label : ByteArray) (nx : UInt64) (cl : Bool) (R : ByteArray) : Int := if cl then 3 else if recOk c m label nx R then 0 else 7
def opnN (c m label : ByteArray) (nx : UInt64) (cl : Bool) (R : ByteArray) : UInt64 := if cl then nx else if recOk c m label nx R then nx + 1 else nx
def opnC (c m label : ByteArray) (nx : UInt64) (cl : Bool) (R : ByteArray) : Bool := if cl then true else if recOk c m label nx R then false else true

set_option maxRecDepth 20000 in
set_option maxHeartbeats 1000000 in
theorem oopen_any {w : World} {p : Nat} {c m label : ByteArray} {nx : UInt64} {cl : Bool} (R : ByteArray) (h : Blk w p (opL c m label nx cl)) (hk : mayS c m = true) (hR : R.size ≤ 9223372036854775807) (hl : label.size < 1099500000000) : Calls Tryz.prog 35 #[.pointer (some ⟨p, 0, none⟩), .string R] w fun e w' => e = .returned (.tuple #[.string (opnT c m label nx cl R), .int .i64 (opnE c m label nx cl R)]) ∧ Blk w' p (opL c m label (opnN c m label nx cl R) (opnC c m label nx cl R)) ∧ Fr [p] w w' := by
  have k4 : w.cell? ⟨p, 4, none⟩ = some (.bool cl) := h.cell 4
  cases cl
  case true =>
    go_enter Tryz.func35, Tryz.ntmps35
    go_wp2_with fail
    go_ret2
    exact ⟨rfl, h, Fr.refl _ _⟩
  case false =>
    have hpw := h.lt
    have H1 := hid (read_ok R h hk hR hl)
    have H2 := H1
    have k2 : w.cell? ⟨p, 2, none⟩ = some (.string label) := h.cell 2
    have k3 : w.cell? ⟨p, 3, none⟩ = some (W64 nx) := h.cell 3
    have hb := h.drew
    cases hok : recOk c m label nx R
    case false =>
      rw [hok] at H1 H2
      have HT := hid (show opnT c m label nx false R = ⟨#[]⟩ by simp [opnT, hok])
      have HE := hid (show opnE c m label nx false R = 7 by simp [opnE, hok])
      have HN := hid (show opnN c m label nx false R = nx by simp [opnN, hok])
      have HC := hid (show opnC c m label nx false R = true by simp [opnC, hok])
      rw [HT.out, HE.out, HN.out, HC.out]
      clear hok
      go_enter Tryz.func35, Tryz.ntmps35
      go_wp2_with fail
      refine H1.out.mono ?_
      rintro e w2 ⟨⟨t, rfl, ht⟩, f2⟩
      have b2 := f2.blk h (by simp)
      have g2 := f2
      clear f2
      go_wp2_with (refine wpList_put rfl _ _ _ rfl rfl (.bool true) rfl rfl b2 (by simp [opL]) (by kernel_rfl) ?_; intro w5 f5 b5 hs5; simp only [World.size_alloc, World.size_drew, Act.put, List.setIfInBounds_toArray, List.set_cons_succ, List.set_cons_zero])
      go_ret2
      exact ⟨rfl, b5, (g2.mono (by simp)).trans' f5⟩
    case true =>
      rw [hok] at H1 H2
      have HT := hid (show opnT c m label nx false R = recT c m label R by simp [opnT, hok])
      have HE := hid (show opnE c m label nx false R = 0 by simp [opnE, hok])
      have HN := hid (show opnN c m label nx false R = nx + 1 by simp [opnN, hok])
      have HC := hid (show opnC c m label nx false R = false by simp [opnC, hok])
      rw [HT.out, HE.out, HN.out, HC.out]
      clear hok
      go_enter Tryz.func35, Tryz.ntmps35
      go_wp2_with fail
      refine H1.out.mono ?_
      rintro e w2 ⟨⟨t, rfl, ht⟩, f2⟩
      have b2 := f2.blk h (by simp)
      have g2 := f2
      clear f2
      have j3 : w2.cell? ⟨p, 3, none⟩ = some (W64 nx) := b2.cell 3
      go_wp2_with (refine wpList_put rfl _ _ _ rfl rfl (W64 (nx + 1)) (by rw [← c64_1]; rfl) rfl b2 (by simp [opL]) (by kernel_rfl) ?_; intro w5 f5 b5 hs5; simp only [World.size_alloc, World.size_drew, Act.put, List.setIfInBounds_toArray, List.set_cons_succ, List.set_cons_zero])
      go_ret2
      rw [← ht trivial]
      exact ⟨rfl, b5, (g2.mono (by simp)).trans' f5⟩
set_option maxRecDepth 20000 in
set_option maxHeartbeats 1000000 in
theorem roopen_any {w : World} {p : Nat} {c m label : ByteArray} {nx : UInt64} {cl : Bool} (R : ByteArray) (h : Blk w p (opL c m label nx cl)) (hk : mayS c m = true) (hR : R.size ≤ 9223372036854775807) (hl : label.size < 1099500000000) : Calls Tryz.prog 38 #[.pointer (some ⟨p, 0, none⟩), .string R] w fun e w' => e = .returned (.tuple #[.string (opnT c m label nx cl R), .int .i64 (opnE c m label nx cl R)]) ∧ Blk w' p (opL c m label (opnN c m label nx cl R) (opnC c m label nx cl R)) ∧ Fr [p] w w' := by
  have k4 : w.cell? ⟨p, 4, none⟩ = some (.bool cl) := h.cell 4
  cases cl
  case true =>
    go_enter Tryz.func38, Tryz.ntmps38
    go_wp2_with fail
    go_ret2
    exact ⟨rfl, h, Fr.refl _ _⟩
  case false =>
    have hpw := h.lt
    have H1 := hid (read_ok R h hk hR hl)
    have H2 := hid fun w0 : World => rreadr_ok (w := w0) c m label nx R hk hR hl
    have k2 : w.cell? ⟨p, 2, none⟩ = some (.string label) := h.cell 2
    have k3 : w.cell? ⟨p, 3, none⟩ = some (W64 nx) := h.cell 3
    have hb := h.drew
    cases hok : recOk c m label nx R
    case false =>
      rw [hok] at H1 H2
      have HT := hid (show opnT c m label nx false R = ⟨#[]⟩ by simp [opnT, hok])
      have HE := hid (show opnE c m label nx false R = 7 by simp [opnE, hok])
      have HN := hid (show opnN c m label nx false R = nx by simp [opnN, hok])
      have HC := hid (show opnC c m label nx false R = true by simp [opnC, hok])
      rw [HT.out, HE.out, HN.out, HC.out]
      clear hok
      go_enter Tryz.func38, Tryz.ntmps38
      go_wp2_with fail
      refine wp_region_D (fun _ => True) false [] (by kernel_rfl) ?_
      refine WD.pure [0, 1, 2, 3, 4, 5, 6, 7, 8, 9, 10, 11, 12] (by kernel_rfl) trivial ?_
      simp only [pick, List.toList_toArray, List.map_cons, List.map_nil, List.getD_cons_succ, List.getD_cons_zero]
      repeat (first | (refine quiet_load_aggW (by rfl) _ _ rfl rfl [.string c, .string m] (fun _ h => by cases h; exact hb) _ Tryz.underlying45 rfl keyT2 rfl ?_; simp only [World.size_alloc, World.size_drew, Act.put, List.setIfInBounds_toArray, List.set_cons_succ, List.set_cons_zero]) | go_big_quiet_step (fail))
      refine wpQuiet_nil ?_
      refine WD.eff 13 (by kernel_rfl) ?_
      simp only [pick, List.toList_toArray, List.map_cons, List.map_nil, List.getD_cons_succ, List.getD_cons_zero]
      go_wp2_with fail
      refine (H2.out _).mono ?_
      rintro e w2 ⟨⟨t, rfl, ht⟩, f2⟩
      have b2 := f2.blk hb (by simp)
      have g2 := ((Fr.refl [] w).drew).trans' f2
      clear f2
      go_wp2_with fail
      try refine wpList_nil ?_
      refine AfterD.on trivial (by kernel_rfl) ?_
      try simp only [World.size_alloc, World.size_drew, Act.put, List.setIfInBounds_toArray, List.set_cons_succ, List.set_cons_zero]
      refine WD.pure [14, 15, 16, 17, 18] (by kernel_rfl) trivial ?_
      simp only [pick, List.toList_toArray, List.map_cons, List.map_nil, List.getD_cons_succ, List.getD_cons_zero]
      repeat (first | (refine quiet_load_aggW (by rfl) _ _ rfl rfl [.string c, .string m] (fun _ h => by cases h; exact hb) _ Tryz.underlying45 rfl keyT2 rfl ?_; simp only [World.size_alloc, World.size_drew, Act.put, List.setIfInBounds_toArray, List.set_cons_succ, List.set_cons_zero]) | go_big_quiet_step (fail))
      refine wpQuiet_nil ?_
      refine WD.done (by kernel_rfl) ?_
      go_wp2_with (refine wpList_put rfl _ _ _ rfl rfl (.bool true) rfl rfl b2 (by simp [opL]) (by kernel_rfl) ?_; intro w5 f5 b5 hs5; simp only [World.size_alloc, World.size_drew, Act.put, List.setIfInBounds_toArray, List.set_cons_succ, List.set_cons_zero])
      go_ret2
      exact ⟨rfl, b5, (g2.mono (by simp)).trans' f5⟩
    case true =>
      rw [hok] at H1 H2
      have HT := hid (show opnT c m label nx false R = recT c m label R by simp [opnT, hok])
      have HE := hid (show opnE c m label nx false R = 0 by simp [opnE, hok])
      have HN := hid (show opnN c m label nx false R = nx + 1 by simp [opnN, hok])
      have HC := hid (show opnC c m label nx false R = false by simp [opnC, hok])
      rw [HT.out, HE.out, HN.out, HC.out]
      clear hok
      go_enter Tryz.func38, Tryz.ntmps38
      go_wp2_with fail
      refine wp_region_D (fun _ => True) false [] (by kernel_rfl) ?_
      refine WD.pure [0, 1, 2, 3, 4, 5, 6, 7, 8, 9, 10, 11, 12] (by kernel_rfl) trivial ?_
      simp only [pick, List.toList_toArray, List.map_cons, List.map_nil, List.getD_cons_succ, List.getD_cons_zero]
      repeat (first | (refine quiet_load_aggW (by rfl) _ _ rfl rfl [.string c, .string m] (fun _ h => by cases h; exact hb) _ Tryz.underlying45 rfl keyT2 rfl ?_; simp only [World.size_alloc, World.size_drew, Act.put, List.setIfInBounds_toArray, List.set_cons_succ, List.set_cons_zero]) | go_big_quiet_step (fail))
      refine wpQuiet_nil ?_
      refine WD.eff 13 (by kernel_rfl) ?_
      simp only [pick, List.toList_toArray, List.map_cons, List.map_nil, List.getD_cons_succ, List.getD_cons_zero]
      go_wp2_with fail
      refine (H2.out _).mono ?_
      rintro e w2 ⟨⟨t, rfl, ht⟩, f2⟩
      have b2 := f2.blk hb (by simp)
      have g2 := ((Fr.refl [] w).drew).trans' f2
      clear f2
      go_wp2_with fail
      try refine wpList_nil ?_
      refine AfterD.on trivial (by kernel_rfl) ?_
      try simp only [World.size_alloc, World.size_drew, Act.put, List.setIfInBounds_toArray, List.set_cons_succ, List.set_cons_zero]
      refine WD.pure [14, 15, 16, 17, 18] (by kernel_rfl) trivial ?_
      simp only [pick, List.toList_toArray, List.map_cons, List.map_nil, List.getD_cons_succ, List.getD_cons_zero]
      repeat (first | (refine quiet_load_aggW (by rfl) _ _ rfl rfl [.string c, .string m] (fun _ h => by cases h; exact hb) _ Tryz.underlying45 rfl keyT2 rfl ?_; simp only [World.size_alloc, World.size_drew, Act.put, List.setIfInBounds_toArray, List.set_cons_succ, List.set_cons_zero]) | go_big_quiet_step (fail))
      refine wpQuiet_nil ?_
      refine WD.done (by kernel_rfl) ?_
      have j3 : w2.cell? ⟨p, 3, none⟩ = some (W64 nx) := b2.cell 3
      go_wp2_with (refine wpList_put rfl _ _ _ rfl rfl (W64 (nx + 1)) (by rw [← c64_1]; rfl) rfl b2 (by simp [opL]) (by kernel_rfl) ?_; intro w5 f5 b5 hs5; simp only [World.size_alloc, World.size_drew, Act.put, List.setIfInBounds_toArray, List.set_cons_succ, List.set_cons_zero])
      go_ret2
      rw [← ht trivial]
      exact ⟨rfl, b5, (g2.mono (by simp)).trans' f5⟩
end Go.Proofs.YtneoagelcjfanaaGreatDoor.rcd
