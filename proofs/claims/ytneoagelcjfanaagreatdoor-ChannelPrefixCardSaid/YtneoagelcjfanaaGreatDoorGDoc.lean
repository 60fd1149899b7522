/- Several texts put together: DcA, DcB, DcC, DcD, DcE, DcF, DcG, DcP, DcH, DcI. What each shows stands ahead of it. -/
import Derived.Test.YtneoagelcjfanaaGreatDoorChR
/- Layer 22 (great seat): the document's channel in memory: one block of eleven cells; its opener's Open. -/
namespace Go.Proofs.YtneoagelcjfanaaGreatDoor.chn
open Go Go.Xr Go.RowKit Go.Proofs.YtneoagelcjfanaaGreatDoor Go.Proofs.YtneoagelcjfanaaGreatDoor.rcd
set_option linter.unusedVariables false
set_option linter.unusedSimpArgs false
attribute [local go_sem] eqgA eqgB eql_u64 eql_u64_c neq_u64 neq_u64_c add_u64_c
/-- The document's channel. -/
def docL (K : CH) (S : CHS) : List Value := [.string K.lo, .string K.co, .string K.mo, W64 S.ns, .string K.ci, .string K.mi, .string K.li, W64 S.no, .bool S.oc, .string S.held, .bool S.cl]
set_option maxRecDepth 20000 in
set_option maxHeartbeats 1000000 in
theorem dopen_any {w : World} {p : Nat} {K : CH} {S : CHS} (R : ByteArray) (h : Blk w p (docL K S)) (hoc : S.oc = false) (hk : mayS K.ci K.mi = true) (hR : R.size ≤ 9223372036854775807) (hl : K.li.size < 1099500000000) : Calls Tryz.prog 38 #[.pointer (some ⟨p, 4, none⟩), .string R] w fun e w' => e = .returned (.tuple #[.string (opnT K.ci K.mi K.li S.no false R), .int .i64 (opnE K.ci K.mi K.li S.no false R)]) ∧ Blk w' p (docL K { S with no := opnN K.ci K.mi K.li S.no false R, oc := opnC K.ci K.mi K.li S.no false R }) ∧ Fr [p] w w' := by
  have k4 : w.cell? ⟨p, 8, none⟩ = some (.bool false) := by have := h.cell 8; rw [← hoc]; exact this
  have hpw := h.lt
  have H2 := hid fun w0 : World => rreadr_ok (w := w0) K.ci K.mi K.li S.no R hk hR hl
  have k2 : w.cell? ⟨p, 6, none⟩ = some (.string K.li) := h.cell 6
  have k3 : w.cell? ⟨p, 7, none⟩ = some (W64 S.no) := h.cell 7
  have hb := h.drew
  cases hok : recOk K.ci K.mi K.li S.no R
  case false =>
    rw [hok] at H2
    have HT := hid (show opnT K.ci K.mi K.li S.no false R = ⟨#[]⟩ by simp [opnT, hok])
    have HE := hid (show opnE K.ci K.mi K.li S.no false R = 7 by simp [opnE, hok])
    have HN := hid (show opnN K.ci K.mi K.li S.no false R = S.no by simp [opnN, hok])
    have HC := hid (show opnC K.ci K.mi K.li S.no false R = true by simp [opnC, hok])
    rw [HT.out, HE.out, HN.out, HC.out]
    clear hok
    go_enter Tryz.func38, Tryz.ntmps38
    go_wp2_with fail
    refine wp_region_D (fun _ => True) false [] (by kernel_rfl) ?_
    refine WD.pure [0, 1, 2, 3, 4, 5, 6, 7, 8, 9, 10, 11, 12] (by kernel_rfl) trivial ?_
    simp only [pick, List.toList_toArray, List.map_cons, List.map_nil, List.getD_cons_succ, List.getD_cons_zero]
    repeat (first | (refine quiet_load_aggW (by rfl) _ _ rfl rfl [.string K.ci, .string K.mi] (fun _ h => by cases h; exact hb) _ Tryz.underlying45 rfl keyT2 rfl ?_; simp only [World.size_alloc, World.size_drew, Act.put, List.setIfInBounds_toArray, List.set_cons_succ, List.set_cons_zero]) | go_big_quiet_step (fail))
    refine wpQuiet_nil ?_
    refine WD.eff 13 (by kernel_rfl) ?_
    simp only [pick, List.toList_toArray, List.map_cons, List.map_nil, List.getD_cons_succ, List.getD_cons_zero]
    go_wp2_with fail
    refine (H2.out _).mono ?_
    rintro e w2 ⟨⟨t, rfl, ht⟩, f2⟩
    have b2 := f2.blk hb (by simp)
    have g2 := ((Fr.refl [] w).drew).trans' f2
    clear f2
    go_wp2_with fail
    try refine wpList_nil ?_
    refine AfterD.on trivial (by kernel_rfl) ?_
    try simp only [World.size_alloc, World.size_drew, Act.put, List.setIfInBounds_toArray, List.set_cons_succ, List.set_cons_zero]
    refine WD.pure [14, 15, 16, 17, 18] (by kernel_rfl) trivial ?_
    simp only [pick, List.toList_toArray, List.map_cons, List.map_nil, List.getD_cons_succ, List.getD_cons_zero]
    repeat (first | (refine quiet_load_aggW (by rfl) _ _ rfl rfl [.string K.ci, .string K.mi] (fun _ h => by cases h; exact hb) _ Tryz.underlying45 rfl keyT2 rfl ?_; simp only [World.size_alloc, World.size_drew, Act.put, List.setIfInBounds_toArray, List.set_cons_succ, List.set_cons_zero]) | go_big_quiet_step (fail))
    refine wpQuiet_nil ?_
    refine WD.done (by kernel_rfl) ?_
    go_wp2_with (refine wpList_put rfl _ _ _ rfl rfl (.bool true) rfl rfl b2 (by simp [docL]) (by kernel_rfl) ?_; intro w5 f5 b5 hs5; simp only [World.size_alloc, World.size_drew, Act.put, List.setIfInBounds_toArray, List.set_cons_succ, List.set_cons_zero])
    go_ret2
    exact ⟨rfl, b5, (g2.mono (by simp)).trans' f5⟩
  case true =>
    rw [hok] at H2
    have HT := hid (show opnT K.ci K.mi K.li S.no false R = recT K.ci K.mi K.li R by simp [opnT, hok])
    have HE := hid (show opnE K.ci K.mi K.li S.no false R = 0 by simp [opnE, hok])
    have HN := hid (show opnN K.ci K.mi K.li S.no false R = S.no + 1 by simp [opnN, hok])
    have HC := hid (show opnC K.ci K.mi K.li S.no false R = false by simp [opnC, hok])
    rw [HT.out, HE.out, HN.out, HC.out]
    clear hok
    go_enter Tryz.func38, Tryz.ntmps38
    go_wp2_with fail
    refine wp_region_D (fun _ => True) false [] (by kernel_rfl) ?_
    refine WD.pure [0, 1, 2, 3, 4, 5, 6, 7, 8, 9, 10, 11, 12] (by kernel_rfl) trivial ?_
    simp only [pick, List.toList_toArray, List.map_cons, List.map_nil, List.getD_cons_succ, List.getD_cons_zero]
    repeat (first | (refine quiet_load_aggW (by rfl) _ _ rfl rfl [.string K.ci, .string K.mi] (fun _ h => by cases h; exact hb) _ Tryz.underlying45 rfl keyT2 rfl ?_; simp only [World.size_alloc, World.size_drew, Act.put, List.setIfInBounds_toArray, List.set_cons_succ, List.set_cons_zero]) | go_big_quiet_step (fail))
    refine wpQuiet_nil ?_
    refine WD.eff 13 (by kernel_rfl) ?_
    simp only [pick, List.toList_toArray, List.map_cons, List.map_nil, List.getD_cons_succ, List.getD_cons_zero]
    go_wp2_with fail
    refine (H2.out _).mono ?_
    rintro e w2 ⟨⟨t, rfl, ht⟩, f2⟩
    have b2 := f2.blk hb (by simp)
    have g2 := ((Fr.refl [] w).drew).trans' f2
    clear f2
    go_wp2_with fail
    try refine wpList_nil ?_
    refine AfterD.on trivial (by kernel_rfl) ?_
    try simp only [World.size_alloc, World.size_drew, Act.put, List.setIfInBounds_toArray, List.set_cons_succ, List.set_cons_zero]
    refine WD.pure [14, 15, 16, 17, 18] (by kernel_rfl) trivial ?_
    simp only [pick, List.toList_toArray, List.map_cons, List.map_nil, List.getD_cons_succ, List.getD_cons_zero]
    repeat (first | (refine quiet_load_aggW (by rfl) _ _ rfl rfl [.string K.ci, .string K.mi] (fun _ h => by cases h; exact hb) _ Tryz.underlying45 rfl keyT2 rfl ?_; simp only [World.size_alloc, World.size_drew, Act.put, List.setIfInBounds_toArray, List.set_cons_succ, List.set_cons_zero]) | go_big_quiet_step (fail))
    refine wpQuiet_nil ?_
    refine WD.done (by kernel_rfl) ?_
    have j3 : w2.cell? ⟨p, 7, none⟩ = some (W64 S.no) := b2.cell 7
    go_wp2_with (refine wpList_put rfl _ _ _ rfl rfl (W64 (S.no + 1)) (by rw [← c64_1]; rfl) rfl b2 (by simp [docL]) (by kernel_rfl) ?_; intro w5 f5 b5 hs5; simp only [World.size_alloc, World.size_drew, Act.put, List.setIfInBounds_toArray, List.set_cons_succ, List.set_cons_zero])
    go_ret2
    rw [← ht trivial]
    have e : docL K { S with no := S.no + 1, oc := false } = (docL K S).set 7 (W64 (S.no + 1)) := by simp [docL, hoc]
    rw [e]
    exact ⟨rfl, b5, (g2.mono (by simp)).trans' f5⟩
end Go.Proofs.YtneoagelcjfanaaGreatDoor.chn

/- Layer 22 (great seat): the document's label and lengths. -/
namespace Go.Proofs.YtneoagelcjfanaaGreatDoor.chn
open Go Go.Xr Go.RowKit Go.Proofs.YtneoagelcjfanaaGreatDoor Go.Proofs.YtneoagelcjfanaaGreatDoor.rcd
set_option linter.unusedVariables false
set_option linter.unusedSimpArgs false
set_option maxRecDepth 20000 in
theorem dlabel_any (x : UInt64) (b : Bool) (w : World) (h : TB w) : Calls Tryz.prog 25 #[W64 x, .bool b] w fun e w' => e = .returned (.string (labS x b)) ∧ Fr [] w w' := by
  have H := hid (fmt_any x w h)
  clear h
  have hD : (decS x).size ≤ 20 := decS_size x
  unfold labS
  generalize decS x = D at *
  cases b
  · go_enter Tryz.func25, Tryz.ntmps25
    go_wp2_with (go_at_call 39; refine H.out.mono ?_; rintro e w1 ⟨rfl, f1⟩)
    go_ret
    exact ⟨rfl, f1⟩
  · go_enter Tryz.func25, Tryz.ntmps25
    go_wp2_with (go_at_call 39; refine H.out.mono ?_; rintro e w1 ⟨rfl, f1⟩)
    go_ret
    exact ⟨rfl, f1⟩
end Go.Proofs.YtneoagelcjfanaaGreatDoor.chn

/- Layer 22 (great seat): the document's lengths. -/
namespace Go.Proofs.YtneoagelcjfanaaGreatDoor.chn
open Go Go.Xr Go.RowKit Go.Proofs.YtneoagelcjfanaaGreatDoor Go.Proofs.YtneoagelcjfanaaGreatDoor.rcd
set_option linter.unusedVariables false
set_option linter.unusedSimpArgs false
set_option maxRecDepth 20000 in
set_option maxHeartbeats 4000000 in
theorem dlength_any (w : World) (n : Nat) (hn : n ≤ 4294967295) : Calls Tryz.prog 37 #[.int .u64 (n : Int)] w fun e w' => e = .returned (.bool (wholeB n)) ∧ w' = w := by
  have hW : Hid (wholeB n = (List.range 9).any fun j => decide (n = 64 * 2 ^ j + 40)) := hid rfl
  go_enter Tryz.func37, Tryz.ntmps37
  go_wp2_with fail
  go_loopw [3] (fun cv wr => ∃ j : Nat, j ≤ 9 ∧ cv = .int .u64 ((64 * 2 ^ j : Nat) : Int) ∧ Hid (∀ i, i < j → n ≠ 64 * 2 ^ i + 40) ∧ wr = w) (fun cv _ => 40000 - (intOf cv).toNat)
  case atStart => exact ⟨0, by omega, rfl, hid (fun i h => by omega), rfl⟩
  case round =>
    obtain ⟨j, hj, rfl, HI, rfl⟩ := hrel
    by_cases hj9 : j = 9
    · subst hj9
      have hf : wholeB n = false := by
        rw [hW.out, List.any_eq_false]
        intro i hi
        rw [List.mem_range] at hi
        simpa using HI.out i hi
      have HF := hid hf
      clear hW hf
      rw [show ((64 * 2 ^ 9 : Nat) : Int) = 32768 from rfl]
      go_wp2_with fail
      go_ret
      exact ⟨by rw [HF.out]; rfl, rfl⟩
    · obtain ⟨c, hc⟩ : ∃ c : Nat, 64 * 2 ^ j = c := ⟨_, rfl⟩
      have hc1 : 64 ≤ c ∧ c ≤ 16384 := by
        rw [← hc]
        have h1 : 2 ^ 0 ≤ 2 ^ j := Nat.pow_le_pow_right (by decide) (by omega)
        have h2 : 2 ^ j ≤ 2 ^ 8 := Nat.pow_le_pow_right (by decide) (by omega)
        omega
      have hc2 : 64 * 2 ^ (j + 1) = 2 * c := by rw [← hc, Nat.pow_succ]; omega
      by_cases he : n = c + 40
      · have ht : wholeB n = true := by
          rw [hW.out, List.any_eq_true]
          exact ⟨j, List.mem_range.2 (by omega), by rw [hc]; simpa using he⟩
        rw [hc]
        have HT := hid ht
        have e1 : ((n : Int) == (c : Int) + 40) = true := by simp; omega
        have e2 : decide ((c : Int) ≤ 16384) = true := by simp; omega
        have e3 : decide (c ≤ 16384) = true := by simp; omega
        clear hW ht he
        go_wp2_with fail
        go_ret
        exact ⟨by rw [HT.out]; rfl, rfl⟩
      · have e1 : ((n : Int) == (c : Int) + 40) = false := by simp; omega
        have e2 : decide ((c : Int) ≤ 16384) = true := by simp; omega
        have e3 : decide (c ≤ 16384) = true := by simp; omega
        have HC := hid hc
        have HE := hid he
        rw [hc]
        clear hW he
        go_wp2_with fail
        go_roundw
        case rel =>
          refine ⟨j + 1, by omega, by rw [hc2]; first | rfl | simp, hid fun i hi => ?_, by simp⟩
          by_cases e : i = j
          · subst e
            rw [HC.out]
            exact HE.out
          · exact HI.out i (by omega)
        case measure => simp [intOf]; omega
end Go.Proofs.YtneoagelcjfanaaGreatDoor.chn

/- Layer 22 (great seat): the document's numbers. -/
namespace Go.Proofs.YtneoagelcjfanaaGreatDoor.chn
open Go Go.Xr Go.RowKit Go.Proofs.YtneoagelcjfanaaGreatDoor Go.Proofs.YtneoagelcjfanaaGreatDoor.rcd
set_option linter.unusedVariables false
set_option linter.unusedSimpArgs false
attribute [local go_sem] or_u64 shl_u64 cv8_64s
theorem w64_tell (s : ByteArray) : W64 (UInt64.ofNat (tellN s)) = .int .u64 ((tellN s : Nat) : Int) := by
  have h := tellN_lt s
  unfold W64
  rw [UInt64.toNat_ofNat_of_lt' (show _ < 18446744073709551616 by omega)]
set_option maxRecDepth 20000 in
set_option maxHeartbeats 1000000 in
theorem dread_any (w : World) (s : ByteArray) (hn : 4 ≤ s.size) : Calls Tryz.prog 36 #[.string (s.extract 0 4)] w fun e w' => e = .returned (.int .u64 ((tellN s : Nat) : Int)) ∧ w' = w := by
  rw [← w64_tell]
  obtain ⟨D, hD⟩ : ∃ D, s.extract 0 4 = D := ⟨_, rfl⟩
  obtain ⟨L, hL⟩ : ∃ L, s.data.toList.take 4 = L := ⟨_, rfl⟩
  have HLl := hid (show L.length = 4 by rw [← hL, List.length_take, Array.length_toList]; exact Nat.min_eq_left hn)
  have HDs := hid (show D.size = 4 by rw [← hD]; simp; omega)
  have HDl := hid (show D.data.toList = L by rw [← hD, ext_take, hL])
  have Hfin := hid (show UInt64.ofNat (leV (L.drop 0)) = UInt64.ofNat (tellN s) by rw [List.drop_zero, ← hL]; rfl)
  have hDi : (D.size : Int) = 4 := by rw [HDs.out]; rfl
  rw [hD]
  clear hD hL
  go_enter Tryz.func36, Tryz.ntmps36
  go_wp2_with fail
  go_loopw [3, 4] (fun xv iv wr => ∃ i : Nat, i ≤ 4 ∧ iv = .int .i64 ((i : Int) - 1) ∧ xv = W64 (UInt64.ofNat (leV (L.drop i))) ∧ wr = w) (fun _ iv _ => (intOf iv + 1).toNat)
  case atStart => exact ⟨4, by decide, by first | rfl | simp, by rw [List.drop_eq_nil_of_le (by rw [HLl.out]; exact Nat.le_refl _)]; rfl, rfl⟩
  case round =>
    obtain ⟨i, hi, rfl, rfl, rfl⟩ := hrel
    cases i with
    | zero =>
      have hd : decide ((0 : Int) ≤ ((0 : Nat) : Int) - 1) = false := by decide
      rw [Hfin.out]
      clear hi
      go_wp2_with fail
      go_ret
      exact ⟨rfl, rfl⟩
    | succ q =>
      rw [show (((q + 1 : Nat) : Int) - 1) = (q : Int) by omega]
      have hqL : q < L.length := by rw [HLl.out]; omega
      obtain ⟨X, hX⟩ : ∃ X, g8 L q = X := ⟨_, rfl⟩
      have hge : L[q] = X := by
        have := g8_eq L q hqL
        rw [List.getElem?_eq_getElem hqL, hX] at this
        exact Option.some.inj this
      have Hst := hid (show shl64 (UInt64.ofNat (leV (L.drop (q + 1)))) 8 ||| X.toUInt64 = UInt64.ofNat (leV (L.drop q)) by
        rw [num_step X (L.drop (q + 1)) (by rw [List.length_drop, HLl.out]; omega), ← hge, ← List.drop_eq_getElem_cons hqL])
      obtain ⟨V, hV⟩ : ∃ V, UInt64.ofNat (leV (L.drop (q + 1))) = V := ⟨_, rfl⟩
      rw [hV] at Hst ⊢
      have hix : ∀ w0 : World, (Instr.index 9 (.string D) (.int .i64 (q : Int))).run Tryz.prog w0 = .ok (bt X) w0 := fun w0 => by
        rw [← hX, ← HDl.out]
        exact index_str (P := Tryz.prog) w0 9 D .i64 q q Tryz.underlying9 rfl (by rw [HDs.out]; omega) 0
      have hq4 : (q : Int) ≤ 3 := by omega
      clear hX hge hV
      go_wp2_with fail
      go_roundw
      case rel => exact ⟨q, by omega, rfl, by rw [← Hst.out], by first | rfl | trivial⟩
      case measure => simp [intOf]
theorem leN_take (m k i : Nat) (h : i < k) : bv ((leN m k).take (i + 1)) = bv ((leN m k).take i) ++ [bt (UInt8.ofNat (m / 2 ^ (8 * i)))] := by
  have hl : i < (leN m k).length := by rw [leN_len]; exact h
  have e : (leN m k)[i]'hl = UInt8.ofNat (m / 2 ^ (8 * i)) := by
    have := leN_get m k i h
    rw [List.getElem?_eq_getElem hl] at this
    exact Option.some.inj this
  rw [List.take_succ_eq_append_getElem hl, e, bv_append]
  rfl
set_option maxRecDepth 20000 in
set_option maxHeartbeats 1000000 in
theorem dnum_any (w : World) (n : Nat) : Calls Tryz.prog 32 #[.int .u64 (n : Int), .int .i64 4] w fun e w' => e = .returned (.string (u32S n)) ∧ Fr [] w w' := by
  obtain ⟨i5, hi5, hz5, hs5, hb5⟩ := inf5
  have Hi := hid hi5
  have Hz := hid hz5
  have Hs := hid hs5
  have Hb := hid hb5
  have hcv := cvn_8
  obtain ⟨U, hU⟩ : ∃ U, u32S n = U := ⟨_, rfl⟩
  have HU := hid (show (⟨(leN n 4).toArray⟩ : ByteArray) = U from hU)
  rw [hU]
  clear hi5 hz5 hs5 hb5 hU
  go_enter Tryz.func32, Tryz.ntmps32
  go_wp2_with fail
  go_loopw [5, 6] (fun bv0 iv wr => ∃ (i : Nat) (B : Option Nat), i ≤ 4 ∧ iv = .int .i64 i ∧ Xr.Own wr 1 bv0 i (bv ((leN n 4).take i)) B ∧ Fresh w B ∧ Fr [] w wr) (fun _ iv _ => 4 - (intOf iv).toNat)
  case atStart => exact ⟨0, none, by omega, rfl, Xr.Own.nil w 1, Fresh.none w, Fr.refl _ _⟩
  case round =>
    obtain ⟨i, B, hi4, rfl, ho, hF, g⟩ := hrel
    obtain ⟨ba, bc, rfl⟩ := ho.isSlice
    by_cases hlt : i < 4
    · have hd1 : decide ((i : Int) < 4) = true := by simp; omega
      obtain ⟨X, hX⟩ : ∃ X, n / 2 ^ (8 * i) = X := ⟨_, rfl⟩
      have hsr : ∀ t, binOp .shr t (.int .u64 (n : Int)) (.int .u64 (8 * (i : Int))) = pure (.int .u64 (X : Int)) := by
        intro t
        have := shr_nat t n (8 * i) .u64 (by omega)
        rw [hX] at this
        have e2 : ((8 * i : Nat) : Int) = 8 * (i : Int) := by omega
        rw [e2] at this
        exact this
      have Hst := hid (leN_take n 4 i hlt)
      rw [hX] at Hst
      clear hX
      go_wp2_with (refine wpList_append1 rfl rfl 67 _ _ _ rfl rfl 5 _ _ 1 Tryz.underlying67 Hi.out Hz.out Hs.out Hb.out rfl (bt (UInt8.ofNat X)) rfl rfl rfl rfl ho (by unfold maxLen; omega) (by omega) ?_; intro v3 w3 B3 ho3 f3 hB3; simp only [World.size_alloc, World.size_drew, Act.put, List.setIfInBounds_toArray, List.set_cons_succ, List.set_cons_zero])
      go_roundw
      case rel => exact ⟨i + 1, B3, by omega, by go_num, by rw [Hst.out]; exact ho3, hF.step g hB3, hF.fr g f3⟩
      case measure => simp [intOf]; omega
    · have hd1 : decide ((i : Int) < 4) = false := by simp; omega
      have ei : i = 4 := by omega
      have ho9 : Xr.Own wr 1 (.slice ba i bc) i (bv (leN n 4)) B := by
        have e : (leN n 4).take i = leN n 4 := by rw [ei]; exact List.take_of_length_le (by rw [leN_len]; exact Nat.le_refl _)
        rw [← e]
        exact ho
      obtain ⟨L, hL⟩ : ∃ L, leN n 4 = L := ⟨_, rfl⟩
      rw [hL] at ho9 HU
      clear ho hL hlt
      go_wp2_with (refine wpList_string_of_own rfl 67 9 5 _ rfl rfl ho9 Tryz.underlying67 Tryz.underlying5 Tryz.underlying9 ?_; simp only [World.size_alloc, World.size_drew, Act.put, List.setIfInBounds_toArray, List.set_cons_succ, List.set_cons_zero])
      go_ret
      rw [HU.out]
      exact ⟨rfl, g⟩
end Go.Proofs.YtneoagelcjfanaaGreatDoor.chn

/- Layer 22 (great seat): the document's New. -/
namespace Go.Proofs.YtneoagelcjfanaaGreatDoor.chn
open Go Go.Xr Go.RowKit Go.Proofs.YtneoagelcjfanaaGreatDoor Go.Proofs.YtneoagelcjfanaaGreatDoor.rcd
set_option linter.unusedVariables false
set_option linter.unusedSimpArgs false
set_option maxRecDepth 20000 in
set_option maxHeartbeats 4000000 in
theorem dnew_any (m : ByteArray) (x : UInt64) (b : Bool) (w : World) (h : TB w) (hm : m.size = 32) : Calls Tryz.prog 9 #[.string m, W64 x, .bool b] w fun e w' => ∃ p, e = .returned (.pointer (some ⟨p, 0, none⟩)) ∧ Ev w [] w' [Res.blk p (docL (chOf m x b) CHS.init)] := by
  have HL1 := hid fun (w1 : World) (f : Fr [] w w1) => dlabel_any x (!b) w1 (h.keep f)
  have HL2 := hid fun (w1 : World) (f : Fr [] w w1) => dlabel_any x b w1 (h.keep f)
  have HK1 := hid fun w1 : World => rkeys_any (w := w1) m (labS x (!b)) hm (by have := labS_size x (!b); omega)
  have HK2 := hid fun w1 : World => rkeys_any (w := w1) m (labS x b) hm (by have := labS_size x b; omega)
  unfold chOf
  generalize keyC m (labS x (!b)) = C1 at *
  generalize keyM m (labS x (!b)) = M1 at *
  generalize keyC m (labS x b) = C2 at *
  generalize keyM m (labS x b) = M2 at *
  generalize labS x (!b) = l1 at *
  generalize labS x b = l2 at *
  clear h hm
  go_enter Tryz.func9, Tryz.ntmps9
  go_wp2_with (first
    | (go_at_call 25; refine (HL1.out _ (Fr.refl _ _)).mono ?_; rintro e w1 ⟨rfl, f1⟩; have F1 := hid f1; clear f1 HL1)
    | (go_at_call 25; refine (HL2.out _ F1.out).mono ?_; rintro e w2 ⟨rfl, f2⟩; have F2 := hid (F1.out.trans' f2); clear f2 HL2 F1)
    | (go_at_call 26; refine (HK1.out _).mono ?_; rintro e w3 ⟨rfl, f3⟩; have F3 := hid (F2.out.trans' f3); clear f3 HK1 F2)
    | (refine wpList_store_ag rfl _ _ _ rfl rfl [.string C1, .string M1] rfl (Blk.alloc w3 [.string ⟨#[]⟩, .string ⟨#[]⟩] _) keyAT rfl (by simp) (by simp [Value.oneCell']) ?_; intro w4 f4 b4 hs4; have b4' : Blk w4 w3.heap.size [.string C1, .string M1] := b4; have F4 := hid (F3.out.trans (((Fr.refl [] w3).alloc _).trans f4 (fun x hx => .inr (by simp at hx; omega))) (fun x hx => .inl hx)); clear f4 b4 F3; simp only [World.size_alloc, World.size_drew, Act.put, List.setIfInBounds_toArray, List.set_cons_succ, List.set_cons_zero])
    | (go_at_call 26; refine (HK2.out _).mono ?_; rintro e w5 ⟨rfl, f5⟩; have F5 := hid (F4.out.trans' f5); have b5 := f5.blk b4' (by simp); clear f5 HK2 F4 b4')
    | (refine wpList_store_ag rfl _ _ _ rfl rfl [.string C2, .string M2] rfl (Blk.alloc w5 [.string ⟨#[]⟩, .string ⟨#[]⟩] _) keyAT rfl (by simp) (by simp [Value.oneCell']) ?_; intro w6 f6 b6 hs6; have b6' : Blk w6 w5.heap.size [.string C2, .string M2] := b6; have g6 := (((Fr.refl [] w5).alloc _).trans f6 (fun x hx => .inr (by simp at hx; omega))); have c6 := g6.blk b5 (by simp); have F6 := hid (F5.out.trans' g6); clear f6 g6 b6 F5 b5; simp only [World.size_alloc, World.size_drew, Act.put, List.setIfInBounds_toArray, List.set_cons_succ, List.set_cons_zero])
    | (refine wpList_load_ag rfl _ _ rfl rfl [.string C1, .string M1] c6 keyAT rfl rfl ?_; clear c6; simp only [World.size_alloc, World.size_drew, Act.put, List.setIfInBounds_toArray, List.set_cons_succ, List.set_cons_zero])
    | (refine wpList_load_ag rfl _ _ rfl rfl [.string C2, .string M2] b6' keyAT rfl rfl ?_; clear b6'; simp only [World.size_alloc, World.size_drew, Act.put, List.setIfInBounds_toArray, List.set_cons_succ, List.set_cons_zero])
    | (refine wpList_box rfl _ _ rfl [.string l1, .string C1, .string M1, .int .u64 0, .string C2, .string M2, .string l2, .int .u64 0, .bool false, .string ⟨#[]⟩, .bool false] rfl ?_; intro w7 f7 hlt7 hb7; simp only [World.size_alloc, World.size_drew, Act.put, List.setIfInBounds_toArray, List.set_cons_succ, List.set_cons_zero]))
  go_ret
  exact ⟨_, rfl, (Ev.start w).new (F6.out.trans' f7) (Res.On.blk hb7) (fun b hb => by simp [Res.blk] at hb; have := F6.out.size; omega)⟩
end Go.Proofs.YtneoagelcjfanaaGreatDoor.chn

/- Layer 22 (great seat): the document's Send. -/
namespace Go.Proofs.YtneoagelcjfanaaGreatDoor.chn
open Go Go.Xr Go.RowKit Go.Proofs.YtneoagelcjfanaaGreatDoor Go.Proofs.YtneoagelcjfanaaGreatDoor.rcd
set_option linter.unusedVariables false
set_option linter.unusedSimpArgs false
attribute [local go_sem] add_u64_c
section
variable {w w' w0 : World} {p : Nat} {K : CH} {S : CHS}
theorem dsend_shut (h : Blk w p (docL K S)) (hc : S.cl = true) (t : ByteArray) : Calls Tryz.prog 11 #[.pointer (some ⟨p, 0, none⟩), .string t] w fun e w' => e = .returned (.tuple #[.string ⟨#[]⟩, .int .i64 3]) ∧ w' = w := by
  have k3 : w.cell? ⟨p, 10, none⟩ = some (.bool true) := by have := h.cell 10; rw [← hc]; exact this
  clear h hc
  go_enter Tryz.func11, Tryz.ntmps11
  go_wp2_with fail
  go_ret2
  exact ⟨rfl, rfl⟩
set_option maxRecDepth 20000 in
set_option maxHeartbeats 4000000 in
theorem dsend_any (h : Blk w p (docL K S)) (hk : KOk K) (hc : S.cl = false) (t : ByteArray) (ht : t.size ≤ 1099511627776) :
    Calls Tryz.prog 11 #[.pointer (some ⟨p, 0, none⟩), .string t] w fun e w' => e = .returned (.tuple #[.string (sendS K S.ns t), .int .i64 0]) ∧ Blk w' p (docL K { S with ns := S.ns + UInt64.ofNat (pcs t) }) ∧ Fr [p] w w' := by
  have k3 : w.cell? ⟨p, 10, none⟩ = some (.bool false) := by have := h.cell 10; rw [← hc]; exact this
  have B0 := hid h
  have E0 := hid (Fr.refl [p] w)
  clear h
  go_enter Tryz.func11, Tryz.ntmps11
  go_wp2_with fail
  go_loopw [1, 6] (fun tv ov wr => ∃ k : Nat, k ≤ pcs t ∧ tv = .string (leftT t k) ∧ ov = .string (wireK K S.ns t k) ∧ Hid (Blk wr p (docL K { S with ns := S.ns + UInt64.ofNat k })) ∧ Hid (Fr [p] w wr)) (fun tv _ _ => strSz tv)
  case atStart => exact ⟨0, by omega, by rw [leftT_0], rfl, by simpa using B0, E0⟩
  case round =>
    obtain ⟨k, hkp, rfl, rfl, B, E⟩ := hrel
    clear B0 E0 k3
    have HKP := hid hkp
    by_cases hz : 8192 * k < t.size
    · have hkt : k < pcs t := by unfold pcs; omega
      have hXs0 := leftT_size t k
      have hn0 : 0 < (leftT t k).size := by omega
      have hXs := hid hXs0
      clear hXs0
      have hc1 := hid (chunk_left t k)
      have hc2 := hid (left_left t k)
      have HCs := hid (chunk_size t k)
      have HW := hid (wireK_size K S.ns t k)
      obtain ⟨X2, hX2⟩ : ∃ X2, leftT t (k + 1) = X2 := ⟨_, rfl⟩
      have HX2 := hid hX2
      rw [hX2] at hc2
      clear hX2
      generalize leftT t k = X at *
      obtain ⟨n, hn⟩ : ∃ n, min X.size 8192 = n := ⟨_, rfl⟩
      have hmin : min (X.size : Int) 8192 = (n : Int) := by omega
      have hXe := ne_emp hn0
      rw [hn] at hc1 hc2
      have hnX : n ≤ X.size := by omega
      have hnp := hid (show 0 < n by omega)
      have hn8 : (n : Int) ≤ 8192 := by omega
      have hXb : X.size ≤ 1099511627776 := by have := hXs.out; omega
      have ED := hid (E.out.drew)
      have hb := B.out.drew
      have k0 : wr.drew.cell? ⟨p, 0, none⟩ = some (.string K.lo) := hb.cell 0
      have k2 : wr.drew.cell? ⟨p, 3, none⟩ = some (W64 (S.ns + UInt64.ofNat k)) := hb.cell 3
      go_wp2_with fail
      refine wp_region_D (fun _ => True) false [] (by kernel_rfl) ?_
      refine WD.pure [0, 1, 2, 3, 4, 5, 6, 7, 8, 9, 10, 11, 12, 13, 14] (by kernel_rfl) trivial ?_
      simp only [pick, List.toList_toArray, List.map_cons, List.map_nil, List.getD_cons_succ, List.getD_cons_zero]
      repeat (first | (refine quiet_load_aggW (by rfl) _ _ rfl rfl [.string K.co, .string K.mo] (fun _ h => by cases h; exact hb) _ Tryz.underlying45 rfl keyT2 rfl ?_; simp only [World.size_alloc, World.size_drew, Act.put, List.setIfInBounds_toArray, List.set_cons_succ, List.set_cons_zero]) | go_big_quiet_step (fail))
      refine wpQuiet_nil ?_
      refine WD.eff 15 (by kernel_rfl) ?_
      simp only [pick, List.toList_toArray, List.map_cons, List.map_nil, List.getD_cons_succ, List.getD_cons_zero]
      obtain ⟨R, hR⟩ : ∃ R, recS K.co K.mo K.lo (S.ns + UInt64.ofNat k) (chunk t k) = R := ⟨_, rfl⟩
      obtain ⟨q, hq⟩ : ∃ q, clsN (chunk t k).size + 40 = q := ⟨_, rfl⟩
      have hRq0 : R.size = q := by rw [← hR, ← hq]; exact recS_size _ _ _ _ _ HCs.out
      have hq16 : q ≤ 16424 := by rw [← hq]; have := (clsN_le (chunk t k).size).2; omega
      have hRec := hid (rrec_any (w := wr.drew) K.co K.mo K.lo (X.extract 0 n) (S.ns + UInt64.ofNat k) hk.ko (by rw [hc1.out]; exact HCs.out) (by have := hk.lo; omega))
      rw [show recS K.co K.mo K.lo (S.ns + UInt64.ofNat k) (X.extract 0 n) = R from by rw [hc1.out]; exact hR] at hRec
      have HR := hid hR
      have HQ := hid hq
      have HRq := hid hRq0
      have hRs : R.size ≤ 16424 := by omega
      have hU := hid fun w1 : World => dnum_any w1 R.size
      have hUs : (u32S R.size).size ≤ 4 := Nat.le_refl _
      have HwT := hid (show wireK K S.ns t (k + 1) = (wireK K S.ns t k ++ u32S R.size) ++ R by
        show wireK K S.ns t k ++ oneR K (S.ns + UInt64.ofNat k) (chunk t k) = _
        unfold oneR
        rw [HR.out, HQ.out, HRq.out, ByteArray.append_assoc])
      have hadd : S.ns + UInt64.ofNat k + 1 = S.ns + UInt64.ofNat (k + 1) := by
        rw [UInt64.add_assoc]
        congr 1
        exact (UInt64.ofNat_add k 1).symm
      have HA := hid hadd
      have hw0 : (wireK K S.ns t k).size ≤ 3000000000000 := by have := HW.out; have := HKP.out; unfold pcs at this; omega
      obtain ⟨W2, hW2⟩ : ∃ W2, wireK K S.ns t (k + 1) = W2 := ⟨_, rfl⟩
      have HW2 := hid hW2
      rw [hW2] at HwT
      clear hW2
      generalize wireK K S.ns t k = W1 at *
      generalize u32S R.size = U at *
      have hsum1 : (W1 ++ U).size ≤ 3000000000004 := by rw [ByteArray.size_append]; omega
      have HB := hid hb
      clear hR hq hRq0 hadd hq16 hXs hc1 HW B E hn0 hb k0 k2
      go_wp2_with (go_at_call 31; refine hRec.out.mono ?_; rintro e w5 ⟨rfl, f5⟩; have b5 := f5.blk HB.out (by simp); have E5 := hid (ED.out.trans f5 (by simp)); have j2 : w5.cell? ⟨p, 3, none⟩ = some (W64 (S.ns + UInt64.ofNat k)) := b5.cell 3; clear hRec f5 ED)
      try refine wpList_nil ?_
      refine AfterD.on trivial (by kernel_rfl) ?_
      try simp only [World.size_alloc, World.size_drew, Act.put, List.setIfInBounds_toArray, List.set_cons_succ, List.set_cons_zero]
      refine WD.pure [16] (by kernel_rfl) trivial ?_
      simp only [pick, List.toList_toArray, List.map_cons, List.map_nil, List.getD_cons_succ, List.getD_cons_zero]
      repeat (first | (refine quiet_load_aggW (by rfl) _ _ rfl rfl [.string K.co, .string K.mo] (fun _ h => by cases h; exact hb) _ Tryz.underlying45 rfl keyT2 rfl ?_; simp only [World.size_alloc, World.size_drew, Act.put, List.setIfInBounds_toArray, List.set_cons_succ, List.set_cons_zero]) | go_big_quiet_step (fail))
      refine wpQuiet_nil ?_
      refine WD.done (by kernel_rfl) ?_
      go_wp2_with (first
        | (refine wpList_put rfl _ _ _ rfl rfl (W64 (S.ns + UInt64.ofNat k + 1)) (by rw [← c64_1]; rfl) rfl b5 (by simp [docL]) (by kernel_rfl) ?_; intro w6 f6 b6 hs6; have E6 := hid (E5.out.trans f6 (by simp)); clear f6 b5 E5; simp only [World.size_alloc, World.size_drew, Act.put, List.setIfInBounds_toArray, List.set_cons_succ, List.set_cons_zero])
        | (go_at_call 32; refine (hU.out _).mono ?_; rintro e w7 ⟨rfl, f7⟩; have E7 := hid (E6.out.trans f7 (by simp)); have b7 := f7.blk b6 (by simp); clear hU f7 b6 E6))
      go_roundw
      case rel => exact ⟨k + 1, by omega, by rw [hc2.out, ← HX2.out], by rw [HW2.out, HwT.out], hid (by rw [← HA.out]; exact b7), E7⟩
      case measure =>
        show (X.extract n X.size).size < X.size
        rw [ByteArray.size_extract]
        have := hnp.out
        omega
    · have hke : k = pcs t := by unfold pcs at hkp ⊢; omega
      rw [leftT_end t k (by omega)]
      have HWe := hid (show sendS K S.ns t = wireK K S.ns t k by rw [hke]; rfl)
      have HKe := hid hke
      generalize wireK K S.ns t k = W1 at *
      clear hkp hz hke
      go_wp2_with fail
      go_ret2
      refine ⟨by rw [HWe.out]; rfl, ?_, E.out⟩
      have := B.out
      rw [HKe.out] at this
      exact this
end
end Go.Proofs.YtneoagelcjfanaaGreatDoor.chn

/- Layer 22 (great seat): the document's Take. -/
namespace Go.Proofs.YtneoagelcjfanaaGreatDoor.chn
open Go Go.Xr Go.RowKit Go.Proofs.YtneoagelcjfanaaGreatDoor Go.Proofs.YtneoagelcjfanaaGreatDoor.rcd
set_option linter.unusedVariables false
set_option linter.unusedSimpArgs false
theorem takeL_one (K : CH) (f : Nat) (no : UInt64) (H out : ByteArray) (T : TK) (h : takeL K f no H out = T) (hf : H.size < f) :
    ∃ g, f = g + 1 ∧ (if H.size < 4 then (⟨no, H, out, 0⟩ : TK) else if wholeB (tellN H) = false then ⟨no, H, out, 51⟩ else if H.size < 4 + tellN H then ⟨no, H, out, 0⟩ else if recOk K.ci K.mi K.li no (H.extract 4 (4 + tellN H)) then takeL K g (no + 1) (H.extract (4 + tellN H) H.size) (out ++ recT K.ci K.mi K.li (H.extract 4 (4 + tellN H))) else ⟨no, H.extract (4 + tellN H) H.size, out, 7⟩) = T := by
  cases f with
  | zero => exact absurd hf (Nat.not_lt_zero _)
  | succ g => exact ⟨g, rfl, by rw [← h]; rfl⟩
def heldSz (w : World) (p : Nat) : Nat := strSz ((w.cell? ⟨p, 9, none⟩).getD (.bool false))
theorem heldSz_of {w : World} {p : Nat} {H : ByteArray} (h : w.cell? ⟨p, 9, none⟩ = some (.string H)) : heldSz w p = H.size := by
  unfold heldSz
  rw [h]
  rfl
section
variable {w w' w0 : World} {p : Nat} {K : CH} {S : CHS}
theorem dtake_shut (h : Blk w p (docL K S)) (hc : S.cl = true) (t : ByteArray) : Calls Tryz.prog 19 #[.pointer (some ⟨p, 0, none⟩), .string t] w fun e w' => e = .returned (.tuple #[.string ⟨#[]⟩, .int .i64 3]) ∧ w' = w := by
  have k3 : w.cell? ⟨p, 10, none⟩ = some (.bool true) := by have := h.cell 10; rw [← hc]; exact this
  clear h hc
  go_enter Tryz.func19, Tryz.ntmps19
  go_wp2_with fail
  go_ret2
  exact ⟨rfl, rfl⟩
set_option maxRecDepth 20000 in
set_option maxHeartbeats 4000000 in
theorem dtake_any (h : Blk w p (docL K S)) (hk : KOk K) (hc : S.cl = false) (hoc : S.oc = false) (t : ByteArray) (ht : S.held.size + t.size ≤ 1099511627776) (T : TK) (hT : takeS K S.no (S.held ++ t) = T) :
    Calls Tryz.prog 19 #[.pointer (some ⟨p, 0, none⟩), .string t] w fun e w' => e = .returned (.tuple #[.string T.out, .int .i64 T.c]) ∧ Blk w' p (docL K (takeN S T)) ∧ Fr [p] w w' := by
  have k3 : w.cell? ⟨p, 10, none⟩ = some (.bool false) := by have := h.cell 10; rw [← hc]; exact this
  have k9 : w.cell? ⟨p, 9, none⟩ = some (.string S.held) := h.cell 9
  have HT := hid hT
  have hcat : S.held.size + t.size ≤ 140737488355328 := by omega
  have hM0 := hid (show (S.held ++ t).size ≤ 1099511627776 by rw [ByteArray.size_append]; exact ht)
  have HOC := hid hoc
  have HCL := hid hc
  clear hT ht hoc hc
  go_enter Tryz.func19, Tryz.ntmps19
  go_wp2_with (refine wpList_put rfl _ _ _ rfl rfl (.string (S.held ++ t)) rfl rfl h (by simp [docL]) (by kernel_rfl) ?_; intro w1 f1 b1 hs1; simp only [World.size_alloc, World.size_drew, Act.put, List.setIfInBounds_toArray, List.set_cons_succ, List.set_cons_zero])
  have B0 := hid (show Blk w1 p (docL K { S with no := S.no, held := S.held ++ t }) from b1)
  have E0 := hid f1
  clear b1 f1 h k3 k9 hs1 hcat
  go_loopw [6] (fun ov wr => ∃ (no : UInt64) (H out : ByteArray) (f : Nat), ov = .string out ∧ Hid (Blk wr p (docL K { S with no := no, held := H })) ∧ Hid (Fr [p] w wr) ∧ Hid (takeL K f no H out = T) ∧ Hid (H.size < f) ∧ Hid (out.size + H.size ≤ 1099511627776)) (fun _ wr => heldSz wr p)
  case atStart => exact ⟨S.no, _, ⟨#[]⟩, _, rfl, B0, E0, hid HT.out, hid (Nat.lt_succ_self _), hid (by have := hM0.out; show 0 + _ ≤ _; omega)⟩
  case round =>
    obtain ⟨no, H, out, f, rfl, B, E, HL, HF, HM⟩ := hrel
    clear B0 E0 HT hM0
    have k9 : wr.cell? ⟨p, 9, none⟩ = some (.string H) := B.out.cell 9
    obtain ⟨g, hg, hst⟩ := takeL_one _ _ _ _ _ _ HL.out HF.out
    have HG := hid hg
    clear hg
    by_cases h4 : H.size < 4
    · rw [if_pos h4] at hst
      have HTe := hid hst
      have hd : decide ((4 : Int) ≤ (H.size : Int)) = false := by simp; omega
      have hd2 : decide (4 ≤ H.size) = false := by simp; omega
      clear hst h4
      go_wp2_with fail
      go_ret2
      rw [← HTe.out]
      exact ⟨rfl, B.out, E.out⟩
    · rw [if_neg h4] at hst
      have h4' : 4 ≤ H.size := by omega
      have hHs : H.size ≤ 1099511627776 := by have := HM.out; omega
      have h4i : (4 : Int) ≤ (H.size : Int) := by omega
      have hd : decide ((4 : Int) ≤ (H.size : Int)) = true := by simp; omega
      have hd2 : decide (4 ≤ H.size) = true := by simp; omega
      have HRd := hid fun w1 : World => dread_any w1 H h4'
      have hlt32 := tellN_lt H
      have HLn := hid fun w1 : World => dlength_any w1 (tellN H) (by omega)
      obtain ⟨n, hn⟩ : ∃ n, tellN H = n := ⟨_, rfl⟩
      rw [hn] at hst HRd HLn hlt32
      clear hn
      cases hw : wholeB n with
      | false =>
        rw [hw, if_pos rfl] at hst
        rw [hw] at HLn
        have HTe := hid hst
        have b0 := B.out
        clear hst hw h4
        go_wp2_with (first
          | (go_at_call 36; refine (HRd.out _).mono ?_; rintro e w2 ⟨rfl, e2⟩; have e2' := hid e2; rw [e2'.out]; clear HRd e2)
          | (go_at_call 37; refine (HLn.out _).mono ?_; rintro e w3 ⟨rfl, e3⟩; have e3' := hid e3; rw [e3'.out]; clear HLn e3)
          | (refine wpList_put rfl _ _ _ rfl rfl (.bool true) rfl rfl b0 (by simp [docL]) (by kernel_rfl) ?_; intro w4 f4 b4 hs4; simp only [World.size_alloc, World.size_drew, Act.put, List.setIfInBounds_toArray, List.set_cons_succ, List.set_cons_zero])
          | (refine wpList_put rfl _ _ _ rfl rfl (.string ⟨#[]⟩) rfl rfl b4 (by simp [docL]) (by kernel_rfl) ?_; intro w5 f5 b5 hs5; simp only [World.size_alloc, World.size_drew, Act.put, List.setIfInBounds_toArray, List.set_cons_succ, List.set_cons_zero]))
        go_ret2
        rw [← HTe.out]
        refine ⟨rfl, ?_, (E.out.trans f4 (by simp)).trans f5 (by simp)⟩
        have e : docL K (takeN S ⟨no, H, out, 51⟩) = ((docL K { S with no := no, held := H }).set 10 (.bool true)).set 9 (.string ⟨#[]⟩) := by
          simp [docL, takeN, HOC.out]
        rw [e]
        exact b5
      | true =>
        rw [hw, if_neg (by decide)] at hst
        rw [hw] at HLn
        have hn16 := (wholeB_le hw).2
        clear hw
        by_cases hl : H.size < 4 + n
        · rw [if_pos hl] at hst
          have HTe := hid hst
          have hd3 : decide ((H.size : Int) < 4 + (n : Int)) = true := by simp; omega
          have hd4 : decide (H.size < 4 + n) = true := by simp; omega
          clear hst hl h4
          go_wp2_with (first
            | (go_at_call 36; refine (HRd.out _).mono ?_; rintro e w2 ⟨rfl, e2⟩; have e2' := hid e2; rw [e2'.out]; clear HRd e2)
            | (go_at_call 37; refine (HLn.out _).mono ?_; rintro e w3 ⟨rfl, e3⟩; have e3' := hid e3; rw [e3'.out]; clear HLn e3))
          go_ret2
          rw [← HTe.out]
          exact ⟨rfl, B.out, E.out⟩
        · rw [if_neg hl] at hst
          have hd3 : decide ((H.size : Int) < 4 + (n : Int)) = false := by simp; omega
          have hd4 : decide (H.size < 4 + n) = false := by simp; omega
          have hnH : 4 + n ≤ H.size := by omega
          obtain ⟨R, hR⟩ : ∃ R, H.extract 4 (4 + n) = R := ⟨_, rfl⟩
          obtain ⟨Z, hZ⟩ : ∃ Z, H.extract (4 + n) H.size = Z := ⟨_, rfl⟩
          have hZs : Z.size + 4 ≤ H.size := by rw [← hZ, ByteArray.size_extract]; omega
          have hZR : Z.size + R.size + 4 = H.size := by rw [← hZ, ← hR, ByteArray.size_extract, ByteArray.size_extract]; omega
          rw [hR, hZ] at hst
          have hRs : R.size ≤ 16424 := by rw [← hR, ByteArray.size_extract]; omega
          have HO := hid (dopen_any (K := K) (S := { S with no := no, held := H }) R B.out.drew HOC.out hk.ki (by omega) (by have := hk.li; omega))
          have hsl : ∀ w0 : World, (Instr.sliceAt 9 (.string H) (some (.int .i64 4)) (some (.int .u64 (4 + (n : Int)))) none).run Tryz.prog w0 = .ok (.string R) w0 := fun w0 => by
            rw [← hR]
            exact run_slice_s w0 _ Tryz.underlying9 H .i64 .u64 4 (4 + (n : Int)) 4 (4 + n) rfl (by omega) (by omega) hnH
          have hsl2 : ∀ w0 : World, (Instr.sliceAt 9 (.string H) (some (.int .u64 (4 + (n : Int)))) none none).run Tryz.prog w0 = .ok (.string Z) w0 := fun w0 => by
            rw [← hZ]
            exact run_slice_sl w0 _ Tryz.underlying9 H .u64 (4 + (n : Int)) (4 + n) (by omega) hnH
          have HZ := hid hZs
          have HZR := hid hZR
          clear hl h4 hR hZ hZs hZR
          cases hok : recOk K.ci K.mi K.li no R with
          | false =>
            rw [hok, if_neg (by decide)] at hst
            have e1 : opnT K.ci K.mi K.li no false R = ⟨#[]⟩ := by simp [opnT, hok]
            have e2 : opnE K.ci K.mi K.li no false R = 7 := by simp [opnE, hok]
            have e3 : opnN K.ci K.mi K.li no false R = no := by simp [opnN, hok]
            have e4 : opnC K.ci K.mi K.li no false R = true := by simp [opnC, hok]
            rw [e1, e2, e3, e4] at HO
            have HTe := hid hst
            have hd9 : wr.drew.cell? ⟨p, 9, none⟩ = some (.string H) := B.out.drew.cell 9
            clear e1 e2 e3 e4 hst hok
            go_wp2_with (first
              | (go_at_call 36; refine (HRd.out _).mono ?_; rintro e w2 ⟨rfl, e2⟩; have e2' := hid e2; rw [e2'.out]; clear HRd e2)
              | (go_at_call 37; refine (HLn.out _).mono ?_; rintro e w3 ⟨rfl, e3⟩; have e3' := hid e3; rw [e3'.out]; clear HLn e3))
            refine wp_region_D (fun _ => True) false [] (by kernel_rfl) ?_
            refine WD.pure [0, 1, 2, 3, 4, 5, 6, 7, 8, 9] (by kernel_rfl) trivial ?_
            simp only [pick, List.toList_toArray, List.map_cons, List.map_nil, List.getD_cons_succ, List.getD_cons_zero]
            repeat (first | (refine quiet_slice_vW (by rfl) _ _ _ _ rfl _ rfl _ _ rfl rfl (.string R) (fun w0 _ => hsl w0) ?_; simp only [World.size_alloc, World.size_drew, Act.put, List.setIfInBounds_toArray, List.set_cons_succ, List.set_cons_zero]) | go_big_quiet_step (fail))
            refine wpQuiet_nil ?_
            refine WD.eff 10 (by kernel_rfl) ?_
            simp only [pick, List.toList_toArray, List.map_cons, List.map_nil, List.getD_cons_succ, List.getD_cons_zero]
            go_wp2_with (go_at_call 38; refine HO.out.mono ?_; rintro e w4 ⟨rfl, b4, f4⟩; have E4 := hid ((E.out.drew).trans f4 (by simp)); clear HO f4)
            try refine wpList_nil ?_
            refine AfterD.on trivial (by kernel_rfl) ?_
            try simp only [World.size_alloc, World.size_drew, Act.put, List.setIfInBounds_toArray, List.set_cons_succ, List.set_cons_zero]
            refine WD.pure [11, 12, 13, 14, 15] (by kernel_rfl) trivial ?_
            simp only [pick, List.toList_toArray, List.map_cons, List.map_nil, List.getD_cons_succ, List.getD_cons_zero]
            repeat (first | (refine quiet_slice_vW (by rfl) _ _ _ _ rfl _ rfl _ _ rfl rfl (.string R) (fun w0 _ => hsl w0) ?_; simp only [World.size_alloc, World.size_drew, Act.put, List.setIfInBounds_toArray, List.set_cons_succ, List.set_cons_zero]) | go_big_quiet_step (fail))
            refine wpQuiet_nil ?_
            refine WD.done (by kernel_rfl) ?_
            go_wp2_with (first
              | (refine wpList_put rfl _ _ _ rfl rfl (.bool true) rfl rfl b4 (by simp [docL]) (by kernel_rfl) ?_; intro w5 f5 b5 hs5; simp only [World.size_alloc, World.size_drew, Act.put, List.setIfInBounds_toArray, List.set_cons_succ, List.set_cons_zero])
              | (refine wpList_put rfl _ _ _ rfl rfl (.string ⟨#[]⟩) rfl rfl b5 (by simp [docL]) (by kernel_rfl) ?_; intro w6 f6 b6 hs6; simp only [World.size_alloc, World.size_drew, Act.put, List.setIfInBounds_toArray, List.set_cons_succ, List.set_cons_zero]))
            go_ret2
            rw [← HTe.out]
            refine ⟨rfl, ?_, (E4.out.trans f5 (by simp)).trans f6 (by simp)⟩
            have e : docL K (takeN S ⟨no, Z, out, 7⟩) = ((docL K { S with no := no, held := H, oc := true }).set 10 (.bool true)).set 9 (.string ⟨#[]⟩) := by
              simp [docL, takeN]
            rw [e]
            exact b6
          | true =>
            rw [hok, if_pos rfl] at hst
            have e1 : opnT K.ci K.mi K.li no false R = recT K.ci K.mi K.li R := by simp [opnT, hok]
            have e2 : opnE K.ci K.mi K.li no false R = 0 := by simp [opnE, hok]
            have e3 : opnN K.ci K.mi K.li no false R = no + 1 := by simp [opnN, hok]
            have e4 : opnC K.ci K.mi K.li no false R = false := by simp [opnC, hok]
            rw [e1, e2, e3, e4] at HO
            have hRt := hid (recT_le K.ci K.mi K.li R)
            generalize recT K.ci K.mi K.li R = X at *
            have HTe := hid hst
            have hXl : out.size + X.size ≤ 140737488355328 := by have := HM.out; have := hRt.out; have := HZR.out; omega
            have hd9 : wr.drew.cell? ⟨p, 9, none⟩ = some (.string H) := B.out.drew.cell 9
            clear e1 e2 e3 e4 hst hok
            go_wp2_with (first
              | (go_at_call 36; refine (HRd.out _).mono ?_; rintro e w2 ⟨rfl, e2⟩; have e2' := hid e2; rw [e2'.out]; clear HRd e2)
              | (go_at_call 37; refine (HLn.out _).mono ?_; rintro e w3 ⟨rfl, e3⟩; have e3' := hid e3; rw [e3'.out]; clear HLn e3))
            refine wp_region_D (fun _ => True) false [] (by kernel_rfl) ?_
            refine WD.pure [0, 1, 2, 3, 4, 5, 6, 7, 8, 9] (by kernel_rfl) trivial ?_
            simp only [pick, List.toList_toArray, List.map_cons, List.map_nil, List.getD_cons_succ, List.getD_cons_zero]
            repeat (first | (refine quiet_slice_vW (by rfl) _ _ _ _ rfl _ rfl _ _ rfl rfl (.string R) (fun w0 _ => hsl w0) ?_; simp only [World.size_alloc, World.size_drew, Act.put, List.setIfInBounds_toArray, List.set_cons_succ, List.set_cons_zero]) | go_big_quiet_step (fail))
            refine wpQuiet_nil ?_
            refine WD.eff 10 (by kernel_rfl) ?_
            simp only [pick, List.toList_toArray, List.map_cons, List.map_nil, List.getD_cons_succ, List.getD_cons_zero]
            go_wp2_with (go_at_call 38; refine HO.out.mono ?_; rintro e w4 ⟨rfl, b4, f4⟩; have E4 := hid ((E.out.drew).trans f4 (by simp)); have j9 : w4.cell? ⟨p, 9, none⟩ = some (.string H) := b4.cell 9; clear HO f4)
            try refine wpList_nil ?_
            refine AfterD.on trivial (by kernel_rfl) ?_
            try simp only [World.size_alloc, World.size_drew, Act.put, List.setIfInBounds_toArray, List.set_cons_succ, List.set_cons_zero]
            refine WD.pure [11, 12, 13, 14, 15] (by kernel_rfl) trivial ?_
            simp only [pick, List.toList_toArray, List.map_cons, List.map_nil, List.getD_cons_succ, List.getD_cons_zero]
            repeat (first | (refine quiet_slice_vW (by rfl) _ _ _ _ rfl _ rfl _ _ rfl rfl (.string R) (fun w0 _ => hsl w0) ?_; simp only [World.size_alloc, World.size_drew, Act.put, List.setIfInBounds_toArray, List.set_cons_succ, List.set_cons_zero]) | go_big_quiet_step (fail))
            refine wpQuiet_nil ?_
            refine WD.done (by kernel_rfl) ?_
            go_wp2_with (refine wpList_put rfl _ _ _ rfl rfl (.string Z) rfl rfl b4 (by simp [docL]) (by kernel_rfl) ?_; intro w5 f5 b5 hs5; simp only [World.size_alloc, World.size_drew, Act.put, List.setIfInBounds_toArray, List.set_cons_succ, List.set_cons_zero])
            go_roundw
            case rel =>
              refine ⟨no + 1, Z, out ++ X, g, rfl, hid ?_, hid (E4.out.trans f5 (by simp)), hid HTe.out, hid (by have := HF.out; have := HG.out; have := HZ.out; omega), hid (by have := HM.out; have := hRt.out; have := HZR.out; rw [ByteArray.size_append]; omega)⟩
              have e : docL K { S with no := no + 1, held := Z } = (docL K { S with no := no + 1, held := H, oc := false }).set 9 (.string Z) := by
                simp [docL, HOC.out]
              rw [e]
              exact b5
            case measure =>
              rw [heldSz_of (w := wr) (H := H) (B.out.cell 9)]
              have e5 : w5.cell? ⟨p, 9, none⟩ = some (.string Z) := b5.cell 9
              rw [heldSz_of e5]
              have := HZ.out
              omega
end
end Go.Proofs.YtneoagelcjfanaaGreatDoor.chn

/- Layer 22 (great seat): what comes of what is sent; how far two texts are alike (plain). -/
namespace Go.Proofs.YtneoagelcjfanaaGreatDoor.chn
open Go Go.Xr Go.RowKit Go.Proofs.YtneoagelcjfanaaGreatDoor Go.Proofs.YtneoagelcjfanaaGreatDoor.rcd
set_option linter.unusedVariables false
set_option linter.unusedSimpArgs false
/-- How far two rows of bytes are alike. -/
def cplL : List UInt8 → List UInt8 → Nat
  | a :: u, b :: v => if a = b then cplL u v + 1 else 0
  | _, _ => 0
theorem cplL_eq : ∀ (i : Nat) (a b : List UInt8), a.take i = b.take i → i ≤ a.length → i ≤ b.length → ¬ (i < a.length ∧ i < b.length ∧ g8 a i = g8 b i) → cplL a b = i
  | 0, [], b, _, _, _, _ => by cases b <;> rfl
  | 0, a :: u, [], _, _, _, _ => rfl
  | 0, a :: u, b :: v, _, _, _, h => by
    have hne : ¬ a = b := fun e => h ⟨by simp, by simp, e⟩
    show (if a = b then _ else 0) = 0
    rw [if_neg hne]
  | i + 1, [], b, _, h, _, _ => absurd h (by simp)
  | i + 1, a :: u, [], _, _, h, _ => absurd h (by simp)
  | i + 1, a :: u, b :: v, he, h1, h2, h => by
    simp only [List.take_succ_cons, List.cons.injEq] at he
    have ih := cplL_eq i u v he.2 (by simpa using h1) (by simpa using h2) (fun hh => h ⟨by simpa using hh.1, by simpa using hh.2.1, hh.2.2⟩)
    show (if a = b then _ else 0) = _
    rw [if_pos he.1, ih]
theorem cplL_le : ∀ (a b : List UInt8), cplL a b ≤ a.length ∧ cplL a b ≤ b.length ∧ a.take (cplL a b) = b.take (cplL a b)
  | [], b => by cases b <;> exact ⟨Nat.zero_le _, Nat.zero_le _, rfl⟩
  | a :: u, [] => ⟨Nat.zero_le _, Nat.zero_le _, rfl⟩
  | a :: u, b :: v => by
    show (if a = b then _ else 0) ≤ _ ∧ (if a = b then _ else 0) ≤ _ ∧ List.take (if a = b then _ else 0) _ = List.take (if a = b then _ else 0) _
    split
    · rename_i e
      obtain ⟨h1, h2, h3⟩ := cplL_le u v
      exact ⟨by simpa using h1, by simpa using h2, by rw [List.take_succ_cons, List.take_succ_cons, h3, e]⟩
    · exact ⟨Nat.zero_le _, Nat.zero_le _, rfl⟩
/-- How far two texts are alike. -/
def cpl (A B : ByteArray) : Nat := cplL A.data.toList B.data.toList
theorem cpl_eq {A B : ByteArray} {i : Nat} (h : A.data.toList.take i = B.data.toList.take i) (h1 : i ≤ A.size) (h2 : i ≤ B.size) (hn : ¬ (i < A.size ∧ i < B.size ∧ g8 A.data.toList i = g8 B.data.toList i)) : cpl A B = i :=
  cplL_eq i _ _ h (by rw [ba_len]; exact h1) (by rw [ba_len]; exact h2) (by rw [ba_len, ba_len]; exact hn)
theorem cpl_step {A B : List UInt8} {i : Nat} (h : A.take i = B.take i) (h1 : i < A.length) (h2 : i < B.length) (he : g8 A i = g8 B i) : A.take (i + 1) = B.take (i + 1) := by
  have e1 := g8_eq A i h1
  have e2 := g8_eq B i h2
  rw [List.take_add_one, List.take_add_one, e1, e2, h, he]
/-- What is sent: of so many texts. -/
def flowK : CH := chOf (kmS 0) 7 false
def sentS (l : List ByteArray) : ByteArray := wir flowK 0 (ckl l)
/-- What comes. -/
def comesS (X M : ByteArray) (at_ cut : Int) : ByteArray := if at_ < 0 ∨ (X.size : Int) < at_ then X else X.extract 0 at_.toNat ++ M ++ X.extract (min X.size (at_.toNat + cut.toNat)) X.size
theorem sentS_size (l : List ByteArray) (h1 : l.length ≤ 12) (h2 : totN l ≤ 32768) : (sentS l).size ≤ 262848 := by
  have h := wir_size flowK (ckl l) 0 (ckl_size l)
  have h3 := ckl_len l
  have h4 : (ckl l).length ≤ 16 := by omega
  unfold sentS
  have h5 : (ckl l).length * 16428 ≤ 16 * 16428 := Nat.mul_le_mul_right _ h4
  omega
theorem comesS_size (X M : ByteArray) (at_ cut : Int) (hX : X.size ≤ 262848) (hM : M.size ≤ 2048) : (comesS X M at_ cut).size ≤ 600000 := by
  unfold comesS
  split
  · omega
  · rw [ByteArray.size_append, ByteArray.size_append, ByteArray.size_extract, ByteArray.size_extract]
    omega
/-- Does something that was never sent bear a right tag? -/
def flowR : CH := chOf (kmS 0) 7 true
def forgedS (X Y : ByteArray) : Bool := decide ((takeS flowR 0 Y).out ≠ (takeS flowR 0 (X.extract 0 (cpl X Y))).out)
/-- What of the beginning is taken is a beginning of what was sent. -/
theorem most_prefix (l : List ByteArray) (n : Nat) (hn : n ≤ (sentS l).size) : ∃ Z, catB l = (takeS flowR 0 ((sentS l).extract 0 n)).out ++ Z := by
  obtain ⟨i, H', g1, g2, g3, g4, g5⟩ := take_wir (A := flowK) (B := flowR) rfl rfl rfl (keyC_size _ _) (keyM_size _ _) (ckl l) 0 (((sentS l).extract 0 n).size + 1) ((sentS l).extract 0 n) ⟨#[]⟩ ((sentS l).extract n (sentS l).size) (ckl_size l) (by
    apply ByteArray.ext
    simp only [ByteArray.data_append, ByteArray.data_extract]
    rw [Array.extract_append_extract, Nat.min_eq_left (Nat.zero_le _), Nat.max_eq_right hn]
    exact Array.extract_size ..) (Nat.lt_succ_self _)
  refine ⟨catB ((ckl l).drop i), ?_⟩
  show catB l = (takeL _ _ _ _ _).out ++ _
  rw [g2, bempty_app, ← catB_app, List.take_append_drop, ckl_cat]
/-- Of what was fed so far: what a channel is, and what it took. -/
structure FD (K : CH) (D : ByteArray) (S : CHS) (got : ByteArray) : Prop where
  ns : S.ns = 0
  cl : S.cl = decide ((takeS K 0 D).c ≠ 0)
  opn : (takeS K 0 D).c = 0 → S.no = (takeS K 0 D).no ∧ S.held = (takeS K 0 D).H ∧ S.oc = false
  shut : (takeS K 0 D).c ≠ 0 → S.held = ⟨#[]⟩
  out : got = (takeS K 0 D).out
theorem FD.start (K : CH) : FD K ⟨#[]⟩ CHS.init ⟨#[]⟩ := by
  have e : takeS K 0 ⟨#[]⟩ = ⟨0, ⟨#[]⟩, ⟨#[]⟩, 0⟩ := rfl
  exact ⟨rfl, by rw [e]; rfl, fun _ => by rw [e]; exact ⟨rfl, rfl, rfl⟩, fun h => absurd (by rw [e]) h, by rw [e]⟩
/-- What is taken of a piece, by a channel that may be shut. -/
def tkC (K : CH) (S : CHS) (P : ByteArray) : TK := if S.cl then ⟨S.no, S.held, ⟨#[]⟩, 3⟩ else takeS K S.no (S.held ++ P)
def tkN (K : CH) (S : CHS) (P : ByteArray) : CHS := if S.cl then S else takeN S (takeS K S.no (S.held ++ P))
theorem takeL_c (K : CH) : ∀ (f : Nat) (no : UInt64) (H out : ByteArray), (takeL K f no H out).c = 0 ∨ (takeL K f no H out).c = 51 ∨ (takeL K f no H out).c = 7
  | 0, _, _, _ => .inl rfl
  | f + 1, no, H, out => by
    rw [takeL_succ]
    have h := takeL_c K f (no + 1) (H.extract (4 + tellN H) H.size) (out ++ recT K.ci K.mi K.li (H.extract 4 (4 + tellN H)))
    split
    · exact .inl rfl
    · split
      · exact .inr (.inl rfl)
      · split
        · exact .inl rfl
        · split
          · exact h
          · exact .inr (.inr rfl)
theorem tkN_held (K : CH) (S : CHS) (P : ByteArray) : (tkN K S P).held.size ≤ S.held.size + P.size := by
  unfold tkN
  split
  · omega
  · have h : (takeS K S.no (S.held ++ P)).H.size ≤ (S.held ++ P).size := takeL_le K _ _ _ _
    rw [ByteArray.size_append] at h
    unfold takeN
    split
    · exact h
    · exact Nat.zero_le _
theorem tkN_oc (K : CH) (S : CHS) (P : ByteArray) (h : S.cl = false → S.oc = false) : (tkN K S P).cl = false → (tkN K S P).oc = false := by
  unfold tkN
  split
  · exact h
  · rename_i hc
    unfold takeN
    split
    · exact h
    · exact fun h => absurd h (by simp)
theorem tkN_cl (K : CH) (S : CHS) (P : ByteArray) (h : (tkC K S P).c ≠ 0) : (tkN K S P).cl = true := by
  unfold tkC at h
  unfold tkN
  split
  · assumption
  · rename_i hc
    rw [if_neg hc] at h
    unfold takeN
    rw [if_neg h]
theorem FD.go {K : CH} {D : ByteArray} {S : CHS} {got : ByteArray} (h : FD K D S got) (P : ByteArray) : FD K (D ++ P) (tkN K S P) (got ++ (tkC K S P).out) := by
  obtain ⟨f1, f2⟩ := take_feed K 0 D P
  by_cases hc : (takeS K 0 D).c = 0
  · obtain ⟨o1, o2, o3⟩ := h.opn hc
    have hcl : S.cl = false := by rw [h.cl]; simp [hc]
    have e := f1 hc
    have eT : tkC K S P = takeS K (takeS K 0 D).no ((takeS K 0 D).H ++ P) := by
      unfold tkC
      rw [hcl, o1, o2]
      rfl
    have eN : tkN K S P = takeN S (tkC K S P) := by
      unfold tkN tkC
      rw [hcl]
      rfl
    rw [eN, eT]
    obtain ⟨T, hT⟩ : ∃ T, takeS K (takeS K 0 D).no ((takeS K 0 D).H ++ P) = T := ⟨_, rfl⟩
    rw [hT] at e ⊢
    by_cases hz : T.c = 0
    · have e2 : takeN S T = { S with no := T.no, held := T.H } := by unfold takeN; rw [if_pos hz]
      rw [e2]
      exact ⟨h.ns, by rw [e]; simp [hcl, hz], fun _ => by rw [e]; exact ⟨rfl, rfl, o3⟩, fun hh => absurd (by rw [e]; exact hz) hh, by rw [e, h.out]⟩
    · have e2 : takeN S T = { S with no := T.no, held := ⟨#[]⟩, cl := true, oc := decide (T.c = 7) } := by unfold takeN; rw [if_neg hz]
      rw [e2]
      exact ⟨h.ns, by rw [e]; simp [hz], fun hh => absurd (by rw [e] at hh; exact hh) hz, fun _ => rfl, by rw [e, h.out]⟩
  · obtain ⟨g1, g2⟩ := f2 hc
    have hcl : S.cl = true := by rw [h.cl]; simp [hc]
    have eT : (tkC K S P).out = ⟨#[]⟩ := by unfold tkC; rw [hcl]; rfl
    have eN : tkN K S P = S := by unfold tkN; rw [hcl]; rfl
    rw [eN, eT, app_bempty]
    exact ⟨h.ns, by rw [g1]; exact h.cl, fun hh => absurd (by rw [← g1]; exact hh) hc, fun _ => h.shut hc, by rw [g2]; exact h.out⟩
end Go.Proofs.YtneoagelcjfanaaGreatDoor.chn

/- Layer 22 (great seat): Take of either side, shut or not; a flow's heavy and piece. -/
namespace Go.Proofs.YtneoagelcjfanaaGreatDoor.chn
open Go Go.Xr Go.RowKit Go.Proofs.YtneoagelcjfanaaGreatDoor Go.Proofs.YtneoagelcjfanaaGreatDoor.rcd
set_option linter.unusedVariables false
set_option linter.unusedSimpArgs false
section
variable {w w' w0 : World} {cb s o p : Nat} {K : CH} {S : CHS}
theorem ctake_all (h : Held w (chR cb s o K S)) (hk : KOk K) (hoc : S.cl = false → S.oc = false) (t : ByteArray) (ht : S.held.size + t.size ≤ 1099511627776) :
    Calls Tryz.prog 18 #[.pointer (some ⟨cb, 0, none⟩), .string t] w fun e w' => e = .returned (.tuple #[.string (tkC K S t).out, .int .i64 (tkC K S t).c]) ∧ Ev w (chR cb s o K S) w' (chR cb s o K (tkN K S t)) := by
  cases hc : S.cl with
  | false =>
    have e1 : tkC K S t = takeS K S.no (S.held ++ t) := by unfold tkC; rw [hc]; rfl
    have e2 : tkN K S t = takeN S (takeS K S.no (S.held ++ t)) := by unfold tkN; rw [hc]; rfl
    rw [e1, e2]
    exact ctake_any h hk hc (hoc hc) t ht _ rfl
  | true =>
    have e1 : tkC K S t = ⟨S.no, S.held, ⟨#[]⟩, 3⟩ := by unfold tkC; rw [hc]; rfl
    have e2 : tkN K S t = S := by unfold tkN; rw [hc]; rfl
    rw [e1, e2]
    refine (ctake_shut h hc t).mono ?_
    rintro e w' ⟨rfl, f⟩
    exact ⟨rfl, (Ev.refl h).step f⟩
theorem doc_ev {L L' : List Value} (h : Held w [Res.blk p L]) (b : Blk w' p L') (f : Fr [p] w w') : Ev w [Res.blk p L] w' [Res.blk p L'] :=
  (Ev.refl h).at 0 rfl f (fun b hb => .inl hb) (Res.On.blk b) (fun b hb => .inl hb)
theorem dtake_all (h : Held w [Res.blk p (docL K S)]) (hk : KOk K) (hoc : S.cl = false → S.oc = false) (t : ByteArray) (ht : S.held.size + t.size ≤ 1099511627776) :
    Calls Tryz.prog 19 #[.pointer (some ⟨p, 0, none⟩), .string t] w fun e w' => e = .returned (.tuple #[.string (tkC K S t).out, .int .i64 (tkC K S t).c]) ∧ Ev w [Res.blk p (docL K S)] w' [Res.blk p (docL K (tkN K S t))] := by
  cases hc : S.cl with
  | false =>
    have e1 : tkC K S t = takeS K S.no (S.held ++ t) := by unfold tkC; rw [hc]; rfl
    have e2 : tkN K S t = takeN S (takeS K S.no (S.held ++ t)) := by unfold tkN; rw [hc]; rfl
    rw [e1, e2]
    refine (dtake_any (h.blkAt 0 rfl) hk hc (hoc hc) t ht _ rfl).mono ?_
    rintro e w' ⟨rfl, b, f⟩
    exact ⟨rfl, doc_ev h b f⟩
  | true =>
    have e1 : tkC K S t = ⟨S.no, S.held, ⟨#[]⟩, 3⟩ := by unfold tkC; rw [hc]; rfl
    have e2 : tkN K S t = S := by unfold tkN; rw [hc]; rfl
    rw [e1, e2]
    refine (dtake_shut (h.blkAt 0 rfl) hc t).mono ?_
    rintro e w' ⟨rfl, rfl⟩
    exact ⟨rfl, Ev.refl h⟩
theorem dsend_ev (h : Held w [Res.blk p (docL K S)]) (hk : KOk K) (hc : S.cl = false) (t : ByteArray) (ht : t.size ≤ 1099511627776) :
    Calls Tryz.prog 11 #[.pointer (some ⟨p, 0, none⟩), .string t] w fun e w' => e = .returned (.tuple #[.string (sendS K S.ns t), .int .i64 0]) ∧ Ev w [Res.blk p (docL K S)] w' [Res.blk p (docL K { S with ns := S.ns + UInt64.ofNat (pcs t) })] := by
  refine (dsend_any (h.blkAt 0 rfl) hk hc t ht).mono ?_
  rintro e w' ⟨rfl, b, f⟩
  exact ⟨rfl, doc_ev h b f⟩
end
/-- A flow's texts and pieces. -/
structure FL (w : World) (tv pv : Value) (l : List ByteArray) (ms : List Int) (LT LP : Option Nat) : Prop where
  t : Rc w 1 tv l.length (l.map .string) LT
  tsz : ∀ s ∈ l, s.size ≤ 140737488351232
  tm : l.length ≤ 9223372036854775807
  p : Rc w 1 pv ms.length (ms.map (.int .u16)) LP
  pm : ms.length ≤ 9223372036854775807
  pb : ∀ y ∈ ms, 0 ≤ y ∧ y ≤ 65535
theorem FL.keep {w w' : World} {tv pv : Value} {l : List ByteArray} {ms : List Int} {LT LP : Option Nat} (h : FL w tv pv l ms LT LP) (f : Fr [] w w') : FL w' tv pv l ms LT LP :=
  ⟨h.t.keep f (by simp), h.tsz, h.tm, h.p.keep f (by simp), h.pm, h.pb⟩
def flowV (tv pv : Value) (at_ cut : Int) (more : ByteArray) (conn : UInt64) (sec : UInt8) : List Value := [tv, pv, .int .i64 at_, .int .u16 cut, .string more, W64 conn, bt sec]
def fheavyS (l : List ByteArray) (ms : List Int) (more : ByteArray) : Bool := cheavyS l || decide (200 < ms.length) || decide (2048 < more.size)
section
variable {w : World} {tv pv : Value} {l : List ByteArray} {ms : List Int} {LT LP : Option Nat}
set_option maxRecDepth 20000 in
set_option maxHeartbeats 1000000 in
theorem fheavy_any (h : FL w tv pv l ms LT LP) (at_ cut : Int) (more : ByteArray) (conn : UInt64) (sec : UInt8) : Calls Tryz.prog 14 #[.agg (flowV tv pv at_ cut more conn sec).toArray] w fun e w' => e = .returned (.bool (fheavyS l ms more)) ∧ Fr [] w w' := by
  obtain ⟨la, lc, rfl⟩ := h.t.isSlice
  obtain ⟨ua, uc, rfl⟩ := h.p.isSlice
  have HH := hid fun (w1 : World) (f : Fr [] w w1) => cheavy_any (h.keep f).t h.tsz h.tm
  unfold fheavyS
  obtain ⟨n, hn⟩ : ∃ n, l.length = n := ⟨_, rfl⟩
  obtain ⟨m, hm⟩ : ∃ n, ms.length = n := ⟨_, rfl⟩
  rw [hn] at HH ⊢
  rw [hm]
  clear h hn hm
  cases hc : cheavyS l with
  | true =>
    rw [hc] at HH
    clear hc
    go_enter Tryz.func14, Tryz.ntmps14
    go_wp2_with (first
      | (refine wpList_box rfl _ _ rfl (flowV (.slice la n lc) (.slice ua m uc) at_ cut more conn sec) rfl ?_; intro w1 f1 hlt1 hb1; have k0 : w1.cell? ⟨w.heap.size, 0, none⟩ = some (.slice la n lc) := hb1.cell 0; have k1 : w1.cell? ⟨w.heap.size, 1, none⟩ = some (.slice ua m uc) := hb1.cell 1; have k4 : w1.cell? ⟨w.heap.size, 4, none⟩ = some (.string more) := hb1.cell 4; simp only [World.size_alloc, World.size_drew, Act.put, List.setIfInBounds_toArray, List.set_cons_succ, List.set_cons_zero])
      | (go_at_call 6; refine (HH.out _ f1).mono ?_; rintro e w2 ⟨rfl, f2⟩))
    go_ret
    exact ⟨rfl, f1.trans' f2⟩
  | false =>
    rw [hc] at HH
    clear hc
    cases hd : decide (200 < m) with
    | true =>
      have hd' : decide (200 < (m : Int)) = true := by simp at hd ⊢; omega
      go_enter Tryz.func14, Tryz.ntmps14
      go_wp2_with (first
        | (refine wpList_box rfl _ _ rfl (flowV (.slice la n lc) (.slice ua m uc) at_ cut more conn sec) rfl ?_; intro w1 f1 hlt1 hb1; have k0 : w1.cell? ⟨w.heap.size, 0, none⟩ = some (.slice la n lc) := hb1.cell 0; have k1 : w1.cell? ⟨w.heap.size, 1, none⟩ = some (.slice ua m uc) := hb1.cell 1; have k4 : w1.cell? ⟨w.heap.size, 4, none⟩ = some (.string more) := hb1.cell 4; simp only [World.size_alloc, World.size_drew, Act.put, List.setIfInBounds_toArray, List.set_cons_succ, List.set_cons_zero])
        | (go_at_call 6; refine (HH.out _ f1).mono ?_; rintro e w2 ⟨rfl, f2⟩; have j1 := f2.cell_some k1))
      go_ret
      exact ⟨rfl, f1.trans' f2⟩
    | false =>
      have hd' : decide (200 < (m : Int)) = false := by simp at hd ⊢; omega
      have he : decide (2048 < (more.size : Int)) = decide (2048 < more.size) := decide_eq_decide.2 (by omega)
      go_enter Tryz.func14, Tryz.ntmps14
      go_wp2_with (first
        | (refine wpList_box rfl _ _ rfl (flowV (.slice la n lc) (.slice ua m uc) at_ cut more conn sec) rfl ?_; intro w1 f1 hlt1 hb1; have k0 : w1.cell? ⟨w.heap.size, 0, none⟩ = some (.slice la n lc) := hb1.cell 0; have k1 : w1.cell? ⟨w.heap.size, 1, none⟩ = some (.slice ua m uc) := hb1.cell 1; have k4 : w1.cell? ⟨w.heap.size, 4, none⟩ = some (.string more) := hb1.cell 4; simp only [World.size_alloc, World.size_drew, Act.put, List.setIfInBounds_toArray, List.set_cons_succ, List.set_cons_zero])
        | (go_at_call 6; refine (HH.out _ f1).mono ?_; rintro e w2 ⟨rfl, f2⟩; have j1 := f2.cell_some k1; have j4 := f2.cell_some k4))
      go_ret
      exact ⟨by simp, f1.trans' f2⟩
/-- How long the next piece is. -/
def pieceN (ms : List Int) (i : Nat) (X : ByteArray) : Nat := if ms.length ≤ i then X.size else (min (X.size : Int) (ms.getD i 0)).toNat
theorem pieceN_le (ms : List Int) (i : Nat) (X : ByteArray) : pieceN ms i X ≤ X.size := by
  unfold pieceN
  split
  · exact Nat.le_refl _
  · omega
set_option maxRecDepth 20000 in
set_option maxHeartbeats 1000000 in
theorem piece_any (h : FL w tv pv l ms LT LP) (at_ cut : Int) (more : ByteArray) (conn : UInt64) (sec : UInt8) (i : Nat) (hi : i ≤ 1000) (X : ByteArray) : Calls Tryz.prog 17 #[.agg (flowV tv pv at_ cut more conn sec).toArray, .int .i64 (i : Int), .string X] w fun e w' => e = .returned (.int .i64 ((pieceN ms i X : Nat) : Int)) ∧ Fr [] w w' := by
  obtain ⟨la, lc, rfl⟩ := h.t.isSlice
  obtain ⟨ua, uc, rfl⟩ := h.p.isSlice
  have HU := hid h.p
  have HB := hid h.pb
  obtain ⟨n, hn⟩ : ∃ n, l.length = n := ⟨_, rfl⟩
  obtain ⟨m, hm⟩ : ∃ n, ms.length = n := ⟨_, rfl⟩
  have hmm := h.pm
  rw [hn]
  rw [hm] at HU hmm ⊢
  clear h
  by_cases hi2 : m ≤ i
  · have hd : decide ((m : Int) ≤ (i : Int)) = true := by simp; omega
    have hd2 : decide (m ≤ i) = true := by simp; omega
    have e : pieceN ms i X = X.size := by unfold pieceN; rw [if_pos (by omega)]
    rw [e]
    clear e hn hm hi2
    go_enter Tryz.func17, Tryz.ntmps17
    go_wp2_with (refine wpList_box rfl _ _ rfl (flowV (.slice la n lc) (.slice ua m uc) at_ cut more conn sec) rfl ?_; intro w1 f1 hlt1 hb1; have k0 : w1.cell? ⟨w.heap.size, 0, none⟩ = some (.slice la n lc) := hb1.cell 0; have k1 : w1.cell? ⟨w.heap.size, 1, none⟩ = some (.slice ua m uc) := hb1.cell 1; have k4 : w1.cell? ⟨w.heap.size, 4, none⟩ = some (.string more) := hb1.cell 4; simp only [World.size_alloc, World.size_drew, Act.put, List.setIfInBounds_toArray, List.set_cons_succ, List.set_cons_zero])
    go_ret
    exact ⟨rfl, f1⟩
  · have hd : decide ((m : Int) ≤ (i : Int)) = false := by simp; omega
    have hd2 : decide (m ≤ i) = false := by simp; omega
    have him : i < ms.length := by omega
    obtain ⟨mb, mo, hue, hmw, hmc⟩ : ∃ mb mo, ua = some ⟨mb, mo, none⟩ ∧ mb < w.heap.size ∧ w.cell? ⟨mb, mo + i, none⟩ = some (.int .u16 (ms[i]'him)) := by
      obtain ⟨b, o, c', hB, hv, g1, g2, g3, g4⟩ := HU.out.some (by omega)
      obtain ⟨rfl, rfl⟩ : ua = some ⟨b, o, none⟩ ∧ uc = c' := by simpa using hv
      refine ⟨b, o, rfl, g3, ?_⟩
      rw [g4 i (by simp; omega), List.getElem?_map, List.getElem?_eq_getElem him]
      rfl
    subst hue
    have hmx := HB.out _ (List.getElem_mem him)
    have e0 : ms.getD i 0 = ms[i]'him := by rw [List.getD_eq_getElem?_getD, List.getElem?_eq_getElem him]; rfl
    have e : pieceN ms i X = (min (X.size : Int) (ms[i]'him)).toNat := by unfold pieceN; rw [if_neg (by omega), e0]
    rw [e]
    obtain ⟨x, hx⟩ : ∃ x, ms[i]'him = x := ⟨_, rfl⟩
    rw [hx] at hmc hmx ⊢
    obtain ⟨q, hq⟩ : ∃ q : Nat, min (X.size : Int) x = (q : Int) := Int.eq_ofNat_of_zero_le (by omega)
    rw [hq, show ((q : Int).toNat : Int) = (q : Int) from by simp]
    have hie : i < m := by omega
    clear e hx e0 him hn hm hi2 HU HB
    go_enter Tryz.func17, Tryz.ntmps17
    go_wp2_with (refine wpList_box rfl _ _ rfl (flowV (.slice la n lc) (.slice (some ⟨mb, mo, none⟩) m uc) at_ cut more conn sec) rfl ?_; intro w1 f1 hlt1 hb1; have k1 : w1.cell? ⟨w.heap.size, 1, none⟩ = some (.slice (some ⟨mb, mo, none⟩) m uc) := hb1.cell 1; have kc := f1.cell_some hmc; simp only [World.size_alloc, World.size_drew, Act.put, List.setIfInBounds_toArray, List.set_cons_succ, List.set_cons_zero])
    go_ret
    exact ⟨rfl, f1⟩
end
end Go.Proofs.YtneoagelcjfanaaGreatDoor.chn

/- Layer 22 (great seat): a flow's wire. -/
namespace Go.Proofs.YtneoagelcjfanaaGreatDoor.chn
open Go Go.Xr Go.RowKit Go.Proofs.YtneoagelcjfanaaGreatDoor Go.Proofs.YtneoagelcjfanaaGreatDoor.rcd
set_option linter.unusedVariables false
set_option linter.unusedSimpArgs false
section
variable {w : World} {tv pv : Value} {l : List ByteArray} {ms : List Int} {LT LP : Option Nat}
set_option maxRecDepth 20000 in
set_option maxHeartbeats 4000000 in
theorem wire_any (h : FL w tv pv l ms LT LP) (tb : TB w) (at_ cut : Int) (ha : -9223372036854775808 ≤ at_ ∧ at_ ≤ 9223372036854775807) (hcu : 0 ≤ cut ∧ cut ≤ 65535) (more : ByteArray) (conn : UInt64) (sec : UInt8) (hl : l.length ≤ 12) (ht : totN l ≤ 32768) (hm : more.size ≤ 2048) :
    Calls Tryz.prog 15 #[.agg (flowV tv pv at_ cut more conn sec).toArray] w fun e w' => e = .returned (.tuple #[.string (sentS l), .string (comesS (sentS l) more at_ cut)]) ∧ Fr [] w w' := by
  obtain ⟨la, lc, rfl⟩ := h.t.isSlice
  obtain ⟨ua, uc, rfl⟩ := h.p.isSlice
  have HM := hid fun w1 : World => master_any w1 0
  have hmk := kmS_size 0
  rw [show bt 0 = Value.int .u8 0 from rfl] at HM
  have HN := hid fun (w1 : World) (f : Fr [] w w1) => dnew_any (kmS 0) 7 false w1 (tb.keep f) hmk
  rw [show W64 7 = Value.int .u64 7 from rfl, show chOf (kmS 0) 7 false = flowK from rfl] at HN
  have KF : KOk flowK := chOf_ok _ _ _
  have HXz := sentS_size l hl ht
  have HSe := hid (show sentS l = wir flowK 0 (ckl l) from rfl)
  generalize flowK = K at *
  generalize kmS 0 = mk at *
  have HL := hid h.t
  have HTOT := hid ht
  have HLL := hid hl
  obtain ⟨n, hn⟩ : ∃ n, l.length = n := ⟨_, rfl⟩
  obtain ⟨m, hms⟩ : ∃ n, ms.length = n := ⟨_, rfl⟩
  have HLN := hid hn
  have hn12 : n ≤ 12 := by omega
  rw [hn] at HL ⊢
  obtain ⟨X, hX⟩ : ∃ X, sentS l = X := ⟨_, rfl⟩
  rw [hX] at HSe HXz ⊢
  obtain ⟨Y, hY⟩ : ∃ Y, comesS X more at_ cut = Y := ⟨_, rfl⟩
  have HY := hid hY
  rw [hY]
  clear hY hX
  rw [hms]
  obtain ⟨cs, hcs⟩ : ∃ cs : List Value, flowV (.slice la n lc) (.slice ua m uc) at_ cut more conn sec = cs := ⟨_, rfl⟩
  have HCS := hid hcs
  have HXZ := hid HXz
  have GS := hid fun (w1 : World) (p k : Nat) (t : ByteArray) (h : Held w1 [Res.blk p (docL K { CHS.init with ns := 0 + UInt64.ofNat k })]) (ht : t.size ≤ 32768) => dsend_ev h KF rfl t (by omega)
  clear h tb hl ht hmk hn hms KF HXz
  go_enter Tryz.func15, Tryz.ntmps15
  go_wp2_with (first
    | (refine wpList_box rfl _ _ rfl (flowV (.slice la n lc) (.slice ua m uc) at_ cut more conn sec) rfl ?_; intro w1 f1 hlt1 hb1; rw [hcs] at hb1; have T1 := hid ((Ev.start w).new f1 (Res.On.blk hb1) (fun b hb => by simp [Res.blk] at hb; omega)); clear hb1 hlt1; simp only [World.size_alloc, World.size_drew, Act.put, List.setIfInBounds_toArray, List.set_cons_succ, List.set_cons_zero])
    | (go_at_call 16; refine (HM.out _).mono ?_; rintro e w2 ⟨rfl, f2⟩; have T2 := hid (T1.out.step f2); have g2 := Ev.nil T2.out; clear T1 f2 f1 HM)
    | (go_at_call 9; refine (HN.out _ g2).mono ?_; rintro e w3 ⟨p, rfl, E3⟩; have T3 := hid (two_n T2.out E3); clear E3 T2 g2 HN))
  obtain ⟨bb, hbb⟩ : ∃ bb, w.heap.size = bb := ⟨_, rfl⟩
  rw [hbb] at T3 ⊢
  clear hbb
  go_loopw [2, 5] (fun sv iv wr => ∃ i : Nat, i ≤ n ∧ iv = .int .i64 (i : Int) ∧ sv = .string (wir K 0 (ckl (l.take i))) ∧ Hid (Ev w [] wr ([Res.blk p (docL K { CHS.init with ns := 0 + UInt64.ofNat (ckl (l.take i)).length })] ++ [Res.blk bb cs]))) (fun _ iv _ => n - (intOf iv).toNat)
  case atStart => exact ⟨0, Nat.zero_le _, rfl, by simp [ckl, wir], T3⟩
  case round =>
    obtain ⟨i, hi, rfl, rfl, hE⟩ := hrel
    have hbx := (two_ha hE.out).blkAt 0 rfl
    rw [← HCS.out] at hbx
    have k0 : wr.cell? ⟨bb, 0, none⟩ = some (.slice la n lc) := hbx.cell 0
    by_cases hli : i < n
    case pos =>
      have hd1 : decide (i < n) = true := by simp; omega
      obtain ⟨lb, off, rfl, _, hlb, hh, hcell⟩ := rc_at (HL.out.keep (Ev.nil hE.out) (by simp)) hli
      have htk := ckl_take l i hh
      have hts := totN_mem l _ (List.getElem_mem hh)
      have hl8 : (ckl (l.take (i + 1))).length ≤ 16 := by
        have a1 := ckl_len (l.take (i + 1))
        have a2 := totN_take_le l (i + 1)
        have a3 := HTOT.out
        have a4 : (l.take (i + 1)).length ≤ 12 := by have := HLL.out; rw [List.length_take]; omega
        omega
      have hws := wir_size K (ckl (l.take (i + 1))) 0 (ckl_size _)
      have hwa : wir K 0 (ckl (l.take (i + 1))) = wir K 0 (ckl (l.take i)) ++ sendS K (0 + UInt64.ofNat (ckl (l.take i)).length) l[i] := by
        rw [htk, wir_app, sendS_wir]
      have hkk : 0 + UInt64.ofNat (ckl (l.take i)).length + UInt64.ofNat (pcs l[i]) = 0 + UInt64.ofNat (ckl (l.take (i + 1))).length := by
        rw [htk, List.length_append, cks_len, UInt64.ofNat_add, UInt64.add_assoc]
      have HSend := hid (GS.out wr p (ckl (l.take i)).length l[i] (two_hb hE.out) (by have := HTOT.out; omega))
      have e9 : ({ CHS.init with ns := 0 + UInt64.ofNat (ckl (l.take i)).length + UInt64.ofNat (pcs l[i]) } : CHS) = { CHS.init with ns := 0 + UInt64.ofNat (ckl (l.take (i + 1))).length } := by rw [hkk]
      have HSend2 : Hid (Calls Tryz.prog 11 #[.pointer (some ⟨p, 0, none⟩), .string l[i]] wr fun e w' => e = .returned (.tuple #[.string (sendS K (0 + UInt64.ofNat (ckl (l.take i)).length) l[i]), .int .i64 0]) ∧ Ev wr [Res.blk p (docL K { CHS.init with ns := 0 + UInt64.ofNat (ckl (l.take i)).length })] w' [Res.blk p (docL K { CHS.init with ns := 0 + UInt64.ofNat (ckl (l.take (i + 1))).length })]) := by
        refine hid (HSend.out.mono ?_)
        rintro e w' ⟨q1, q2⟩
        exact ⟨q1, e9 ▸ q2⟩
      clear HSend e9 hkk htk GS T3
      obtain ⟨t, ht⟩ : ∃ t, l[i] = t := ⟨_, rfl⟩
      obtain ⟨k, hk⟩ : ∃ k, (ckl (l.take i)).length = k := ⟨_, rfl⟩
      obtain ⟨sd, hsd⟩ : ∃ sd, sendS K (0 + UInt64.ofNat k) t = sd := ⟨_, rfl⟩
      obtain ⟨Wi, hWi⟩ : ∃ Wi, wir K 0 (ckl (l.take i)) = Wi := ⟨_, rfl⟩
      rw [ht] at hcell hts hwa HSend2
      rw [hk] at hE hwa HSend2
      rw [hsd] at hwa HSend2
      rw [hWi] at hwa ⊢
      have hb1 : Wi.size + sd.size ≤ 140737488355328 := by
        have := congrArg ByteArray.size hwa
        rw [ByteArray.size_append] at this
        omega
      have HWA := hid hwa
      clear hwa hws hts hl8 hsd hWi ht hk hbx
      go_wp2_with (first | (go_at_call 11; refine HSend2.out.mono ?_; rintro e w5 ⟨rfl, h5⟩; have T5 := hid (two_b hE.out h5); clear h5 hE hcell k0))
      go_roundw
      case rel => exact ⟨i + 1, by omega, by go_num, by rw [HWA.out], T5⟩
      case measure => simp [intOf]; omega
    case neg =>
      have hd1 : decide (i < n) = false := by simp; omega
      have hin : i = n := by omega
      subst hin
      have etk : l.take i = l := by rw [← HLN.out]; exact List.take_length
      rw [etk] at hE ⊢
      rw [← HSe.out]
      have k2 : wr.cell? ⟨bb, 2, none⟩ = some (.int .i64 at_) := hbx.cell 2
      have k3 : wr.cell? ⟨bb, 3, none⟩ = some (.int .u16 cut) := hbx.cell 3
      have k4 : wr.cell? ⟨bb, 4, none⟩ = some (.string more) := hbx.cell 4
      have T := hid (Ev.nil hE.out)
      have hXz := HXZ.out
      clear etk HL HTOT HLL HLN GS T3 hbx hi hli HSe HXZ hE
      by_cases hn : at_ < 0
      · have hc : comesS X more at_ cut = X := by unfold comesS; rw [if_pos (.inl hn)]
        have hd : decide (at_ < 0) = true := by simpa using hn
        have HC := hid (HY.out.symm.trans hc)
        clear hc HY
        go_wp2_with fail
        go_ret2
        rw [HC.out]
        exact ⟨rfl, T.out⟩
      · obtain ⟨a, rfl⟩ := Int.eq_ofNat_of_zero_le (show 0 ≤ at_ by omega)
        have hd : decide ((a : Int) < 0) = false := by simp
        by_cases hg : X.size < a
        · have hc : comesS X more (a : Int) cut = X := by unfold comesS; rw [if_pos (.inr (by omega))]
          have hg1 : decide ((X.size : Int) < (a : Int)) = true := by simp; omega
          have hg2 : decide (X.size < a) = true := by simp; omega
          have HC := hid (HY.out.symm.trans hc)
          clear hc HY
          go_wp2_with fail
          go_ret2
          rw [HC.out]
          exact ⟨rfl, T.out⟩
        · obtain ⟨c, rfl⟩ := Int.eq_ofNat_of_zero_le hcu.1
          have hg1 : decide ((X.size : Int) < (a : Int)) = false := by simp; omega
          have hg2 : decide (X.size < a) = false := by simp; omega
          obtain ⟨q, hq⟩ : ∃ q, min X.size (a + c) = q := ⟨_, rfl⟩
          have hqi : min (X.size : Int) ((a : Int) + (c : Int)) = (q : Int) := by omega
          have hqX : q ≤ X.size := by omega
          have haX : a ≤ X.size := by omega
          have haX2 : (a : Int) ≤ 262848 := by omega
          have hcu2 : (c : Int) ≤ 65535 := hcu.2
          have hc : comesS X more (a : Int) (c : Int) = X.extract 0 a ++ more ++ X.extract q X.size := by
            unfold comesS
            rw [if_neg (by omega)]
            simp only [Int.toNat_natCast]
            rw [hq]
          have j2 : wr.drew.cell? ⟨bb, 2, none⟩ = some (.int .i64 (a : Int)) := k2
          have j4 : wr.drew.cell? ⟨bb, 4, none⟩ = some (.string more) := k4
          have hs1 : (X.extract 0 a).size + more.size ≤ 140737488355328 := by rw [ByteArray.size_extract]; omega
          have hs2 : (X.extract 0 a ++ more).size + (X.extract q X.size).size ≤ 140737488355328 := by rw [ByteArray.size_append, ByteArray.size_extract, ByteArray.size_extract]; omega
          have T' := hid (T.out.drew)
          have HC := hid (HY.out.symm.trans hc)
          clear hc HY hq ha hcu
          go_wp2_with fail
          refine wp_region_D (fun _ => True) false [] (by kernel_rfl) ?_
          refine WD.pure [0, 1, 2, 3, 4, 5, 6, 7, 8, 9, 10, 11, 12, 13] (by kernel_rfl) trivial ?_
          simp only [pick, List.toList_toArray, List.map_cons, List.map_nil, List.getD_cons_succ, List.getD_cons_zero]
          repeat (first | go_big_quiet_step (fail))
          refine wpQuiet_nil ?_
          refine WD.done (by kernel_rfl) ?_
          go_wp2_with fail
          go_ret2
          rw [HC.out]
          exact ⟨rfl, T'.out⟩
end
end Go.Proofs.YtneoagelcjfanaaGreatDoor.chn
