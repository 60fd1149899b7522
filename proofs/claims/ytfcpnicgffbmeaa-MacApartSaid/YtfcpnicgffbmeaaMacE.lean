/- Layer 2, mac: Same, Is, small. -/
import Derived.Test.YtfcpnicgffbmeaaMacD
namespace Go.Proofs.Ytfcpnicgffbmeaa
open Go Go.Xr Go.RowKit
set_option linter.unusedVariables false
set_option linter.unusedSimpArgs false

theorem eqg_u8_c (t : TypeId) (x y : Operand) (a : UInt8) (n : Int) : eqGuard .eql t x y (bt a) (.int .u8 n) = pure () := rfl
attribute [local go_sem] xor_u8 or_u8 eql_u8_c eqg_u8_c

set_option maxRecDepth 20000 in
theorem same_any {w : World} (s t : ByteArray) (hs : s.size ≤ 9223372036854775807) (ht : t.size ≤ 9223372036854775807) : Calls Try.prog 19 #[.string s, .string t] w fun e w' => e = .returned (.bool (decide (s = t))) ∧ Fr [] w w' := by
  obtain ⟨p, hp⟩ : ∃ p, s.data.toList = p := ⟨_, rfl⟩
  obtain ⟨q, hq⟩ : ∃ q, t.data.toList = q := ⟨_, rfl⟩
  have hpl : p.length = s.size := by rw [← hp]; exact bytes_len s
  have hql : q.length = t.size := by rw [← hq]; exact bytes_len t
  have hst : s = t ↔ p = q := by
    constructor
    · rintro rfl; rw [← hp, ← hq]
    · intro h
      apply ByteArray.ext
      apply Array.ext'
      rw [hp, hq, h]
  have hdd : decide (s = t) = ((((difX p q (min s.size t.size)).toNat : Int) == 0) && decide ((s.size : Int) = (t.size : Int))) := by
    rw [Bool.eq_iff_iff]
    simp only [decide_eq_true_eq, Bool.and_eq_true, beq_iff_eq]
    rw [hst, ← difX_same, hpl, hql]
    constructor
    · rintro ⟨h1, h2⟩
      exact ⟨by rw [h1]; rfl, by omega⟩
    · rintro ⟨h1, h2⟩
      exact ⟨UInt8.toNat_inj.1 (by rw [show (0 : UInt8).toNat = 0 from rfl]; omega), by omega⟩
  rw [hdd]
  have Hp := hid hp
  have Hq := hid hq
  clear hdd hst hpl hql hp hq
  obtain ⟨M, hM⟩ : ∃ M, min s.size t.size = M := ⟨_, rfl⟩
  have hM1 : M ≤ s.size := by omega
  have hM2 : M ≤ t.size := by omega
  have hmm : min (s.size : Int) (t.size : Int) = (M : Int) := by omega
  rw [hM]
  have HM := hid hM
  obtain ⟨R, hR⟩ : ∃ R, ((((difX p q M).toNat : Int) == 0) && decide ((s.size : Int) = (t.size : Int))) = R := ⟨_, rfl⟩
  rw [hR]
  have HR := hid hR
  clear hM hR
  go_enter Try.func19, Try.ntmps19
  go_wp2_with fail
  go_loopw [5, 12] (fun xv iv wr => ∃ i : Nat, i ≤ M ∧ iv = .int .i64 i ∧ xv = bt (difX p q i) ∧ Fr [] w wr) (fun _ iv _ => M - (intOf iv).toNat)
  case atStart => exact ⟨0, by omega, rfl, rfl, Fr.refl _ _⟩
  case round =>
    obtain ⟨i, hi, rfl, rfl, f⟩ := hrel
    by_cases hlt : i < M
    · have hd1 : decide (i < M) = true := by simp; omega
      have hix : ∀ w0 : World, (Instr.index 9 (.string s) (.int .i64 i)).run Try.prog w0 = .ok (bt (g8 p i)) w0 := fun w0 => by
        have := index_str (P := Try.prog) w0 9 s .i64 i i Try.underlying9 rfl (by omega) 0
        rw [Hp.out] at this
        exact this
      have hiy : ∀ w0 : World, (Instr.index 9 (.string t) (.int .i64 i)).run Try.prog w0 = .ok (bt (g8 q i)) w0 := fun w0 => by
        have := index_str (P := Try.prog) w0 9 t .i64 i i Try.underlying9 rfl (by omega) 0
        rw [Hq.out] at this
        exact this
      go_wp2_with fail
      obtain ⟨ι, W, hι, hW1, hW2, hW0⟩ := family (fun w' => True) (w := wr.drew) trivial
      have HW1 := hid hW1
      have HW2 := hid hW2
      have HW0 := hid hW0
      clear hW1 hW2 hW0
      refine wp_region_X (fun w' => ∃ j, w' = W j) true (by kernel_rfl) ?_
      refine WX.pure [0, 1, 2, 3, 4, 5, 6, 7, 8, 9] (by kernel_rfl) HW0.out ?_
      simp only [pick, List.toList_toArray, List.map_cons, List.map_nil, List.getD_cons_succ, List.getD_cons_zero]
      repeat (go_big_quiet_step (fail))
      refine wpQuiet_nil ?_
      refine WX.done (by kernel_rfl) ?_
      clear HW1 HW2 HW0 hι W ι
      have f2 := f.drew
      go_wp2_with fail
      go_roundw
      case rel => exact ⟨i + 1, by omega, by go_num, rfl, f2⟩
      case measure => simp [intOf]; omega
    · have ei : i = M := by omega
      have hd1 : decide (i < M) = false := by simp; omega
      have Hdx := hid (show ((difX p q M).toNat : Int) = ((difX p q i).toNat : Int) by rw [ei])
      clear ei
      cases hz : (((difX p q i).toNat : Int) == 0)
      all_goals
        go_wp2_with fail
        go_ret
        exact ⟨by rw [← HR.out, Hdx.out, hz]; rfl, f⟩

set_option maxRecDepth 20000 in
theorem is_any {w : World} (key s tag : ByteArray) (hk : key.size < 1099511627776) (hs : s.size + 64 < 1099511627776) (ht : tag.size ≤ 9223372036854775807) : Calls Try.prog 18 #[.string key, .string s, .string tag] w fun e w' => e = .returned (.bool (decide (macS key s = tag))) ∧ Fr [] w w' := by
  go_enter Try.func18, Try.ntmps18
  go_wp2_with fail
  refine (mof_any key s hk hs).mono ?_
  rintro e w2 ⟨rfl, f2⟩
  go_wp2_with fail
  refine (same_any (macS key s) tag (by rw [macS_size]; decide) ht).mono ?_
  rintro e w3 ⟨rfl, f3⟩
  go_wp2_with fail
  go_ret
  exact ⟨rfl, f2.trans' f3⟩

def smallS (l : List ByteArray) : Bool := decide (totL l ≤ 8192) && decide (l.length ≤ 200)

set_option maxRecDepth 20000 in
theorem small_any {w : World} {v : Value} {l : List ByteArray} {LB : Option Nat} (hl : Rc w 1 v l.length (l.map .string) LB) (hm : l.length ≤ 9223372036854775807) (ho : ∀ s ∈ l, s.size ≤ 140737488351232) :
    Calls Try.prog 7 #[v] w fun e w' => e = .returned (.bool (smallS l)) ∧ Fr [] w w' := by
  obtain ⟨la, lc, rfl⟩ := hl.isSlice
  by_cases h2 : l.length ≤ 200
  · have Ho := hid ho
    have Htb := hid (fun i => totL_bound l _ i ho)
    have e1 : smallS l = decide ((totL l : Int) ≤ 8192) := by
      unfold smallS
      rw [decide_eq_true h2, Bool.and_true]
      congr 1
      exact propext ⟨fun h => by omega, fun h => by omega⟩
    rw [e1]
    obtain ⟨R, hR⟩ : ∃ R, decide ((totL l : Int) ≤ 8192) = R := ⟨_, rfl⟩
    rw [hR]
    have HR := hid hR
    have hd2 : decide ((l.length : Int) ≤ 200) = true := by simp; omega
    clear e1 ho hR
    go_enter Try.func7, Try.ntmps7
    go_wp2_with fail
    go_loopw [3, 4] (fun nv iv wr => ∃ i : Nat, i ≤ l.length ∧ iv = .int .i64 i ∧ nv = .int .i64 (totL (l.take i) : Int) ∧ Fr [] w wr) (fun _ iv _ => l.length - (intOf iv).toNat)
    case atStart => exact ⟨0, by omega, rfl, rfl, Fr.refl _ _⟩
    case round =>
      obtain ⟨i, hi, rfl, rfl, f⟩ := hrel
      by_cases hlt : i < l.length
      · have hd1 : decide (i < l.length) = true := by simp; omega
        obtain ⟨lb, off, rfl, hlb, hcell⟩ := rc_str hl f i hlt
        have hb1 := Htb.out i hi
        have hb2 : l[i].size ≤ 140737488351232 := Ho.out _ (List.getElem_mem hlt)
        have hb3 := totL_snoc l i hlt
        obtain ⟨s, hs⟩ : ∃ s, l[i] = s := ⟨_, rfl⟩
        rw [hs] at hcell hb2 hb3
        clear hs
        have Hb3 := hid hb3
        have hb4 : totL (l.take i) ≤ 28147497670246400 := by omega
        clear hb3 hb1
        go_wp2_with fail
        go_roundw
        case rel => exact ⟨i + 1, by omega, by go_num, by rw [Hb3.out]; go_num, f⟩
        case measure => simp [intOf]; omega
      · have ei : i = l.length := by omega
        have hd1 : decide (i < l.length) = false := by simp; omega
        have He := hid (show totL l = totL (l.take i) by rw [List.take_of_length_le (by omega)])
        clear ei
        cases hz : decide ((totL (l.take i) : Int) ≤ 8192)
        all_goals
          go_wp2_with fail
          go_ret
          exact ⟨by rw [← HR.out, He.out, hz]; try simp, f⟩
  · have e1 : smallS l = false := by unfold smallS; rw [decide_eq_false h2, Bool.and_false]
    rw [e1]
    have hd2 : decide ((l.length : Int) ≤ 200) = false := by simp; omega
    clear e1 ho
    go_enter Try.func7, Try.ntmps7
    go_wp2_with fail
    go_loopw [3, 4] (fun nv iv wr => ∃ (i : Nat) (x : Int), i ≤ l.length ∧ iv = .int .i64 i ∧ nv = .int .i64 x ∧ Fr [] w wr) (fun _ iv _ => l.length - (intOf iv).toNat)
    case atStart => exact ⟨0, 0, by omega, rfl, rfl, Fr.refl _ _⟩
    case round =>
      obtain ⟨i, x, hi, rfl, rfl, f⟩ := hrel
      by_cases hlt : i < l.length
      · have hd1 : decide (i < l.length) = true := by simp; omega
        obtain ⟨lb, off, rfl, hlb, hcell⟩ := rc_str hl f i hlt
        obtain ⟨s, hs⟩ : ∃ s, l[i] = s := ⟨_, rfl⟩
        rw [hs] at hcell
        clear hs
        go_wp2_with fail
        go_roundw
        case rel => exact ⟨i + 1, _, by omega, by go_num, rfl, f⟩
        case measure => simp [intOf]; omega
      · have ei : i = l.length := by omega
        have hd1 : decide (i < l.length) = false := by simp; omega
        clear ei
        cases hz : decide (x ≤ 8192)
        all_goals
          go_wp2_with fail
          go_ret
          exact ⟨by try simp, f⟩
end Go.Proofs.Ytfcpnicgffbmeaa
