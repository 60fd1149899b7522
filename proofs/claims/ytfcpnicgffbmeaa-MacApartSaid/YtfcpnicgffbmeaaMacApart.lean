/- Layer 2: MacApart, the walk (printed by tools/gen_apart.py). -/
import Derived.Test.YtfcpnicgffbmeaaMacH
namespace Go.Proofs.Ytfcpnicgffbmeaa
open Go Go.Xr Go.RowKit
set_option linter.unusedVariables false
set_option linter.unusedSimpArgs false

theorem rc_cell {w wr : World} {lb off lc : Nat} {l : List ByteArray} {LB : Option Nat} (hl : Rc w 1 (.slice (some ⟨lb, off, none⟩) l.length lc) l.length (l.map .string) LB) (f : Fr [] w wr) (i : Nat) (hi : i < l.length) :
    wr.cell? ⟨lb, off + i, none⟩ = some (.string l[i]) := by
  obtain ⟨lb', off', e, _, hc⟩ := rc_str hl f i hi
  cases e
  exact hc

set_option maxRecDepth 20000 in
set_option maxHeartbeats 4000000 in
theorem apart_walk {w : World} {v u : Value} {l m : List ByteArray} {LB MB : Option Nat} (key : ByteArray) (n k : Int) (hl : Rc w 1 v l.length (l.map .string) LB) (hm : Rc w 1 u m.length (m.map .string) MB) (hll : l.length ≤ maxLen) (hml : m.length ≤ maxLen)
    (hol : ∀ s ∈ l, s.size ≤ 140737488351232) (hom : ∀ s ∈ m, s.size ≤ 140737488351232) (hk : key.size ≤ 140737488351232) :
    Calls Try.prog 5 #[.string key, v, u, .int .i64 n, .int .i64 k] w fun e w' => e = .returned (.bool true) ∧ Fr [] w w' := by
  unfold maxLen at hll hml
  obtain ⟨i9, hi9, hz9, hs9⟩ := inf9
  have Hi := hid hi9
  have Hz := hid hz9
  have Hs9 := hid hs9
  clear hi9 hz9 hs9
  have h1 := fun (w0 : World) (h : Rc w0 1 v l.length (l.map .string) LB) => small_any h hll hol
  have h3 := fun (w0 : World) (h : Rc w0 1 u m.length (m.map .string) MB) => small_any h hml hom
  have h2 := fun (w0 : World) (b : Nat) (h : Blk w0 b [.string key]) => small_any (l := [key]) (rc_of_blk h rfl (by simp [maxLen])) (by simp) (by simp; omega)
  obtain ⟨c1, hc1⟩ : ∃ c, smallS l = c := ⟨_, rfl⟩
  obtain ⟨c2, hc2⟩ : ∃ c, smallS [key] = c := ⟨_, rfl⟩
  obtain ⟨c3, hc3⟩ : ∃ c, smallS m = c := ⟨_, rfl⟩
  rw [hc1] at h1
  rw [hc2] at h2
  rw [hc3] at h3
  have H1 := hid h1
  have H2 := hid h2
  have H3 := hid h3
  have C1 := hid hc1
  have C2 := hid hc2
  have C3 := hid hc3
  have Hlr := hid hl
  have Hmr := hid hm
  obtain ⟨la, lc, rfl⟩ := hl.isSlice
  obtain ⟨ma, mc, rfl⟩ := hm.isSlice
  clear h1 h2 h3 hc1 hc2 hc3 hol hom hl hm
  go_enter Try.func5, Try.ntmps5
  go_wp2_with (refine wpList_buildSlice_any rfl _ 1 _ rfl 9 Try.underlying22 _ _ Hi.out Hz.out rfl Hs9.out (by decide) (by decide) rfl [.string key] rfl (by simp [Value.oneCell']) ?_; intro w2 f2 hlt2 hb2; simp only [World.size_alloc, World.size_drew, Act.put, List.setIfInBounds_toArray, List.set_cons_succ, List.set_cons_zero])
  refine (H2.out _ _ hb2).mono ?_
  rintro e w3 ⟨rfl, f3⟩
  have g3 := f2.trans' f3
  clear hb2 f2 f3 hlt2
  cases c2 with
  | false =>
    go_wp2_with fail
    refine alive_any.mono ?_
    rintro e w90 ⟨rfl, f90⟩
    go_wp2_with fail
    go_ret
    exact ⟨rfl, (g3).trans' f90⟩
  | true =>
  go_wp2_with fail
  refine (H1.out _ (Hlr.out.keep g3 (by simp))).mono ?_
  rintro e w4 ⟨rfl, f4⟩
  have g4 := g3.trans' f4
  clear f4 g3
  cases c1 with
  | false =>
    go_wp2_with fail
    refine alive_any.mono ?_
    rintro e w90 ⟨rfl, f90⟩
    go_wp2_with fail
    go_ret
    exact ⟨rfl, (g4).trans' f90⟩
  | true =>
  go_wp2_with fail
  refine (H3.out _ (Hmr.out.keep g4 (by simp))).mono ?_
  rintro e w5 ⟨rfl, f5⟩
  have g5 := g4.trans' f5
  clear f5 g4
  cases c3 with
  | false =>
    go_wp2_with fail
    refine alive_any.mono ?_
    rintro e w90 ⟨rfl, f90⟩
    go_wp2_with fail
    go_ret
    exact ⟨rfl, (g5).trans' f90⟩
  | true =>
  by_cases h20 : l.length ≤ 20
  case neg =>
    have hd20 : decide (20 < (l.length : Int)) = true := by simp; omega
    go_wp2_with fail
    refine alive_any.mono ?_
    rintro e w90 ⟨rfl, f90⟩
    go_wp2_with fail
    go_ret
    exact ⟨rfl, (g5).trans' f90⟩
  case pos =>
  have hd20 : decide (20 < (l.length : Int)) = false := by simp; omega
  have Hkey := hid (show key.size ≤ 8192 by have := (small_yes C2.out).1; simpa [totL] using this)
  have hL := allL_tot l
  have hM := allL_tot m
  have HL := hid (show (allL l).length ≤ 9792 by have := small_yes C1.out; omega)
  have HM := hid (show (allL m).length ≤ 9792 by have := small_yes C3.out; omega)
  have hl2 : l.length ≤ 200 := by omega
  have hm2 : m.length ≤ 200 := (small_yes C3.out).2
  clear hL hM h20
  go_wp2_with fail
  go_loopw [11, 13] (fun sv iv wr => ∃ i : Nat, i ≤ l.length ∧ iv = .int .i64 i ∧ sv = .string (allS (l.take i)) ∧ Fr [] w wr) (fun _ iv _ => l.length - (intOf iv).toNat)
  case atStart => exact ⟨0, by omega, rfl, rfl, g5⟩
  case round =>
  obtain ⟨i, hi, rfl, rfl, f⟩ := hrel
  clear g5
  by_cases hlt : i < l.length
  case pos =>
    have hd1 : decide (i < l.length) = true := by simp; omega
    obtain ⟨lb, off, rfl, hlb, hcell⟩ := rc_str Hlr.out f i hlt
    have hroom := allL_room l i hlt
    have hsn := allS_snoc l i hlt
    obtain ⟨s, hs⟩ : ∃ s, l[i] = s := ⟨_, rfl⟩
    rw [hs] at hcell hroom hsn
    clear hs
    have Hsn := hid hsn
    have hss : s.size < 1099511627776 := by have := HL.out; omega
    have h1 : (allS (l.take i)).size + 8 + s.size < 1099511627776 := by have := HL.out; rw [allS_size]; omega
    have h2 := longS_size s
    clear hsn hroom
    go_wp2_with fail
    refine (rlong_any s hss).mono ?_
    rintro e w2 ⟨rfl, f2⟩
    go_wp2_with fail
    go_roundw
    case rel => exact ⟨i + 1, by omega, by go_num, by rw [Hsn.out], f.trans' f2⟩
    case measure => simp [intOf]; omega
  case neg =>
  have hd1 : decide (i < l.length) = false := by simp; omega
  obtain ⟨X, hX⟩ : ∃ X, allS (l.take i) = X := ⟨_, rfl⟩
  rw [hX]
  have HX : Hid (allS l = X) := by rw [← hX, List.take_of_length_le (by omega)]; exact hid rfl
  have g6 := f
  clear hX f hlt
  go_wp2_with fail
  clear hd1 hi
  go_loopw [12, 14] (fun sv iv wr => ∃ i : Nat, i ≤ m.length ∧ iv = .int .i64 i ∧ sv = .string (allS (m.take i)) ∧ Fr [] w wr) (fun _ iv _ => m.length - (intOf iv).toNat)
  case atStart => exact ⟨0, by omega, rfl, rfl, g6⟩
  case round =>
  obtain ⟨j, hi, rfl, rfl, f⟩ := hrel
  clear g6
  by_cases hlt : j < m.length
  case pos =>
    have hd1 : decide (j < m.length) = true := by simp; omega
    obtain ⟨lb, off, rfl, hlb, hcell⟩ := rc_str Hmr.out f j hlt
    have hroom := allL_room m j hlt
    have hsn := allS_snoc m j hlt
    obtain ⟨s, hs⟩ : ∃ s, m[j] = s := ⟨_, rfl⟩
    rw [hs] at hcell hroom hsn
    clear hs
    have Hsn := hid hsn
    have hss : s.size < 1099511627776 := by have := HM.out; omega
    have h1 : (allS (m.take j)).size + 8 + s.size < 1099511627776 := by have := HM.out; rw [allS_size]; omega
    have h2 := longS_size s
    clear hsn hroom
    go_wp2_with fail
    refine (rlong_any s hss).mono ?_
    rintro e w2 ⟨rfl, f2⟩
    go_wp2_with fail
    go_roundw
    case rel => exact ⟨j + 1, by omega, by go_num, by rw [Hsn.out], f.trans' f2⟩
    case measure => simp [intOf]; omega
  case neg =>
  have hd1 : decide (j < m.length) = false := by simp; omega
  obtain ⟨Y, hY⟩ : ∃ Y, allS (m.take j) = Y := ⟨_, rfl⟩
  rw [hY]
  have HY : Hid (allS m = Y) := by rw [← hY, List.take_of_length_le (by omega)]; exact hid rfl
  have g7 := f
  clear hY f hlt
  have Hxy : Hid ((X.toList == Y.toList) = decide (l = m)) := by rw [← HX.out, ← HY.out]; exact allS_same l m C1.out C3.out
  obtain ⟨S0, hS0⟩ : ∃ S0, ((l.length : Int) == (m.length : Int)) = S0 := ⟨_, rfl⟩
  have HS0 : Hid (sameU l m 0 = S0) := by
    rw [← hS0, sameU_zero]
    refine hid ?_
    rw [Bool.eq_iff_iff]
    simp only [decide_eq_true_eq, beq_iff_eq]
    omega
  go_wp2_with fail
  clear hd1 hi hS0
  go_loopw [15, 16] (fun sv iv wr => ∃ (i : Nat) (S : Bool), i ≤ l.length ∧ iv = .int .i64 i ∧ sv = .bool S ∧ Hid (sameU l m i = S) ∧ Fr [] w wr) (fun _ iv _ => l.length - (intOf iv).toNat)
  case atStart => exact ⟨0, S0, by omega, rfl, rfl, HS0, g7⟩
  case round =>
  obtain ⟨i, S, hi, rfl, rfl, hS, f⟩ := hrel
  clear g7 HS0
  by_cases hc : i < l.length ∧ S = true
  case pos =>
    obtain ⟨hlt, rfl⟩ := hc
    obtain ⟨him, hnext⟩ := sameU_succ l m i hS.out hlt
    have hd1 : decide (i < l.length) = true := by simp; omega
    obtain ⟨lb, off, rfl, hlb, hcell⟩ := rc_str Hlr.out f i hlt
    obtain ⟨mb, moff, rfl, hmb, hcellm⟩ := rc_str Hmr.out f i him
    obtain ⟨s0, hs0⟩ : ∃ s, l[i] = s := ⟨_, rfl⟩
    obtain ⟨t0, ht0⟩ : ∃ s, m[i] = s := ⟨_, rfl⟩
    rw [hs0] at hcell hnext
    rw [ht0] at hcellm hnext
    have Hnext := hid hnext
    clear hs0 ht0 hnext
    go_wp2_with fail
    obtain ⟨ι, W, hι, hW1, hW2, hW0⟩ := family (fun w' => w'.cell? ⟨lb, off + i, none⟩ = some (.string s0) ∧ w'.cell? ⟨mb, moff + i, none⟩ = some (.string t0)) (w := wr.drew) ⟨hcell, hcellm⟩
    have HW1 := hid hW1
    have HW2 := hid hW2
    have HW0 := hid hW0
    clear hW1 hW2 hW0
    have hS1 : ∀ j, (W j).cell? ⟨lb, off + i, none⟩ = some (.string s0) := fun j => (HW1.out j).1
    have hS2 : ∀ j, (W j).cell? ⟨mb, moff + i, none⟩ = some (.string t0) := fun j => (HW1.out j).2
    refine wp_region_X (fun w' => ∃ j, w' = W j) true (by kernel_rfl) ?_
    refine WX.pure [0, 1, 2, 3, 4, 5, 6, 7, 8, 9] (by kernel_rfl) HW0.out ?_
    simp only [pick, List.toList_toArray, List.map_cons, List.map_nil, List.getD_cons_succ, List.getD_cons_zero]
    repeat (go_big_quiet_step (fail))
    refine wpQuiet_nil ?_
    refine WX.done (by kernel_rfl) ?_
    clear hS1 hS2
    clear HW1 HW2 HW0 hι W ι
    have f2 := f.drew
    go_wp2_with fail
    go_roundw
    case rel => exact ⟨i + 1, (s0.toList == t0.toList), by omega, by go_num, rfl, hid (by rw [Hnext.out, beq_txt]), f2⟩
    case measure => simp [intOf]; omega
  case neg =>
  have HSM : Hid (decide (l = m) = S) := by
    cases S with
    | false => exact hid (sameU_no l m i hS.out)
    | true => rw [← sameU_end l m i (by simp at hc; omega)]; exact hS
  have hxy := Hxy.out
  rw [HSM.out] at hxy
  obtain ⟨A1, ha1, hand1⟩ := and_low n
  obtain ⟨A2, ha2, hand2⟩ := and_low k
  have Hand1 := hid hand1
  have Hand2 := hid hand2
  have hd := fun w0 : World => mder_any (w := w0) key ⟨#[120]⟩ (by have := Hkey.out; omega) (by decide) A1 (by omega)
  have hdd := fun w0 : World => mder_any (w := w0) key ⟨#[120]⟩ (by have := Hkey.out; omega) (by decide) (A1 + A2) (by omega)
  rw [show ((A1 + A2 : Nat) : Int) = (A1 : Int) + (A2 : Int) by omega] at hdd
  have hz1 := derS_size key ⟨#[120]⟩ A1
  have hz2 := derS_size key ⟨#[120]⟩ (A1 + A2)
  have hz3 := derS_pre key ⟨#[120]⟩ A1 A2
  obtain ⟨D1, hD1⟩ : ∃ D, derS key ⟨#[120]⟩ A1 = D := ⟨_, rfl⟩
  obtain ⟨D2, hD2⟩ : ∃ D, derS key ⟨#[120]⟩ (A1 + A2) = D := ⟨_, rfl⟩
  rw [hD1] at hd hz1 hz3
  rw [hD2] at hdd hz2 hz3
  have Hd := hid hd
  have Hdd := hid hdd
  have Hz1 := hid hz1
  have Hz2 := hid hz2
  have Hz3 := hid hz3
  have hT1 := fun (w0 : World) (h : Rc w0 1 (.slice la l.length lc) l.length (l.map .string) LB) => mall_any (w := w0) key (by have := Hkey.out; omega) h (by have := HL.out; omega)
  have hT2 := fun (w0 : World) (h : Rc w0 1 (.slice ma m.length mc) m.length (m.map .string) MB) => mall_any (w := w0) key (by have := Hkey.out; omega) h (by have := HM.out; omega)
  obtain ⟨T1, hT1e⟩ : ∃ D, macS key (allS l) = D := ⟨_, rfl⟩
  obtain ⟨T2, hT2e⟩ : ∃ D, macS key (allS m) = D := ⟨_, rfl⟩
  have HTT : Hid (S = true → T2 = T1) := hid (fun h => by
    have e : l = m := by have := HSM.out; rw [h] at this; simpa using this
    rw [← hT1e, ← hT2e, e])
  rw [hT1e] at hT1
  rw [hT2e] at hT2
  have HT1 := hid hT1
  have HT2 := hid hT2
  have hds : (S = true ∧ decide (i < l.length) = false) ∨ (S = false ∧ decide (i < l.length) = false) ∨ (S = false ∧ decide (i < l.length) = true) := by
    by_cases h1 : i < l.length
    · cases S with
      | true => exact absurd ⟨h1, rfl⟩ hc
      | false => exact .inr (.inr ⟨rfl, by simpa using h1⟩)
    · cases S with
      | true => exact .inl ⟨rfl, by simpa using h1⟩
      | false => exact .inr (.inl ⟨rfl, by simpa using h1⟩)
  clear hd hdd hz1 hz2 hz3 hD1 hD2 hT1 hT2 hT1e hT2e hand1 hand2 hc hS HSM
  rcases hds with ⟨rfl, hd1⟩ | ⟨rfl, hd1⟩ | ⟨rfl, hd1⟩
  case' inl =>
    obtain rfl := HTT.out rfl
    go_wp2_with fail
    refine (HT1.out _ (Hlr.out.keep f (by simp))).mono ?_
    rintro e w20 ⟨rfl, f20⟩
    go_wp2_with fail
    refine (HT2.out _ (Hmr.out.keep (f.trans' f20) (by simp))).mono ?_
    rintro e w21 ⟨rfl, f21⟩
    have g21 := (f.trans' f20).trans' f21
    clear f f20 f21
  case' inr.inl =>
    obtain ⟨w21, hw⟩ : ∃ w1 : World, w1 = wr := ⟨wr, rfl⟩
    subst hw
    have g21 := f
    clear f
  case' inr.inr =>
    obtain ⟨w21, hw⟩ : ∃ w1 : World, w1 = wr := ⟨wr, rfl⟩
    subst hw
    have g21 := f
    clear f
  all_goals
    have hand1 := Hand1.out
    have hand2 := Hand2.out
    go_wp2_with fail
    refine (Hd.out _).mono ?_
    rintro e w22 ⟨rfl, f22⟩
    go_wp2_with fail
    refine (Hdd.out _).mono ?_
    rintro e w23 ⟨rfl, f23⟩
    have g23 := (g21.trans' f22).trans' f23
    have hz1 := Hz1.out
    have hz2 := Hz2.out
    have hz3 := Hz3.out
    clear g21 f22 f23 hand1 hand2
    by_cases h0 : l.length = 0
    case pos =>
      have hd0 : ((l.length : Int) == 0) = true := by rw [h0]; rfl
      go_wp2_with fail
      refine alive_any.mono ?_
      rintro e w90 ⟨rfl, f90⟩
      go_wp2_with fail
      go_ret
      exact ⟨rfl, (g23).trans' f90⟩
    case neg =>
      have hd0 : ((l.length : Int) == 0) = false := beq_eq_false_iff_ne.2 (by omega)
      have hn : 0 < l.length := by omega
      have hsz : Hid (∀ s ∈ l, s.size < 1099511627000) := hid (fun s hs => by have := totL_mem l s hs; have := small_yes C1.out; omega)
      obtain ⟨lb, off, rfl, hlb, hcell⟩ := rc_str Hlr.out g23 (l.length - 1) (by omega)
      have htl := treeS_last key l hn
      obtain ⟨q, hq⟩ : ∃ q, l[l.length - 1] = q := ⟨_, rfl⟩
      have hqs : q.size < 1099511627000 := by rw [← hq]; exact hsz.out _ (List.getElem_mem _)
      have hcq : ∀ w0 : World, Fr [] w w0 → w0.cell? ⟨lb, off + (l.length - 1), none⟩ = some (.string q) := fun w0 f0 => by rw [← hq]; exact rc_cell Hlr.out f0 _ (by omega)
      rw [hq] at htl
      have hk2 := fun (w0 : World) (f0 : Fr [] w w0) => mtree_any key (by have := Hkey.out; omega) (Hlr.out.keep f0 (by simp)) hll hsz.out
      have hk9 := fun (w0 : World) (f0 : Fr [] w w0) => mtree_any (w := w0) (v := .slice (some ⟨lb, off, none⟩) (l.length - 1) lc) (l := l.take (l.length - 1)) (LB := LB) key (by have := Hkey.out; omega) (by
        have h := rc_take (Hlr.out.keep f0 (by simp)) (show l.length - 1 ≤ l.length by omega)
        rw [← List.map_take] at h
        rw [List.length_take, Nat.min_eq_left (by omega)]
        exact h) (by rw [List.length_take]; omega) (fun s hs => hsz.out s (List.mem_of_mem_take hs))
      have hks := treeS_size key (l.take (l.length - 1)) (by have := Hkey.out; omega)
      obtain ⟨T4, hT4⟩ : ∃ D, treeS key (l.take (l.length - 1)) = D := ⟨_, rfl⟩
      rw [hT4] at hk9 htl hks
      obtain ⟨T3, hT3⟩ : ∃ D, treeS key l = D := ⟨_, rfl⟩
      rw [hT3] at hk2 htl
      have hk17 := fun (w0 : World) (b : Nat) (h : Blk w0 b [.string q]) => mtree_any (w := w0) (l := [q]) T4 hks (rc_of_blk h rfl (by simp [maxLen])) (by simp) (by simpa using hqs)
      rw [← htl] at hk17
      have K2 := hid hk2
      have K9 := hid hk9
      have K17 := hid hk17
      have Hcq := hid hcq
      have hlc : l.length ≤ lc := by obtain ⟨_, _, a, c, h3, h4, _⟩ := Hlr.out; cases h3; exact h4
      clear hk2 hk9 hk17 hT4 hT3 htl hks hcq hq hqs hcell hsz h0
      go_wp2_with fail
      obtain ⟨ι, W, hι, hW1, hW2, hW0⟩ := family (fun w' => Fr [] w w') (w := w23.drew) g23.drew
      have HW1 := hid hW1
      have HW2 := hid hW2
      have HW0 := hid hW0
      clear hW1 hW2 hW0
      have hS1 : ∀ j, (W j).cell? ⟨lb, off + (l.length - 1), none⟩ = some (.string q) := fun j => Hcq.out _ (HW1.out j)
      have hn1 : (1 : Int) ≤ (l.length : Int) := by omega
      have hn2 : ((l.length : Int) - 1).toNat = l.length - 1 := by omega
      have hn3 : (l.length : Int) ≤ (lc : Int) + 1 := by omega
      have hn4 : ¬ lc = 0 := by omega
      have hn5 : (l.length : Int) - 1 ≤ (lc : Int) := by omega
      refine wp_region_X (fun w' => ∃ j, w' = W j) false (by kernel_rfl) ?_
      refine WX.pure [0, 1, 3, 4, 5, 6, 7, 8, 10, 11, 12, 13, 14, 15] (by kernel_rfl) HW0.out ?_
      simp only [pick, List.toList_toArray, List.map_cons, List.map_nil, List.getD_cons_succ, List.getD_cons_zero]
      repeat (go_big_quiet_step (fail))
      refine wpQuiet_nil ?_
      have g0 : Fr [] w w23.drew := g23.drew
      clear hS1
      refine WX.eff2 2 16 (by kernel_rfl) ?_ ?_
      · simp only [pick, List.toList_toArray, List.map_cons, List.map_nil, List.getD_cons_succ, List.getD_cons_zero]
        go_wp2_with (go_at_call 15; refine (K2.out _ g0).mono ?_; rintro e w30 ⟨rfl, f30⟩)
        have g30 := g0.trans' f30
        refine After.on (HW2.out _ g30) ?_
        refine WX.eff2 9 16 (by kernel_rfl) ?_ ?_
        · simp only [pick, List.toList_toArray, List.map_cons, List.map_nil, List.getD_cons_succ, List.getD_cons_zero]
          go_wp2_with (go_at_call 15; refine (K9.out _ g30).mono ?_; rintro e w31 ⟨rfl, f31⟩)
          have g31 := g30.trans' f31
          refine After.on (HW2.out _ g31) ?_
          refine WX.eff 16 (by kernel_rfl) ?_
          simp only [pick, List.toList_toArray, List.map_cons, List.map_nil, List.getD_cons_succ, List.getD_cons_zero]
          refine wpList_buildSlice_any rfl _ 1 _ rfl 9 Try.underlying22 _ _ Hi.out Hz.out rfl Hs9.out (by decide) (by decide) rfl [.string q] rfl (by simp [Value.oneCell']) ?_
          intro w32 f32 hlt32 hbq
          have g32 := g31.trans' f32
          refine wpList_nil ?_
          refine After.on (HW2.out _ g32) ?_
          simp only [Act.put, List.setIfInBounds_toArray, List.set_cons_succ, List.set_cons_zero]
          refine WX.eff 17 (by kernel_rfl) ?_
          simp only [pick, List.toList_toArray, List.map_cons, List.map_nil, List.getD_cons_succ, List.getD_cons_zero]
          go_wp2_with (go_at_call 15; refine (K17.out _ _ hbq).mono ?_; rintro e w33 ⟨rfl, f33⟩)
          have g33 := g32.trans' f33
          refine After.on (HW2.out _ g33) ?_
          refine WX.pure [18, 19] (by kernel_rfl) (HW2.out _ g33) ?_
          simp only [pick, List.toList_toArray, List.map_cons, List.map_nil, List.getD_cons_succ, List.getD_cons_zero]
          repeat (go_big_quiet_step (fail))
          refine wpQuiet_nil ?_
          refine WX.eff 20 (by kernel_rfl) ?_
          simp only [pick, List.toList_toArray, List.map_cons, List.map_nil, List.getD_cons_succ, List.getD_cons_zero]
          go_wp2_with (go_at_call 8; refine alive_any.mono ?_; rintro e w34 ⟨rfl, f34⟩)
          have g34 := g33.trans' f34
          refine After.on (HW2.out _ g34) ?_
          refine WX.pure [21, 22] (by kernel_rfl) (HW2.out _ g34) ?_
          simp only [pick, List.toList_toArray, List.map_cons, List.map_nil, List.getD_cons_succ, List.getD_cons_zero]
          repeat (go_big_quiet_step (fail))
          refine wpQuiet_nil ?_
          refine WX.done (by kernel_rfl) ?_
          clear HW1 HW2 HW0 hι W ι
          go_wp2_with fail
          go_ret
          exact ⟨rfl, g34⟩
        · simp only [pick, List.toList_toArray, List.map_cons, List.map_nil, List.getD_cons_succ, List.getD_cons_zero]
          refine wpList_buildSlice_any rfl _ 1 _ rfl 9 Try.underlying22 _ _ Hi.out Hz.out rfl Hs9.out (by decide) (by decide) rfl [.string q] rfl (by simp [Value.oneCell']) ?_
          intro w31 f31 hlt31 hbq
          have g31 := g30.trans' f31
          refine wpList_nil ?_
          refine After.on (HW2.out _ g31) ?_
          simp only [Act.put, List.setIfInBounds_toArray, List.set_cons_succ, List.set_cons_zero]
          refine WX.eff 9 (by kernel_rfl) ?_
          simp only [pick, List.toList_toArray, List.map_cons, List.map_nil, List.getD_cons_succ, List.getD_cons_zero]
          go_wp2_with (go_at_call 15; refine (K9.out _ g31).mono ?_; rintro e w32 ⟨rfl, f32⟩)
          have g32 := g31.trans' f32
          refine After.on (HW2.out _ g32) ?_
          have hbq := f32.blk hbq (by simp)
          refine WX.eff 17 (by kernel_rfl) ?_
          simp only [pick, List.toList_toArray, List.map_cons, List.map_nil, List.getD_cons_succ, List.getD_cons_zero]
          go_wp2_with (go_at_call 15; refine (K17.out _ _ hbq).mono ?_; rintro e w33 ⟨rfl, f33⟩)
          have g33 := g32.trans' f33
          refine After.on (HW2.out _ g33) ?_
          refine WX.pure [18, 19] (by kernel_rfl) (HW2.out _ g33) ?_
          simp only [pick, List.toList_toArray, List.map_cons, List.map_nil, List.getD_cons_succ, List.getD_cons_zero]
          repeat (go_big_quiet_step (fail))
          refine wpQuiet_nil ?_
          refine WX.eff 20 (by kernel_rfl) ?_
          simp only [pick, List.toList_toArray, List.map_cons, List.map_nil, List.getD_cons_succ, List.getD_cons_zero]
          go_wp2_with (go_at_call 8; refine alive_any.mono ?_; rintro e w34 ⟨rfl, f34⟩)
          have g34 := g33.trans' f34
          refine After.on (HW2.out _ g34) ?_
          refine WX.pure [21, 22] (by kernel_rfl) (HW2.out _ g34) ?_
          simp only [pick, List.toList_toArray, List.map_cons, List.map_nil, List.getD_cons_succ, List.getD_cons_zero]
          repeat (go_big_quiet_step (fail))
          refine wpQuiet_nil ?_
          refine WX.done (by kernel_rfl) ?_
          clear HW1 HW2 HW0 hι W ι
          go_wp2_with fail
          go_ret
          exact ⟨rfl, g34⟩
      · simp only [pick, List.toList_toArray, List.map_cons, List.map_nil, List.getD_cons_succ, List.getD_cons_zero]
        refine wpList_buildSlice_any rfl _ 1 _ rfl 9 Try.underlying22 _ _ Hi.out Hz.out rfl Hs9.out (by decide) (by decide) rfl [.string q] rfl (by simp [Value.oneCell']) ?_
        intro w30 f30 hlt30 hbq
        have g30 := g0.trans' f30
        refine wpList_nil ?_
        refine After.on (HW2.out _ g30) ?_
        simp only [Act.put, List.setIfInBounds_toArray, List.set_cons_succ, List.set_cons_zero]
        refine WX.eff 2 (by kernel_rfl) ?_
        simp only [pick, List.toList_toArray, List.map_cons, List.map_nil, List.getD_cons_succ, List.getD_cons_zero]
        go_wp2_with (go_at_call 15; refine (K2.out _ g30).mono ?_; rintro e w31 ⟨rfl, f31⟩)
        have g31 := g30.trans' f31
        refine After.on (HW2.out _ g31) ?_
        have hbq := f31.blk hbq (by simp)
        refine WX.eff 9 (by kernel_rfl) ?_
        simp only [pick, List.toList_toArray, List.map_cons, List.map_nil, List.getD_cons_succ, List.getD_cons_zero]
        go_wp2_with (go_at_call 15; refine (K9.out _ g31).mono ?_; rintro e w32 ⟨rfl, f32⟩)
        have g32 := g31.trans' f32
        refine After.on (HW2.out _ g32) ?_
        have hbq := f32.blk hbq (by simp)
        refine WX.eff 17 (by kernel_rfl) ?_
        simp only [pick, List.toList_toArray, List.map_cons, List.map_nil, List.getD_cons_succ, List.getD_cons_zero]
        go_wp2_with (go_at_call 15; refine (K17.out _ _ hbq).mono ?_; rintro e w33 ⟨rfl, f33⟩)
        have g33 := g32.trans' f33
        refine After.on (HW2.out _ g33) ?_
        refine WX.pure [18, 19] (by kernel_rfl) (HW2.out _ g33) ?_
        simp only [pick, List.toList_toArray, List.map_cons, List.map_nil, List.getD_cons_succ, List.getD_cons_zero]
        repeat (go_big_quiet_step (fail))
        refine wpQuiet_nil ?_
        refine WX.eff 20 (by kernel_rfl) ?_
        simp only [pick, List.toList_toArray, List.map_cons, List.map_nil, List.getD_cons_succ, List.getD_cons_zero]
        go_wp2_with (go_at_call 8; refine alive_any.mono ?_; rintro e w34 ⟨rfl, f34⟩)
        have g34 := g33.trans' f34
        refine After.on (HW2.out _ g34) ?_
        refine WX.pure [21, 22] (by kernel_rfl) (HW2.out _ g34) ?_
        simp only [pick, List.toList_toArray, List.map_cons, List.map_nil, List.getD_cons_succ, List.getD_cons_zero]
        repeat (go_big_quiet_step (fail))
        refine wpQuiet_nil ?_
        refine WX.done (by kernel_rfl) ?_
        clear HW1 HW2 HW0 hι W ι
        go_wp2_with fail
        go_ret
        exact ⟨rfl, g34⟩
end Go.Proofs.Ytfcpnicgffbmeaa
