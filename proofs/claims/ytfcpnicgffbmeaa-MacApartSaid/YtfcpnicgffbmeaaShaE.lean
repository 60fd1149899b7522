/- Layer 1, sha: the table that stands fixed; New. -/
import Derived.Test.YtfcpnicgffbmeaaShaC
import Derived.Test.YtfcpnicgffbmeaaShaD
import Derived.Deep.LoopGhost
namespace Go.Proofs.Ytfcpnicgffbmeaa
open Go Go.Xr Go.RowKit
set_option linter.unusedVariables false
set_option linter.unusedSimpArgs false

def pB (p : Nat) : Bool := (List.range p).all fun q => decide (q < 2) || decide (p < q * q) || !decide (p % q = 0)
def prs (p : Nat) : List Nat := (List.range p).filter fun x => decide (2 ≤ x) && pB x
theorem prs_succ (p : Nat) (h : 2 ≤ p) : prs (p + 1) = if pB p then prs p ++ [p] else prs p := by
  unfold prs
  rw [List.range_succ, List.filter_append]
  have h2 : decide (2 ≤ p) = true := by simp; omega
  cases hp : pB p <;> simp [hp, h2]
def tb (f : Nat → UInt32) (m : Nat) (ps : List Nat) : List UInt32 := (List.range m).map fun i => match ps[i]? with | some p => f p | none => 0
theorem tb_len (f : Nat → UInt32) (m : Nat) (ps : List Nat) : (tb f m ps).length = m := by simp [tb]
theorem tb_set (f : Nat → UInt32) (m : Nat) (ps : List Nat) (p : Nat) (h : ps.length < m) : (tb f m ps).set ps.length (f p) = tb f m (ps ++ [p]) := by
  unfold tb
  apply List.ext_getElem (by simp)
  intro i h1 h2
  simp only [List.length_set, List.length_map, List.length_range] at h1
  rw [List.getElem_set]
  simp only [List.getElem_map, List.getElem_range]
  by_cases hi : ps.length = i
  · subst hi
    simp
  · rw [if_neg hi]
    by_cases hlt : i < ps.length
    · rw [List.getElem?_append_left hlt]
    · rw [List.getElem?_append_right (by omega), List.getElem?_eq_none (by omega), List.getElem?_eq_none (by simp; omega)]
theorem tb_full (f : Nat → UInt32) (m : Nat) (ps : List Nat) (p : Nat) (h : m ≤ ps.length) : tb f m (ps ++ [p]) = tb f m ps := by
  unfold tb
  apply List.map_congr_left
  intro i hi
  have := List.mem_range.1 hi
  rw [List.getElem?_append_left (by omega)]
def f2 (p : Nat) : UInt32 := fracW fun x => sqB x p
def f3 (p : Nat) : UInt32 := fracW fun x => cuB x p
theorem prs_end : (prs 312).length = 64 := by decide +kernel
theorem prs_most : ∀ p, p < 312 → (prs p).length < 64 := by decide +kernel
theorem tabB : tb f2 8 (prs 312) = B0 := by decide +kernel
theorem tabK : tb f3 64 (prs 312) = K0 := by decide +kernel
theorem tb_nil (f : Nat → UInt32) (m : Nat) : tb f m [] = List.replicate m 0 := by
  unfold tb
  apply List.ext_getElem (by simp)
  intro i h1 h2
  simp

def zag72 : Array Value := (List.replicate 72 (W32 0)).toArray
theorem zero64 (w : World) : (zeroValue 57).run Try.prog w = .ok (.agg zag72) w := by kernel_rfl
theorem tcs_len (B K : List UInt32) : (tcs B K).length = B.length + K.length := by simp [tcs, w32s]
theorem tcs_setB (B K : List UInt32) (n : Nat) (x : UInt32) (h : n < B.length) : (tcs B K).set n (W32 x) = tcs (B.set n x) K := by
  unfold tcs w32s
  rw [List.set_append_left _ _ (by simpa using h), List.map_set]
theorem tcs_setK (B K : List UInt32) (n : Nat) (x : UInt32) (h : B.length = 8) : (tcs B K).set (8 + n) (W32 x) = tcs B (K.set n x) := by
  unfold tcs w32s
  rw [List.set_append_right _ _ (by simp [h]), List.length_map, h, show 8 + n - 8 = n by omega, List.map_set]
theorem zag_tcs : zag72.toList = tcs (tb f2 8 (prs 2)) (tb f3 64 (prs 2)) := by
  have e : prs 2 = [] := by decide +kernel
  rw [e, tb_nil, tb_nil]
  simp [zag72, tcs, w32s]

set_option maxHeartbeats 1000000 in
set_option maxRecDepth 20000 in
theorem fixed_any {w : World} :
    Calls Try.prog 29 #[] w fun e w' => e = .returned (.pointer (some ⟨w.heap.size, 0, none⟩)) ∧ Blk w' w.heap.size (tcs B0 K0) ∧ Fr [] w w' := by
  go_enter Try.func29, Try.ntmps29
  go_wp2_with fail
  go_step3
  have hz := zero64
  go_wp2_with fail
  go_step3
  go_wp2_with fail
  clear hz
  have hb0 := Blk.allocArr w zag72 57
  rw [zag_tcs] at hb0
  have f0 : Fr [] w (w.alloc (.cells zag72 57)) := (Fr.refl [] w).alloc _
  generalize w.alloc (.cells zag72 57) = w1 at *
  go_loopg [2, 3] 310 (fun g nv pv wr => ∃ p n : Nat, 2 ≤ p ∧ p + g = 312 ∧ pv = .int .u64 p ∧ nv = .int .i64 n ∧ Hid ((prs p).length = n) ∧ Blk wr w.heap.size (tcs (tb f2 8 (prs p)) (tb f3 64 (prs p))) ∧ Fr [] w wr)
  case atStart => exact ⟨2, 0, by omega, by omega, rfl, rfl, hid (by decide +kernel), hb0, f0⟩
  case round =>
    obtain ⟨p, n, hp2, hpg, rfl, rfl, hn, hb, f⟩ := hrel
    obtain ⟨G, rfl⟩ : ∃ G, G = gk := ⟨_, rfl⟩
    clear hb0 f0
    by_cases hlt : n < 64
    · have hd1 : decide ((n : Int) < 64) = true := by simp; omega
      have hg : 0 < G := by
        rcases Nat.eq_zero_or_pos G with h | h
        · have e : p = 312 := by omega
          have := hn.out
          rw [e, prs_end] at this
          omega
        · exact h
      go_wp2_with fail
      obtain ⟨wo, rfl⟩ : ∃ wo : World, wo = wr := ⟨_, rfl⟩
      go_loopg [4] p (fun g2 qv wx => ∃ q : Nat, 2 ≤ q ∧ q + g2 = p + 2 ∧ qv = .int .u64 q ∧ wx = wo ∧ Hid (∀ r, 2 ≤ r → r < q → p % r ≠ 0))
      case atStart => exact ⟨2, by omega, by omega, rfl, rfl, hid (fun r h1 h2 => by omega)⟩
      case round =>
        obtain ⟨q, hq2, hqg, rfl, rfl, hdiv⟩ := hrel
        have hS : q * q ≤ 313 * 313 ∨ p + 1 < q := by
          by_cases h : p + 1 < q
          · exact .inr h
          · exact .inl (Nat.mul_le_mul (by omega) (by omega))
        have hq1 : q ≤ p + 2 := by omega
        have hSw : IntKind.u64.wrap ((q : Int) * (q : Int)) = ((q * q : Nat) : Int) := by
          rw [← Int.natCast_mul]
          have : q * q ≤ 314 * 314 := Nat.mul_le_mul (by omega) (by omega)
          exact IntWalk.u64_in _ (by omega)
        have hRw : ((p : Int)).tmod (q : Int) = ((p % q : Nat) : Int) := by rw [Int.tmod_eq_emod_of_nonneg (by omega)]; rfl
        have hRb : p % q < q := Nat.mod_lt _ (by omega)
        obtain ⟨S, hSe⟩ : ∃ S, q * q = S := ⟨_, rfl⟩
        obtain ⟨R, hRe⟩ : ∃ R, p % q = R := ⟨_, rfl⟩
        rw [hSe] at hSw
        rw [hRe] at hRw hRb
        have HSe := hid hSe
        have HRe := hid hRe
        clear hSe hRe hS
        by_cases hle : S ≤ p
        · have e1 : decide (S ≤ p) = true := by simp; omega
          have hqp : q ≤ p := by
            have : q * 1 ≤ q * q := Nat.mul_le_mul_left _ (by omega)
            have := HSe.out
            omega
          by_cases hR : R = 0
          · have e2 : ((R : Int) == 0) = true := by simp; omega
            have HR := hid hR
            clear hR
            go_wp2_with fail
            go_roundg (G - 1)
            case rel =>
              have hnp : pB p = false := by
                unfold pB
                rw [List.all_eq_false]
                refine ⟨q, List.mem_range.2 (by
                  have h1 := HSe.out
                  have h2 : q * 2 ≤ q * q := Nat.mul_le_mul_left _ hq2
                  omega), ?_⟩
                have h1 := HSe.out
                have h2 := HRe.out
                rw [HR.out] at h2
                simp only [Bool.or_eq_true, decide_eq_true_eq, Bool.not_eq_true', decide_eq_false_iff_not, not_or, Decidable.not_not]
                exact ⟨⟨by omega, by omega⟩, h2⟩
              have he := prs_succ p hp2
              rw [hnp] at he
              simp only [Bool.false_eq_true, if_false] at he
              exact ⟨p + 1, n, by omega, by omega, by go_num, rfl, by rw [he]; exact hn, by rw [he]; exact hb, f⟩
            case measure => omega
          · have e2 : ((R : Int) == 0) = false := by simp; omega
            go_wp2_with fail
            go_roundg (gk - 1)
            case rel => exact ⟨q + 1, by omega, by omega, by go_num, rfl, hid (fun r h1 h2 => by
              by_cases h : r < q
              · exact hdiv.out r h1 h
              · obtain rfl : r = q := by omega
                rw [HRe.out]
                exact hR)⟩
            case measure => omega
        · have e1 : decide (S ≤ p) = false := by simp; omega
          have HP : Hid (pB p = true) := by
            refine hid ?_
            unfold pB
            rw [List.all_eq_true]
            intro r hr
            have hr2 := List.mem_range.1 hr
            simp only [Bool.or_eq_true, decide_eq_true_eq, Bool.not_eq_true', decide_eq_false_iff_not]
            by_cases h1 : r < 2
            · exact .inl (.inl h1)
            · by_cases h2 : r < q
              · exact .inr (hdiv.out r (by omega) h2)
              · refine .inl (.inr ?_)
                have h3 : q * q ≤ r * r := Nat.mul_le_mul (by omega) (by omega)
                have := HSe.out
                omega
          have HPS : Hid (prs (p + 1) = prs p ++ [p]) := by
            have he := prs_succ p hp2
            rw [HP.out, if_pos rfl] at he
            exact hid he
          have h2 : ∀ w0 : World, Calls Try.prog 34 #[.int .u64 p, .func (.func 35) #[] #[]] w0 fun e w' => e = .returned (W32 (f2 p)) ∧ w0 = w' :=
            fun w0 => frac_any _ p _ (fun x w1 hx => square_any x p (by omega) (by omega) w1) (.inl rfl) w0
          have h3 : ∀ w0 : World, Calls Try.prog 34 #[.int .u64 p, .func (.func 36) #[] #[]] w0 fun e w' => e = .returned (W32 (f3 p)) ∧ w0 = w' :=
            fun w0 => frac_any _ p _ (fun x w1 hx => cube_any x p hx (by omega) w1) (.inr rfl) w0
          have HH2 := hid h2
          have HH3 := hid h3
          clear h2 h3 hRw hdiv hqg hq1 hRb hle
          by_cases h8 : n < 8
          · have e8 : decide ((n : Int) < 8) = true := by simp; omega
            go_wp2_with fail
            obtain ⟨ι, W, hι, hW1, hW2, hW0⟩ := family (fun w' => Blk w' w.heap.size (tcs (tb f2 8 (prs p)) (tb f3 64 (prs p)))) (w := wr.drew) hb.drew
            have HW1 := hid hW1
            have HW2 := hid hW2
            have HW0 := hid hW0
            clear hW1 hW2 hW0
            refine wp_region_X (fun w' => ∃ j, w' = W j) true (by kernel_rfl) ?_
            refine WX.pure [0, 1, 2, 4, 5] (by kernel_rfl) HW0.out ?_
            simp only [pick, List.toList_toArray, List.map_cons, List.map_nil, List.getD_cons_succ, List.getD_cons_zero]
            repeat (go_big_quiet_step (fail))
            refine wpQuiet_nil ?_
            refine WX.eff 3 (by kernel_rfl) ?_
            simp only [pick, List.toList_toArray, List.map_cons, List.map_nil, List.getD_cons_succ, List.getD_cons_zero]
            go_wp2_with (go_at_call 34; refine (HH2.out _).mono ?_; rintro e w' ⟨rfl, rfl⟩)
            refine After.on HW0.out ?_
            refine WX.pure [6] (by kernel_rfl) HW0.out ?_
            simp only [pick, List.toList_toArray, List.map_cons, List.map_nil, List.getD_cons_succ, List.getD_cons_zero]
            repeat (go_big_quiet_step (fail))
            refine wpQuiet_nil ?_
            refine WX.eff 7 (by kernel_rfl) ?_
            simp only [pick, List.toList_toArray, List.map_cons, List.map_nil, List.getD_cons_succ, List.getD_cons_zero]
            refine wpList_put rfl _ _ _ rfl rfl (W32 (f2 p)) rfl rfl hb.drew (by rw [tcs_len, tb_len, tb_len]; omega) (by kernel_rfl) ?_
            intro w5 f5 hb5 _
            refine wpList_nil ?_
            refine After.end rfl ?_
            refine WX.done (by kernel_rfl) ?_
            simp only [Act.put]
            clear HW1 HW2 HW0 hι W ι
            rw [tcs_setB _ _ _ _ (by rw [tb_len]; exact h8)] at hb5
            have g5 := (f.drew).trans f5 (by simp)
            obtain ⟨BB, HBB, HBe, hb5'⟩ : ∃ BB, Hid (BB.length = 8) ∧ Hid (BB = tb f2 8 (prs p ++ [p])) ∧ Blk w5 w.heap.size (tcs BB (tb f3 64 (prs p))) := by
              refine ⟨_, hid ?_, hid ?_, hb5⟩
              · rw [List.length_set, tb_len]
              · rw [← tb_set f2 8 (prs p) p (by rw [hn.out]; exact h8), hn.out]
            clear hb5
            have hb5 := hb5'
            clear hb5'
            go_wp2_with fail
            obtain ⟨ι, W, hι, hW1, hW2, hW0⟩ := family (fun w' => Blk w' w.heap.size (tcs BB (tb f3 64 (prs p)))) (w := w5.drew) hb5.drew
            have HW1 := hid hW1
            have HW2 := hid hW2
            have HW0 := hid hW0
            clear hW1 hW2 hW0
            refine wp_region_X (fun w' => ∃ j, w' = W j) true (by kernel_rfl) ?_
            refine WX.pure [0, 1, 2, 4, 5] (by kernel_rfl) HW0.out ?_
            simp only [pick, List.toList_toArray, List.map_cons, List.map_nil, List.getD_cons_succ, List.getD_cons_zero]
            repeat (go_big_quiet_step (fail))
            refine wpQuiet_nil ?_
            refine WX.eff 3 (by kernel_rfl) ?_
            simp only [pick, List.toList_toArray, List.map_cons, List.map_nil, List.getD_cons_succ, List.getD_cons_zero]
            go_wp2_with (go_at_call 34; refine (HH3.out _).mono ?_; rintro e w' ⟨rfl, rfl⟩)
            refine After.on HW0.out ?_
            refine WX.pure [6] (by kernel_rfl) HW0.out ?_
            simp only [pick, List.toList_toArray, List.map_cons, List.map_nil, List.getD_cons_succ, List.getD_cons_zero]
            repeat (go_big_quiet_step (fail))
            refine wpQuiet_nil ?_
            refine WX.eff 7 (by kernel_rfl) ?_
            simp only [pick, List.toList_toArray, List.map_cons, List.map_nil, List.getD_cons_succ, List.getD_cons_zero]
            refine wpList_put rfl _ _ _ rfl rfl (W32 (f3 p)) rfl rfl hb5.drew (by rw [tcs_len, HBB.out, tb_len]; omega) (by kernel_rfl) ?_
            intro w6 f6 hb6 _
            refine wpList_nil ?_
            refine After.end rfl ?_
            refine WX.done (by kernel_rfl) ?_
            clear HW1 HW2 HW0 hι W ι
            rw [tcs_setK _ _ _ _ HBB.out] at hb6
            go_wp2_with fail
            go_roundg (G - 1)
            case rel =>
              refine ⟨p + 1, n + 1, by omega, by omega, by go_num, by go_num, by rw [HPS.out]; exact hid (by rw [List.length_append, hn.out]; rfl), ?_, (g5.drew).trans f6 (by simp)⟩
              have hs3 := tb_set f3 64 (prs p) p (by rw [hn.out]; exact hlt)
              rw [hn.out] at hs3
              rw [HPS.out, ← hs3, ← HBe.out]
              exact hb6
            case measure => omega
          · have e8 : decide ((n : Int) < 8) = false := by simp; omega
            obtain ⟨BB, HBB, HBe, hb5⟩ : ∃ BB, Hid (BB.length = 8) ∧ Hid (BB = tb f2 8 (prs p ++ [p])) ∧ Blk wr w.heap.size (tcs BB (tb f3 64 (prs p))) := by
              refine ⟨_, hid ?_, hid ?_, hb⟩
              · exact tb_len _ _ _
              · rw [tb_full f2 8 (prs p) p (by rw [hn.out]; omega)]
            have g5 := f
            obtain ⟨w5, rfl⟩ : ∃ w5, w5 = wr := ⟨_, rfl⟩
            go_wp2_with fail
            obtain ⟨ι, W, hι, hW1, hW2, hW0⟩ := family (fun w' => Blk w' w.heap.size (tcs BB (tb f3 64 (prs p)))) (w := w5.drew) hb5.drew
            have HW1 := hid hW1
            have HW2 := hid hW2
            have HW0 := hid hW0
            clear hW1 hW2 hW0
            refine wp_region_X (fun w' => ∃ j, w' = W j) true (by kernel_rfl) ?_
            refine WX.pure [0, 1, 2, 4, 5] (by kernel_rfl) HW0.out ?_
            simp only [pick, List.toList_toArray, List.map_cons, List.map_nil, List.getD_cons_succ, List.getD_cons_zero]
            repeat (go_big_quiet_step (fail))
            refine wpQuiet_nil ?_
            refine WX.eff 3 (by kernel_rfl) ?_
            simp only [pick, List.toList_toArray, List.map_cons, List.map_nil, List.getD_cons_succ, List.getD_cons_zero]
            go_wp2_with (go_at_call 34; refine (HH3.out _).mono ?_; rintro e w' ⟨rfl, rfl⟩)
            refine After.on HW0.out ?_
            refine WX.pure [6] (by kernel_rfl) HW0.out ?_
            simp only [pick, List.toList_toArray, List.map_cons, List.map_nil, List.getD_cons_succ, List.getD_cons_zero]
            repeat (go_big_quiet_step (fail))
            refine wpQuiet_nil ?_
            refine WX.eff 7 (by kernel_rfl) ?_
            simp only [pick, List.toList_toArray, List.map_cons, List.map_nil, List.getD_cons_succ, List.getD_cons_zero]
            refine wpList_put rfl _ _ _ rfl rfl (W32 (f3 p)) rfl rfl hb5.drew (by rw [tcs_len, HBB.out, tb_len]; omega) (by kernel_rfl) ?_
            intro w6 f6 hb6 _
            refine wpList_nil ?_
            refine After.end rfl ?_
            refine WX.done (by kernel_rfl) ?_
            clear HW1 HW2 HW0 hι W ι
            rw [tcs_setK _ _ _ _ HBB.out] at hb6
            go_wp2_with fail
            go_roundg (G - 1)
            case rel =>
              refine ⟨p + 1, n + 1, by omega, by omega, by go_num, by go_num, by rw [HPS.out]; exact hid (by rw [List.length_append, hn.out]; rfl), ?_, (g5.drew).trans f6 (by simp)⟩
              have hs3 := tb_set f3 64 (prs p) p (by rw [hn.out]; exact hlt)
              rw [hn.out] at hs3
              rw [HPS.out, ← hs3, ← HBe.out]
              exact hb6
            case measure => omega
    · have hd1 : decide ((n : Int) < 64) = false := by simp; omega
      have e : p = 312 := by
        by_cases h : p < 312
        · have h1 := prs_most p h
          rw [hn.out] at h1
          omega
        · omega
      rw [e, tabB, tabK] at hb
      clear e
      go_wp2_with fail
      (try rw [Exit.noGoto_ret])
      go_ret
      exact ⟨rfl, hb, f⟩
end Go.Proofs.Ytfcpnicgffbmeaa
