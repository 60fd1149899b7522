/- Layer 8: is one of the mirrors none? Copies of lists. -/
import Derived.Test.YtgafefecookgaaaVolB
namespace Go.Proofs.Ytgafefecookgaaa
open Go Go.Xr Go.RowKit
set_option linter.unusedVariables false
set_option linter.unusedSimpArgs false
section
variable {w w' w0 : World} {l rs : List Res} {ps : List VP} {k : Nat} {p p' : VP}
/-- A mirror is none, or of no sector. -/
def VP.m? (p : VP) : Option Nat := some p.m
set_option maxRecDepth 20000 in
theorem mk1_nil (w : World) : Calls Try.prog 30 #[pv none] w fun e w' => e = .returned (.bool true) ∧ w' = w := by
  have H := hid (mlen_nil w)
  show Calls Try.prog 30 #[.pointer none] w _
  go_enter Try.func30, Try.ntmps30
  go_wp2_with (go_at_call 31; refine H.out.mono ?_; rintro e w5 ⟨rfl, hw⟩; subst hw)
  go_ret
  exact ⟨rfl, rfl⟩
set_option maxRecDepth 20000 in
theorem mk1_any (h : Held w (l ++ vpsC ps)) (hk : ps[k]? = some p) (ok : SysOk p.M.s) (h2 : 2 ≤ p.M.s.len false) : Calls Try.prog 30 #[pv (some p.m)] w fun e w' => e = .returned (.bool false) ∧ w' = w := by
  have H := hid (mlen_any (vps_held h hk) ok)
  show Calls Try.prog 30 #[.pointer (some ⟨p.m, 0, none⟩)] w _
  generalize p.m = m at *
  obtain ⟨n, hn⟩ : ∃ n : Nat, p.M.s.len false = n := ⟨_, rfl⟩
  rw [hn] at H h2
  have u : ((n : Int) - 1 == 0) = false := by simp; omega
  clear h hk ok hn
  go_enter Try.func30, Try.ntmps30
  go_wp2_with (go_at_call 31; refine H.out.mono ?_; rintro e w5 ⟨rfl, hw⟩; subst hw)
  go_ret
  exact ⟨rfl, rfl⟩
set_option maxRecDepth 20000 in
set_option maxHeartbeats 1000000 in
theorem ixM_any {v : Value} {xs : List (Option Nat)} {LB : Option Nat} (hl : Rc w 1 v xs.length (xs.map pv) LB) (hn : xs.length ≤ 1000000) (g : Option Nat → Bool) (hg : ∀ x ∈ xs, Calls Try.prog 30 #[pv x] w fun e w' => e = .returned (.bool (g x)) ∧ w' = w) :
    Calls Try.prog 53 #[v, .func (.func 30) #[] #[]] w fun e w' => (∃ j : Int, e = .returned (.int .i64 j) ∧ (xs.any g = true → 0 ≤ j) ∧ (xs.any g = false → j = -1)) ∧ w' = w := by
  obtain ⟨la, lc, rfl⟩ := hl.isSlice
  obtain ⟨n, hN⟩ : ∃ n, xs.length = n := ⟨_, rfl⟩
  have HL := hid hl
  have HG := hid hg
  have HN := hid hN
  rw [hN]
  rw [hN] at hn
  clear hl hg hN
  go_enter Try.func53, Try.ntmps53
  go_wp2_with fail
  go_loopw [8] (fun iv wr => ∃ i : Nat, i ≤ n ∧ iv = .int .i64 (i : Int) ∧ Hid (∀ j, j < i → ∀ x, xs[j]? = some x → g x = false) ∧ wr = w) (fun iv _ => n - (intOf iv).toNat)
  case atStart => exact ⟨0, by omega, rfl, hid (fun j h => by omega), rfl⟩
  case round =>
    obtain ⟨i, hi, rfl, ND, rfl⟩ := hrel
    by_cases hlt : i < n
    · have hd : decide ((i : Int) < (n : Int)) = true := by simp; omega
      have hdn : decide (i < n) = true := by simp; omega
      have hix : i < xs.length := by rw [HN.out]; exact hlt
      have hxi : xs[i]? = some xs[i] := List.getElem?_eq_getElem hix
      have hmem : xs[i] ∈ xs := List.getElem_mem hix
      obtain ⟨lb, off, cap, hB, hv, h1, h2, h3, h4⟩ := HL.out.some (by omega)
      obtain ⟨rfl, rfl⟩ : la = some ⟨lb, off, none⟩ ∧ lc = cap := by simpa using hv
      have hc : wr.cell? ⟨lb, off + i, none⟩ = some (pv xs[i]) := by
        rw [h4 i (by simpa using hix), List.getElem?_map, hxi]
        rfl
      have Hgx := hid (HG.out xs[i] hmem)
      have HAny := hid (show g xs[i] = true → xs.any g = true from fun h => List.any_eq_true.2 ⟨_, hmem, h⟩)
      have HND := hid (show g xs[i] = false → ∀ j, j < i + 1 → ∀ x, xs[j]? = some x → g x = false from fun h j hj x hx => by
        by_cases e : j = i
        · subst e
          rw [hxi] at hx
          obtain rfl := Option.some.inj hx
          exact h
        · exact ND.out j (by omega) x hx)
      have hi6 : (i : Int) ≤ 1000000 := by omega
      generalize xs[i] = x at *
      clear h4 hmem hix hxi HL hB h1 HG
      cases hgx : g x with
      | true =>
        have HA := hid (HAny.out hgx)
        rw [hgx] at Hgx
        clear HND HAny hgx
        go_wp2_with (go_at_call 30; refine Hgx.out.mono ?_; rintro e w5 ⟨rfl, hw⟩; subst hw)
        go_ret
        refine ⟨⟨(i : Int), rfl, fun _ => by omega, fun h => ?_⟩, rfl⟩
        rw [HA.out] at h
        cases h
      | false =>
        have HA := hid (HND.out hgx)
        rw [hgx] at Hgx
        clear HND HAny hgx
        go_wp2_with (go_at_call 30; refine Hgx.out.mono ?_; rintro e w5 ⟨rfl, hw⟩; subst hw)
        go_roundw
        case rel => exact ⟨i + 1, by omega, by go_num, HA, by first | rfl | trivial⟩
        case measure => simp [intOf]; omega
    · have hd : decide ((i : Int) < (n : Int)) = false := by simp; omega
      have hdn : decide (i < n) = false := by simp; omega
      have HA := hid (show xs.any g = false from by
        rw [List.any_eq_false]
        intro x hx
        obtain ⟨j, hj, rfl⟩ := List.getElem_of_mem hx
        have := HN.out
        rw [ND.out j (by omega) _ (List.getElem?_eq_getElem hj)]
        decide)
      clear hlt hi
      go_wp2_with fail
      go_ret
      refine ⟨⟨-1, rfl, fun h => ?_, fun _ => rfl⟩, rfl⟩
      rw [HA.out] at h
      cases h
set_option maxRecDepth 20000 in
theorem cfM_any {v : Value} {xs : List (Option Nat)} {LB : Option Nat} (hl : Rc w 1 v xs.length (xs.map pv) LB) (hn : xs.length ≤ 1000000) (g : Option Nat → Bool) (hg : ∀ x ∈ xs, Calls Try.prog 30 #[pv x] w fun e w' => e = .returned (.bool (g x)) ∧ w' = w) :
    Calls Try.prog 29 #[v, .func (.func 30) #[] #[]] w fun e w' => e = .returned (.bool (xs.any g)) ∧ w' = w := by
  have H := hid (ixM_any hl hn g hg)
  obtain ⟨b, hb⟩ : ∃ b, xs.any g = b := ⟨_, rfl⟩
  rw [hb] at H ⊢
  clear hl hn hg hb
  go_enter Try.func29, Try.ntmps29
  go_wp2_with (go_at_call 53; refine H.out.mono ?_; rintro e w5 ⟨⟨j, rfl, h1, h2⟩, hw⟩; have H1 := hid h1; have H2 := hid h2; clear h1 h2; subst hw)
  go_ret
  refine ⟨?_, rfl⟩
  cases b with
  | true =>
    have := H1.out rfl
    simp [this]
  | false => rw [H2.out rfl]; rfl
end
end Go.Proofs.Ytgafefecookgaaa
