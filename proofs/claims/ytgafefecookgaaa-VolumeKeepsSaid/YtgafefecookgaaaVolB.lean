/- Layer 8: does something stand in a list twice? -/
import Derived.Test.YtgafefecookgaaaVolA
import Derived.Test.YtgafefecookgaaaGCore
namespace Go.Xr
open Go
/-- Among the first n of them one that is there stands twice. -/
def dupAt (xs : List (Option Nat)) (n : Nat) : Prop := ∃ i, i < n ∧ ∃ x : Nat, xs[i]? = some (some x) ∧ some x ∈ xs.take i
theorem dupAt_succ {xs : List (Option Nat)} {i : Nat} (h : ¬ dupAt xs i) {x : Option Nat} (hx : xs[i]? = some x) (hn : x = none ∨ x ∉ xs.take i) : ¬ dupAt xs (i + 1) := by
  rintro ⟨j, hj, y, h1, h2⟩
  by_cases e : j = i
  · subst e
    rw [hx] at h1
    obtain rfl : x = some y := Option.some.inj h1
    rcases hn with h | h
    · cases h
    · exact h h2
  · exact h ⟨j, by omega, y, h1, h2⟩
theorem count_take_succ (xs : List (Option Nat)) (i : Nat) (x : Option Nat) (hx : xs[i]? = some x) (a : Option Nat) : (xs.take (i + 1)).count a = (xs.take i).count a + if a = x then 1 else 0 := by
  obtain ⟨hlt, rfl⟩ := List.getElem?_eq_some_iff.1 hx
  rw [List.take_succ_eq_append_getElem hlt, List.count_append, List.count_singleton]
  by_cases h : a = xs[i]
  · rw [if_pos h, if_pos (by rw [h]; exact beq_self_eq_true _)]
  · rw [if_neg h, if_neg (by rw [beq_iff_eq]; exact fun e => h e.symm)]
end Go.Xr
namespace Go.Proofs.Ytgafefecookgaaa
open Go Go.Xr Go.RowKit
set_option linter.unusedVariables false
set_option linter.unusedSimpArgs false
set_option maxRecDepth 20000 in
set_option maxHeartbeats 2000000 in
theorem twD_any {w : World} {v : Value} {xs : List (Option Nat)} {LB : Option Nat} (hl : Rc w 1 v xs.length (xs.map pv) LB) (hp : ∀ x ∈ xs, PlnO w x) (hn : xs.length ≤ 1000000) :
    Calls Try.prog 46 #[v, .pointer none] w fun e w' => ∃ b, e = .returned (.bool b) ∧ (b = true ↔ dupAt xs xs.length) ∧ Fr [] w w' := by
  obtain ⟨la, lc, rfl⟩ := hl.isSlice
  have hmm := @run_makeMap Try.prog
  obtain ⟨n, hN⟩ : ∃ n, xs.length = n := ⟨_, rfl⟩
  have HL := hid hl
  have HP := hid hp
  have HN := hid hN
  rw [hN]
  rw [hN] at hn
  clear hl hp hN
  go_enter Try.func46, Try.ntmps46
  go_wp2_with fail
  go_loopw [11] (fun iv wr => ∃ (i : Nat) (ks : List (Option Nat × Int)), i ≤ n ∧ iv = .int .i64 (i : Int) ∧ Hid (PM wr w.heap.size ks) ∧ Hid (Fr [] w wr) ∧ Hid (∀ a, getP ks a = ((xs.take i).count a : Int)) ∧ Hid (∀ p ∈ ks, p.1 ∈ xs) ∧ Hid (¬ dupAt xs i)) (fun iv _ => n - (intOf iv).toNat)
  case atStart => exact ⟨0, [], by omega, rfl, hid (PM.made w), hid ((Fr.refl [] w).alloc _), hid (fun a => rfl), hid (fun p hp => by cases hp), hid (by rintro ⟨i, hi, _⟩; omega)⟩
  case round =>
    obtain ⟨i, ks, hi, rfl, PMk, FR, CNT, KIN, ND⟩ := hrel
    by_cases hlt : i < n
    · have hd : decide ((i : Int) < (n : Int)) = true := by simp; omega
      have hdn : decide (i < n) = true := by simp; omega
      have hix : i < xs.length := by rw [HN.out]; exact hlt
      have hxi : xs[i]? = some xs[i] := List.getElem?_eq_getElem hix
      have hmem : xs[i] ∈ xs := List.getElem_mem hix
      obtain ⟨lb, off, cap, hB, hv, h1, h2, h3, h4⟩ := (HL.out.keep FR.out (by simp)).some (by omega)
      obtain ⟨rfl, rfl⟩ : la = some ⟨lb, off, none⟩ ∧ lc = cap := by simpa using hv
      have hc : wr.cell? ⟨lb, off + i, none⟩ = some (pv xs[i]) := by
        rw [h4 i (by simpa using hix), List.getElem?_map, hxi]
        rfl
      have hpl : ∀ x ∈ xs, PlnO wr x := fun x hx b hb => FR.out.plain b (HP.out x hx b hb)
      have Hpx := hid (hpl xs[i] hmem)
      have Hpk : Hid (∀ p ∈ ks, PlnO wr p.1) := hid fun p hp => hpl p.1 (KIN.out p hp)
      have hcnt := CNT.out xs[i]
      have hcl : (xs.take i).count xs[i] ≤ i := Nat.le_trans List.count_le_length (by rw [List.length_take]; omega)
      obtain ⟨c, hcc⟩ : ∃ c, (xs.take i).count xs[i] = c := ⟨_, rfl⟩
      rw [hcc] at hcnt hcl
      have Hcm := hid (show 0 < c ↔ xs[i] ∈ xs.take i by rw [← hcc]; exact List.count_pos_iff)
      have CNT2 : Hid (∀ a, getP (setP ks xs[i] ((c : Int) + 1)) a = ((xs.take (i + 1)).count a : Int)) := hid fun a => by
        rw [getP_set, count_take_succ xs i _ hxi]
        by_cases h : a = xs[i]
        · rw [if_pos h, if_pos h, h, hcc]; rfl
        · rw [if_neg h, if_neg h, CNT.out a]; rfl
      have KIN2 : Hid (∀ p ∈ setP ks xs[i] ((c : Int) + 1), p.1 ∈ xs) := hid fun p hp => by
        rcases setP_keys ks _ _ p hp with h | ⟨q, hq, h⟩
        · rw [h]; exact hmem
        · rw [← h]; exact KIN.out q hq
      have ND2 := hid fun (h : xs[i] = none ∨ xs[i] ∉ xs.take i) => dupAt_succ ND.out hxi h
      have DU : Hid (∀ x : Nat, xs[i] = some x → 0 < c → dupAt xs n) := hid fun x hx hcp => ⟨i, hlt, x, by rw [hxi, hx], by rw [← hx]; exact Hcm.out.1 hcp⟩
      have hc6 : (c : Int) ≤ 1000000 := by omega
      have Hcnt := hid hcnt
      generalize xs[i] = x at *
      clear hcc CNT KIN h4 hcnt hmem hix hxi hpl hcl HL hB h1
      have hz : ∀ w0 : World, (zeroValue 3).run Try.prog w0 = .ok (.int .i64 0) w0 := fun w0 => rfl
      cases x with
      | none =>
        replace hc : wr.cell? ⟨lb, off + i, none⟩ = some (.pointer none) := hc
        clear DU Hcm
        go_wp2_with (first
          | (refine wpList_pm_get rfl _ _ _ rfl rfl none rfl PMk.out Try.underlying37 rfl (by decide) Try.underlying110 (hz _) Hpx.out Hpk.out ?_; rw [Hcnt.out]; simp only [World.size_alloc, World.size_drew, Act.put, List.setIfInBounds_toArray, List.set_cons_succ, List.set_cons_zero])
          | (refine wpList_pm_put rfl _ _ _ _ rfl rfl none rfl ((c : Int) + 1) rfl PMk.out Try.underlying37 rfl (by decide) Try.underlying110 Hpx.out Hpk.out ?_; intro w7 pm7 f7; simp only [World.size_alloc, World.size_drew, Act.put, List.setIfInBounds_toArray, List.set_cons_succ, List.set_cons_zero]))
        go_roundw
        case rel => exact ⟨i + 1, _, by omega, by go_num, hid pm7, hid (FR.out.trans f7 (fun y hy => .inr (by simp at hy; omega))), CNT2, KIN2, hid (ND2.out (.inl rfl))⟩
        case measure => simp [intOf]; omega
      | some b =>
        replace hc : wr.cell? ⟨lb, off + i, none⟩ = some (.pointer (some ⟨b, 0, none⟩)) := hc
        have hlk : (Instr.lookup 110 (.map (some w.heap.size)) (.pointer (some ⟨b, 0, none⟩)) false).run Try.prog wr = .ok (.int .i64 (c : Int)) wr := by
          rw [← Hcnt.out]
          exact PMk.out.get Try.underlying37 rfl (by decide) Try.underlying110 (hz _) Hpx.out Hpk.out
        by_cases hcp : 0 < c
        · have u1 : decide ((0 : Int) < (c : Int)) = true := by simp; omega
          have u2 : decide (0 < c) = true := by simpa using hcp
          have HDU := hid (DU.out b rfl hcp)
          clear DU Hcm CNT2 KIN2 ND2
          go_wp2_with fail
          go_ret
          exact ⟨true, rfl, ⟨fun _ => HDU.out, fun _ => rfl⟩, FR.out⟩
        · have hc0 : c = 0 := by omega
          have u1 : decide ((0 : Int) < (c : Int)) = false := by simp; omega
          have u2 : decide (0 < c) = false := by simpa using hcp
          have HND := hid (ND2.out (.inr fun h => hcp (Hcm.out.2 h)))
          clear DU Hcm ND2 hcp hc0
          go_wp2_with (first
            | (refine wpList_pm_put rfl _ _ _ _ rfl rfl (some b) rfl ((c : Int) + 1) rfl PMk.out Try.underlying37 rfl (by decide) Try.underlying110 Hpx.out Hpk.out ?_; intro w7 pm7 f7; simp only [World.size_alloc, World.size_drew, Act.put, List.setIfInBounds_toArray, List.set_cons_succ, List.set_cons_zero]))
          go_roundw
          case rel => exact ⟨i + 1, _, by omega, by go_num, hid pm7, hid (FR.out.trans f7 (fun y hy => .inr (by simp at hy; omega))), CNT2, KIN2, HND⟩
          case measure => simp [intOf]; omega
    · have hd : decide ((i : Int) < (n : Int)) = false := by simp; omega
      have hdn : decide (i < n) = false := by simp; omega
      have HI := hid (show i = n by omega)
      clear hlt hi
      go_wp2_with fail
      go_ret
      refine ⟨false, rfl, ?_, FR.out⟩
      have := ND.out
      rw [HI.out] at this
      exact ⟨fun h => (by cases h), fun h => absurd h this⟩
set_option maxRecDepth 20000 in
set_option maxHeartbeats 2000000 in
theorem twM_any {w : World} {v : Value} {xs : List (Option Nat)} {LB : Option Nat} (hl : Rc w 1 v xs.length (xs.map pv) LB) (hp : ∀ x ∈ xs, PlnO w x) (hn : xs.length ≤ 1000000) :
    Calls Try.prog 32 #[v, .pointer none] w fun e w' => ∃ b, e = .returned (.bool b) ∧ (b = true ↔ dupAt xs xs.length) ∧ Fr [] w w' := by
  obtain ⟨la, lc, rfl⟩ := hl.isSlice
  have hmm := @run_makeMap Try.prog
  obtain ⟨n, hN⟩ : ∃ n, xs.length = n := ⟨_, rfl⟩
  have HL := hid hl
  have HP := hid hp
  have HN := hid hN
  rw [hN]
  rw [hN] at hn
  clear hl hp hN
  go_enter Try.func32, Try.ntmps32
  go_wp2_with fail
  go_loopw [11] (fun iv wr => ∃ (i : Nat) (ks : List (Option Nat × Int)), i ≤ n ∧ iv = .int .i64 (i : Int) ∧ Hid (PM wr w.heap.size ks) ∧ Hid (Fr [] w wr) ∧ Hid (∀ a, getP ks a = ((xs.take i).count a : Int)) ∧ Hid (∀ p ∈ ks, p.1 ∈ xs) ∧ Hid (¬ dupAt xs i)) (fun iv _ => n - (intOf iv).toNat)
  case atStart => exact ⟨0, [], by omega, rfl, hid (PM.made w), hid ((Fr.refl [] w).alloc _), hid (fun a => rfl), hid (fun p hp => by cases hp), hid (by rintro ⟨i, hi, _⟩; omega)⟩
  case round =>
    obtain ⟨i, ks, hi, rfl, PMk, FR, CNT, KIN, ND⟩ := hrel
    by_cases hlt : i < n
    · have hd : decide ((i : Int) < (n : Int)) = true := by simp; omega
      have hdn : decide (i < n) = true := by simp; omega
      have hix : i < xs.length := by rw [HN.out]; exact hlt
      have hxi : xs[i]? = some xs[i] := List.getElem?_eq_getElem hix
      have hmem : xs[i] ∈ xs := List.getElem_mem hix
      obtain ⟨lb, off, cap, hB, hv, h1, h2, h3, h4⟩ := (HL.out.keep FR.out (by simp)).some (by omega)
      obtain ⟨rfl, rfl⟩ : la = some ⟨lb, off, none⟩ ∧ lc = cap := by simpa using hv
      have hc : wr.cell? ⟨lb, off + i, none⟩ = some (pv xs[i]) := by
        rw [h4 i (by simpa using hix), List.getElem?_map, hxi]
        rfl
      have hpl : ∀ x ∈ xs, PlnO wr x := fun x hx b hb => FR.out.plain b (HP.out x hx b hb)
      have Hpx := hid (hpl xs[i] hmem)
      have Hpk : Hid (∀ p ∈ ks, PlnO wr p.1) := hid fun p hp => hpl p.1 (KIN.out p hp)
      have hcnt := CNT.out xs[i]
      have hcl : (xs.take i).count xs[i] ≤ i := Nat.le_trans List.count_le_length (by rw [List.length_take]; omega)
      obtain ⟨c, hcc⟩ : ∃ c, (xs.take i).count xs[i] = c := ⟨_, rfl⟩
      rw [hcc] at hcnt hcl
      have Hcm := hid (show 0 < c ↔ xs[i] ∈ xs.take i by rw [← hcc]; exact List.count_pos_iff)
      have CNT2 : Hid (∀ a, getP (setP ks xs[i] ((c : Int) + 1)) a = ((xs.take (i + 1)).count a : Int)) := hid fun a => by
        rw [getP_set, count_take_succ xs i _ hxi]
        by_cases h : a = xs[i]
        · rw [if_pos h, if_pos h, h, hcc]; rfl
        · rw [if_neg h, if_neg h, CNT.out a]; rfl
      have KIN2 : Hid (∀ p ∈ setP ks xs[i] ((c : Int) + 1), p.1 ∈ xs) := hid fun p hp => by
        rcases setP_keys ks _ _ p hp with h | ⟨q, hq, h⟩
        · rw [h]; exact hmem
        · rw [← h]; exact KIN.out q hq
      have ND2 := hid fun (h : xs[i] = none ∨ xs[i] ∉ xs.take i) => dupAt_succ ND.out hxi h
      have DU : Hid (∀ x : Nat, xs[i] = some x → 0 < c → dupAt xs n) := hid fun x hx hcp => ⟨i, hlt, x, by rw [hxi, hx], by rw [← hx]; exact Hcm.out.1 hcp⟩
      have hc6 : (c : Int) ≤ 1000000 := by omega
      have Hcnt := hid hcnt
      generalize xs[i] = x at *
      clear hcc CNT KIN h4 hcnt hmem hix hxi hpl hcl HL hB h1
      have hz : ∀ w0 : World, (zeroValue 3).run Try.prog w0 = .ok (.int .i64 0) w0 := fun w0 => rfl
      cases x with
      | none =>
        replace hc : wr.cell? ⟨lb, off + i, none⟩ = some (.pointer none) := hc
        clear DU Hcm
        go_wp2_with (first
          | (refine wpList_pm_get rfl _ _ _ rfl rfl none rfl PMk.out Try.underlying71 rfl (by decide) Try.underlying101 (hz _) Hpx.out Hpk.out ?_; rw [Hcnt.out]; simp only [World.size_alloc, World.size_drew, Act.put, List.setIfInBounds_toArray, List.set_cons_succ, List.set_cons_zero])
          | (refine wpList_pm_put rfl _ _ _ _ rfl rfl none rfl ((c : Int) + 1) rfl PMk.out Try.underlying71 rfl (by decide) Try.underlying101 Hpx.out Hpk.out ?_; intro w7 pm7 f7; simp only [World.size_alloc, World.size_drew, Act.put, List.setIfInBounds_toArray, List.set_cons_succ, List.set_cons_zero]))
        go_roundw
        case rel => exact ⟨i + 1, _, by omega, by go_num, hid pm7, hid (FR.out.trans f7 (fun y hy => .inr (by simp at hy; omega))), CNT2, KIN2, hid (ND2.out (.inl rfl))⟩
        case measure => simp [intOf]; omega
      | some b =>
        replace hc : wr.cell? ⟨lb, off + i, none⟩ = some (.pointer (some ⟨b, 0, none⟩)) := hc
        have hlk : (Instr.lookup 101 (.map (some w.heap.size)) (.pointer (some ⟨b, 0, none⟩)) false).run Try.prog wr = .ok (.int .i64 (c : Int)) wr := by
          rw [← Hcnt.out]
          exact PMk.out.get Try.underlying71 rfl (by decide) Try.underlying101 (hz _) Hpx.out Hpk.out
        by_cases hcp : 0 < c
        · have u1 : decide ((0 : Int) < (c : Int)) = true := by simp; omega
          have u2 : decide (0 < c) = true := by simpa using hcp
          have HDU := hid (DU.out b rfl hcp)
          clear DU Hcm CNT2 KIN2 ND2
          go_wp2_with fail
          go_ret
          exact ⟨true, rfl, ⟨fun _ => HDU.out, fun _ => rfl⟩, FR.out⟩
        · have hc0 : c = 0 := by omega
          have u1 : decide ((0 : Int) < (c : Int)) = false := by simp; omega
          have u2 : decide (0 < c) = false := by simpa using hcp
          have HND := hid (ND2.out (.inr fun h => hcp (Hcm.out.2 h)))
          clear DU Hcm ND2 hcp hc0
          go_wp2_with (first
            | (refine wpList_pm_put rfl _ _ _ _ rfl rfl (some b) rfl ((c : Int) + 1) rfl PMk.out Try.underlying71 rfl (by decide) Try.underlying101 Hpx.out Hpk.out ?_; intro w7 pm7 f7; simp only [World.size_alloc, World.size_drew, Act.put, List.setIfInBounds_toArray, List.set_cons_succ, List.set_cons_zero]))
          go_roundw
          case rel => exact ⟨i + 1, _, by omega, by go_num, hid pm7, hid (FR.out.trans f7 (fun y hy => .inr (by simp at hy; omega))), CNT2, KIN2, HND⟩
          case measure => simp [intOf]; omega
    · have hd : decide ((i : Int) < (n : Int)) = false := by simp; omega
      have hdn : decide (i < n) = false := by simp; omega
      have HI := hid (show i = n by omega)
      clear hlt hi
      go_wp2_with fail
      go_ret
      refine ⟨false, rfl, ?_, FR.out⟩
      have := ND.out
      rw [HI.out] at this
      exact ⟨fun h => (by cases h), fun h => absurd h this⟩
end Go.Proofs.Ytgafefecookgaaa
