/- Layer 8: all, Flush, Resync. -/
import Derived.Test.YtgafefecookgaaaVolK
namespace Go.Proofs.Ytgafefecookgaaa
open Go Go.Xr Go.RowKit
set_option linter.unusedVariables false
set_option linter.unusedSimpArgs false
/-- The first q of them are behind the step. -/
def upTo (g : MS → MS) (Ms : List MS) (q : Nat) : List MS := (Ms.take q).map g ++ Ms.drop q
/-- The first error. -/
def firstC (F : MS → Int) (Ms : List MS) : Int := Ms.foldl (fun a M => if a = 0 then F M else a) 0
theorem upTo_0 (g : MS → MS) (Ms : List MS) : upTo g Ms 0 = Ms := by simp [upTo]
theorem upTo_all (g : MS → MS) (Ms : List MS) : upTo g Ms Ms.length = Ms.map g := by simp [upTo]
theorem upTo_get (g : MS → MS) {Ms : List MS} {q : Nat} {M : MS} (h : Ms[q]? = some M) : (upTo g Ms q)[q]? = some M := by
  have hlt := (List.getElem?_eq_some_iff.1 h).1
  unfold upTo
  rw [List.getElem?_append_right (by rw [List.length_map, List.length_take]; omega), List.length_map, List.length_take, List.getElem?_drop, Nat.min_eq_left (by omega), Nat.sub_self, Nat.add_zero, h]
theorem upTo_set (g : MS → MS) {Ms : List MS} {q : Nat} {M : MS} (h : Ms[q]? = some M) : (upTo g Ms q).set q (g M) = upTo g Ms (q + 1) := by
  obtain ⟨hlt, e⟩ := List.getElem?_eq_some_iff.1 h
  unfold upTo
  rw [List.set_append_right _ _ (by rw [List.length_map, List.length_take]; omega), List.length_map, List.length_take, Nat.min_eq_left (by omega), Nat.sub_self, List.drop_eq_getElem_cons hlt, e, List.set_cons_zero, List.take_add_one, h]
  simp
theorem firstC_succ (F : MS → Int) {Ms : List MS} {q : Nat} {M : MS} (h : Ms[q]? = some M) : firstC F (Ms.take (q + 1)) = if firstC F (Ms.take q) = 0 then F M else firstC F (Ms.take q) := by
  unfold firstC
  rw [List.take_add_one, h]
  simp [List.foldl_append]
section
variable {w w' w0 : World} {l rs : List Res} {X : VX} {Ms : List MS} {wt : Int} {k m a : Nat} {M : MS}
set_option maxRecDepth 20000 in
theorem vall_f_nil  (w : World) : Calls Try.prog 37 #[.pointer none, .func (.func 41) #[] #[]] w fun e w' => e = .returned (.int .i64 1) ∧ w' = w := by
  go_enter Try.func37, Try.ntmps37
  go_wp2_with fail
  go_ret
  exact ⟨rfl, rfl⟩
set_option maxRecDepth 20000 in
set_option maxHeartbeats 2000000 in
theorem vall_f  {J : Nat → List Res} {g : MS → MS} {F : MS → Int} (h : VA w0 rs w (J 0) X Ms wt) (o : VOk X)
    (HT : ∀ (q : Nat) (M : MS) (m : Nat) (w1 : World), Ms[q]? = some M → X.ms[q]? = some m → VA w0 rs w1 (J q) X (upTo g Ms q) wt → Calls Try.prog 41 #[.pointer (some ⟨m, 0, none⟩)] w1 fun e w' => e = .returned (.int .i64 (F M)) ∧ VA w0 rs w' (J (q + 1)) X (upTo g Ms (q + 1)) wt) :
    Calls Try.prog 37 #[.pointer (some ⟨X.vb, 0, none⟩), .func (.func 41) #[] #[]] w fun e w' => e = .returned (.int .i64 (firstC F Ms)) ∧ VA w0 rs w' (J Ms.length) X (Ms.map g) wt := by
  have hl := h.len.1
  obtain ⟨c, hv, h1, h2, hb, hcell⟩ := h.shape o
  have k0 : w.cell? ⟨X.vb, 0, none⟩ = some (.slice (some ⟨X.rb, 0, none⟩) X.ms.length c) := hb.cell 0
  have HC := hid fun (w1 : World) (q : Nat) (m : Nat) (hm : X.ms[q]? = some m) (h1 : VA w0 rs w1 (J q) X (upTo g Ms q) wt) => (show w1.cell? ⟨X.rb, q, none⟩ = some (.pointer (some ⟨m, 0, none⟩)) from by
    obtain ⟨c2, hv2, _, _, hb2, hcell2⟩ := h1.shape o
    exact hcell2 q m hm)
  have HV : Hid (VA w0 rs w (J 0) X (upTo g Ms 0) wt) := hid (by rw [upTo_0]; exact h)
  have HT' := hid HT
  have hsn := @Lib.run_eql_slice_nil
  have hn8 := o.h8
  have HL := hid hl
  obtain ⟨n, hn⟩ : ∃ n, X.ms.length = n := ⟨_, rfl⟩
  have HN := hid hn
  rw [hn] at k0 hn8
  clear h hb hcell hv h1 h2 HT hl hn
  go_enter Try.func37, Try.ntmps37
  go_wp2_with fail
  clear k0
  go_loopw [5, 23] (fun av iv wr => ∃ q : Nat, q ≤ n ∧ iv = .int .i64 (q : Int) ∧ av = .int .i64 (firstC F (Ms.take q)) ∧ Hid (VA w0 rs wr (J q) X (upTo g Ms q) wt)) (fun _ iv _ => n - (intOf iv).toNat)
  case atStart => exact ⟨0, by omega, rfl, rfl, HV⟩
  case round =>
    obtain ⟨q, hq, rfl, rfl, V⟩ := hrel
    clear HV
    by_cases hlt : q < n
    · have hd : decide ((q : Int) < (n : Int)) = true := by simp; omega
      have hdn : decide (q < n) = true := by simp; omega
      obtain ⟨m, hm⟩ : ∃ m, X.ms[q]? = some m := ⟨_, List.getElem?_eq_getElem (by have := HN.out; omega)⟩
      obtain ⟨M, hM⟩ : ∃ M, Ms[q]? = some M := ⟨_, List.getElem?_eq_getElem (by have := HN.out; have := HL.out; omega)⟩
      have hc := HC.out wr q m hm V.out
      have HQ := hid (HT'.out q M m wr hM hm V.out)
      have HF := hid (firstC_succ F hM)
      have hq8 : (q : Int) ≤ 8 := by omega
      generalize F M = fm at *
      generalize firstC F (Ms.take q) = fa at *
      clear hm hM V
      by_cases h0 : fa = 0
      · subst h0
        rw [if_pos rfl] at HF
        go_wp2_with (go_at_call 41; refine HQ.out.mono ?_; rintro e w5 ⟨rfl, v5⟩)
        go_roundw
        case rel => exact ⟨q + 1, by omega, by go_num, by rw [HF.out], hid v5⟩
        case measure => simp [intOf]; omega
      · have u0 : (fa == 0) = false := by simpa using h0
        rw [if_neg h0] at HF
        go_wp2_with (go_at_call 41; refine HQ.out.mono ?_; rintro e w5 ⟨rfl, v5⟩)
        go_roundw
        case rel => exact ⟨q + 1, by omega, by go_num, by rw [HF.out], hid v5⟩
        case measure => simp [intOf]; omega
    · obtain rfl : q = n := by omega
      have hd : decide ((q : Int) < (q : Int)) = false := by simp
      have e1 : Ms.take q = Ms := by rw [List.take_of_length_le (by have := HN.out; have := HL.out; omega)]
      have e2 : q = Ms.length := by have := HN.out; have := HL.out; omega
      have V2 : Hid (VA w0 rs wr (J Ms.length) X (Ms.map g) wt) := hid (by have := V.out; rw [e2, upTo_all] at this; exact this)
      rw [e1]
      clear hlt hq e1 e2 V
      go_wp2_with fail
      go_ret
      exact ⟨rfl, V2.out⟩
set_option maxRecDepth 20000 in
theorem vall_r_nil {nb : Nat} (w : World) : Calls Try.prog 37 #[.pointer none, .func (.func 38) #[] #[.pointer (some ⟨nb, 0, none⟩)]] w fun e w' => e = .returned (.int .i64 1) ∧ w' = w := by
  go_enter Try.func37, Try.ntmps37
  go_wp2_with fail
  go_ret
  exact ⟨rfl, rfl⟩
set_option maxRecDepth 20000 in
set_option maxHeartbeats 2000000 in
theorem vall_r {nb : Nat} {J : Nat → List Res} {g : MS → MS} {F : MS → Int} (h : VA w0 rs w (J 0) X Ms wt) (o : VOk X)
    (HT : ∀ (q : Nat) (M : MS) (m : Nat) (w1 : World), Ms[q]? = some M → X.ms[q]? = some m → VA w0 rs w1 (J q) X (upTo g Ms q) wt → Calls Try.prog 38 #[.pointer (some ⟨m, 0, none⟩), .pointer (some ⟨nb, 0, none⟩)] w1 fun e w' => e = .returned (.int .i64 (F M)) ∧ VA w0 rs w' (J (q + 1)) X (upTo g Ms (q + 1)) wt) :
    Calls Try.prog 37 #[.pointer (some ⟨X.vb, 0, none⟩), .func (.func 38) #[] #[.pointer (some ⟨nb, 0, none⟩)]] w fun e w' => e = .returned (.int .i64 (firstC F Ms)) ∧ VA w0 rs w' (J Ms.length) X (Ms.map g) wt := by
  have hl := h.len.1
  obtain ⟨c, hv, h1, h2, hb, hcell⟩ := h.shape o
  have k0 : w.cell? ⟨X.vb, 0, none⟩ = some (.slice (some ⟨X.rb, 0, none⟩) X.ms.length c) := hb.cell 0
  have HC := hid fun (w1 : World) (q : Nat) (m : Nat) (hm : X.ms[q]? = some m) (h1 : VA w0 rs w1 (J q) X (upTo g Ms q) wt) => (show w1.cell? ⟨X.rb, q, none⟩ = some (.pointer (some ⟨m, 0, none⟩)) from by
    obtain ⟨c2, hv2, _, _, hb2, hcell2⟩ := h1.shape o
    exact hcell2 q m hm)
  have HV : Hid (VA w0 rs w (J 0) X (upTo g Ms 0) wt) := hid (by rw [upTo_0]; exact h)
  have HT' := hid HT
  have hsn := @Lib.run_eql_slice_nil
  have hn8 := o.h8
  have HL := hid hl
  obtain ⟨n, hn⟩ : ∃ n, X.ms.length = n := ⟨_, rfl⟩
  have HN := hid hn
  rw [hn] at k0 hn8
  clear h hb hcell hv h1 h2 HT hl hn
  go_enter Try.func37, Try.ntmps37
  go_wp2_with fail
  clear k0
  go_loopw [5, 23] (fun av iv wr => ∃ q : Nat, q ≤ n ∧ iv = .int .i64 (q : Int) ∧ av = .int .i64 (firstC F (Ms.take q)) ∧ Hid (VA w0 rs wr (J q) X (upTo g Ms q) wt)) (fun _ iv _ => n - (intOf iv).toNat)
  case atStart => exact ⟨0, by omega, rfl, rfl, HV⟩
  case round =>
    obtain ⟨q, hq, rfl, rfl, V⟩ := hrel
    clear HV
    by_cases hlt : q < n
    · have hd : decide ((q : Int) < (n : Int)) = true := by simp; omega
      have hdn : decide (q < n) = true := by simp; omega
      obtain ⟨m, hm⟩ : ∃ m, X.ms[q]? = some m := ⟨_, List.getElem?_eq_getElem (by have := HN.out; omega)⟩
      obtain ⟨M, hM⟩ : ∃ M, Ms[q]? = some M := ⟨_, List.getElem?_eq_getElem (by have := HN.out; have := HL.out; omega)⟩
      have hc := HC.out wr q m hm V.out
      have HQ := hid (HT'.out q M m wr hM hm V.out)
      have HF := hid (firstC_succ F hM)
      have hq8 : (q : Int) ≤ 8 := by omega
      generalize F M = fm at *
      generalize firstC F (Ms.take q) = fa at *
      clear hm hM V
      by_cases h0 : fa = 0
      · subst h0
        rw [if_pos rfl] at HF
        go_wp2_with (go_at_call 38; refine HQ.out.mono ?_; rintro e w5 ⟨rfl, v5⟩)
        go_roundw
        case rel => exact ⟨q + 1, by omega, by go_num, by rw [HF.out], hid v5⟩
        case measure => simp [intOf]; omega
      · have u0 : (fa == 0) = false := by simpa using h0
        rw [if_neg h0] at HF
        go_wp2_with (go_at_call 38; refine HQ.out.mono ?_; rintro e w5 ⟨rfl, v5⟩)
        go_roundw
        case rel => exact ⟨q + 1, by omega, by go_num, by rw [HF.out], hid v5⟩
        case measure => simp [intOf]; omega
    · obtain rfl : q = n := by omega
      have hd : decide ((q : Int) < (q : Int)) = false := by simp
      have e1 : Ms.take q = Ms := by rw [List.take_of_length_le (by have := HN.out; have := HL.out; omega)]
      have e2 : q = Ms.length := by have := HN.out; have := HL.out; omega
      have V2 : Hid (VA w0 rs wr (J Ms.length) X (Ms.map g) wt) := hid (by have := V.out; rw [e2, upTo_all] at this; exact this)
      rw [e1]
      clear hlt hq e1 e2 V
      go_wp2_with fail
      go_ret
      exact ⟨rfl, V2.out⟩
set_option maxRecDepth 20000 in
theorem vflush_nil (w : World) : Calls Try.prog 18 #[.pointer none] w fun e w' => e = .returned (.int .i64 1) ∧ w' = w := by
  go_enter Try.func18, Try.ntmps18
  go_wp2_with (go_at_call 37; refine (vall_f_nil _).mono ?_; rintro r w5 ⟨rfl, hw⟩; subst hw)
  go_ret
  exact ⟨rfl, rfl⟩
set_option maxRecDepth 20000 in
theorem vflush_any (h : VA w0 rs w l X Ms wt) (o : VOk X) (ok : ∀ M ∈ Ms, SysOk M.s) (ht : ∀ M ∈ Ms, M.s.T < 998900) :
    Calls Try.prog 18 #[.pointer (some ⟨X.vb, 0, none⟩)] w fun e w' => e = .returned (.int .i64 (firstC MS.flushC Ms)) ∧ VA w0 rs w' l X (Ms.map MS.flushM) wt := by
  have HA := hid (vall_f (J := fun _ => l) (g := MS.flushM) (F := MS.flushC) h o (fun q M m w1 hM hm hv => by
    have hmem := List.mem_of_getElem? hM
    have := vf_at hv (upTo_get _ hM) hm (ok M hmem) (ht M hmem)
    rw [upTo_set _ hM] at this
    exact this))
  clear h ok ht
  go_enter Try.func18, Try.ntmps18
  go_wp2_with (go_at_call 37; refine HA.out.mono ?_; rintro r w5 ⟨rfl, v5⟩)
  go_ret
  exact ⟨rfl, v5⟩
set_option maxRecDepth 20000 in
theorem vresync_nil (w : World) : Calls Try.prog 16 #[.pointer none] w fun e w' => e = .returned (.tuple #[.int .i64 0, .int .i64 1]) ∧ Fr [] w w' := by
  go_enter Try.func16, Try.ntmps16
  go_wp2_with (go_at_call 37; refine (vall_r_nil _).mono ?_; rintro r w5 ⟨rfl, hw⟩; subst hw)
  go_ret2
  exact ⟨rfl, (Fr.refl [] _).alloc _⟩
end
end Go.Proofs.Ytgafefecookgaaa
