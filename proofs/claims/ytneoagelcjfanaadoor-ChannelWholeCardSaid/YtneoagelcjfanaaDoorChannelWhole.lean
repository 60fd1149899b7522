/- Layer 22: ChannelWhole, the walk. -/
import Derived.Test.YtneoagelcjfanaaDoorChP
namespace Go.Proofs.YtneoagelcjfanaaDoor.chn
open Go Go.Xr Go.RowKit Go.Proofs.YtneoagelcjfanaaDoor Go.Proofs.YtneoagelcjfanaaDoor.rcd
set_option linter.unusedVariables false
set_option linter.unusedSimpArgs false
theorem cheavy_no {l : List ByteArray} (h : cheavyS l = false) : l.length ≤ 12 ∧ totN l ≤ 32768 := by
  unfold cheavyS at h
  simp at h
  exact h
set_option maxRecDepth 20000 in
set_option maxHeartbeats 400000 in
theorem whole_h1 {w : World} {va vb vu : Value} {a b : List ByteArray} {ms : List Int} {LA LB LU : Option Nat} (tb : TB w) (x : UInt64) (ha : Rc w 1 va a.length (a.map .string) LA) (hao : ∀ s ∈ a, s.size ≤ 140737488351232) (ham : a.length ≤ 9223372036854775807) (hb : Rc w 1 vb b.length (b.map .string) LB) (hbo : ∀ s ∈ b, s.size ≤ 140737488351232) (hbm : b.length ≤ 9223372036854775807)
    (hu : Rc w 1 vu ms.length (ms.map (.int .u16)) LU) (hum : ms.length ≤ 9223372036854775807) (huv : ∀ y ∈ ms, 0 ≤ y ∧ y ≤ 65535) (hA : cheavyS a = true) :
    Calls Tryd.prog 3 #[va, vb, vu, W64 x] w fun e w' => e = .returned (.bool true) ∧ Fr [] w w' := by
  obtain ⟨la, lca, rfl⟩ := ha.isSlice
  obtain ⟨lb, lcb, rfl⟩ := hb.isSlice
  obtain ⟨lu, lcu, rfl⟩ := hu.isSlice
  have HA := hid (cheavy_any ha hao ham)
  have HW := hid fun (w1 : World) (f : Fr [] w w1) => cworks_any (tb.keep f)
  rw [hA] at HA
  obtain ⟨na, hna⟩ : ∃ n, a.length = n := ⟨_, rfl⟩
  obtain ⟨nb, hnb⟩ : ∃ n, b.length = n := ⟨_, rfl⟩
  obtain ⟨nu, hnu⟩ : ∃ n, ms.length = n := ⟨_, rfl⟩
  rw [hna] at HA ⊢
  rw [hnb, hnu]
  clear ha hb hu hao hbo huv tb ham hbm hA hna hnb hnu hum
  go_enter Tryd.func3, Tryd.ntmps3
  go_wp2_with (first
    | (go_at_call 5; refine HA.out.mono ?_; rintro e w1 ⟨rfl, f1⟩)
    | (go_at_call 6; refine (HW.out _ f1).mono ?_; rintro e w2 ⟨rfl, f2⟩))
  go_ret
  exact ⟨rfl, f1.trans' f2⟩
set_option maxRecDepth 20000 in
set_option maxHeartbeats 400000 in
theorem whole_h2 {w : World} {va vb vu : Value} {a b : List ByteArray} {ms : List Int} {LA LB LU : Option Nat} (tb : TB w) (x : UInt64) (ha : Rc w 1 va a.length (a.map .string) LA) (hao : ∀ s ∈ a, s.size ≤ 140737488351232) (ham : a.length ≤ 9223372036854775807) (hb : Rc w 1 vb b.length (b.map .string) LB) (hbo : ∀ s ∈ b, s.size ≤ 140737488351232) (hbm : b.length ≤ 9223372036854775807)
    (hu : Rc w 1 vu ms.length (ms.map (.int .u16)) LU) (hum : ms.length ≤ 9223372036854775807) (huv : ∀ y ∈ ms, 0 ≤ y ∧ y ≤ 65535) (hA : cheavyS a = false) (hB : cheavyS b = true) :
    Calls Tryd.prog 3 #[va, vb, vu, W64 x] w fun e w' => e = .returned (.bool true) ∧ Fr [] w w' := by
  obtain ⟨la, lca, rfl⟩ := ha.isSlice
  obtain ⟨lb, lcb, rfl⟩ := hb.isSlice
  obtain ⟨lu, lcu, rfl⟩ := hu.isSlice
  have HA := hid (cheavy_any ha hao ham)
  have HW := hid fun (w1 : World) (f : Fr [] w w1) => cworks_any (tb.keep f)
  have HB := hid fun (w1 : World) (f : Fr [] w w1) => cheavy_any (hb.keep f (by simp)) hbo hbm
  rw [hA] at HA
  rw [hB] at HB
  obtain ⟨na, hna⟩ : ∃ n, a.length = n := ⟨_, rfl⟩
  obtain ⟨nb, hnb⟩ : ∃ n, b.length = n := ⟨_, rfl⟩
  obtain ⟨nu, hnu⟩ : ∃ n, ms.length = n := ⟨_, rfl⟩
  rw [hna] at HA ⊢
  rw [hnb] at HB ⊢
  rw [hnu]
  clear hB ha hb hu hao hbo huv tb ham hbm hA hna hnb hnu hum
  go_enter Tryd.func3, Tryd.ntmps3
  go_wp2_with (first
    | (go_at_call 5; refine HA.out.mono ?_; rintro e w1 ⟨rfl, f1⟩; clear HA)
    | (go_at_call 5; refine (HB.out _ f1).mono ?_; rintro e w2 ⟨rfl, f2⟩)
    | (go_at_call 6; refine (HW.out _ (f1.trans' f2)).mono ?_; rintro e w3 ⟨rfl, f3⟩))
  go_ret
  exact ⟨rfl, (f1.trans' f2).trans' f3⟩
set_option maxRecDepth 20000 in
set_option maxHeartbeats 400000 in
theorem whole_h3 {w : World} {va vb vu : Value} {a b : List ByteArray} {ms : List Int} {LA LB LU : Option Nat} (tb : TB w) (x : UInt64) (ha : Rc w 1 va a.length (a.map .string) LA) (hao : ∀ s ∈ a, s.size ≤ 140737488351232) (ham : a.length ≤ 9223372036854775807) (hb : Rc w 1 vb b.length (b.map .string) LB) (hbo : ∀ s ∈ b, s.size ≤ 140737488351232) (hbm : b.length ≤ 9223372036854775807)
    (hu : Rc w 1 vu ms.length (ms.map (.int .u16)) LU) (hum : ms.length ≤ 9223372036854775807) (huv : ∀ y ∈ ms, 0 ≤ y ∧ y ≤ 65535) (hA : cheavyS a = false) (hB : cheavyS b = false) (hM : 200 < ms.length) :
    Calls Tryd.prog 3 #[va, vb, vu, W64 x] w fun e w' => e = .returned (.bool true) ∧ Fr [] w w' := by
  obtain ⟨la, lca, rfl⟩ := ha.isSlice
  obtain ⟨lb, lcb, rfl⟩ := hb.isSlice
  obtain ⟨lu, lcu, rfl⟩ := hu.isSlice
  have HA := hid (cheavy_any ha hao ham)
  have HW := hid fun (w1 : World) (f : Fr [] w w1) => cworks_any (tb.keep f)
  have HB := hid fun (w1 : World) (f : Fr [] w w1) => cheavy_any (hb.keep f (by simp)) hbo hbm
  rw [hA] at HA
  rw [hB] at HB
  obtain ⟨na, hna⟩ : ∃ n, a.length = n := ⟨_, rfl⟩
  obtain ⟨nb, hnb⟩ : ∃ n, b.length = n := ⟨_, rfl⟩
  obtain ⟨nu, hnu⟩ : ∃ n, ms.length = n := ⟨_, rfl⟩
  rw [hna] at HA ⊢
  rw [hnb] at HB ⊢
  rw [hnu] at hM ⊢
  have hd : decide (200 < nu) = true := by simp; omega
  have hd' : decide (200 < (nu : Int)) = true := by simp; omega
  clear hM hB ha hb hu hao hbo huv tb ham hbm hA hna hnb hnu hum
  go_enter Tryd.func3, Tryd.ntmps3
  go_wp2_with (first
    | (go_at_call 5; refine HA.out.mono ?_; rintro e w1 ⟨rfl, f1⟩; clear HA)
    | (go_at_call 5; refine (HB.out _ f1).mono ?_; rintro e w2 ⟨rfl, f2⟩)
    | (go_at_call 6; refine (HW.out _ (f1.trans' f2)).mono ?_; rintro e w3 ⟨rfl, f3⟩))
  go_ret
  exact ⟨rfl, (f1.trans' f2).trans' f3⟩
set_option maxRecDepth 20000 in
set_option maxHeartbeats 800000 in
theorem whole_light {w : World} {va vb vu : Value} {a b : List ByteArray} {ms : List Int} {LA LB LU : Option Nat} (tb : TB w) (x : UInt64) (ha : Rc w 1 va a.length (a.map .string) LA) (hao : ∀ s ∈ a, s.size ≤ 140737488351232) (ham : a.length ≤ 9223372036854775807) (hb : Rc w 1 vb b.length (b.map .string) LB) (hbo : ∀ s ∈ b, s.size ≤ 140737488351232) (hbm : b.length ≤ 9223372036854775807)
    (hu : Rc w 1 vu ms.length (ms.map (.int .u16)) LU) (hum : ms.length ≤ 9223372036854775807) (huv : ∀ y ∈ ms, 0 ≤ y ∧ y ≤ 65535) (hA : cheavyS a = false) (hB : cheavyS b = false) (hM : ms.length ≤ 200) :
    Calls Tryd.prog 3 #[va, vb, vu, W64 x] w fun e w' => e = .returned (.bool true) ∧ Fr [] w w' := by
  obtain ⟨la, lca, rfl⟩ := ha.isSlice
  obtain ⟨lb, lcb, rfl⟩ := hb.isSlice
  obtain ⟨lu, lcu, rfl⟩ := hu.isSlice
  have HA := hid fun (w1 : World) (f : Fr [] w w1) => cheavy_any (ha.keep f (by simp)) hao ham
  have HB := hid fun (w1 : World) (f : Fr [] w w1) => cheavy_any (hb.keep f (by simp)) hbo hbm
  have HW := hid fun (w1 : World) (f : Fr [] w w1) => cworks_any (tb.keep f)
  have HM := hid fun w1 : World => master_any w1 1
  have hm := kmS_size 1
  rw [show bt 1 = Value.int .u8 1 from rfl] at HM
  generalize kmS 1 = mm at *
  have HX := hid fun (w1 : World) (f : Fr [] w w1) => cnew_any mm x false w1 (tb.keep f) hm
  have HY := hid fun (w1 : World) (f : Fr [] w w1) => cnew_any mm x true w1 (tb.keep f) hm
  have KX := chOf_ok mm x false
  have KY := chOf_ok mm x true
  have a1 : (chOf mm x true).ci = (chOf mm x false).co := rfl
  have a2 : (chOf mm x true).mi = (chOf mm x false).mo := rfl
  have a3 : (chOf mm x true).li = (chOf mm x false).lo := rfl
  have b1 : (chOf mm x false).ci = (chOf mm x true).co := rfl
  have b2 : (chOf mm x false).mi = (chOf mm x true).mo := rfl
  have b3 : (chOf mm x false).li = (chOf mm x true).lo := rfl
  have c1 : (chOf mm x false).co.size = 16 := keyC_size _ _
  have c2 : (chOf mm x false).mo.size = 32 := keyM_size _ _
  have d1 : (chOf mm x true).co.size = 16 := keyC_size _ _
  have d2 : (chOf mm x true).mo.size = 32 := keyM_size _ _
  generalize chOf mm x false = CX at *
  generalize chOf mm x true = CY at *
  have HP := hid fun (w1 : World) (cf sf o_f ct st o_t : Nat) (T : Ev w [] w1 (chR ct st o_t CY CHS.init ++ chR cf sf o_f CX CHS.init)) => cpasses_any (Sf := CHS.init) (St := CHS.init) KX KY a1 a2 a3 c1 c2 T rfl rfl rfl rfl rfl ha rfl hu rfl huv (cheavy_no hA).1 (cheavy_no hA).2 hM
  obtain ⟨SY, hSY⟩ : ∃ S : CHS, { CHS.init with no := CHS.init.ns + UInt64.ofNat (ckl a).length } = S := ⟨_, rfl⟩
  obtain ⟨SX, hSX⟩ : ∃ S : CHS, { CHS.init with ns := CHS.init.ns + UInt64.ofNat (ckl a).length } = S := ⟨_, rfl⟩
  have HQ := hid fun (w1 : World) (cf sf o_f ct st o_t : Nat) (T : Ev w [] w1 (chR ct st o_t CX SX ++ chR cf sf o_f CY SY)) => cpasses_any (Sf := SY) (St := SX) KY KX b1 b2 b3 d1 d2 T (by rw [← hSY]; rfl) (by rw [← hSX]; rfl) (by rw [← hSX]; rfl) (by rw [← hSX]; rfl) (by rw [← hSX, ← hSY]; rfl) hb rfl hu rfl huv (cheavy_no hB).1 (cheavy_no hB).2 hM
  rw [hSY, hSX] at HP
  rw [hA] at HA
  rw [hB] at HB
  clear ha hb hu hao hbo huv tb ham hbm a1 a2 a3 b1 b2 b3 c1 c2 d1 d2 hSX hSY KX KY hm hA hB
  obtain ⟨na, hna⟩ : ∃ n, a.length = n := ⟨_, rfl⟩
  obtain ⟨nb, hnb⟩ : ∃ n, b.length = n := ⟨_, rfl⟩
  obtain ⟨nu, hnu⟩ : ∃ n, ms.length = n := ⟨_, rfl⟩
  rw [hna] at HA HP ⊢
  rw [hnb] at HB HQ ⊢
  rw [hnu] at HP HQ hum hM ⊢
  clear hna hnb hnu
  have hd' : decide (200 < (nu : Int)) = false := by simp; omega
  have hd : decide (200 < nu) = false := by simp; omega
  go_enter Tryd.func3, Tryd.ntmps3
  go_wp2_with (first
    | (go_at_call 5; refine (HA.out _ (Fr.refl [] w)).mono ?_; rintro e w1 ⟨rfl, f1⟩; clear HA)
    | (go_at_call 5; refine (HB.out _ f1).mono ?_; rintro e w2 ⟨rfl, f2⟩; have g2 := f1.trans' f2; clear f1 f2)
    | (go_at_call 8; refine (HM.out _).mono ?_; rintro e w3 ⟨rfl, f3⟩; have g3 := g2.trans' f3; clear g2 f3)
    | (go_at_call 7; refine (HX.out _ g3).mono ?_; rintro e w4 ⟨cx, sx, ox, rfl, E4⟩; have T4 := hid (Ev.trans ((Ev.start w).step g3) E4); clear E4 g3)
    | (go_at_call 8; refine (HM.out _).mono ?_; rintro e w5 ⟨rfl, f5⟩; have T5 := hid (T4.out.step f5); have g5 := Ev.nil T5.out; clear T4 f5)
    | (go_at_call 7; refine (HY.out _ g5).mono ?_; rintro e w6 ⟨cy, sy, oy, rfl, E6⟩; have T6 := hid (two_n T5.out E6); clear E6 g5 T5)
    | (go_at_call 9; refine (HP.out _ _ _ _ _ _ _ T6.out).mono ?_; rintro e w7 ⟨rfl, E7⟩; have T7 := hid (two_swap E7); clear E7 T6)
    | (go_at_call 9; refine (HQ.out _ _ _ _ _ _ _ T7.out).mono ?_; rintro e w8 ⟨rfl, E8⟩; have g8 := Ev.nil E8; clear E8 T7)
    | (go_at_call 6; refine (HW.out _ g8).mono ?_; rintro e w9 ⟨rfl, f9⟩))
  go_ret
  exact ⟨rfl, g8.trans' f9⟩
theorem whole_walk {w : World} {va vb vu : Value} {a b : List ByteArray} {ms : List Int} {LA LB LU : Option Nat} (tb : TB w) (x : UInt64) (ha : Rc w 1 va a.length (a.map .string) LA) (hao : ∀ s ∈ a, s.size ≤ 140737488351232) (ham : a.length ≤ 9223372036854775807) (hb : Rc w 1 vb b.length (b.map .string) LB) (hbo : ∀ s ∈ b, s.size ≤ 140737488351232) (hbm : b.length ≤ 9223372036854775807)
    (hu : Rc w 1 vu ms.length (ms.map (.int .u16)) LU) (hum : ms.length ≤ 9223372036854775807) (huv : ∀ y ∈ ms, 0 ≤ y ∧ y ≤ 65535) :
    Calls Tryd.prog 3 #[va, vb, vu, W64 x] w fun e w' => e = .returned (.bool true) ∧ Fr [] w w' := by
  cases hA : cheavyS a with
  | true => exact whole_h1 tb x ha hao ham hb hbo hbm hu hum huv hA
  | false =>
    cases hB : cheavyS b with
    | true => exact whole_h2 tb x ha hao ham hb hbo hbm hu hum huv hA hB
    | false =>
      by_cases hM : ms.length ≤ 200
      · exact whole_light tb x ha hao ham hb hbo hbm hu hum huv hA hB hM
      · exact whole_h3 tb x ha hao ham hb hbo hbm hu hum huv hA hB (by omega)
end Go.Proofs.YtneoagelcjfanaaDoor.chn
