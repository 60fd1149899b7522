/- Layer 8: VolumePlaces, the walk. -/
import Derived.Test.YtgafefecookgaaaVolR
namespace Go.Proofs.Ytgafefecookgaaa
open Go Go.Xr Go.RowKit
set_option linter.unusedVariables false
set_option linter.unusedSimpArgs false
set_option maxRecDepth 20000 in
set_option maxHeartbeats 4000000 in
theorem volumePlaces_walk {w : World} (pairs sectors i pair at' : Int) : Calls Try.prog 3 #[.int .i64 pairs, .int .i64 sectors, .int .i64 i, .int .i64 pair, .int .i64 at'] w fun e w' => e = .returned (.bool true) ∧ Fr [] w w' := by
  have HA := hid valive_any
  obtain ⟨k, hk4, hke⟩ := v_mod pairs 4 (by decide)
  obtain ⟨a, ha6, hae⟩ := v_mod sectors 6 (by decide)
  rw [show ((4 : Nat) : Int) = 4 from rfl] at hke
  rw [show ((6 : Nat) : Int) = 6 from rfl] at hae
  obtain ⟨k1, hk1⟩ : ∃ k1, 1 + k = k1 := ⟨_, rfl⟩
  obtain ⟨K, hK⟩ : ∃ K, 2 * k1 = K := ⟨_, rfl⟩
  obtain ⟨n, hn⟩ : ∃ n, 2 + a = n := ⟨_, rfl⟩
  obtain ⟨e0, he0⟩ : ∃ e, n = e + 1 := ⟨n - 1, by omega⟩
  have had1 := fun ty => v_add ty 1 k k1 hk1 (by omega)
  have hmu1 := fun ty => v_mul ty 2 k1 K hK (by omega)
  have had2 := fun ty => v_add ty 2 a n hn (by omega)
  rw [show ((1 : Nat) : Int) = 1 from rfl] at had1
  rw [show ((2 : Nat) : Int) = 2 from rfl] at hmu1 had2
  have HD := hid (disks_any (w := w) K n (by omega) (by omega) (by omega))
  have HKK := hid hK
  have HK1 := hid (show 1 ≤ k1 ∧ k1 ≤ 4 by omega)
  have HE := hid (show 1 ≤ e0 ∧ e0 ≤ 6 by omega)
  have HN := hid he0
  clear hk4 ha6 hk1 hK hn he0
  go_enter Try.func3, Try.ntmps3
  go_wp2_with (go_at_call 6; refine HD.out.mono ?_; rintro e w1 ⟨vd, Xd, vx, Bx, Fs, Gs, rfl, hFl, hGl, ev1⟩; have nst := hid trivial; revert nst)
  intro _
  obtain ⟨ss, s1, s2, s3, ev2⟩ := disks_ss ev1 (k := k1) (by rw [hFl, HKK.out])
  obtain ⟨B, rfl, erow⟩ := disks_row (ss := ss) (ev2.held.ownAt 0 rfl) hFl (by have := HKK.out; have := HK1.out; omega) s2
  rw [erow] at ev2
  have HMk := hid (mkall_new (e := e0) (i0 := 0) ev2 rfl (by have := HK1.out; omega) (by have := HK1.out; omega) (fun s h => by rw [s3 s h, HN.out]) HE.out.1 (by have := HE.out; omega))
  rw [s1] at HMk
  generalize (([Res.own 1 vd (dsOf ss).length (((dsOf ss).map some).map pv) (some B), Res.own 1 vx K (Gs.map fun q => pv (some q.1)) Bx]) : List Res) = l at *
  generalize List.replicate k1 (newM e0) = Ms at *
  obtain ⟨ad, cd, hvd⟩ := (by have := ev1.held.ownAt 0 rfl; exact this.isSlice : ∃ ad cd, vd = .slice ad K cd)
  subst hvd
  clear ev1 ev2 erow s1 s2 s3 hFl hGl HD had1 hmu1 had2 hke hae
  go_wp2_with (go_at_call 7; refine HMk.out.mono ?_; rintro r w2 ⟨X, rfl, o2, x1, x2, x3, va2⟩; have V2 := hid va2; have O2 := hid o2; have X1 := hid x1; have X3 := hid x3; clear va2 HMk o2 x1 x2 x3)
  have HP1 := hid (vplace_v V2.out O2.out i)
  have HL1 := hid fun (w1 : World) (h : VA w [] w1 l X Ms 0) => vlen_v h O2.out
  have HI2 := hid fun (w1 : World) (h : VA w [] w1 l X Ms 0) => vindex_v h O2.out pair at'
  rw [X1.out, X3.out] at HP1 HL1 HI2
  by_cases hix : (0 ≤ pair ∧ pair < (k1 : Int)) ∧ (0 ≤ at' ∧ at' < (e0 : Int))
  · obtain ⟨y1, y2, y3, y4⟩ := ix_in hix
    have HP2 := hid fun (w1 : World) (h : VA w [] w1 l X Ms 0) => vplace_v h O2.out (ixN k1 e0 pair at' : Int)
    rw [X1.out, X3.out] at HP2
    rw [y1] at HI2
    rw [y2, y3, y4] at HP2
    generalize ((ixN k1 e0 pair at' : Nat) : Int) = jj at *
    clear hix y1 y2 y3 y4
    by_cases hin : 0 ≤ i ∧ i < ((e0 * k1 : Nat) : Int)
    · obtain ⟨h0, h1⟩ := hin
      obtain ⟨y0, y1, y2, y3, y4⟩ := pl_in h0 h1 (by have := HK1.out; omega)
      have HI1 := hid fun (w1 : World) (h : VA w [] w1 l X Ms 0) => vindex_v h O2.out (plP k1 e0 i : Int) (plA k1 e0 i : Int)
      rw [X1.out, X3.out, y3, y4] at HI1
      rw [y0] at HP1
      generalize plP k1 e0 i = p0 at *
      generalize plA k1 e0 i = a0 at *
      generalize e0 * k1 = t at *
      have u0 : decide (0 ≤ i) = true := by simpa using h0
      have u1 : decide (i < (t : Int)) = true := by simpa using h1
      clear y0 y1 y2 y3 y4
      go_wp2_with (first
        | (go_at_call 8; refine HP1.out.mono ?_; rintro r w5 ⟨rfl, f5⟩; have V5 := hid (V2.out.step f5); have hl5 := hid (HL1.out _ V5.out); clear HP1 f5 V2)
        | (go_at_call 9; refine hl5.out.mono ?_; rintro r w6 ⟨rfl, f6⟩; have V6 := hid (V5.out.step f6); have hi6 := hid (HI1.out _ V6.out); clear hl5 f6 V5 HI1)
        | (go_at_call 10; refine hi6.out.mono ?_; rintro r w8 ⟨rfl, hw⟩; subst hw; have V8 := V6; have hi8 := hid (HI2.out _ V8.out); clear hi6)
        | (go_at_call 10; refine hi8.out.mono ?_; rintro r w10 ⟨rfl, hw⟩; subst hw; have hp2 := hid (HP2.out _ V8.out); clear hi8)
        | (go_at_call 8; refine hp2.out.mono ?_; rintro r w11 ⟨rfl, f11⟩; have V11 := hid (V8.out.step f11); clear f11)
        | (go_at_call 11; refine (HA.out _).mono ?_; rintro e w12 ⟨rfl, f12⟩; have V12 := hid (V11.out.step f12)))
      go_ret
      exact ⟨rfl, V12.out.fr⟩
    · have y0 := pl_out hin
      rw [y0] at HP1
      generalize plP k1 e0 i = p0 at *
      generalize plA k1 e0 i = a0 at *
      by_cases h0 : 0 ≤ i
      · generalize e0 * k1 = t at *
        have u0 : decide (0 ≤ i) = true := by simpa using h0
        have u1 : decide (i < (t : Int)) = false := by simp; omega
        clear y0 hin
        go_wp2_with (first
          | (go_at_call 8; refine HP1.out.mono ?_; rintro r w5 ⟨rfl, f5⟩; have V5 := hid (V2.out.step f5); have hl5 := hid (HL1.out _ V5.out); clear HP1 f5 V2)
          | (go_at_call 9; refine hl5.out.mono ?_; rintro r w6 ⟨rfl, f6⟩; have V8 := hid (V5.out.step f6); have hi8 := hid (HI2.out _ V8.out); clear hl5 f6 V5)
          | (go_at_call 10; refine hi8.out.mono ?_; rintro r w10 ⟨rfl, hw⟩; subst hw; have hp2 := hid (HP2.out _ V8.out); clear hi8)
          | (go_at_call 8; refine hp2.out.mono ?_; rintro r w11 ⟨rfl, f11⟩; have V11 := hid (V8.out.step f11); clear f11)
          | (go_at_call 11; refine (HA.out _).mono ?_; rintro e w12 ⟨rfl, f12⟩; have V12 := hid (V11.out.step f12)))
        go_ret
        exact ⟨rfl, V12.out.fr⟩
      · have u0 : decide (0 ≤ i) = false := by simpa using h0
        clear y0 hin
        go_wp2_with (first
          | (go_at_call 8; refine HP1.out.mono ?_; rintro r w5 ⟨rfl, f5⟩; have V8 := hid (V2.out.step f5); have hi8 := hid (HI2.out _ V8.out); clear HP1 f5 V2)
          | (go_at_call 10; refine hi8.out.mono ?_; rintro r w10 ⟨rfl, hw⟩; subst hw; have hp2 := hid (HP2.out _ V8.out); clear hi8)
          | (go_at_call 8; refine hp2.out.mono ?_; rintro r w11 ⟨rfl, f11⟩; have V11 := hid (V8.out.step f11); clear f11)
          | (go_at_call 11; refine (HA.out _).mono ?_; rintro e w12 ⟨rfl, f12⟩; have V12 := hid (V11.out.step f12)))
        go_ret
        exact ⟨rfl, V12.out.fr⟩
  · obtain ⟨y1, y2⟩ := ix_out hix
    have HP2 := hid fun (w1 : World) (h : VA w [] w1 l X Ms 0) => h
    rw [y1, y2] at HI2
    clear hix y1 y2
    by_cases hin : 0 ≤ i ∧ i < ((e0 * k1 : Nat) : Int)
    · obtain ⟨h0, h1⟩ := hin
      obtain ⟨y0, y1, y2, y3, y4⟩ := pl_in h0 h1 (by have := HK1.out; omega)
      have HI1 := hid fun (w1 : World) (h : VA w [] w1 l X Ms 0) => vindex_v h O2.out (plP k1 e0 i : Int) (plA k1 e0 i : Int)
      rw [X1.out, X3.out, y3, y4] at HI1
      rw [y0] at HP1
      generalize plP k1 e0 i = p0 at *
      generalize plA k1 e0 i = a0 at *
      generalize e0 * k1 = t at *
      have u0 : decide (0 ≤ i) = true := by simpa using h0
      have u1 : decide (i < (t : Int)) = true := by simpa using h1
      clear y0 y1 y2 y3 y4
      go_wp2_with (first
        | (go_at_call 8; refine HP1.out.mono ?_; rintro r w5 ⟨rfl, f5⟩; have V5 := hid (V2.out.step f5); have hl5 := hid (HL1.out _ V5.out); clear HP1 f5 V2)
        | (go_at_call 9; refine hl5.out.mono ?_; rintro r w6 ⟨rfl, f6⟩; have V6 := hid (V5.out.step f6); have hi6 := hid (HI1.out _ V6.out); clear hl5 f6 V5 HI1)
        | (go_at_call 10; refine hi6.out.mono ?_; rintro r w8 ⟨rfl, hw⟩; subst hw; have V8 := V6; have hi8 := hid (HI2.out _ V8.out); clear hi6)
        | (go_at_call 10; refine hi8.out.mono ?_; rintro r w10 ⟨rfl, hw⟩; subst hw; have hp2 := hid (HP2.out _ V8.out); clear hi8)
        | (go_at_call 8; refine hp2.out.mono ?_; rintro r w11 ⟨rfl, f11⟩; have V11 := hid (V8.out.step f11); clear f11)
        | (go_at_call 11; refine (HA.out _).mono ?_; rintro e w12 ⟨rfl, f12⟩; have V12 := hid (V8.out.step f12)))
      go_ret
      exact ⟨rfl, V12.out.fr⟩
    · have y0 := pl_out hin
      rw [y0] at HP1
      generalize plP k1 e0 i = p0 at *
      generalize plA k1 e0 i = a0 at *
      by_cases h0 : 0 ≤ i
      · generalize e0 * k1 = t at *
        have u0 : decide (0 ≤ i) = true := by simpa using h0
        have u1 : decide (i < (t : Int)) = false := by simp; omega
        clear y0 hin
        go_wp2_with (first
          | (go_at_call 8; refine HP1.out.mono ?_; rintro r w5 ⟨rfl, f5⟩; have V5 := hid (V2.out.step f5); have hl5 := hid (HL1.out _ V5.out); clear HP1 f5 V2)
          | (go_at_call 9; refine hl5.out.mono ?_; rintro r w6 ⟨rfl, f6⟩; have V8 := hid (V5.out.step f6); have hi8 := hid (HI2.out _ V8.out); clear hl5 f6 V5)
          | (go_at_call 10; refine hi8.out.mono ?_; rintro r w10 ⟨rfl, hw⟩; subst hw; have hp2 := hid (HP2.out _ V8.out); clear hi8)
          | (go_at_call 8; refine hp2.out.mono ?_; rintro r w11 ⟨rfl, f11⟩; have V11 := hid (V8.out.step f11); clear f11)
          | (go_at_call 11; refine (HA.out _).mono ?_; rintro e w12 ⟨rfl, f12⟩; have V12 := hid (V8.out.step f12)))
        go_ret
        exact ⟨rfl, V12.out.fr⟩
      · have u0 : decide (0 ≤ i) = false := by simpa using h0
        clear y0 hin
        go_wp2_with (first
          | (go_at_call 8; refine HP1.out.mono ?_; rintro r w5 ⟨rfl, f5⟩; have V8 := hid (V2.out.step f5); have hi8 := hid (HI2.out _ V8.out); clear HP1 f5 V2)
          | (go_at_call 10; refine hi8.out.mono ?_; rintro r w10 ⟨rfl, hw⟩; subst hw; have hp2 := hid (HP2.out _ V8.out); clear hi8)
          | (go_at_call 8; refine hp2.out.mono ?_; rintro r w11 ⟨rfl, f11⟩; have V11 := hid (V8.out.step f11); clear f11)
          | (go_at_call 11; refine (HA.out _).mono ?_; rintro e w12 ⟨rfl, f12⟩; have V12 := hid (V8.out.step f12)))
        go_ret
        exact ⟨rfl, V12.out.fr⟩
end Go.Proofs.Ytgafefecookgaaa
