/- Layer 22: works. -/
import Derived.Test.YtneoagelcjfanaaGreatDoorChM
namespace Go.Proofs.YtneoagelcjfanaaGreatDoor.chn
open Go Go.Xr Go.RowKit Go.Proofs.YtneoagelcjfanaaGreatDoor Go.Proofs.YtneoagelcjfanaaGreatDoor.rcd
set_option linter.unusedVariables false
set_option linter.unusedSimpArgs false
section
variable {w0 w w' : World} {X Y X' Y' : List Res}
theorem two_b (a : Ev w0 [] w (X ++ Y)) (e : Ev w X w' X') : Ev w0 [] w' (X' ++ Y) := Ev.then [] Y a e
theorem two_a (a : Ev w0 [] w (X ++ Y)) (e : Ev w Y w' Y') : Ev w0 [] w' (X ++ Y') := by
  have h := Ev.then (w := w0) (rs := []) X [] (ps := Y) (qs := Y') (w1 := w) (w' := w') (by rw [List.append_nil]; exact a) e
  rwa [List.append_nil] at h
theorem two_n (a : Ev w0 [] w Y) (e : Ev w [] w' X) : Ev w0 [] w' (X ++ Y) := Ev.then [] Y a e
theorem two_hb (a : Ev w0 [] w (X ++ Y)) : Held w X := Held.part [] Y a.held
theorem two_ha (a : Ev w0 [] w (X ++ Y)) : Held w Y := Held.part X [] (by rw [List.append_nil]; exact a.held)
end
def abS : ByteArray := ⟨#[97, 98]⟩
theorem cks_ab : cks abS = [abS] := by
  have e : pcs abS = 1 := rfl
  unfold cks
  rw [e]
  show [chunk abS 0] = _
  rfl
theorem wk_plain (m : ByteArray) : ∃ Sx P Q : ByteArray, sendS (chOf m 1 false) 0 abS = Sx ∧ Sx.size = 108 ∧ Sx.extract 0 50 = P ∧ Sx.extract 50 Sx.size = Q ∧ P.size = 50 ∧ Q.size = 58 ∧
    takeS (chOf m 1 true) 0 (⟨#[]⟩ ++ P) = ⟨0, P, ⟨#[]⟩, 0⟩ ∧ takeS (chOf m 1 true) 0 (P ++ Q) = ⟨1, ⟨#[]⟩, abS, 0⟩ ∧ takeS (chOf m 1 true) 1 (⟨#[]⟩ ++ Sx) = ⟨1, ⟨#[]⟩, ⟨#[]⟩, 7⟩ := by
  have hw : sendS (chOf m 1 false) 0 abS = wir (chOf m 1 false) 0 [abS] := by rw [sendS_wir, cks_ab]
  have ho : wir (chOf m 1 false) 0 [abS] = oneR (chOf m 1 false) 0 abS := app_bempty _
  have hs : (oneR (chOf m 1 false) 0 abS).size = 108 := oneR_size _ _ _ (by decide)
  obtain ⟨Sx, hSx⟩ : ∃ Sx, oneR (chOf m 1 false) 0 abS = Sx := ⟨_, rfl⟩
  have hpq : Sx.extract 0 50 ++ Sx.extract 50 Sx.size = Sx := by
    rw [hSx] at hs
    apply ByteArray.ext
    simp only [ByteArray.data_append, ByteArray.data_extract]
    rw [Array.extract_append_extract]
    have e : min 0 50 = 0 := rfl
    have e2 : max 50 Sx.size = Sx.size := by omega
    rw [e, e2]
    exact Array.extract_size ..
  rw [hSx] at hs ho
  have hP : (Sx.extract 0 50).size = 50 := by rw [ByteArray.size_extract]; omega
  have hQ : (Sx.extract 50 Sx.size).size = 58 := by rw [ByteArray.size_extract]; omega
  have law := @take_wir (chOf m 1 false) (chOf m 1 true) rfl rfl rfl (keyC_size _ _) (keyM_size _ _) [abS] 0
  refine ⟨Sx, _, _, hw.trans ho, hs, rfl, rfl, hP, hQ, ?_, ?_, ?_⟩
  · rw [bempty_app]
    obtain ⟨i, H', g1, g2, g3, g4, g5⟩ := law _ (Sx.extract 0 50) ⟨#[]⟩ (Sx.extract 50 Sx.size) (by decide) (hpq.trans ho.symm) (Nat.lt_succ_self _)
    have hi : i = 0 := by
      rcases Nat.eq_zero_or_pos i with h | h
      · exact h
      · have h1 : i = 1 := by simp at g1; omega
        subst h1
        have := congrArg ByteArray.size g3
        rw [ByteArray.size_append, hQ] at this
        have e : (wir (chOf m 1 false) (0 + UInt64.ofNat 1) ([abS].drop 1)).size = 0 := rfl
        omega
    subst hi
    rw [g5 rfl] at g2
    show takeL _ _ _ _ _ = _
    rw [g2]
    rfl
  · obtain ⟨i, H', g1, g2, g3, g4, g5⟩ := law _ (Sx.extract 0 50 ++ Sx.extract 50 Sx.size) ⟨#[]⟩ ⟨#[]⟩ (by decide) (by rw [app_bempty]; exact hpq.trans ho.symm) (Nat.lt_succ_self _)
    have hi : i = 1 := g4 rfl
    subst hi
    rw [app_bempty] at g3
    have hH : H' = ⟨#[]⟩ := g3
    subst hH
    show takeL _ _ _ _ _ = _
    rw [g2]
    rfl
  · have h := take_wrong (A := chOf m 1 false) (B := chOf m 1 true) rfl rfl rfl (keyC_size _ _) (keyM_size _ _) abS 0 1 Sx.size ⟨#[]⟩ (by decide) (by decide)
    rw [hSx] at h
    rw [bempty_app]
    exact h
set_option maxRecDepth 20000 in
set_option maxHeartbeats 4000000 in
theorem cworks_any {w : World} (tb : TB w) : Calls Tryz.prog 7 #[] w fun e w' => e = .returned (.bool true) ∧ Fr [] w w' := by
  have HM := hid fun w1 : World => master_any w1 0
  have hm := kmS_size 0
  rw [show bt 0 = Value.int .u8 0 from rfl] at HM
  generalize kmS 0 = m at *
  have HA := hid fun (w1 : World) (f : Fr [] w w1) => cnew_any m 1 false w1 (tb.keep f) hm
  have HB := hid fun (w1 : World) (f : Fr [] w w1) => cnew_any m 1 true w1 (tb.keep f) hm
  rw [show W64 1 = Value.int .u64 1 from rfl] at HA HB
  obtain ⟨Sx, P, Q, e1, e2, e3, e4, e5, e6, e7, e8, e9⟩ := wk_plain m
  have KA := chOf_ok m 1 false
  have KB := chOf_ok m 1 true
  generalize chOf m 1 false = A at *
  generalize chOf m 1 true = B at *
  obtain ⟨S1, hS1⟩ : ∃ S1 : CHS, S1 = ⟨0, 0, P, false, false⟩ := ⟨_, rfl⟩
  obtain ⟨S2, hS2⟩ : ∃ S2 : CHS, S2 = ⟨0, 1, ⟨#[]⟩, false, false⟩ := ⟨_, rfl⟩
  obtain ⟨S3, hS3⟩ : ∃ S3 : CHS, S3 = ⟨0, 1, ⟨#[]⟩, true, true⟩ := ⟨_, rfl⟩
  have n1 : takeN CHS.init ⟨0, P, ⟨#[]⟩, 0⟩ = S1 := by rw [hS1]; rfl
  have n2 : takeN S1 ⟨1, ⟨#[]⟩, abS, 0⟩ = S2 := by rw [hS1, hS2]; rfl
  have n3 : takeN S2 ⟨1, ⟨#[]⟩, ⟨#[]⟩, 7⟩ = S3 := by rw [hS2, hS3]; rfl
  have G1 := hid fun (w1 : World) (cb s o : Nat) (h : Held w1 (chR cb s o A CHS.init)) => csend_any h KA rfl abS (by decide)
  rw [show CHS.init.ns = 0 from rfl, e1] at G1
  have G2 := hid fun (w1 : World) (cb s o : Nat) (h : Held w1 (chR cb s o B CHS.init)) => ctake_any h KB rfl rfl P (by rw [e5]; decide) _ e7
  rw [n1] at G2
  have G3 := hid fun (w1 : World) (cb s o : Nat) (h : Held w1 (chR cb s o B S1)) => ctake_any h KB (by rw [hS1]) (by rw [hS1]) Q (by rw [hS1, e6]; show P.size + 58 ≤ _; omega) ⟨1, ⟨#[]⟩, abS, 0⟩ (by rw [hS1]; exact e8)
  rw [n2, show Value.string abS = Value.string ⟨#[97, 98]⟩ from rfl] at G3
  have G4 := hid fun (w1 : World) (cb s o : Nat) (h : Held w1 (chR cb s o B S2)) => ctake_any h KB (by rw [hS2]) (by rw [hS2]) Sx (by rw [hS2, e2]; decide) ⟨1, ⟨#[]⟩, ⟨#[]⟩, 7⟩ (by rw [hS2]; exact e9)
  rw [n3] at G4
  have G5 := hid fun (w1 : World) (cb s o : Nat) (h : Held w1 (chR cb s o B S3)) => csend_shut h (by rw [hS3]) ⟨#[120]⟩
  have G6 := hid fun (w1 : World) (cb s o : Nat) (h : Held w1 (chR cb s o B S3)) => cclosed_any h
  rw [show S3.cl = true by rw [hS3]] at G6
  have G7 := hid fun (w1 : World) (cb s o : Nat) (h : Held w1 (chR cb s o B S1)) => cwaits_any h
  rw [show (S1.held.size : Int) = 50 by rw [hS1]; show (P.size : Int) = 50; rw [e5]; rfl] at G7
  have E3 := hid e3
  have E4 := hid e4
  have hsz : ((Sx.size : Int) != 108) = false := by rw [e2]; rfl
  have u1 : decide (Sx.size < 50) = false := by rw [e2]; rfl
  have u3 : 50 ≤ Sx.size := by omega
  have u4 : (50 : Int) ≤ (Sx.size : Int) := by omega
  have u2 : decide ((Sx.size : Int) < 50) = false := by rw [e2]; rfl
  clear e1 e2 e3 e4 e5 e6 e7 e8 e9 n1 n2 n3 hS1 hS2 hS3 tb
  go_enter Tryz.func7, Tryz.ntmps7
  go_wp2_with (first | (go_at_call 16; refine (HM.out _).mono ?_; rintro e w1 ⟨rfl, f1⟩))
  refine (HA.out _ f1).mono ?_
  rintro e w2 ⟨cb, s, o, rfl, E2⟩
  have E2' := hid (Ev.trans ((Ev.start w).step f1) E2)
  clear E2
  go_wp2_with (first | (go_at_call 16; refine (HM.out _).mono ?_; rintro e w3 ⟨rfl, f3⟩))
  have E3' := hid (E2'.out.step f3)
  refine (HB.out _ ((Ev.nil E2'.out).trans' f3)).mono ?_
  rintro e w4 ⟨cb2, s2, o2, rfl, E4'⟩
  have T4 := hid (two_n E3'.out E4')
  clear E4' E3' E2' f3 f1
  go_wp2_with (first
    | (go_at_call 10; refine (G1.out _ _ _ _ (two_ha T4.out)).mono ?_; rintro e w5 ⟨rfl, h5⟩; have T5 := hid (two_a T4.out h5); clear h5 T4)
    | (go_at_call 18; rw [E3.out]; refine (G2.out _ _ _ _ (two_hb T5.out)).mono ?_; rintro e w6 ⟨rfl, h6⟩; have T6 := hid (two_b T5.out h6); clear h6 T5)
    | (go_at_call 13; refine (G7.out _ _ _ _ (two_hb T6.out)).mono ?_; rintro e w7 ⟨rfl, hw⟩; subst hw)
    | (go_at_call 18; rw [E4.out]; refine (G3.out _ _ _ _ (two_hb T6.out)).mono ?_; rintro e w8 ⟨rfl, h8⟩; have T8 := hid (two_b T6.out h8); clear h8 T6)
    | (go_at_call 18; refine (G4.out _ _ _ _ (two_hb T8.out)).mono ?_; rintro e w9 ⟨rfl, h9⟩; have T9 := hid (two_b T8.out h9); clear h9 T8)
    | (go_at_call 10; refine (G5.out _ _ _ _ (two_hb T9.out)).mono ?_; rintro e w10 ⟨rfl, hw⟩; subst hw)
    | (go_at_call 12; refine (G6.out _ _ _ _ (two_hb T9.out)).mono ?_; rintro e w11 ⟨rfl, hw⟩; subst hw))
  go_ret
  exact ⟨rfl, Ev.nil T9.out⟩
end Go.Proofs.YtneoagelcjfanaaGreatDoor.chn
