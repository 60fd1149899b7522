/- Layer 1, sha: roots, the document's. -/
import Derived.Test.YtkohnmlnpbkphaaShaW
namespace Go.Xr
open Go
set_option linter.unusedVariables false
theorem dg_drop (L : List Nat) (t q : Nat) : dg (L.drop t) q = dg L (t + q) := by
  unfold dg
  rw [List.getD_eq_getElem?_getD, List.getD_eq_getElem?_getD, List.getElem?_drop]
theorem val_ext : ∀ (L R : List Nat), (∀ q, dg L q = dg R q) → valL L = valL R
  | [], [], _ => rfl
  | [], d :: R, h => by
    have h0 : d = 0 := by have := h 0; simpa [dg] using this.symm
    have ih := val_ext [] R fun q => by have := h (q + 1); simpa [dg] using this
    rw [valL, valL, h0, ← ih, valL]
  | d :: L, [], h => by
    have h0 : d = 0 := by have := h 0; simpa [dg] using this
    have ih := val_ext L [] fun q => by have := h (q + 1); simpa [dg] using this
    rw [valL, valL, h0, ih, valL]
  | d :: L, e :: R, h => by
    have h0 : d = e := by have := h 0; simpa [dg] using this
    have ih := val_ext L R fun q => by have := h (q + 1); simpa [dg] using this
    rw [valL, valL, h0, ih]
theorem val_split (L : List Nat) (t : Nat) : valL L = valL (L.take t) + 65536 ^ t * valL (L.drop t) := by
  by_cases h : t ≤ L.length
  · have h1 := valL_append (L.take t) (L.drop t)
    rw [List.take_append_drop, List.length_take, Nat.min_eq_left h] at h1
    exact h1
  · rw [List.take_of_length_le (by omega), List.drop_of_length_le (by omega)]
    simp [valL]
theorem take_lt (L : List Nat) (h : Dg L) (t : Nat) : valL (L.take t) < 65536 ^ t := by
  have h1 := valL_lt (L.take t) fun d hd => h d (List.mem_of_mem_take hd)
  refine Nat.lt_of_lt_of_le h1 (Nat.pow_le_pow_right (by decide) ?_)
  rw [List.length_take]
  omega
/-- The highest digit that differs tells which is less. -/
theorem cmp_dg {L R : List Nat} (hL : Dg L) (hR : Dg R) (t : Nat) (h : ∀ q, t + 1 ≤ q → dg L q = dg R q) (hne : dg L t ≠ dg R t) : decide (valL L ≤ valL R) = decide (dg L t < dg R t) := by
  have e : valL (L.drop (t + 1)) = valL (R.drop (t + 1)) := val_ext _ _ fun q => by rw [dg_drop, dg_drop]; exact h _ (by omega)
  have sL := val_split L (t + 1)
  have sR := val_split R (t + 1)
  rw [valT] at sL sR
  rw [← e] at sR
  have l1 := take_lt L hL t
  have r1 := take_lt R hR t
  generalize 65536 ^ (t + 1) * valL (L.drop (t + 1)) = X at sL sR
  generalize 65536 ^ t = P at sL sR l1 r1
  rw [sL, sR, decide_eq_decide]
  constructor
  · intro hle
    rcases Nat.lt_or_ge (dg L t) (dg R t) with h1 | h1
    · exact h1
    · have h2 : dg R t + 1 ≤ dg L t := by omega
      have h3 := Nat.mul_le_mul_left P h2
      rw [Nat.mul_add, Nat.mul_one] at h3
      omega
  · intro hlt
    have h3 := Nat.mul_le_mul_left P (show dg L t + 1 ≤ dg R t from hlt)
    rw [Nat.mul_add, Nat.mul_one] at h3
    omega
theorem cmp_eq {L R : List Nat} (h : ∀ q, dg L q = dg R q) : decide (valL L ≤ valL R) = true := by
  rw [val_ext L R h]
  simp
end Go.Xr
namespace Go.Proofs.Ytkohnmlnpbkphaa
open Go Go.Xr Go.RowKit
set_option linter.unusedVariables false
set_option linter.unusedSimpArgs false
/-- The power that is asked. -/
def kk (third : Bool) : Nat := if third then 3 else 2
theorem times_any {w : World} {v : Value} {l : List Nat} {LB : Option Nat} (k : Nat) (hk : k ≤ 3) (x : Nat) (hx : x < 65536 ^ (k + 1)) (hD : Dg l) (hl1 : l.length ≤ 1000) (hl : Rc w 1 v l.length (l.map dv) LB) :
    Calls Try.prog 42 #[v, .int .u64 (x : Int)] w fun e w' => TimesTo w w' l x k e := times_ok k hk w v l LB x hx hD hl1 hl
theorem rc_of_blk1 {w : World} {b n : Nat} {xs : List Value} (hb : Blk w b xs) (hn : xs.length = n) (hm : n ≤ maxLen) : Rc w 1 (.slice (some ⟨b, 0, none⟩) n n) n xs (some b) := by
  refine ⟨by omega, fun c hc => by cases hc; exact hb.lt, _, _, rfl, Nat.le_refl _, hm, fun _ => ⟨b, 0, rfl, rfl, fun j hj => ?_⟩⟩
  rw [hb.cell, Nat.zero_add]
theorem dg1 (d : Nat) (h : d < 65536) : Dg [d] := by
  intro x hx
  simp at hx
  omega
theorem val1 (d : Nat) : valL [d] = d := by simp [valL]
set_option maxRecDepth 20000 in
set_option maxHeartbeats 4000000 in
theorem atmost_any {w : World} (x p b : Nat) (third : Bool) (hx : x < 65536 ^ 3) (hp : p < 65536) (hb : b ≤ 32) :
    Calls Try.prog 36 #[.int .u64 (x : Int), .bool third, .int .u64 (p : Int), .int .u64 (b : Int)] w fun e w' => e = .returned (.bool (decide (x ^ kk third ≤ p * 2 ^ (kk third * b)))) ∧ Fr [] w w' := by
  obtain ⟨i9, hi9, hz9, hs9, hb9⟩ := infU64
  have Hi := hid hi9
  have Hz := hid hz9
  have Hs := hid hs9
  have Hb := hid hb9
  have Hx := hid hx
  have Hp := hid hp
  have hm2 : ∀ t, binOp .mul t (.int .u64 2) (.int .u64 (b : Int)) = pure (.int .u64 ((2 * b : Nat) : Int)) := fun t => mulU t 2 b (by omega)
  have hm3 : ∀ t, binOp .mul t (.int .u64 3) (.int .u64 (b : Int)) = pure (.int .u64 ((3 * b : Nat) : Int)) := fun t => mulU t 3 b (by omega)
  obtain ⟨b2, hb2⟩ : ∃ b2, 2 * b = b2 := ⟨_, rfl⟩
  obtain ⟨b3, hb3⟩ : ∃ b3, 3 * b = b3 := ⟨_, rfl⟩
  rw [hb2] at hm2
  rw [hb3] at hm3
  have hb2l : b2 ≤ 64 := by omega
  have hb3l : b3 ≤ 96 := by omega
  have Hb2 := hid hb2
  have Hb3 := hid hb3
  clear hi9 hz9 hs9 hb9 hx hp hb2 hb3
  go_enter Try.func36, Try.ntmps36
  go_wp2_with (refine wpList_build_any rfl _ 1 _ rfl 42 Try.underlying80 _ _ Hi.out Hz.out rfl Hs.out (by decide) (by decide) rfl ([1].map dv) rfl (by simp [dv, Value.oneCell']) ?_; intro w1 f1 hlt1 hb1; simp only [World.size_alloc, World.size_drew, Act.put, List.setIfInBounds_toArray, List.set_cons_succ, List.set_cons_zero])
  refine (times_any 2 (by decide) x Hx.out (dg1 1 (by decide)) (by decide) (rc_of_blk1 hb1 rfl (by decide))).mono ?_
  rintro e w2 ⟨⟨u1, L1, B1, rfl, hr1, hD1, hv1, hl1⟩, f2⟩
  rw [val1, Nat.one_mul] at hv1
  have Hv1 := hid hv1
  have HD1 := hid hD1
  have hl1' : L1.length ≤ 6 := by simpa using hl1
  have g2 := f1.trans' f2
  clear hv1 hD1 hl1 hb1 f1 f2 hlt1
  go_wp2_with fail
  refine (times_any 2 (by decide) x Hx.out HD1.out (by omega) hr1).mono ?_
  rintro e w3 ⟨⟨u2, L2, B2, rfl, hr2, hD2, hv2, hl2⟩, f3⟩
  rw [Hv1.out] at hv2
  have Hv2 := hid hv2
  have HD2 := hid hD2
  have hl2' : L2.length ≤ 11 := by omega
  have g3 := g2.trans' f3
  clear hv2 hD2 hl2 hr1 f3 g2
  go_wp2_with (refine wpList_build_any rfl _ 1 _ rfl 42 Try.underlying80 _ _ Hi.out Hz.out rfl Hs.out (by decide) (by decide) rfl ([p].map dv) rfl (by simp [dv, Value.oneCell']) ?_; intro w4 f4 hlt4 hb4; have hr4 := hr2.keep f4 (by simp); simp only [World.size_alloc, World.size_drew, Act.put, List.setIfInBounds_toArray, List.set_cons_succ, List.set_cons_zero]; revert hr4)
  intro hr4
  have hrp := rc_of_blk1 hb4 rfl (show 1 ≤ maxLen by decide)
  have g4 := g3.trans' f4
  clear hr2 hb4 f4 hlt4 g3
  cases third
  case false =>
    have HvL := hid (show valL L2 = x ^ kk false by rw [Hv2.out]; simp [kk, Nat.pow_two])
    have Hnb := hid (show kk false * b = b2 from Hb2.out)
    have hLl : L2.length ≤ 16 := by omega
    go_wp2_with fail
    go_loopw [10, 12] (fun rv iv wr => ∃ (i : Nat) (R : List Nat) (RB : Option Nat), iv = .int .u64 i ∧ i ≤ b2 ∧ Rc wr 1 rv R.length (R.map dv) RB ∧ Hid (Dg R) ∧ Hid (valL R = p * 2 ^ i) ∧ R.length ≤ 1 + i ∧ Fr [] w4 wr) (fun _ iv _ => b2 - (intOf iv).toNat)
    case atStart => exact ⟨0, [p], _, rfl, by omega, hrp, hid (dg1 p Hp.out), hid (by rw [val1]; simp), by simp, Fr.refl _ _⟩
    case round =>
      obtain ⟨i, R, RB, rfl, hi, hR, HRD, HRv, hRl, f⟩ := hrel
      clear hrp
      by_cases hin : i < b2
      case pos =>
        have h1 : decide ((i : Int) < (b2 : Int)) = true := by simp; omega
        have h1' : decide (i < b2) = true := by simp; omega
        have hadd : ∀ t, binOp .add t (.int .u64 (i : Int)) (.int .u64 1) = pure (.int .u64 ((i + 1 : Nat) : Int)) := fun t => addU t i 1 (by omega)
        obtain ⟨i1, hi1⟩ : ∃ i1, i + 1 = i1 := ⟨_, rfl⟩
        rw [hi1] at hadd
        have HT := hid (times_any 0 (by decide) 2 (by decide) HRD.out (by omega) hR)
        obtain ⟨ra, rc, rfl⟩ : ∃ a c, _ = Value.slice a R.length c := by obtain ⟨_, _, a, c, h3, _⟩ := hR; exact ⟨a, c, h3⟩
        go_wp2_with fail
        refine HT.out.mono ?_
        rintro e w6 ⟨⟨u6, R6, B6, rfl, hr6, hD6, hv6, hl6⟩, f6⟩
        rw [HRv.out] at hv6
        go_wp2_with fail
        go_roundw
        case rel => exact ⟨i1, R6, B6, rfl, by omega, hr6, hid hD6, hid (by rw [hv6, ← hi1, Nat.pow_succ, Nat.mul_assoc]), by omega, f.trans' f6⟩
        case measure => simp [intOf]; omega
      case neg =>
        have h1 : decide ((i : Int) < (b2 : Int)) = false := by simp; omega
        have h1' : decide (i < b2) = false := by simp; omega
        have hii : i = b2 := by omega
        have HRv2 := hid (show valL R = p * 2 ^ (kk false * b) by rw [HRv.out, hii, Hnb.out])
        have hL := (hr4).keep f (by simp)
        have gg := (g4).trans' f
        obtain ⟨ra, rc, rfl⟩ : ∃ a c, _ = Value.slice a R.length c := by obtain ⟨_, _, a, c, h3, _⟩ := hR; exact ⟨a, c, h3⟩
        obtain ⟨la, lc, rfl⟩ : ∃ a c, _ = Value.slice a (L2).length c := by obtain ⟨_, _, a, c, h3, _⟩ := hL; exact ⟨a, c, h3⟩
        obtain ⟨nl, hnl⟩ : ∃ nl, (L2).length = nl := ⟨_, rfl⟩
        obtain ⟨nr, hnr⟩ : ∃ nr, R.length = nr := ⟨_, rfl⟩
        have Hnl := hid hnl
        have Hnr := hid hnr
        rw [hnl] at hL hLl ⊢
        rw [hnr] at hR hRl ⊢
        have Hend := hid (show decide (valL L2 ≤ valL R) = decide (x ^ kk false ≤ p * 2 ^ (kk false * b)) by rw [HvL.out, HRv2.out])
        clear hii HRv hnl hnr f
        have hnr2 : nr ≤ 200 := by omega
        have hcase : (decide ((nl : Int) < (nr : Int)) = true ∧ decide (nl < nr) = true ∧ nl ≤ nr) ∨ (decide ((nl : Int) < (nr : Int)) = false ∧ decide (nl < nr) = false ∧ nr ≤ nl) := by
          by_cases h : nl < nr
          · exact .inl ⟨by simp; omega, by simp; omega, by omega⟩
          · exact .inr ⟨by simp; omega, by simp; omega, by omega⟩
        rcases hcase with ⟨h2, h2', hMe⟩ | ⟨h2, h2', hMe⟩
        all_goals
          go_wp2_with fail
          go_loopw [14, 15, 16] (fun iv av cv wr2 => ∃ (t : Nat), iv = .int .i64 ((t : Int) - 1) ∧ t ≤ 200 ∧ Hid (∀ q, t ≤ q → dg L2 q = dg R q) ∧ Fr [] wr wr2) (fun iv _ _ _ => (intOf iv + 1).toNat)
          case atStart =>
            first
              | exact ⟨nr, rfl, by omega, hid (fun q hq => by rw [dg_end (by rw [Hnl.out]; omega), dg_end (by rw [Hnr.out]; omega)]), Fr.refl _ _⟩
              | exact ⟨nl, rfl, by omega, hid (fun q hq => by rw [dg_end (by rw [Hnl.out]; omega), dg_end (by rw [Hnr.out]; omega)]), Fr.refl _ _⟩
          case round =>
            obtain ⟨t, rfl, ht, HQ2, f⟩ := hrel
            have gf := gg.trans' f
            cases t
            case zero =>
              rw [show ((0 : Nat) : Int) - 1 = -1 from rfl]
              go_wp2_with fail
              go_ret
              rw [← Hend.out, cmp_eq (fun q => HQ2.out q (Nat.zero_le _))]
              exact ⟨rfl, gf⟩
            case succ t =>
              rw [show ((t + 1 : Nat) : Int) - 1 = (t : Int) by omega]
              have htb : t ≤ 200 := by omega
              have hA : (t < nl ∧ decide (t < nl) = true ∧ decide ((t : Int) < (nl : Int)) = true ∧ ∃ lb off, la = some ⟨lb, off, none⟩ ∧ wr.cell? ⟨lb, off + t, none⟩ = some (.int .u64 (dg L2 t : Int))) ∨ (decide (t < nl) = false ∧ decide ((t : Int) < (nl : Int)) = false ∧ dg L2 t = 0) := by
                by_cases h : t < nl
                · obtain ⟨lb, off, h1, _, h2⟩ := dv_at (hL.keep f (by simp)) h
                  exact .inl ⟨h, by simp; omega, by simp; omega, lb, off, h1, h2⟩
                · exact .inr ⟨by simp; omega, by simp; omega, dg_end (by rw [Hnl.out]; omega)⟩
              have hC : (t < nr ∧ decide (t < nr) = true ∧ decide ((t : Int) < (nr : Int)) = true ∧ ∃ lb off, ra = some ⟨lb, off, none⟩ ∧ wr.cell? ⟨lb, off + t, none⟩ = some (.int .u64 (dg R t : Int))) ∨ (decide (t < nr) = false ∧ decide ((t : Int) < (nr : Int)) = false ∧ dg R t = 0) := by
                by_cases h : t < nr
                · obtain ⟨lb, off, h1, _, h2⟩ := dv_at (hR.keep f (by simp)) h
                  exact .inl ⟨h, by simp; omega, by simp; omega, lb, off, h1, h2⟩
                · exact .inr ⟨by simp; omega, by simp; omega, dg_end (by rw [Hnr.out]; omega)⟩
              have Hcmp := hid (cmp_dg (HD2).out HRD.out t HQ2.out)
              have Hnx := hid (fun (h : dg L2 t = dg R t) => (show ∀ q, t ≤ q → dg L2 q = dg R q from fun q hq => by
                rcases Nat.lt_or_ge t q with h1 | h1
                · exact HQ2.out q h1
                · obtain rfl : q = t := by omega
                  exact h))
              obtain ⟨A, hAe⟩ : ∃ A, dg L2 t = A := ⟨_, rfl⟩
              obtain ⟨C, hCe⟩ : ∃ C, dg R t = C := ⟨_, rfl⟩
              rw [hAe] at hA Hcmp Hnx
              rw [hCe] at hC Hcmp Hnx
              clear hAe hCe
              have hac : (Hid (A = C) ∧ ((A : Int) != (C : Int)) = false) ∨ (Hid (A ≠ C) ∧ ((A : Int) != (C : Int)) = true) := by
                by_cases h : A = C
                · exact .inl ⟨hid h, by simp [h]⟩
                · exact .inr ⟨hid h, by simp; omega⟩
              rcases hA with ⟨hA0, hA1, hA3, lb, off, rfl, hA2⟩ | ⟨hA1, hA3, rfl⟩
              all_goals rcases hC with ⟨hC0, hC1, hC3, lb3, off3, rfl, hC2⟩ | ⟨hC1, hC3, rfl⟩
              all_goals rcases hac with ⟨hac1, hac⟩ | ⟨hac1, hac⟩
              all_goals
                go_wp2_with fail
                first
                  | (exact absurd rfl hac1.out)
                  | (go_roundw
                     case rel => exact ⟨t, rfl, by omega, hid (Hnx.out hac1.out), f⟩
                     case measure => simp only [intOf]; omega)
                  | (go_ret
                     rw [← Hend.out, Hcmp.out hac1.out]
                     exact ⟨by simp, gf⟩)
  case true =>
    go_wp2_with fail
    refine (times_any 2 (by decide) x Hx.out HD2.out (by omega) hr4).mono ?_
    rintro e w5 ⟨⟨u3, L3, B3, rfl, hr5, hD3, hv3, hl3⟩, f5⟩
    rw [Hv2.out] at hv3
    have HvL := hid (show valL L3 = x ^ kk true by rw [hv3]; simp [kk, Nat.pow_succ])
    have HD3 := hid hD3
    have Hnb := hid (show kk true * b = b3 from Hb3.out)
    have hLl : L3.length ≤ 16 := by omega
    have hrp5 := hrp.keep f5 (by simp)
    have g5 := g4.trans' f5
    clear hv3 hD3 hl3 hr4 hrp f5 g4
    go_wp2_with fail
    go_loopw [10, 12] (fun rv iv wr => ∃ (i : Nat) (R : List Nat) (RB : Option Nat), iv = .int .u64 i ∧ i ≤ b3 ∧ Rc wr 1 rv R.length (R.map dv) RB ∧ Hid (Dg R) ∧ Hid (valL R = p * 2 ^ i) ∧ R.length ≤ 1 + i ∧ Fr [] w5 wr) (fun _ iv _ => b3 - (intOf iv).toNat)
    case atStart => exact ⟨0, [p], _, rfl, by omega, hrp5, hid (dg1 p Hp.out), hid (by rw [val1]; simp), by simp, Fr.refl _ _⟩
    case round =>
      obtain ⟨i, R, RB, rfl, hi, hR, HRD, HRv, hRl, f⟩ := hrel
      clear hrp5
      by_cases hin : i < b3
      case pos =>
        have h1 : decide ((i : Int) < (b3 : Int)) = true := by simp; omega
        have h1' : decide (i < b3) = true := by simp; omega
        have hadd : ∀ t, binOp .add t (.int .u64 (i : Int)) (.int .u64 1) = pure (.int .u64 ((i + 1 : Nat) : Int)) := fun t => addU t i 1 (by omega)
        obtain ⟨i1, hi1⟩ : ∃ i1, i + 1 = i1 := ⟨_, rfl⟩
        rw [hi1] at hadd
        have HT := hid (times_any 0 (by decide) 2 (by decide) HRD.out (by omega) hR)
        obtain ⟨ra, rc, rfl⟩ : ∃ a c, _ = Value.slice a R.length c := by obtain ⟨_, _, a, c, h3, _⟩ := hR; exact ⟨a, c, h3⟩
        go_wp2_with fail
        refine HT.out.mono ?_
        rintro e w6 ⟨⟨u6, R6, B6, rfl, hr6, hD6, hv6, hl6⟩, f6⟩
        rw [HRv.out] at hv6
        go_wp2_with fail
        go_roundw
        case rel => exact ⟨i1, R6, B6, rfl, by omega, hr6, hid hD6, hid (by rw [hv6, ← hi1, Nat.pow_succ, Nat.mul_assoc]), by omega, f.trans' f6⟩
        case measure => simp [intOf]; omega
      case neg =>
        have h1 : decide ((i : Int) < (b3 : Int)) = false := by simp; omega
        have h1' : decide (i < b3) = false := by simp; omega
        have hii : i = b3 := by omega
        have HRv2 := hid (show valL R = p * 2 ^ (kk true * b) by rw [HRv.out, hii, Hnb.out])
        have hL := (hr5).keep f (by simp)
        have gg := (g5).trans' f
        obtain ⟨ra, rc, rfl⟩ : ∃ a c, _ = Value.slice a R.length c := by obtain ⟨_, _, a, c, h3, _⟩ := hR; exact ⟨a, c, h3⟩
        obtain ⟨la, lc, rfl⟩ : ∃ a c, _ = Value.slice a (L3).length c := by obtain ⟨_, _, a, c, h3, _⟩ := hL; exact ⟨a, c, h3⟩
        obtain ⟨nl, hnl⟩ : ∃ nl, (L3).length = nl := ⟨_, rfl⟩
        obtain ⟨nr, hnr⟩ : ∃ nr, R.length = nr := ⟨_, rfl⟩
        have Hnl := hid hnl
        have Hnr := hid hnr
        rw [hnl] at hL hLl ⊢
        rw [hnr] at hR hRl ⊢
        have Hend := hid (show decide (valL L3 ≤ valL R) = decide (x ^ kk true ≤ p * 2 ^ (kk true * b)) by rw [HvL.out, HRv2.out])
        clear hii HRv hnl hnr f
        have hnr2 : nr ≤ 200 := by omega
        have hcase : (decide ((nl : Int) < (nr : Int)) = true ∧ decide (nl < nr) = true ∧ nl ≤ nr) ∨ (decide ((nl : Int) < (nr : Int)) = false ∧ decide (nl < nr) = false ∧ nr ≤ nl) := by
          by_cases h : nl < nr
          · exact .inl ⟨by simp; omega, by simp; omega, by omega⟩
          · exact .inr ⟨by simp; omega, by simp; omega, by omega⟩
        rcases hcase with ⟨h2, h2', hMe⟩ | ⟨h2, h2', hMe⟩
        all_goals
          go_wp2_with fail
          go_loopw [14, 15, 16] (fun iv av cv wr2 => ∃ (t : Nat), iv = .int .i64 ((t : Int) - 1) ∧ t ≤ 200 ∧ Hid (∀ q, t ≤ q → dg L3 q = dg R q) ∧ Fr [] wr wr2) (fun iv _ _ _ => (intOf iv + 1).toNat)
          case atStart =>
            first
              | exact ⟨nr, rfl, by omega, hid (fun q hq => by rw [dg_end (by rw [Hnl.out]; omega), dg_end (by rw [Hnr.out]; omega)]), Fr.refl _ _⟩
              | exact ⟨nl, rfl, by omega, hid (fun q hq => by rw [dg_end (by rw [Hnl.out]; omega), dg_end (by rw [Hnr.out]; omega)]), Fr.refl _ _⟩
          case round =>
            obtain ⟨t, rfl, ht, HQ2, f⟩ := hrel
            have gf := gg.trans' f
            cases t
            case zero =>
              rw [show ((0 : Nat) : Int) - 1 = -1 from rfl]
              go_wp2_with fail
              go_ret
              rw [← Hend.out, cmp_eq (fun q => HQ2.out q (Nat.zero_le _))]
              exact ⟨rfl, gf⟩
            case succ t =>
              rw [show ((t + 1 : Nat) : Int) - 1 = (t : Int) by omega]
              have htb : t ≤ 200 := by omega
              have hA : (t < nl ∧ decide (t < nl) = true ∧ decide ((t : Int) < (nl : Int)) = true ∧ ∃ lb off, la = some ⟨lb, off, none⟩ ∧ wr.cell? ⟨lb, off + t, none⟩ = some (.int .u64 (dg L3 t : Int))) ∨ (decide (t < nl) = false ∧ decide ((t : Int) < (nl : Int)) = false ∧ dg L3 t = 0) := by
                by_cases h : t < nl
                · obtain ⟨lb, off, h1, _, h2⟩ := dv_at (hL.keep f (by simp)) h
                  exact .inl ⟨h, by simp; omega, by simp; omega, lb, off, h1, h2⟩
                · exact .inr ⟨by simp; omega, by simp; omega, dg_end (by rw [Hnl.out]; omega)⟩
              have hC : (t < nr ∧ decide (t < nr) = true ∧ decide ((t : Int) < (nr : Int)) = true ∧ ∃ lb off, ra = some ⟨lb, off, none⟩ ∧ wr.cell? ⟨lb, off + t, none⟩ = some (.int .u64 (dg R t : Int))) ∨ (decide (t < nr) = false ∧ decide ((t : Int) < (nr : Int)) = false ∧ dg R t = 0) := by
                by_cases h : t < nr
                · obtain ⟨lb, off, h1, _, h2⟩ := dv_at (hR.keep f (by simp)) h
                  exact .inl ⟨h, by simp; omega, by simp; omega, lb, off, h1, h2⟩
                · exact .inr ⟨by simp; omega, by simp; omega, dg_end (by rw [Hnr.out]; omega)⟩
              have Hcmp := hid (cmp_dg (HD3).out HRD.out t HQ2.out)
              have Hnx := hid (fun (h : dg L3 t = dg R t) => (show ∀ q, t ≤ q → dg L3 q = dg R q from fun q hq => by
                rcases Nat.lt_or_ge t q with h1 | h1
                · exact HQ2.out q h1
                · obtain rfl : q = t := by omega
                  exact h))
              obtain ⟨A, hAe⟩ : ∃ A, dg L3 t = A := ⟨_, rfl⟩
              obtain ⟨C, hCe⟩ : ∃ C, dg R t = C := ⟨_, rfl⟩
              rw [hAe] at hA Hcmp Hnx
              rw [hCe] at hC Hcmp Hnx
              clear hAe hCe
              have hac : (Hid (A = C) ∧ ((A : Int) != (C : Int)) = false) ∨ (Hid (A ≠ C) ∧ ((A : Int) != (C : Int)) = true) := by
                by_cases h : A = C
                · exact .inl ⟨hid h, by simp [h]⟩
                · exact .inr ⟨hid h, by simp; omega⟩
              rcases hA with ⟨hA0, hA1, hA3, lb, off, rfl, hA2⟩ | ⟨hA1, hA3, rfl⟩
              all_goals rcases hC with ⟨hC0, hC1, hC3, lb3, off3, rfl, hC2⟩ | ⟨hC1, hC3, rfl⟩
              all_goals rcases hac with ⟨hac1, hac⟩ | ⟨hac1, hac⟩
              all_goals
                go_wp2_with fail
                first
                  | (exact absurd rfl hac1.out)
                  | (go_roundw
                     case rel => exact ⟨t, rfl, by omega, hid (Hnx.out hac1.out), f⟩
                     case measure => simp only [intOf]; omega)
                  | (go_ret
                     rw [← Hend.out, Hcmp.out hac1.out]
                     exact ⟨by simp, gf⟩)
end Go.Proofs.Ytkohnmlnpbkphaa
