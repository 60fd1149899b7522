/- Layer 3, aes: a block turned back. -/
import Derived.Test.YtnkcogaaajkplaaAesF
namespace Go.Xr
open Go
set_option linter.unusedVariables false
/-- Where byte i goes. -/
def gx (i : Nat) : Nat := (i + i % 4 * 4) % 16
def setsI (f : Nat → UInt8) (s : List UInt8) : Nat → List UInt8
  | 0 => s
  | i + 1 => (setsI f s i).set (gx i) (f i)
def igx (j : Nat) : Nat := (j + j % 4 * 12) % 16
def setsL (f : Nat → UInt8) : List UInt8 := (List.range 16).map fun j => f (igx j)
theorem setsI_len (f : Nat → UInt8) (s : List UInt8) (i : Nat) : (setsI f s i).length = s.length := by
  induction i with
  | zero => rfl
  | succ i ih => rw [setsI, List.length_set, ih]
theorem setsI_get (f : Nat → UInt8) (s : List UInt8) (hs : s.length = 16) : ∀ n, n ≤ 16 → ∀ i, i < n → (setsI f s n)[gx i]? = some (f i)
  | 0, _, i, hi => absurd hi (Nat.not_lt_zero _)
  | n + 1, hn, i, hi => by
    rw [setsI, List.getElem?_set, setsI_len, hs]
    by_cases h : gx n = gx i
    · have e : n = i := by
        have key : ∀ a, a < 16 → ∀ b, b < 16 → gx a = gx b → a = b := by decide
        exact key n (by omega) i (by omega) h
      rw [if_pos h, if_pos (by unfold gx; omega), e]
    · rw [if_neg h]
      exact setsI_get f s hs n (by omega) i (by
        by_cases he : i = n
        · exact absurd (by rw [he]) h
        · omega)
theorem setsI_all (f : Nat → UInt8) (s : List UInt8) (hs : s.length = 16) : setsI f s 16 = setsL f := by
  apply List.ext_getElem?
  intro j
  by_cases hj : j < 16
  · have key : ∀ a, a < 16 → gx (igx a) = a := by decide
    have h := setsI_get f s hs 16 (by omega) (igx j) (by unfold igx; omega)
    rw [key j hj] at h
    rw [h]
    simp [setsL, hj]
  · rw [List.getElem?_eq_none (by rw [setsI_len]; omega), List.getElem?_eq_none (by simp [setsL]; omega)]
/-- The first i bytes laid back over s. -/
def ushI (T t s : List UInt8) (i : Nat) : List UInt8 := setsI (fun i => g8 T (432 + (g8 t i).toNat)) s i
theorem ushI_zero (T t s : List UInt8) : ushI T t s 0 = s := rfl
theorem ushI_succ (T t s : List UInt8) (i : Nat) : ushI T t s (i + 1) = (ushI T t s i).set (gx i) (g8 T (432 + (g8 t i).toNat)) := rfl
theorem ushI_len (T t s : List UInt8) (i : Nat) : (ushI T t s i).length = s.length := setsI_len _ _ _
def ush (T t : List UInt8) : List UInt8 := setsL fun i => g8 T (432 + (g8 t i).toNat)
theorem ush_len (T t : List UInt8) : (ush T t).length = 16 := by
  simp [ush, setsL]
theorem ush_any (T t s : List UInt8) (hs : s.length = 16) : ushI T t s 16 = ush T t := setsI_all _ s hs
def F2 : List UInt8 := [14, 11, 13, 9]
/-- From round 10 down, k rounds done. -/
def bkR (T s : List UInt8) : Nat → List UInt8
  | 0 => s
  | k + 1 => ush T (if k = 0 then xorL (bkR T s k) (rk T (10 - k)) else mixL F2 (xorL (bkR T s k) (rk T (10 - k))))
theorem bkR_len (T s : List UInt8) (hs : s.length = 16) (k : Nat) : (bkR T s k).length = 16 := by
  cases k with
  | zero => exact hs
  | succ k => exact ush_len _ _
def backS (T s : List UInt8) : List UInt8 := xorL (bkR T s 10) (rk T 0)
theorem backS_len (T s : List UInt8) : (backS T s).length = 16 := xorL_len _ _
end Go.Xr
namespace Go.Proofs.Ytnkcogaaajkplaa
open Go Go.Xr Go.RowKit
set_option linter.unusedVariables false
set_option linter.unusedSimpArgs false
attribute [local go_sem] xor_u8 xor_u8_c at_bt

theorem mix_F2 {w : World} (l : List UInt8) (hl : l.length = 16) : Calls Try.prog 31 #[.agg (bv l).toArray, .agg #[.int .u8 14, .int .u8 11, .int .u8 13, .int .u8 9]] w fun e w' => e = .returned (.agg (bv (mixL F2 l)).toArray) ∧ Fr [] w w' := mix_any l F2 hl rfl

set_option maxRecDepth 20000 in
set_option maxHeartbeats 1000000 in
theorem back_any {w : World} {p : Nat} {T s : List UInt8} (hT : T.length = 688) (hs : s.length = 16) (hp : Blk w p (ciph T)) :
    Calls Try.prog 25 #[.pointer (some ⟨p, 0, none⟩), .agg (bv s).toArray] w fun e w' => e = .returned (.agg (bv (backS T s)).toArray) ∧ Fr [] w w' := by
  obtain ⟨i, hi, hz, _⟩ := infS
  have Hi := hid hi
  have Hz := hid hz
  have HT := hid hT
  have Hs := hid hs
  have hplt := hp.lt
  clear hi hz hT hs
  go_enter Try.func25, Try.ntmps25
  go_wp2_with (first
    | (refine wpList_box rfl _ _ rfl (bv s) rfl ?_; intro w1 f1 hlt1 hb1; simp only [World.size_alloc, World.size_drew, Act.put, List.setIfInBounds_toArray, List.set_cons_succ, List.set_cons_zero])
    | (refine wpList_alloc_any rfl _ rfl _ _ 16 Hi.out Hz.out rfl ?_; intro zs w2 hzl hze f2 hlt2 hb2; rw [hze] at hb2; clear hzl hze; simp only [World.size_alloc, World.size_drew, Act.put, List.setIfInBounds_toArray, List.set_cons_succ, List.set_cons_zero]))
  have q1 : Blk w2 w.heap.size (bv s) := f2.blk hb1 (by simp)
  have q2 : Blk w2 w1.heap.size (bv (List.replicate 16 0)) := hb2
  have q0 : Blk w2 p (ciph T) := f2.blk (f1.blk hp (by simp)) (by simp)
  have g2 := f1.trans' f2
  obtain ⟨N1, hN1⟩ : ∃ N1, w1.heap.size = N1 := ⟨_, rfl⟩
  rw [hN1] at q2 hlt1 ⊢
  obtain ⟨N0, hN0⟩ : ∃ N0, w.heap.size = N0 := ⟨_, rfl⟩
  rw [hN0] at q1 hlt1 hplt ⊢
  have HN0 := hid hN0
  have hl2 : N1 < w2.heap.size := by omega
  clear hb1 hb2 f1 f2 hN1 hN0 hlt2 hp
  go_wp2_with fail
  go_loopw [5] (fun rv wr => ∃ r : Nat, r ≤ 10 ∧ rv = .int .i64 r ∧ Blk wr p (ciph T) ∧ Blk wr N0 (bv (bkR T s (10 - r))) ∧ Blk wr N1 (bv (List.replicate 16 0)) ∧ Fr [] w wr ∧ N1 < wr.heap.size) (fun rv _ => (intOf rv).toNat)
  case atStart => exact ⟨10, by decide, rfl, q0, q1, q2, g2, hl2⟩
  case round =>
    obtain ⟨r, hr, rfl, b0, b1, b2, f, hn⟩ := hrel
    clear q0 q1 q2 g2 hl2
    by_cases hlt : 0 < r
    · have hd1 : decide ((r : Int) > 0) = true := by simp; omega
      obtain ⟨C, hC⟩ : ∃ C, bkR T s (10 - r) = C := ⟨_, rfl⟩
      have hCl : C.length = 16 := by rw [← hC]; exact bkR_len _ _ Hs.out _
      have hrl : (rk T r).length = 16 := rk_len T HT.out r (by omega)
      have HC := hid hC
      have HCl := hid hCl
      have Hrl := hid hrl
      rw [hC] at b1
      clear hC hCl hrl
      go_wp2_with fail
      obtain ⟨X, hX⟩ : ∃ X, xorL C (rk T r) = X := ⟨_, rfl⟩
      have HX := hid hX
      have HXl := hid (show X.length = 16 by rw [← hX]; exact xorL_len _ _)
      clear hX
      refine wp_region_D (fun w' => Blk w' N0 (bv C) ∧ Blk w' p (ciph T)) false [] (by kernel_rfl) ?_
      refine WD.free [1, 2, 3, 4, 5] (by kernel_rfl) ⟨b1.drew, b0.drew⟩ ?_
      simp only [pick, List.toList_toArray, List.map_cons, List.map_nil, List.getD_cons_succ, List.getD_cons_zero]
      repeat (first | go_big_quiet_step (fail) | (refine quiet_load_agS rfl _ _ rfl rfl (bv C) (fun _ h => h.1) sqT (bvl HCl.out) (whole (bvl HCl.out)) ?_; simp only [World.size_alloc, World.size_drew, Act.put, List.setIfInBounds_toArray, List.set_cons_succ, List.set_cons_zero]) | (refine quiet_load_agS rfl _ _ rfl rfl (bv (rk T r)) (fun _ h => h.2) sqT (bvl Hrl.out) (ciph_rk T HT.out r (by omega)) ?_; simp only [World.size_alloc, World.size_drew, Act.put, List.setIfInBounds_toArray, List.set_cons_succ, List.set_cons_zero]))
      refine wpQuiet_nil ?_
      refine WD.held [0, 6] (by kernel_rfl) ⟨b1.drew, b0.drew⟩ ?_
      simp only [pick, List.toList_toArray, List.map_cons, List.map_nil, List.getD_cons_succ, List.getD_cons_zero]
      repeat (first | go_big_quiet_step (fail) | (refine quiet_load_agS rfl _ _ rfl rfl (bv C) (fun _ h => h.1) sqT (bvl HCl.out) (whole (bvl HCl.out)) ?_; simp only [World.size_alloc, World.size_drew, Act.put, List.setIfInBounds_toArray, List.set_cons_succ, List.set_cons_zero]) | (refine quiet_load_agS rfl _ _ rfl rfl (bv (rk T r)) (fun _ h => h.2) sqT (bvl Hrl.out) (ciph_rk T HT.out r (by omega)) ?_; simp only [World.size_alloc, World.size_drew, Act.put, List.setIfInBounds_toArray, List.set_cons_succ, List.set_cons_zero]))
      refine wpQuiet_nil ?_
      refine WD.eff2 7 8 (by kernel_rfl) ?_ ?_
      all_goals simp only [pick, List.toList_toArray, List.map_cons, List.map_nil, List.getD_cons_succ, List.getD_cons_zero]
      case' refine_1 =>
        go_wp2_with (go_at_call 30; refine (with_any _ _ HCl.out Hrl.out).mono ?_; rintro e w3 ⟨rfl, f3⟩; rw [HX.out])
        try refine wpList_nil ?_
        refine AfterD.on ⟨f3.blk b1.drew (by simp), f3.blk b0.drew (by simp)⟩ (by kernel_rfl) ?_
        refine WD.eff 8 (by kernel_rfl) ?_
        simp only [pick, List.toList_toArray, List.map_cons, List.map_nil, List.getD_cons_succ, List.getD_cons_zero]
        refine wpList_alloc_any rfl _ rfl _ _ 16 Hi.out Hz.out rfl ?_
        intro zs w4 hzl hze f4 hlt4 hb4
        rw [hze] at hb4
        clear hzl hze
        simp only [World.size_alloc, World.size_drew, Act.put, List.setIfInBounds_toArray, List.set_cons_succ, List.set_cons_zero]
        try refine wpList_nil ?_
        refine AfterD.on ⟨f4.blk (f3.blk b1.drew (by simp)) (by simp), f4.blk (f3.blk b0.drew (by simp)) (by simp)⟩ (by kernel_rfl) ?_
        refine WD.eff 9 (by kernel_rfl) ?_
        simp only [pick, List.toList_toArray, List.map_cons, List.map_nil, List.getD_cons_succ, List.getD_cons_zero]
        have f5 : Fr [] wr w4 := (((Fr.refl _ wr).drew).trans' f3).trans' f4
        have hNt : wr.heap.size ≤ w3.heap.size := f3.size
        obtain ⟨Nt, hNt2⟩ : ∃ Nt, w3.heap.size = Nt := ⟨_, rfl⟩
        rw [hNt2] at hb4 hlt4 hNt ⊢
        clear f3 f4 hNt2
      case' refine_2 =>
        skip
        refine wpList_alloc_any rfl _ rfl _ _ 16 Hi.out Hz.out rfl ?_
        intro zs w3 hzl hze f3 hlt3 hb3
        rw [hze] at hb3
        clear hzl hze
        simp only [World.size_alloc, World.size_drew, Act.put, List.setIfInBounds_toArray, List.set_cons_succ, List.set_cons_zero]
        try refine wpList_nil ?_
        refine AfterD.on ⟨f3.blk b1.drew (by simp), f3.blk b0.drew (by simp)⟩ (by kernel_rfl) ?_
        refine WD.eff 7 (by kernel_rfl) ?_
        simp only [pick, List.toList_toArray, List.map_cons, List.map_nil, List.getD_cons_succ, List.getD_cons_zero]
        go_wp2_with (go_at_call 30; refine (with_any _ _ HCl.out Hrl.out).mono ?_; rintro e w4 ⟨rfl, f4⟩; rw [HX.out])
        try refine wpList_nil ?_
        refine AfterD.on ⟨f4.blk (f3.blk b1.drew (by simp)) (by simp), f4.blk (f3.blk b0.drew (by simp)) (by simp)⟩ (by kernel_rfl) ?_
        refine WD.eff 9 (by kernel_rfl) ?_
        simp only [pick, List.toList_toArray, List.map_cons, List.map_nil, List.getD_cons_succ, List.getD_cons_zero]
        have f5 : Fr [] wr w4 := (((Fr.refl _ wr).drew).trans' f3).trans' f4
        have hb4 := f4.blk hb3 (by simp)
        have hNt : wr.heap.size ≤ wr.drew.heap.size := Nat.le_refl _
        have hlt4 : wr.drew.heap.size < w4.heap.size := Nat.lt_of_lt_of_le hlt3 f4.size
        obtain ⟨Nt, hNt2⟩ : ∃ Nt, wr.drew.heap.size = Nt := ⟨_, rfl⟩
        rw [hNt2] at hb4 hlt4 hNt
        rw [show wr.heap.size = Nt from hNt2]
        clear f3 f4 hNt2 hb3 hlt3
      all_goals
        have e3 : Blk w4 Nt (bv (List.replicate 16 0)) := hb4
        have e0 := f5.blk b0 (by simp)
        have e1 := f5.blk b1 (by simp)
        have e2 := f5.blk b2 (by simp)
        have g5 := f.trans' f5
        clear hb4 f f5 b0 b1 b2
        refine wpList_store_ag rfl _ _ _ rfl rfl (bv X) rfl e3 sqT (bvl HXl.out) (by decide) (bv_one _) ?_
        intro w5 f6 b6 hs6
        rw [splice_all _ _ (by rw [bvl HXl.out]; rfl)] at b6
        replace e0 := f6.blk e0 (by simp; omega)
        replace e1 := f6.blk e1 (by simp; omega)
        replace e2 := f6.blk e2 (by simp; omega)
        have g6 := g5.trans f6 (by simp; have := HN0.out; omega)
        have ht6 : Nt < w5.heap.size := by omega
        clear e3 g5 f6 hs6 hlt4
      case' refine_1 =>
        refine wpList_nil ?_
        refine AfterD.on ⟨e1, e0⟩ (by kernel_rfl) ?_
        refine WD.done (by kernel_rfl) ?_
      case' refine_2 =>
        refine wpList_nil ?_
        refine AfterD.on ⟨e1, e0⟩ (by kernel_rfl) ?_
        refine WD.done (by kernel_rfl) ?_
      all_goals
        have HE := hid (show bkR T s (10 - (r - 1)) = ush T (if r = 10 then X else mixL F2 X) by
          rw [show 10 - (r - 1) = (10 - r) + 1 by omega, bkR, HC.out, show 10 - (10 - r) = r by omega, HX.out]
          by_cases h : r = 10
          · rw [if_pos (by omega), if_pos h]
          · rw [if_neg (by omega), if_neg h])
        have hc : (r = 10 ∧ decide ((r : Int) < 10) = false) ∨ (¬ r = 10 ∧ decide ((r : Int) < 10) = true) := by
          by_cases h : r = 10
          · exact .inl ⟨h, by rw [h]; rfl⟩
          · exact .inr ⟨h, by simp; omega⟩
        clear HX
        rcases hc with ⟨h10, hd10⟩ | ⟨h10, hd10⟩
      case' refine_1.inl =>
        rw [if_pos h10] at HE
        clear h10
        go_wp2_with fail
        have hXl := HXl.out
      case' refine_2.inl =>
        rw [if_pos h10] at HE
        clear h10
        go_wp2_with fail
        have hXl := HXl.out
      case' refine_1.inr =>
        rw [if_neg h10] at HE
        clear h10
        go_wp2_with (first
          | (refine wpList_load_ag rfl _ _ rfl rfl (bv X) b6 sqT (bvl HXl.out) (whole (bvl HXl.out)) ?_; simp only [World.size_alloc, World.size_drew, Act.put, List.setIfInBounds_toArray, List.set_cons_succ, List.set_cons_zero])
          | (go_at_call 31; refine (mix_F2 _ HXl.out).mono ?_; rintro e w6 ⟨rfl, f6⟩)
          | (refine wpList_store_ag rfl _ _ _ rfl rfl (bv (mixL F2 X)) rfl (f6.blk b6 (by simp)) sqT (bvl (mixL_len F2 _)) (by rw [bvl HXl.out]; decide) (bv_one _) ?_; intro w7 f7 b7 hs7; rw [splice_all _ _ (by rw [bvl HXl.out, bvl (mixL_len F2 _)])] at b7; (try simp only [World.size_alloc, World.size_drew, Act.put, List.setIfInBounds_toArray, List.set_cons_succ, List.set_cons_zero])))
        replace e0 := f7.blk (f6.blk e0 (by simp)) (by simp; omega)
        replace e1 := f7.blk (f6.blk e1 (by simp)) (by simp; omega)
        replace e2 := f7.blk (f6.blk e2 (by simp)) (by simp; omega)
        replace g6 := (g6.trans' f6).trans f7 (by simp; have := HN0.out; omega)
        replace ht6 : Nt < w7.heap.size := by have := f6.size; have := f7.size; omega
        obtain ⟨Y, hY⟩ : ∃ Y, mixL F2 X = Y := ⟨_, rfl⟩
        have hXl : Y.length = 16 := by rw [← hY]; exact mixL_len _ _
        rw [hY] at b7 HE ⊢
        clear f6 f7 hs7 b6 hY
      case' refine_2.inr =>
        rw [if_neg h10] at HE
        clear h10
        go_wp2_with (first
          | (refine wpList_load_ag rfl _ _ rfl rfl (bv X) b6 sqT (bvl HXl.out) (whole (bvl HXl.out)) ?_; simp only [World.size_alloc, World.size_drew, Act.put, List.setIfInBounds_toArray, List.set_cons_succ, List.set_cons_zero])
          | (go_at_call 31; refine (mix_F2 _ HXl.out).mono ?_; rintro e w6 ⟨rfl, f6⟩)
          | (refine wpList_store_ag rfl _ _ _ rfl rfl (bv (mixL F2 X)) rfl (f6.blk b6 (by simp)) sqT (bvl (mixL_len F2 _)) (by rw [bvl HXl.out]; decide) (bv_one _) ?_; intro w7 f7 b7 hs7; rw [splice_all _ _ (by rw [bvl HXl.out, bvl (mixL_len F2 _)])] at b7; (try simp only [World.size_alloc, World.size_drew, Act.put, List.setIfInBounds_toArray, List.set_cons_succ, List.set_cons_zero])))
        replace e0 := f7.blk (f6.blk e0 (by simp)) (by simp; omega)
        replace e1 := f7.blk (f6.blk e1 (by simp)) (by simp; omega)
        replace e2 := f7.blk (f6.blk e2 (by simp)) (by simp; omega)
        replace g6 := (g6.trans' f6).trans f7 (by simp; have := HN0.out; omega)
        replace ht6 : Nt < w7.heap.size := by have := f6.size; have := f7.size; omega
        obtain ⟨Y, hY⟩ : ∃ Y, mixL F2 X = Y := ⟨_, rfl⟩
        have hXl : Y.length = 16 := by rw [← hY]; exact mixL_len _ _
        rw [hY] at b7 HE ⊢
        clear f6 f7 hs7 b6 hY
      all_goals
        clear hd10
        rename_i bY
        rename Blk _ Nt _ => bY
        have HYl := hid hXl
        clear hXl
        rename List UInt8 => Y
        go_loopw [25] (fun iv wr => ∃ i : Nat, i ≤ 16 ∧ iv = .int .i64 i ∧ Blk wr p (ciph T) ∧ Blk wr N0 (bv (ushI T Y C i)) ∧ Blk wr N1 (bv (List.replicate 16 0)) ∧ Blk wr Nt (bv Y) ∧ Fr [] w wr ∧ Nt < wr.heap.size) (fun iv _ => 16 - (intOf iv).toNat)
        case' atStart => exact ⟨0, by omega, rfl, e0, e1, e2, bY, g6, ht6⟩
        case' round =>
          obtain ⟨i, hi, rfl, d0, d1, d2, d3, g, hnt⟩ := hrel
          clear e0 e1 e2 bY g6 ht6
          by_cases hli : i < 16
          · have hd2 : decide ((i : Int) < 16) = true := by simp; omega
            obtain ⟨J, hJ⟩ : ∃ J, gx i = J := ⟨_, rfl⟩
            obtain ⟨A, hA⟩ : ∃ A, g8 Y i = A := ⟨_, rfl⟩
            obtain ⟨B, hB⟩ : ∃ B, g8 T (432 + A.toNat) = B := ⟨_, rfl⟩
            have hx := A.toNat_lt
            have k1 : wr.cell? ⟨Nt, i, none⟩ = some (bt A) := by rw [d3.cell, bv_getElem?, g8_eq Y i (by rw [HYl.out]; omega), hA]; rfl
            have k2 : wr.cell? ⟨p, 432 + A.toNat, none⟩ = some (bt B) := by rw [d0.cell, ciph_get T HT.out _ (by omega), hB]
            have hnx := hid (show ushI T Y C (i + 1) = (ushI T Y C i).set J B by rw [ushI_succ, hJ, hA, hB])
            have hJ16 : J < 16 := by rw [← hJ]; unfold gx; omega
            unfold gx at hJ
            have m1 : (((i : Int) + (i : Int) % 4 * 4) % 16).toNat = J := by omega
            have m2 : (A.toNat : Int) < 256 := by omega
            clear hA hB hJ
            go_wp2_with fail
            refine wp_region_D (fun _ => True) false [] (by kernel_rfl) ?_
            refine WD.pure [0, 1, 2, 3, 4, 5, 6, 7, 8, 9, 10, 11, 12, 13, 14] (by kernel_rfl) trivial ?_
            simp only [pick, List.toList_toArray, List.map_cons, List.map_nil, List.getD_cons_succ, List.getD_cons_zero]
            repeat (first | go_big_quiet_step (fail))
            refine wpQuiet_nil ?_
            refine WD.eff 15 (by kernel_rfl) ?_
            simp only [pick, List.toList_toArray, List.map_cons, List.map_nil, List.getD_cons_succ, List.getD_cons_zero]
            refine wpList_put rfl _ _ _ rfl rfl (bt B) rfl rfl d1.drew (by rw [bv_length, ushI_len, HCl.out]; exact hJ16) (by kernel_rfl) ?_
            intro w8 f8 b8 hs8
            try refine wpList_nil ?_
            refine AfterD.on trivial (by kernel_rfl) ?_
            refine WD.done (by kernel_rfl) ?_
            rw [← bv_set, ← hnx.out] at b8
            have f9 : Fr [N0] wr w8 := ((Fr.refl _ wr).drew).trans' f8
            go_wp2_with fail
            go_roundw
            case rel => exact ⟨i + 1, by omega, by go_num, f9.blk d0 (by simp; omega), b8, f9.blk d2 (by simp; omega), f9.blk d3 (by simp; omega), g.trans f9 (by simp; have := HN0.out; omega), Nat.lt_of_lt_of_le hnt f9.size⟩
            case measure => simp [intOf]; omega
          · have hd2 : decide ((i : Int) < 16) = false := by simp; omega
            have ei : i = 16 := by omega
            have hq : 10 - (r - 1) = 10 - (r - 1) := rfl
            rw [ei, ush_any T Y C HCl.out, ← HE] at d1
            have hre : ((r : Int) - 1) = ((r - 1 : Nat) : Int) := by omega
            clear ei hli hi HE
            go_wp2_with fail
            go_roundw
            case rel => exact ⟨r - 1, by omega, rfl, d0, d1, d2, g, by omega⟩
            case measure => simp [intOf]; omega
    · have hr0 : r = 0 := by omega
      have hd1 : decide (0 < r) = false := by simp; omega
      rw [hr0] at b1
      clear hr0 hlt
      obtain ⟨C, hC⟩ : ∃ C, bkR T s (10 - 0) = C := ⟨_, rfl⟩
      have HCl := hid (show C.length = 16 by rw [← hC]; exact bkR_len _ _ Hs.out _)
      have HE := hid (show xorL C (rk T 0) = backS T s by rw [← hC]; rfl)
      have Hrl := hid (rk_len T HT.out 0 (by decide))
      rw [hC] at b1
      clear hC
      go_wp2_with fail
      refine wp_region_D (fun _ => True) false [] (by kernel_rfl) ?_
      refine WD.pure [0, 1, 2, 3, 4, 5] (by kernel_rfl) trivial ?_
      simp only [pick, List.toList_toArray, List.map_cons, List.map_nil, List.getD_cons_succ, List.getD_cons_zero]
      repeat (first | go_big_quiet_step (fail) | (refine quiet_load_ag rfl _ _ rfl rfl (bv C) b1.drew sqT (bvl HCl.out) (whole (bvl HCl.out)) ?_; simp only [World.size_alloc, World.size_drew, Act.put, List.setIfInBounds_toArray, List.set_cons_succ, List.set_cons_zero]) | (refine quiet_load_ag rfl _ _ rfl rfl (bv (rk T 0)) b0.drew sqT (bvl Hrl.out) (ciph_rk T HT.out 0 (by decide)) ?_; simp only [World.size_alloc, World.size_drew, Act.put, List.setIfInBounds_toArray, List.set_cons_succ, List.set_cons_zero]))
      refine wpQuiet_nil ?_
      refine WD.eff 6 (by kernel_rfl) ?_
      simp only [pick, List.toList_toArray, List.map_cons, List.map_nil, List.getD_cons_succ, List.getD_cons_zero]
      go_wp2_with (go_at_call 30; refine (with_any _ _ HCl.out Hrl.out).mono ?_; rintro e w3 ⟨rfl, f3⟩; rw [HE.out])
      try refine wpList_nil ?_
      refine AfterD.on trivial (by kernel_rfl) ?_
      refine WD.eff 7 (by kernel_rfl) ?_
      simp only [pick, List.toList_toArray, List.map_cons, List.map_nil, List.getD_cons_succ, List.getD_cons_zero]
      refine wpList_store_ag rfl _ _ _ rfl rfl (bv (backS T s)) rfl (f3.blk b2.drew (by simp)) sqT (bvl (backS_len T s)) (by decide) (bv_one _) ?_
      intro w4 f4 b4 hs4
      rw [splice_all _ _ (by rw [bvl (backS_len T s)]; rfl)] at b4
      try refine wpList_nil ?_
      refine AfterD.on trivial (by kernel_rfl) ?_
      refine WD.done (by kernel_rfl) ?_
      have g4 : Fr [] w w4 := (((f.drew).trans' f3).trans f4 (by simp; have := HN0.out; omega))
      clear f3 f4 f b0 b1 b2
      go_wp2_with fail
      refine bodyPost_row rfl rfl b4 sqT (bvl (backS_len T s)) rfl ?_
      exact ⟨rfl, g4⟩
end Go.Proofs.Ytnkcogaaajkplaa
