/- Layer 3, aes: a block enciphered. -/
import Derived.Test.YtnkcogaaajkplaaAesE
namespace Go.Xr
open Go
set_option linter.unusedVariables false
/-- A cipher's cells: the round keys, the table, the table back, and that it is made. -/
def ciph (T : List UInt8) : List Value := bv T ++ [.bool true]
theorem ciph_get (T : List UInt8) (hT : T.length = 688) (i : Nat) (hi : i < 688) : (ciph T)[i]? = some (bt (g8 T i)) := by
  unfold ciph
  rw [List.getElem?_append_left (by rw [bv_length, hT]; exact hi), bv_getElem?, g8_eq T i (by omega)]
  rfl
theorem ciph_made (T : List UInt8) (hT : T.length = 688) : (ciph T)[688]? = some (.bool true) := by
  unfold ciph
  rw [List.getElem?_append_right (by rw [bv_length, hT]; exact Nat.le_refl _), bv_length, hT]
  rfl
def rk (T : List UInt8) (r : Nat) : List UInt8 := (T.drop (16 * r)).take 16
theorem rk_len (T : List UInt8) (hT : T.length = 688) (r : Nat) (hr : r ≤ 11) : (rk T r).length = 16 := by
  unfold rk
  rw [List.length_take, List.length_drop, hT]
  omega
theorem ciph_rk (T : List UInt8) (hT : T.length = 688) (r : Nat) (hr : r < 11) : ((ciph T).drop (r * 16)).take 16 = bv (rk T r) := by
  unfold ciph rk
  rw [List.drop_append_of_le_length (by rw [bv_length, hT]; omega), List.take_append_of_le_length (by rw [List.length_drop, bv_length, hT]; omega), bv_drop, bv_take, Nat.mul_comm]
def shs (T s : List UInt8) : List UInt8 := (List.range 16).map fun i => g8 T (176 + (g8 s ((i + i % 4 * 4) % 16)).toNat)
theorem shs_len (T s : List UInt8) : (shs T s).length = 16 := by simp [shs]
/-- The first i bytes of it. -/
def partL (l : List UInt8) (i : Nat) : List UInt8 := l.take i ++ List.replicate (16 - i) 0
theorem partL_len (l : List UInt8) (hl : l.length = 16) (i : Nat) (hi : i ≤ 16) : (partL l i).length = 16 := by
  simp only [partL, List.length_append, List.length_take, List.length_replicate, hl]
  omega
theorem partL_zero (l : List UInt8) : partL l 0 = List.replicate 16 0 := by simp [partL]
theorem partL_all (l : List UInt8) (hl : l.length = 16) : partL l 16 = l := by
  unfold partL
  rw [List.take_of_length_le (by omega)]
  simp
theorem partL_set (l : List UInt8) (hl : l.length = 16) (i : Nat) (hi : i < 16) : (partL l i).set i (g8 l i) = partL l (i + 1) := by
  have h : (l.take i).length = i := by rw [List.length_take]; omega
  have e : l[i]'(by omega) = g8 l i := by simp [g8, List.getD, List.getElem?_eq_getElem (show i < l.length by omega)]
  unfold partL
  rw [List.set_append_right _ _ (by omega), h, Nat.sub_self, show 16 - i = (16 - (i + 1)) + 1 by omega, List.replicate_succ, List.set_cons_zero, List.take_succ_eq_append_getElem (by omega), List.append_assoc, e]
  rfl
theorem shs_get (T s : List UInt8) (i : Nat) (hi : i < 16) : g8 (shs T s) i = g8 T (176 + (g8 s ((i + i % 4 * 4) % 16)).toNat) := by
  simp [shs, g8, List.getD, hi]
def F1 : List UInt8 := [2, 3, 1, 1]
/-- After r rounds. -/
def blkR (T s : List UInt8) : Nat → List UInt8
  | 0 => xorL s (rk T 0)
  | r + 1 => xorL (if r + 1 < 10 then mixL F1 (shs T (blkR T s r)) else shs T (blkR T s r)) (rk T (r + 1))
theorem blkR_len (T s : List UInt8) (r : Nat) : (blkR T s r).length = 16 := by cases r <;> exact xorL_len _ _
def blockS (T s : List UInt8) : List UInt8 := blkR T s 10
theorem blockS_len (T s : List UInt8) : (blockS T s).length = 16 := blkR_len T s 10
end Go.Xr
namespace Go.Proofs.Ytnkcogaaajkplaa
open Go Go.Xr Go.RowKit
set_option linter.unusedVariables false
set_option linter.unusedSimpArgs false
attribute [local go_sem] xor_u8 xor_u8_c

theorem not_any {w : World} {p : Nat} {T : List UInt8} (hT : T.length = 688) (hp : Blk w p (ciph T)) : Calls Try.prog 26 #[.pointer (some ⟨p, 0, none⟩)] w fun e w' => e = .returned (.bool false) ∧ w = w' := by
  have hc : w.cell? ⟨p, 688, none⟩ = some (.bool true) := by rw [hp.cell, ciph_made T hT]
  clear hT
  go_enter Try.func26, Try.ntmps26
  go_wp2_with fail
  go_ret
  exact ⟨rfl, rfl⟩
theorem not_nil {w : World} : Calls Try.prog 26 #[.pointer none] w fun e w' => e = .returned (.bool true) ∧ w = w' := by
  go_enter Try.func26, Try.ntmps26
  go_wp2_with fail
  go_ret
  exact ⟨rfl, rfl⟩
theorem mix_F1 {w : World} (l : List UInt8) (hl : l.length = 16) : Calls Try.prog 31 #[.agg (bv l).toArray, .agg #[.int .u8 2, .int .u8 3, .int .u8 1, .int .u8 1]] w fun e w' => e = .returned (.agg (bv (mixL F1 l)).toArray) ∧ Fr [] w w' := mix_any l F1 hl rfl
theorem at_bt {t : TypeId} {v : Value} {x : UInt8} : Instr.indexAt t v (bt x) = Instr.indexAt t v (.int .u8 (x.toNat : Int)) := rfl
attribute [local go_sem] at_bt

set_option maxRecDepth 20000 in
set_option maxHeartbeats 1000000 in
theorem block_any {w : World} {p : Nat} {T s : List UInt8} (hT : T.length = 688) (hs : s.length = 16) (hp : Blk w p (ciph T)) :
    Calls Try.prog 24 #[.pointer (some ⟨p, 0, none⟩), .agg (bv s).toArray] w fun e w' => e = .returned (.agg (bv (blockS T s)).toArray) ∧ Fr [] w w' := by
  obtain ⟨i, hi, hz, _⟩ := infS
  have Hi := hid hi
  have Hz := hid hz
  have HT := hid hT
  have Hs := hid hs
  have hplt := hp.lt
  clear hi hz hT hs
  go_enter Try.func24, Try.ntmps24
  go_wp2_with (first
    | (refine wpList_box rfl _ _ rfl (bv s) rfl ?_; intro w1 f1 hlt1 hb1; simp only [World.size_alloc, World.size_drew, Act.put, List.setIfInBounds_toArray, List.set_cons_succ, List.set_cons_zero])
    | (refine wpList_alloc_any rfl _ rfl _ _ 16 Hi.out Hz.out rfl ?_; intro zs w2 hzl hze f2 hlt2 hb2; rw [hze] at hb2; clear hzl hze; simp only [World.size_alloc, World.size_drew, Act.put, List.setIfInBounds_toArray, List.set_cons_succ, List.set_cons_zero]))
  have q1 : Blk w2 w.heap.size (bv s) := f2.blk hb1 (by simp)
  have q2 : Blk w2 w1.heap.size (bv (List.replicate 16 0)) := hb2
  have q0 : Blk w2 p (ciph T) := f2.blk (f1.blk hp (by simp)) (by simp)
  have g2 := f1.trans' f2
  obtain ⟨N1, hN1⟩ : ∃ N1, w1.heap.size = N1 := ⟨_, rfl⟩
  rw [hN1] at q2 hlt1 ⊢
  obtain ⟨N0, hN0⟩ : ∃ N0, w.heap.size = N0 := ⟨_, rfl⟩
  rw [hN0] at q1 hlt1 hplt ⊢
  have HN0 := hid hN0
  have hl2 : N1 < w2.heap.size := by omega
  clear hb1 hb2 f1 f2 hN1 hN0 hlt2
  refine wp_region_D (fun _ => True) false [] (by kernel_rfl) ?_
  refine WD.pure [0, 1, 2, 3, 4, 5] (by kernel_rfl) trivial ?_
  simp only [pick, List.toList_toArray, List.map_cons, List.map_nil, List.getD_cons_succ, List.getD_cons_zero]
  repeat (first | go_big_quiet_step (fail) | (refine quiet_load_ag rfl _ _ rfl rfl (bv s) q1.drew sqT (bvl Hs.out) (whole (bvl Hs.out)) ?_; simp only [World.size_alloc, World.size_drew, Act.put, List.setIfInBounds_toArray, List.set_cons_succ, List.set_cons_zero]) | (refine quiet_load_ag rfl _ _ rfl rfl (bv (rk T 0)) q0.drew sqT (bvl (rk_len T HT.out 0 (by decide))) (ciph_rk T HT.out 0 (by decide)) ?_; simp only [World.size_alloc, World.size_drew, Act.put, List.setIfInBounds_toArray, List.set_cons_succ, List.set_cons_zero]))
  refine wpQuiet_nil ?_
  refine WD.eff 6 (by kernel_rfl) ?_
  simp only [pick, List.toList_toArray, List.map_cons, List.map_nil, List.getD_cons_succ, List.getD_cons_zero]
  go_wp2_with (go_at_call 30; refine (with_any _ _ Hs.out (rk_len T HT.out 0 (by decide))).mono ?_; rintro e w3 ⟨rfl, f3⟩)
  try refine wpList_nil ?_
  refine AfterD.on trivial (by kernel_rfl) ?_
  refine WD.eff 7 (by kernel_rfl) ?_
  simp only [pick, List.toList_toArray, List.map_cons, List.map_nil, List.getD_cons_succ, List.getD_cons_zero]
  refine wpList_store_ag rfl _ _ _ rfl rfl (bv (blkR T s 0)) rfl (f3.blk q1.drew (by simp)) sqT (bvl (blkR_len T s 0)) (by rw [bvl Hs.out]; decide) (bv_one _) ?_
  intro w4 f4 b4 hs4
  rw [splice_all _ _ (by rw [bvl Hs.out, bvl (blkR_len T s 0)])] at b4
  try refine wpList_nil ?_
  refine AfterD.on trivial (by kernel_rfl) ?_
  refine WD.done (by kernel_rfl) ?_
  have r0 : Blk w4 p (ciph T) := f4.blk (f3.blk q0.drew (by simp)) (by simp; omega)
  have r2 : Blk w4 N1 (bv (List.replicate 16 0)) := f4.blk (f3.blk q2.drew (by simp)) (by simp; omega)
  have g4 : Fr [] w w4 := (((g2.drew).trans' f3).trans f4 (by simp; have := HN0.out; omega))
  have hN1 : N1 < w4.heap.size := Nat.lt_of_lt_of_le hl2 (Nat.le_trans f3.size f4.size)
  clear q0 q1 q2 g2 f3 f4 hs4 hp
  go_wp2_with fail
  go_loopw [5] (fun rv wr => ∃ r : Nat, 1 ≤ r ∧ r ≤ 11 ∧ rv = .int .i64 r ∧ Blk wr p (ciph T) ∧ Blk wr N0 (bv (blkR T s (r - 1))) ∧ Blk wr N1 (bv (List.replicate 16 0)) ∧ Fr [] w wr ∧ N1 < wr.heap.size) (fun rv _ => 11 - (intOf rv).toNat)
  case atStart => exact ⟨1, by decide, by decide, rfl, r0, b4, r2, g4, hN1⟩
  case round =>
    obtain ⟨r, hr1, hr, rfl, b0, b1, b2, f, hn⟩ := hrel
    clear r0 b4 r2 g4 hN1
    by_cases hlt : r < 11
    · have hd1 : decide ((r : Int) < 11) = true := by simp; omega
      obtain ⟨C, hC⟩ : ∃ C, blkR T s (r - 1) = C := ⟨_, rfl⟩
      have hCl : C.length = 16 := by rw [← hC]; exact blkR_len _ _ _
      have HC := hid hC
      have HCl := hid hCl
      rw [hC] at b1
      clear hC hCl
      go_wp2_with (refine wpList_alloc_any rfl _ rfl _ _ 16 Hi.out Hz.out rfl ?_; intro zs w5 hzl hze f5 hlt5 hb5; rw [hze] at hb5; clear hzl hze; simp only [World.size_alloc, World.size_drew, Act.put, List.setIfInBounds_toArray, List.set_cons_succ, List.set_cons_zero])
      obtain ⟨Nt, hNt⟩ : ∃ Nt, wr.heap.size = Nt := ⟨_, rfl⟩
      rw [hNt] at hb5 hlt5 hn ⊢
      have c0 := f5.blk b0 (by simp)
      have c1 := f5.blk b1 (by simp)
      have c2 := f5.blk b2 (by simp)
      have c3 : Blk w5 Nt (bv (partL (shs T C) 0)) := by rw [partL_zero]; exact hb5
      have gt := f.trans' f5
      have HNt := hid hNt
      clear b0 b1 b2 hb5 f f5 hNt
      go_loopw [19] (fun iv wr => ∃ i : Nat, i ≤ 16 ∧ iv = .int .i64 i ∧ Blk wr p (ciph T) ∧ Blk wr N0 (bv C) ∧ Blk wr N1 (bv (List.replicate 16 0)) ∧ Blk wr Nt (bv (partL (shs T C) i)) ∧ Fr [] w wr ∧ Nt < wr.heap.size) (fun iv _ => 16 - (intOf iv).toNat)
      case atStart => exact ⟨0, by omega, rfl, c0, c1, c2, c3, gt, hlt5⟩
      case round =>
        obtain ⟨i, hi, rfl, d0, d1, d2, d3, g, hnt⟩ := hrel
        clear c0 c1 c2 c3 gt hlt5
        by_cases hli : i < 16
        · have hd2 : decide ((i : Int) < 16) = true := by simp; omega
          obtain ⟨J, hJ⟩ : ∃ J, (i + i % 4 * 4) % 16 = J := ⟨_, rfl⟩
          obtain ⟨X, hX⟩ : ∃ X, g8 C J = X := ⟨_, rfl⟩
          obtain ⟨Y, hY⟩ : ∃ Y, g8 T (176 + X.toNat) = Y := ⟨_, rfl⟩
          have hx := X.toNat_lt
          have k1 : wr.cell? ⟨N0, J, none⟩ = some (bt X) := by rw [d1.cell, bv_getElem?, g8_eq C J (by rw [HCl.out]; omega), hX]; rfl
          have k2 : wr.cell? ⟨p, 176 + X.toNat, none⟩ = some (bt Y) := by rw [d0.cell, ciph_get T HT.out _ (by omega), hY]
          have hY2 := hid (show g8 (shs T C) i = Y by rw [shs_get T C i hli, hJ, hX, hY])
          have m1 : (((i : Int) + (i : Int) % 4 * 4) % 16).toNat = J := by omega
          have m2 : (X.toNat : Int) < 256 := by omega
          clear hY hX hJ
          go_wp2_with fail
          refine wp_region_D (fun _ => True) false [] (by kernel_rfl) ?_
          refine WD.pure [0, 1, 2, 3, 4, 5, 6, 7, 8, 9, 10, 11, 12, 13, 14] (by kernel_rfl) trivial ?_
          simp only [pick, List.toList_toArray, List.map_cons, List.map_nil, List.getD_cons_succ, List.getD_cons_zero]
          repeat (first | go_big_quiet_step (fail))
          refine wpQuiet_nil ?_
          refine WD.eff 15 (by kernel_rfl) ?_
          simp only [pick, List.toList_toArray, List.map_cons, List.map_nil, List.getD_cons_succ, List.getD_cons_zero]
          refine wpList_put rfl _ _ _ rfl rfl (bt Y) rfl rfl d3.drew (by rw [bv_length, partL_len _ (shs_len T C) i hi]; exact hli) (by kernel_rfl) ?_
          intro w6 f6 b6 hs6
          try refine wpList_nil ?_
          refine AfterD.on trivial (by kernel_rfl) ?_
          refine WD.done (by kernel_rfl) ?_
          rw [← hY2.out, ← bv_set, partL_set _ (shs_len T C) i hli] at b6
          have f7 : Fr [Nt] wr w6 := ((Fr.refl _ wr).drew).trans' f6
          go_wp2_with fail
          go_roundw
          case rel => exact ⟨i + 1, by omega, by go_num, f7.blk d0 (by simp; omega), f7.blk d1 (by simp; omega), f7.blk d2 (by simp; omega), b6, g.trans f7 (by simp; have := HN0.out; omega), Nat.lt_of_lt_of_le hnt f7.size⟩
          case measure => simp [intOf]; omega
        · have hd2 : decide ((i : Int) < 16) = false := by simp; omega
          have ei : i = 16 := by omega
          rw [ei, partL_all _ (shs_len T C)] at d3
          clear ei hli hi
          have hrl : (rk T r).length = 16 := rk_len T HT.out r hr
          have Hrl := hid hrl
          have HE := HC.out
          clear hrl
          by_cases hr10 : r < 10
          case' pos =>
            have hd10 : decide ((r : Int) < 10) = true := by simp; omega
            have HE2 := hid (show xorL (mixL F1 (shs T C)) (rk T r) = blkR T s r by
              obtain ⟨q, rfl⟩ : ∃ q, r = q + 1 := ⟨r - 1, by omega⟩
              rw [Nat.add_sub_cancel] at HE
              rw [blkR, if_pos hr10, HE])
            clear HE hr10
            go_wp2_with (first
              | (refine wpList_load_ag rfl _ _ rfl rfl (bv (shs T C)) d3 sqT (bvl (shs_len T C)) (whole (bvl (shs_len T C))) ?_; simp only [World.size_alloc, World.size_drew, Act.put, List.setIfInBounds_toArray, List.set_cons_succ, List.set_cons_zero])
              | (go_at_call 31; refine (mix_F1 _ (shs_len T C)).mono ?_; rintro e w6 ⟨rfl, f6⟩)
              | (refine wpList_store_ag rfl _ _ _ rfl rfl (bv (mixL F1 (shs T C))) rfl (f6.blk d3 (by simp)) sqT (bvl (mixL_len F1 _)) (by rw [bvl (shs_len T C)]; decide) (bv_one _) ?_; intro w7 f7 b7 hs7; rw [splice_all _ _ (by rw [bvl (shs_len T C), bvl (mixL_len F1 _)])] at b7; (try simp only [World.size_alloc, World.size_drew, Act.put, List.setIfInBounds_toArray, List.set_cons_succ, List.set_cons_zero])))
            have e0 := f7.blk (f6.blk d0 (by simp)) (by simp; omega)
            have e1 := f7.blk (f6.blk d1 (by simp)) (by simp; omega)
            have e2 := f7.blk (f6.blk d2 (by simp)) (by simp; omega)
            have g7 := (g.trans' f6).trans f7 (by simp; have := HN0.out; omega)
            have ht7 : Nt < w7.heap.size := by have := f6.size; have := f7.size; omega
            obtain ⟨D, hD⟩ : ∃ D, mixL F1 (shs T C) = D := ⟨_, rfl⟩
            have HDl := hid (show D.length = 16 by rw [← hD]; exact mixL_len _ _)
            rw [hD] at b7 HE2
            clear d0 d1 d2 d3 f6 f7 g hnt hs7 hD
          case' neg =>
            have hd10 : decide ((r : Int) < 10) = false := by simp; omega
            have HE2 := hid (show xorL (shs T C) (rk T r) = blkR T s r by
              obtain ⟨q, rfl⟩ : ∃ q, r = q + 1 := ⟨r - 1, by omega⟩
              rw [Nat.add_sub_cancel] at HE
              rw [blkR, if_neg hr10, HE])
            clear HE hr10
            go_wp2_with fail
            obtain ⟨w7, hw7⟩ : ∃ w7, wr = w7 := ⟨_, rfl⟩
            rw [hw7] at d0 d1 d2 d3 g hnt ⊢
            have e0 := d0
            have e1 := d1
            have e2 := d2
            have g7 := g
            have ht7 := hnt
            obtain ⟨D, hD⟩ : ∃ D, shs T C = D := ⟨_, rfl⟩
            have HDl := hid (show D.length = 16 by rw [← hD]; exact shs_len _ _)
            have b7 := d3
            rw [hD] at b7 HE2
            clear d0 d1 d2 d3 g hnt hD hw7
          all_goals
            refine wp_region_D (fun _ => True) false [] (by kernel_rfl) ?_
            refine WD.pure [0, 1, 2, 3, 4, 5, 6] (by kernel_rfl) trivial ?_
            simp only [pick, List.toList_toArray, List.map_cons, List.map_nil, List.getD_cons_succ, List.getD_cons_zero]
            repeat (first | go_big_quiet_step (fail) | (refine quiet_load_ag rfl _ _ rfl rfl (bv D) b7.drew sqT (bvl HDl.out) (whole (bvl HDl.out)) ?_; simp only [World.size_alloc, World.size_drew, Act.put, List.setIfInBounds_toArray, List.set_cons_succ, List.set_cons_zero]) | (refine quiet_load_ag rfl _ _ rfl rfl (bv (rk T r)) e0.drew sqT (bvl Hrl.out) (ciph_rk T HT.out r hlt) ?_; simp only [World.size_alloc, World.size_drew, Act.put, List.setIfInBounds_toArray, List.set_cons_succ, List.set_cons_zero]))
            refine wpQuiet_nil ?_
            refine WD.eff 7 (by kernel_rfl) ?_
            simp only [pick, List.toList_toArray, List.map_cons, List.map_nil, List.getD_cons_succ, List.getD_cons_zero]
            go_wp2_with (go_at_call 30; refine (with_any _ _ HDl.out Hrl.out).mono ?_; rintro e w8 ⟨rfl, f8⟩)
            try refine wpList_nil ?_
            refine AfterD.on trivial (by kernel_rfl) ?_
            refine WD.eff 8 (by kernel_rfl) ?_
            simp only [pick, List.toList_toArray, List.map_cons, List.map_nil, List.getD_cons_succ, List.getD_cons_zero]
            refine wpList_store_ag rfl _ _ _ rfl rfl (bv (blkR T s r)) (by rw [← HE2.out]; rfl) (f8.blk e1.drew (by simp)) sqT (bvl (blkR_len T s r)) (by rw [bvl HCl.out]; decide) (bv_one _) ?_
            intro w9 f9 b9 hs9
            rw [splice_all _ _ (by rw [bvl HCl.out, bvl (blkR_len T s r)])] at b9
            try refine wpList_nil ?_
            refine AfterD.on trivial (by kernel_rfl) ?_
            refine WD.done (by kernel_rfl) ?_
            have k0 := f9.blk (f8.blk e0.drew (by simp)) (by simp; omega)
            have k2 := f9.blk (f8.blk e2.drew (by simp)) (by simp; omega)
            have g9 := ((g7.drew).trans' f8).trans f9 (by simp; have := HN0.out; omega)
            have ht9 : N1 < w9.heap.size := by have h8 : w7.heap.size ≤ w8.heap.size := f8.size; have := f9.size; omega
            clear e0 e1 e2 g7 f8 f9 b7
            go_wp2_with fail
            go_roundw
            case rel => exact ⟨r + 1, by omega, by omega, by go_num, k0, b9, k2, g9, ht9⟩
            case measure => simp [intOf]; omega
    · have er : r = 11 := by omega
      have hd1 : decide ((r : Int) < 11) = false := by simp; omega
      rw [er] at b1
      clear er hlt
      have Hlen := hid (bvl (blockS_len T s))
      go_wp2_with (first
        | (refine wpList_load_ag rfl _ _ rfl rfl (bv (blockS T s)) b1 sqT Hlen.out (whole Hlen.out) ?_; simp only [World.size_alloc, World.size_drew, Act.put, List.setIfInBounds_toArray, List.set_cons_succ, List.set_cons_zero])
        | (refine wpList_store_ag rfl _ _ _ rfl rfl (bv (blockS T s)) rfl b2 sqT Hlen.out (by rw [bv_length]; decide) (bv_one _) ?_; intro w7 f7 b7 hs7; rw [splice_all _ _ (by rw [bv_length, Hlen.out]; rfl)] at b7; (try simp only [World.size_alloc, World.size_drew, Act.put, List.setIfInBounds_toArray, List.set_cons_succ, List.set_cons_zero])))
      refine bodyPost_row rfl rfl b7 sqT Hlen.out rfl ?_
      exact ⟨rfl, f.trans f7 (fun x hx => .inr (by simp at hx; have := HN0.out; omega))⟩
end Go.Proofs.Ytnkcogaaajkplaa
