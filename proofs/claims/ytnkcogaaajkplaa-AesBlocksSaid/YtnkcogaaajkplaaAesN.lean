/- Layer 3, the document's aes: a block, there and back. -/
import Derived.Test.YtnkcogaaajkplaaAesM
namespace Go.Xr
open Go
set_option linter.unusedVariables false
theorem gxi : ∀ i : Nat, i < 16 → (4 * (((i : Int) / 4 + (i : Int)) % 4) + (i : Int) % 4).toNat = (i + i % 4 * 4) % 16 := by decide
def keyS (T : List UInt8) (r : Nat) : ByteArray := ⟨(rk T r).toArray⟩
def keysOf (T : List UInt8) : List ByteArray := (List.range 11).map fun r => keyS T r
theorem keysOf_len (T : List UInt8) : (keysOf T).length = 11 := by simp [keysOf]
/-- v is a slice of strings that starts at the head of a block. -/
def Ss (w : World) (v : Value) (l : List ByteArray) : Prop := ∃ b cap, v = .slice (some ⟨b, 0, none⟩) l.length cap ∧ l.length ≤ cap ∧ cap ≤ maxLen ∧ b < w.heap.size ∧ ∀ j, j < l.length → w.cell? ⟨b, j, none⟩ = some (.string (l.getD j ⟨#[]⟩))
theorem Ss.keep {w w' : World} {v : Value} {l : List ByteArray} (h : Ss w v l) (f : Fr [] w w') : Ss w' v l := by
  obtain ⟨b, cap, h1, h2, h3, h4, h5⟩ := h
  exact ⟨b, cap, h1, h2, h3, f.lt h4, fun j hj => (World.cell?_of_block (w := w) (f.block b h4 (by simp))).trans (h5 j hj)⟩
theorem Sb.of_own {w : World} {v : Value} {n : Nat} {l : List UInt8} {b : Nat} (h : Own w 1 v n (bv l) (some b)) : Sb w v l := by
  have hl : l.length = n := by have := h.1; rw [bv_length] at this; omega
  rcases h.2 with ⟨_, _, h1⟩ | ⟨b', cap, cs, hB, hv, h1, h2, h3, h4, h5⟩
  · cases h1
  · subst hl
    exact ⟨b', cap, cs, hv, h1, h2, h3, by rw [Nat.mul_one] at h5; exact h5⟩
theorem Sb.of' {w : World} {b cap n : Nat} {l : List UInt8} (h : Blk w b (bv l)) (hl : l.length = n) (hn : n ≤ cap) (hc : cap ≤ maxLen) : Sb w (.slice (some ⟨b, 0, none⟩) n cap) l := by
  subst hl
  exact Sb.of h hn hc
theorem keysOf_get (T : List UInt8) (r : Nat) (hr : r < 11) : (keysOf T).getD r ⟨#[]⟩ = keyS T r := by
  simp [keysOf, List.getD, hr]
theorem keyS_list (T : List UInt8) (r : Nat) : (keyS T r).data.toList = rk T r := rfl
def subOf (T : List UInt8) : List UInt8 := (T.drop 176).take 256
theorem subOf_len (T : List UInt8) (hT : T.length = 688) : (subOf T).length = 256 := by simp [subOf, hT]
theorem subOf_get (T : List UInt8) (i : Nat) (hi : i < 256) : g8 (subOf T) i = g8 T (176 + i) := by
  unfold subOf g8
  rw [List.getD_eq_getElem?_getD, List.getD_eq_getElem?_getD, List.getElem?_take, if_pos hi, List.getElem?_drop]
def unsOf (T : List UInt8) : List UInt8 := (T.drop 432).take 256
theorem unsOf_len (T : List UInt8) (hT : T.length = 688) : (unsOf T).length = 256 := by simp [unsOf, hT]
theorem unsOf_get (T : List UInt8) (i : Nat) (hi : i < 256) : g8 (unsOf T) i = g8 T (432 + i) := by
  unfold unsOf g8
  rw [List.getD_eq_getElem?_getD, List.getD_eq_getElem?_getD, List.getElem?_take, if_pos hi, List.getElem?_drop]
end Go.Xr
namespace Go.Proofs.Ytnkcogaaajkplaa
open Go Go.Xr Go.RowKit
set_option linter.unusedVariables false
set_option linter.unusedSimpArgs false
attribute [local go_sem] xor_u8 xor_u8_c at_bt

set_option maxRecDepth 20000 in
set_option maxHeartbeats 1000000 in
theorem rblock_any {w : World} {v u : Value} {T : List UInt8} (s : ByteArray) (hv : Ss w v (keysOf T)) (hu : Sb w u (subOf T)) (hT : T.length = 688) (hs : s.size = 16) :
    Calls Try.prog 17 #[v, u, .string s] w fun e w' => e = .returned (.string ⟨(blockS T s.data.toList).toArray⟩) ∧ Fr [] w w' := by
  obtain ⟨i5, hi5, hz5, hs5, hb5⟩ := inf5
  have Hi := hid hi5
  have Hz := hid hz5
  have Hs := hid hs5
  have Hb := hid hb5
  obtain ⟨bk, ck, rfl, hk1, hk2, hkl, hkey⟩ := hv
  obtain ⟨bs, cs, rfl, hc3, hc4, hsl, hsub⟩ := hu.cells
  rw [keysOf_len] at hkey hk1
  rw [subOf_len T hT] at hsub hc3
  rw [keysOf_len, subOf_len T hT]
  unfold maxLen at hk2 hc4
  have Hk : Hid (∀ j, j < 11 → w.cell? ⟨bk, j, none⟩ = some (.string (keyS T j))) := hid fun j hj => by rw [hkey j hj, keysOf_get T j hj]
  have Hd : Hid (∀ j, j < 256 → w.cell? ⟨bs, j, none⟩ = some (bt (g8 T (176 + j)))) := hid fun j hj => by rw [hsub j hj, subOf_get T j hj]
  have HT := hid hT
  have Hsz := hid hs
  obtain ⟨S, hS⟩ : ∃ S, s.data.toList = S := ⟨_, rfl⟩
  have HS := hid hS
  have HSl := hid (show S.length = 16 by rw [← hS, Array.length_toList]; exact hs)
  have hmx : s.size ≤ maxLen := by rw [hs]; decide
  have k0 := Hk.out 0 (by decide)
  have Hrl := hid fun r (hr : r ≤ 11) => rk_len T hT r hr
  rw [hS]
  have Hmx := hid hmx
  clear hi5 hz5 hs5 hb5 hkey hsub hT hs hu hS hmx
  go_enter Try.func17, Try.ntmps17
  go_wp2_with (first
    | (refine wpList_bytes_own rfl 9 32 5 _ rfl s rfl Hmx.out Try.underlying9 Try.underlying32 Try.underlying5 ?_; intro w1 c1 f1 hlt1 ho1; rw [HS.out] at ho1; have k1 := f1.cell_some k0; simp only [World.size_alloc, World.size_drew, Act.put, List.setIfInBounds_toArray, List.set_cons_succ, List.set_cons_zero])
    | (go_at_call 27; refine (rwith_any (keyS T 0) (Sb.of_own ho1) HSl.out (by show (rk T 0).toArray.size = 16; rw [List.size_toArray]; exact Hrl.out 0 (by decide))).mono ?_; rintro e w2 ⟨N0, rfl, hN0, hge, f2⟩))
  have f3 := f1.trans' f2
  have q0 : Blk w2 N0 (bv (blkR T S (1 - 1))) := hN0
  have Hk2 := hid (cells_keep Hk.out f3 hkl (by simp))
  have Hd2 := hid (cells_keep Hd.out f3 hsl (by simp))
  have hge0 : w.heap.size ≤ N0 := by have := f1.size; omega
  clear f1 f2 hN0 k0 k1 ho1 hlt1 hge hc3
  go_loopw [7, 8] (fun bv0 rv wr => ∃ r N : Nat, 1 ≤ r ∧ r ≤ 11 ∧ rv = .int .i64 r ∧ bv0 = .slice (some ⟨N, 0, none⟩) 16 16 ∧ Blk wr N (bv (blkR T S (r - 1))) ∧ Hid (∀ j, j < 11 → wr.cell? ⟨bk, j, none⟩ = some (.string (keyS T j))) ∧ Hid (∀ j, j < 256 → wr.cell? ⟨bs, j, none⟩ = some (bt (g8 T (176 + j)))) ∧ Fr [] w wr) (fun _ rv _ => 11 - (intOf rv).toNat)
  case atStart => exact ⟨1, N0, by decide, by decide, rfl, rfl, q0, Hk2, Hd2, f3⟩
  case round =>
    obtain ⟨r, N, hr1, hr, rfl, rfl, b1, hk, hd, f⟩ := hrel
    clear q0 Hk2 Hd2 f3 hge0
    by_cases hlt : r < 11
    · have hd1 : decide ((r : Int) ≤ 10) = true := by simp; omega
      obtain ⟨C, hC⟩ : ∃ C, blkR T S (r - 1) = C := ⟨_, rfl⟩
      have HC := hid hC
      have HCl := hid (show C.length = 16 by rw [← hC]; exact blkR_len _ _ _)
      rw [hC] at b1
      clear hC
      go_wp2_with (refine wpList_make_blk rfl _ _ _ rfl 16 16 .i64 .i64 rfl rfl 5 _ _ 1 Try.underlying32 Hi.out Hz.out Hs.out Hb.out rfl (by decide) (by decide) (by decide) ?_; intro w3 f4 hlt4 hb4; simp only [World.size_alloc, World.size_drew, Act.put, List.setIfInBounds_toArray, List.set_cons_succ, List.set_cons_zero])
      obtain ⟨Nt, hNt⟩ : ∃ Nt, wr.heap.size = Nt := ⟨_, rfl⟩
      rw [hNt] at hb4 hlt4 ⊢
      have c1 := f4.blk b1 (by simp)
      have c3 : Blk w3 Nt (bv (partL (shs T C) 0)) := by rw [partL_zero]; exact hb4
      have hk3 := hid (cells_keep hk.out f4 (f.lt hkl) (by simp))
      have hd3 := hid (cells_keep hd.out f4 (f.lt hsl) (by simp))
      have g4 := f.trans' f4
      have HNt : w.heap.size ≤ Nt := by have := f.size; omega
      have hNN : N < Nt := by have := b1.lt; omega
      clear b1 hb4 hk hd f f4 hNt hlt4
      clear hd1
      go_loopw [10] (fun iv wr => ∃ i : Nat, i ≤ 16 ∧ iv = .int .i64 i ∧ Blk wr N (bv C) ∧ Blk wr Nt (bv (partL (shs T C) i)) ∧ Hid (∀ j, j < 11 → wr.cell? ⟨bk, j, none⟩ = some (.string (keyS T j))) ∧ Hid (∀ j, j < 256 → wr.cell? ⟨bs, j, none⟩ = some (bt (g8 T (176 + j)))) ∧ Fr [] w wr) (fun iv _ => 16 - (intOf iv).toNat)
      case atStart => exact ⟨0, by omega, rfl, c1, c3, hk3, hd3, g4⟩
      case round =>
        obtain ⟨i, hi, rfl, d1, d2, hk, hd, g⟩ := hrel
        clear c1 c3 hk3 hd3 g4
        by_cases hli : i < 16
        · have hd2 : decide ((i : Int) < 16) = true := by simp; omega
          obtain ⟨J, hJ⟩ : ∃ J, (i + i % 4 * 4) % 16 = J := ⟨_, rfl⟩
          obtain ⟨X, hX⟩ : ∃ X, g8 C J = X := ⟨_, rfl⟩
          obtain ⟨Y, hY⟩ : ∃ Y, g8 T (176 + X.toNat) = Y := ⟨_, rfl⟩
          have hx := X.toNat_lt
          have hx2 : X.toNat < 256 := hx
          have k1 : wr.cell? ⟨N, J, none⟩ = some (bt X) := by rw [d1.cell, bv_getElem?, g8_eq C J (by rw [HCl.out]; omega), hX]; rfl
          have k2 : wr.cell? ⟨bs, X.toNat, none⟩ = some (bt Y) := by rw [hd.out _ hx2, hY]
          have hY2 := hid (show g8 (shs T C) i = Y by rw [shs_get T C i hli, hJ, hX, hY])
          have m1 : (4 * (((i : Int) / 4 + (i : Int)) % 4) + (i : Int) % 4).toNat = J := by rw [gxi i hli, hJ]
          have m2 : (X.toNat : Int) < 256 := by omega
          have m3 : 4 * (((i : Int) / 4 + (i : Int)) % 4) + (i : Int) % 4 < 16 := by omega
          clear hY hX hJ
          go_wp2_with (refine wpList_put rfl _ _ _ rfl rfl (bt Y) rfl rfl d2 (by rw [bv_length, partL_len _ (shs_len T C) i hi]; exact hli) (by kernel_rfl) ?_; intro w6 f6 b6 hs6; rw [← hY2.out, ← bv_set, partL_set _ (shs_len T C) i hli] at b6; simp only [World.size_alloc, World.size_drew, Act.put, List.setIfInBounds_toArray, List.set_cons_succ, List.set_cons_zero])
          have hl2 := d2.lt
          go_roundw
          case rel => exact ⟨i + 1, by omega, by go_num, f6.blk d1 (by simp; omega), b6, hid (cells_keep hk.out f6 (g.lt hkl) (by simp; omega)), hid (cells_keep hd.out f6 (g.lt hsl) (by simp; omega)), g.trans f6 (by simp; omega)⟩
          case measure => simp [intOf]; omega
        · have hd2 : decide ((i : Int) < 16) = false := by simp; omega
          have ei : i = 16 := by omega
          rw [ei, partL_all _ (shs_len T C)] at d2
          clear ei hli hi
          obtain ⟨D0, hD0⟩ : ∃ D0, shs T C = D0 := ⟨_, rfl⟩
          have HD0 := hid (show D0.length = 16 by rw [← hD0]; exact shs_len _ _)
          rw [hD0] at d2
          have HE := HC.out
          have hkr := hk.out r hlt
          by_cases hr10 : r < 10
          case' pos =>
            have hd10 : decide ((r : Int) < 10) = true := by simp; omega
            have HE2 := hid (show xorL (mixL F1 D0) (rk T r) = blkR T S r by
              obtain ⟨q, rfl⟩ : ∃ q, r = q + 1 := ⟨r - 1, by omega⟩
              rw [Nat.add_sub_cancel] at HE
              rw [blkR, if_pos hr10, HE, hD0])
            clear HE hr10
            go_wp2_with fail
            have hbF : Blk (wr.alloc (.cells #[.int .u8 2, .int .u8 3, .int .u8 1, .int .u8 1] 5)) wr.heap.size (bv F1) := Blk.alloc wr (bv F1) _
            have fF := (Fr.refl [] wr).alloc (.cells #[.int .u8 2, .int .u8 3, .int .u8 1, .int .u8 1] 5)
            generalize wr.alloc (.cells #[.int .u8 2, .int .u8 3, .int .u8 1, .int .u8 1] 5) = w5 at hbF fF ⊢
            refine (rmix_any (Sb.of' (fF.blk d2 (by simp)) HD0.out (by decide) (by decide)) HD0.out (Sb.of' (l := F1) hbF rfl (by decide) (by decide)) rfl).mono ?_
            rintro e w6 ⟨Nm, rfl, hNm, hge, f6⟩
            have gm := (fF.trans' f6)
            have hkm := gm.cell_some hkr
            obtain ⟨D, hD⟩ : ∃ D, mixL F1 D0 = D := ⟨_, rfl⟩
            have HD := hid (show D.length = 16 by rw [← hD]; exact mixL_len _ _)
            rw [hD] at HE2 hNm
            clear hD hbF fF f6 hge hkr
            go_wp2_with fail
          case' neg =>
            have hd10 : decide ((r : Int) < 10) = false := by simp; omega
            have HE2 := hid (show xorL D0 (rk T r) = blkR T S r by
              obtain ⟨q, rfl⟩ : ∃ q, r = q + 1 := ⟨r - 1, by omega⟩
              rw [Nat.add_sub_cancel] at HE
              rw [blkR, if_neg hr10, HE, hD0])
            clear HE hr10
            go_wp2_with fail
            have gm := Fr.refl [] wr
            have hNm := d2
            have hkm := hkr
            have HD := HD0
            clear hkr
          all_goals
            refine (rwith_any (keyS T r) (Sb.of' (cap := 16) hNm HD.out (by decide) (by decide)) HD.out (by show (rk T r).toArray.size = 16; rw [List.size_toArray]; exact Hrl.out r hr)).mono ?_
            rintro e w8 ⟨N8, rfl, hN8, hge8, f8⟩
            rw [keyS_list, HE2.out] at hN8
            have g8 := gm.trans' f8
            clear gm f8 hge8 hkm hNm HE2
            go_wp2_with fail
            go_roundw
            case rel => exact ⟨r + 1, N8, by omega, by omega, by go_num, rfl, hN8, hid (cells_keep hk.out g8 (g.lt hkl) (by simp)), hid (cells_keep hd.out g8 (g.lt hsl) (by simp)), g.trans' g8⟩
            case measure => simp [intOf]; omega
    · have er : r = 11 := by omega
      have hd1 : decide ((r : Int) ≤ 10) = false := by simp; omega
      rw [er] at b1
      clear er hlt
      have b2 : Blk wr N (bv (blockS T S)) := b1
      go_wp2_with (refine wpList_string_of_bytes rfl 32 9 5 _ rfl 16 16 rfl b2 (blockS T S) (blockS_len T S) (by rw [List.drop_zero, blockS_len, ← bvl (blockS_len T S), List.take_length]) Try.underlying32 Try.underlying5 Try.underlying9 ?_; simp only [World.size_alloc, World.size_drew, Act.put, List.setIfInBounds_toArray, List.set_cons_succ, List.set_cons_zero])
      go_ret
      exact ⟨rfl, f⟩
end Go.Proofs.Ytnkcogaaajkplaa
