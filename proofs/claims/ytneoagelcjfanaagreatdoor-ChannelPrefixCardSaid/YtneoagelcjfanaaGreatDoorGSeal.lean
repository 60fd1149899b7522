/- Several texts put together: SealA, SealB, SealC, SealD, SealE, SealF, SealG. What each shows stands ahead of it. -/
import Derived.Test.YtneoagelcjfanaaGreatDoorGAesB
import Derived.Test.YtneoagelcjfanaaGreatDoorGAesC
import Derived.Test.YtneoagelcjfanaaGreatDoorGMac
import Derived.Test.YtneoagelcjfanaaGreatDoorGCore
import Derived.OwnWalk
import Derived.Laws.ResultCell
/- Layer 3, the document's aes: the next number, the stream, a text turned. -/
namespace Go.Xr
open Go
set_option linter.unusedVariables false
theorem strL_zero (T nn : List UInt8) : strL T nn 0 = [] := rfl
theorem g8_take (l : List UInt8) (n i : Nat) (h : i < n) : g8 (l.take n) i = g8 l i := by
  unfold g8
  rw [List.getD_eq_getElem?_getD, List.getD_eq_getElem?_getD, List.getElem?_take, if_pos h]
theorem ciT_sub0 (key : List UInt8) (hk : key.length = 16) (i : Nat) (hi : i < 256) : g8 (ciT key) (176 + i) = g8 subT i := TT_sub _ _ _ (by rw [KS_len _ _ hk]; decide) subT_len i hi
theorem list_g80 {l k : List UInt8} (n : Nat) (hl : l.length = n) (hk : k.length = n) (h : ∀ i, i < n → g8 l i = g8 k i) : l = k := by
  apply List.ext_getElem?
  intro i
  by_cases hi : i < n
  · rw [g8_eq l i (by omega), g8_eq k i (by omega), h i hi]
  · rw [List.getElem?_eq_none (by omega), List.getElem?_eq_none (by omega)]
theorem subOf_ciT0 (key : List UInt8) (hk : key.length = 16) : subOf (ciT key) = subT :=
  list_g80 256 (subOf_len _ (ciT_len key hk)) subT_len fun i hi => by rw [subOf_get _ _ hi, ciT_sub0 key hk i hi]
end Go.Xr
namespace Go.Proofs.YtneoagelcjfanaaGreatDoor.aes
open Go Go.Xr Go.RowKit
set_option linter.unusedVariables false
set_option linter.unusedSimpArgs false
attribute [local go_sem] xor_u8 xor_u8_c add_u8_c neq_u8_c neg_u8_c

set_option maxRecDepth 20000 in
theorem rnext_any {w : World} (n : ByteArray) (hn : n.size = 16) : Calls Tryz.prog 128 #[.string n] w fun e w' => e = .returned (.string ⟨(incF 16 n.data.toList).toArray⟩) ∧ Fr [] w w' := by
  obtain ⟨nn, hnn⟩ : ∃ nn, n.data.toList = nn := ⟨_, rfl⟩
  have hnl : nn.length = 16 := by rw [← hnn, Array.length_toList]; exact hn
  have Hnn := hid hnn
  have Hnl := hid hnl
  have Hn16 := hid hn
  have Hmx := hid (show n.size ≤ maxLen by rw [hn]; decide)
  rw [hnn]
  clear hnn hn hnl
  go_enter Tryz.func128, Tryz.ntmps128
  go_wp2_with (refine wpList_bytes_own rfl 9 67 5 _ rfl n rfl Hmx.out Tryz.underlying9 Tryz.underlying67 Tryz.underlying5 ?_; intro w4 c4 f4 hlt4 ho4; rw [Hnn.out] at ho4; simp only [World.size_alloc, World.size_drew, Act.put, List.setIfInBounds_toArray, List.set_cons_succ, List.set_cons_zero])
  obtain ⟨bn, hbn⟩ : ∃ bn, w.heap.size = bn := ⟨_, rfl⟩
  rw [hbn] at ho4 hlt4 ⊢
  obtain ⟨cs, hcs1, hcs2, hcs3, _⟩ := ho4.blkOf
  have q0 : ∃ cs, Blk w4 bn cs ∧ cs.take 16 = bv nn ∧ 16 ≤ cs.length := ⟨cs, hcs1, by rw [← Hn16.out]; exact hcs3, by rw [← Hn16.out]; exact hcs2⟩
  have hwn : w.heap.size ≤ bn := by omega
  clear ho4 hlt4 hbn hcs1 hcs2 hcs3
  go_loopw [4] (fun iv wr => ∃ (r : Nat) (L : List UInt8), r ≤ 16 ∧ iv = .int .i64 ((r : Int) - 1) ∧ (∃ cs, Blk wr bn cs ∧ cs.take 16 = bv L ∧ 16 ≤ cs.length) ∧ L.length = 16 ∧ Hid (incF 16 nn = incF r L) ∧ Fr [] w wr) (fun iv _ => (intOf iv + 1).toNat)
  case atStart => exact ⟨16, nn, by decide, rfl, q0, Hnl.out, hid rfl, f4⟩
  case round =>
    obtain ⟨r, L, hr, rfl, ⟨cs, b3, hcs, hcl⟩, hLl, hE, f⟩ := hrel
    clear q0 f4
    cases r with
    | zero =>
      have HD := hid (show incF 16 nn = L by rw [hE.out]; rfl)
      have HDl := hid hLl
      have Hcs := hid hcs
      clear hE hLl hr hcs
      have hcv : (convert 67 9 (.slice (some ⟨bn, 0, none⟩) n.size c4)).run Tryz.prog wr = .ok (.string ⟨(incF 16 nn).toArray⟩) wr := by
        have hl : (incF 16 nn).length = n.size := by rw [HD.out, HDl.out, Hn16.out]
        have := run_string_of_bytes (P := Tryz.prog) wr 67 9 5 b3 (incF 16 nn) c4 (by rw [List.drop_zero, HD.out, HDl.out]; exact Hcs.out) Tryz.underlying67 Tryz.underlying5 Tryz.underlying9
        rw [hl] at this
        exact this
      go_wp2_with fail
      go_ret
      exact ⟨rfl, f⟩
    | succ q =>
      rw [show (((q + 1 : Nat) : Int) - 1) = (q : Int) by omega]
      obtain ⟨X, hX⟩ : ∃ X, g8 L q = X := ⟨_, rfl⟩
      obtain ⟨Y, hY⟩ : ∃ Y, X + c8 1 = Y := ⟨_, rfl⟩
      have hq : q < 16 := by omega
      have k1 : wr.cell? ⟨bn, q, none⟩ = some (bt X) := by
        rw [b3.cell]
        have : (cs.take 16)[q]? = (bv L)[q]? := by rw [hcs]
        rw [List.getElem?_take, if_pos hq, bv_getElem?, g8_eq L q (by omega), hX] at this
        exact this
      have HLl := hid hLl
      have hE2 : incF 16 nn = if Y.toNat = 0 then incF q (L.set q Y) else L.set q Y := by
        have h := hE.out
        generalize incF 16 nn = Z at h ⊢
        rw [incF, hX, hY] at h
        exact h
      have HYe := hid hY
      have Hcs0 := hid (show (cs.set q (bt Y)).take 16 = bv (L.set q Y) by rw [List.take_set, hcs, bv_set])
      have hqc : q < cs.length := by omega
      have hqn : q < n.size := by rw [Hn16.out]; exact hq
      clear hX hY hLl hE hcs
      by_cases hy0 : Y.toNat = 0
      · have hne2 : ((Y.toNat : Int) != 0) = false := by rw [hy0]; rfl
        rw [if_pos hy0] at hE2
        have HE2 := hid hE2
        clear hE2 hy0
        go_wp2_with (refine wpList_put rfl _ _ _ rfl rfl (bt Y) (by rw [← HYe.out]; rfl) rfl b3 hqc (by kernel_rfl) ?_; intro w6 f6 b6 hs6; have k6 : w6.cell? ⟨bn, q, none⟩ = some (bt Y) := (by rw [b6.cell, List.getElem?_set_self hqc]); simp only [World.size_alloc, World.size_drew, Act.put, List.setIfInBounds_toArray, List.set_cons_succ, List.set_cons_zero])
        go_roundw
        case rel => exact ⟨q, L.set q Y, by omega, rfl, ⟨_, b6, Hcs0.out, by rw [List.length_set]; exact hcl⟩, by rw [List.length_set]; exact HLl.out, HE2, f.trans f6 (by simp; omega)⟩
        case measure => simp [intOf]
      · have hne2 : ((Y.toNat : Int) != 0) = true := by simp; omega
        rw [if_neg hy0] at hE2
        obtain ⟨D, hD⟩ : ∃ D, L.set q Y = D := ⟨_, rfl⟩
        have HD := hid (show incF 16 nn = D by rw [hE2, hD])
        have HDl := hid (show D.length = 16 by rw [← hD, List.length_set]; exact HLl.out)
        have Hcs := hid (show (cs.set q (bt Y)).take 16 = bv D by rw [Hcs0.out, hD])
        clear hE2 hy0 hD
        go_wp2_with (first
          | (refine wpList_put rfl _ _ _ rfl rfl (bt Y) (by rw [← HYe.out]; rfl) rfl b3 hqc (by kernel_rfl) ?_; intro w6 f6 b6 hs6; have k6 : w6.cell? ⟨bn, q, none⟩ = some (bt Y) := (by rw [b6.cell, List.getElem?_set_self hqc]); simp only [World.size_alloc, World.size_drew, Act.put, List.setIfInBounds_toArray, List.set_cons_succ, List.set_cons_zero])
          | (have hcv : (convert 67 9 (.slice (some ⟨bn, 0, none⟩) n.size c4)).run Tryz.prog w6 = .ok (.string ⟨(incF 16 nn).toArray⟩) w6 := (by
              have hl : (incF 16 nn).length = n.size := by rw [HD.out, HDl.out, Hn16.out]
              have := run_string_of_bytes (P := Tryz.prog) w6 67 9 5 b6 (incF 16 nn) c4 (by rw [List.drop_zero, HD.out, HDl.out]; exact Hcs.out) Tryz.underlying67 Tryz.underlying5 Tryz.underlying9
              rw [hl] at this
              exact this); refine wpList_plain rfl fun _ hK => ?_; unfold Oper.wp execOp; simp only [Act.eval, Sem.run_bind, hcv, Result.andThen_ok, Sem.run_pure]; refine hK _ _ ?_; simp only [World.size_alloc, World.size_drew, Act.put, List.setIfInBounds_toArray, List.set_cons_succ, List.set_cons_zero]))
        go_ret
        exact ⟨rfl, f.trans f6 (by simp; omega)⟩

set_option maxRecDepth 20000 in
set_option maxHeartbeats 1000000 in
theorem rstream_any {w : World} (k nonce : ByteArray) (hk : k.size = 16) (hn : nonce.size = 16) (n : Nat) (hm : n ≤ 1073741824) :
    Calls Tryz.prog 113 #[.string k, .string nonce, .int .i64 n] w fun e w' => e = .returned (.string ⟨(strL (ciT k.data.toList) nonce.data.toList n).toArray⟩) ∧ Fr [] w w' := by
  have hkl : k.data.toList.length = 16 := by rw [Array.length_toList]; exact hk
  have hnl : nonce.data.toList.length = 16 := by rw [Array.length_toList]; exact hn
  obtain ⟨T, hT⟩ : ∃ T, ciT k.data.toList = T := ⟨_, rfl⟩
  have HT := hid (show T.length = 688 by rw [← hT]; exact ciT_len _ hkl)
  have HTe := hid hT
  have Hsub := hid (show subOf T = subT by rw [← hT]; exact subOf_ciT0 _ hkl)
  obtain ⟨nn, hnn⟩ : ∃ nn, nonce.data.toList = nn := ⟨_, rfl⟩
  rw [hnn] at hnl
  have Hk := hid hk
  have Hnl := hid hnl
  have Hnn := hid hnn
  have Hcl := hid fun j => (ctr_len nn j).trans hnl
  rw [hT, hnn]
  have Hm := hid hm
  clear hkl hnl hT hnn hk hn hm
  go_enter Tryz.func113, Tryz.ntmps113
  go_wp2_with (first
    | (go_at_call 125; refine table_f.mono ?_; rintro e w1 ⟨N1, rfl, hN1, hge1, f1⟩)
    | (go_at_call 126; refine (rrounds_any k (Sb.of' hN1 subT_len (by decide) (by decide)) Hk.out).mono ?_; rintro e w2 ⟨v2, rfl, hv2, f2⟩; rw [HTe.out] at hv2))
  have hN2 : Blk w2 N1 (bv subT) := f2.blk hN1 (by simp)
  have g2 := f1.trans' f2
  have q0 : nonce = ⟨(ctr nn 0).toArray⟩ := by rw [← Hnn.out]; simp [ctr]
  rw [q0]
  obtain ⟨b2, c2, rfl, hk1, hk2, hlt2, hcell2⟩ := id hv2
  have hlen := keysOf_len T
  have Hv2 := hid hv2
  clear hv2 hN1 hge1 f1 f2 q0 hcell2 hk2 hk1 hlt2 HTe
  rw [hlen] at Hv2 ⊢
  clear hlen
  go_loopg [9, 1] (n + 1) (fun g sv nv wr => ∃ j : Nat, g = n + 1 - 16 * j ∧ 16 * j < n + 16 ∧ sv = .string ⟨(strL T nn (16 * j)).toArray⟩ ∧ nv = .string ⟨(ctr nn j).toArray⟩ ∧ Fr [] w2 wr)
  case atStart => exact ⟨0, by omega, by omega, rfl, rfl, Fr.refl _ _⟩
  case round =>
    obtain ⟨j, hg, hj, rfl, rfl, f⟩ := hrel
    have hS : (⟨(strL T nn (16 * j)).toArray⟩ : ByteArray).size = 16 * j := by rw [size_mk', strL_len]
    have HE := hid (show (⟨(strL T nn (16 * j)).toArray⟩ : ByteArray) ++ ⟨(blockS T (ctr nn j)).toArray⟩ = ⟨(strL T nn (16 * (j + 1))).toArray⟩ by
      apply ByteArray.ext
      apply Array.ext'
      simp [strL_block])
    have HF := hid (show 16 * j ≥ n → (⟨(strL T nn (16 * j)).toArray⟩ : ByteArray).extract 0 n = ⟨(strL T nn n).toArray⟩ by
      intro h
      rw [← ext_eq, ← strL_take T nn n (16 * j) h])
    obtain ⟨S, hSe⟩ : ∃ S : ByteArray, ⟨(strL T nn (16 * j)).toArray⟩ = S := ⟨_, rfl⟩
    obtain ⟨C, hC⟩ : ∃ C : ByteArray, ⟨(ctr nn j).toArray⟩ = C := ⟨_, rfl⟩
    have HCl := hid (show C.size = 16 by rw [← hC, size_mk']; exact Hcl.out j)
    have HCd := hid (show C.data.toList = ctr nn j by rw [← hC])
    rw [hSe] at hS HE HF ⊢
    rw [hC]
    clear hSe hC
    by_cases hlt : 16 * j < n
    · have hd : decide (S.size < n) = true := by simp; omega
      have Hlt := hid (show 16 * (j + 1) < n + 16 ∧ n + 1 - 16 * (j + 1) < n + 1 - 16 * j from ⟨by omega, by omega⟩)
      have Hg := hid hg
      clear hS hlt hj
      have Hn' := hid (show (⟨(incF 16 C.data.toList).toArray⟩ : ByteArray) = ⟨(ctr nn (j + 1)).toArray⟩ by rw [HCd.out]; rfl)
      obtain ⟨B, hB⟩ : ∃ B : ByteArray, ⟨(blockS T (ctr nn j)).toArray⟩ = B := ⟨_, rfl⟩
      have HB := hid hB
      have hb1 : B.size ≤ 16 := by rw [← hB, size_mk', blockS_len]; exact Nat.le_refl _
      have hb2 : S.size ≤ 1073741824 := by have := Hm.out; have := of_decide_eq_true hd; omega
      have HE2 := hid HE.out
      rw [hB] at HE2
      obtain ⟨S2, hS2⟩ : ∃ S2 : ByteArray, ⟨(strL T nn (16 * (j + 1))).toArray⟩ = S2 := ⟨_, rfl⟩
      rw [hS2] at HE2
      have HS2 := hid hS2
      clear hB hS2 HE HF hg
      go_wp2_with fail
      refine (rblock_any C (Hv2.out.keep f) (by rw [Hsub.out]; exact Sb.of' (f.blk hN2 (by simp)) subT_len (by decide) (by decide)) HT.out HCl.out).mono ?_
      rintro e w3 ⟨rfl, f3⟩
      rw [HCd.out, HB.out]
      go_wp2_with fail
      rw [HE2.out]
      refine (rnext_any C HCl.out).mono ?_
      rintro e w4 ⟨rfl, f4⟩
      rw [Hn'.out]
      go_wp2_with fail
      go_roundg (n + 1 - 16 * (j + 1))
      case rel => exact ⟨j + 1, rfl, Hlt.out.1, by rw [HS2.out], rfl, (f.trans' f3).trans' f4⟩
      case measure => have := Hlt.out.2; have := Hg.out; omega
    · have hd : decide (S.size < n) = false := by simp; omega
      have hle : n ≤ S.size := by omega
      have HF2 := hid (HF.out (by omega))
      clear HF HE hg hS hj hlt
      go_wp2_with fail
      go_ret
      rw [HF2.out]
      exact ⟨rfl, g2.trans' f⟩

set_option maxRecDepth 20000 in
set_option maxHeartbeats 1000000 in
theorem rturn_any {w : World} (k nonce s : ByteArray) (hk : k.size = 16) (hn : nonce.size = 16) (hs : s.size ≤ 1073741824) :
    Calls Tryz.prog 94 #[.string k, .string nonce, .string s] w fun e w' => e = .returned (.string ⟨(turnL (ciT k.data.toList) nonce.data.toList s.data.toList).toArray⟩) ∧ Fr [] w w' := by
  have Hst := hid (rstream_any (w := w) k nonce hk hn s.size hs)
  obtain ⟨T, hT⟩ : ∃ T, ciT k.data.toList = T := ⟨_, rfl⟩
  obtain ⟨nn, hnn⟩ : ∃ nn, nonce.data.toList = nn := ⟨_, rfl⟩
  obtain ⟨L, hL⟩ : ∃ L, s.data.toList = L := ⟨_, rfl⟩
  have hLl : L.length = s.size := by rw [← hL]; exact Array.length_toList
  rw [hT, hnn] at Hst
  rw [hT, hnn, hL]
  obtain ⟨Z, hZ⟩ : ∃ Z : ByteArray, ⟨(strL T nn s.size).toArray⟩ = Z := ⟨_, rfl⟩
  have hZs : Z.size = s.size := by rw [← hZ, size_mk', strL_len]
  have hZd : Z.data.toList = strL T nn L.length := by rw [← hZ, hLl]
  rw [hZ] at Hst
  have HL := hid hL
  have HLl := hid hLl
  have HZd := hid hZd
  have HZs := hid hZs
  have Hmx := hid (show s.size ≤ maxLen by unfold maxLen; omega)
  have Hall := hid (turnI_all T nn L)
  clear hT hnn hL hLl hZ hZs hZd hk hn
  go_enter Tryz.func94, Tryz.ntmps94
  go_wp2_with fail
  refine Hst.out.mono ?_
  rintro e w1 ⟨rfl, f1⟩
  go_wp2_with (refine wpList_bytes_own rfl 9 67 5 _ rfl s rfl Hmx.out Tryz.underlying9 Tryz.underlying67 Tryz.underlying5 ?_; intro w2 c2 f2 hlt2 ho2; rw [HL.out] at ho2; simp only [World.size_alloc, World.size_drew, Act.put, List.setIfInBounds_toArray, List.set_cons_succ, List.set_cons_zero])
  obtain ⟨bn, hbn⟩ : ∃ bn, w1.heap.size = bn := ⟨_, rfl⟩
  have hwn : w.heap.size ≤ bn := by rw [← hbn]; exact f1.size
  rw [hbn] at ho2 hlt2 ⊢
  obtain ⟨cs, hcs1, hcs2, hcs3, _⟩ := ho2.blkOf
  have q0 : ∃ cs, Blk w2 bn cs ∧ cs.take s.size = bv (turnI T nn L 0) ∧ s.size ≤ cs.length := ⟨cs, hcs1, by rw [turnI_zero]; exact hcs3, hcs2⟩
  have g2 := f1.trans' f2
  clear ho2 hlt2 hbn hcs1 hcs2 hcs3 f1 f2 Hst
  go_loopw [9] (fun iv wr => ∃ i : Nat, i ≤ s.size ∧ iv = .int .i64 i ∧ (∃ cs, Blk wr bn cs ∧ cs.take s.size = bv (turnI T nn L i) ∧ s.size ≤ cs.length) ∧ Fr [] w wr) (fun iv _ => s.size - (intOf iv).toNat)
  case atStart => exact ⟨0, by omega, rfl, q0, g2⟩
  case round =>
    obtain ⟨i, hi, rfl, ⟨cs, b3, hcs, hcl⟩, f⟩ := hrel
    clear q0 g2
    by_cases hli : i < s.size
    · have hd : decide (i < s.size) = true := by simp; omega
      have hiL : i < L.length := by rw [HLl.out]; exact hli
      obtain ⟨X, hX⟩ : ∃ X, g8 L i = X := ⟨_, rfl⟩
      obtain ⟨Y, hY⟩ : ∃ Y, strm T nn i = Y := ⟨_, rfl⟩
      have k1 : wr.cell? ⟨bn, i, none⟩ = some (bt X) := by
        rw [b3.cell]
        have : (cs.take s.size)[i]? = (bv (turnI T nn L i))[i]? := by rw [hcs]
        rw [List.getElem?_take, if_pos hli, bv_getElem?, turnI_get _ _ _ _ hiL, hX] at this
        exact this
      have hix : ∀ w0 : World, (Instr.index 9 (.string Z) (.int .i64 i)).run Tryz.prog w0 = .ok (bt Y) w0 := fun w0 => by
        have := index_str (P := Tryz.prog) w0 9 Z .i64 i i Tryz.underlying9 rfl (by rw [HZs.out]; exact hli) 0
        rw [HZd.out] at this
        have e : g8 (strL T nn L.length) i = Y := by rw [strL_get _ _ _ _ hiL, hY]
        rw [show ((strL T nn L.length).getD i 0) = Y from e] at this
        exact this
      have Hset := hid (show (cs.set i (bt (X ^^^ Y))).take s.size = bv (turnI T nn L (i + 1)) by
        rw [List.take_set, hcs, ← bv_set, ← hX, ← hY, turnI_set _ _ _ _ hiL])
      have hic : i < cs.length := by omega
      clear hX hY hcs
      go_wp2_with fail
      refine wp_region_D (fun _ => True) false [] (by kernel_rfl) ?_
      refine WD.pure [0, 1, 2, 3, 4, 5, 6, 7, 8, 9, 10] (by kernel_rfl) trivial ?_
      simp only [pick, List.toList_toArray, List.map_cons, List.map_nil, List.getD_cons_succ, List.getD_cons_zero]
      repeat (first | go_big_quiet_step (fail))
      refine wpQuiet_nil ?_
      refine WD.eff 11 (by kernel_rfl) ?_
      simp only [pick, List.toList_toArray, List.map_cons, List.map_nil, List.getD_cons_succ, List.getD_cons_zero]
      refine wpList_put rfl _ _ _ rfl rfl (bt (X ^^^ Y)) rfl rfl b3.drew hic (by kernel_rfl) ?_
      intro w6 f6 b6 hs6
      try refine wpList_nil ?_
      refine AfterD.on trivial (by kernel_rfl) ?_
      try simp only [World.size_alloc, World.size_drew, Act.put, List.setIfInBounds_toArray, List.set_cons_succ, List.set_cons_zero]
      refine WD.done (by kernel_rfl) ?_
      have f7 : Fr [bn] wr w6 := ((Fr.refl _ wr).drew).trans' f6
      clear hix k1 f6
      go_wp2_with fail
      go_roundw
      case rel => exact ⟨i + 1, by omega, by go_num, ⟨_, b6, Hset.out, by rw [List.length_set]; exact hcl⟩, f.trans f7 (by simp; omega)⟩
      case measure => simp [intOf]; omega
    · have ei : i = s.size := by omega
      have hd : decide (i < s.size) = false := by simp; omega
      have Hcs := hid (show cs.take s.size = bv (turnL T nn L) by rw [hcs, ei, ← HLl.out, Hall.out])
      have Htl := hid (show (turnL T nn L).length = s.size by rw [turnL_len, HLl.out])
      clear ei hi hli hcs
      go_wp2_with (refine wpList_string_of_bytes rfl 67 9 5 _ rfl s.size _ rfl b3 (turnL T nn L) Htl.out (by rw [List.drop_zero, Htl.out]; exact Hcs.out) Tryz.underlying67 Tryz.underlying5 Tryz.underlying9 ?_; simp only [World.size_alloc, World.size_drew, Act.put, List.setIfInBounds_toArray, List.set_cons_succ, List.set_cons_zero])
      go_ret
      exact ⟨rfl, f⟩
end Go.Proofs.YtneoagelcjfanaaGreatDoor.aes

/- Layer 4, seal: a number's eight bytes, a text turned, which keys may be, what is read off a sealed text. -/
namespace Go.Xr
open Go
set_option linter.unusedVariables false
theorem shr64_u8 (a : UInt64) (n : Nat) : (shr64 a n).toUInt8 = UInt8.ofNat (a.toNat / 2 ^ n) := by
  apply UInt8.toNat_inj.1
  have h1 : (shr64 a n).toNat = a.toNat / 2 ^ n := by
    show (a.toBitVec >>> n).toNat = a.toNat / 2 ^ n
    rw [BitVec.toNat_ushiftRight, Nat.shiftRight_eq_div_pow]
    rfl
  rw [UInt64.toNat_toUInt8, h1, UInt8.toNat_ofNat']
theorem be8_get (m i : Nat) (h : i < 8) : (be8 m)[i]? = some (UInt8.ofNat (m / 2 ^ (56 - 8 * i))) := by simp [be8, h]
/-- The first i bytes of the eight, then 0. -/
def bup (m i : Nat) : List UInt8 := (be8 m).take i ++ List.replicate (8 - i) 0
theorem bup_len (m i : Nat) (h : i ≤ 8) : (bup m i).length = 8 := by
  simp only [bup, List.length_append, List.length_replicate, List.length_take, be8_len]
  omega
theorem bup_zero (m : Nat) : bup m 0 = List.replicate 8 0 := by simp [bup]
theorem bup_full (m : Nat) : bup m 8 = be8 m := by
  unfold bup
  rw [List.take_of_length_le (by rw [be8_len]; exact Nat.le_refl _)]
  simp
theorem bup_set (m i : Nat) (h : i < 8) : (bup m i).set i (UInt8.ofNat (m / 2 ^ (56 - 8 * i))) = bup m (i + 1) := by
  have h : i = 0 ∨ i = 1 ∨ i = 2 ∨ i = 3 ∨ i = 4 ∨ i = 5 ∨ i = 6 ∨ i = 7 := by omega
  rcases h with rfl | rfl | rfl | rfl | rfl | rfl | rfl | rfl <;> rfl
/-- A nonce of 16 bytes: the eight, then eight times 0. -/
def wide (l : List UInt8) : List UInt8 := l ++ List.replicate 8 0
/-- A text by the key's bytes and a nonce's eight bytes. -/
def trnL (key nn l : List UInt8) : List UInt8 := turnL (ciT key) (wide nn) l
theorem trnL_len (key nn l : List UInt8) : (trnL key nn l).length = l.length := turnL_len _ _ _
theorem wide_size (nn : ByteArray) (h : nn.size = 8) : (⟨(wide nn.data.toList).toArray⟩ : ByteArray).size = 16 := by
  rw [size_mk', wide, List.length_append, List.length_replicate, Array.length_toList]
  have : nn.data.size = 8 := h
  omega
/-- The number that the first k bytes are. -/
def rdN (l : List UInt8) : Nat → UInt64
  | 0 => 0
  | k + 1 => shl64 (rdN l k) 8 ||| (g8 l k).toUInt64
end Go.Xr
namespace Go.Proofs.YtneoagelcjfanaaGreatDoor
open Go Go.Xr Go.RowKit Go.Proofs.YtneoagelcjfanaaGreatDoor.aes
set_option linter.unusedVariables false
set_option linter.unusedSimpArgs false

theorem cv64_8 (w : World) (a : UInt64) : (convert 22 5 (W64 a)).run Tryz.prog w = .ok (bt a.toUInt8) w := conv_u64_u8 w _ _ a Tryz.underlying22 Tryz.underlying5 rfl
theorem cv8_64 (w : World) (a : UInt8) : (convert 5 22 (bt a)).run Tryz.prog w = .ok (W64 a.toUInt64) w := conv_u8_u64 w _ _ a Tryz.underlying5 Tryz.underlying22 rfl
attribute [local go_sem] shr_u64 shl_u64 or_u64 cv64_8 cv8_64

set_option maxRecDepth 20000 in
theorem eight_any {w : World} (x : UInt64) : Calls Tryz.prog 70 #[W64 x] w fun e w' => e = .returned (.string ⟨(be8 x.toNat).toArray⟩) ∧ Fr [] w w' := by
  obtain ⟨i5, hi5, hz5, hs5, hb5⟩ := inf5
  have Hi := hid hi5
  have Hz := hid hz5
  have Hs := hid hs5
  have Hb := hid hb5
  clear hi5 hz5 hs5 hb5
  have Hml := hid (be8_len x.toNat)
  go_enter Tryz.func70, Tryz.ntmps70
  go_wp2_with (refine wpList_make_blk rfl _ _ _ rfl 8 8 .i64 .i64 rfl rfl 5 _ _ 1 Tryz.underlying67 Hi.out Hz.out Hs.out Hb.out rfl (by decide) (by decide) (by decide) ?_; intro w1 f1 hlt1 hb1; simp only [World.size_alloc, World.size_drew, Act.put, List.setIfInBounds_toArray, List.set_cons_succ, List.set_cons_zero])
  obtain ⟨N, hN⟩ : ∃ N, w.heap.size = N := ⟨_, rfl⟩
  rw [hN] at hb1 hlt1 ⊢
  have HN := hid hN
  have q1 : Blk w1 N (bv (bup x.toNat 0)) := by rw [bup_zero]; exact hb1
  clear hb1 hN
  go_loopw [4] (fun iv wr => ∃ i : Nat, i ≤ 8 ∧ iv = .int .i64 i ∧ Blk wr N (bv (bup x.toNat i)) ∧ Fr [] w wr) (fun iv _ => 8 - (intOf iv).toNat)
  case atStart => exact ⟨0, by omega, rfl, q1, f1⟩
  case round =>
    obtain ⟨i, hi, rfl, b1, f⟩ := hrel
    clear q1 f1
    by_cases hli : i < 8
    · have hd : decide ((i : Int) < 8) = true := by simp; omega
      have hm : 8 * (i : Int) ≤ 56 := by omega
      obtain ⟨X, hX⟩ : ∃ X, (shr64 x (56 - 8 * i)).toUInt8 = X := ⟨_, rfl⟩
      have Hset := hid (show (bup x.toNat i).set i X = bup x.toNat (i + 1) by
        rw [← hX, shr64_u8]
        exact bup_set _ _ hli)
      have HX := hid hX
      have Hbl := hid (show i < (bv (bup x.toNat i)).length by rw [bv_length, bup_len _ _ hi]; exact hli)
      clear hX
      go_wp2_with (refine wpList_put rfl _ _ _ rfl rfl (bt X) (by rw [← HX.out]; rfl) rfl b1 Hbl.out (by kernel_rfl) ?_; intro w2 f2 b2 hs2; simp only [World.size_alloc, World.size_drew, Act.put, List.setIfInBounds_toArray, List.set_cons_succ, List.set_cons_zero])
      rw [← bv_set, Hset.out] at b2
      go_roundw
      case rel => exact ⟨i + 1, by omega, by go_num, b2, f.trans f2 (by simp; have := HN.out; omega)⟩
      case measure => simp [intOf]; omega
    · have hd : decide ((i : Int) < 8) = false := by simp; omega
      have ei : i = 8 := by omega
      rw [ei, bup_full] at b1
      clear ei hi hli
      go_wp2_with (refine wpList_string_of_bytes rfl 67 9 5 _ rfl 8 8 rfl b1 (be8 x.toNat) Hml.out (by rw [List.drop_zero, ← bv_length, List.take_length]) Tryz.underlying67 Tryz.underlying5 Tryz.underlying9 ?_; simp only [World.size_alloc, World.size_drew, Act.put, List.setIfInBounds_toArray, List.set_cons_succ, List.set_cons_zero])
      go_ret
      exact ⟨rfl, f⟩

set_option maxRecDepth 20000 in
theorem rturned_any {w : World} (c m nn s : ByteArray) (hc : c.size = 16) (hn : nn.size = 8) (hs : s.size ≤ 1073741824) :
    Calls Tryz.prog 71 #[.agg #[.string c, .string m], .string nn, .string s] w fun e w' => e = .returned (.string ⟨(trnL c.data.toList nn.data.toList s.data.toList).toArray⟩) ∧ Fr [] w w' := by
  have he : nn ++ (⟨#[0, 0, 0, 0, 0, 0, 0, 0]⟩ : ByteArray) = ⟨(wide nn.data.toList).toArray⟩ := by
    apply ByteArray.ext
    apply Array.ext'
    simp [wide]
  have H := hid fun w0 : World => aes.rturn_any (w := w0) c (nn ++ (⟨#[0, 0, 0, 0, 0, 0, 0, 0]⟩ : ByteArray)) s hc (by rw [he]; exact wide_size nn hn) hs
  rw [he] at H
  have He := hid he
  have hn2 : nn.size ≤ 8 := by omega
  unfold trnL
  clear he hn hc
  go_enter Tryz.func71, Tryz.ntmps71
  go_wp2_with (refine wpList_box rfl _ _ rfl [.string c, .string m] rfl ?_; intro w1 f1 hlt1 hb1; have k0 := hb1.cell 0; simp only [World.size_alloc, World.size_drew, Act.put, List.setIfInBounds_toArray, List.set_cons_succ, List.set_cons_zero])
  rw [He.out]
  refine (H.out _).mono ?_
  rintro e w2 ⟨rfl, f2⟩
  go_wp2_with fail
  go_ret
  exact ⟨rfl, f1.trans' f2⟩

set_option maxRecDepth 20000 in
theorem turned_any {w : World} {b cap : Nat} {cs : List Value} (c m nn s : ByteArray) (hc : c.size = 16) (hn : nn.size = 8) (hs : s.size ≤ 140737488355328) (hb : Blk w b cs) (hcs : cs.take 8 = bv nn.data.toList) (hcap : 8 ≤ cap) (hcm : cap ≤ 9223372036854775807) :
    Calls Tryz.prog 66 #[.agg #[.string c, .string m], .slice (some ⟨b, 0, none⟩) 8 cap, .string s] w fun e w' => e = .returned (.string ⟨(trnL c.data.toList nn.data.toList s.data.toList).toArray⟩) ∧ Fr [] w w' := by
  obtain ⟨i5, hi5, hz5, hs5, hb5⟩ := inf5
  have Hi := hid hi5
  have Hz := hid hz5
  have Hs := hid hs5
  have Hb := hid hb5
  have hcl : c.data.toList.length = 16 := by rw [Array.length_toList]; exact hc
  have HT := hid (ciT_len _ hcl)
  have Hn := hid (show (⟨(wide nn.data.toList).toArray⟩ : ByteArray).size = 16 from wide_size nn hn)
  have Hl := hid (show nn.data.toList.length = 8 by rw [Array.length_toList]; exact hn)
  have Hc := hid hc
  have Hcs := hid hcs
  have Hwd := hid (show bv nn.data.toList ++ List.replicate 8 (bt 0) = bv (wide nn.data.toList) by unfold wide; rw [bv_append, bv_replicate])
  unfold trnL
  clear hi5 hz5 hs5 hb5 hcl hn hc hcs
  go_enter Tryz.func66, Tryz.ntmps66
  go_wp2_with (refine wpList_box rfl _ _ rfl [.string c, .string m] rfl ?_; intro w1 f1 hlt1 hb1; have k0 := hb1.cell 0; simp only [World.size_alloc, World.size_drew, Act.put, List.setIfInBounds_toArray, List.set_cons_succ, List.set_cons_zero])
  refine (aes.new_any c Hc.out).mono ?_
  rintro e w2 ⟨p, rfl, hp, hge, f2⟩
  have g2 := f1.trans' f2
  have hb2 := g2.blk hb (by simp)
  have Hcell := hid (hb2.cells (off := 0) (vs := bv nn.data.toList) (by rw [List.drop_zero, bv_length, Hl.out]; exact Hcs.out))
  clear hb hb1 k0
  go_wp2_with (first
    | (refine wpList_append_zeros rfl _ _ _ _ rfl 5 _ _ _ Tryz.underlying67 Tryz.underlying3 Hi.out Hz.out Hs.out rfl (bv nn.data.toList) rfl (by rw [bv_length, Hl.out]) Hcell.out 8 .i64 rfl (by decide) (by decide) (by decide) (by rw [Hb.out]; decide) (by rw [Hb.out]; decide) ?_; intro v3 w3 ho3 f3 hlt3; rw [Hwd.out] at ho3; simp only [World.size_alloc, World.size_drew, Act.put, List.setIfInBounds_toArray, List.set_cons_succ, List.set_cons_zero])
    | (refine wpList_string_of_own rfl 67 9 5 _ rfl rfl ho3 Tryz.underlying67 Tryz.underlying5 Tryz.underlying9 ?_; simp only [World.size_alloc, World.size_drew, Act.put, List.setIfInBounds_toArray, List.set_cons_succ, List.set_cons_zero]))
  refine (aes.turn_any _ s HT.out Hn.out hs (f3.blk hp (by simp))).mono ?_
  rintro e w4 ⟨rfl, f4⟩
  go_wp2_with fail
  go_ret
  exact ⟨rfl, (g2.trans' f3).trans' f4⟩

/-- Which keys may be. -/
def mayS (c m : ByteArray) : Bool := decide (c.size = 16) && decide (m.size = 32)
def mayE (c m : ByteArray) : Int := if mayS c m then 0 else 2
set_option maxRecDepth 20000 in
theorem may_any {w : World} (c m : ByteArray) (hc : c.size ≤ 9223372036854775807) (hm : m.size ≤ 9223372036854775807) : Calls Tryz.prog 42 #[.agg #[.string c, .string m]] w fun e w' => e = .returned (.int .i64 (mayE c m)) ∧ Fr [] w w' := by
  by_cases h1 : c.size = 16
  · by_cases h2 : m.size = 32
    · have e1 : ((c.size : Int) != 16) = false := by rw [h1]; rfl
      have e2 : ((m.size : Int) != 32) = false := by rw [h2]; rfl
      have HE := hid (show mayE c m = 0 by simp [mayE, mayS, h1, h2])
      clear h1 h2
      go_enter Tryz.func42, Tryz.ntmps42
      go_wp2_with (refine wpList_box rfl _ _ rfl [.string c, .string m] rfl ?_; intro w1 f1 hlt1 hb1; have k0 := hb1.cell 0; have k1 := hb1.cell 1; simp only [World.size_alloc, World.size_drew, Act.put, List.setIfInBounds_toArray, List.set_cons_succ, List.set_cons_zero])
      go_ret
      rw [HE.out]
      exact ⟨rfl, f1⟩
    · have e1 : ((c.size : Int) != 16) = false := by rw [h1]; rfl
      have e2 : ((m.size : Int) != 32) = true := by simp; omega
      have HE := hid (show mayE c m = 2 by simp [mayE, mayS, h1, h2])
      clear h1 h2
      go_enter Tryz.func42, Tryz.ntmps42
      go_wp2_with (refine wpList_box rfl _ _ rfl [.string c, .string m] rfl ?_; intro w1 f1 hlt1 hb1; have k0 := hb1.cell 0; have k1 := hb1.cell 1; simp only [World.size_alloc, World.size_drew, Act.put, List.setIfInBounds_toArray, List.set_cons_succ, List.set_cons_zero])
      go_ret
      rw [HE.out]
      exact ⟨rfl, f1⟩
  · have e1 : ((c.size : Int) != 16) = true := by simp; omega
    have HE := hid (show mayE c m = 2 by simp [mayE, mayS, h1])
    clear h1
    go_enter Tryz.func42, Tryz.ntmps42
    go_wp2_with (refine wpList_box rfl _ _ rfl [.string c, .string m] rfl ?_; intro w1 f1 hlt1 hb1; have k0 := hb1.cell 0; have k1 := hb1.cell 1; simp only [World.size_alloc, World.size_drew, Act.put, List.setIfInBounds_toArray, List.set_cons_succ, List.set_cons_zero])
    go_ret
    rw [HE.out]
    exact ⟨rfl, f1⟩

set_option maxRecDepth 20000 in
theorem rmay_any {w : World} (c m : ByteArray) (hc : c.size ≤ 9223372036854775807) (hm : m.size ≤ 9223372036854775807) : Calls Tryz.prog 69 #[.agg #[.string c, .string m]] w fun e w' => e = .returned (.bool (mayS c m)) ∧ Fr [] w w' := by
  by_cases h1 : c.size = 16
  · have e1 : ((c.size : Int) == 16) = true := by rw [h1]; rfl
    obtain ⟨B, hB⟩ : ∃ B, ((m.size : Int) == 32) = B := ⟨_, rfl⟩
    have HE := hid (show mayS c m = B by rw [← hB, Bool.eq_iff_iff]; simp [mayS, h1]; omega)
    rw [HE.out]
    clear h1
    go_enter Tryz.func69, Tryz.ntmps69
    go_wp2_with (refine wpList_box rfl _ _ rfl [.string c, .string m] rfl ?_; intro w1 f1 hlt1 hb1; have k0 := hb1.cell 0; have k1 := hb1.cell 1; simp only [World.size_alloc, World.size_drew, Act.put, List.setIfInBounds_toArray, List.set_cons_succ, List.set_cons_zero])
    go_ret
    exact ⟨rfl, f1⟩
  · have e1 : ((c.size : Int) == 16) = false := by rw [beq_eq_false_iff_ne]; omega
    have HE := hid (show mayS c m = false by simp [mayS, h1])
    clear h1
    go_enter Tryz.func69, Tryz.ntmps69
    go_wp2_with (refine wpList_box rfl _ _ rfl [.string c, .string m] rfl ?_; intro w1 f1 hlt1 hb1; have k0 := hb1.cell 0; have k1 := hb1.cell 1; simp only [World.size_alloc, World.size_drew, Act.put, List.setIfInBounds_toArray, List.set_cons_succ, List.set_cons_zero])
    go_ret
    rw [HE.out]
    exact ⟨rfl, f1⟩

theorem read_bad {w : World} (s : ByteArray) (h : s.size < 40) : Calls Tryz.prog 75 #[.string s] w fun e w' => e = .returned (.tuple #[.int .u64 0, .string ⟨#[]⟩, .int .i64 7]) ∧ w = w' := by
  have hd : decide ((s.size : Int) < 40) = true := by simp; omega
  clear h
  go_enter Tryz.func75, Tryz.ntmps75
  go_wp2_with fail
  go_ret3
  exact ⟨rfl, rfl⟩
theorem rread_bad {w : World} (s : ByteArray) (h : s.size < 40) : Calls Tryz.prog 78 #[.string s] w fun e w' => e = .returned (.tuple #[.int .u64 0, .string ⟨#[]⟩, .int .i64 7]) ∧ w = w' := by
  have hd : decide ((s.size : Int) < 40) = true := by simp; omega
  clear h
  go_enter Tryz.func78, Tryz.ntmps78
  go_wp2_with fail
  go_ret3
  exact ⟨rfl, rfl⟩
set_option maxRecDepth 20000 in
theorem read_any {w : World} (s : ByteArray) (h : 40 ≤ s.size) (hm : s.size ≤ 9223372036854775807) : Calls Tryz.prog 75 #[.string s] w fun e w' => e = .returned (.tuple #[W64 (rdN s.data.toList 8), .string (s.extract (s.size - 32) s.size), .int .i64 0]) ∧ Fr [] w w' := by
  have hd : decide ((s.size : Int) < 40) = false := by simp; omega
  obtain ⟨L, hL⟩ : ∃ L, s.data.toList = L := ⟨_, rfl⟩
  have HL := hid hL
  have h8 : 8 ≤ s.size := by omega
  rw [hL]
  clear hL
  go_enter Tryz.func75, Tryz.ntmps75
  go_wp2_with fail
  go_loopw [9, 2] (fun iv xv wr => ∃ i : Nat, i ≤ 8 ∧ iv = .int .i64 i ∧ xv = W64 (rdN L i) ∧ w = wr) (fun iv xv _ => 8 - (intOf iv).toNat)
  case atStart => exact ⟨0, by omega, rfl, rfl, rfl⟩
  case round =>
    obtain ⟨i, hi, rfl, rfl, rfl⟩ := hrel
    by_cases hli : i < 8
    · have hd2 : decide ((i : Int) < 8) = true := by simp; omega
      have hix : ∀ w0 : World, (Instr.index 9 (.string s) (.int .i64 i)).run Tryz.prog w0 = .ok (bt (g8 L i)) w0 := fun w0 => by
        have := index_str (P := Tryz.prog) w0 9 s .i64 i i Tryz.underlying9 rfl (by omega) 0
        rw [HL.out] at this
        exact this
      go_wp2_with fail
      go_roundw
      case rel => exact ⟨i + 1, by omega, by go_num, by first | rfl | trivial, by first | rfl | trivial⟩
      case measure => simp [intOf]; omega
    · have ei : i = 8 := by omega
      subst ei
      clear hi hli
      obtain ⟨X, hX⟩ : ∃ X, rdN L 8 = X := ⟨_, rfl⟩
      have HX := hid hX
      rw [hX]
      clear hX
      go_wp2_with fail
      refine wp_region_D (fun _ => True) false [] (by kernel_rfl) ?_
      refine WD.pure [0, 1, 2, 3, 4, 5, 6, 7, 8] (by kernel_rfl) trivial ?_
      simp only [pick, List.toList_toArray, List.map_cons, List.map_nil, List.getD_cons_succ, List.getD_cons_zero]
      repeat (first | go_big_quiet_step (fail))
      refine wpQuiet_nil ?_
      refine WD.done (by kernel_rfl) ?_
      go_wp2_with fail
      go_ret3
      rw [HX.out]
      exact ⟨rfl, (Fr.refl _ _).drew⟩
set_option maxRecDepth 20000 in
theorem rread_any {w : World} (s : ByteArray) (h : 40 ≤ s.size) (hm : s.size ≤ 9223372036854775807) : Calls Tryz.prog 78 #[.string s] w fun e w' => e = .returned (.tuple #[W64 (rdN s.data.toList 8), .string (s.extract (s.size - 32) s.size), .int .i64 0]) ∧ Fr [] w w' := by
  have hd : decide ((s.size : Int) < 40) = false := by simp; omega
  obtain ⟨L, hL⟩ : ∃ L, s.data.toList = L := ⟨_, rfl⟩
  have HL := hid hL
  have h8 : 8 ≤ s.size := by omega
  rw [hL]
  clear hL
  go_enter Tryz.func78, Tryz.ntmps78
  go_wp2_with fail
  go_loopw [6, 7] (fun xv iv wr => ∃ i : Nat, i ≤ 8 ∧ iv = .int .i64 i ∧ xv = W64 (rdN L i) ∧ w = wr) (fun xv iv _ => 8 - (intOf iv).toNat)
  case atStart => exact ⟨0, by omega, rfl, rfl, rfl⟩
  case round =>
    obtain ⟨i, hi, rfl, rfl, rfl⟩ := hrel
    by_cases hli : i < 8
    · have hd2 : decide ((i : Int) < 8) = true := by simp; omega
      have hix : ∀ w0 : World, (Instr.index 9 (.string s) (.int .i64 i)).run Tryz.prog w0 = .ok (bt (g8 L i)) w0 := fun w0 => by
        have := index_str (P := Tryz.prog) w0 9 s .i64 i i Tryz.underlying9 rfl (by omega) 0
        rw [HL.out] at this
        exact this
      go_wp2_with fail
      go_roundw
      case rel => exact ⟨i + 1, by omega, by go_num, by first | rfl | trivial, by first | rfl | trivial⟩
      case measure => simp [intOf]; omega
    · have ei : i = 8 := by omega
      subst ei
      clear hi hli
      obtain ⟨X, hX⟩ : ∃ X, rdN L 8 = X := ⟨_, rfl⟩
      have HX := hid hX
      rw [hX]
      clear hX
      go_wp2_with fail
      refine wp_region_D (fun _ => True) false [] (by kernel_rfl) ?_
      refine WD.pure [0, 1, 2, 3, 4, 5, 6, 7] (by kernel_rfl) trivial ?_
      simp only [pick, List.toList_toArray, List.map_cons, List.map_nil, List.getD_cons_succ, List.getD_cons_zero]
      repeat (first | go_big_quiet_step (fail))
      refine wpQuiet_nil ?_
      refine WD.done (by kernel_rfl) ?_
      go_wp2_with fail
      go_ret3
      rw [HX.out]
      exact ⟨rfl, (Fr.refl _ _).drew⟩
end Go.Proofs.YtneoagelcjfanaaGreatDoor

/- Layer 4, seal: the keys, a text sealed. -/
namespace Go.Xr
open Go
set_option linter.unusedVariables false
/-- The return of two results, the first of which lies in a block. -/
theorem bodyPost_cell_tmp {P : Program} {fn : Func} {R : Ending → World → Prop} {a : Act} {w : World} {p u : Tmp} {ty : TypeId} (h : fn.results = #[.cell p ty, .tmp u]) {b : Nat} {cs : List Value} (hp : a.tmps.getD p undef = .pointer (some ⟨b, 0, none⟩)) (hb : Blk w b cs)
    (d : TypeDesc) (hu : P.underlying ty = some d) (hd : aggDesc d = true) (hi : (P.info? ty).map (·.size) = some cs.length) (hdf : a.defers = []) (hR : R (.returned (.tuple #[.agg cs.toArray, a.tmps.getD u undef])) w) : bodyPost P fn R .ret a w := by
  refine bodyPost_ret (v := .tuple #[.agg cs.toArray, a.tmps.getD u undef]) ?_ hdf hR
  have hl := run_loadVar_agg (P := P) w ty d hu hd hb (off := 0) (vs := cs) (by rw [List.drop_zero, List.take_length]) hi
  rw [results_cell_tmp h, hp]
  simp only [asAddr, Sem.run_pure, Result.andThen_ok, hl]
def cipherN : ByteArray := ⟨#[99, 105, 112, 104, 101, 114]⟩
def macN : ByteArray := ⟨#[109, 97, 99]⟩
end Go.Xr
namespace Go.Proofs.YtneoagelcjfanaaGreatDoor
open Go Go.Xr Go.RowKit Go.Proofs.YtneoagelcjfanaaGreatDoor.aes
set_option linter.unusedVariables false
set_option linter.unusedSimpArgs false
/-- The keys of a label by a master key. -/
def keyC (master label : ByteArray) : ByteArray := derS (treeS master [label]) cipherN 16
def keyM (master label : ByteArray) : ByteArray := derS (treeS master [label]) macN 32
/-- What stands ahead of a sealed text's tag. -/
def outS (c nn s : ByteArray) : ByteArray := ⟨(nn.data.toList ++ trnL c.data.toList nn.data.toList s.data.toList).toArray⟩
def tagS (m label head : ByteArray) : ByteArray := macS m (allS [label, head])
/-- A text sealed. -/
def sealT (c m nn label s : ByteArray) : ByteArray := outS c nn s ++ tagS m label (outS c nn s)
theorem outS_size (c nn s : ByteArray) : (outS c nn s).size = nn.size + s.size := by
  rw [outS, size_mk', List.length_append, trnL_len, bytes_len, bytes_len]
theorem outS_eq (c nn s : ByteArray) : nn ++ (⟨(trnL c.data.toList nn.data.toList s.data.toList).toArray⟩ : ByteArray) = outS c nn s := by
  apply ByteArray.ext
  apply Array.ext'
  simp [outS]
theorem allL_two (a b : ByteArray) : (allL [a, b]).length = 16 + a.size + b.size := by
  simp [allL, longL_len]
  omega

set_option maxRecDepth 20000 in
theorem keyT : (Tryz.prog.info? 45).map (·.size) = some 2 := rfl

set_option maxRecDepth 20000 in
theorem keys_bad {w : World} (master label : ByteArray) (h : master.size ≠ 32) (hm : master.size ≤ 9223372036854775807) :
    Calls Tryz.prog 22 #[.string master, .string label] w fun e w' => e = .returned (.tuple #[.agg #[.string ⟨#[]⟩, .string ⟨#[]⟩], .int .i64 2]) ∧ Fr [] w w' := by
  have hne : ((master.size : Int) != 32) = true := by simp; omega
  clear h
  go_enter Tryz.func22, Tryz.ntmps22
  go_wp2_with fail
  refine bodyPost_cell_tmp rfl rfl (Blk.alloc w [.string ⟨#[]⟩, .string ⟨#[]⟩] _) _ Tryz.underlying45 rfl keyT rfl ?_
  exact ⟨rfl, (Fr.refl _ _).alloc _⟩
set_option maxRecDepth 20000 in
set_option maxHeartbeats 1000000 in
theorem keys_any {w : World} (master label : ByteArray) (h : master.size = 32) (hl : label.size < 1099511626000) :
    Calls Tryz.prog 22 #[.string master, .string label] w fun e w' => e = .returned (.tuple #[.agg #[.string (keyC master label), .string (keyM master label)], .int .i64 0]) ∧ Fr [] w w' := by
  have hne : ((master.size : Int) != 32) = false := by rw [h]; rfl
  obtain ⟨i9, hi9, hz9, hs9⟩ := inf9
  have Hi := hid hi9
  have Hz := hid hz9
  have Hs9 := hid hs9
  have hm : master.size < 1099511627776 := by omega
  have H1 := hid fun (w0 : World) (v : Value) (b : Nat) (hv : Rc w0 1 v 1 ([label].map .string) (some b)) => mtree_any (l := [label]) master hm hv (by simp) (by intro s hs; simp only [List.mem_singleton] at hs; subst hs; omega)
  have hT2 : (treeS master [label]).size < 1099511627776 := treeS_size _ _ hm
  have H2 := hid fun w0 : World => mder_any (w := w0) (treeS master [label]) cipherN hT2 (by decide) 16 (by decide)
  have H3 := hid fun w0 : World => mder_any (w := w0) (treeS master [label]) macN hT2 (by decide) 32 (by decide)
  obtain ⟨KC, hKC⟩ : ∃ KC, keyC master label = KC := ⟨_, rfl⟩
  obtain ⟨KM, hKM⟩ : ∃ KM, keyM master label = KM := ⟨_, rfl⟩
  rw [hKC, hKM]
  unfold keyC at hKC
  unfold keyM at hKM
  rw [hKC] at H2
  rw [hKM] at H3
  obtain ⟨T, hT⟩ : ∃ T, treeS master [label] = T := ⟨_, rfl⟩
  rw [hT] at H1 H2 H3
  clear h hi9 hz9 hs9 hT hKC hKM hl hm hT2
  go_enter Tryz.func22, Tryz.ntmps22
  go_wp2_with (refine wpList_buildSlice_any rfl _ 1 _ rfl 9 Tryz.underlying23 _ _ Hi.out Hz.out rfl Hs9.out (by decide) (by decide) rfl [.string label] rfl (by simp [Value.oneCell']) ?_; intro w2 f2 hlt2 hb2; rw [World.size_alloc] at hb2; simp only [World.size_alloc, World.size_drew, Act.put, List.setIfInBounds_toArray, List.set_cons_succ, List.set_cons_zero])
  refine (H1.out _ _ _ (rc_of_blk hb2 rfl (show 1 ≤ maxLen by unfold maxLen; omega))).mono ?_
  rintro e w3 ⟨rfl, f3⟩
  go_wp2_with fail
  refine (H2.out _).mono ?_
  rintro e w4 ⟨rfl, f4⟩
  go_wp2_with fail
  refine (H3.out _).mono ?_
  rintro e w5 ⟨rfl, f5⟩
  have b5 : Blk w5 w.heap.size [.string ⟨#[]⟩, .string ⟨#[]⟩] := f5.blk (f4.blk (f3.blk (f2.blk (Blk.alloc w [.string ⟨#[]⟩, .string ⟨#[]⟩] _) (by simp)) (by simp)) (by simp)) (by simp)
  have g5 : Fr [] w w5 := (((((Fr.refl [] w).alloc _).trans' f2).trans' f3).trans' f4).trans' f5
  go_wp2_with (refine wpList_store_agg rfl _ _ _ rfl rfl [.string KC, .string KM] rfl b5 keyT (Nat.le_refl _) (by simp [Value.oneCell']) ?_; intro w6 f6 b6 hs6; simp only [World.size_alloc, World.size_drew, Act.put, List.setIfInBounds_toArray, List.set_cons_succ, List.set_cons_zero])
  refine bodyPost_cell_tmp rfl rfl b6 _ Tryz.underlying45 rfl keyT rfl ?_
  exact ⟨rfl, g5.trans f6 (by simp)⟩
set_option maxRecDepth 20000 in
theorem rkeys_bad {w : World} (master label : ByteArray) (h : master.size ≠ 32) (hm : master.size ≤ 9223372036854775807) :
    Calls Tryz.prog 26 #[.string master, .string label] w fun e w' => e = .returned (.tuple #[.agg #[.string ⟨#[]⟩, .string ⟨#[]⟩], .int .i64 2]) ∧ Fr [] w w' := by
  have hne : ((master.size : Int) != 32) = true := by simp; omega
  clear h
  go_enter Tryz.func26, Tryz.ntmps26
  go_wp2_with fail
  refine bodyPost_cell_tmp rfl rfl (Blk.alloc w [.string ⟨#[]⟩, .string ⟨#[]⟩] _) _ Tryz.underlying45 rfl keyT rfl ?_
  exact ⟨rfl, (Fr.refl _ _).alloc _⟩
set_option maxRecDepth 20000 in
set_option maxHeartbeats 1000000 in
theorem rkeys_any {w : World} (master label : ByteArray) (h : master.size = 32) (hl : label.size < 1099511626000) :
    Calls Tryz.prog 26 #[.string master, .string label] w fun e w' => e = .returned (.tuple #[.agg #[.string (keyC master label), .string (keyM master label)], .int .i64 0]) ∧ Fr [] w w' := by
  have hne : ((master.size : Int) != 32) = false := by rw [h]; rfl
  obtain ⟨i9, hi9, hz9, hs9⟩ := inf9
  have Hi := hid hi9
  have Hz := hid hz9
  have Hs9 := hid hs9
  have hm : master.size < 1099511627776 := by omega
  have H1 := hid fun (w0 : World) (v : Value) (b : Nat) (hv : Rc w0 1 v 1 ([label].map .string) (some b)) => rtree_any (l := [label]) master hm hv (by simp) (by intro s hs; simp only [List.mem_singleton] at hs; subst hs; omega)
  have hT2 : (treeS master [label]).size < 1099511627776 := treeS_size _ _ hm
  have H2 := hid fun w0 : World => rder_any (w := w0) (treeS master [label]) cipherN hT2 (by decide) 16 (by decide)
  have H3 := hid fun w0 : World => rder_any (w := w0) (treeS master [label]) macN hT2 (by decide) 32 (by decide)
  obtain ⟨KC, hKC⟩ : ∃ KC, keyC master label = KC := ⟨_, rfl⟩
  obtain ⟨KM, hKM⟩ : ∃ KM, keyM master label = KM := ⟨_, rfl⟩
  rw [hKC, hKM]
  unfold keyC at hKC
  unfold keyM at hKM
  rw [hKC] at H2
  rw [hKM] at H3
  obtain ⟨T, hT⟩ : ∃ T, treeS master [label] = T := ⟨_, rfl⟩
  rw [hT] at H1 H2 H3
  clear h hi9 hz9 hs9 hT hKC hKM hl hm hT2
  go_enter Tryz.func26, Tryz.ntmps26
  go_wp2_with (refine wpList_buildSlice_any rfl _ 1 _ rfl 9 Tryz.underlying23 _ _ Hi.out Hz.out rfl Hs9.out (by decide) (by decide) rfl [.string label] rfl (by simp [Value.oneCell']) ?_; intro w2 f2 hlt2 hb2; rw [World.size_alloc] at hb2; simp only [World.size_alloc, World.size_drew, Act.put, List.setIfInBounds_toArray, List.set_cons_succ, List.set_cons_zero])
  refine (H1.out _ _ _ (rc_of_blk hb2 rfl (show 1 ≤ maxLen by unfold maxLen; omega))).mono ?_
  rintro e w3 ⟨rfl, f3⟩
  go_wp2_with fail
  refine (H2.out _).mono ?_
  rintro e w4 ⟨rfl, f4⟩
  go_wp2_with fail
  refine (H3.out _).mono ?_
  rintro e w5 ⟨rfl, f5⟩
  have b5 : Blk w5 w.heap.size [.string ⟨#[]⟩, .string ⟨#[]⟩] := f5.blk (f4.blk (f3.blk (f2.blk (Blk.alloc w [.string ⟨#[]⟩, .string ⟨#[]⟩] _) (by simp)) (by simp)) (by simp)) (by simp)
  have g5 : Fr [] w w5 := (((((Fr.refl [] w).alloc _).trans' f2).trans' f3).trans' f4).trans' f5
  go_wp2_with (refine wpList_store_agg rfl _ _ _ rfl rfl [.string KC, .string KM] rfl b5 keyT (Nat.le_refl _) (by simp [Value.oneCell']) ?_; intro w6 f6 b6 hs6; simp only [World.size_alloc, World.size_drew, Act.put, List.setIfInBounds_toArray, List.set_cons_succ, List.set_cons_zero])
  refine bodyPost_cell_tmp rfl rfl b6 _ Tryz.underlying45 rfl keyT rfl ?_
  exact ⟨rfl, g5.trans f6 (by simp)⟩

/-- A nonce's eight bytes. -/
def n8 (x : UInt64) : ByteArray := ⟨(be8 x.toNat).toArray⟩
theorem n8_size (x : UInt64) : (n8 x).size = 8 := by rw [n8, size_mk', be8_len]
attribute [local go_sem] shr_u64 shl_u64 or_u64 cv64_8 cv8_64

theorem mayE_good (c m : ByteArray) (hc : c.size = 16) (hm : m.size = 32) : mayE c m = 0 := by simp [mayE, mayS, hc, hm]

set_option maxRecDepth 20000 in
theorem rseal_good {w : World} (c m label s : ByteArray) (x : UInt64) (hc : c.size = 16) (hm : m.size = 32) (hs : s.size ≤ 1048576) (hl : label.size < 1099500000000) :
    Calls Tryz.prog 52 #[.agg #[.string c, .string m], W64 x, .string label, .string s] w fun e w' => e = .returned (.tuple #[.string (sealT c m (n8 x) label s), .int .i64 0]) ∧ Fr [] w w' := by
  have HE := hid (show mayS c m = true by simp [mayS, hc, hm])
  have hc1 : c.size ≤ 9223372036854775807 := by omega
  have hm1 : m.size ≤ 9223372036854775807 := by omega
  have hd : decide (1048576 < (s.size : Int)) = false := by simp; omega
  obtain ⟨i9, hi9, hz9, hs9⟩ := inf9
  have Hi := hid hi9
  have Hz := hid hz9
  have Hs9 := hid hs9
  obtain ⟨N8, hN8⟩ : ∃ N8, n8 x = N8 := ⟨_, rfl⟩
  have HN8 := hid (show (⟨(be8 x.toNat).toArray⟩ : ByteArray) = N8 from hN8)
  have hn8 : N8.size = 8 := by rw [← hN8, n8_size]
  have Ht := hid fun w0 : World => rturned_any (w := w0) c m N8 s hc hn8 (by omega)
  obtain ⟨Y, hY⟩ : ∃ Y : ByteArray, ⟨(trnL c.data.toList N8.data.toList s.data.toList).toArray⟩ = Y := ⟨_, rfl⟩
  have hYs : Y.size ≤ 1048576 := by rw [← hY, size_mk', trnL_len, bytes_len]; exact hs
  have hO : N8 ++ Y = outS c N8 s := by rw [← hY]; exact outS_eq c N8 s
  rw [hY] at Ht
  obtain ⟨O, hOO⟩ : ∃ O, outS c N8 s = O := ⟨_, rfl⟩
  have hOs : O.size ≤ 1048584 := by rw [← hOO, outS_size]; omega
  have Ha := hid fun (w0 : World) (v : Value) (b : Nat) (hv : Rc w0 1 v 2 ([label, O].map .string) (some b)) => rall_any (l := [label, O]) m (by omega) hv (by rw [allL_two]; omega)
  have hR : O ++ macS m (allS [label, O]) = sealT c m N8 label s := by unfold sealT tagS; rw [hOO]
  obtain ⟨Z, hZ⟩ : ∃ Z, macS m (allS [label, O]) = Z := ⟨_, rfl⟩
  have hZs : Z.size ≤ 32 := by rw [← hZ, macS_size]; exact Nat.le_refl _
  rw [hZ] at Ha hR
  have HO := hid (hO.trans hOO)
  have HR := hid hR
  have hn8' : N8.size ≤ 8 := by omega
  have Hc := hid hc
  rw [hN8]
  clear hc hm hs hi9 hz9 hs9 hN8 hn8 hY hO hOO hZ hR hl
  go_enter Tryz.func52, Tryz.ntmps52
  go_wp2_with (refine wpList_box rfl _ _ rfl [.string c, .string m] rfl ?_; intro w1 f1 hlt1 hb1; have k0 := hb1.cell 0; have k1 := hb1.cell 1; simp only [World.size_alloc, World.size_drew, Act.put, List.setIfInBounds_toArray, List.set_cons_succ, List.set_cons_zero])
  refine (rmay_any c m hc1 hm1).mono ?_
  rintro e w2 ⟨rfl, f2⟩
  rw [HE.out]
  have k02 := f2.cell_some k0
  have k12 := f2.cell_some k1
  go_wp2_with fail
  refine (eight_any x).mono ?_
  rintro e w3 ⟨rfl, f3⟩
  rw [HN8.out]
  have k03 := f3.cell_some k02
  have k13 := f3.cell_some k12
  go_wp2_with fail
  refine (Ht.out _).mono ?_
  rintro e w4 ⟨rfl, f4⟩
  have k14 := f4.cell_some k13
  go_wp2_with (refine wpList_buildSlice_any rfl _ 2 _ rfl 9 Tryz.underlying23 _ _ Hi.out Hz.out rfl Hs9.out (by decide) (by decide) rfl [.string label, .string O] (by rw [← HO.out]; rfl) (by simp [Value.oneCell']) ?_; intro w5 f5 hlt5 hb5; simp only [World.size_alloc, World.size_drew, Act.put, List.setIfInBounds_toArray, List.set_cons_succ, List.set_cons_zero])
  refine (Ha.out _ _ _ (rc_of_blk hb5 rfl (show 2 ≤ maxLen by unfold maxLen; omega))).mono ?_
  rintro e w6 ⟨rfl, f6⟩
  rw [HO.out]
  go_wp2_with fail
  go_ret2
  rw [HR.out]
  exact ⟨rfl, ((((f1.trans' f2).trans' f3).trans' f4).trans' f5).trans' f6⟩
end Go.Proofs.YtneoagelcjfanaaGreatDoor

/- Layer 4, seal: Seal whole, the program's and the document's. -/
namespace Go.Proofs.YtneoagelcjfanaaGreatDoor
open Go Go.Xr Go.RowKit Go.Proofs.YtneoagelcjfanaaGreatDoor.aes
set_option linter.unusedVariables false
set_option linter.unusedSimpArgs false
attribute [local go_sem] shr_u64 shl_u64 or_u64 cv64_8 cv8_64

set_option maxRecDepth 20000 in
set_option maxHeartbeats 1000000 in
theorem seal_good {w : World} (c m label s : ByteArray) (x : UInt64) (hc : c.size = 16) (hm : m.size = 32) (hs : s.size ≤ 1048576) (hl : label.size < 1099500000000) :
    Calls Tryz.prog 47 #[.agg #[.string c, .string m], W64 x, .string label, .string s] w fun e w' => e = .returned (.tuple #[.string (sealT c m (n8 x) label s), .int .i64 0]) ∧ Fr [] w w' := by
  have HE := hid (mayE_good c m hc hm)
  have hc1 : c.size ≤ 9223372036854775807 := by omega
  have hm1 : m.size ≤ 9223372036854775807 := by omega
  have hd : decide (1048576 < (s.size : Int)) = false := by simp; omega
  obtain ⟨i9, hi9, hz9, hs9⟩ := inf9
  have Hi9 := hid hi9
  have Hz9 := hid hz9
  have Hs9 := hid hs9
  obtain ⟨i5, hi5, hz5, hs5, hb5⟩ := inf5
  have Hi := hid hi5
  have Hz := hid hz5
  have Hs := hid hs5
  have Hb := hid hb5
  obtain ⟨N8, hN8⟩ : ∃ N8, n8 x = N8 := ⟨_, rfl⟩
  have hn8 : N8.size = 8 := by rw [← hN8, n8_size]
  have HN8 := hid (show N8.data.toList = be8 x.toNat by rw [← hN8]; rfl)
  have Hbl := hid (be8_len x.toNat)
  have Ht := hid fun (w0 : World) (b cap : Nat) (cs : List Value) (hb : Blk w0 b cs) (hcs : cs.take 8 = bv N8.data.toList) (hcap : 8 ≤ cap) (hcm : cap ≤ 9223372036854775807) => turned_any (w := w0) c m N8 s hc hn8 (by omega) hb hcs hcap hcm
  obtain ⟨Y, hY⟩ : ∃ Y : ByteArray, ⟨(trnL c.data.toList N8.data.toList s.data.toList).toArray⟩ = Y := ⟨_, rfl⟩
  have hYs : Y.size = s.size := by rw [← hY, size_mk', trnL_len, bytes_len]
  have hYl : Y.data.toList = trnL c.data.toList N8.data.toList s.data.toList := by rw [← hY]
  rw [hY] at Ht
  obtain ⟨O, hO⟩ : ∃ O, outS c N8 s = O := ⟨_, rfl⟩
  have hOs : O.size = 8 + s.size := by rw [← hO, outS_size, hn8]
  have hOl : O.data.toList = N8.data.toList ++ Y.data.toList := by rw [← hO, hYl]; rfl
  have Ha := hid fun (w0 : World) (v : Value) (b : Nat) (hv : Rc w0 1 v 2 ([label, O].map .string) (some b)) => mall_any (l := [label, O]) m (by omega) hv (by rw [allL_two]; omega)
  have hR : O ++ macS m (allS [label, O]) = sealT c m N8 label s := by unfold sealT tagS; rw [hO]
  obtain ⟨Z, hZ⟩ : ∃ Z, macS m (allS [label, O]) = Z := ⟨_, rfl⟩
  have hZs : Z.size = 32 := by rw [← hZ, macS_size]
  rw [hZ] at Ha hR
  have HR := hid (show (⟨(O.data.toList ++ Z.data.toList).toArray⟩ : ByteArray) = sealT c m N8 label s by rw [← hR]; apply ByteArray.ext; apply Array.ext'; simp)
  obtain ⟨OL, hOL⟩ : ∃ OL, O.data.toList = OL := ⟨_, rfl⟩
  have hOm : O = ⟨OL.toArray⟩ := by rw [← hOL]
  have HOl := hid (show OL = N8.data.toList ++ Y.data.toList by rw [← hOL, hOl])
  have HYs := hid hYs
  have HZs := hid hZs
  have HsB := hid hs
  rw [hOL] at HR
  rw [hOm] at Ha
  rw [hN8]
  have hsz : s.size ≤ 1048576 := hs
  clear hc hm hs hi9 hz9 hs9 hi5 hz5 hs5 hb5 hN8 hn8 hY hO hOl hYs hYl hOs hZ hR hl hZs hOm hOL O
  go_enter Tryz.func47, Tryz.ntmps47
  go_wp2_with (refine wpList_box rfl _ _ rfl [.string c, .string m] rfl ?_; intro w1 f1 hlt1 hb1; have k0 := hb1.cell 0; have k1 := hb1.cell 1; simp only [World.size_alloc, World.size_drew, Act.put, List.setIfInBounds_toArray, List.set_cons_succ, List.set_cons_zero])
  refine (may_any c m hc1 hm1).mono ?_
  rintro e w2 ⟨rfl, f2⟩
  rw [HE.out]
  have k02 := f2.cell_some k0
  have k12 := f2.cell_some k1
  have g2 := f1.trans' f2
  clear k0 k1 hb1
  go_wp2_with (refine wpList_make_blk rfl _ _ _ rfl 8 (s.size + 40) .i64 .i64 rfl (by rfl) 5 _ _ 1 Tryz.underlying67 Hi.out Hz.out Hs.out Hb.out rfl (by omega) (by have := HsB.out; omega) (by have := HsB.out; omega) ?_; intro w3 f3 hlt3 hb3; simp only [World.size_alloc, World.size_drew, Act.put, List.setIfInBounds_toArray, List.set_cons_succ, List.set_cons_zero])
  have k03 := f3.cell_some k02
  have k13 := f3.cell_some k12
  have g3 := g2.trans' f3
  obtain ⟨R, hR⟩ : ∃ R, List.replicate (s.size + 32) (bt 0) = R := ⟨_, rfl⟩
  have hRl : R.length = s.size + 32 := by rw [← hR, List.length_replicate]
  obtain ⟨N, hN⟩ : ∃ N, w2.heap.size = N := ⟨_, rfl⟩
  have hwN : w.heap.size < N := by rw [← hN]; exact Nat.lt_of_lt_of_le hlt1 f2.size
  have hq3 : Blk w3 N (bv (bup x.toNat 0) ++ R) := by
    rw [bup_zero, bv_replicate, ← hR, List.replicate_append_replicate, show 8 + (s.size + 32) = s.size + 40 by omega, ← hN]
    exact hb3
  rw [hN] at hlt3 ⊢
  have HRl := hid hRl
  clear hR hb3 hN hRl k02 k12 g2 f1 f2 f3
  go_loopw [29] (fun iv wr => ∃ i : Nat, i ≤ 8 ∧ iv = .int .i64 i ∧ Blk wr N (bv (bup x.toNat i) ++ R) ∧ wr.cell? ⟨w.heap.size, 0, none⟩ = some (.string c) ∧ wr.cell? ⟨w.heap.size, 1, none⟩ = some (.string m) ∧ Fr [] w wr) (fun iv _ => 8 - (intOf iv).toNat)
  case atStart => exact ⟨0, by omega, rfl, hq3, k03, k13, g3⟩
  case round =>
    obtain ⟨i, hi, rfl, b1, k0, k1, f⟩ := hrel
    clear hq3 k03 k13 g3
    by_cases hli : i < 8
    · have hd2 : decide ((i : Int) < 8) = true := by simp; omega
      have hm : 8 * (i : Int) ≤ 56 := by omega
      obtain ⟨X, hX⟩ : ∃ X, (shr64 x (56 - 8 * i)).toUInt8 = X := ⟨_, rfl⟩
      have Hset := hid (show (bv (bup x.toNat i) ++ R).set i (bt X) = bv (bup x.toNat (i + 1)) ++ R by
        rw [List.set_append_left _ _ (by rw [bv_length, bup_len _ _ hi]; exact hli), ← bv_set, ← hX, shr64_u8, bup_set _ _ hli])
      have HX := hid hX
      have Hbl2 := hid (show i < (bv (bup x.toNat i) ++ R).length by rw [List.length_append, bv_length, bup_len _ _ hi]; omega)
      clear hX
      go_wp2_with (refine wpList_put rfl _ _ _ rfl rfl (bt X) (by rw [← HX.out]; rfl) rfl b1 Hbl2.out (by kernel_rfl) ?_; intro w2 f2 b2 hs2; simp only [World.size_alloc, World.size_drew, Act.put, List.setIfInBounds_toArray, List.set_cons_succ, List.set_cons_zero])
      rw [Hset.out] at b2
      go_roundw
      case rel => exact ⟨i + 1, by omega, by go_num, b2, (World.cell?_of_block (w := wr) (f2.block w.heap.size (by have := f.size; have := b1.lt; omega) (by simp; omega))).trans k0, (World.cell?_of_block (w := wr) (f2.block w.heap.size (by have := b1.lt; omega) (by simp; omega))).trans k1, f.trans f2 (by simp; omega)⟩
      case measure => simp [intOf]; omega
    · have hd2 : decide ((i : Int) < 8) = false := by simp; omega
      have ei : i = 8 := by omega
      rw [ei, bup_full] at b1
      clear hi hli
      have ho : Xr.Own wr 1 (.slice (some ⟨N, 0, none⟩) 8 (s.size + 40)) 8 (bv N8.data.toList) (some N) := by
        have := Xr.Own.blk (size := 1) (n := 8) (cap := s.size + 40) b1 (by omega) (by unfold maxLen; omega) (by rw [List.length_append, bv_length, be8_len, HRl.out]; omega)
        rw [List.take_append_of_le_length (by rw [bv_length, be8_len]; decide), List.take_of_length_le (by rw [bv_length, be8_len]; decide), ← HN8.out] at this
        exact this
      have Hcs := hid (show (bv (be8 x.toNat) ++ R).take 8 = bv N8.data.toList by
        rw [List.take_append_of_le_length (by rw [bv_length, be8_len]; decide), List.take_of_length_le (by rw [bv_length, be8_len]; decide), HN8.out])
      have Ho := hid ho
      clear ho ei
      go_wp2_with fail
      refine (Ht.out _ _ _ _ b1 Hcs.out (by omega) (by omega)).mono ?_
      rintro e w4 ⟨rfl, f4⟩
      have ho4 := Ho.out.keep f4 (by simp)
      have k14 := f4.cell_some k1
      have g4 := f.trans' f4
      clear b1 k0 k1 f f4
      go_wp2_with (first
        | (refine wpList_append_str rfl _ _ _ _ rfl 5 _ Tryz.underlying67 Tryz.underlying9 Hi.out Hz.out Hs.out Hb.out rfl ho4 Y rfl (by unfold maxLen; have := HYs.out; omega) (by have := HYs.out; omega) ?_; intro v5 w5 B5 ho5 f5 hB5; have k15 : w5.cell? ⟨w.heap.size, 1, none⟩ = some (.string m) := ((World.cell?_of_block (w := w4) (f5.block w.heap.size (by have := ho4.lt N rfl; omega) (by simp; omega))).trans k14); rw [← bv_append, ← HOl.out] at ho5; simp only [World.size_alloc, World.size_drew, Act.put, List.setIfInBounds_toArray, List.set_cons_succ, List.set_cons_zero])
        | (refine wpList_string_of_own rfl 67 9 5 _ rfl rfl ho5 Tryz.underlying67 Tryz.underlying5 Tryz.underlying9 ?_; simp only [World.size_alloc, World.size_drew, Act.put, List.setIfInBounds_toArray, List.set_cons_succ, List.set_cons_zero])
        | (refine wpList_buildSlice_any rfl _ 2 _ rfl 9 Tryz.underlying23 _ _ Hi9.out Hz9.out rfl Hs9.out (by decide) (by decide) rfl [.string label, .string ⟨OL.toArray⟩] rfl (by simp [Value.oneCell']) ?_; intro w6 f6 hlt6 hb6; simp only [World.size_alloc, World.size_drew, Act.put, List.setIfInBounds_toArray, List.set_cons_succ, List.set_cons_zero]))
      refine (Ha.out _ _ _ (rc_of_blk hb6 rfl (show 2 ≤ maxLen by unfold maxLen; omega))).mono ?_
      rintro e w7 ⟨rfl, f7⟩
      have f67 := f6.trans' f7
      have ho7 := ho5.keep f67 (by simp)
      have g7 : Fr [] w w7 := (g4.trans f5 (by simp; omega)).trans' f67
      have hBf : ∀ y ∈ B5.toList, w.heap.size ≤ y := by
        intro y hy
        rcases hB5 with h | ⟨b, h, hb⟩
        · rw [h] at hy; simp at hy; omega
        · rw [h] at hy; simp at hy; have := g4.size; omega
      clear f5 f6 f7 f67 ho5 hb6 hB5 hlt6 k15
      go_wp2_with (first
        | (refine wpList_append_str rfl _ _ _ _ rfl 5 _ Tryz.underlying67 Tryz.underlying9 Hi.out Hz.out Hs.out Hb.out rfl ho7 Z rfl (by unfold maxLen; have := HYs.out; have := HZs.out; omega) (by have := HYs.out; have := HZs.out; omega) ?_; intro v8 w8 B8 ho8 f8 hB8; rw [← bv_append] at ho8; simp only [World.size_alloc, World.size_drew, Act.put, List.setIfInBounds_toArray, List.set_cons_succ, List.set_cons_zero])
        | (refine wpList_string_of_own rfl 67 9 5 _ rfl rfl ho8 Tryz.underlying67 Tryz.underlying5 Tryz.underlying9 ?_; rw [HR.out]; simp only [World.size_alloc, World.size_drew, Act.put, List.setIfInBounds_toArray, List.set_cons_succ, List.set_cons_zero]))
      go_ret2
      exact ⟨rfl, g7.trans f8 (fun y hy => .inr (hBf y hy))⟩

/-- Seal: the text, the error. -/
def sealR (c m nn label s : ByteArray) : ByteArray := if mayS c m then (if s.size ≤ 1048576 then sealT c m nn label s else ⟨#[]⟩) else ⟨#[]⟩
def sealE (c m s : ByteArray) : Int := if mayS c m then (if s.size ≤ 1048576 then 0 else 4) else 2

set_option maxRecDepth 20000 in
theorem seal_any {w : World} (c m label s : ByteArray) (x : UInt64) (hc : c.size ≤ 9223372036854775807) (hm : m.size ≤ 9223372036854775807) (hs : s.size ≤ 9223372036854775807) (hl : label.size < 1099500000000) :
    Calls Tryz.prog 47 #[.agg #[.string c, .string m], W64 x, .string label, .string s] w fun e w' => e = .returned (.tuple #[.string (sealR c m (n8 x) label s), .int .i64 (sealE c m s)]) ∧ Fr [] w w' := by
  cases h : mayS c m
  · have hE1 := hid h
    have hE2 := hid (show mayE c m = 2 by simp [mayE, h])
    have HR := hid (show sealR c m (n8 x) label s = ⟨#[]⟩ by simp [sealR, h])
    have HR2 := hid (show sealE c m s = 2 by simp [sealE, h])
    rw [HR.out, HR2.out]
    clear h
    go_enter Tryz.func47, Tryz.ntmps47
    go_wp2_with (refine wpList_box rfl _ _ rfl [.string c, .string m] rfl ?_; intro w1 f1 hlt1 hb1; have k0 := hb1.cell 0; have k1 := hb1.cell 1; simp only [World.size_alloc, World.size_drew, Act.put, List.setIfInBounds_toArray, List.set_cons_succ, List.set_cons_zero])
    refine (may_any c m hc hm).mono ?_
    rintro e w2 ⟨rfl, f2⟩
    rw [(hE2).out]
    go_wp2_with fail
    go_ret2
    exact ⟨rfl, f1.trans' f2⟩
  · by_cases h2 : s.size ≤ 1048576
    · rw [show sealR c m (n8 x) label s = sealT c m (n8 x) label s by simp [sealR, h, h2], show sealE c m s = 0 by simp [sealE, h, h2]]
      simp only [mayS, Bool.and_eq_true, decide_eq_true_eq] at h
      exact seal_good c m label s x h.1 h.2 h2 hl
    · have hE1 := hid h
      have hE2 := hid (show mayE c m = 0 by simp [mayE, h])
      have HR := hid (show sealR c m (n8 x) label s = ⟨#[]⟩ by simp [sealR, h, h2])
      have HR2 := hid (show sealE c m s = 4 by simp [sealE, h, h2])
      have hd : decide (1048576 < (s.size : Int)) = true := by simp; omega
      rw [HR.out, HR2.out]
      clear h h2
      go_enter Tryz.func47, Tryz.ntmps47
      go_wp2_with (refine wpList_box rfl _ _ rfl [.string c, .string m] rfl ?_; intro w1 f1 hlt1 hb1; have k0 := hb1.cell 0; have k1 := hb1.cell 1; simp only [World.size_alloc, World.size_drew, Act.put, List.setIfInBounds_toArray, List.set_cons_succ, List.set_cons_zero])
      refine (may_any c m hc hm).mono ?_
      rintro e w2 ⟨rfl, f2⟩
      rw [(hE2).out]
      go_wp2_with fail
      go_ret2
      exact ⟨rfl, f1.trans' f2⟩
set_option maxRecDepth 20000 in
theorem rseal_any {w : World} (c m label s : ByteArray) (x : UInt64) (hc : c.size ≤ 9223372036854775807) (hm : m.size ≤ 9223372036854775807) (hs : s.size ≤ 9223372036854775807) (hl : label.size < 1099500000000) :
    Calls Tryz.prog 52 #[.agg #[.string c, .string m], W64 x, .string label, .string s] w fun e w' => e = .returned (.tuple #[.string (sealR c m (n8 x) label s), .int .i64 (sealE c m s)]) ∧ Fr [] w w' := by
  cases h : mayS c m
  · have hE1 := hid h
    have hE2 := hid (show mayE c m = 2 by simp [mayE, h])
    have HR := hid (show sealR c m (n8 x) label s = ⟨#[]⟩ by simp [sealR, h])
    have HR2 := hid (show sealE c m s = 2 by simp [sealE, h])
    rw [HR.out, HR2.out]
    clear h
    go_enter Tryz.func52, Tryz.ntmps52
    go_wp2_with (refine wpList_box rfl _ _ rfl [.string c, .string m] rfl ?_; intro w1 f1 hlt1 hb1; have k0 := hb1.cell 0; have k1 := hb1.cell 1; simp only [World.size_alloc, World.size_drew, Act.put, List.setIfInBounds_toArray, List.set_cons_succ, List.set_cons_zero])
    refine (rmay_any c m hc hm).mono ?_
    rintro e w2 ⟨rfl, f2⟩
    rw [(hE1).out]
    go_wp2_with fail
    go_ret2
    exact ⟨rfl, f1.trans' f2⟩
  · by_cases h2 : s.size ≤ 1048576
    · rw [show sealR c m (n8 x) label s = sealT c m (n8 x) label s by simp [sealR, h, h2], show sealE c m s = 0 by simp [sealE, h, h2]]
      simp only [mayS, Bool.and_eq_true, decide_eq_true_eq] at h
      exact rseal_good c m label s x h.1 h.2 h2 hl
    · have hE1 := hid h
      have hE2 := hid (show mayE c m = 0 by simp [mayE, h])
      have HR := hid (show sealR c m (n8 x) label s = ⟨#[]⟩ by simp [sealR, h, h2])
      have HR2 := hid (show sealE c m s = 4 by simp [sealE, h, h2])
      have hd : decide (1048576 < (s.size : Int)) = true := by simp; omega
      rw [HR.out, HR2.out]
      clear h h2
      go_enter Tryz.func52, Tryz.ntmps52
      go_wp2_with (refine wpList_box rfl _ _ rfl [.string c, .string m] rfl ?_; intro w1 f1 hlt1 hb1; have k0 := hb1.cell 0; have k1 := hb1.cell 1; simp only [World.size_alloc, World.size_drew, Act.put, List.setIfInBounds_toArray, List.set_cons_succ, List.set_cons_zero])
      refine (rmay_any c m hc hm).mono ?_
      rintro e w2 ⟨rfl, f2⟩
      rw [(hE1).out]
      go_wp2_with fail
      go_ret2
      exact ⟨rfl, f1.trans' f2⟩
end Go.Proofs.YtneoagelcjfanaaGreatDoor

/- Layer 4, seal: Open whole, the program's and the document's. -/
namespace Go.Xr
open Go
set_option linter.unusedVariables false
theorem ext_ext (s : ByteArray) (i j a b : Nat) (h : i + b ≤ j) : (s.extract i j).extract a b = s.extract (i + a) (i + b) := by
  rw [ByteArray.extract_extract, Nat.min_eq_left h]
theorem n8_list (s : ByteArray) (h : 8 ≤ s.size) : (s.extract 0 8).size = 8 := by simp; omega
end Go.Xr
namespace Go.Proofs.YtneoagelcjfanaaGreatDoor
open Go Go.Xr Go.RowKit Go.Proofs.YtneoagelcjfanaaGreatDoor.aes
set_option linter.unusedVariables false
set_option linter.unusedSimpArgs false

/-- A text by the key's bytes and a nonce's eight bytes. -/
def trnS (c nn s : ByteArray) : ByteArray := ⟨(trnL c.data.toList nn.data.toList s.data.toList).toArray⟩
/-- Whether a sealed text's tag is the one that stands behind it. -/
def tagOk (m label S : ByteArray) : Bool := decide (tagS m label (S.extract 0 (S.size - 32)) = S.extract (S.size - 32) S.size)
def openB (c m label S : ByteArray) : Bool := mayS c m && (decide (40 ≤ S.size) && (decide (S.size ≤ 1048616) && tagOk m label S))
def openR (c m label S : ByteArray) : ByteArray := if openB c m label S then trnS c (S.extract 0 8) (S.extract 8 (S.size - 32)) else ⟨#[]⟩
def openE (c m label S : ByteArray) : Int := if mayS c m then (if openB c m label S then 0 else 7) else 2

set_option maxRecDepth 20000 in
set_option maxHeartbeats 1000000 in
theorem open_in {w : World} (c m label S : ByteArray) (hc : c.size = 16) (hm : m.size = 32) (h1 : 40 ≤ S.size) (h2 : S.size ≤ 1048616) (hl : label.size < 1099500000000) :
    Calls Tryz.prog 74 #[.agg #[.string c, .string m], .string label, .string S] w fun e w' => e = .returned (.tuple #[.string (if tagOk m label S then trnS c (S.extract 0 8) (S.extract 8 (S.size - 32)) else ⟨#[]⟩), .int .i64 (if tagOk m label S then 0 else 7)]) ∧ Fr [] w w' := by
  have HE := hid (mayE_good c m hc hm)
  have hc1 : c.size ≤ 9223372036854775807 := by omega
  have hm1 : m.size ≤ 9223372036854775807 := by omega
  have hd1 : decide ((S.size : Int) - 32 < 8) = false := by simp; omega
  have hd2 : decide (1048616 < (S.size : Int)) = false := by simp; omega
  have h8 : 8 ≤ S.size := by omega
  have h8d : (8 : Int) ≤ (S.size : Int) := by omega
  have h8b : 8 ≤ S.size - 32 := by omega
  have h8c : (8 : Int) ≤ (S.size : Int) - 32 := by omega
  obtain ⟨i9, hi9, hz9, hs9⟩ := inf9
  have Hi9 := hid hi9
  have Hz9 := hid hz9
  have Hs9 := hid hs9
  have hGs : (S.extract (S.size - 32) S.size).size ≤ 9223372036854775807 := by simp; omega
  have hAs : (S.extract 0 (S.size - 32)).size ≤ 1048616 := by simp; omega
  have HT := hid (show tagOk m label S = decide (macS m (allS [label, S.extract 0 (S.size - 32)]) = S.extract (S.size - 32) S.size) from rfl)
  have Ha := hid fun (w0 : World) (v : Value) (b : Nat) (hv : Rc w0 1 v 2 ([label, S.extract 0 (S.size - 32)].map .string) (some b)) => mall_any (l := [label, S.extract 0 (S.size - 32)]) m (by omega) hv (by rw [allL_two]; omega)
  obtain ⟨Z, hZ⟩ : ∃ Z, macS m (allS [label, S.extract 0 (S.size - 32)]) = Z := ⟨_, rfl⟩
  have hZs : Z.size ≤ 9223372036854775807 := by rw [← hZ, macS_size]; decide
  rw [hZ] at Ha HT
  have hM8 : (S.extract 0 8).size = 8 := n8_list S (by omega)
  have Ht := hid fun (w0 : World) (b cap : Nat) (cs : List Value) (hb : Blk w0 b cs) (hcs : cs.take 8 = bv (S.extract 0 8).data.toList) (hcap : 8 ≤ cap) (hcm : cap ≤ 9223372036854775807) => turned_any (w := w0) c m (S.extract 0 8) (S.extract 8 (S.size - 32)) hc hM8 (by simp; omega) hb hcs hcap hcm
  obtain ⟨Y, hY⟩ : ∃ Y, trnS c (S.extract 0 8) (S.extract 8 (S.size - 32)) = Y := ⟨_, rfl⟩
  have hY2 : (⟨(trnL c.data.toList (S.extract 0 8).data.toList (S.extract 8 (S.size - 32)).data.toList).toArray⟩ : ByteArray) = Y := hY
  rw [hY2] at Ht
  have hmx := hid (show (S.extract 0 8).size ≤ maxLen by rw [hM8]; unfold maxLen; omega)
  have HMs := hid hM8
  rw [hY]
  clear hc hm hi9 hz9 hs9 hZ hM8 hY hY2 hAs hl
  cases hD : decide (Z = S.extract (S.size - 32) S.size)
  all_goals
    have HD := hid hD
    rw [hD] at HT
    rw [HT.out]
    clear hD
    go_enter Tryz.func74, Tryz.ntmps74
    go_wp2_with (refine wpList_box rfl _ _ rfl [.string c, .string m] rfl ?_; intro w1 f1 hlt1 hb1; have k0 := hb1.cell 0; have k1 := hb1.cell 1; simp only [World.size_alloc, World.size_drew, Act.put, List.setIfInBounds_toArray, List.set_cons_succ, List.set_cons_zero])
    refine (may_any c m hc1 hm1).mono ?_
    rintro e w2 ⟨rfl, f2⟩
    rw [HE.out]
    have b2 := f2.blk hb1 (by simp)
    have k02 := b2.cell 0
    have g2 := f1.trans' f2
    clear k0 k1 hb1 f1 f2
    go_wp2_with fail
    refine wp_region_D (fun w' => Blk w' w.heap.size [.string c, .string m]) false [] (by kernel_rfl) ?_
    refine WD.pure [2, 3, 4, 5] (by kernel_rfl) b2 ?_
    simp only [pick, List.toList_toArray, List.map_cons, List.map_nil, List.getD_cons_succ, List.getD_cons_zero]
    repeat (first | go_big_quiet_step (fail) | (refine quiet_load_1S rfl _ _ rfl rfl (.string m) (fun _ h => h.cell 1) _ Tryz.underlying9 rfl ?_; simp only [World.size_alloc, World.size_drew, Act.put, List.setIfInBounds_toArray, List.set_cons_succ, List.set_cons_zero]))
    refine wpQuiet_nil ?_
    refine WD.free [0, 8, 9, 10] (by kernel_rfl) b2 ?_
    simp only [pick, List.toList_toArray, List.map_cons, List.map_nil, List.getD_cons_succ, List.getD_cons_zero]
    repeat (first | go_big_quiet_step (fail) | (refine quiet_load_1S rfl _ _ rfl rfl (.string m) (fun _ h => h.cell 1) _ Tryz.underlying9 rfl ?_; simp only [World.size_alloc, World.size_drew, Act.put, List.setIfInBounds_toArray, List.set_cons_succ, List.set_cons_zero]))
    refine wpQuiet_nil ?_
    refine WD.held [1] (by kernel_rfl) b2 ?_
    simp only [pick, List.toList_toArray, List.map_cons, List.map_nil, List.getD_cons_succ, List.getD_cons_zero]
    repeat (first | go_big_quiet_step (fail) | (refine quiet_load_1S rfl _ _ rfl rfl (.string m) (fun _ h => h.cell 1) _ Tryz.underlying9 rfl ?_; simp only [World.size_alloc, World.size_drew, Act.put, List.setIfInBounds_toArray, List.set_cons_succ, List.set_cons_zero]))
    refine wpQuiet_nil ?_
    refine WD.eff 6 (by kernel_rfl) ?_
    simp only [pick, List.toList_toArray, List.map_cons, List.map_nil, List.getD_cons_succ, List.getD_cons_zero]
    refine wpList_buildSlice_any rfl _ 2 _ rfl 9 Tryz.underlying23 _ _ Hi9.out Hz9.out rfl Hs9.out (by decide) (by decide) rfl [.string label, .string (S.extract 0 (S.size - 32))] rfl (by simp [Value.oneCell']) ?_
    intro w3 f3 hlt3 hb3
    have b3 := f3.blk (Blk.drew b2) (by simp)
    try refine wpList_nil ?_
    refine AfterD.on b3 (by kernel_rfl) ?_
    try simp only [World.size_alloc, World.size_drew, Act.put, List.setIfInBounds_toArray, List.set_cons_succ, List.set_cons_zero]
    refine WD.eff 7 (by kernel_rfl) ?_
    simp only [pick, List.toList_toArray, List.map_cons, List.map_nil, List.getD_cons_succ, List.getD_cons_zero]
    go_wp2_with fail
    refine (Ha.out _ _ _ (rc_of_blk hb3 rfl (show 2 ≤ maxLen by unfold maxLen; omega))).mono ?_
    rintro e w4 ⟨rfl, f4⟩
    go_wp2_with fail
    have b4 := f4.blk b3 (by simp)
    try refine wpList_nil ?_
    refine AfterD.on b4 (by kernel_rfl) ?_
    try simp only [World.size_alloc, World.size_drew, Act.put, List.setIfInBounds_toArray, List.set_cons_succ, List.set_cons_zero]
    refine WD.eff 11 (by kernel_rfl) ?_
    simp only [pick, List.toList_toArray, List.map_cons, List.map_nil, List.getD_cons_succ, List.getD_cons_zero]
    go_wp2_with fail
    refine (same_any Z (S.extract (S.size - 32) S.size) hZs hGs).mono ?_
    rintro e w5 ⟨rfl, f5⟩
    rw [HD.out]
    go_wp2_with fail
    have b5 := f5.blk b4 (by simp)
    try refine wpList_nil ?_
    refine AfterD.on b5 (by kernel_rfl) ?_
    try simp only [World.size_alloc, World.size_drew, Act.put, List.setIfInBounds_toArray, List.set_cons_succ, List.set_cons_zero]
    refine WD.pure [12, 13] (by kernel_rfl) b5 ?_
    simp only [pick, List.toList_toArray, List.map_cons, List.map_nil, List.getD_cons_succ, List.getD_cons_zero]
    repeat (first | go_big_quiet_step (fail) | (refine quiet_load_1S rfl _ _ rfl rfl (.string m) (fun _ h => h.cell 1) _ Tryz.underlying9 rfl ?_; simp only [World.size_alloc, World.size_drew, Act.put, List.setIfInBounds_toArray, List.set_cons_succ, List.set_cons_zero]))
    refine wpQuiet_nil ?_
    refine WD.done (by kernel_rfl) ?_
    have g5 : Fr [] w w5 := (((g2.drew).trans' f3).trans' f4).trans' f5
    clear b2 b3 b4 hb3 f3 f4 f5 k02 hlt3 g2
    go_wp2_with fail
  · go_ret2
    exact ⟨rfl, g5⟩
  · refine wp_region_X (fun w' => Blk w' w.heap.size [.string c, .string m]) false (by kernel_rfl) ?_
    refine WX.pure [0, 1, 2, 4, 5, 6] (by kernel_rfl) b5.drew ?_
    simp only [pick, List.toList_toArray, List.map_cons, List.map_nil, List.getD_cons_succ, List.getD_cons_zero]
    (refine quiet_load_agg rfl _ _ rfl rfl [.string c, .string m] (fun _ h => h) _ Tryz.underlying45 rfl keyT rfl ?_; simp only [World.size_alloc, World.size_drew, Act.put, List.setIfInBounds_toArray, List.set_cons_succ, List.set_cons_zero])
    go_big_quiet_step (fail)
    (refine quiet_slice_v rfl _ _ _ _ rfl _ rfl _ _ rfl rfl (.string (S.extract 0 8)) (fun w0 _ => run_slice_sh w0 _ Tryz.underlying9 S .i64 8 8 rfl h8) ?_; simp only [World.size_alloc, World.size_drew, Act.put, List.setIfInBounds_toArray, List.set_cons_succ, List.set_cons_zero])
    go_big_quiet_step (fail)
    go_big_quiet_step (fail)
    (refine quiet_slice_v rfl _ _ _ _ rfl _ rfl _ _ rfl rfl (.string (S.extract 8 (S.size - 32))) (fun w0 _ => run_slice_s w0 _ Tryz.underlying9 S .i64 .i64 8 _ 8 (S.size - 32) rfl (by omega) h8b (by omega)) ?_; simp only [World.size_alloc, World.size_drew, Act.put, List.setIfInBounds_toArray, List.set_cons_succ, List.set_cons_zero])
    refine wpQuiet_nil ?_
    refine WX.eff 3 (by kernel_rfl) ?_
    simp only [pick, List.toList_toArray, List.map_cons, List.map_nil, List.getD_cons_succ, List.getD_cons_zero]
    refine wpList_bytes_own rfl 9 67 5 _ rfl (S.extract 0 8) rfl hmx.out Tryz.underlying9 Tryz.underlying67 Tryz.underlying5 ?_
    intro w6 c6 f6 hlt6 ho6
    simp only [World.size_alloc, World.size_drew, Act.put, List.setIfInBounds_toArray, List.set_cons_succ, List.set_cons_zero]
    refine wpList_nil ?_
    refine After.on (f6.blk b5.drew (by simp)) ?_
    obtain ⟨cs, hcs1, hcs2, hcs3, _⟩ := ho6.blkOf
    obtain ⟨_, c6', e1, e2, h86, hm6, _⟩ := ho6.opened (by rw [HMs.out]; decide)
    obtain rfl : c6 = c6' := by simp at e2; exact e2.2
    rw [HMs.out] at hcs2 hcs3 h86 ⊢
    have g6 := (g5.drew).trans' f6
    have b6 := f6.blk b5.drew (by simp)
    clear e1 e2 ho6 f6 hlt6 b5 g5
    unfold maxLen at hm6
    refine WX.eff 7 (by kernel_rfl) ?_
    simp only [pick, List.toList_toArray, List.map_cons, List.map_nil, List.getD_cons_succ, List.getD_cons_zero]
    go_wp2_with fail
    refine (Ht.out _ _ _ cs hcs1 hcs3 h86 hm6).mono ?_
    rintro e w7 ⟨rfl, f7⟩
    go_wp2_with fail
    refine After.on (f7.blk b6 (by simp)) ?_
    refine WX.pure [8, 9] (by kernel_rfl) (f7.blk b6 (by simp)) ?_
    simp only [pick, List.toList_toArray, List.map_cons, List.map_nil, List.getD_cons_succ, List.getD_cons_zero]
    repeat (go_big_quiet_step (fail))
    refine wpQuiet_nil ?_
    refine WX.done (by kernel_rfl) ?_
    go_wp2_with fail
    go_ret2
    exact ⟨rfl, g6.trans' f7⟩
end Go.Proofs.YtneoagelcjfanaaGreatDoor

/- Layer 4, seal: Open whole, the document's; what both answer to whatever. -/
namespace Go.Proofs.YtneoagelcjfanaaGreatDoor
open Go Go.Xr Go.RowKit Go.Proofs.YtneoagelcjfanaaGreatDoor.aes
set_option linter.unusedVariables false
set_option linter.unusedSimpArgs false
theorem beq_str (a b : ByteArray) : (a.toList == b.toList) = decide (b = a) := by
  rw [Bool.eq_iff_iff]
  simp only [beq_iff_eq, decide_eq_true_eq, ByteArray.toList_eq]
  constructor
  · intro h
    apply ByteArray.ext
    apply Array.ext'
    exact h.symm
  · rintro rfl
    rfl
theorem beq_str2 (a b : ByteArray) : (a.toList == b.toList) = decide (a = b) := by
  rw [beq_str, decide_eq_decide]
  exact eq_comm

set_option maxRecDepth 20000 in
set_option maxHeartbeats 1000000 in
theorem ropen_in {w : World} (c m label S : ByteArray) (hc : c.size = 16) (hm : m.size = 32) (h1 : 40 ≤ S.size) (h2 : S.size ≤ 1048616) (hl : label.size < 1099500000000) :
    Calls Tryz.prog 77 #[.agg #[.string c, .string m], .string label, .string S] w fun e w' => e = .returned (.tuple #[.string (if tagOk m label S then trnS c (S.extract 0 8) (S.extract 8 (S.size - 32)) else ⟨#[]⟩), .int .i64 (if tagOk m label S then 0 else 7)]) ∧ Fr [] w w' := by
  have HE := hid (show mayS c m = true by simp [mayS, hc, hm])
  have hc1 : c.size ≤ 9223372036854775807 := by omega
  have hm1 : m.size ≤ 9223372036854775807 := by omega
  have hd1 : decide ((S.size : Int) < 40) = false := by simp; omega
  have hd2 : decide (1048616 < (S.size : Int)) = false := by simp; omega
  have h8b : 8 ≤ S.size - 32 := by omega
  obtain ⟨i9, hi9, hz9, hs9⟩ := inf9
  have Hi9 := hid hi9
  have Hz9 := hid hz9
  have Hs9 := hid hs9
  obtain ⟨A, hA⟩ : ∃ A, S.extract 0 (S.size - 32) = A := ⟨_, rfl⟩
  have hAs : A.size = S.size - 32 := by rw [← hA]; simp
  have hA1 : A.extract 0 8 = S.extract 0 8 := by rw [← hA, ext_ext _ _ _ _ _ (by omega)]
  have hA2 : A.extract 8 A.size = S.extract 8 (S.size - 32) := by rw [hAs, ← hA, ext_ext _ _ _ _ _ (by omega), Nat.zero_add, Nat.zero_add]
  have HT := hid (show tagOk m label S = decide (macS m (allS [label, A]) = S.extract (S.size - 32) S.size) by rw [← hA]; rfl)
  have Ha := hid fun (w0 : World) (v : Value) (b : Nat) (hv : Rc w0 1 v 2 ([label, A].map .string) (some b)) => rall_any (l := [label, A]) m (by omega) hv (by rw [allL_two]; omega)
  obtain ⟨Z, hZ⟩ : ∃ Z, macS m (allS [label, A]) = Z := ⟨_, rfl⟩
  rw [hZ] at Ha HT
  have hM8 : (A.extract 0 8).size = 8 := by rw [hA1]; exact n8_list S (by omega)
  have Ht := hid fun (w0 : World) => rturned_any (w := w0) c m (A.extract 0 8) (A.extract 8 A.size) hc hM8 (by simp; omega)
  obtain ⟨Y, hY⟩ : ∃ Y, trnS c (S.extract 0 8) (S.extract 8 (S.size - 32)) = Y := ⟨_, rfl⟩
  have hY2 : (⟨(trnL c.data.toList (A.extract 0 8).data.toList (A.extract 8 A.size).data.toList).toArray⟩ : ByteArray) = Y := by rw [hA1, hA2]; exact hY
  rw [hY2] at Ht
  have HA := hid hA
  have h40 : 40 ≤ A.size + 32 := by omega
  rw [hY]
  clear hc hm hi9 hz9 hs9 hZ hM8 hY hY2 hl hA1 hA2 hA hAs
  cases hD : decide (Z = S.extract (S.size - 32) S.size)
  all_goals
    have HD := hid hD
    rw [hD] at HT
    rw [HT.out]
    have hq := beq_str2 Z (S.extract (S.size - 32) S.size)
    rw [hD] at hq
    clear hD
    go_enter Tryz.func77, Tryz.ntmps77
    go_wp2_with (refine wpList_box rfl _ _ rfl [.string c, .string m] rfl ?_; intro w1 f1 hlt1 hb1; have k0 := hb1.cell 0; have k1 := hb1.cell 1; simp only [World.size_alloc, World.size_drew, Act.put, List.setIfInBounds_toArray, List.set_cons_succ, List.set_cons_zero])
    refine (rmay_any c m hc1 hm1).mono ?_
    rintro e w2 ⟨rfl, f2⟩
    rw [HE.out]
    have b2 := f2.blk hb1 (by simp)
    have g2 := f1.trans' f2
    clear k0 k1 hb1 f1 f2
    go_wp2_with fail
    rw [HA.out]
    refine wp_region_D (fun w' => Blk w' w.heap.size [.string c, .string m]) false [] (by kernel_rfl) ?_
    refine WD.pure [2, 3] (by kernel_rfl) b2 ?_
    simp only [pick, List.toList_toArray, List.map_cons, List.map_nil, List.getD_cons_succ, List.getD_cons_zero]
    repeat (first | go_big_quiet_step (fail) | (refine quiet_load_1S rfl _ _ rfl rfl (.string m) (fun _ h => h.cell 1) _ Tryz.underlying9 rfl ?_; simp only [World.size_alloc, World.size_drew, Act.put, List.setIfInBounds_toArray, List.set_cons_succ, List.set_cons_zero]))
    refine wpQuiet_nil ?_
    refine WD.free [0, 6, 7, 8, 9] (by kernel_rfl) b2 ?_
    simp only [pick, List.toList_toArray, List.map_cons, List.map_nil, List.getD_cons_succ, List.getD_cons_zero]
    repeat (first | go_big_quiet_step (fail) | (refine quiet_load_1S rfl _ _ rfl rfl (.string m) (fun _ h => h.cell 1) _ Tryz.underlying9 rfl ?_; simp only [World.size_alloc, World.size_drew, Act.put, List.setIfInBounds_toArray, List.set_cons_succ, List.set_cons_zero]))
    refine wpQuiet_nil ?_
    refine WD.held [1] (by kernel_rfl) b2 ?_
    simp only [pick, List.toList_toArray, List.map_cons, List.map_nil, List.getD_cons_succ, List.getD_cons_zero]
    repeat (first | go_big_quiet_step (fail) | (refine quiet_load_1S rfl _ _ rfl rfl (.string m) (fun _ h => h.cell 1) _ Tryz.underlying9 rfl ?_; simp only [World.size_alloc, World.size_drew, Act.put, List.setIfInBounds_toArray, List.set_cons_succ, List.set_cons_zero]))
    refine wpQuiet_nil ?_
    refine WD.eff 4 (by kernel_rfl) ?_
    simp only [pick, List.toList_toArray, List.map_cons, List.map_nil, List.getD_cons_succ, List.getD_cons_zero]
    refine wpList_buildSlice_any rfl _ 2 _ rfl 9 Tryz.underlying23 _ _ Hi9.out Hz9.out rfl Hs9.out (by decide) (by decide) rfl [.string label, .string A] rfl (by simp [Value.oneCell']) ?_
    intro w3 f3 hlt3 hb3
    have b3 := f3.blk (Blk.drew b2) (by simp)
    try refine wpList_nil ?_
    refine AfterD.on b3 (by kernel_rfl) ?_
    try simp only [World.size_alloc, World.size_drew, Act.put, List.setIfInBounds_toArray, List.set_cons_succ, List.set_cons_zero]
    refine WD.eff 5 (by kernel_rfl) ?_
    simp only [pick, List.toList_toArray, List.map_cons, List.map_nil, List.getD_cons_succ, List.getD_cons_zero]
    go_wp2_with fail
    refine (Ha.out _ _ _ (rc_of_blk hb3 rfl (show 2 ≤ maxLen by unfold maxLen; omega))).mono ?_
    rintro e w4 ⟨rfl, f4⟩
    go_wp2_with fail
    have b4 := f4.blk b3 (by simp)
    try refine wpList_nil ?_
    refine AfterD.on b4 (by kernel_rfl) ?_
    try simp only [World.size_alloc, World.size_drew, Act.put, List.setIfInBounds_toArray, List.set_cons_succ, List.set_cons_zero]
    refine WD.pure [10] (by kernel_rfl) b4 ?_
    simp only [pick, List.toList_toArray, List.map_cons, List.map_nil, List.getD_cons_succ, List.getD_cons_zero]
    repeat (first | go_big_quiet_step (fail) | (refine quiet_load_1S rfl _ _ rfl rfl (.string m) (fun _ h => h.cell 1) _ Tryz.underlying9 rfl ?_; simp only [World.size_alloc, World.size_drew, Act.put, List.setIfInBounds_toArray, List.set_cons_succ, List.set_cons_zero]))
    refine wpQuiet_nil ?_
    refine WD.done (by kernel_rfl) ?_
    have g4 : Fr [] w w4 := ((g2.drew).trans' f3).trans' f4
    clear b2 b3 hb3 f3 f4 hlt3 g2
    go_wp2_with fail
  · go_ret2
    exact ⟨rfl, g4⟩
  · have hA8 : 8 ≤ A.size := by omega
    refine wp_region_D (fun w' => Blk w' w.heap.size [.string c, .string m]) false [] (by kernel_rfl) ?_
    refine WD.pure [0, 1, 2, 3, 4] (by kernel_rfl) b4.drew ?_
    simp only [pick, List.toList_toArray, List.map_cons, List.map_nil, List.getD_cons_succ, List.getD_cons_zero]
    repeat (first | (refine quiet_load_agg rfl _ _ rfl rfl [.string c, .string m] (fun _ h => by cases h; exact b4.drew) _ Tryz.underlying45 rfl keyT rfl ?_; simp only [World.size_alloc, World.size_drew, Act.put, List.setIfInBounds_toArray, List.set_cons_succ, List.set_cons_zero]) | (refine quiet_slice_v rfl _ _ _ _ rfl _ rfl _ _ rfl rfl (.string (A.extract 0 8)) (fun w0 _ => run_slice_sh w0 _ Tryz.underlying9 A .i64 8 8 rfl hA8) ?_; simp only [World.size_alloc, World.size_drew, Act.put, List.setIfInBounds_toArray, List.set_cons_succ, List.set_cons_zero]) | (refine quiet_slice_v rfl _ _ _ _ rfl _ rfl _ _ rfl rfl (.string (A.extract 8 A.size)) (fun w0 _ => run_slice_sl w0 _ Tryz.underlying9 A .i64 8 8 rfl hA8) ?_; simp only [World.size_alloc, World.size_drew, Act.put, List.setIfInBounds_toArray, List.set_cons_succ, List.set_cons_zero]) | go_big_quiet_step (fail))
    refine wpQuiet_nil ?_
    refine WD.eff 5 (by kernel_rfl) ?_
    simp only [pick, List.toList_toArray, List.map_cons, List.map_nil, List.getD_cons_succ, List.getD_cons_zero]
    go_wp2_with fail
    refine (Ht.out _).mono ?_
    rintro e w7 ⟨rfl, f7⟩
    go_wp2_with fail
    try refine wpList_nil ?_
    refine AfterD.on (f7.blk b4.drew (by simp)) (by kernel_rfl) ?_
    try simp only [World.size_alloc, World.size_drew, Act.put, List.setIfInBounds_toArray, List.set_cons_succ, List.set_cons_zero]
    refine WD.pure [6, 7] (by kernel_rfl) (f7.blk b4.drew (by simp)) ?_
    simp only [pick, List.toList_toArray, List.map_cons, List.map_nil, List.getD_cons_succ, List.getD_cons_zero]
    repeat (first | (refine quiet_load_agg rfl _ _ rfl rfl [.string c, .string m] (fun _ h => by cases h; exact b4.drew) _ Tryz.underlying45 rfl keyT rfl ?_; simp only [World.size_alloc, World.size_drew, Act.put, List.setIfInBounds_toArray, List.set_cons_succ, List.set_cons_zero]) | (refine quiet_slice_v rfl _ _ _ _ rfl _ rfl _ _ rfl rfl (.string (A.extract 0 8)) (fun w0 _ => run_slice_sh w0 _ Tryz.underlying9 A .i64 8 8 rfl hA8) ?_; simp only [World.size_alloc, World.size_drew, Act.put, List.setIfInBounds_toArray, List.set_cons_succ, List.set_cons_zero]) | (refine quiet_slice_v rfl _ _ _ _ rfl _ rfl _ _ rfl rfl (.string (A.extract 8 A.size)) (fun w0 _ => run_slice_sl w0 _ Tryz.underlying9 A .i64 8 8 rfl hA8) ?_; simp only [World.size_alloc, World.size_drew, Act.put, List.setIfInBounds_toArray, List.set_cons_succ, List.set_cons_zero]) | go_big_quiet_step (fail))
    refine wpQuiet_nil ?_
    refine WD.done (by kernel_rfl) ?_
    go_wp2_with fail
    go_ret2
    exact ⟨rfl, (g4.drew).trans' f7⟩
end Go.Proofs.YtneoagelcjfanaaGreatDoor

/- Layer 4, seal: Open of whatever; what was sealed comes back. -/
namespace Go.Xr
open Go
set_option linter.unusedVariables false
theorem ba_ext {s t : ByteArray} (h : s.data.toList = t.data.toList) : s = t := ByteArray.ext (Array.ext' h)
theorem ext_list (s : ByteArray) (a b : Nat) : (s.extract a b).data.toList = (s.data.toList.take b).drop a := by
  rw [ByteArray.data_extract, Array.toList_extract, List.extract_eq_take_drop, ← List.drop_take]
theorem app_list (s t : ByteArray) : (s ++ t).data.toList = s.data.toList ++ t.data.toList := by simp
theorem ba_len (s : ByteArray) : s.data.toList.length = s.size := Array.length_toList
theorem trnL_twice (key nn l : List UInt8) : trnL key nn (trnL key nn l) = l := by
  unfold trnL
  refine list_g80 l.length (by rw [turnL_len, turnL_len]) rfl fun i hi => ?_
  rw [turnL_get _ _ _ _ (by rw [turnL_len]; exact hi), turnL_get _ _ _ _ hi, UInt8.xor_assoc, UInt8.xor_self, UInt8.xor_zero]
end Go.Xr
namespace Go.Proofs.YtneoagelcjfanaaGreatDoor
open Go Go.Xr Go.RowKit Go.Proofs.YtneoagelcjfanaaGreatDoor.aes
set_option linter.unusedVariables false
set_option linter.unusedSimpArgs false

set_option maxRecDepth 20000 in
set_option maxHeartbeats 1000000 in
theorem open_any {w : World} (c m label S : ByteArray) (hc : c.size ≤ 9223372036854775807) (hm : m.size ≤ 9223372036854775807) (hS : S.size ≤ 9223372036854775807) (hl : label.size < 1099500000000) :
    Calls Tryz.prog 74 #[.agg #[.string c, .string m], .string label, .string S] w fun e w' => e = .returned (.tuple #[.string (openR c m label S), .int .i64 (openE c m label S)]) ∧ Fr [] w w' := by
  cases h : mayS c m
  · have hE1 := hid h
    have hE2 := hid (show mayE c m = 2 by simp [mayE, h])
    have HR := hid (show openR c m label S = ⟨#[]⟩ by simp [openR, openB, h])
    have HR2 := hid (show openE c m label S = 2 by simp [openE, h])
    rw [HR.out, HR2.out]
    clear h
    go_enter Tryz.func74, Tryz.ntmps74
    go_wp2_with (refine wpList_box rfl _ _ rfl [.string c, .string m] rfl ?_; intro w1 f1 hlt1 hb1; have k0 := hb1.cell 0; have k1 := hb1.cell 1; simp only [World.size_alloc, World.size_drew, Act.put, List.setIfInBounds_toArray, List.set_cons_succ, List.set_cons_zero])
    refine (may_any c m hc hm).mono ?_
    rintro e w2 ⟨rfl, f2⟩
    rw [(hE2).out]
    go_wp2_with fail
    go_ret2
    exact ⟨rfl, f1.trans' f2⟩
  · by_cases h1 : 40 ≤ S.size
    · by_cases h2 : S.size ≤ 1048616
      · have e1 : openR c m label S = (if tagOk m label S then trnS c (S.extract 0 8) (S.extract 8 (S.size - 32)) else ⟨#[]⟩) := by simp [openR, openB, h, h1, h2]
        have e2 : openE c m label S = (if tagOk m label S then 0 else 7) := by simp [openE, openB, h, h1, h2]
        rw [e1, e2]
        simp only [mayS, Bool.and_eq_true, decide_eq_true_eq] at h
        exact open_in c m label S h.1 h.2 h1 h2 hl
      · have hE1 := hid h
        have hE2 := hid (show mayE c m = 0 by simp [mayE, h])
        have HR := hid (show openR c m label S = ⟨#[]⟩ by simp [openR, openB, h, h1, h2])
        have HR2 := hid (show openE c m label S = 7 by simp [openE, openB, h, h1, h2])
        have hd1 : decide ((S.size : Int) - 32 < 8) = false := by simp; omega
        have hd2 : decide (1048616 < (S.size : Int)) = true := by simp; omega
        rw [HR.out, HR2.out]
        clear h h1 h2
        go_enter Tryz.func74, Tryz.ntmps74
        go_wp2_with (refine wpList_box rfl _ _ rfl [.string c, .string m] rfl ?_; intro w1 f1 hlt1 hb1; have k0 := hb1.cell 0; have k1 := hb1.cell 1; simp only [World.size_alloc, World.size_drew, Act.put, List.setIfInBounds_toArray, List.set_cons_succ, List.set_cons_zero])
        refine (may_any c m hc hm).mono ?_
        rintro e w2 ⟨rfl, f2⟩
        rw [(hE2).out]
        go_wp2_with fail
        go_ret2
        exact ⟨rfl, f1.trans' f2⟩
    · have hE1 := hid h
      have hE2 := hid (show mayE c m = 0 by simp [mayE, h])
      have HR := hid (show openR c m label S = ⟨#[]⟩ by simp [openR, openB, h, h1])
      have HR2 := hid (show openE c m label S = 7 by simp [openE, openB, h, h1])
      have hd1 : decide ((S.size : Int) - 32 < 8) = true := by simp; omega
      rw [HR.out, HR2.out]
      clear h h1
      go_enter Tryz.func74, Tryz.ntmps74
      go_wp2_with (refine wpList_box rfl _ _ rfl [.string c, .string m] rfl ?_; intro w1 f1 hlt1 hb1; have k0 := hb1.cell 0; have k1 := hb1.cell 1; simp only [World.size_alloc, World.size_drew, Act.put, List.setIfInBounds_toArray, List.set_cons_succ, List.set_cons_zero])
      refine (may_any c m hc hm).mono ?_
      rintro e w2 ⟨rfl, f2⟩
      rw [(hE2).out]
      go_wp2_with fail
      go_ret2
      exact ⟨rfl, f1.trans' f2⟩
set_option maxRecDepth 20000 in
set_option maxHeartbeats 1000000 in
theorem ropen_any {w : World} (c m label S : ByteArray) (hc : c.size ≤ 9223372036854775807) (hm : m.size ≤ 9223372036854775807) (hS : S.size ≤ 9223372036854775807) (hl : label.size < 1099500000000) :
    Calls Tryz.prog 77 #[.agg #[.string c, .string m], .string label, .string S] w fun e w' => e = .returned (.tuple #[.string (openR c m label S), .int .i64 (openE c m label S)]) ∧ Fr [] w w' := by
  cases h : mayS c m
  · have hE1 := hid h
    have hE2 := hid (show mayE c m = 2 by simp [mayE, h])
    have HR := hid (show openR c m label S = ⟨#[]⟩ by simp [openR, openB, h])
    have HR2 := hid (show openE c m label S = 2 by simp [openE, h])
    rw [HR.out, HR2.out]
    clear h
    go_enter Tryz.func77, Tryz.ntmps77
    go_wp2_with (refine wpList_box rfl _ _ rfl [.string c, .string m] rfl ?_; intro w1 f1 hlt1 hb1; have k0 := hb1.cell 0; have k1 := hb1.cell 1; simp only [World.size_alloc, World.size_drew, Act.put, List.setIfInBounds_toArray, List.set_cons_succ, List.set_cons_zero])
    refine (rmay_any c m hc hm).mono ?_
    rintro e w2 ⟨rfl, f2⟩
    rw [(hE1).out]
    go_wp2_with fail
    go_ret2
    exact ⟨rfl, f1.trans' f2⟩
  · by_cases h1 : 40 ≤ S.size
    · by_cases h2 : S.size ≤ 1048616
      · have e1 : openR c m label S = (if tagOk m label S then trnS c (S.extract 0 8) (S.extract 8 (S.size - 32)) else ⟨#[]⟩) := by simp [openR, openB, h, h1, h2]
        have e2 : openE c m label S = (if tagOk m label S then 0 else 7) := by simp [openE, openB, h, h1, h2]
        rw [e1, e2]
        simp only [mayS, Bool.and_eq_true, decide_eq_true_eq] at h
        exact ropen_in c m label S h.1 h.2 h1 h2 hl
      · have hE1 := hid h
        have hE2 := hid (show mayE c m = 0 by simp [mayE, h])
        have HR := hid (show openR c m label S = ⟨#[]⟩ by simp [openR, openB, h, h1, h2])
        have HR2 := hid (show openE c m label S = 7 by simp [openE, openB, h, h1, h2])
        have hd1 : decide ((S.size : Int) < 40) = false := by simp; omega
        have hd2 : decide (1048616 < (S.size : Int)) = true := by simp; omega
        rw [HR.out, HR2.out]
        clear h h1 h2
        go_enter Tryz.func77, Tryz.ntmps77
        go_wp2_with (refine wpList_box rfl _ _ rfl [.string c, .string m] rfl ?_; intro w1 f1 hlt1 hb1; have k0 := hb1.cell 0; have k1 := hb1.cell 1; simp only [World.size_alloc, World.size_drew, Act.put, List.setIfInBounds_toArray, List.set_cons_succ, List.set_cons_zero])
        refine (rmay_any c m hc hm).mono ?_
        rintro e w2 ⟨rfl, f2⟩
        rw [(hE1).out]
        go_wp2_with fail
        go_ret2
        exact ⟨rfl, f1.trans' f2⟩
    · have hE1 := hid h
      have hE2 := hid (show mayE c m = 0 by simp [mayE, h])
      have HR := hid (show openR c m label S = ⟨#[]⟩ by simp [openR, openB, h, h1])
      have HR2 := hid (show openE c m label S = 7 by simp [openE, openB, h, h1])
      have hd1 : decide ((S.size : Int) < 40) = true := by simp; omega
      rw [HR.out, HR2.out]
      clear h h1
      go_enter Tryz.func77, Tryz.ntmps77
      go_wp2_with (refine wpList_box rfl _ _ rfl [.string c, .string m] rfl ?_; intro w1 f1 hlt1 hb1; have k0 := hb1.cell 0; have k1 := hb1.cell 1; simp only [World.size_alloc, World.size_drew, Act.put, List.setIfInBounds_toArray, List.set_cons_succ, List.set_cons_zero])
      refine (rmay_any c m hc hm).mono ?_
      rintro e w2 ⟨rfl, f2⟩
      rw [(hE1).out]
      go_wp2_with fail
      go_ret2
      exact ⟨rfl, f1.trans' f2⟩

theorem derS_size0 (key label : ByteArray) (m : Nat) : (derS key label m).size = m := by
  unfold derS
  rw [ByteArray.size_extract, derT_len]
  omega
theorem sealT_size (c m nn label s : ByteArray) : (sealT c m nn label s).size = nn.size + s.size + 32 := by
  unfold sealT tagS
  rw [ByteArray.size_append, outS_size, macS_size]
theorem sealT_list (c m nn label s : ByteArray) : (sealT c m nn label s).data.toList = nn.data.toList ++ (trnL c.data.toList nn.data.toList s.data.toList ++ (tagS m label (outS c nn s)).data.toList) := by
  unfold sealT
  rw [app_list, ← List.append_assoc]
  rfl
theorem outS_list (c nn s : ByteArray) : (outS c nn s).data.toList = nn.data.toList ++ trnL c.data.toList nn.data.toList s.data.toList := rfl
theorem sealT_head (c m nn label s : ByteArray) : (sealT c m nn label s).extract 0 ((sealT c m nn label s).size - 32) = outS c nn s := by
  apply ba_ext
  rw [ext_list, sealT_size, show nn.size + s.size + 32 - 32 = (outS c nn s).data.toList.length by rw [ba_len, outS_size]; omega, List.drop_zero]
  unfold sealT
  rw [app_list, List.take_left]
theorem sealT_tail (c m nn label s : ByteArray) : (sealT c m nn label s).extract ((sealT c m nn label s).size - 32) (sealT c m nn label s).size = tagS m label (outS c nn s) := by
  apply ba_ext
  rw [ext_list, ← ba_len, List.take_length, ba_len, sealT_size, show nn.size + s.size + 32 - 32 = (outS c nn s).data.toList.length by rw [ba_len, outS_size]; omega]
  unfold sealT
  rw [app_list, List.drop_left]
theorem tagOk_seal (c m nn label s : ByteArray) : tagOk m label (sealT c m nn label s) = true := by
  unfold tagOk
  rw [sealT_head, sealT_tail]
  exact decide_eq_true rfl
theorem sealT_nonce (c m nn label s : ByteArray) (hn : nn.size = 8) : (sealT c m nn label s).extract 0 8 = nn := by
  apply ba_ext
  rw [ext_list, List.drop_zero, sealT_list, ← hn, ← ba_len nn, List.take_left]
theorem sealT_text (c m nn label s : ByteArray) (hn : nn.size = 8) : (sealT c m nn label s).extract 8 ((sealT c m nn label s).size - 32) = trnS c nn s := by
  apply ba_ext
  rw [ext_list, sealT_size, show nn.size + s.size + 32 - 32 = (outS c nn s).data.toList.length by rw [ba_len, outS_size]; omega]
  unfold sealT
  rw [app_list, List.take_left, outS_list, ← hn, ← ba_len nn, List.drop_left]
  rfl
theorem trnS_twice (c nn s : ByteArray) : trnS c nn (trnS c nn s) = s := by
  apply ba_ext
  unfold trnS
  exact trnL_twice _ _ _
/-- What was sealed comes back. -/
theorem openB_seal (c m nn label s : ByteArray) (hc : c.size = 16) (hm : m.size = 32) (hn : nn.size = 8) (hs : s.size ≤ 1048576) : openB c m label (sealT c m nn label s) = true := by
  have e := sealT_size c m nn label s
  simp [openB, mayS, hc, hm, tagOk_seal, e, hn]
  omega
theorem openR_seal (c m nn label s : ByteArray) (hc : c.size = 16) (hm : m.size = 32) (hn : nn.size = 8) (hs : s.size ≤ 1048576) : openR c m label (sealT c m nn label s) = s := by
  unfold openR
  rw [openB_seal c m nn label s hc hm hn hs, if_pos rfl, sealT_nonce _ _ _ _ _ hn, sealT_text _ _ _ _ _ hn, trnS_twice]
theorem openE_seal (c m nn label s : ByteArray) (hc : c.size = 16) (hm : m.size = 32) (hn : nn.size = 8) (hs : s.size ≤ 1048576) : openE c m label (sealT c m nn label s) = 0 := by
  unfold openE
  rw [openB_seal c m nn label s hc hm hn hs]
  simp [mayS, hc, hm]
theorem keyC_size (master label : ByteArray) : (keyC master label).size = 16 := derS_size0 _ _ _
theorem keyM_size (master label : ByteArray) : (keyM master label).size = 32 := derS_size0 _ _ _
end Go.Proofs.YtneoagelcjfanaaGreatDoor
