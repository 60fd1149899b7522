/- Layer 3: AesTwice, the walk. -/
import Derived.Test.YtnkcogaaajkplaaAesU
import Derived.Test.YtnkcogaaajkplaaAesL
namespace Go.Xr
open Go
set_option linter.unusedVariables false
theorem turnL_twice (T nn l : List UInt8) : turnL T nn (turnL T nn l) = l := by
  have hl := turnL_len T nn l
  apply List.ext_getElem?
  intro i
  by_cases hi : i < l.length
  · rw [g8_eq _ i (by rw [turnL_len, hl]; exact hi), g8_eq l i hi, turnL_get _ _ _ _ (by omega), turnL_get _ _ _ _ hi, UInt8.xor_assoc, UInt8.xor_self, UInt8.xor_zero]
  · rw [List.getElem?_eq_none (by rw [turnL_len]; omega), List.getElem?_eq_none (by omega)]
theorem ctr_next (nn : List UInt8) (j : Nat) : ctr nn (j + 1) = ctr (incF 16 nn) j := by
  induction j with
  | zero => rfl
  | succ j ih => rw [ctr, ih]; rfl
theorem strm_next (T nn : List UInt8) (i : Nat) : strm T nn (16 + i) = strm T (incF 16 nn) i := by
  unfold strm
  rw [show (16 + i) / 16 = i / 16 + 1 by omega, show (16 + i) % 16 = i % 16 by omega, ctr_next]
theorem turnL_next (T nn l : List UInt8) (h : 16 ≤ l.length) : (turnL T nn l).drop 16 = turnL T (incF 16 nn) (l.drop 16) := by
  have hl := turnL_len T nn l
  have g8d : ∀ (k : List UInt8) i, g8 (k.drop 16) i = g8 k (16 + i) := fun k i => by
    unfold g8
    rw [List.getD_eq_getElem?_getD, List.getD_eq_getElem?_getD, List.getElem?_drop]
  apply List.ext_getElem?
  intro i
  by_cases hi : i < l.length - 16
  · rw [g8_eq _ i (by rw [List.length_drop]; omega), g8_eq _ i (by rw [turnL_len, List.length_drop]; omega), g8d, turnL_get _ _ _ _ (by omega), turnL_get _ _ _ _ (by rw [List.length_drop]; omega), g8d, strm_next]
  · rw [List.getElem?_eq_none (by rw [List.length_drop]; omega), List.getElem?_eq_none (by rw [turnL_len, List.length_drop]; omega)]
theorem extract_list (s : ByteArray) (k : Nat) : (s.extract k s.size).data.toList = s.data.toList.drop k := by
  have hl : s.data.toList.length = s.size := Array.length_toList
  simp
  exact List.take_of_length_le (by rw [List.length_drop, hl]; exact Nat.le_refl _)
theorem of_list {s : ByteArray} {l : List UInt8} (h : s.data.toList = l) : (⟨l.toArray⟩ : ByteArray) = s := by
  rw [← h]
end Go.Xr
namespace Go.Proofs.Ytnkcogaaajkplaa
open Go Go.Xr Go.RowKit
set_option linter.unusedVariables false
set_option linter.unusedSimpArgs false
attribute [local go_sem] add_u8_c neq_u8_c neg_u8_c

set_option maxRecDepth 20000 in
set_option maxHeartbeats 1000000 in
theorem twice_walk {w : World} (k n s : ByteArray) (hk : k.size ≤ 9223372036854775807) (hn : n.size ≤ 9223372036854775807) (hs : s.size ≤ 9223372036854775807) : Calls Try.prog 5 #[.string k, .string n, .string s] w fun e w' => e = .returned (.bool true) ∧ Fr [] w w' := by
  by_cases hbig : 4096 < s.size
  case pos =>
    have hd : decide (4096 < s.size) = true := by simp; omega
    go_enter Try.func5, Try.ntmps5
    go_wp2_with fail
    refine alive_any.mono ?_
    rintro e w1 ⟨rfl, f1⟩
    go_wp2_with fail
    go_ret
    exact ⟨rfl, f1⟩
  case neg =>
    have hd : decide (4096 < s.size) = false := by simp; omega
    have hd' : decide ((4096 : Int) < (s.size : Int)) = false := by simp; omega
    by_cases h16 : k.size = 16
    case neg =>
      have Hn := hid (new_bad (w := w) k h16 hk)
      go_enter Try.func5, Try.ntmps5
      go_wp2_with fail
      refine Hn.out.mono ?_
      rintro e w' ⟨rfl, rfl⟩
      go_wp2_with fail
      refine alive_any.mono ?_
      rintro e w1 ⟨rfl, f1⟩
      go_wp2_with fail
      go_ret
      exact ⟨rfl, f1⟩
    case pos =>
      have Hn := hid (new_any (w := w) k h16)
      have hkl : k.data.toList.length = 16 := by rw [Array.length_toList]; exact h16
      obtain ⟨T, hT⟩ : ∃ T, ciT k.data.toList = T := ⟨_, rfl⟩
      have HT := hid (show T.length = 688 by rw [← hT]; exact ciT_len _ hkl)
      rw [hT] at Hn
      clear hT hkl h16
      by_cases hn16 : n.size = 16
      case neg =>
        have hne : ((n.size : Int) != 16) = true := by simp; omega
        have Hn16 := hid hn16
        clear hn16
        go_enter Try.func5, Try.ntmps5
        go_wp2_with fail
        refine Hn.out.mono ?_
        rintro e w1 ⟨p, rfl, hb, hp, f1⟩
        go_wp2_with fail
        refine (turn_bad n s HT.out Hn16.out hn hb).mono ?_
        rintro e w' ⟨rfl, rfl⟩
        go_wp2_with fail
        refine alive_any.mono ?_
        rintro e w2 ⟨rfl, f2⟩
        go_wp2_with fail
        go_ret
        exact ⟨rfl, f1.trans' f2⟩
      case pos =>
        obtain ⟨nn, hnn⟩ : ∃ nn, n.data.toList = nn := ⟨_, rfl⟩
        have hnl : nn.length = 16 := by rw [← hnn, Array.length_toList]; exact hn16
        obtain ⟨S, hS⟩ : ∃ S, s.data.toList = S := ⟨_, rfl⟩
        have hSl : S.length = s.size := by rw [← hS]; exact Array.length_toList
        obtain ⟨A, hA⟩ : ∃ A : ByteArray, (⟨(turnL T nn S).toArray⟩ : ByteArray) = A := ⟨_, rfl⟩
        have hAd : A.data.toList = turnL T nn S := by rw [← hA]
        have hAs : A.size = s.size := by rw [← hSl, ← turnL_len T nn S, ← hAd]; exact Array.length_toList.symm
        have hAq : ((A.size : Int) == (s.size : Int)) = true := by rw [hAs]; exact beq_self_eq_true _
        have H1 : Hid (∀ (w0 : World) (p : Nat), Blk w0 p (ciph T) → Calls Try.prog 19 #[.pointer (some ⟨p, 0, none⟩), .string n, .string s] w0 fun e w' => e = .returned (.tuple #[.string A, .int .i64 0]) ∧ Fr [] w0 w') := hid fun w0 p h => by
          have := turn_any n s HT.out hn16 (by omega) h
          rw [hnn, hS, hA] at this
          exact this
        have H2 : Hid (∀ (w0 : World) (p : Nat), Blk w0 p (ciph T) → Calls Try.prog 19 #[.pointer (some ⟨p, 0, none⟩), .string n, .string A] w0 fun e w' => e = .returned (.tuple #[.string s, .int .i64 0]) ∧ Fr [] w0 w') := hid fun w0 p h => by
          have := turn_any n A HT.out hn16 (by omega) h
          rw [hnn, hAd, turnL_twice, of_list hS] at this
          exact this
        have H3 : Hid (16 ≤ s.size → ∀ (w0 : World) (p : Nat), Blk w0 p (ciph T) → Calls Try.prog 19 #[.pointer (some ⟨p, 0, none⟩), .string ⟨(incF 16 nn).toArray⟩, .string (s.extract 16 s.size)] w0 fun e w' => e = .returned (.tuple #[.string (A.extract 16 A.size), .int .i64 0]) ∧ Fr [] w0 w') := hid fun h16 w0 p h => by
          have := turn_any ⟨(incF 16 nn).toArray⟩ (s.extract 16 s.size) HT.out (by rw [size_mk', incF_len, hnl]) (by simp; omega) h
          rw [extract_list, hS, ← turnL_next _ _ _ (by omega), ← hAd, of_list (extract_list A 16)] at this
          exact this
        have Hnl := hid hnl
        have Hnn := hid hnn
        have Hn16 := hid hn16
        have Hmx := hid (show n.size ≤ maxLen by rw [hn16]; decide)
        have h16A : 16 ≤ s.size → 16 ≤ A.size := fun h => by omega
        have H16A := hid h16A
        clear hnn hS hA hAd hAs hn16 hnl hSl h16A
        go_enter Try.func5, Try.ntmps5
        go_wp2_with fail
        refine Hn.out.mono ?_
        rintro e w1 ⟨p, rfl, hb, hp, f1⟩
        go_wp2_with fail
        refine (H1.out _ _ hb).mono ?_
        rintro e w2 ⟨rfl, f2⟩
        go_wp2_with fail
        refine (H2.out _ _ (f2.blk hb (by simp))).mono ?_
        rintro e w3 ⟨rfl, f3⟩
        go_wp2_with (refine wpList_bytes_own rfl 9 32 5 _ rfl n rfl Hmx.out Try.underlying9 Try.underlying32 Try.underlying5 ?_; intro w4 c4 f4 hlt4 ho4; rw [Hnn.out] at ho4; simp only [World.size_alloc, World.size_drew, Act.put, List.setIfInBounds_toArray, List.set_cons_succ, List.set_cons_zero])
        obtain ⟨bn, hbn⟩ : ∃ bn, w3.heap.size = bn := ⟨_, rfl⟩
        rw [hbn] at ho4 hlt4 ⊢
        obtain ⟨cs, hcs1, hcs2, hcs3, _⟩ := ho4.blkOf
        have hb3 : Blk w3 p (ciph T) := f3.blk (f2.blk hb (by simp)) (by simp)
        have hpn : p < bn := by have := hb3.lt; omega
        have hb4 := f4.blk hb3 (by simp)
        have g4 : Fr [] w w4 := ((f1.trans' f2).trans' f3).trans' f4
        have hwn : w.heap.size ≤ bn := by have := ((f1.trans' f2).trans' f3).size; omega
        have q0 : ∃ cs, Blk w4 bn cs ∧ cs.take 16 = bv nn ∧ 16 ≤ cs.length := ⟨cs, hcs1, by rw [← Hn16.out]; exact hcs3, by rw [← Hn16.out]; exact hcs2⟩
        have hn16i : 16 ≤ n.size := by rw [Hn16.out]; exact Nat.le_refl _
        clear ho4 hlt4 hbn hb3 hb hp f1 f2 f3 f4 hcs1 hcs2 hcs3
        go_loopw [14] (fun iv wr => ∃ (r : Nat) (L : List UInt8), r ≤ 16 ∧ iv = .int .i64 ((r : Int) - 1) ∧ Blk wr p (ciph T) ∧ (∃ cs, Blk wr bn cs ∧ cs.take 16 = bv L ∧ 16 ≤ cs.length) ∧ L.length = 16 ∧ Hid (incF 16 nn = incF r L) ∧ Fr [] w wr) (fun iv _ => (intOf iv + 1).toNat)
        case atStart => exact ⟨16, nn, by decide, rfl, hb4, q0, Hnl.out, hid rfl, g4⟩
        case round =>
          obtain ⟨r, L, hr, rfl, b1, ⟨cs, b3, hcs, hcl⟩, hLl, hE, f⟩ := hrel
          clear q0 hb4 g4
          cases r with
          | zero =>
            have HD := hid (show incF 16 nn = L by rw [hE.out]; rfl)
            have HDl := hid hLl
            clear hE hLl hr
            have Hcs := hid hcs
            clear hcs
            by_cases hs16 : s.size < 16
            · have hd5 : decide ((s.size : Int) < 16) = true := by simp; omega
              go_wp2_with (fail)
              refine alive_any.mono ?_
              rintro e w9 ⟨rfl, f9⟩
              go_wp2_with fail
              go_ret
              exact ⟨rfl, (f).trans' f9⟩
            · have hd5 : decide ((s.size : Int) < 16) = false := by simp; omega
              have h16s : 16 ≤ s.size := by omega
              have h16a := H16A.out h16s
              go_wp2_with (fail)
              have hcv : (convert 32 9 (.slice (some ⟨bn, 0, none⟩) n.size c4)).run Try.prog wr.drew = .ok (.string ⟨(incF 16 nn).toArray⟩) wr.drew := by
                have hl : (incF 16 nn).length = n.size := by rw [HD.out, HDl.out, Hn16.out]
                have := run_string_of_bytes (P := Try.prog) wr.drew 32 9 5 (b3).drew (incF 16 nn) c4 (by rw [List.drop_zero, HD.out, HDl.out]; exact Hcs.out) Try.underlying32 Try.underlying5 Try.underlying9
                rw [hl] at this
                exact this
              refine wp_region_D (fun _ => True) false [] (by kernel_rfl) ?_
              refine WD.pure [0, 1, 2, 3, 4] (by kernel_rfl) trivial ?_
              simp only [pick, List.toList_toArray, List.map_cons, List.map_nil, List.getD_cons_succ, List.getD_cons_zero]
              repeat (first | go_big_quiet_step (fail))
              refine wpQuiet_nil ?_
              refine WD.eff 5 (by kernel_rfl) ?_
              simp only [pick, List.toList_toArray, List.map_cons, List.map_nil, List.getD_cons_succ, List.getD_cons_zero]
              go_wp2_with (go_at_call 19; refine (H3.out h16s _ _ (Blk.drew (b1))).mono ?_; rintro e w8 ⟨rfl, f8⟩)
              try refine wpList_nil ?_
              refine AfterD.on trivial (by kernel_rfl) ?_
              try simp only [World.size_alloc, World.size_drew, Act.put, List.setIfInBounds_toArray, List.set_cons_succ, List.set_cons_zero]
              refine WD.pure [6, 7, 8, 9, 10] (by kernel_rfl) trivial ?_
              simp only [pick, List.toList_toArray, List.map_cons, List.map_nil, List.getD_cons_succ, List.getD_cons_zero]
              repeat (first | go_big_quiet_step (fail))
              refine wpQuiet_nil ?_
              refine WD.done (by kernel_rfl) ?_
              clear hcv
              go_wp2_with fail
              refine alive_any.mono ?_
              rintro e w9 ⟨rfl, f9⟩
              go_wp2_with fail
              go_ret
              exact ⟨rfl, (((f).drew).trans' f8).trans' f9⟩
          | succ q =>
            rw [show (((q + 1 : Nat) : Int) - 1) = (q : Int) by omega]
            obtain ⟨X, hX⟩ : ∃ X, g8 L q = X := ⟨_, rfl⟩
            obtain ⟨Y, hY⟩ : ∃ Y, X + c8 1 = Y := ⟨_, rfl⟩
            have hq : q < 16 := by omega
            have k1 : wr.cell? ⟨bn, q, none⟩ = some (bt X) := by
              rw [b3.cell]
              have : (cs.take 16)[q]? = (bv L)[q]? := by rw [hcs]
              rw [List.getElem?_take, if_pos hq, bv_getElem?, g8_eq L q (by omega), hX] at this
              exact this
            have HLl := hid hLl
            have hE2 : incF 16 nn = if Y.toNat = 0 then incF q (L.set q Y) else L.set q Y := by
              have h := hE.out
              generalize incF 16 nn = Z at h ⊢
              rw [incF, hX, hY] at h
              exact h
            have HYe := hid hY
            have Hcs0 := hid (show (cs.set q (bt Y)).take 16 = bv (L.set q Y) by rw [List.take_set, hcs, bv_set])
            have hqc : q < cs.length := by omega
            have hqn : q < n.size := by omega
            clear hX hY hLl hE hcs
            by_cases hy0 : Y.toNat = 0
            · have hne2 : ((Y.toNat : Int) != 0) = false := by rw [hy0]; rfl
              rw [if_pos hy0] at hE2
              have HE2 := hid hE2
              clear hE2 hy0
              go_wp2_with (refine wpList_put rfl _ _ _ rfl rfl (bt Y) (by rw [← HYe.out]; rfl) rfl b3 hqc (by kernel_rfl) ?_; intro w6 f6 b6 hs6; have k6 : w6.cell? ⟨bn, q, none⟩ = some (bt Y) := (by rw [b6.cell, List.getElem?_set_self hqc]); simp only [World.size_alloc, World.size_drew, Act.put, List.setIfInBounds_toArray, List.set_cons_succ, List.set_cons_zero])
              go_roundw
              case rel => exact ⟨q, L.set q Y, by omega, rfl, f6.blk b1 (by simp; omega), ⟨_, b6, Hcs0.out, by rw [List.length_set]; exact hcl⟩, by rw [List.length_set]; exact HLl.out, HE2, f.trans f6 (by simp; omega)⟩
              case measure => simp [intOf]
            · have hne2 : ((Y.toNat : Int) != 0) = true := by simp; omega
              rw [if_neg hy0] at hE2
              obtain ⟨D, hD⟩ : ∃ D, L.set q Y = D := ⟨_, rfl⟩
              have HD := hid (show incF 16 nn = D by rw [hE2, hD])
              have HDl := hid (show D.length = 16 by rw [← hD, List.length_set]; exact HLl.out)
              have Hcs := hid (show (cs.set q (bt Y)).take 16 = bv D by rw [Hcs0.out, hD])
              clear hE2 hy0 hD
              by_cases hs16 : s.size < 16
              · have hd5 : decide ((s.size : Int) < 16) = true := by simp; omega
                go_wp2_with (refine wpList_put rfl _ _ _ rfl rfl (bt Y) (by rw [← HYe.out]; rfl) rfl b3 hqc (by kernel_rfl) ?_; intro w6 f6 b6 hs6; have k6 : w6.cell? ⟨bn, q, none⟩ = some (bt Y) := (by rw [b6.cell, List.getElem?_set_self hqc]); simp only [World.size_alloc, World.size_drew, Act.put, List.setIfInBounds_toArray, List.set_cons_succ, List.set_cons_zero])
                refine alive_any.mono ?_
                rintro e w9 ⟨rfl, f9⟩
                go_wp2_with fail
                go_ret
                exact ⟨rfl, (f.trans f6 (by simp; omega)).trans' f9⟩
              · have hd5 : decide ((s.size : Int) < 16) = false := by simp; omega
                have h16s : 16 ≤ s.size := by omega
                have h16a := H16A.out h16s
                go_wp2_with (refine wpList_put rfl _ _ _ rfl rfl (bt Y) (by rw [← HYe.out]; rfl) rfl b3 hqc (by kernel_rfl) ?_; intro w6 f6 b6 hs6; have k6 : w6.cell? ⟨bn, q, none⟩ = some (bt Y) := (by rw [b6.cell, List.getElem?_set_self hqc]); simp only [World.size_alloc, World.size_drew, Act.put, List.setIfInBounds_toArray, List.set_cons_succ, List.set_cons_zero])
                have hcv : (convert 32 9 (.slice (some ⟨bn, 0, none⟩) n.size c4)).run Try.prog w6.drew = .ok (.string ⟨(incF 16 nn).toArray⟩) w6.drew := by
                  have hl : (incF 16 nn).length = n.size := by rw [HD.out, HDl.out, Hn16.out]
                  have := run_string_of_bytes (P := Try.prog) w6.drew 32 9 5 (b6).drew (incF 16 nn) c4 (by rw [List.drop_zero, HD.out, HDl.out]; exact Hcs.out) Try.underlying32 Try.underlying5 Try.underlying9
                  rw [hl] at this
                  exact this
                refine wp_region_D (fun _ => True) false [] (by kernel_rfl) ?_
                refine WD.pure [0, 1, 2, 3, 4] (by kernel_rfl) trivial ?_
                simp only [pick, List.toList_toArray, List.map_cons, List.map_nil, List.getD_cons_succ, List.getD_cons_zero]
                repeat (first | go_big_quiet_step (fail))
                refine wpQuiet_nil ?_
                refine WD.eff 5 (by kernel_rfl) ?_
                simp only [pick, List.toList_toArray, List.map_cons, List.map_nil, List.getD_cons_succ, List.getD_cons_zero]
                go_wp2_with (go_at_call 19; refine (H3.out h16s _ _ (Blk.drew (f6.blk b1 (by simp; omega)))).mono ?_; rintro e w8 ⟨rfl, f8⟩)
                try refine wpList_nil ?_
                refine AfterD.on trivial (by kernel_rfl) ?_
                try simp only [World.size_alloc, World.size_drew, Act.put, List.setIfInBounds_toArray, List.set_cons_succ, List.set_cons_zero]
                refine WD.pure [6, 7, 8, 9, 10] (by kernel_rfl) trivial ?_
                simp only [pick, List.toList_toArray, List.map_cons, List.map_nil, List.getD_cons_succ, List.getD_cons_zero]
                repeat (first | go_big_quiet_step (fail))
                refine wpQuiet_nil ?_
                refine WD.done (by kernel_rfl) ?_
                clear hcv
                go_wp2_with fail
                refine alive_any.mono ?_
                rintro e w9 ⟨rfl, f9⟩
                go_wp2_with fail
                go_ret
                exact ⟨rfl, (((f.trans f6 (by simp; omega)).drew).trans' f8).trans' f9⟩
end Go.Proofs.Ytnkcogaaajkplaa
