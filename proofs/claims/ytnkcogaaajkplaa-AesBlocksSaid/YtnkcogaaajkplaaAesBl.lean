/- Layer 3: AesBlocks, the walk. -/
import Derived.Test.YtnkcogaaajkplaaAesR
import Derived.Test.YtnkcogaaajkplaaAesQ
namespace Go.Xr
open Go
set_option linter.unusedVariables false
theorem ciT_sub (key : List UInt8) (hk : key.length = 16) (i : Nat) (hi : i < 256) : g8 (ciT key) (176 + i) = g8 subT i := TT_sub _ _ _ (by rw [KS_len _ _ hk]; decide) subT_len i hi
theorem ciT_uns (key : List UInt8) (hk : key.length = 16) (i : Nat) (hi : i < 256) : g8 (ciT key) (432 + i) = g8 unsT i := TT_uns _ _ _ (by rw [KS_len _ _ hk]; decide) subT_len i hi
theorem ciT_tab (key : List UInt8) (hk : key.length = 16) : Tab (ciT key) where
  len := ciT_len key hk
  us b := by rw [ciT_sub key hk _ b.toNat_lt, ciT_uns key hk _ (UInt8.toNat_lt _)]; exact (us b).1
  su b := by rw [ciT_uns key hk _ b.toNat_lt, ciT_sub key hk _ (UInt8.toNat_lt _)]; exact (us b).2
theorem list_g8 {l k : List UInt8} (n : Nat) (hl : l.length = n) (hk : k.length = n) (h : ∀ i, i < n → g8 l i = g8 k i) : l = k := by
  apply List.ext_getElem?
  intro i
  by_cases hi : i < n
  · rw [g8_eq l i (by omega), g8_eq k i (by omega), h i hi]
  · rw [List.getElem?_eq_none (by omega), List.getElem?_eq_none (by omega)]
theorem subOf_ciT (key : List UInt8) (hk : key.length = 16) : subOf (ciT key) = subT :=
  list_g8 256 (subOf_len _ (ciT_len key hk)) subT_len fun i hi => by rw [subOf_get _ _ hi, ciT_sub key hk i hi]
theorem unsOf_ciT (key : List UInt8) (hk : key.length = 16) : unsOf (ciT key) = unsT :=
  list_g8 256 (unsOf_len _ (ciT_len key hk)) unsT_len fun i hi => by rw [unsOf_get _ _ hi, ciT_uns key hk i hi]
theorem mk_toList (s : ByteArray) : (⟨s.data.toList.toArray⟩ : ByteArray) = s := by simp
end Go.Xr
namespace Go.Proofs.Ytnkcogaaajkplaa
open Go Go.Xr Go.RowKit
set_option linter.unusedVariables false
set_option linter.unusedSimpArgs false

set_option maxRecDepth 20000 in
set_option maxHeartbeats 1000000 in
theorem blocks_walk {w : World} (k s : ByteArray) (hk : k.size ≤ 9223372036854775807) (hs : s.size ≤ 9223372036854775807) : Calls Try.prog 4 #[.string k, .string s] w fun e w' => e = .returned (.bool true) ∧ Fr [] w w' := by
  by_cases h16 : k.size = 16
  case neg =>
    have hne : ((k.size : Int) != 16) = true := by simp; omega
    have Hn := hid (new_bad (w := w) k h16 hk)
    clear h16
    go_enter Try.func4, Try.ntmps4
    go_wp2_with fail
    refine Hn.out.mono ?_
    rintro e w' ⟨rfl, rfl⟩
    go_wp2_with fail
    refine alive_any.mono ?_
    rintro e w1 ⟨rfl, f1⟩
    go_wp2_with fail
    go_ret
    exact ⟨rfl, f1⟩
  case pos =>
    have hne : ((k.size : Int) != 16) = false := by rw [h16]; rfl
    have Hn := hid (new_any (w := w) k h16)
    have hkl : k.data.toList.length = 16 := by rw [Array.length_toList]; exact h16
    obtain ⟨key, hkey⟩ : ∃ key, k.data.toList = key := ⟨_, rfl⟩
    have Hkey := hid hkey
    rw [hkey] at Hn hkl
    have HT := hid (ciT_len key hkl)
    have Htab := hid (ciT_tab key hkl)
    have Hk16 := hid h16
    have Hkl := hid hkl
    clear hkey hkl h16
    by_cases hs16 : s.size = 16
    case neg =>
      have hne2 : ((s.size : Int) != 16) = true := by simp; omega
      have Hs16 := hid hs16
      clear hs16
      go_enter Try.func4, Try.ntmps4
      go_wp2_with fail
      refine Hn.out.mono ?_
      rintro e w1 ⟨p, rfl, hb, hp, f1⟩
      go_wp2_with fail
      refine (blockC_bad s HT.out Hs16.out hs hb).mono ?_
      rintro e w' ⟨rfl, rfl⟩
      go_wp2_with fail
      refine (backC_bad s HT.out Hs16.out hs hb).mono ?_
      rintro e w' ⟨rfl, rfl⟩
      go_wp2_with fail
      refine alive_any.mono ?_
      rintro e w2 ⟨rfl, f2⟩
      go_wp2_with fail
      go_ret
      exact ⟨rfl, f1.trans' f2⟩
    case pos =>
      have hne2 : ((s.size : Int) != 16) = false := by rw [hs16]; rfl
      have hsl : s.data.toList.length = 16 := by rw [Array.length_toList]; exact hs16
      have Hs16 := hid hs16
      have HX := hid (show (⟨(backS (ciT key) (blockS (ciT key) s.data.toList)).toArray⟩ : ByteArray) = s by rw [back_block Htab.out _ hsl])
      have HY := hid (show (⟨(blockS (ciT key) (backS (ciT key) s.data.toList)).toArray⟩ : ByteArray) = s by rw [block_back Htab.out _ hsl])
      clear hs16 hsl
      go_enter Try.func4, Try.ntmps4
      go_wp2_with fail
      refine Hn.out.mono ?_
      rintro e w1 ⟨p, rfl, hb, hp, f1⟩
      go_wp2_with fail
      refine (blockC_any s HT.out Hs16.out hb).mono ?_
      rintro e w2 ⟨rfl, f2⟩
      go_wp2_with fail
      refine (backC_any s HT.out Hs16.out (f2.blk hb (by simp))).mono ?_
      rintro e w3 ⟨rfl, f3⟩
      have f23 := f2.trans' f3
      go_wp2_with fail
      refine table_f.mono ?_
      rintro e w4 ⟨N4, rfl, hN4, hge4, f4⟩
      go_wp2_with fail
      refine (rrounds_any k (Sb.of' hN4 subT_len (by decide) (by decide)) Hk16.out).mono ?_
      rintro e w5 ⟨v5, rfl, hv5, f5⟩
      rw [Hkey.out] at hv5
      have hb5 := f5.blk (f4.blk (f23.blk hb (by simp)) (by simp)) (by simp)
      go_wp2_with fail
      refine (rounds_any HT.out hb5).mono ?_
      rintro e w6 ⟨v6, rfl, hv6, f6⟩
      have hv56 := hv5.keep f6
      have hN6 := f6.blk (f5.blk hN4 (by simp)) (by simp)
      have hb6 := f6.blk hb5 (by simp)
      have g6 := ((((f1.trans' f23).trans' f4).trans' f5).trans' f6)
      clear hv5 hb5 hN4 hge4 f1 f2 f3 f4 f5 f6 f23 hp hb
      obtain ⟨b5, c5, rfl, hl5, hm5, hlt5, hc5⟩ := id hv56
      obtain ⟨b6, c6, rfl, hl6, hm6, hlt6, hc6⟩ := id hv6
      have Hv5 := hid hv56
      have Hc5 := hid hc5
      have Hc6 := hid hc6
      rw [keysOf_len] at Hc5 Hc6 hl5 hl6
      have Hl := hid (keysOf_len (ciT key))
      clear hc5 hc6 hv56 hv6
      rw [Hl.out] at Hv5 ⊢
      have hlen : ((11 : Nat) : Int) = 11 := rfl
      go_wp2_with fail
      clear hlen
      go_loopw [14] (fun iv wr => ∃ i : Nat, i ≤ 11 ∧ iv = .int .i64 i ∧ Fr [] w6 wr) (fun iv _ => 11 - (intOf iv).toNat)
      case atStart => exact ⟨0, by decide, rfl, Fr.refl _ _⟩
      case round =>
        obtain ⟨i, hi, rfl, f7⟩ := hrel
        by_cases hli : i < 11
        · have hd : decide ((i : Int) < 11) = true := by simp; omega
          have k5 := f7.cell_some (Hc5.out i hli)
          have k6 := f7.cell_some (Hc6.out i hli)
          obtain ⟨K, hK⟩ : ∃ K, (keysOf (ciT key)).getD i ⟨#[]⟩ = K := ⟨_, rfl⟩
          rw [hK] at k5 k6
          clear hK
          go_wp2_with fail
          refine wp_region_D (fun _ => True) false [] (by kernel_rfl) ?_
          refine WD.pure [0, 1, 2, 3, 4, 5, 6, 7, 8] (by kernel_rfl) trivial ?_
          simp only [pick, List.toList_toArray, List.map_cons, List.map_nil, List.getD_cons_succ, List.getD_cons_zero]
          repeat (first | go_big_quiet_step (fail))
          refine wpQuiet_nil ?_
          refine WD.done (by kernel_rfl) ?_
          go_wp2_with fail
          go_roundw
          case rel => exact ⟨i + 1, by omega, by go_num, f7.drew⟩
          case measure => simp [intOf]; omega
        · have hd : decide ((i : Int) < 11) = false := by simp; omega
          have hv7 := Hv5.out.keep f7
          have hN7 := f7.blk hN6 (by simp)
          have hb7 := f7.blk hb6 (by simp)
          have g7 := g6.trans' f7
          clear hli hi hN6 hb6 g6 f7
          go_wp2_with fail
          refine (backC_any ⟨(blockS (ciT key) s.data.toList).toArray⟩ HT.out (by show (blockS (ciT key) s.data.toList).toArray.size = 16; rw [List.size_toArray, blockS_len]) hb7).mono ?_
          rintro e w8 ⟨rfl, f8⟩
          go_wp2_with fail
          refine (blockC_any ⟨(backS (ciT key) s.data.toList).toArray⟩ HT.out (by show (backS (ciT key) s.data.toList).toArray.size = 16; rw [List.size_toArray, backS_len]) (f8.blk hb7 (by simp))).mono ?_
          rintro e w9 ⟨rfl, f9⟩
          have f89 := f8.trans' f9
          go_wp2_with fail
          rw [HX.out, HY.out]
          refine (rblock_any s (hv7.keep f89) (by rw [subOf_ciT key Hkl.out]; exact Sb.of' (f89.blk hN7 (by simp)) subT_len (by decide) (by decide)) HT.out Hs16.out).mono ?_
          rintro e w10 ⟨rfl, f10⟩
          go_wp2_with fail
          refine table_t.mono ?_
          rintro e w11 ⟨N11, rfl, hN11, hge11, f11⟩
          go_wp2_with fail
          refine (rback_any s (hv7.keep ((f89.trans' f10).trans' f11)) (by rw [unsOf_ciT key Hkl.out]; exact Sb.of' hN11 unsT_len (by decide) (by decide)) HT.out Hs16.out).mono ?_
          rintro e w12 ⟨rfl, f12⟩
          go_wp2_with fail
          refine alive_any.mono ?_
          rintro e w13 ⟨rfl, f13⟩
          go_wp2_with fail
          go_ret
          exact ⟨rfl, ((((g7.trans' f89).trans' f10).trans' f11).trans' f12).trans' f13⟩
end Go.Proofs.Ytnkcogaaajkplaa
