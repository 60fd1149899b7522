/- Layer 3, the document's aes: with, mix, the tables. -/
import Derived.Test.YtnkcogaaajkplaaAesL
import Derived.Test.YtnkcogaaajkplaaAesC
namespace Go.Xr
open Go
set_option linter.unusedVariables false
/-- v is a slice that starts at the head of a block and reads as the bytes l. -/
def Sb (w : World) (v : Value) (l : List UInt8) : Prop := ∃ b cap cs, v = .slice (some ⟨b, 0, none⟩) l.length cap ∧ l.length ≤ cap ∧ cap ≤ maxLen ∧ Blk w b cs ∧ cs.take l.length = bv l
theorem Sb.keep {w w' : World} {v : Value} {l : List UInt8} (h : Sb w v l) (f : Fr [] w w') : Sb w' v l := by
  obtain ⟨b, cap, cs, h1, h2, h3, h4, h5⟩ := h
  exact ⟨b, cap, cs, h1, h2, h3, f.blk h4 (by simp), h5⟩
theorem Sb.cells {w : World} {v : Value} {l : List UInt8} (h : Sb w v l) : ∃ b cap, v = .slice (some ⟨b, 0, none⟩) l.length cap ∧ l.length ≤ cap ∧ cap ≤ maxLen ∧ b < w.heap.size ∧ ∀ j, j < l.length → w.cell? ⟨b, j, none⟩ = some (bt (g8 l j)) := by
  obtain ⟨b, cap, cs, h1, h2, h3, h4, h5⟩ := h
  refine ⟨b, cap, h1, h2, h3, h4.lt, fun j hj => ?_⟩
  have : (cs.take l.length)[j]? = (bv l)[j]? := by rw [h5]
  rw [List.getElem?_take, if_pos hj, bv_getElem?, g8_eq l j hj] at this
  rw [h4.cell, this]
  rfl
theorem Sb.of {w : World} {b cap : Nat} {l : List UInt8} (h : Blk w b (bv l)) (hn : l.length ≤ cap) (hc : cap ≤ maxLen) : Sb w (.slice (some ⟨b, 0, none⟩) l.length cap) l :=
  ⟨b, cap, _, rfl, hn, hc, h, List.take_of_length_le (by rw [bv_length]; exact Nat.le_refl _)⟩
theorem cells_keep {w w' : World} {S : List Nat} {b n : Nat} {f : Nat → Value} (h : ∀ j, j < n → w.cell? ⟨b, j, none⟩ = some (f j)) (fr : Fr S w w') (hb : b < w.heap.size) (hS : b ∉ S) : ∀ j, j < n → w'.cell? ⟨b, j, none⟩ = some (f j) := fun j hj =>
  (World.cell?_of_block (w := w) (fr.block b hb hS)).trans (h j hj)
end Go.Xr
namespace Go.Proofs.Ytnkcogaaajkplaa
open Go Go.Xr Go.RowKit
set_option linter.unusedVariables false
set_option linter.unusedSimpArgs false
attribute [local go_sem] xor_u8 xor_u8_c at_bt

set_option maxRecDepth 20000 in
theorem rwith_any {w : World} {v : Value} {A : List UInt8} (s : ByteArray) (hv : Sb w v A) (hA : A.length = 16) (hs : s.size = 16) :
    Calls Try.prog 27 #[v, .string s] w fun e w' => ∃ N, e = .returned (.slice (some ⟨N, 0, none⟩) 16 16) ∧ Blk w' N (bv (xorL A s.data.toList)) ∧ w.heap.size ≤ N ∧ Fr [] w w' := by
  obtain ⟨i5, hi5, hz5, hs5, hb5⟩ := inf5
  have Hi := hid hi5
  have Hz := hid hz5
  have Hs := hid hs5
  have Hb := hid hb5
  obtain ⟨ba, ca, rfl, hc1, hc2, hlt, hcell⟩ := hv.cells
  rw [hA] at hcell hc1
  rw [hA]
  unfold maxLen at hc2
  have Hc := hid hcell
  have HA := hid hA
  have Hsz := hid hs
  obtain ⟨K, hK⟩ : ∃ K, s.data.toList = K := ⟨_, rfl⟩
  have HK := hid hK
  clear hi5 hz5 hs5 hb5 hcell hA hs hv hK
  rw [HK.out]
  go_enter Try.func27, Try.ntmps27
  go_wp2_with (refine wpList_make_blk rfl _ _ _ rfl 16 16 .i64 .i64 rfl rfl 5 _ _ 1 Try.underlying32 Hi.out Hz.out Hs.out Hb.out rfl (by decide) (by decide) (by decide) ?_; intro w1 f1 hlt1 hb1; simp only [World.size_alloc, World.size_drew, Act.put, List.setIfInBounds_toArray, List.set_cons_succ, List.set_cons_zero])
  obtain ⟨N, hN⟩ : ∃ N, w.heap.size = N := ⟨_, rfl⟩
  rw [hN] at hb1 hlt hlt1 ⊢
  have HN := hid hN
  have q1 : Blk w1 N (bv (partL (xorL A K) 0)) := by rw [partL_zero]; exact hb1
  have Hc1 := hid (cells_keep Hc.out f1 (by omega) (by simp))
  clear hb1 hN
  go_loopw [6] (fun iv wr => ∃ i : Nat, i ≤ 16 ∧ iv = .int .i64 i ∧ Blk wr N (bv (partL (xorL A K) i)) ∧ Hid (∀ j, j < 16 → wr.cell? ⟨ba, j, none⟩ = some (bt (g8 A j))) ∧ Fr [] w wr) (fun iv _ => 16 - (intOf iv).toNat)
  case atStart => exact ⟨0, by omega, rfl, q1, Hc1, f1⟩
  case round =>
    obtain ⟨i, hi, rfl, b1, hc, f⟩ := hrel
    clear q1 f1 Hc1
    by_cases hli : i < 16
    · have hd : decide ((i : Int) < 16) = true := by simp; omega
      have k1 := hc.out i hli
      have hix : ∀ w0 : World, (Instr.index 9 (.string s) (.int .i64 i)).run Try.prog w0 = .ok (bt (g8 K i)) w0 := fun w0 => by
        have := index_str (P := Try.prog) w0 9 s .i64 i i Try.underlying9 rfl (by rw [Hsz.out]; exact hli) 0
        rw [HK.out] at this
        exact this
      have HX := hid (show g8 (xorL A K) i = g8 A i ^^^ g8 K i by simp [g8, xorL, hli])
      go_wp2_with fail
      refine wp_region_D (fun _ => True) false [] (by kernel_rfl) ?_
      refine WD.pure [0, 1, 2, 3, 4, 5, 6, 7, 8, 9, 10] (by kernel_rfl) trivial ?_
      simp only [pick, List.toList_toArray, List.map_cons, List.map_nil, List.getD_cons_succ, List.getD_cons_zero]
      repeat (first | go_big_quiet_step (fail))
      refine wpQuiet_nil ?_
      refine WD.eff 11 (by kernel_rfl) ?_
      simp only [pick, List.toList_toArray, List.map_cons, List.map_nil, List.getD_cons_succ, List.getD_cons_zero]
      refine wpList_put rfl _ _ _ rfl rfl (bt (g8 (xorL A K) i)) (by rw [HX.out]; rfl) rfl b1.drew (by rw [bv_length, partL_len _ (xorL_len _ _) i hi]; exact hli) (by kernel_rfl) ?_
      intro w2 f2 b2 hs2
      try refine wpList_nil ?_
      refine AfterD.on trivial (by kernel_rfl) ?_
      refine WD.done (by kernel_rfl) ?_
      rw [← bv_set, partL_set _ (xorL_len _ _) i hli] at b2
      have f3 : Fr [N] wr w2 := ((Fr.refl _ wr).drew).trans' f2
      have hlr := b1.lt
      clear hix k1 f2
      go_wp2_with fail
      go_roundw
      case rel => exact ⟨i + 1, by omega, by go_num, b2, hid (cells_keep hc.out f3 (by omega) (by simp; omega)), f.trans f3 (by simp; have := HN.out; omega)⟩
      case measure => simp [intOf]; omega
    · have hd : decide ((i : Int) < 16) = false := by simp; omega
      have ei : i = 16 := by omega
      rw [ei, partL_all _ (xorL_len _ _)] at b1
      clear ei hi hli
      go_wp2_with fail
      go_ret
      exact ⟨N, rfl, b1, by have := HN.out; omega, f⟩

set_option maxRecDepth 20000 in
set_option maxHeartbeats 1000000 in
theorem rmix_any {w : World} {v u : Value} {A F : List UInt8} (hv : Sb w v A) (hA : A.length = 16) (hu : Sb w u F) (hF : F.length = 4) :
    Calls Try.prog 28 #[v, u] w fun e w' => ∃ N, e = .returned (.slice (some ⟨N, 0, none⟩) 16 16) ∧ Blk w' N (bv (mixL F A)) ∧ w.heap.size ≤ N ∧ Fr [] w w' := by
  obtain ⟨i5, hi5, hz5, hs5, hb5⟩ := inf5
  have Hi := hid hi5
  have Hz := hid hz5
  have Hs := hid hs5
  have Hb := hid hb5
  obtain ⟨ba, ca, rfl, hc1, hc2, hlt, hcell⟩ := hv.cells
  obtain ⟨bf, cf, rfl, hc3, hc4, hlt2, hcell2⟩ := hu.cells
  rw [hA] at hcell hc1
  rw [hF] at hcell2 hc3
  rw [hA, hF]
  unfold maxLen at hc2 hc4
  have Hc := hid hcell
  have Hd := hid hcell2
  clear hi5 hz5 hs5 hb5 hcell hcell2 hA hv hu hF
  go_enter Try.func28, Try.ntmps28
  go_wp2_with (refine wpList_make_blk rfl _ _ _ rfl 16 16 .i64 .i64 rfl rfl 5 _ _ 1 Try.underlying32 Hi.out Hz.out Hs.out Hb.out rfl (by decide) (by decide) (by decide) ?_; intro w1 f1 hlt1 hb1; simp only [World.size_alloc, World.size_drew, Act.put, List.setIfInBounds_toArray, List.set_cons_succ, List.set_cons_zero])
  obtain ⟨N, hN⟩ : ∃ N, w.heap.size = N := ⟨_, rfl⟩
  rw [hN] at hb1 hlt hlt2 hlt1 ⊢
  have HN := hid hN
  have q1 : Blk w1 N (bv (mixI F A (4 * 0))) := by rw [Nat.mul_zero, mixI_zero]; exact hb1
  have Hc1 := hid (cells_keep Hc.out f1 (by omega) (by simp))
  have Hd1 := hid (cells_keep Hd.out f1 (by omega) (by simp))
  clear hb1 hN
  go_loopw [6] (fun iv wr => ∃ c : Nat, c ≤ 4 ∧ iv = .int .i64 c ∧ Blk wr N (bv (mixI F A (4 * c))) ∧ Hid (∀ j, j < 16 → wr.cell? ⟨ba, j, none⟩ = some (bt (g8 A j))) ∧ Hid (∀ j, j < 4 → wr.cell? ⟨bf, j, none⟩ = some (bt (g8 F j))) ∧ Fr [] w wr) (fun iv _ => 4 - (intOf iv).toNat)
  case atStart => exact ⟨0, by omega, rfl, q1, Hc1, Hd1, f1⟩
  case round =>
    obtain ⟨c, hcc, rfl, b1, hc, hd, f⟩ := hrel
    clear q1 f1 Hc1 Hd1
    by_cases hlc : c < 4
    · have hd1 : decide ((c : Int) < 4) = true := by simp; omega
      go_wp2_with fail
      clear hd1
      go_loopw [7] (fun iv wr => ∃ r : Nat, r ≤ 4 ∧ iv = .int .i64 r ∧ Blk wr N (bv (mixI F A (4 * c + r))) ∧ Hid (∀ j, j < 16 → wr.cell? ⟨ba, j, none⟩ = some (bt (g8 A j))) ∧ Hid (∀ j, j < 4 → wr.cell? ⟨bf, j, none⟩ = some (bt (g8 F j))) ∧ Fr [] w wr) (fun iv _ => 4 - (intOf iv).toNat)
      case atStart => exact ⟨0, by omega, rfl, b1, hc, hd, f⟩
      case round =>
        obtain ⟨r, hrr, rfl, b2, hc2, hd2, f2⟩ := hrel
        clear b1 hc hd f
        by_cases hlr : r < 4
        · have hd1 : decide ((r : Int) < 4) = true := by simp; omega
          obtain ⟨i, hi⟩ : ∃ i, 4 * c + r = i := ⟨_, rfl⟩
          have hi16 : i < 16 := by omega
          rw [hi, ← mixI_start F A i hi16] at b2
          go_wp2_with fail
          clear hd1
          go_loopw [8] (fun iv wr => ∃ k : Nat, k ≤ 4 ∧ iv = .int .i64 k ∧ Blk wr N (bv ((mixI F A i).set i (mixP F A i k))) ∧ Hid (∀ j, j < 16 → wr.cell? ⟨ba, j, none⟩ = some (bt (g8 A j))) ∧ Hid (∀ j, j < 4 → wr.cell? ⟨bf, j, none⟩ = some (bt (g8 F j))) ∧ Fr [] w wr) (fun iv _ => 4 - (intOf iv).toNat)
          case atStart => exact ⟨0, by omega, rfl, b2, hc2, hd2, f2⟩
          case round =>
            obtain ⟨k, hkk, rfl, b3, hc3, hd3, f3⟩ := hrel
            clear b2 hc2 hd2 f2
            by_cases hlk : k < 4
            · have hd1 : decide ((k : Int) < 4) = true := by simp; omega
              have hml := mixI_len F A i (by omega)
              obtain ⟨P, hP⟩ : ∃ P, mixP F A i k = P := ⟨_, rfl⟩
              obtain ⟨X, hX⟩ : ∃ X, g8 F ((k + 4 - r) % 4) = X := ⟨_, rfl⟩
              obtain ⟨Y, hY⟩ : ∃ Y, g8 A (4 * c + k) = Y := ⟨_, rfl⟩
              have Hnx := hid (show mixP F A i (k + 1) = P ^^^ times X Y by
                rw [mixP, hP, show (k + 4 - i % 4) % 4 = (k + 4 - r) % 4 by omega, show i / 4 * 4 + k = 4 * c + k by omega, hX, hY])
              have k0 : wr.cell? ⟨N, 4 * c + r, none⟩ = some (bt P) := by rw [hi, b3.cell, bv_getElem?, List.getElem?_set_self (by omega), hP]; rfl
              obtain ⟨J, hJ⟩ : ∃ J, (k + 4 - r) % 4 = J := ⟨_, rfl⟩
              have k1 : wr.cell? ⟨bf, J, none⟩ = some (bt X) := by rw [hd3.out _ (by omega), ← hJ, hX]
              have k2 : wr.cell? ⟨ba, 4 * c + k, none⟩ = some (bt Y) := by rw [hc3.out _ (by omega), hY]
              have m1 : (((k : Int) - (r : Int)) % 4).toNat = J := by omega
              have m2 : (0 : Int) ≤ (k : Int) - (r : Int) + 4 := by omega
              have Hml := hid hml
              have Hii := hid hi
              clear hP hX hY hJ hi hml
              go_wp2_with fail
              refine wp_region_D (fun _ => True) false [27] (by kernel_rfl) ?_
              refine WD.pure [0, 1, 2, 3, 4, 5, 6, 7, 8, 9, 10, 11, 12, 13, 14, 15, 16, 17, 18, 19, 20, 21, 22, 23, 24, 25, 26] (by kernel_rfl) trivial ?_
              simp only [pick, List.toList_toArray, List.map_cons, List.map_nil, List.getD_cons_succ, List.getD_cons_zero]
              repeat (first | go_big_quiet_step (fail))
              refine wpQuiet_nil ?_
              refine WD.eff 27 (by kernel_rfl) ?_
              simp only [pick, List.toList_toArray, List.map_cons, List.map_nil, List.getD_cons_succ, List.getD_cons_zero]
              go_wp2_with (go_at_call 7; refine (rtimes_any _ _).mono ?_; rintro e w' ⟨rfl, rfl⟩)
              try refine wpList_nil ?_
              refine AfterD.quiet trivial rfl ?_
              refine WD.pure [28, 29] (by kernel_rfl) trivial ?_
              simp only [pick, List.toList_toArray, List.map_cons, List.map_nil, List.getD_cons_succ, List.getD_cons_zero]
              repeat (first | go_big_quiet_step (fail))
              refine wpQuiet_nil ?_
              refine WD.eff 30 (by kernel_rfl) ?_
              simp only [pick, List.toList_toArray, List.map_cons, List.map_nil, List.getD_cons_succ, List.getD_cons_zero]
              refine wpList_put rfl _ _ _ rfl rfl (bt (P ^^^ times X Y)) rfl rfl b3.drew (by rw [bv_length, List.length_set, Hml.out, Hii.out]; exact hi16) (by kernel_rfl) ?_
              intro w4 f4 b4 hs4
              try refine wpList_nil ?_
              refine AfterD.on trivial (by kernel_rfl) ?_
              refine WD.done (by kernel_rfl) ?_
              rw [← bv_set, Hii.out, List.set_set, ← Hnx.out] at b4
              have f5 : Fr [N] wr w4 := ((Fr.refl _ wr).drew).trans' f4
              have hl5 := b3.lt
              clear f4 hs4 k0 k1 k2
              go_wp2_with fail
              go_roundw
              case rel => exact ⟨k + 1, by omega, by go_num, b4, hid (cells_keep hc3.out f5 (by omega) (by simp; omega)), hid (cells_keep hd3.out f5 (by omega) (by simp; omega)), f3.trans f5 (by simp; have := HN.out; omega)⟩
              case measure => simp [intOf]; omega
            · have hd1 : decide ((k : Int) < 4) = false := by simp; omega
              have ek : k = 4 := by omega
              rw [ek, mixI_next F A i hi16] at b3
              rw [← hi] at b3
              clear ek hlk hkk hi
              go_wp2_with fail
              go_roundw
              case rel => exact ⟨r + 1, by omega, by go_num, b3, hc3, hd3, f3⟩
              case measure => simp [intOf]; omega
        · have hd1 : decide ((r : Int) < 4) = false := by simp; omega
          have er : r = 4 := by omega
          rw [er, show 4 * c + 4 = 4 * (c + 1) by omega] at b2
          clear er hlr hrr
          go_wp2_with fail
          go_roundw
          case rel => exact ⟨c + 1, by omega, by go_num, b2, hc2, hd2, f2⟩
          case measure => simp [intOf]; omega
    · have hd1 : decide ((c : Int) < 4) = false := by simp; omega
      have ec : c = 4 := by omega
      rw [ec, mixI_all] at b1
      clear ec hlc hcc
      go_wp2_with fail
      go_ret
      exact ⟨N, rfl, b1, by have := HN.out; omega, f⟩

theorem subT_of (i : Nat) (h : i < 256) : subS (UInt8.ofNat i) = Xr.g8 subT i := by
  rw [subT_spec, UInt8.toNat_ofNat', Nat.mod_eq_of_lt (by omega)]
/-- The first i bytes of the table. -/
def subI (i : Nat) : List UInt8 := subT.take i ++ List.replicate (256 - i) 0
theorem subI_len (i : Nat) (hi : i ≤ 256) : (subI i).length = 256 := by
  simp only [subI, List.length_append, List.length_take, List.length_replicate, subT_len]
  omega
theorem subI_all : subI 256 = subT := by
  unfold subI
  rw [List.take_of_length_le (by rw [subT_len]; exact Nat.le_refl _), Nat.sub_self, List.replicate_zero, List.append_nil]
theorem subI_set (i : Nat) (hi : i < 256) : (subI i).set i (Xr.g8 subT i) = subI (i + 1) := by
  have h : (subT.take i).length = i := by rw [List.length_take, subT_len]; omega
  have e : subT[i]'(by rw [subT_len]; exact hi) = Xr.g8 subT i := by simp [Xr.g8, List.getD, List.getElem?_eq_getElem (show i < subT.length by rw [subT_len]; exact hi)]
  unfold subI
  rw [List.set_append_right _ _ (by omega), h, Nat.sub_self, show 256 - i = (256 - (i + 1)) + 1 by omega, List.replicate_succ, List.set_cons_zero, List.take_succ_eq_append_getElem (by rw [subT_len]; exact hi), List.append_assoc, e]
  rfl
set_option maxRecDepth 20000 in
theorem table_f {w : World} :
    Calls Try.prog 14 #[.bool false] w fun e w' => ∃ N, e = .returned (.slice (some ⟨N, 0, none⟩) 256 256) ∧ Blk w' N (bv subT) ∧ w.heap.size ≤ N ∧ Fr [] w w' := by
  obtain ⟨i5, hi5, hz5, hs5, hb5⟩ := inf5
  have Hi := hid hi5
  have Hz := hid hz5
  have Hs := hid hs5
  have Hb := hid hb5
  clear hi5 hz5 hs5 hb5
  obtain ⟨L, hL⟩ : ∃ L : Nat → List UInt8, L = if false then unsI subT else subI := ⟨_, rfl⟩
  have hL0 : L 0 = List.replicate 256 0 := by rw [hL]; simp [unsI, subI]
  have hLl : ∀ i, i ≤ 256 → (L i).length = 256 := fun i hi => by rw [hL]; first | exact unsI_len _ _ | exact subI_len _ hi
  have hLs : ∀ i, i < 256 → (L i).set (if false then (Xr.g8 subT i).toNat else i) (if false then UInt8.ofNat i else Xr.g8 subT i) = L (i + 1) := fun i hi => by rw [hL]; first | rfl | exact subI_set i hi
  have hLe : L 256 = subT := by rw [hL]; first | exact unsI_all | exact subI_all
  have HLl := hid hLl
  have HLs := hid hLs
  have HLe := hid hLe
  have HL0 := hid hL0
  clear hL hL0 hLl hLs hLe
  go_enter Try.func14, Try.ntmps14
  go_wp2_with (refine wpList_make_blk rfl _ _ _ rfl 256 256 .i64 .i64 rfl rfl 5 _ _ 1 Try.underlying32 Hi.out Hz.out Hs.out Hb.out rfl (by decide) (by decide) (by decide) ?_; intro w1 f1 hlt1 hb1; simp only [World.size_alloc, World.size_drew, Act.put, List.setIfInBounds_toArray, List.set_cons_succ, List.set_cons_zero])
  obtain ⟨N, hN⟩ : ∃ N, w.heap.size = N := ⟨_, rfl⟩
  rw [hN] at hb1 hlt1 ⊢
  have HN := hid hN
  have q1 : Blk w1 N (bv (L 0)) := by rw [HL0.out, bv_replicate]; exact hb1
  clear hb1 hN
  go_loopw [4] (fun iv wr => ∃ i : Nat, i ≤ 256 ∧ iv = .int .i64 i ∧ Blk wr N (bv (L i)) ∧ Fr [] w wr) (fun iv _ => 256 - (intOf iv).toNat)
  case atStart => exact ⟨0, by omega, rfl, q1, f1⟩
  case round =>
    obtain ⟨i, hi, rfl, b1, f⟩ := hrel
    clear q1 f1
    by_cases hli : i < 256
    · have hd : decide ((i : Int) < 256) = true := by simp; omega
      have H := hid (rsub_any (w := wr) (UInt8.ofNat i))
      have H2 : Hid (Calls Try.prog 9 #[.int .u8 (i : Int)] wr fun e w' => e = .returned (bt (Xr.g8 subT i)) ∧ wr = w') := by
        rw [lit_u8 i hli, ← subT_of i hli]; exact H
      obtain ⟨X, hX⟩ : ∃ X, Xr.g8 subT i = X := ⟨_, rfl⟩
      have hx := X.toNat_lt
      have hx1 : (X.toNat : Int) < 256 := by omega
      have hx2 : X.toNat < 256 := hx
      have Hst := hid (HLs.out i hli)
      have Hl := hid (HLl.out i hi)
      rw [hX] at H2 Hst
      clear hX H
      go_wp2_with (first
        | (go_at_call 9; refine H2.out.mono ?_; rintro e w' ⟨rfl, rfl⟩)
        | (refine wpList_put rfl _ _ _ rfl rfl (bt (if false then UInt8.ofNat i else X)) (by first | rfl | exact lit_u8 i hli) rfl b1 (by rw [bv_length, Hl.out]; first | exact hx2 | exact hli) (by kernel_rfl) ?_; intro w2 f2 b2 hs2; simp only [World.size_alloc, World.size_drew, Act.put, List.setIfInBounds_toArray, List.set_cons_succ, List.set_cons_zero]))
      have b3 : Blk w2 N (bv (L (i + 1))) := by rw [← Hst.out, bv_set]; exact b2
      clear b2
      go_roundw
      case rel => exact ⟨i + 1, by omega, by go_num, b3, f.trans f2 (by simp; have := HN.out; omega)⟩
      case measure => simp [intOf]; omega
    · have hd : decide ((i : Int) < 256) = false := by simp; omega
      have ei : i = 256 := by omega
      rw [ei, HLe.out] at b1
      clear ei hi hli
      go_wp2_with fail
      go_ret
      exact ⟨N, rfl, b1, by have := HN.out; omega, f⟩
set_option maxRecDepth 20000 in
theorem table_t {w : World} :
    Calls Try.prog 14 #[.bool true] w fun e w' => ∃ N, e = .returned (.slice (some ⟨N, 0, none⟩) 256 256) ∧ Blk w' N (bv unsT) ∧ w.heap.size ≤ N ∧ Fr [] w w' := by
  obtain ⟨i5, hi5, hz5, hs5, hb5⟩ := inf5
  have Hi := hid hi5
  have Hz := hid hz5
  have Hs := hid hs5
  have Hb := hid hb5
  clear hi5 hz5 hs5 hb5
  obtain ⟨L, hL⟩ : ∃ L : Nat → List UInt8, L = if true then unsI subT else subI := ⟨_, rfl⟩
  have hL0 : L 0 = List.replicate 256 0 := by rw [hL]; simp [unsI, subI]
  have hLl : ∀ i, i ≤ 256 → (L i).length = 256 := fun i hi => by rw [hL]; first | exact unsI_len _ _ | exact subI_len _ hi
  have hLs : ∀ i, i < 256 → (L i).set (if true then (Xr.g8 subT i).toNat else i) (if true then UInt8.ofNat i else Xr.g8 subT i) = L (i + 1) := fun i hi => by rw [hL]; first | rfl | exact subI_set i hi
  have hLe : L 256 = unsT := by rw [hL]; first | exact unsI_all | exact subI_all
  have HLl := hid hLl
  have HLs := hid hLs
  have HLe := hid hLe
  have HL0 := hid hL0
  clear hL hL0 hLl hLs hLe
  go_enter Try.func14, Try.ntmps14
  go_wp2_with (refine wpList_make_blk rfl _ _ _ rfl 256 256 .i64 .i64 rfl rfl 5 _ _ 1 Try.underlying32 Hi.out Hz.out Hs.out Hb.out rfl (by decide) (by decide) (by decide) ?_; intro w1 f1 hlt1 hb1; simp only [World.size_alloc, World.size_drew, Act.put, List.setIfInBounds_toArray, List.set_cons_succ, List.set_cons_zero])
  obtain ⟨N, hN⟩ : ∃ N, w.heap.size = N := ⟨_, rfl⟩
  rw [hN] at hb1 hlt1 ⊢
  have HN := hid hN
  have q1 : Blk w1 N (bv (L 0)) := by rw [HL0.out, bv_replicate]; exact hb1
  clear hb1 hN
  go_loopw [4] (fun iv wr => ∃ i : Nat, i ≤ 256 ∧ iv = .int .i64 i ∧ Blk wr N (bv (L i)) ∧ Fr [] w wr) (fun iv _ => 256 - (intOf iv).toNat)
  case atStart => exact ⟨0, by omega, rfl, q1, f1⟩
  case round =>
    obtain ⟨i, hi, rfl, b1, f⟩ := hrel
    clear q1 f1
    by_cases hli : i < 256
    · have hd : decide ((i : Int) < 256) = true := by simp; omega
      have H := hid (rsub_any (w := wr) (UInt8.ofNat i))
      have H2 : Hid (Calls Try.prog 9 #[.int .u8 (i : Int)] wr fun e w' => e = .returned (bt (Xr.g8 subT i)) ∧ wr = w') := by
        rw [lit_u8 i hli, ← subT_of i hli]; exact H
      obtain ⟨X, hX⟩ : ∃ X, Xr.g8 subT i = X := ⟨_, rfl⟩
      have hx := X.toNat_lt
      have hx1 : (X.toNat : Int) < 256 := by omega
      have hx2 : X.toNat < 256 := hx
      have Hst := hid (HLs.out i hli)
      have Hl := hid (HLl.out i hi)
      rw [hX] at H2 Hst
      clear hX H
      go_wp2_with (first
        | (go_at_call 9; refine H2.out.mono ?_; rintro e w' ⟨rfl, rfl⟩)
        | (refine wpList_put rfl _ _ _ rfl rfl (bt (if true then UInt8.ofNat i else X)) (by first | rfl | exact lit_u8 i hli) rfl b1 (by rw [bv_length, Hl.out]; first | exact hx2 | exact hli) (by kernel_rfl) ?_; intro w2 f2 b2 hs2; simp only [World.size_alloc, World.size_drew, Act.put, List.setIfInBounds_toArray, List.set_cons_succ, List.set_cons_zero]))
      have b3 : Blk w2 N (bv (L (i + 1))) := by rw [← Hst.out, bv_set]; exact b2
      clear b2
      go_roundw
      case rel => exact ⟨i + 1, by omega, by go_num, b3, f.trans f2 (by simp; have := HN.out; omega)⟩
      case measure => simp [intOf]; omega
    · have hd : decide ((i : Int) < 256) = false := by simp; omega
      have ei : i = 256 := by omega
      rw [ei, HLe.out] at b1
      clear ei hi hli
      go_wp2_with fail
      go_ret
      exact ⟨N, rfl, b1, by have := HN.out; omega, f⟩
end Go.Proofs.Ytnkcogaaajkplaa
