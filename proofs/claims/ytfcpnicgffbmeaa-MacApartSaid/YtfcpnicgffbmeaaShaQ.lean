/- Layer 1, the document's sha: the digest of a text. -/
import Derived.Test.YtfcpnicgffbmeaaShaR
import Derived.Test.YtfcpnicgffbmeaaShaG
import Derived.Test.YtfcpnicgffbmeaaSlice
namespace Go.Proofs.Ytfcpnicgffbmeaa
open Go Go.Xr Go.RowKit
set_option linter.unusedVariables false
set_option linter.unusedSimpArgs false

attribute [local go_sem] cv32_8 shr_u32

set_option maxRecDepth 20000 in
theorem k_any {w : World} : Calls Try.prog 32 #[] w fun e w' => e = .returned (.slice (some ⟨w.heap.size, 0, none⟩) 64 64) ∧ Blk w' w.heap.size (w32s K0) ∧ Fr [] w w' := by
  obtain ⟨i28, hi28, hz28, hs28, hb28⟩ := inf28
  have Hi := hid hi28
  have Hz := hid hz28
  have Hs := hid hs28
  clear hi28 hz28 hs28 hb28
  go_enter Try.func32, Try.ntmps32
  go_wp2_with (refine wpList_buildSlice_ones rfl _ 64 _ rfl 52 Try.underlying62 _ _ Hi.out Hz.out rfl Hs.out (by decide) (by decide) rfl (w32s K0) rfl (w32s_one _) ?_; intro hbN; simp only [World.size_alloc, World.size_drew, Act.put, List.setIfInBounds_toArray, List.set_cons_succ, List.set_cons_zero])
  go_ret
  exact ⟨rfl, hbN, (Fr.refl _ _).alloc _⟩
set_option maxRecDepth 20000 in
theorem begin_any {w : World} : Calls Try.prog 31 #[] w fun e w' => e = .returned (.slice (some ⟨w.heap.size, 0, none⟩) 8 8) ∧ Blk w' w.heap.size (w32s B0) ∧ Fr [] w w' := by
  obtain ⟨i28, hi28, hz28, hs28, hb28⟩ := inf28
  have Hi := hid hi28
  have Hz := hid hz28
  have Hs := hid hs28
  clear hi28 hz28 hs28 hb28
  go_enter Try.func31, Try.ntmps31
  go_wp2_with (refine wpList_buildSlice_ones rfl _ 8 _ rfl 52 Try.underlying62 _ _ Hi.out Hz.out rfl Hs.out (by decide) (by decide) rfl (w32s B0) rfl (w32s_one _) ?_; intro hbN; simp only [World.size_alloc, World.size_drew, Act.put, List.setIfInBounds_toArray, List.set_cons_succ, List.set_cons_zero])
  go_ret
  exact ⟨rfl, hbN, (Fr.refl _ _).alloc _⟩

theorem inf5 : ∃ i, Try.prog.info? 5 = some i ∧ i.zero = some (bt 0) ∧ i.size = 1 ∧ i.bytes = 1 := ⟨_, rfl, rfl, rfl, rfl⟩

theorem bs_len (n k : Nat) (bs : List UInt8) (h : bs.length = n) : (bs ++ 0x80 :: List.replicate k 0).length = n + 1 + k := by
  rw [List.length_append, List.length_cons, List.length_replicate, h]
  omega

set_option maxHeartbeats 2000000 in
set_option maxRecDepth 20000 in
theorem rof_any {w : World} (s : ByteArray) (hs : s.size < 1099511627776) :
    Calls Try.prog 26 #[.string s] w fun e w' => e = .returned (.string (shaS s)) ∧ Fr [] w w' := by
  obtain ⟨i28, hi28, hz28, hs28, hb28⟩ := inf5
  have Hi := hid hi28
  have Hz := hid hz28
  have Hs := hid hs28
  have Hb := hid hb28
  clear hi28 hz28 hs28 hb28
  have Hbl := hid (show s.data.toList.length = s.size from bytes_len s)
  unfold shaS
  generalize hbs : s.data.toList = bs at *
  have Hbs := hid hbs
  clear hbs
  go_enter Try.func26, Try.ntmps26
  go_wp2_with (first
    | (refine wpList_bytes_own rfl _ _ 5 _ rfl s rfl (by unfold maxLen; omega) Try.underlying9 Try.underlying41 Try.underlying5 ?_; intro w1 cap1 f1 hlt1 ho1; rw [Hbs.out] at ho1; have hFr1 : Fresh w (some w.heap.size) := (fun b h => by cases h; exact Nat.le_refl _); simp only [World.size_alloc, World.size_drew, Act.put, List.setIfInBounds_toArray, List.set_cons_succ, List.set_cons_zero])
    | (refine wpList_append1 rfl rfl 41 _ _ _ rfl rfl 5 _ _ 1 Try.underlying41 Hi.out Hz.out Hs.out Hb.out rfl (.int .u8 128) rfl rfl rfl rfl ho1 (by unfold maxLen; omega) (by omega) ?_; intro v2 w2 B2 ho2 f2 hB2; simp only [World.size_alloc, World.size_drew, Act.put, List.setIfInBounds_toArray, List.set_cons_succ, List.set_cons_zero]))
  have g2 := hFr1.fr f1 f2
  have hF2 := hFr1.step f1 hB2
  have hzl : zlen s.size < 64 := by unfold zlen; omega
  clear ho1 f1 hlt1 hB2 hFr1 f2
  go_loopg [3] (zlen s.size) (fun g bv0 wr => ∃ (k : Nat) (B : Option Nat), k + g = zlen s.size ∧ Own wr 1 bv0 (s.size + 1 + k) (bv (bs ++ 0x80 :: List.replicate k 0)) B ∧ Fresh w B ∧ Fr [] w wr)
  case atStart => exact ⟨0, B2, by omega, by rw [show bs ++ (0x80 : UInt8) :: List.replicate 0 0 = bs ++ [0x80] from rfl, bv_append]; exact ho2, hF2, g2⟩
  case round =>
    obtain ⟨k, B, hk, ho, hF, g⟩ := hrel
    obtain ⟨G, rfl⟩ : ∃ G, G = gk := ⟨_, rfl⟩
    clear ho2 g2 hF2
    obtain ⟨ba, bc, rfl⟩ := ho.isSlice
    cases G with
    | succ G =>
      have hne : (((s.size + 1 + k : Nat) : Int) % 64 != 56) = true := by
        have := zlen_miss s.size k (by omega)
        simp
        omega
      go_wp2_with (refine wpList_append1 rfl rfl 41 _ _ _ rfl rfl 5 _ _ 1 Try.underlying41 Hi.out Hz.out Hs.out Hb.out rfl (.int .u8 0) rfl rfl rfl rfl ho (by unfold maxLen; omega) (by omega) ?_; intro v3 w3 B3 ho3 f3 hB3; simp only [World.size_alloc, World.size_drew, Act.put, List.setIfInBounds_toArray, List.set_cons_succ, List.set_cons_zero])
      go_roundg G
      case rel =>
        refine ⟨k + 1, B3, by omega, ?_, hF.step g hB3, hF.fr g f3⟩
        have e : bv (bs ++ 0x80 :: List.replicate (k + 1) 0) = bv (bs ++ 0x80 :: List.replicate k 0) ++ [.int .u8 0] := by
          rw [List.replicate_succ']
          simp only [bv_append, ← List.cons_append, ← List.append_assoc]
          rfl
        rw [e]
        exact ho3
      case measure => omega
    | zero =>
      obtain rfl : k = zlen s.size := by omega
      have hne : (((s.size + 1 + zlen s.size : Nat) : Int) % 64 != 56) = false := by
        have := zlen_hit s.size
        simp
        omega
      go_wp2_with fail
      obtain ⟨A0, hA0⟩ : ∃ A0, bs ++ 0x80 :: List.replicate (zlen s.size) 0 = A0 := ⟨_, rfl⟩
      rw [hA0] at ho
      have HA0 := hid hA0
      clear hA0 hne
      go_loopw [3, 5] (fun bv0 iv wr => ∃ (i : Nat) (B : Option Nat), i ≤ 8 ∧ iv = .int .i64 i ∧ Own wr 1 bv0 (s.size + 1 + zlen s.size + i) (bv (A0 ++ (be8 (8 * s.size)).take i)) B ∧ Fresh w B ∧ Fr [] w wr) (fun _ iv _ => 8 - (intOf iv).toNat)
      case atStart => exact ⟨0, B, by omega, rfl, by rw [List.take_zero, List.append_nil]; exact ho, hF, g⟩
      case round =>
        obtain ⟨i, B, hi8, rfl, ho, hF, g⟩ := hrel
        obtain ⟨ba, bc, rfl⟩ := ho.isSlice
        by_cases hlt : i < 8
        · have hd1 : decide ((i : Int) < 8) = true := by simp; omega
          obtain ⟨X, hX⟩ : ∃ X, 8 * s.size / 2 ^ (56 - 8 * i) = X := ⟨_, rfl⟩
          have hsr : ∀ t, binOp .shr t (.int .u64 (8 * (s.size : Int))) (.int .u64 (56 - 8 * (i : Int))) = pure (.int .u64 (X : Int)) := by
            intro t
            have := shr_nat t (8 * s.size) (56 - 8 * i) .u64 (by omega)
            rw [hX] at this
            have e1 : ((8 * s.size : Nat) : Int) = 8 * (s.size : Int) := by omega
            have e2 : ((56 - 8 * i : Nat) : Int) = 56 - 8 * (i : Int) := by omega
            rw [e1, e2] at this
            exact this
          have hcv := cvn_8
          have HX := hid hX
          clear hX
          go_wp2_with (refine wpList_append1 rfl rfl 41 _ _ _ rfl rfl 5 _ _ 1 Try.underlying41 Hi.out Hz.out Hs.out Hb.out rfl (bt (UInt8.ofNat X)) rfl rfl rfl rfl ho (by unfold maxLen; omega) (by omega) ?_; intro v3 w3 B3 ho3 f3 hB3; simp only [World.size_alloc, World.size_drew, Act.put, List.setIfInBounds_toArray, List.set_cons_succ, List.set_cons_zero])
          go_roundw
          case rel =>
            refine ⟨i + 1, B3, by omega, by go_num, ?_, hF.step g hB3, hF.fr g f3⟩
            have e : bv (A0 ++ (be8 (8 * s.size)).take (i + 1)) = bv (A0 ++ (be8 (8 * s.size)).take i) ++ [bt (UInt8.ofNat X)] := by
              rw [List.take_succ_eq_append_getElem (by simp [be8]; omega)]
              have e2 : (be8 (8 * s.size))[i]'(by simp [be8]; omega) = UInt8.ofNat (8 * s.size / 2 ^ (56 - 8 * i)) := by simp [be8]
              rw [e2, HX.out]
              simp only [bv_append, ← List.append_assoc]
              rfl
            rw [e]
            exact ho3
          case measure => simp [intOf]; omega
        · have ei : i = 8 := by omega
          have hd1 : decide ((i : Int) < 8) = false := by simp; omega
          have ho9 : Own wr 1 (.slice ba (s.size + 1 + zlen s.size + i) bc) (s.size + 1 + zlen s.size + i) (bv (padL bs)) B := by
            have e : A0 ++ (be8 (8 * s.size)).take i = padL bs := by
              rw [ei, List.take_of_length_le (by simp [be8]), ← HA0.out]
              unfold padL
              rw [Hbl.out, List.append_assoc]
              rfl
            rw [← e]
            exact ho
          have hQ : ∃ Q, s.size + 1 + zlen s.size + i = 64 * Q ∧ (padL bs).length = 64 * Q ∧ Q < 17592186044417 := by
            have h1 := ho9.1
            rw [bv_length] at h1
            have h2 := pad_len bs
            exact ⟨(padL bs).length / 64, by omega, by omega, by omega⟩
          obtain ⟨Q, hQ1, hQ2, hQ3⟩ := hQ
          rw [hQ1] at ho9 ⊢
          have HQ2 := hid hQ2
          clear ei ho hQ2 hQ1
          go_wp2_with (first
            | (go_at_call 31; refine begin_any.mono ?_; rintro e w4 ⟨rfl, hBe, f4⟩)
            | (go_at_call 32; refine k_any.mono ?_; rintro e w5 ⟨rfl, hKe, f5⟩))
          have ho10 := (ho9.keep f4 (by simp)).keep f5 (by simp)
          have hB5 : Own w5 1 (.slice (some ⟨wr.heap.size, 0, none⟩) 8 8) 8 (w32s (hv 0 (padL bs))) (some wr.heap.size) := Own.blk (size := 1) (n := 8) (cap := 8) (f5.blk hBe (by simp)) (Nat.le_refl _) (by decide) rfl
          have g5 := (g.trans' f4).trans' f5
          have hlw := g.size
          have hk4 := f4.size
          have hkl : w4.heap.size < w5.heap.size := hKe.lt
          generalize w4.heap.size = kb at *
          clear ho9 hBe g f4 f5
          go_loopw [6, 8] (fun vv iv wr => ∃ (q vb : Nat), q ≤ Q ∧ iv = .int .i64 ((64 * q : Nat) : Int) ∧ Own wr 1 vv 8 (w32s (hv q (padL bs))) (some vb) ∧ Own wr 1 (.slice ba (64 * Q) bc) (64 * Q) (bv (padL bs)) B ∧ Blk wr kb (w32s K0) ∧ Fr [] w wr) (fun _ iv _ => 64 * Q - (intOf iv).toNat)
          case atStart => exact ⟨0, _, by omega, rfl, hB5, ho10, hKe, g5⟩
          case round =>
            obtain ⟨q, vb, hq, rfl, hV, hP, hK, g⟩ := hrel
            clear hB5 ho10 hKe g5
            by_cases hlt : q < Q
            · have hd2 : decide (((64 * q : Nat) : Int) < ((64 * Q : Nat) : Int)) = true := by simp; omega
              obtain ⟨pb, pcap, rfl, hsl, hpc1, hpc2, _⟩ := hP.opened (by omega)
              obtain ⟨rfl, rfl⟩ : ba = some ⟨pb, 0, none⟩ ∧ bc = pcap := by simpa using hsl
              obtain ⟨cs, hcs, hcl, hct, _⟩ := hP.blkOf
              obtain ⟨ch, hch⟩ : ∃ ch, ((padL bs).drop (64 * q)).take 64 = ch := ⟨_, rfl⟩
              have hchl : ch.length = 64 := by rw [← hch, List.length_take, List.length_drop, HQ2.out]; omega
              have hcv : (cs.drop (64 * q)).take ch.length = bv ch := by
                rw [hchl, ← hch, ← bv_take, ← bv_drop, ← hct, List.drop_take, List.take_take, Nat.min_eq_left (by omega)]
              have Hch := hid hch
              have Hchl := hid hchl
              have Hcv := hid hcv
              clear hsl hct hch hchl hcv
              obtain ⟨va, vc, rfl⟩ := hV.isSlice
              have hm7 : ¬ (bc = 64 * q) := by omega
              go_wp2_with (first
                | (refine wpList_slice_lh rfl _ _ _ _ rfl rfl .i64 .i64 _ _ (64 * q) (64 * q + 64) rfl rfl (by omega) (by omega) (by omega) (by omega) (by omega) 5 Try.underlying41 (by kernel_rfl) ?_; rw [Nat.zero_add, Nat.add_sub_cancel_left]; simp only [World.size_alloc, World.size_drew, Act.put, List.setIfInBounds_toArray, List.set_cons_succ, List.set_cons_zero])
                | (refine wpList_string_of_bytes rfl _ _ 5 _ rfl 64 (bc - 64 * q) rfl hcs ch Hchl.out Hcv.out Try.underlying41 Try.underlying5 Try.underlying9 ?_; (try simp only [World.size_alloc, World.size_drew, Act.put, List.setIfInBounds_toArray, List.set_cons_succ, List.set_cons_zero]))
                | (go_at_call 33; refine (rblock_any hV hK ⟨ch.toArray⟩ (by rw [size_mk']; exact Hchl.out) K0_len (hv_len _ _)).mono ?_; rintro e w7 ⟨rv, rb, rfl, hV7, hrb, f7⟩))
              go_roundw
              case rel =>
                refine ⟨q + 1, rb, by omega, by go_num, ?_, hP.keep f7 (by simp), f7.blk hK (by simp), g.trans' f7⟩
                rw [hv, Hch.out]
                exact hV7
              case measure => simp [intOf]; omega
            · have eq : q = Q := by omega
              have hd2 : decide (((64 * q : Nat) : Int) < ((64 * Q : Nat) : Int)) = false := by simp; omega
              rw [eq] at hV
              obtain ⟨vb', vcap, hvb, rfl, _, _, hvc⟩ := hV.opened (by decide)
              cases hvb
              have Hvb := hid (hV.lt vb rfl)
              obtain ⟨V, hVe⟩ : ∃ V, hv Q (padL bs) = V := ⟨_, rfl⟩
              rw [hVe] at hvc
              have Hvc : Hid (∀ j, j < 8 → wr.cell? ⟨vb, j, none⟩ = some (W32 (g32 V j))) := hid fun j hj => by
                have hVl : V.length = 8 := by rw [← hVe]; exact hv_len _ _
                rw [(hvc j (by rw [w32s_len, hVl]; exact hj)).1]
                exact w32s_get V j (by rw [hVl]; exact hj)
              have HV : Hid (outB V 32 = shaL bs) := by
                unfold shaL
                rw [HQ2.out, Nat.mul_div_cancel_left _ (by decide), hVe]
                exact hid rfl
              clear eq hV hvc hVe hP hK
              go_wp2_with fail
              obtain ⟨wo, rfl⟩ : ∃ wo : World, wo = wr := ⟨_, rfl⟩
              clear hd2
              go_loopw [9, 10] (fun ov iv wr => ∃ (i : Nat) (B' : Option Nat), i ≤ 8 ∧ iv = .int .i64 i ∧ Own wr 1 ov (4 * i) (bv (outB V (4 * i))) B' ∧ Fresh wo B' ∧ Fr [] wo wr) (fun _ iv _ => 8 - (intOf iv).toNat)
              case atStart => exact ⟨0, none, by omega, rfl, Own.nil _ 1, Fresh.none _, Fr.refl _ _⟩
              case round =>
                obtain ⟨i, B', hi8, rfl, hoo, hFo, go⟩ := hrel
                by_cases hlt4 : i < 8
                · have hd4 : decide ((i : Int) < 8) = true := by simp; omega
                  go_wp2_with fail
                  obtain ⟨wp, rfl⟩ : ∃ wp : World, wp = wr := ⟨_, rfl⟩
                  have hoo' : ∃ ov, Hid (ov = bv (outB V (4 * i))) := ⟨_, rfl⟩
                  go_loopw [9, 11] (fun ov jv wr => ∃ (j : Nat) (B' : Option Nat), j ≤ 4 ∧ jv = .int .i64 j ∧ Own wr 1 ov (4 * i + j) (bv (outB V (4 * i + j))) B' ∧ Fresh wo B' ∧ Fr [] wo wr) (fun _ jv _ => 4 - (intOf jv).toNat)
                  case atStart => exact ⟨0, B', by omega, rfl, hoo, hFo, go⟩
                  case round =>
                    obtain ⟨j, B2', hj4, rfl, hoo2, hFo2, go2⟩ := hrel
                    clear hoo hFo go hoo'
                    obtain ⟨oa, oc, rfl⟩ := hoo2.isSlice
                    by_cases hlt5 : j < 4
                    · have hd5 : decide ((j : Int) < 4) = true := by simp; omega
                      have hvi : wr.cell? ⟨vb, i, none⟩ = some (W32 (g32 V i)) := by
                        rw [go2.cell_old (a := ⟨vb, i, none⟩) Hvb.out]
                        exact Hvc.out i hlt4
                      have hm1 : 8 * (j : Int) ≤ 24 := by omega
                      have hm2 : (24 - 8 * (j : Int)).toNat = 24 - 8 * j := by omega
                      go_wp2_with (refine wpList_append1 rfl rfl 41 _ _ _ rfl rfl 5 _ _ 1 Try.underlying41 Hi.out Hz.out Hs.out Hb.out rfl (bt ((shr32 (g32 V i) (24 - 8 * j)).toUInt8)) rfl rfl rfl rfl hoo2 (by unfold maxLen; omega) (by omega) ?_; intro v3 w3 B3 ho3 f3 hB3; simp only [World.size_alloc, World.size_drew, Act.put, List.setIfInBounds_toArray, List.set_cons_succ, List.set_cons_zero])
                      go_roundw
                      case rel =>
                        refine ⟨j + 1, B3, by omega, by go_num, ?_, hFo2.step go2 hB3, hFo2.fr go2 f3⟩
                        have e : bv (outB V (4 * i + (j + 1))) = bv (outB V (4 * i + j)) ++ [bt ((shr32 (g32 V i) (24 - 8 * j)).toUInt8)] := by
                          rw [← Nat.add_assoc, outB_succ, show (4 * i + j) / 4 = i by omega, show (4 * i + j) % 4 * 8 = 8 * j by omega, bv_append]
                          rfl
                        rw [e]
                        exact ho3
                      case measure => simp [intOf]; omega
                    · have ej : j = 4 := by omega
                      have hd5 : decide ((j : Int) < 4) = false := by simp; omega
                      have h4 : 4 * i + j = 4 * (i + 1) := by omega
                      rw [h4] at hoo2 ⊢
                      clear ej h4
                      go_wp2_with fail
                      go_roundw
                      case rel => exact ⟨i + 1, B2', by omega, by go_num, hoo2, hFo2, go2⟩
                      case measure => simp [intOf]; omega
                · have ei : i = 8 := by omega
                  have hd4 : decide ((i : Int) < 8) = false := by simp; omega
                  have h4 : 4 * i = 32 := by omega
                  rw [h4, HV.out] at hoo
                  obtain ⟨ob, oc, rfl, rfl, _, _, _⟩ := hoo.opened (by decide)
                  obtain ⟨cs, hcs, hcl, hct, _⟩ := hoo.blkOf
                  have HSl := hid (shaL_len bs)
                  have HSv := hid (show (cs.drop 0).take (shaL bs).length = bv (shaL bs) by rw [List.drop_zero, HSl.out]; exact hct)
                  clear ei h4 hct
                  go_wp2_with (refine wpList_string_of_bytes rfl _ _ 5 _ rfl 32 oc rfl hcs (shaL bs) HSl.out HSv.out Try.underlying41 Try.underlying5 Try.underlying9 ?_; (try simp only [World.size_alloc, World.size_drew, Act.put, List.setIfInBounds_toArray, List.set_cons_succ, List.set_cons_zero]))
                  go_ret
                  exact ⟨rfl, g.trans' go⟩
end Go.Proofs.Ytfcpnicgffbmeaa
