/- Layer 1, sha: New. -/
import Derived.Test.YtfcpnicgffbmeaaShaE
namespace Go.Proofs.Ytfcpnicgffbmeaa
open Go Go.Xr Go.RowKit
set_option linter.unusedVariables false
set_option linter.unusedSimpArgs false

def zcs : List Value := .pointer none :: (w32s (List.replicate 8 0) ++ (bv (List.replicate 64 0) ++ [.int .u64 0]))
theorem inf67 : ∃ i, Try.prog.info? 59 = some i ∧ i.zero = some (.agg zcs.toArray) ∧ i.size = 74 := ⟨_, rfl, by kernel_rfl, rfl⟩
theorem inf61 : (Try.prog.info? 54).map (·.size) = some 8 := by kernel_rfl

theorem fill_hash (tp : Nat) (place : Nat → Option (Nat × Nat)) (h0 : place 0 = some (0, 1)) (h1 : place 1 = some (1, 8)) :
    Instr.fill place zcs.toArray [(0, .pointer (some ⟨tp, 0, none⟩)), (1, .agg (w32s B0).toArray)] = some (hcs tp B0 (List.replicate 64 0) 0).toArray := by
  rw [fill_step place _ 0 0 1 _ _ h0 rfl (by rw [List.size_toArray]; decide), fill_step place _ 1 1 8 _ _ h1 rfl (by rw [List.size_toArray, splice_length _ _ _ (by simp [zcs, w32s, Value.cells])]; decide)]
  rfl

theorem tcs_begin (B K : List UInt32) : ((tcs B K).drop 0).take (w32s B).length = w32s B := by
  unfold tcs
  rw [List.drop_zero]
  exact List.take_left

set_option maxRecDepth 20000 in
theorem new_any {w : World} : Calls Try.prog 22 #[] w fun e w' => ∃ hb, e = .returned (.pointer (some ⟨hb, 0, none⟩)) ∧ HR w' hb w.heap.size [] ∧ w.heap.size < hb ∧ Fr [] w w' := by
  obtain ⟨i, hi, hz, hs⟩ := inf67
  have Hi := hid hi
  have Hz := hid hz
  have Hs := hid hs
  clear hi hz hs
  have hp := fun w => Xr.run_places (P := Try.prog) [{ name := "t", type := 50, offset := 0, embedded := false, tag := "", pkgPath := "coffer/sha", byteOffset := 0 }, { name := "v", type := 54, offset := 1, embedded := false, tag := "", pkgPath := "coffer/sha", byteOffset := 8 }, { name := "part", type := 39, offset := 9, embedded := false, tag := "", pkgPath := "coffer/sha", byteOffset := 40 }, { name := "n", type := 48, offset := 73, embedded := false, tag := "", pkgPath := "coffer/sha", byteOffset := 104 }] [(0, 1), (1, 8), (9, 64), (73, 1)] rfl w
  have Hp := hid hp
  clear hp
  go_enter Try.func22, Try.ntmps22
  go_wp2_with (first
    | (go_at_call 29; refine fixed_any.mono ?_; rintro e w1 ⟨rfl, hT, f1⟩)
    | (refine wpList_load_agg rfl _ _ rfl rfl (w32s B0) hT _ Try.underlying54 rfl inf61 (tcs_begin _ _) ?_; simp only [World.size_alloc, World.size_drew, Act.put, List.setIfInBounds_toArray, List.set_cons_succ, List.set_cons_zero])
    | (refine wpList_build_struct rfl _ _ rfl _ _ _ _ Try.underlying59 Hi.out Hz.out Hp.out (hcs w.heap.size B0 (List.replicate 64 0) 0) (fill_hash _ _ rfl rfl) ?_; simp only [World.size_alloc, World.size_drew, Act.put, List.setIfInBounds_toArray, List.set_cons_succ, List.set_cons_zero]))
  go_ret
  have hlt := hT.lt
  have f2 : Fr [] w1 (w1.alloc (.cells (hcs w.heap.size B0 (List.replicate 64 0) 0).toArray 59)) := (Fr.refl [] w1).alloc _
  exact ⟨w1.heap.size, rfl, ⟨⟨B0, List.replicate 64 0, Blk.alloc w1 _ _, Inv.start _ (List.length_replicate)⟩, f2.blk hT (by simp)⟩, hlt, f1.trans' f2⟩

theorem zlen_hit (n : Nat) : (n + 1 + zlen n) % 64 = 56 := by unfold zlen; omega
theorem zlen_miss (n k : Nat) (h : k < zlen n) : ¬ (n + 1 + k) % 64 = 56 := by unfold zlen at h; omega
theorem hcs_load (tp : Nat) (v : List UInt32) (p : List UInt8) (n : Nat) : ((hcs tp v p n).drop 0).take (hcs tp v p n).length = hcs tp v p n := by rw [List.drop_zero, List.take_length]
theorem hcs_one (tp : Nat) (v : List UInt32) (p : List UInt8) (n : Nat) : ∀ u ∈ hcs tp v p n, u.oneCell' = true := by
  intro u hu
  unfold hcs at hu
  simp only [List.mem_cons, List.mem_append, List.not_mem_nil, or_false] at hu
  rcases hu with rfl | hu | hu | rfl
  · rfl
  · exact w32s_one _ u hu
  · exact bv_one _ u hu
  · rfl

theorem inf56 : ∃ i, Try.prog.info? 61 = some i ∧ i.zero = some (.agg (List.replicate 32 (bt 0)).toArray) := ⟨_, rfl, rfl⟩
theorem cv32_8 (w : World) (a : UInt32) : (convert 52 5 (W32 a)).run Try.prog w = .ok (bt a.toUInt8) w := conv_u32_u8 w _ _ a Try.underlying52 Try.underlying5 rfl
attribute [local go_sem] cv32_8 shr_u32
theorem shr_nat (t : TypeId) (a c : Nat) (yk : IntKind) (h : c ≤ 64) : binOp .shr t (.int .u64 (a : Int)) (.int yk (c : Int)) = pure (.int .u64 ((a / 2 ^ c : Nat) : Int)) := by
  have hn : ¬ ((c : Int) < 0) := by omega
  simp only [binOp, Op.shift, hn, if_false, IntKind.bits, Int.toNat_natCast, Nat.min_eq_left h]
  rw [Int.fdiv_eq_ediv_of_nonneg _ (by exact Int.pow_nonneg (by decide)), Int.natCast_ediv, Int.natCast_pow]
  rfl
theorem cvn_8 (w : World) (x : Nat) : (convert 48 5 (.int .u64 (x : Int))).run Try.prog w = .ok (bt (UInt8.ofNat x)) w := by
  have e : Value.int .u8 (IntKind.u8.wrap (x : Int)) = bt (UInt8.ofNat x) := by
    rw [int_u8]
    refine congrArg bt (UInt8.toNat_inj.1 ?_)
    have h1 : (UInt8.ofBitVec (BitVec.ofInt 8 (x : Int))).toNat = (BitVec.ofInt 8 (x : Int)).toNat := rfl
    rw [UInt8.toNat_ofNat', h1, BitVec.toNat_ofInt]
    omega
  simp only [convert, Sem.run_bind, run_underlying Try.underlying48, run_underlying Try.underlying5, Result.andThen_ok, Conv.intToInt, e, Sem.run_pure]
def bz (m i : Nat) : List UInt8 := (be8 m).take i ++ List.replicate (8 - i) 0
theorem bz_len (m i : Nat) (h : i ≤ 8) : (bz m i).length = 8 := by simp [bz, be8]; omega
theorem bz_set (m i : Nat) (h : i < 8) : (bz m i).set i (UInt8.ofNat (m / 2 ^ (56 - 8 * i))) = bz m (i + 1) := by
  have hb : (be8 m).length = 8 := by simp [be8]
  have hl : ((be8 m).take i).length = i := by rw [List.length_take, hb]; omega
  unfold bz
  rw [List.set_append_right _ _ (by omega), hl, Nat.sub_self, show 8 - i = (8 - (i + 1)) + 1 by omega, List.replicate_succ, List.set_cons_zero, List.take_succ_eq_append_getElem (by omega), List.append_assoc]
  have e : (be8 m)[i]'(by omega) = UInt8.ofNat (m / 2 ^ (56 - 8 * i)) := by simp [be8]
  rw [e]
  rfl
theorem bz_full (m : Nat) : bz m 8 = be8 m := by
  unfold bz
  rw [List.take_of_length_le (by simp [be8])]
  simp
theorem outB_set (v : List UInt32) (i m : Nat) (h : i < m) : (outB v i ++ List.replicate (m - i) 0).set i ((shr32 (g32 v (i / 4)) (24 - i % 4 * 8)).toUInt8) = outB v (i + 1) ++ List.replicate (m - (i + 1)) 0 := by
  rw [List.set_append_right _ _ (by rw [outB_len]; exact Nat.le_refl _), outB_len, Nat.sub_self, show m - i = (m - (i + 1)) + 1 by omega, List.replicate_succ, List.set_cons_zero, outB_succ, List.append_assoc]
  rfl

set_option maxHeartbeats 1000000 in
set_option maxRecDepth 20000 in
theorem sum_any {w : World} {hb tp : Nat} {bs : List UInt8} (h : HR w hb tp bs) (hn : bs.length < 1099511627776) :
    Calls Try.prog 25 #[.pointer (some ⟨hb, 0, none⟩)] w fun e w' => e = .returned (.string ⟨(shaL bs).toArray⟩) ∧ Fr [] w w' := by
  obtain ⟨i, hi, hz, hs⟩ := inf67
  have Hi := hid hi
  have Hz := hid hz
  have Hs := hid hs
  clear hi hz hs
  obtain ⟨v, p, hH, hI⟩ := h.mem
  have hT := h.tab
  have HI := hid hI
  have hc0 := hH.cell 0
  rw [show (hcs tp v p bs.length)[0]? = some (.pointer (some ⟨tp, 0, none⟩)) from rfl] at hc0
  have H := hid h
  have HS := hid (show (Try.prog.info? 59).map (·.size) = some (hcs tp v p bs.length).length by rw [hcs_length tp v p _ hI.v8 hI.pl, Hi.out]; exact congrArg some Hs.out)
  obtain ⟨n, hnn, hn2⟩ : ∃ n, bs.length = n ∧ n < 1099511627776 := ⟨_, rfl, hn⟩
  rw [hnn] at hH HS
  have Hn := hid hnn
  clear h hI hnn hn
  go_enter Try.func25, Try.ntmps25
  go_wp2_with (first
    | (refine wpList_load_agg rfl _ _ rfl rfl (hcs tp v p n) hH _ Try.underlying59 rfl HS.out (hcs_load _ _ _ _) ?_; simp only [World.size_alloc, World.size_drew, Act.put, List.setIfInBounds_toArray, List.set_cons_succ, List.set_cons_zero])
    | (refine wpList_alloc_agg rfl _ rfl _ _ 74 Hi.out Hz.out rfl ?_; intro zs hzl hze hbz; have Hzl := hid hzl; clear hzl hze; simp only [World.size_alloc, World.size_drew, Act.put, List.setIfInBounds_toArray, List.set_cons_succ, List.set_cons_zero])
    | (refine wpList_store_agg rfl _ _ _ rfl rfl (hcs tp v p n) rfl hbz HS.out (by rw [Hzl.out, hcs_length tp v p _ HI.out.v8 HI.out.pl]; exact Nat.le_refl _) (hcs_one _ _ _ _) ?_; intro w2 f2 hb2 hs2; rw [splice_all _ _ (by rw [Hzl.out, hcs_length tp v p _ HI.out.v8 HI.out.pl])] at hb2; have g2 : Fr [] w w2 := ((Fr.refl [] w).alloc _).trans f2 (by simp); (try simp only [World.size_alloc, World.size_drew, Act.put, List.setIfInBounds_toArray, List.set_cons_succ, List.set_cons_zero])))
  have hr2 : HR w2 w.heap.size tp bs := ⟨⟨v, p, by rw [Hn.out]; exact hb2, HI.out⟩, g2.blk hT (by simp)⟩
  have hH2 := g2.blk hH (by simp)
  have hlt2 : w.heap.size < w2.heap.size := hb2.lt
  clear hH hT hc0 hb2 hbz f2
  refine (add_any hr2 ⟨#[128]⟩ (by rw [Hn.out]; show n + 1 < _; omega)).mono ?_
  rintro e w3 ⟨rfl, hr3, f3⟩
  have g3 : Fr [] w w3 := g2.trans f3 (fun x hx => .inr (by simp at hx; omega))
  have hH3 := f3.blk hH2 (by simp; have := H.out.mem; obtain ⟨_, _, hh, _⟩ := this; have := hh.lt; omega)
  have Hhb := hid (show hb < w.heap.size by obtain ⟨_, _, hh, _⟩ := H.out.mem; exact hh.lt)
  clear hr2 hH2 f3 g2 hlt2
  go_wp2_with fail
  go_loopg [] (zlen n) (fun g wr => ∃ k : Nat, k + g = zlen n ∧ HR wr w.heap.size tp (bs ++ 0x80 :: List.replicate k 0) ∧ Blk wr hb (hcs tp v p n) ∧ Fr [] w wr)
  case atStart => exact ⟨0, by omega, hr3, hH3, g3⟩
  case round =>
    obtain ⟨k, hk, hr4, hH4, g4⟩ := hrel
    obtain ⟨G, rfl⟩ : ∃ G, G = gk := ⟨_, rfl⟩
    clear hr3 hH3 g3
    have hlen : (bs ++ 0x80 :: List.replicate k 0).length = n + 1 + k := by
      rw [List.length_append, List.length_cons, List.length_replicate, Hn.out]
      omega
    obtain ⟨vc, pc, hC, hIc⟩ := hr4.mem
    have hzl : zlen n < 64 := by unfold zlen; omega
    have hc73 : wr.cell? ⟨w.heap.size, 73, none⟩ = some (.int .u64 ((n + 1 + k : Nat) : Int)) := by
      rw [hC.cell, hlen]
      exact hcs_n tp vc pc _ hIc.v8 hIc.pl
    have Hlen := hid hlen
    have Hr4 := hid hr4
    clear hlen hr4 hC hIc
    cases G with
    | succ G =>
      have hne : (((n + 1 + k : Nat) : Int) % 64 != 56) = true := by
        have := zlen_miss n k (by omega)
        simp
        omega
      go_wp2_with fail
      refine (add_any Hr4.out ⟨#[0]⟩ (by rw [Hlen.out]; show n + 1 + k + 1 < _; omega)).mono ?_
      rintro e w5 ⟨rfl, hr5, f5⟩
      go_wp2_with fail
      go_roundg G
      case rel =>
        refine ⟨k + 1, by omega, ?_, f5.blk hH4 (by simp; have := Hhb.out; omega), g4.trans f5 (fun x hx => .inr (by simp at hx; omega))⟩
        have e : (bs ++ 0x80 :: List.replicate k 0) ++ (⟨#[0]⟩ : ByteArray).data.toList = bs ++ 0x80 :: List.replicate (k + 1) 0 := by
          rw [List.replicate_succ', List.append_assoc]
          rfl
        rw [← e]
        exact hr5
      case measure => omega
    | zero =>
      obtain rfl : k = zlen n := by omega
      have hne : (((n + 1 + zlen n : Nat) : Int) % 64 != 56) = false := by
        have := zlen_hit n
        simp
        omega
      go_wp2_with fail
      have hL0 : Blk _ wr.heap.size (bv (bz (8 * n) 0)) := Blk.alloc wr [.int .u8 0, .int .u8 0, .int .u8 0, .int .u8 0, .int .u8 0, .int .u8 0, .int .u8 0, .int .u8 0] 60
      have fA : Fr [] wr (wr.alloc (.cells [.int .u8 0, .int .u8 0, .int .u8 0, .int .u8 0, .int .u8 0, .int .u8 0, .int .u8 0, .int .u8 0].toArray 60)) := (Fr.refl [] wr).alloc _
      have hlw := g4.size
      have hCl : w.heap.size < wr.heap.size := by obtain ⟨_, _, hh, _⟩ := Hr4.out.mem; exact hh.lt
      have hbl := Hhb.out
      generalize wr.heap.size = LB at *
      have hr5 := Hr4.out.keep fA (by simp) (by simp)
      have hH5 := fA.blk hH4 (by simp)
      have g5 := g4.trans' fA
      clear hH4 g4
      generalize wr.alloc (.cells [.int .u8 0, .int .u8 0, .int .u8 0, .int .u8 0, .int .u8 0, .int .u8 0, .int .u8 0, .int .u8 0].toArray 60) = wA at *
      clear fA hc73 Hr4
      go_loopw [26] (fun iv wr => ∃ i : Nat, i ≤ 8 ∧ iv = .int .i64 i ∧ HR wr w.heap.size tp (bs ++ 0x80 :: List.replicate (zlen n) 0) ∧ Blk wr hb (hcs tp v p n) ∧ Blk wr LB (bv (bz (8 * n) i)) ∧ Fr [] w wr) (fun iv _ => 8 - (intOf iv).toNat)
      case atStart => exact ⟨0, by omega, rfl, hr5, hH5, hL0, g5⟩
      case round =>
        obtain ⟨i, hi8, rfl, hr6, hH6, hL6, g6⟩ := hrel
        clear hr5 hH5 hL0 g5
        have Hr6 := hid hr6
        have Hg6 := hid g6
        clear hr6 g6
        by_cases hlt : i < 8
        · have hd1 : decide ((i : Int) < 8) = true := by simp; omega
          have hc73 : wr.cell? ⟨hb, 73, none⟩ = some (.int .u64 (n : Int)) := by rw [hH6.cell]; exact hcs_n tp v p n HI.out.v8 HI.out.pl
          obtain ⟨X, hX⟩ : ∃ X, 8 * n / 2 ^ (56 - 8 * i) = X := ⟨_, rfl⟩
          have hsr : ∀ t, binOp .shr t (.int .u64 (8 * (n : Int))) (.int .u64 (56 - 8 * (i : Int))) = pure (.int .u64 (X : Int)) := by
            intro t
            have := shr_nat t (8 * n) (56 - 8 * i) .u64 (by omega)
            rw [hX] at this
            have e1 : ((8 * n : Nat) : Int) = 8 * (n : Int) := by omega
            have e2 : ((56 - 8 * i : Nat) : Int) = 56 - 8 * (i : Int) := by omega
            rw [e1, e2] at this
            exact this
          have hcv := cvn_8
          have HX := hid hX
          clear hX
          go_wp2_with (refine wpList_put rfl _ _ _ rfl rfl (bt (UInt8.ofNat X)) rfl rfl hL6 (by rw [bv_length, bz_len _ _ hi8]; exact hlt) (by kernel_rfl) ?_; intro w7 f7 hL7 hs7; (try simp only [World.size_alloc, World.size_drew, Act.put, List.setIfInBounds_toArray, List.set_cons_succ, List.set_cons_zero]))
          rw [← bv_set, ← HX.out, bz_set _ _ hlt] at hL7
          go_roundw
          case rel => exact ⟨i + 1, by omega, by go_num, Hr6.out.keep f7 (by simp; omega) (by simp; obtain ⟨_, _, hh, _⟩ := H.out.mem; have := H.out.tab.lt; omega), f7.blk hH6 (by simp; omega), hL7, Hg6.out.trans f7 (fun x hx => .inr (by simp at hx; omega))⟩
          case measure => simp [intOf]; omega
        · have ei : i = 8 := by omega
          have hd1 : decide ((i : Int) < 8) = false := by simp; omega
          rw [ei, bz_full] at hL6
          clear ei
          have hLn : (be8 (8 * n)).length = 8 := by simp [be8]
          have hLv : ((bv (be8 (8 * n))).drop 0).take (be8 (8 * n)).length = bv (be8 (8 * n)) := by rw [List.drop_zero, ← bv_length, List.take_length]
          have HLn := hid hLn
          have HLv := hid hLv
          clear hLn hLv
          go_wp2_with (refine wpList_string_of_bytes rfl _ _ 5 _ rfl 8 8 rfl hL6 (be8 (8 * n)) HLn.out HLv.out Try.underlying41 Try.underlying5 Try.underlying9 ?_; (try simp only [World.size_alloc, World.size_drew, Act.put, List.setIfInBounds_toArray, List.set_cons_succ, List.set_cons_zero]))
          have hpl : bs.length + 1 + zlen n + 8 < 1152921504606846976 := by
            rw [Hn.out]
            unfold zlen
            omega
          refine (add_any Hr6.out ⟨(be8 (8 * n)).toArray⟩ (by rw [size_mk', HLn.out, List.length_append, List.length_cons, List.length_replicate]; omega)).mono ?_
          rintro e w7 ⟨rfl, hr7, f7⟩
          have epad : (bs ++ 0x80 :: List.replicate (zlen n) 0) ++ (⟨(be8 (8 * n)).toArray⟩ : ByteArray).data.toList = padL bs := by
            unfold padL
            rw [Hn.out, List.append_assoc]
            rfl
          rw [epad] at hr7
          have g7 : Fr [] w w7 := Hg6.out.trans f7 (fun x hx => .inr (by simp at hx; omega))
          obtain ⟨vv, pp, hC7, hI7⟩ := hr7.mem
          have HI7 := hid hI7
          clear epad hpl hr7 f7 hH6 hL6 Hr6 Hg6 hI7
          obtain ⟨i56, hi56, hz56⟩ := inf56
          have Hi56 := hid hi56
          have Hz56 := hid hz56
          clear hi56 hz56
          go_wp2_with (refine wpList_alloc_agg rfl _ rfl _ _ 32 Hi56.out Hz56.out rfl ?_; intro zs hzl hze hbz; have Hze := hid hze; clear hzl hze; (try simp only [World.size_alloc, World.size_drew, Act.put, List.setIfInBounds_toArray, List.set_cons_succ, List.set_cons_zero]))
          have HO : Hid (Blk (w7.alloc (.cells zs.toArray 61)) w7.heap.size (bv (outB vv 0 ++ List.replicate 32 0))) := by
            have e : zs = bv (outB vv 0 ++ List.replicate 32 0) := by
              rw [Hze.out]
              rfl
            rw [← e]
            exact hbz
          have f8 : Fr [] w7 (w7.alloc (.cells zs.toArray 61)) := (Fr.refl [] w7).alloc _
          have hC8 := f8.blk hC7 (by simp)
          have hCl8 := hC7.lt
          have hlw8 := g7.size
          generalize w7.heap.size = OB at *
          generalize w7.alloc (.cells zs.toArray 61) = w8 at *
          have g8 := g7.trans' f8
          clear hbz hC7 f8 g7
          go_loopw [46] (fun iv wr => ∃ i : Nat, i ≤ 32 ∧ iv = .int .i64 i ∧ Blk wr w.heap.size (hcs tp vv pp (padL bs).length) ∧ Blk wr OB (bv (outB vv i ++ List.replicate (32 - i) 0)) ∧ Fr [] w wr) (fun iv _ => 32 - (intOf iv).toNat)
          case atStart => exact ⟨0, by omega, rfl, hC8, HO.out, g8⟩
          case round =>
            obtain ⟨i, hi32, rfl, hC9, hO9, g9⟩ := hrel
            clear hC8 HO g8
            by_cases hlt : i < 32
            · have hd1 : decide ((i : Int) < 32) = true := by simp; omega
              have hcv : wr.cell? ⟨w.heap.size, 1 + i / 4, none⟩ = some (W32 (g32 vv (i / 4))) := by rw [hC9.cell]; exact hcs_v tp vv pp _ HI7.out.v8 _ (by omega)
              have hm1 : (0 : Int) ≤ 24 - (i : Int) % 4 * 8 := by omega
              have hm3 : (i : Int) % 4 * 8 ≤ 24 := by omega
              have hm2 : (24 - (i : Int) % 4 * 8).toNat = 24 - i % 4 * 8 := by omega
              go_wp2_with (refine wpList_put rfl _ _ _ rfl rfl (bt ((shr32 (g32 vv (i / 4)) (24 - i % 4 * 8)).toUInt8)) rfl rfl hO9 (by rw [bv_length, List.length_append, outB_len, List.length_replicate]; omega) (by kernel_rfl) ?_; intro w10 f10 hO10 hs10; (try simp only [World.size_alloc, World.size_drew, Act.put, List.setIfInBounds_toArray, List.set_cons_succ, List.set_cons_zero]))
              rw [← bv_set, outB_set _ _ _ hlt] at hO10
              go_roundw
              case rel => exact ⟨i + 1, by omega, by go_num, f10.blk hC9 (by simp; omega), hO10, g9.trans f10 (fun x hx => .inr (by simp at hx; omega))⟩
              case measure => simp [intOf]; omega
            · have ei : i = 32 := by omega
              have hd1 : decide ((i : Int) < 32) = false := by simp; omega
              rw [ei, List.replicate_zero, List.append_nil, shaL_of HI7.out] at hO9
              clear ei
              have HSl := hid (shaL_len bs)
              have HSv := hid (show ((bv (shaL bs)).drop 0).take (shaL bs).length = bv (shaL bs) by rw [List.drop_zero, ← bv_length, List.take_length])
              go_wp2_with (refine wpList_string_of_bytes rfl _ _ 5 _ rfl 32 32 rfl hO9 (shaL bs) HSl.out HSv.out Try.underlying41 Try.underlying5 Try.underlying9 ?_; (try simp only [World.size_alloc, World.size_drew, Act.put, List.setIfInBounds_toArray, List.set_cons_succ, List.set_cons_zero]))
              go_ret
              exact ⟨rfl, g9⟩
end Go.Proofs.Ytfcpnicgffbmeaa
