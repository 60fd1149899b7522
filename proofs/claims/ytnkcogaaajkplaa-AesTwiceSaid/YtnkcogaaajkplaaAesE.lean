/- Layer 3, aes: each column by four factors. -/
import Derived.Test.YtnkcogaaajkplaaAesD
import Derived.Test.YtnkcogaaajkplaaDet
namespace Go.Xr
open Go
set_option linter.unusedVariables false
def mixP (f l : List UInt8) (i : Nat) : Nat → UInt8
  | 0 => 0
  | k + 1 => mixP f l i k ^^^ times (g8 f ((k + 4 - i % 4) % 4)) (g8 l (i / 4 * 4 + k))
def mixL (f l : List UInt8) : List UInt8 := (List.range 16).map fun i => mixP f l i 4
def mixI (f l : List UInt8) (i : Nat) : List UInt8 := (mixL f l).take i ++ List.replicate (16 - i) 0
theorem mixL_len (f l : List UInt8) : (mixL f l).length = 16 := by simp [mixL]
theorem mixI_len (f l : List UInt8) (i : Nat) (hi : i ≤ 16) : (mixI f l i).length = 16 := by
  simp only [mixI, List.length_append, List.length_take, List.length_replicate, mixL_len]
  omega
theorem mixI_zero (f l : List UInt8) : mixI f l 0 = List.replicate 16 0 := by simp [mixI]
theorem mixI_all (f l : List UInt8) : mixI f l 16 = mixL f l := by
  unfold mixI
  rw [List.take_of_length_le (by rw [mixL_len]; exact Nat.le_refl _)]
  simp
theorem mixI_start (f l : List UInt8) (i : Nat) (hi : i < 16) : (mixI f l i).set i (mixP f l i 0) = mixI f l i := by
  have h : ((mixL f l).take i).length = i := by rw [List.length_take, mixL_len]; omega
  unfold mixI
  rw [List.set_append_right _ _ (by omega), h, Nat.sub_self, show 16 - i = (16 - (i + 1)) + 1 by omega, List.replicate_succ, List.set_cons_zero]
  rfl
theorem mixI_next (f l : List UInt8) (i : Nat) (hi : i < 16) : (mixI f l i).set i (mixP f l i 4) = mixI f l (i + 1) := by
  have h : ((mixL f l).take i).length = i := by rw [List.length_take, mixL_len]; omega
  have e : (mixL f l)[i]'(by rw [mixL_len]; exact hi) = mixP f l i 4 := by simp [mixL]
  unfold mixI
  rw [List.set_append_right _ _ (by omega), h, Nat.sub_self, show 16 - i = (16 - (i + 1)) + 1 by omega, List.replicate_succ, List.set_cons_zero, List.take_succ_eq_append_getElem (by rw [mixL_len]; exact hi), List.append_assoc, e]
  rfl
end Go.Xr
namespace Go.Proofs.Ytnkcogaaajkplaa
open Go Go.Xr Go.RowKit
set_option linter.unusedVariables false
set_option linter.unusedSimpArgs false
theorem bodyPost_row {P : Program} {fn : Func} {R : Ending → World → Prop} {a : Act} {w : World} {p : Tmp} {ty : TypeId} (h : fn.results = #[.cell p ty]) {b : Nat} {cs : List Value} (hp : a.tmps.getD p undef = .pointer (some ⟨b, 0, none⟩)) (hb : Blk w b cs)
    {n : Nat} (hT : AggT P ty n) (hn : cs.length = n) (hdf : a.defers = []) (hR : R (.returned (.agg cs.toArray)) w) : bodyPost P fn R .ret a w := by
  obtain ⟨d, hu, hd, hs⟩ := hT
  exact bodyPost_cell h hp hb d hu (by cases d <;> first | rfl | (simp [aggDesc] at hd)) (by rw [hs, hn]) hdf hR
theorem bvl {l : List UInt8} {n : Nat} (h : l.length = n) : (bv l).length = n := by rw [bv_length, h]
theorem whole {vs : List Value} {n : Nat} (h : vs.length = n) : (vs.drop 0).take n = vs := by rw [List.drop_zero, ← h, List.take_length]
theorem sqT : AggT Try.prog 45 16 := ⟨_, Try.underlying45, rfl, rfl⟩
attribute [local go_sem] xor_u8 xor_u8_c

set_option maxRecDepth 20000 in
set_option maxHeartbeats 1000000 in
theorem mix_any {w : World} (l fs : List UInt8) (hl : l.length = 16) (hk : fs.length = 4) : Calls Try.prog 31 #[.agg (bv l).toArray, .agg (bv fs).toArray] w fun e w' => e = .returned (.agg (bv (mixL fs l)).toArray) ∧ Fr [] w w' := by
  obtain ⟨i, hi, hz, hs⟩ := infS
  have Hi := hid hi
  have Hz := hid hz
  have Hs := hid (show (Try.prog.info? 45).map (·.size) = some 16 by rw [hi]; exact congrArg some hs)
  have Hl := hid hl
  have Hk := hid hk
  clear hi hz hs hl hk
  go_enter Try.func31, Try.ntmps31
  go_wp2_with (first
    | (refine wpList_box rfl _ _ rfl (bv l) rfl ?_; intro w1 f1 hlt1 hb1; simp only [World.size_alloc, World.size_drew, Act.put, List.setIfInBounds_toArray, List.set_cons_succ, List.set_cons_zero])
    | (refine wpList_box rfl _ _ rfl (bv fs) rfl ?_; intro w2 f2 hlt2 hb2; simp only [World.size_alloc, World.size_drew, Act.put, List.setIfInBounds_toArray, List.set_cons_succ, List.set_cons_zero])
    | (have q := hb3; clear q; refine wpList_alloc_any rfl _ rfl _ _ 16 Hi.out Hz.out rfl ?_; intro zs w4 hzl hze f4 hlt4 hb4; rw [hze] at hb4; clear hzl hze; simp only [World.size_alloc, World.size_drew, Act.put, List.setIfInBounds_toArray, List.set_cons_succ, List.set_cons_zero])
    | (refine wpList_alloc_any rfl _ rfl _ _ 16 Hi.out Hz.out rfl ?_; intro zs w3 hzl hze f3 hlt3 hb3; rw [hze] at hb3; clear hzl hze; simp only [World.size_alloc, World.size_drew, Act.put, List.setIfInBounds_toArray, List.set_cons_succ, List.set_cons_zero]))
  have q1 : Blk w4 w.heap.size (bv l) := f4.blk (f3.blk (f2.blk hb1 (by simp)) (by simp)) (by simp)
  have q2 : Blk w4 w1.heap.size (bv fs) := f4.blk (f3.blk hb2 (by simp)) (by simp)
  have q3 : Blk w4 w2.heap.size (bv (List.replicate 16 0)) := f4.blk hb3 (by simp)
  have q4 : Blk w4 w3.heap.size (bv (mixI fs l 0)) := by rw [mixI_zero]; exact hb4
  have g4 := ((f1.trans' f2).trans' f3).trans' f4
  have hn : w.heap.size < w1.heap.size ∧ w1.heap.size < w2.heap.size ∧ w2.heap.size < w3.heap.size := ⟨by omega, by omega, by omega⟩
  generalize w3.heap.size = N4 at *
  generalize w2.heap.size = N3 at *
  generalize w1.heap.size = N2 at *
  obtain ⟨hn1, hn2, hn3⟩ := hn
  clear hb1 hb2 hb3 hb4 f1 f2 f3 f4
  go_loopw [8] (fun iv wr => ∃ i : Nat, i ≤ 16 ∧ iv = .int .i64 i ∧ Blk wr w.heap.size (bv l) ∧ Blk wr N2 (bv fs) ∧ Blk wr N3 (bv (List.replicate 16 0)) ∧ Blk wr N4 (bv (mixI fs l i)) ∧ Fr [] w wr) (fun iv _ => 16 - (intOf iv).toNat)
  case atStart => exact ⟨0, by omega, rfl, q1, q2, q3, q4, g4⟩
  case round =>
    obtain ⟨i, hi, rfl, b1, b2, b3, b4, f⟩ := hrel
    clear q1 q2 q3 q4 g4
    by_cases hlt : i < 16
    · have hd1 : decide ((i : Int) < 16) = true := by simp; omega
      go_wp2_with fail
      rw [← mixI_start fs l i hlt] at b4
      clear hd1
      go_loopw [11] (fun jv wr => ∃ j : Nat, j ≤ 4 ∧ jv = .int .i64 j ∧ Blk wr w.heap.size (bv l) ∧ Blk wr N2 (bv fs) ∧ Blk wr N3 (bv (List.replicate 16 0)) ∧ Blk wr N4 (bv ((mixI fs l i).set i (mixP fs l i j))) ∧ Fr [] w wr) (fun jv _ => 4 - (intOf jv).toNat)
      case atStart => exact ⟨0, by omega, rfl, b1, b2, b3, b4, f⟩
      case round =>
        obtain ⟨j, hj, rfl, c1, c2, c3, c4, g⟩ := hrel
        clear b1 b2 b3 b4 f
        by_cases hlj : j < 4
        · have hd2 : decide ((j : Int) < 4) = true := by simp; omega
          obtain ⟨P, hP⟩ : ∃ P, mixP fs l i j = P := ⟨_, rfl⟩
          obtain ⟨A, hA⟩ : ∃ A, g8 fs ((j + 4 - i % 4) % 4) = A := ⟨_, rfl⟩
          obtain ⟨B, hB⟩ : ∃ B, g8 l (i / 4 * 4 + j) = B := ⟨_, rfl⟩
          have Hnx := hid (show mixP fs l i (j + 1) = P ^^^ times A B by rw [mixP, hP, hA, hB])
          have hlm := mixI_len fs l i hi
          obtain ⟨J, hJ⟩ : ∃ J, (j + 4 - i % 4) % 4 = J := ⟨_, rfl⟩
          obtain ⟨I, hI⟩ : ∃ I, i / 4 * 4 + j = I := ⟨_, rfl⟩
          rw [hJ] at hA
          rw [hI] at hB
          have hJ4 : J < 4 := by omega
          have hI16 : I < 16 := by omega
          have k4 : wr.cell? ⟨N4, i, none⟩ = some (bt P) := by rw [c4.cell, bv_getElem?, List.getElem?_set_self (by omega), hP]; rfl
          have k2 : wr.cell? ⟨N2, J, none⟩ = some (bt A) := by rw [c2.cell, bv_getElem?, g8_eq fs _ (by rw [Hk.out]; omega), hA]; rfl
          have k1 : wr.cell? ⟨w.heap.size, I, none⟩ = some (bt B) := by rw [c1.cell, bv_getElem?, g8_eq l _ (by rw [Hl.out]; omega), hB]; rfl
          have m1 : (0 : Int) ≤ (j : Int) - (i : Int) % 4 + 4 := by omega
          have m2 : (((j : Int) - (i : Int)) % 4).toNat = J := by omega
          have m3 : ((i : Int) / 4 * 4 + (j : Int)).toNat = I := by omega
          have m4 : (i : Int) / 4 * 4 + (j : Int) < 16 := by omega
          have m5 : i / 4 * 4 + j < 16 := by omega
          clear hP hA hB hlm hJ
          go_wp2_with fail
          refine wp_region_D (fun _ => True) false [18] (by kernel_rfl) ?_
          refine WD.pure [0, 1, 2, 3, 4, 5, 6, 7, 8, 9, 10, 11, 12, 13, 14, 15, 16, 17] (by kernel_rfl) trivial ?_
          simp only [pick, List.toList_toArray, List.map_cons, List.map_nil, List.getD_cons_succ, List.getD_cons_zero]
          repeat (first | go_big_quiet_step (fail))
          refine wpQuiet_nil ?_
          refine WD.eff 18 (by kernel_rfl) ?_
          simp only [pick, List.toList_toArray, List.map_cons, List.map_nil, List.getD_cons_succ, List.getD_cons_zero]
          go_wp2_with (go_at_call 6; refine (times_any _ _).mono ?_; rintro e w' ⟨rfl, rfl⟩)
          try refine wpList_nil ?_
          refine AfterD.quiet trivial rfl ?_
          refine WD.pure [19, 20] (by kernel_rfl) trivial ?_
          simp only [pick, List.toList_toArray, List.map_cons, List.map_nil, List.getD_cons_succ, List.getD_cons_zero]
          repeat (first | go_big_quiet_step (fail))
          refine wpQuiet_nil ?_
          refine WD.eff 21 (by kernel_rfl) ?_
          simp only [pick, List.toList_toArray, List.map_cons, List.map_nil, List.getD_cons_succ, List.getD_cons_zero]
          refine wpList_put rfl _ _ _ rfl rfl (bt (P ^^^ times A B)) rfl rfl c4.drew (by rw [bv_length, List.length_set, mixI_len fs l i hi]; exact hlt) (by kernel_rfl) ?_
          intro w5 f5 hb5 _
          try refine wpList_nil ?_
          refine AfterD.on trivial (by kernel_rfl) ?_
          refine WD.done (by kernel_rfl) ?_
          rw [← bv_set, List.set_set, ← Hnx.out] at hb5
          have f6 : Fr [N4] wr w5 := ((Fr.refl _ wr).drew).trans' f5
          go_wp2_with fail
          go_roundw
          case rel => exact ⟨j + 1, by omega, by go_num, f6.blk c1 (by simp; omega), f6.blk c2 (by simp; omega), f6.blk c3 (by simp; omega), hb5, g.trans f6 (by simp; omega)⟩
          case measure => simp [intOf]; omega
        · have hd2 : decide ((j : Int) < 4) = false := by simp; omega
          have ej : j = 4 := by omega
          rw [ej, mixI_next fs l i hlt] at c4
          clear ej hlj hj
          go_wp2_with fail
          go_roundw
          case rel => exact ⟨i + 1, by omega, by go_num, c1, c2, c3, c4, g⟩
          case measure => simp [intOf]; omega
    · have ei : i = 16 := by omega
      have hd1 : decide ((i : Int) < 16) = false := by simp; omega
      rw [ei, mixI_all fs l] at b4
      clear ei hlt
      have hlen := bvl (mixL_len fs l)
      have Hlen := hid hlen
      clear hlen
      go_wp2_with (first
        | (refine wpList_load_ag rfl _ _ rfl rfl (bv (mixL fs l)) b4 sqT Hlen.out (whole Hlen.out) ?_; simp only [World.size_alloc, World.size_drew, Act.put, List.setIfInBounds_toArray, List.set_cons_succ, List.set_cons_zero])
        | (refine wpList_store_ag rfl _ _ _ rfl rfl (bv (mixL fs l)) rfl b3 sqT Hlen.out (by rw [bv_length]; decide) (bv_one _) ?_; intro w7 f7 b7 hs7; rw [splice_all _ _ (by rw [bv_length, Hlen.out]; rfl)] at b7; (try simp only [World.size_alloc, World.size_drew, Act.put, List.setIfInBounds_toArray, List.set_cons_succ, List.set_cons_zero])))
      refine bodyPost_row rfl rfl b7 sqT (by rw [bv_length, mixL_len]) rfl ?_
      exact ⟨rfl, f.trans f7 (fun x hx => .inr (by simp at hx; omega))⟩
end Go.Proofs.Ytnkcogaaajkplaa
