/- Layer 1, sha: a block is taken. -/
import Derived.Test.YtfcpnicgffbmeaaShaA
import Derived.Test.YtfcpnicgffbmeaaBuild
import Derived.Outline
namespace Go.Proofs.Ytfcpnicgffbmeaa
open Go Go.Xr Go.RowKit
set_option linter.unusedVariables false
set_option linter.unusedSimpArgs false

def w32s (l : List UInt32) : List Value := l.map W32
/-- A hash's cells. -/
def hcs (tp : Nat) (v : List UInt32) (p : List UInt8) (n : Nat) : List Value := .pointer (some ⟨tp, 0, none⟩) :: (w32s v ++ (bv p ++ [.int .u64 (n : Int)]))
/-- The table's cells. -/
def tcs (B K : List UInt32) : List Value := w32s B ++ w32s K

theorem hcs_v (tp : Nat) (v : List UInt32) (p : List UInt8) (n : Nat) (hv : v.length = 8) (i : Nat) (hi : i < 8) : (hcs tp v p n)[1 + i]? = some (W32 (g32 v i)) := by
  unfold hcs w32s
  rw [Nat.add_comm, List.getElem?_cons_succ, List.getElem?_append_left (by simpa using (by omega)), List.getElem?_map, g32_eq v i (by omega)]
  rfl
theorem hcs_p (tp : Nat) (v : List UInt32) (p : List UInt8) (n : Nat) (hv : v.length = 8) (hp : p.length = 64) (i : Nat) (hi : i < 64) : (hcs tp v p n)[9 + i]? = some (bt (g8 p i)) := by
  unfold hcs w32s
  rw [show 9 + i = (8 + i) + 1 by omega, List.getElem?_cons_succ, List.getElem?_append_right (by simpa using (by omega)), List.getElem?_append_left (by simp; omega), bv_getElem?]
  simp only [List.length_map, hv]
  rw [show 8 + i - 8 = i by omega, g8_eq p i (by omega)]
  rfl

theorem cv8_32 (w : World) (a : UInt8) : (convert 5 52 (bt a)).run Try.prog w = .ok (W32 a.toUInt32) w := conv_u8_u32 w _ _ a Try.underlying5 Try.underlying52 rfl
attribute [local go_sem] store_u32 store_u64 store_u8 put_u8 put_u32 put_u64 cells_u8 cells_u32 cells_u64 cv8_32 shl_u32 shr_u32 or_u32 xor_u32 and_u32 add_u32 not_u32


theorem hcs_length (tp : Nat) (v : List UInt32) (p : List UInt8) (n : Nat) (hv : v.length = 8) (hp : p.length = 64) : (hcs tp v p n).length = 74 := by
  simp [hcs, w32s, hv, hp]
theorem hcs_set (tp : Nat) (v : List UInt32) (p : List UInt8) (n : Nat) (i : Nat) (hv : v.length = 8) (hi : i < 8) (x : UInt32) : (hcs tp v p n).set (1 + i) (W32 x) = hcs tp (v.set i x) p n := by
  unfold hcs w32s
  rw [Nat.add_comm, List.set_cons_succ, List.set_append_left _ _ (by simpa using (by omega)), List.map_set]
theorem w32s_one (l : List UInt32) : ∀ u ∈ w32s l, u.oneCell' = true := by
  intro u hu
  obtain ⟨c, _, rfl⟩ := List.mem_map.1 hu
  rfl
theorem inf8 : ∃ i, Try.prog.info? 53 = some i ∧ i.zero = some (.agg (List.replicate 8 (W32 0)).toArray) := ⟨_, rfl, rfl⟩
theorem inf62 : ∃ i, Try.prog.info? 55 = some i ∧ i.zero = some (.agg (List.replicate 64 (W32 0)).toArray) ∧ i.size = 64 := ⟨_, rfl, rfl, rfl⟩
/-- The words as they are gathered: i of them whole, one begun, the rest 0. -/
def ldm (p : List UInt8) (i k : Nat) : List UInt32 := ldl p i ++ ldw p i k :: List.replicate (63 - i) 0
theorem ldm_get (p : List UInt8) (i k : Nat) : (w32s (ldm p i k))[i]? = some (W32 (ldw p i k)) := by
  unfold w32s ldm
  rw [List.getElem?_map, List.getElem?_append_right (by rw [ldl_length]; exact Nat.le_refl _), ldl_length, Nat.sub_self]
  rfl
theorem ldm_set (p : List UInt8) (i k : Nat) : (w32s (ldm p i k)).set i (W32 (shl32 (ldw p i k) 8 ||| (g8 p (4 * i + k)).toUInt32)) = w32s (ldm p i (k + 1)) := by
  unfold w32s ldm
  rw [← List.map_set, List.set_append_right _ _ (by rw [ldl_length]; exact Nat.le_refl _), ldl_length, Nat.sub_self]
  rfl
theorem ldm_next (p : List UInt8) (i : Nat) (hi : i < 15) : ldm p i 4 = ldm p (i + 1) 0 := by
  unfold ldm
  rw [ldl_succ, List.append_assoc, show 63 - i = (63 - (i + 1)) + 1 by omega, List.replicate_succ]
  rfl
theorem ldm_end (p : List UInt8) : ldm p 15 4 = sch p 0 ++ List.replicate 48 0 := by
  unfold ldm sch
  rw [show (16 : Nat) = 15 + 1 from rfl, ldl_succ, List.append_assoc]
  rfl
theorem ldm_start (p : List UInt8) : w32s (ldm p 0 0) = List.replicate 64 (W32 0) := by
  simp [ldm, ldl, ldw, w32s]
/-- After i rounds: the same, whatever i. -/
def ldo (p : List UInt8) (i : Nat) : List UInt32 := ldl p i ++ List.replicate (64 - i) 0
theorem ldo_lt (p : List UInt8) (i : Nat) (hi : i < 64) : ldo p i = ldm p i 0 := by
  unfold ldo ldm
  rw [show 64 - i = (63 - i) + 1 by omega, List.replicate_succ]
  rfl
theorem ldo_succ (p : List UInt8) (i : Nat) (hi : i < 64) : ldm p i 4 = ldo p (i + 1) := by
  unfold ldo ldm
  rw [ldl_succ, List.append_assoc, show 64 - (i + 1) = 63 - i by omega]
  rfl

/-- The words, after j more; the rest 0. -/
def schm (p : List UInt8) (j : Nat) : List UInt32 := sch p j ++ List.replicate (48 - j) 0
theorem schm_get (p : List UInt8) (j i : Nat) (h : i < 16 + j) : (w32s (schm p j))[i]? = some (W32 (g32 (sch p j) i)) := by
  unfold w32s schm
  rw [List.getElem?_map, List.getElem?_append_left (by rw [sch_length]; exact h), g32_eq _ _ (by rw [sch_length]; exact h)]
  rfl
theorem schm_length (p : List UInt8) (j : Nat) (h : j ≤ 48) : (w32s (schm p j)).length = 64 := by
  unfold w32s schm
  rw [List.length_map, List.length_append, sch_length, List.length_replicate]
  omega
theorem schm_set (p : List UInt8) (j : Nat) (h : j < 48) : (w32s (schm p j)).set (16 + j) (W32 (schW (sch p j) (16 + j))) = w32s (schm p (j + 1)) := by
  unfold w32s schm
  rw [← List.map_set, List.set_append_right _ _ (by rw [sch_length]; exact Nat.le_refl _), sch_length, Nat.sub_self, show 48 - j = (48 - (j + 1)) + 1 by omega, List.replicate_succ, List.set_cons_zero]
  rw [sch, List.append_assoc]
  rfl

/-- The same by the next one's number. -/
def schi (p : List UInt8) (i : Nat) : List UInt32 := schm p (i - 16)
theorem schi_get (p : List UInt8) (i x : Nat) (h : 16 ≤ i) (hx : x < i) : (w32s (schi p i))[x]? = some (W32 (g32 (sch p (i - 16)) x)) := schm_get p (i - 16) x (by omega)
theorem schi_length (p : List UInt8) (i : Nat) (h : i ≤ 64) : (w32s (schi p i)).length = 64 := schm_length p (i - 16) (by omega)
theorem schi_set (p : List UInt8) (i : Nat) (h : 16 ≤ i) (h2 : i < 64) : (w32s (schi p i)).set i (W32 (schW (sch p (i - 16)) i)) = w32s (schi p (i + 1)) := by
  have := schm_set p (i - 16) (by omega)
  rw [show 16 + (i - 16) = i by omega] at this
  unfold schi
  rw [this, show i + 1 - 16 = i - 16 + 1 by omega]

set_option maxHeartbeats 4000000 in
set_option maxRecDepth 100000 in
theorem block_any {w : World} {hb tp : Nat} {v : List UInt32} {p : List UInt8} {n : Nat} {B K : List UInt32} (hH : Blk w hb (hcs tp v p n)) (hT : Blk w tp (tcs B K)) (hv : v.length = 8) (hp : p.length = 64) (hK : K.length = 64) (hB : B.length = 8) :
    Calls Try.prog 30 #[.pointer (some ⟨hb, 0, none⟩)] w fun e w' => e = .returned (.tuple #[]) ∧ Blk w' hb (hcs tp (compress K v p) p n) ∧ Fr [hb] w w' := by
  obtain ⟨i62, hi62, hz62, hs62⟩ := inf62
  have Hi := hid hi62
  have Hz := hid hz62
  have Hs := hid hs62
  have Hv := hid hv
  have Hp := hid hp
  have HK := hid hK
  have HB := hid hB
  obtain ⟨i8, hi8, hz8⟩ := inf8
  have Hi8 := hid hi8
  have Hz8 := hid hz8
  clear hi62 hz62 hs62 hv hp hK hB hi8 hz8
  go_enter Try.func30, Try.ntmps30
  go_wp2_with (refine wpList_alloc_agg rfl _ rfl _ _ 64 Hi.out Hz.out rfl ?_; intro zs hzl hze hbz; have Hze := hid hze; clear hzl hze; simp only [World.size_alloc, World.size_drew, Act.put, List.setIfInBounds_toArray, List.set_cons_succ, List.set_cons_zero])
  have HB0 : Hid (Blk (w.alloc (.cells zs.toArray 55)) w.heap.size (w32s (ldo p 0))) := by
    have e : zs = w32s (ldo p 0) := by
      rw [Hze.out, ldo_lt p 0 (by decide), ldm_start]
      show (List.replicate 64 (W32 0)).toArray.toList = _
      rw [List.toList_toArray]
    rw [← e]
    exact hbz
  clear hbz
  have f0 : Fr [] w (w.alloc (.cells zs.toArray 55)) := (Fr.refl [] w).alloc _
  generalize w.alloc (.cells zs.toArray 55) = w1 at *
  have Hlt := hid hH.lt
  go_loopw [23] (fun i wr => ∃ m : Nat, m ≤ 16 ∧ i = .int .i64 m ∧ Blk wr w.heap.size (w32s (ldo p m)) ∧ Fr [] w wr) (fun i _ => 16 - (intOf i).toNat)
  case atStart => exact ⟨0, by omega, rfl, HB0.out, f0⟩
  case round =>
    obtain ⟨m, hm, rfl, hb1, f⟩ := hrel
    clear f0 HB0
    by_cases hlt : m < 16
    · have hd1 : decide ((m : Int) < 16) = true := by simp; omega
      go_wp2_with fail
      obtain ⟨wo, rfl⟩ : ∃ wo : World, wo = wr := ⟨_, rfl⟩
      have Hb1 : Hid (Blk wo w.heap.size (w32s (ldm p m 0))) := by
        rw [← ldo_lt p m (by omega)]
        exact hb1
      clear hb1
      go_loopw [26] (fun k wr => ∃ j : Nat, j ≤ 4 ∧ k = .int .i64 j ∧ Blk wr w.heap.size (w32s (ldm p m j)) ∧ Fr [] w wr) (fun k _ => 4 - (intOf k).toNat)
      case atStart => exact ⟨0, by omega, rfl, Hb1.out, f⟩
      case round =>
        obtain ⟨j, hj, rfl, hb2, f2⟩ := hrel
        clear f Hb1
        by_cases hlt2 : j < 4
        · have hbH := f2.blk hH (by simp)
          have hc2 : wr.cell? ⟨w.heap.size, m, none⟩ = some (W32 (ldw p m j)) := by rw [hb2.cell]; exact ldm_get p m j
          have hcp : wr.cell? ⟨hb, 9 + (4 * m + j), none⟩ = some (bt (g8 p (4 * m + j))) := by rw [hbH.cell]; exact hcs_p tp v p n Hv.out Hp.out _ (by omega)
          have hf2 := hb2.free m (by unfold w32s ldm; simp [ldl_length])
          go_wp2_with fail
          obtain ⟨ι, W, hι, hW1, hW2, hW0⟩ := family (fun w' => Blk w' hb (hcs tp v p n) ∧ Blk w' w.heap.size (w32s (ldm p m j))) (w := wr.drew) ⟨hbH, hb2⟩
          have HW1 := hid hW1
          have HW2 := hid hW2
          have HW0 := hid hW0
          clear hW1 hW2 hW0
          have hS1 : ∀ i, (W i).cell? ⟨w.heap.size, m, none⟩ = some (W32 (ldw p m j)) := fun i => by rw [(HW1.out i).2.cell]; exact ldm_get p m j
          have hS2 : ∀ i, (W i).cell? ⟨hb, 9 + (4 * m + j), none⟩ = some (bt (g8 p (4 * m + j))) := fun i => by rw [(HW1.out i).1.cell]; exact hcs_p tp v p n Hv.out Hp.out _ (by omega)
          refine wp_region_X (fun w' => ∃ j, w' = W j) true (by kernel_rfl) ?_
          refine WX.pure [0, 1, 2, 3, 4, 5, 6, 7, 8, 9, 10, 11, 12, 13, 14, 15, 16] (by kernel_rfl) HW0.out ?_
          simp only [pick, List.toList_toArray, List.map_cons, List.map_nil, List.getD_cons_succ, List.getD_cons_zero]
          repeat (go_big_quiet_step (fail))
          refine wpQuiet_nil ?_
          refine WX.eff 17 (by kernel_rfl) ?_
          simp only [pick, List.toList_toArray, List.map_cons, List.map_nil, List.getD_cons_succ, List.getD_cons_zero]
          refine wpList_put rfl _ _ _ rfl rfl _ rfl rfl hb2.drew (by unfold w32s ldm; simp [ldl_length]) (by kernel_rfl) ?_
          intro w5 f5 hb5 _
          refine wpList_nil ?_
          refine After.end rfl ?_
          refine WX.done (by kernel_rfl) ?_
          clear hS1 hS2
          clear HW1 HW2 HW0 hι W ι
          go_wp2_with fail
          go_roundw
          case rel => exact ⟨j + 1, by omega, by go_num, by rw [← ldm_set]; exact hb5, (f2.drew).trans f5 (by simp)⟩
          case measure => simp [intOf]; omega
        · obtain rfl : j = 4 := by omega
          have Hb3 : Hid (Blk wr w.heap.size (w32s (ldo p (m + 1)))) := by
            rw [← ldo_succ p m (by omega)]
            exact hb2
          clear hb2
          go_wp2_with fail
          go_roundw
          case rel => exact ⟨m + 1, by omega, by go_num, Hb3.out, f2⟩
          case measure => simp [intOf]; omega
    · have em : m = 16 := by omega
      have hge : (16 : Int) ≤ m := by omega
      have hd1 : decide ((m : Int) < 16) = false := by simp; omega
      have hb2 : Blk wr w.heap.size (w32s (schi p 16)) := by
        rw [em] at hb1
        exact hb1
      clear hb1 em
      go_wp2_with fail
      go_loopw [6] (fun k wr => ∃ i : Nat, 16 ≤ i ∧ i ≤ 64 ∧ k = .int .i64 i ∧ Blk wr w.heap.size (w32s (schi p i)) ∧ Fr [] w wr) (fun k _ => 64 - (intOf k).toNat)
      case atStart => exact ⟨16, by omega, by omega, rfl, hb2, f⟩
      case round =>
        obtain ⟨i, hi1, hi2, rfl, hb3, f3⟩ := hrel
        clear f hb2
        by_cases hlt : i < 64
        · have hd1 : decide ((i : Int) < 64) = true := by simp; omega
          have c15 : wr.cell? ⟨w.heap.size, i - 15, none⟩ = some (W32 (g32 (sch p (i - 16)) (i - 15))) := by rw [hb3.cell]; exact schi_get p i _ hi1 (by omega)
          have c2 : wr.cell? ⟨w.heap.size, i - 2, none⟩ = some (W32 (g32 (sch p (i - 16)) (i - 2))) := by rw [hb3.cell]; exact schi_get p i _ hi1 (by omega)
          go_wp2_with fail
          go_quiet (fail)
          clear c15 c2
          have hb4 := hb3.drewN nq
          have f4 := f3.drewN nq
          generalize wr.drewN nq = w4 at *
          go_wp2_with fail
          obtain ⟨ι, W, hι, hW1, hW2, hW0⟩ := family (fun w' => Blk w' w.heap.size (w32s (schi p i))) (w := w4.drew) hb4.drew
          have HW1 := hid hW1
          have HW2 := hid hW2
          have HW0 := hid hW0
          clear hW1 hW2 hW0
          have hS1 : ∀ k, (W k).cell? ⟨w.heap.size, i - 16, none⟩ = some (W32 (g32 (sch p (i - 16)) (i - 16))) := fun k => by rw [(HW1.out k).cell]; exact schi_get p i _ hi1 (by omega)
          have hS2 : ∀ k, (W k).cell? ⟨w.heap.size, i - 7, none⟩ = some (W32 (g32 (sch p (i - 16)) (i - 7))) := fun k => by rw [(HW1.out k).cell]; exact schi_get p i _ hi1 (by omega)
          refine wp_region_X (fun w' => ∃ j, w' = W j) true (by kernel_rfl) ?_
          refine WX.pure [0, 1, 2, 3, 4, 5, 6, 7, 8, 9, 10, 11, 13, 14, 17, 18, 21, 22, 24, 25, 28, 29] (by kernel_rfl) HW0.out ?_
          simp only [pick, List.toList_toArray, List.map_cons, List.map_nil, List.getD_cons_succ, List.getD_cons_zero]
          repeat (go_big_quiet_step (fail))
          refine wpQuiet_nil ?_
          refine WX.eff 12 (by kernel_rfl) ?_
          simp only [pick, List.toList_toArray, List.map_cons, List.map_nil, List.getD_cons_succ, List.getD_cons_zero]
          go_wp2_with (go_at_call 37; refine (turn_at _ _ (by decide) _).mono ?_; rintro e w' ⟨rfl, rfl⟩)
          refine After.on HW0.out ?_
          refine WX.eff 15 (by kernel_rfl) ?_
          simp only [pick, List.toList_toArray, List.map_cons, List.map_nil, List.getD_cons_succ, List.getD_cons_zero]
          go_wp2_with (go_at_call 37; refine (turn_at _ _ (by decide) _).mono ?_; rintro e w' ⟨rfl, rfl⟩)
          refine After.on HW0.out ?_
          refine WX.pure [16, 19, 20] (by kernel_rfl) HW0.out ?_
          simp only [pick, List.toList_toArray, List.map_cons, List.map_nil, List.getD_cons_succ, List.getD_cons_zero]
          repeat (go_big_quiet_step (fail))
          refine wpQuiet_nil ?_
          refine WX.eff 23 (by kernel_rfl) ?_
          simp only [pick, List.toList_toArray, List.map_cons, List.map_nil, List.getD_cons_succ, List.getD_cons_zero]
          go_wp2_with (go_at_call 37; refine (turn_at _ _ (by decide) _).mono ?_; rintro e w' ⟨rfl, rfl⟩)
          refine After.on HW0.out ?_
          refine WX.eff 26 (by kernel_rfl) ?_
          simp only [pick, List.toList_toArray, List.map_cons, List.map_nil, List.getD_cons_succ, List.getD_cons_zero]
          go_wp2_with (go_at_call 37; refine (turn_at _ _ (by decide) _).mono ?_; rintro e w' ⟨rfl, rfl⟩)
          refine After.on HW0.out ?_
          refine WX.pure [27, 30, 31, 32] (by kernel_rfl) HW0.out ?_
          simp only [pick, List.toList_toArray, List.map_cons, List.map_nil, List.getD_cons_succ, List.getD_cons_zero]
          repeat (go_big_quiet_step (fail))
          refine wpQuiet_nil ?_
          refine WX.eff 33 (by kernel_rfl) ?_
          simp only [pick, List.toList_toArray, List.map_cons, List.map_nil, List.getD_cons_succ, List.getD_cons_zero]
          refine wpList_put rfl _ _ _ rfl rfl (W32 (schW (sch p (i - 16)) i)) rfl rfl hb4.drew (by rw [schi_length p i hi2]; exact hlt) (by kernel_rfl) ?_
          intro w5 f5 hb5 _
          refine wpList_nil ?_
          refine After.end rfl ?_
          refine WX.done (by kernel_rfl) ?_
          clear hS1 hS2
          clear HW1 HW2 HW0 hι W ι
          rw [schi_set p i hi1 hlt] at hb5
          go_wp2_with fail
          go_roundw
          case rel => exact ⟨i + 1, by omega, by omega, by go_num, hb5, (f4.drew).trans f5 (by simp)⟩
          case measure => simp [intOf]; omega
        · have ei : i = 64 := by omega
          have hge2 : (64 : Int) ≤ i := by omega
          have hd2 : decide ((i : Int) < 64) = false := by simp; omega
          rw [ei] at hb3
          clear ei
          have hbH := f3.blk hH (by simp)
          have hbT := f3.blk hT (by simp)
          have hcv : ∀ x, x < 8 → wr.cell? ⟨hb, 1 + x, none⟩ = some (W32 (g32 v x)) := fun x hx => by rw [hbH.cell]; exact hcs_v tp v p n Hv.out x hx
          have c0 := hcv 0 (by decide)
          have c1 := hcv 1 (by decide)
          have c2 := hcv 2 (by decide)
          have c3 := hcv 3 (by decide)
          have c4 := hcv 4 (by decide)
          have c5 := hcv 5 (by decide)
          have c6 := hcv 6 (by decide)
          have c7 := hcv 7 (by decide)
          clear hcv
          simp only [Nat.reduceAdd] at c0 c1 c2 c3 c4 c5 c6 c7
          go_wp2_with fail
          go_quiet (fail)
          clear c0 c1 c2 c3 c4 c5 c6 c7
          have hb4 := hb3.drewN nq
          have hbH4 := hbH.drewN nq
          have hbT4 := hbT.drewN nq
          have f4 := f3.drewN nq
          clear hb3 hbH hbT f3
          generalize wr.drewN nq = w4 at *
          go_wp2_with (refine wpList_load_agg rfl _ _ rfl rfl (w32s (schi p 64)) hb4 _ Try.underlying55 rfl (by rw [schi_length p 64 (by decide)]; kernel_rfl) (by rw [List.drop_zero, List.take_length]) ?_; simp only [World.size_alloc, World.size_drew, Act.put, List.setIfInBounds_toArray, List.set_cons_succ, List.set_cons_zero])
          have hKk : ∀ x, x < 64 → (tcs B K)[8 + x]? = some (W32 (g32 K x)) := fun x hx => by
            unfold tcs w32s
            rw [List.getElem?_append_right (by rw [List.length_map, HB.out]; omega), List.length_map, HB.out, show 8 + x - 8 = x by omega, List.getElem?_map, g32_eq K x (by rw [HK.out]; exact hx)]
            rfl
          have HKk := hid hKk
          clear hKk hge hge2 hd1 hd2
          go_loopw [9, 10, 11, 12, 13, 14, 15, 16, 134] (fun a b c d e f g h k wr => ∃ (q : Nat) (s : St), q ≤ 64 ∧ k = .int .i64 q ∧ Hid (s = rnds K (sch p 48) q (St.of v)) ∧ a = W32 s.a ∧ b = W32 s.b ∧ c = W32 s.c ∧ d = W32 s.d ∧ e = W32 s.e ∧ f = W32 s.f ∧ g = W32 s.g ∧ h = W32 s.h ∧ Blk wr hb (hcs tp v p n) ∧ Blk wr tp (tcs B K) ∧ Fr [] w wr) (fun _ _ _ _ _ _ _ _ k _ => 64 - (intOf k).toNat)
          case atStart => exact ⟨0, St.of v, by omega, rfl, rfl, rfl, rfl, rfl, rfl, rfl, rfl, rfl, rfl, hbH4, hbT4, f4⟩
          case round =>
            obtain ⟨q, s, hq, rfl, hs, rfl, rfl, rfl, rfl, rfl, rfl, rfl, rfl, hbH5, hbT5, f5⟩ := hrel
            clear hbH4 hbT4 f4 hb4
            by_cases hlt : q < 64
            · have hix : ∀ w0 : World, (Instr.index 55 (.agg (w32s (schi p 64)).toArray) (.int .i64 q)).run Try.prog w0 = .ok (W32 (g32 (sch p 48) q)) w0 := fun w0 =>
                index_agg w0 _ _ _ _ _ _ Try.underlying55 (by kernel_rfl) (by rw [List.size_toArray]; exact schi_length p 64 (by decide)) _ (by omega) (by omega) (by rw [List.toList_toArray, Int.toNat_natCast]; exact schi_get p 64 q (by decide) (by omega)) (by kernel_rfl)
              have cH := hbH5.cell 0
              have cT : wr.cell? ⟨tp, 8 + q, none⟩ = some (W32 (g32 K q)) := by rw [hbT5.cell]; exact HKk.out q hlt
              rw [show (hcs tp v p n)[0]? = some (.pointer (some ⟨tp, 0, none⟩)) from rfl] at cH
              have hd1 : decide ((q : Int) < 64) = true := by simp; omega
              go_wp2_with fail
              clear cH cT
              obtain ⟨ι, W, hι, hW1, hW2, hW0⟩ := family (fun w' => Blk w' hb (hcs tp v p n) ∧ Blk w' tp (tcs B K)) (w := wr.drew) ⟨hbH5.drew, hbT5.drew⟩
              have HW1 := hid hW1
              have HW2 := hid hW2
              have HW0 := hid hW0
              clear hW1 hW2 hW0
              have hS1 : ∀ k, (W k).cell? ⟨hb, 0, none⟩ = some (.pointer (some ⟨tp, 0, none⟩)) := fun k => (HW1.out k).1.cell 0
              have hS2 : ∀ k, (W k).cell? ⟨tp, 8 + q, none⟩ = some (W32 (g32 K q)) := fun k => by rw [(HW1.out k).2.cell]; exact HKk.out q hlt
              refine wp_region_X (fun w' => ∃ j, w' = W j) false (by kernel_rfl) ?_
              refine WX.pure [0, 1, 2, 4, 5, 8, 9, 13, 14, 15, 16, 17, 18, 19, 20, 22, 23, 24, 25, 26, 27, 28, 29, 30, 32] (by kernel_rfl) HW0.out ?_
              simp only [pick, List.toList_toArray, List.map_cons, List.map_nil, List.getD_cons_succ, List.getD_cons_zero]
              repeat (go_big_quiet_step (fail))
              refine wpQuiet_nil ?_
              refine WX.eff 3 (by kernel_rfl) ?_
              simp only [pick, List.toList_toArray, List.map_cons, List.map_nil, List.getD_cons_succ, List.getD_cons_zero]
              go_wp2_with (go_at_call 37; refine (turn_at _ _ (by decide) _).mono ?_; rintro e w' ⟨rfl, rfl⟩)
              refine After.on HW0.out ?_
              refine WX.eff 6 (by kernel_rfl) ?_
              simp only [pick, List.toList_toArray, List.map_cons, List.map_nil, List.getD_cons_succ, List.getD_cons_zero]
              go_wp2_with (go_at_call 37; refine (turn_at _ _ (by decide) _).mono ?_; rintro e w' ⟨rfl, rfl⟩)
              refine After.on HW0.out ?_
              refine WX.pure [7] (by kernel_rfl) HW0.out ?_
              simp only [pick, List.toList_toArray, List.map_cons, List.map_nil, List.getD_cons_succ, List.getD_cons_zero]
              repeat (go_big_quiet_step (fail))
              refine wpQuiet_nil ?_
              refine WX.eff 10 (by kernel_rfl) ?_
              simp only [pick, List.toList_toArray, List.map_cons, List.map_nil, List.getD_cons_succ, List.getD_cons_zero]
              go_wp2_with (go_at_call 37; refine (turn_at _ _ (by decide) _).mono ?_; rintro e w' ⟨rfl, rfl⟩)
              refine After.on HW0.out ?_
              refine WX.pure [11, 12, 21, 31, 33, 34] (by kernel_rfl) HW0.out ?_
              simp only [pick, List.toList_toArray, List.map_cons, List.map_nil, List.getD_cons_succ, List.getD_cons_zero]
              repeat (go_big_quiet_step (fail))
              refine wpQuiet_nil ?_
              refine WX.done (by kernel_rfl) ?_
              clear hS1 hS2
              clear HW1 HW2 HW0 hι W ι
              have hbH6 := hbH5.drew
              have hbT6 := hbT5.drew
              have f6 := f5.drew
              clear hbH5 hbT5 f5
              generalize wr.drew = w6 at *
              go_wp2_with (go_at_call 37; refine (turn_at _ _ (by decide) _).mono ?_; rintro e w' ⟨rfl, rfl⟩)
              go_roundw
              case rel => exact ⟨q + 1, rnd (g32 K q) (g32 (sch p 48) q) s, by omega, by go_num, by rw [hs]; rfl, rfl, rfl, rfl, rfl, rfl, rfl, rfl, rfl, hbH6, hbT6, f6⟩
              case measure => simp [intOf]; omega
            · have eq : q = 64 := by omega
              have hge3 : (64 : Int) ≤ q := by omega
              have hd3 : decide ((q : Int) < 64) = false := by simp; omega
              rw [eq] at hs
              clear eq
              go_wp2_with (refine wpList_build_arr rfl _ _ rfl 8 52 Try.underlying53 _ _ Hi8.out Hz8.out rfl (by kernel_rfl) rfl (w32s s.list) rfl (w32s_one _) ?_; simp only [World.size_alloc, World.size_drew, Act.put, List.setIfInBounds_toArray, List.set_cons_succ, List.set_cons_zero])
              clear hd3 hge3
              go_loopw [217] (fun k wr => ∃ r : Nat, r ≤ 8 ∧ k = .int .i64 r ∧ Blk wr hb (hcs tp (addW v s r) p n) ∧ Fr [hb] w wr) (fun k _ => 8 - (intOf k).toNat)
              case atStart => exact ⟨0, by omega, rfl, by rw [addW_zero v s Hv.out]; exact hbH5, f5.mono (by simp)⟩
              case round =>
                obtain ⟨r, hr, rfl, hb6, f6⟩ := hrel
                clear hbH5 hbT5 f5
                by_cases hlt3 : r < 8
                · have hix : ∀ w0 : World, (Instr.index 53 (.agg (w32s s.list).toArray) (.int .i64 r)).run Try.prog w0 = .ok (W32 (g32 s.list r)) w0 := fun w0 =>
                    index_agg w0 _ _ _ _ _ _ Try.underlying53 (by kernel_rfl) rfl _ (by omega) (by omega) (by rw [List.toList_toArray, Int.toNat_natCast]; unfold w32s; rw [List.getElem?_map, g32_eq _ _ hlt3]; rfl) (by kernel_rfl)
                  have hd1 : decide ((r : Int) < 8) = true := by simp; omega
                  go_wp2_with fail
                  clear hix
                  obtain ⟨ι, W, hι, hW1, hW2, hW0⟩ := family (fun w' => Blk w' hb (hcs tp (addW v s r) p n)) (w := wr.drew) hb6.drew
                  have HW1 := hid hW1
                  have HW2 := hid hW2
                  have HW0 := hid hW0
                  clear hW1 hW2 hW0
                  have hS1 : ∀ k, (W k).cell? ⟨hb, 1 + r, none⟩ = some (W32 (g32 v r)) := fun k => by rw [(HW1.out k).cell, hcs_v tp _ p n (addW_length _ _ _) r hlt3, addW_get v s r hlt3]
                  refine wp_region_X (fun w' => ∃ j, w' = W j) true (by kernel_rfl) ?_
                  refine WX.pure [0, 1, 2, 3, 4, 5, 6, 7, 8, 9, 10] (by kernel_rfl) HW0.out ?_
                  simp only [pick, List.toList_toArray, List.map_cons, List.map_nil, List.getD_cons_succ, List.getD_cons_zero]
                  repeat (go_big_quiet_step (fail))
                  refine wpQuiet_nil ?_
                  refine WX.eff 11 (by kernel_rfl) ?_
                  simp only [pick, List.toList_toArray, List.map_cons, List.map_nil, List.getD_cons_succ, List.getD_cons_zero]
                  refine wpList_put rfl _ _ _ rfl rfl (W32 (g32 v r + g32 s.list r)) rfl rfl hb6.drew (by rw [hcs_length tp _ p n (addW_length _ _ _) Hp.out]; omega) (by kernel_rfl) ?_
                  intro w7 f7 hb7 _
                  refine wpList_nil ?_
                  refine After.end rfl ?_
                  refine WX.done (by kernel_rfl) ?_
                  clear hS1
                  clear HW1 HW2 HW0 hι W ι
                  rw [hcs_set tp _ p n r (addW_length _ _ _) hlt3, addW_set v s r hlt3] at hb7
                  go_wp2_with fail
                  go_roundw
                  case rel => exact ⟨r + 1, by omega, by go_num, hb7, f6.drew.trans' f7⟩
                  case measure => simp [intOf]; omega
                · have er : r = 8 := by omega
                  have hd1 : decide ((r : Int) < 8) = false := by simp; omega
                  rw [er] at hb6
                  clear er
                  go_wp2_with fail
                  go_end0
                  refine ⟨rfl, ?_, f6⟩
                  unfold compress
                  rw [← hs.out]
                  exact hb6
end Go.Proofs.Ytfcpnicgffbmeaa
