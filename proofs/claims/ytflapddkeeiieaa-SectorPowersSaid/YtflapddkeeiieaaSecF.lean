/- Layer 6: Fill. -/
import Derived.Test.YtflapddkeeiieaaSecE
namespace Go.Proofs.Ytflapddkeeiieaa
open Go Go.Xr Go.RowKit
set_option linter.unusedVariables false
set_option linter.unusedSimpArgs false

set_option maxRecDepth 20000 in
theorem inf5 : ∃ i, Try.prog.info? 5 = some i ∧ i.zero = some (.int .u8 0) ∧ i.size = 1 ∧ i.bytes = 1 := ⟨_, rfl, rfl, rfl, rfl⟩

def u8of (n : Int) : UInt8 := UInt8.ofNat (n % 256).toNat
def fillL (c : UInt8) (n : Int) : List UInt8 := u8of n :: u8of (n / 256) :: List.replicate 510 c
theorem fillL_len (c : UInt8) (n : Int) : (fillL c n).length = 512 := by
  unfold fillL
  rw [List.length_cons, List.length_cons, List.length_replicate]
theorem bt_u8of (n : Int) : Value.int .u8 (n % 256) = bt (u8of n) := by
  unfold bt u8of
  have h1 : 0 ≤ n % 256 := Int.emod_nonneg _ (by decide)
  have h2 : n % 256 < 256 := Int.emod_lt_of_pos _ (by decide)
  have : ((UInt8.ofNat (n % 256).toNat).toNat : Int) = n % 256 := by
    rw [UInt8.toNat_ofNat']
    omega
  rw [this]
theorem fillL_cells (c : UInt8) (n : Int) : ((List.replicate 512 (bt c)).set 0 (.int .u8 (n % 256))).set 1 (.int .u8 (n / 256 % 256)) = bv (fillL c n) := by
  rw [bt_u8of, bt_u8of, show (512 : Nat) = 510 + 1 + 1 from rfl, List.replicate_succ, List.replicate_succ, List.set_cons_zero, List.set_cons_succ, List.set_cons_zero]
  unfold fillL bv
  rw [List.map_cons, List.map_cons, List.map_replicate]

set_option maxRecDepth 20000 in
theorem fill_any {w : World} (c : UInt8) (n : Int) (h1 : -9223372036854775808 ≤ n) (h2 : n ≤ 9223372036854775807) :
    Calls Try.prog 10 #[.int .u8 c.toNat, .int .i64 n] w fun e w' => e = .returned (.string ⟨(fillL c n).toArray⟩) ∧ Fr [] w w' := by
  obtain ⟨i5, hi5, hz5, hs5, hb5⟩ := inf5
  have Hi := hid hi5
  have Hz := hid hz5
  have Hs := hid hs5
  have Hb := hid hb5
  clear hi5 hz5 hs5 hb5
  go_enter Try.func10, Try.ntmps10
  go_wp2_with (refine wpList_make rfl _ _ _ rfl 512 512 .i64 .i64 rfl rfl 5 _ _ (bt 0) 1 1 Try.underlying29 Hi.out Hz.out Hs.out Hb.out rfl (by decide) (Nat.le_refl _) (by decide) (by decide) ?_; intro hb1; simp only [World.size_alloc, World.size_drew, Act.put, List.setIfInBounds_toArray, List.set_cons_succ, List.set_cons_zero])
  go_loopw [6] (fun i wr => ∃ m : Nat, m ≤ 512 ∧ i = .int .i64 m ∧ Blk wr w.heap.size (List.replicate m (bt c) ++ List.replicate (512 - m) (bt 0)) ∧ Fr [] w wr) (fun i _ => 512 - (intOf i).toNat)
  case atStart => exact ⟨0, by omega, rfl, by simpa using hb1, (Fr.refl [] w).alloc _⟩
  case round =>
    obtain ⟨m, hm, rfl, hb, f⟩ := hrel
    clear hb1
    by_cases hlt : m < 512
    · have hcm : wr.cell? ⟨w.heap.size, m, none⟩ = some (bt 0) := by
        rw [hb.cell, List.getElem?_append_right (by simp), List.getElem?_replicate_of_lt (by simp; omega)]
      have hf := hb.free m (by simp; omega)
      go_wp2
      go_roundw
      case rel =>
        refine ⟨m + 1, by omega, by go_num, ?_, f.setCell (.inr (Nat.le_refl _)) _⟩
        have h3 := hb.set m (bt c)
        rw [List.set_append_right _ _ (by simp)] at h3
        have e : (List.replicate (512 - m) (bt 0)).set (m - (List.replicate m (bt c)).length) (bt c) = bt c :: List.replicate (512 - (m + 1)) (bt 0) := by
          obtain ⟨k, hk⟩ : ∃ k, 512 - m = k + 1 := ⟨511 - m, by omega⟩
          have hk2 : 512 - (m + 1) = k := by omega
          rw [List.length_replicate, Nat.sub_self, hk, hk2, List.replicate_succ]
          rfl
        rw [e] at h3
        have e2 : List.replicate (m + 1) (bt c) ++ List.replicate (512 - (m + 1)) (bt 0) = List.replicate m (bt c) ++ (bt c :: List.replicate (512 - (m + 1)) (bt 0)) := by
          rw [List.replicate_succ']
          simp
        rw [e2]
        exact h3
      case measure => simp [intOf]; omega
    · obtain rfl : m = 512 := by omega
      have hb2 : Blk wr w.heap.size (List.replicate 512 (bt c)) := by
        have e : List.replicate (512 - 512) (bt 0) = [] := rfl
        rw [e, List.append_nil] at hb
        exact hb
      have hc0 : wr.cell? ⟨w.heap.size, 0, none⟩ = some (bt c) := by rw [hb2.cell, List.getElem?_replicate_of_lt (by omega)]
      have hc1 : wr.cell? ⟨w.heap.size, 1, none⟩ = some (bt c) := by rw [hb2.cell, List.getElem?_replicate_of_lt (by omega)]
      have hf0 := hb2.free 0 (by rw [List.length_replicate]; omega)
      have hf1 := hb2.free 1 (by rw [List.length_replicate]; omega)
      clear hb
      have hbF := (hb2.set 0 (.int .u8 (n % 256))).set 1 (.int .u8 (n / 256 % 256))
      rw [fillL_cells] at hbF
      have HL := hid (fillL_len c n)
      have HV := hid (show ((bv (fillL c n)).drop 0).take (fillL c n).length = bv (fillL c n) by rw [List.drop_zero, ← bv_length, List.take_length])
      go_wp2_with (refine wpList_string_of_bytes rfl _ _ 5 _ rfl 512 512 rfl hbF (fillL c n) HL.out HV.out Try.underlying29 Try.underlying5 Try.underlying9 ?_; simp only [World.size_alloc, World.size_drew, Act.put, List.setIfInBounds_toArray, List.set_cons_succ, List.set_cons_zero])
      go_ret
      exact ⟨rfl, (f.setCell (.inr (Nat.le_refl _)) _).setCell (.inr (Nat.le_refl _)) _⟩
end Go.Proofs.Ytflapddkeeiieaa
