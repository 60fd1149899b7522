/- sha's Hex: digits (a seat without the document's sha). -/
import Derived.Test.YtnkcogaaajkplaaShaS
import Derived.Test.YtnkcogaaajkplaaAppS
import Derived.Test.YtnkcogaaajkplaaBuild
import Derived.Test.YtnkcogaaajkplaaReg
import Derived.Test.YtnkcogaaajkplaaProg
import Derived.WalkLawsBesides
import Derived.WalkSpells
import Derived.LoopN
namespace Go.Xr
open Go
set_option linter.unusedVariables false
def D16 : List UInt8 := [48, 49, 50, 51, 52, 53, 54, 55, 56, 57, 97, 98, 99, 100, 101, 102]
def hx1 (c : UInt8) : UInt8 := g8 D16 (shr8 c 4).toNat
def hx2 (c : UInt8) : UInt8 := g8 D16 (c &&& c8 15).toNat
/-- The digits of bytes. -/
def hexL (l : List UInt8) : List UInt8 := l.flatMap fun c => [hx1 c, hx2 c]
theorem hexL_len (l : List UInt8) : (hexL l).length = 2 * l.length := by
  induction l with
  | nil => rfl
  | cons c l ih =>
    show (hexL l).length + 2 = _
    rw [ih, List.length_cons]
    omega
theorem hexL_snoc (l : List UInt8) (c : UInt8) : hexL (l ++ [c]) = hexL l ++ [hx1 c, hx2 c] := by simp [hexL]
theorem shr8_lt (c : UInt8) : (shr8 c 4).toNat < 16 := by
  unfold shr8
  show (c.toBitVec >>> 4).toNat < 16
  rw [BitVec.toNat_ushiftRight, Nat.shiftRight_eq_div_pow]
  have : c.toBitVec.toNat < 256 := c.toBitVec.isLt
  omega
theorem and15_lt (c : UInt8) : (c &&& c8 15).toNat < 16 := by
  rw [UInt8.toNat_and]
  have h : (c8 15).toNat = 15 := by decide
  rw [h]
  have := Nat.and_le_right (n := c.toNat) (m := 15)
  omega
end Go.Xr
namespace Go.Proofs.Ytnkcogaaajkplaa
open Go Go.Xr Go.RowKit
set_option linter.unusedVariables false
set_option linter.unusedSimpArgs false

theorem inf5 : ∃ i, Try.prog.info? 5 = some i ∧ i.zero = some (bt 0) ∧ i.size = 1 ∧ i.bytes = 1 := ⟨_, rfl, rfl, rfl, rfl⟩
def hexS (s : ByteArray) : ByteArray := ⟨(hexL s.data.toList).toArray⟩
theorem hexS_size (s : ByteArray) : (hexS s).size = 2 * s.size := by
  unfold hexS
  rw [size_mk', hexL_len, bytes_len]

theorem digit_at (w : World) (c : UInt8) (h : c.toNat < 16) : (Instr.index 9 (.string ⟨#[48, 49, 50, 51, 52, 53, 54, 55, 56, 57, 97, 98, 99, 100, 101, 102]⟩) (bt c)).run Try.prog w = .ok (bt (g8 D16 c.toNat)) w :=
  index_str (P := Try.prog) w 9 ⟨#[48, 49, 50, 51, 52, 53, 54, 55, 56, 57, 97, 98, 99, 100, 101, 102]⟩ .u8 c.toNat c.toNat Try.underlying9 rfl h 0

attribute [local go_sem] shr_u8 and_u8_c

set_option maxHeartbeats 1000000 in
set_option maxRecDepth 20000 in
theorem hex_any {w : World} (s : ByteArray) (hs : s.size < 1099511627776) :
    Calls Try.prog 22 #[.string s] w fun e w' => e = .returned (.string (hexS s)) ∧ Fr [] w w' := by
  obtain ⟨i28, hi28, hz28, hs28, hb28⟩ := inf5
  have Hi := hid hi28
  have Hz := hid hz28
  have Hs := hid hs28
  have Hb := hid hb28
  clear hi28 hz28 hs28 hb28
  obtain ⟨p, hp⟩ : ∃ p, s.data.toList = p := ⟨_, rfl⟩
  unfold hexS
  rw [hp]
  have Hp := hid hp
  have hpl : p.length = s.size := by rw [← hp]; exact bytes_len s
  have Hpl := hid hpl
  clear hp hpl
  go_enter Try.func22, Try.ntmps22
  go_wp2_with (refine wpList_make1 rfl _ _ _ rfl 0 (2 * s.size) .i64 .i64 rfl (by rfl) 5 _ _ 1 Try.underlying32 Hi.out Hz.out Hs.out Hb.out rfl (by omega) (by omega) (by omega) ?_; intro w1 f1 hlt1 ho1; simp only [World.size_alloc, World.size_drew, Act.put, List.setIfInBounds_toArray, List.set_cons_succ, List.set_cons_zero])
  have hF1 : Fresh w (some w.heap.size) := fun b h => by cases h; exact Nat.le_refl _
  go_loopw [3, 11] (fun bv0 iv wr => ∃ (m : Nat) (B : Option Nat), m ≤ s.size ∧ iv = .int .i64 m ∧ Own wr 1 bv0 (2 * m) (bv (hexL (p.take m))) B ∧ Fresh w B ∧ Fr [] w wr) (fun _ iv _ => s.size - (intOf iv).toNat)
  case atStart => exact ⟨0, _, by omega, rfl, by simpa [hexL] using ho1, hF1, f1⟩
  case round =>
    obtain ⟨m, B, hm, rfl, ho, hF, f⟩ := hrel
    clear ho1 f1 hF1
    obtain ⟨ba, bc, rfl⟩ := ho.isSlice
    by_cases hlt : m < s.size
    · have hd1 : decide (m < s.size) = true := by simp; omega
      have hix : ∀ w0 : World, (Instr.index 9 (.string s) (.int .i64 m)).run Try.prog w0 = .ok (bt (g8 p m)) w0 := fun w0 => by
        have := index_str (P := Try.prog) w0 9 s .i64 m m Try.underlying9 rfl hlt 0
        rw [Hp.out] at this
        exact this
      have hy1 := fun w0 => digit_at w0 (shr8 (g8 p m) 4) (shr8_lt _)
      have hy2 := fun w0 => digit_at w0 (g8 p m &&& c8 15) (and15_lt _)
      go_wp2_with fail
      obtain ⟨ι, W, hι, hW1, hW2, hW0⟩ := family (fun w' => True) (w := wr.drew) trivial
      have HW1 := hid hW1
      have HW2 := hid hW2
      have HW0 := hid hW0
      clear hW1 hW2 hW0
      refine wp_region_X (fun w' => ∃ j, w' = W j) false (by kernel_rfl) ?_
      refine WX.pure [0, 1, 2, 3, 4, 5, 6, 7, 8, 9, 10] (by kernel_rfl) HW0.out ?_
      simp only [pick, List.toList_toArray, List.map_cons, List.map_nil, List.getD_cons_succ, List.getD_cons_zero]
      repeat (go_big_quiet_step (fail))
      refine wpQuiet_nil ?_
      refine WX.eff 11 (by kernel_rfl) ?_
      simp only [pick, List.toList_toArray, List.map_cons, List.map_nil, List.getD_cons_succ, List.getD_cons_zero]
      refine wpList_buildSlice_ones rfl _ 2 _ rfl 5 Try.underlying32 _ _ Hi.out Hz.out rfl Hs.out (by decide) (by decide) rfl (bv [hx1 (g8 p m), hx2 (g8 p m)]) rfl (bv_one _) ?_
      intro hbN
      refine wpList_nil ?_
      refine After.on (HW2.out _ trivial) ?_
      refine WX.eff 12 (by kernel_rfl) ?_
      simp only [pick, List.toList_toArray, List.map_cons, List.map_nil, List.getD_cons_succ, List.getD_cons_zero]
      have ho2 := ho.keep (((Fr.refl [] wr).drew).alloc (.cells (bv [hx1 (g8 p m), hx2 (g8 p m)]).toArray 5)) (by simp)
      refine wpList_append rfl _ _ _ rfl 5 _ _ 1 1 Try.underlying32 Hi.out Hz.out Hs.out Hb.out rfl (by decide) rfl ho2 ⟨wr.heap.size, 0, none⟩ 2 2 (bv [hx1 (g8 p m), hx2 (g8 p m)]) rfl rfl (hbN.cells rfl) (bv_one _) (by unfold maxLen; omega) (by omega) ?_
      intro v3 w3 B3 ho3 f3 hB3
      refine wpList_nil ?_
      refine After.on (HW2.out _ trivial) ?_
      simp only [Act.put, List.setIfInBounds_toArray, List.set_cons_succ, List.set_cons_zero]
      refine WX.pure [13] (by kernel_rfl) (HW2.out _ trivial) ?_
      simp only [pick, List.toList_toArray, List.map_cons, List.map_nil, List.getD_cons_succ, List.getD_cons_zero]
      repeat (go_big_quiet_step (fail))
      refine wpQuiet_nil ?_
      refine WX.done (by kernel_rfl) ?_
      clear HW1 HW2 HW0 hι W ι
      have fa : Fr [] wr (wr.drew.alloc (.cells (bv [hx1 (g8 p m), hx2 (g8 p m)]).toArray 5)) := ((Fr.refl [] wr).drew).alloc _
      clear hix hy1 hy2 hbN ho2
      go_wp2_with fail
      go_roundw
      case rel =>
        refine ⟨m + 1, B3, by omega, by go_num, ?_, hF.step (f.trans' fa) hB3, hF.fr (f.trans' fa) f3⟩
        have e : bv (hexL (p.take (m + 1))) = bv (hexL (p.take m)) ++ bv [hx1 (g8 p m), hx2 (g8 p m)] := by
          rw [List.take_succ_eq_append_getElem (by rw [Hpl.out]; exact hlt), hexL_snoc, bv_append]
          have e2 : p[m]'(by rw [Hpl.out]; exact hlt) = g8 p m := by
            have := g8_eq p m (by rw [Hpl.out]; exact hlt)
            rw [List.getElem?_eq_getElem (by rw [Hpl.out]; exact hlt)] at this
            exact Option.some.inj this
          rw [e2]
        rw [e, show 2 * (m + 1) = 2 * m + 2 by omega]
        exact ho3
      case measure => simp [intOf]; omega
    · have em : m = s.size := by omega
      have hd1 : decide (m < s.size) = false := by simp; omega
      have ho9 : Own wr 1 (.slice ba (2 * m) bc) (2 * m) (bv (hexL p)) B := by
        have e : p.take m = p := List.take_of_length_le (by rw [Hpl.out, em]; exact Nat.le_refl _)
        rw [e] at ho
        exact ho
      clear em ho
      go_wp2_with (refine wpList_string_of_own rfl _ _ 5 _ rfl rfl ho9 Try.underlying32 Try.underlying5 Try.underlying9 ?_; (try simp only [World.size_alloc, World.size_drew, Act.put, List.setIfInBounds_toArray, List.set_cons_succ, List.set_cons_zero]))
      go_ret
      exact ⟨rfl, f⟩
end Go.Proofs.Ytnkcogaaajkplaa
