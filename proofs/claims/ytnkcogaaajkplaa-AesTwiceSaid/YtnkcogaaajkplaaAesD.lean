/- Layer 3, aes: two blocks, exclusive or. -/
import Derived.Test.YtnkcogaaajkplaaAesB
namespace Go.Xr
open Go
set_option linter.unusedVariables false
def xorL (l k : List UInt8) : List UInt8 := (List.range 16).map fun i => g8 l i ^^^ g8 k i
def xorI (l k : List UInt8) (i : Nat) : List UInt8 := (xorL l k).take i ++ l.drop i
theorem xorL_len (l k : List UInt8) : (xorL l k).length = 16 := by simp [xorL]
theorem xorI_len (l k : List UInt8) (i : Nat) (hl : l.length = 16) (hi : i ≤ 16) : (xorI l k i).length = 16 := by
  simp only [xorI, List.length_append, List.length_take, List.length_drop, xorL_len, hl]
  omega
theorem xorI_get (l k : List UInt8) (i : Nat) (hl : l.length = 16) (hi : i < 16) : (xorI l k i)[i]? = some (g8 l i) := by
  have h : ((xorL l k).take i).length = i := by rw [List.length_take, xorL_len]; omega
  unfold xorI
  rw [List.getElem?_append_right (by omega), h, Nat.sub_self, List.getElem?_drop, Nat.add_zero, g8_eq l i (by omega)]
theorem xorI_set (l k : List UInt8) (i : Nat) (hl : l.length = 16) (hi : i < 16) : (xorI l k i).set i (g8 l i ^^^ g8 k i) = xorI l k (i + 1) := by
  have h : ((xorL l k).take i).length = i := by rw [List.length_take, xorL_len]; omega
  have e : (xorL l k)[i]'(by rw [xorL_len]; exact hi) = g8 l i ^^^ g8 k i := by simp [xorL]
  unfold xorI
  rw [List.set_append_right _ _ (by omega), h, Nat.sub_self, List.drop_eq_getElem_cons (by omega), List.set_cons_zero, List.take_succ_eq_append_getElem (by rw [xorL_len]; exact hi), List.append_assoc, e]
  rfl
theorem xorI_zero (l k : List UInt8) : xorI l k 0 = l := by simp [xorI]
theorem xorI_all (l k : List UInt8) (hl : l.length = 16) : xorI l k 16 = xorL l k := by
  unfold xorI
  rw [List.take_of_length_le (by rw [xorL_len]; exact Nat.le_refl _), List.drop_eq_nil_of_le (by omega), List.append_nil]
end Go.Xr
namespace Go.Proofs.Ytnkcogaaajkplaa
open Go Go.Xr Go.RowKit
set_option linter.unusedVariables false
set_option linter.unusedSimpArgs false
/-- The return of a result that lies in a block. -/
theorem bodyPost_cell {P : Program} {fn : Func} {R : Ending → World → Prop} {a : Act} {w : World} {p : Tmp} {ty : TypeId} (h : fn.results = #[.cell p ty]) {b : Nat} {cs : List Value} (hp : a.tmps.getD p undef = .pointer (some ⟨b, 0, none⟩)) (hb : Blk w b cs)
    (d : TypeDesc) (hu : P.underlying ty = some d) (hd : (match d with | .struct _ | .array _ _ => true | _ => false) = true) (hi : (P.info? ty).map (·.size) = some cs.length) (hdf : a.defers = []) (hR : R (.returned (.agg cs.toArray)) w) : bodyPost P fn R .ret a w := by
  obtain ⟨t, fr, hg, _⟩ := hb
  exact bodyPost_ret (results_cell_row h a.tmps w b t cs.toArray fr d hp hg hu hd (by simpa using hi)) hdf hR
theorem infS : ∃ i, Try.prog.info? 45 = some i ∧ i.zero = some (.agg (List.replicate 16 (bt 0)).toArray) ∧ i.size = 16 := ⟨_, rfl, rfl, rfl⟩
attribute [local go_sem] xor_u8 xor_u8_c

set_option maxRecDepth 20000 in
theorem with_any {w : World} (l k : List UInt8) (hl : l.length = 16) (hk : k.length = 16) : Calls Try.prog 30 #[.agg (bv l).toArray, .agg (bv k).toArray] w fun e w' => e = .returned (.agg (bv (xorL l k)).toArray) ∧ Fr [] w w' := by
  obtain ⟨i, hi, hz, hs⟩ := infS
  have Hi := hid hi
  have Hz := hid hz
  have Hs := hid (show (Try.prog.info? 45).map (·.size) = some 16 by rw [hi]; exact congrArg some hs)
  have Hl := hid hl
  have Hk := hid hk
  clear hi hz hs hl hk
  go_enter Try.func30, Try.ntmps30
  go_wp2_with (first
    | (refine wpList_box rfl _ _ rfl (bv l) rfl ?_; intro w1 f1 hlt1 hb1; simp only [World.size_alloc, World.size_drew, Act.put, List.setIfInBounds_toArray, List.set_cons_succ, List.set_cons_zero])
    | (refine wpList_box rfl _ _ rfl (bv k) rfl ?_; intro w2 f2 hlt2 hb2; simp only [World.size_alloc, World.size_drew, Act.put, List.setIfInBounds_toArray, List.set_cons_succ, List.set_cons_zero])
    | (refine wpList_alloc_any rfl _ rfl _ _ 16 Hi.out Hz.out rfl ?_; intro zs w3 hzl hze f3 hlt3 hb3; have Hze := hid hze; clear hzl hze; simp only [World.size_alloc, World.size_drew, Act.put, List.setIfInBounds_toArray, List.set_cons_succ, List.set_cons_zero]))
  have hq1 : Blk w3 w.heap.size (bv l) := f3.blk (f2.blk hb1 (by simp)) (by simp)
  have hq2 : Blk w3 w1.heap.size (bv k) := f3.blk hb2 (by simp)
  have hn3 : w.heap.size < w2.heap.size ∧ w1.heap.size < w2.heap.size := ⟨by omega, by omega⟩
  have hq3 : Blk w3 w2.heap.size (bv (List.replicate 16 0)) := by
    rw [Hze.out] at hb3
    exact hb3
  have g3 := (f1.trans' f2).trans' f3
  generalize w2.heap.size = N3 at *
  generalize hN2 : w1.heap.size = N2 at *
  clear hb1 hb2 hb3 f1 f2 f3 Hze
  go_loopw [6] (fun iv wr => ∃ i : Nat, i ≤ 16 ∧ iv = .int .i64 i ∧ Blk wr w.heap.size (bv (xorI l k i)) ∧ Blk wr N2 (bv k) ∧ Blk wr N3 (bv (List.replicate 16 0)) ∧ Fr [] w wr) (fun iv _ => 16 - (intOf iv).toNat)
  case atStart => exact ⟨0, by omega, rfl, by rw [xorI_zero]; exact hq1, hq2, hq3, g3⟩
  case round =>
    obtain ⟨i, hi, rfl, b1, b2, b3, f⟩ := hrel
    clear hq1 hq2 hq3 g3
    have hlt1 : w.heap.size < N2 := by omega
    by_cases hlt : i < 16
    · have hd1 : decide ((i : Int) < 16) = true := by simp; omega
      have hc1 : wr.cell? ⟨w.heap.size, i, none⟩ = some (bt (g8 l i)) := by rw [b1.cell, bv_getElem?, xorI_get l k i Hl.out hlt]; rfl
      have hc2 : wr.cell? ⟨N2, i, none⟩ = some (bt (g8 k i)) := by rw [b2.cell, bv_getElem?, g8_eq k i (by rw [Hk.out]; exact hlt)]; rfl
      go_wp2_with fail
      obtain ⟨ι, W, hι, hW1, hW2, hW0⟩ := family (fun w' => w'.cell? ⟨w.heap.size, i, none⟩ = some (bt (g8 l i)) ∧ w'.cell? ⟨N2, i, none⟩ = some (bt (g8 k i))) (w := wr.drew) ⟨hc1, hc2⟩
      have HW1 := hid hW1
      have HW2 := hid hW2
      have HW0 := hid hW0
      clear hW1 hW2 hW0
      have hS1 : ∀ j, (W j).cell? ⟨w.heap.size, i, none⟩ = some (bt (g8 l i)) := fun j => (HW1.out j).1
      have hS2 : ∀ j, (W j).cell? ⟨N2, i, none⟩ = some (bt (g8 k i)) := fun j => (HW1.out j).2
      refine wp_region_X (fun w' => ∃ j, w' = W j) true (by kernel_rfl) ?_
      refine WX.pure [0, 1, 2, 3, 4, 5, 6, 7] (by kernel_rfl) HW0.out ?_
      simp only [pick, List.toList_toArray, List.map_cons, List.map_nil, List.getD_cons_succ, List.getD_cons_zero]
      repeat (go_big_quiet_step (fail))
      refine wpQuiet_nil ?_
      refine WX.eff 8 (by kernel_rfl) ?_
      simp only [pick, List.toList_toArray, List.map_cons, List.map_nil, List.getD_cons_succ, List.getD_cons_zero]
      refine wpList_put rfl _ _ _ rfl rfl (bt (g8 l i ^^^ g8 k i)) rfl rfl b1.drew (by rw [bv_length, xorI_len l k i Hl.out (by omega)]; exact hlt) (by kernel_rfl) ?_
      intro w5 f5 hb5 _
      refine wpList_nil ?_
      refine After.end rfl ?_
      refine WX.done (by kernel_rfl) ?_
      clear hS1 hS2
      clear HW1 HW2 HW0 hι W ι
      rw [← bv_set, xorI_set l k i Hl.out hlt] at hb5
      have f6 : Fr [w.heap.size] wr w5 := ((Fr.refl _ wr).drew).trans' f5
      go_wp2_with fail
      go_roundw
      case rel => exact ⟨i + 1, by omega, by go_num, hb5, f6.blk b2 (by simp; omega), f6.blk b3 (by simp; omega), f.trans f6 (by simp)⟩
      case measure => simp [intOf]; omega
    · have ei : i = 16 := by omega
      have hd1 : decide ((i : Int) < 16) = false := by simp; omega
      rw [ei, xorI_all l k Hl.out] at b1
      clear ei hlt
      have HS := hid (show (Try.prog.info? 45).map (·.size) = some (bv (xorL l k)).length by rw [Hs.out, bv_length, xorL_len])
      have Hv := hid (show ((bv (xorL l k)).drop 0).take (bv (xorL l k)).length = bv (xorL l k) by rw [List.drop_zero, List.take_length])
      go_wp2_with (first
        | (refine wpList_load_agg rfl _ _ rfl rfl (bv (xorL l k)) b1 _ Try.underlying45 rfl HS.out Hv.out ?_; simp only [World.size_alloc, World.size_drew, Act.put, List.setIfInBounds_toArray, List.set_cons_succ, List.set_cons_zero])
        | (refine wpList_store_agg rfl _ _ _ rfl rfl (bv (xorL l k)) rfl b3 HS.out (by rw [bv_length, bv_length, xorL_len]; decide) (bv_one _) ?_; intro w7 f7 b7 hs7; rw [splice_all _ _ (by rw [bv_length, bv_length, xorL_len]; rfl)] at b7; (try simp only [World.size_alloc, World.size_drew, Act.put, List.setIfInBounds_toArray, List.set_cons_succ, List.set_cons_zero])))
      refine bodyPost_cell rfl rfl b7 _ Try.underlying45 rfl HS.out rfl ?_
      exact ⟨rfl, f.trans f7 (fun x hx => .inr (by simp at hx; omega))⟩
end Go.Proofs.Ytnkcogaaajkplaa
