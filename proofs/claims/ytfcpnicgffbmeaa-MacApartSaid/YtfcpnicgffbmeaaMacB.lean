/- Layer 2, the document's mac: a key's block, the tag. -/
import Derived.Test.YtfcpnicgffbmeaaMacA
namespace Go.Xr
open Go
set_option linter.unusedVariables false
/-- The block of the document after i rounds. -/
def padT (p : List UInt8) (x : UInt8) (i : Nat) : List UInt8 := (padX p x).take i ++ List.replicate (64 - i) 0
theorem padT_len (p : List UInt8) (x : UInt8) (i : Nat) (h : i ≤ 64) : (padT p x i).length = 64 := by
  simp only [padT, List.length_append, List.length_take, padX_len, List.length_replicate]
  omega
theorem padT_get (p : List UInt8) (x : UInt8) (i : Nat) (h : i < 64) : (padT p x i)[i]? = some 0 := by
  have hl : ((padX p x).take i).length = i := by rw [List.length_take, padX_len]; omega
  unfold padT
  rw [List.getElem?_append_right (by omega), hl, Nat.sub_self, List.getElem?_replicate, if_pos (by omega)]
theorem padT_set (p : List UInt8) (x : UInt8) (i : Nat) (hp : p.length ≤ 64) (h : i < 64) : (padT p x i).set i (g8 p i ^^^ x) = padT p x (i + 1) := by
  have hl : ((padX p x).take i).length = i := by rw [List.length_take, padX_len]; omega
  have hk := padK_len p
  have e : (padX p x)[i]'(by rw [padX_len]; exact h) = g8 p i ^^^ x := by
    have h1 := g8_eq (padK p) i (by omega)
    rw [List.getElem?_eq_getElem (by omega), padK_get p hp i h] at h1
    unfold padX
    rw [List.getElem_map, Option.some.inj h1]
  unfold padT
  rw [List.set_append_right _ _ (by omega), hl, Nat.sub_self, show 64 - i = (64 - (i + 1)) + 1 by omega, List.replicate_succ, List.set_cons_zero, List.take_succ_eq_append_getElem (by rw [padX_len]; exact h), List.append_assoc, e]
  rfl
theorem padT_all (p : List UInt8) (x : UInt8) : padT p x 64 = padX p x := by
  unfold padT
  rw [List.take_of_length_le (by rw [padX_len]; exact Nat.le_refl _)]
  simp
end Go.Xr
namespace Go.Proofs.Ytfcpnicgffbmeaa
open Go Go.Xr Go.RowKit
set_option linter.unusedVariables false
set_option linter.unusedSimpArgs false

attribute [local go_sem] xor_u8 xor_u8_c

set_option maxRecDepth 20000 in
set_option maxHeartbeats 1000000 in
theorem pad_any {w : World} (key : ByteArray) (hk : key.size ≤ 64) (x : UInt8) : Calls Try.prog 27 #[.string key, bt x] w fun e w' => e = .returned (.string ⟨(padX key.data.toList x).toArray⟩) ∧ Fr [] w w' := by
  obtain ⟨i28, hi28, hz28, hs28, hb28⟩ := inf5
  have Hi := hid hi28
  have Hz := hid hz28
  have Hs := hid hs28
  have Hb := hid hb28
  obtain ⟨p, hp⟩ : ∃ p, key.data.toList = p := ⟨_, rfl⟩
  have Hpl := hid (show p.length = key.size by rw [← hp]; exact bytes_len key)
  rw [hp]
  have Hp := hid hp
  clear hi28 hz28 hs28 hb28 hp
  go_enter Try.func27, Try.ntmps27
  go_wp2_with (refine wpList_make_blk rfl _ _ _ rfl 64 64 .i64 .i64 rfl rfl 5 _ _ 1 Try.underlying41 Hi.out Hz.out Hs.out Hb.out rfl (by omega) (by omega) (by omega) ?_; intro w1 f1 hlt1 hb1; simp only [World.size_alloc, World.size_drew, Act.put, List.setIfInBounds_toArray, List.set_cons_succ, List.set_cons_zero])
  go_loopw [6] (fun iv wr => ∃ i : Nat, i ≤ 64 ∧ iv = .int .i64 i ∧ Blk wr w.heap.size (bv (padT p x i)) ∧ Fr [] w wr) (fun iv _ => 64 - (intOf iv).toNat)
  case atStart => exact ⟨0, by omega, rfl, by simp only [padT, List.take_zero, List.nil_append, bv_replicate]; exact hb1, f1⟩
  case round =>
    obtain ⟨i, hi, rfl, hb, f⟩ := hrel
    clear hb1 f1 hlt1
    by_cases hlt : i < 64
    · have hd1 : decide ((i : Int) < 64) = true := by simp; omega
      have Hlen := hid (show (bv (padT p x i)).length = 64 by rw [bv_length, padT_len p x i hi])
      by_cases hk2 : i < key.size
      · have hd2 : decide (i < key.size) = true := by simp; omega
        have hix : ∀ w0 : World, (Instr.index 9 (.string key) (.int .i64 i)).run Try.prog w0 = .ok (bt (g8 p i)) w0 := fun w0 => by
          have := index_str (P := Try.prog) w0 9 key .i64 i i Try.underlying9 rfl hk2 0
          rw [Hp.out] at this
          exact this
        have hc0 : (wr.cell? ⟨w.heap.size, i, none⟩) = some (bt 0) := by rw [hb.cell, bv_getElem?, padT_get p x i hlt]; rfl
        go_wp2_with (first
          | (refine wpList_put rfl _ _ _ rfl rfl (bt (g8 p i)) rfl rfl hb (by rw [Hlen.out]; exact hlt) (by kernel_rfl) ?_; intro w2 f2 hb2 hs2; clear hc0; have hc : w2.cell? ⟨w.heap.size, i, none⟩ = some (bt (g8 p i)) := (by rw [hb2.cell, List.getElem?_set_self (by rw [Hlen.out]; exact hlt)]); (try simp only [World.size_alloc, World.size_drew, Act.put, List.setIfInBounds_toArray, List.set_cons_succ, List.set_cons_zero]))
          | (refine wpList_put rfl _ _ _ rfl rfl (bt (g8 p i ^^^ x)) rfl rfl hb2 (by rw [List.length_set, Hlen.out]; exact hlt) (by kernel_rfl) ?_; intro w3 f3 hb3 hs3; (try simp only [World.size_alloc, World.size_drew, Act.put, List.setIfInBounds_toArray, List.set_cons_succ, List.set_cons_zero])))
        rw [List.set_set, ← bv_set, padT_set p x i (by rw [Hpl.out]; exact hk) hlt] at hb3
        go_roundw
        case rel => exact ⟨i + 1, by omega, by go_num, hb3, (f.trans f2 (by simp)).trans f3 (by simp)⟩
        case measure => simp [intOf]; omega
      · have hd2 : decide (i < key.size) = false := by simp; omega
        have hg : g8 p i = 0 := by
          unfold g8
          rw [List.getD_eq_getElem?_getD, List.getElem?_eq_none (by rw [Hpl.out]; omega)]
          rfl
        have hc : wr.cell? ⟨w.heap.size, i, none⟩ = some (bt (g8 p i)) := by rw [hg, hb.cell, bv_getElem?, padT_get p x i hlt]; rfl
        clear hg
        go_wp2_with (refine wpList_put rfl _ _ _ rfl rfl (bt (g8 p i ^^^ x)) rfl rfl hb (by rw [Hlen.out]; exact hlt) (by kernel_rfl) ?_; intro w3 f3 hb3 hs3; (try simp only [World.size_alloc, World.size_drew, Act.put, List.setIfInBounds_toArray, List.set_cons_succ, List.set_cons_zero]))
        rw [← bv_set, padT_set p x i (by rw [Hpl.out]; exact hk) hlt] at hb3
        go_roundw
        case rel => exact ⟨i + 1, by omega, by go_num, hb3, f.trans f3 (by simp)⟩
        case measure => simp [intOf]; omega
    · have ei : i = 64 := by omega
      have hd1 : decide ((i : Int) < 64) = false := by simp; omega
      rw [ei, padT_all] at hb
      have Hml := hid (padX_len p x)
      have HSv := hid (show ((bv (padX p x)).drop 0).take (padX p x).length = bv (padX p x) by rw [List.drop_zero, ← bv_length, List.take_length])
      clear ei
      go_wp2_with (refine wpList_string_of_bytes rfl _ _ 5 _ rfl 64 64 rfl hb (padX p x) Hml.out HSv.out Try.underlying41 Try.underlying5 Try.underlying9 ?_; (try simp only [World.size_alloc, World.size_drew, Act.put, List.setIfInBounds_toArray, List.set_cons_succ, List.set_cons_zero]))
      go_ret
      exact ⟨rfl, f⟩

set_option maxRecDepth 20000 in
theorem rmac_any {w : World} (key s : ByteArray) (hk : key.size < 1099511627776) (hs : s.size + 64 < 1099511627776) : Calls Try.prog 10 #[.string key, .string s] w fun e w' => e = .returned (.string (macS key s)) ∧ Fr [] w w' := by
  have Hsz := hid (keyS_size key)
  unfold macS
  have hcase : (decide (64 < (key.size : Int)) = true ∧ Hid (keyS key = shaS key)) ∨ (decide (64 < (key.size : Int)) = false ∧ Hid (keyS key = key)) := by
    by_cases h : 64 < key.size
    · exact .inl ⟨by simp; omega, by unfold keyS Hid; rw [if_pos h]⟩
    · exact .inr ⟨by simp; omega, by unfold keyS Hid; rw [if_neg h]⟩
  obtain ⟨K, hK⟩ : ∃ K, keyS key = K := ⟨_, rfl⟩
  rw [hK] at hcase Hsz ⊢
  obtain ⟨P1, hP1⟩ : ∃ P1 : ByteArray, ⟨(padX K.data.toList (c8 92)).toArray⟩ = P1 := ⟨_, rfl⟩
  obtain ⟨P2, hP2⟩ : ∃ P2 : ByteArray, ⟨(padX K.data.toList (c8 54)).toArray⟩ = P2 := ⟨_, rfl⟩
  have Hs1 := hid (show P1.size = 64 by rw [← hP1, size_mk', padX_len])
  have Hs2 := hid (show P2.size = 64 by rw [← hP2, size_mk', padX_len])
  have hw1 := fun w0 : World => pad_any (w := w0) K Hsz.out (c8 92)
  have hw2 := fun w0 : World => pad_any (w := w0) K Hsz.out (c8 54)
  rw [hP1] at hw1
  rw [hP2] at hw2
  rw [hP1, hP2]
  have Hw1 := hid hw1
  have Hw2 := hid hw2
  clear hK hP1 hP2 hw1 hw2
  rcases hcase with ⟨hd, hke⟩ | ⟨hd, hke⟩
  case' inl =>
    have h1 := fun w0 : World => rof_any (w := w0) key hk
    rw [← hke.out] at h1
    have H1 := hid h1
    clear h1 hke
    go_enter Try.func10, Try.ntmps10
    go_wp2_with fail
    refine (H1.out _).mono ?_
    rintro e w1 ⟨rfl, f1⟩
  case' inr =>
    have h := hke.out
    subst h
    clear hke
    obtain ⟨w1, hw⟩ : ∃ w1 : World, w1 = w := ⟨w, rfl⟩
    subst hw
    have f1 : Fr [] w1 w1 := Fr.refl _ _
    go_enter Try.func10, Try.ntmps10
  all_goals
    go_wp2_with fail
    refine (Hw1.out _).mono ?_
    rintro e w2 ⟨rfl, f2⟩
    go_wp2_with fail
    refine (Hw2.out _).mono ?_
    rintro e w3 ⟨rfl, f3⟩
    have hc1 := Hs2.out
    have hc3 := Hs1.out
    go_wp2_with fail
    refine (rof_any (P2 ++ s) (by rw [ByteArray.size_append, Hs2.out]; omega)).mono ?_
    rintro e w4 ⟨rfl, f4⟩
    have hc2 := shaS_size (P2 ++ s)
    go_wp2_with fail
    refine (rof_any (P1 ++ shaS (P2 ++ s)) (by rw [ByteArray.size_append, Hs1.out, shaS_size]; decide)).mono ?_
    rintro e w5 ⟨rfl, f5⟩
    go_wp2_with fail
    go_ret
    exact ⟨rfl, (((f1.trans' f2).trans' f3).trans' f4).trans' f5⟩
end Go.Proofs.Ytfcpnicgffbmeaa
