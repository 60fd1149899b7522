/- Layer 2, mac: a key's block, the tag. -/
import Derived.Test.YtfcpnicgffbmeaaShaH
import Derived.Test.YtfcpnicgffbmeaaAppS
namespace Go.Xr
open Go
set_option linter.unusedVariables false
/-- Each of the first i bytes exclusive or x. -/
def xorT (l : List UInt8) (x : UInt8) (i : Nat) : List UInt8 := (l.take i).map (fun c => c ^^^ x) ++ l.drop i
theorem xorT_len (l : List UInt8) (x : UInt8) (i : Nat) : (xorT l x i).length = l.length := by
  simp only [xorT, List.length_append, List.length_map, List.length_take, List.length_drop]
  omega
theorem xorT_zero (l : List UInt8) (x : UInt8) : xorT l x 0 = l := by simp [xorT]
theorem xorT_all (l : List UInt8) (x : UInt8) (i : Nat) (h : l.length ≤ i) : xorT l x i = l.map (fun c => c ^^^ x) := by
  simp [xorT, List.take_of_length_le h, List.drop_eq_nil_of_le h]
theorem xorT_get (l : List UInt8) (x : UInt8) (i : Nat) (h : i < l.length) : (xorT l x i)[i]? = some (g8 l i) := by
  have hl : ((l.take i).map (fun c => c ^^^ x)).length = i := by rw [List.length_map, List.length_take]; omega
  unfold xorT
  rw [List.getElem?_append_right (by omega), hl, Nat.sub_self, List.getElem?_drop, Nat.add_zero, g8_eq l i h]
theorem xorT_set (l : List UInt8) (x : UInt8) (i : Nat) (h : i < l.length) : (xorT l x i).set i (g8 l i ^^^ x) = xorT l x (i + 1) := by
  have hl : ((l.take i).map (fun c => c ^^^ x)).length = i := by rw [List.length_map, List.length_take]; omega
  have e : l[i] = g8 l i := by
    have := g8_eq l i h
    rw [List.getElem?_eq_getElem h] at this
    exact Option.some.inj this
  unfold xorT
  rw [List.set_append_right _ _ (by omega), hl, Nat.sub_self, List.drop_eq_getElem_cons h, List.set_cons_zero, List.take_succ_eq_append_getElem h, List.map_append, List.append_assoc, e]
  rfl
/-- A key's block: 64 bytes. -/
def padK (k : List UInt8) : List UInt8 := (k ++ List.replicate (64 - k.length) 0).take 64
theorem padK_len (k : List UInt8) : (padK k).length = 64 := by simp [padK]; omega
theorem padK_get (k : List UInt8) (h : k.length ≤ 64) (i : Nat) (hi : i < 64) : g8 (padK k) i = g8 k i := by
  unfold g8 padK
  rw [List.getD_eq_getElem?_getD, List.getD_eq_getElem?_getD, List.getElem?_take, if_pos hi]
  by_cases h1 : i < k.length
  · rw [List.getElem?_append_left h1]
  · rw [List.getElem?_append_right (by omega), List.getElem?_replicate, if_pos (by omega), List.getElem?_eq_none (by omega)]
    rfl
/-- The block, each byte exclusive or x. -/
def padX (k : List UInt8) (x : UInt8) : List UInt8 := (padK k).map fun c => c ^^^ x
theorem padX_len (k : List UInt8) (x : UInt8) : (padX k x).length = 64 := by simp [padX, padK_len]
end Go.Xr
namespace Go.Proofs.Ytfcpnicgffbmeaa
open Go Go.Xr Go.RowKit
set_option linter.unusedVariables false
set_option linter.unusedSimpArgs false

/-- The key cut down. -/
def keyS (key : ByteArray) : ByteArray := if 64 < key.size then shaS key else key
theorem keyS_size (key : ByteArray) : (keyS key).size ≤ 64 := by
  unfold keyS
  split
  · rw [shaS_size]; omega
  · omega
/-- The tag. -/
def macS (key s : ByteArray) : ByteArray := shaS (⟨(padX (keyS key).data.toList (c8 92)).toArray⟩ ++ shaS (⟨(padX (keyS key).data.toList (c8 54)).toArray⟩ ++ s))
theorem macS_size (key s : ByteArray) : (macS key s).size = 32 := shaS_size _

theorem infA : ∃ i, Try.prog.info? 39 = some i ∧ i.zero = some (.agg (List.replicate 64 (bt 0)).toArray) ∧ i.size = 64 := ⟨_, rfl, rfl, rfl⟩
theorem infB : ∃ i, Try.prog.info? 40 = some i ∧ i.zero = some (.agg (List.replicate 64 (bt 0)).toArray) ∧ i.size = 64 := ⟨_, rfl, rfl, rfl⟩

attribute [local go_sem] xor_u8 xor_u8_c

set_option maxRecDepth 20000 in
theorem with_any {w : World} (l : List UInt8) (hl : l.length = 64) (x : UInt8) : Calls Try.prog 24 #[.agg (bv l).toArray, bt x] w fun e w' => e = .returned (.string ⟨(l.map (fun c => c ^^^ x)).toArray⟩) ∧ Fr [] w w' := by
  have Hl := hid hl
  obtain ⟨m, hm⟩ : ∃ m, l.map (fun c => c ^^^ x) = m := ⟨_, rfl⟩
  rw [hm]
  have Hml := hid (show m.length = 64 by rw [← hm, List.length_map, hl])
  have Hm := hid hm
  clear hl hm
  go_enter Try.func24, Try.ntmps24
  go_wp2_with (refine wpList_box rfl _ _ rfl (bv l) rfl ?_; intro w1 f1 hlt1 hb1; simp only [World.size_alloc, World.size_drew, Act.put, List.setIfInBounds_toArray, List.set_cons_succ, List.set_cons_zero])
  go_loopw [6] (fun iv wr => ∃ i : Nat, i ≤ 64 ∧ iv = .int .i64 i ∧ Blk wr w.heap.size (bv (xorT l x i)) ∧ Fr [] w wr) (fun iv _ => 64 - (intOf iv).toNat)
  case atStart => exact ⟨0, by omega, rfl, by rw [xorT_zero]; exact hb1, f1⟩
  case round =>
    obtain ⟨i, hi, rfl, hb, f⟩ := hrel
    clear hb1 f1 hlt1
    by_cases hlt : i < 64
    · have hd1 : decide ((i : Int) < 64) = true := by simp; omega
      have hc : wr.cell? ⟨w.heap.size, i, none⟩ = some (bt (g8 l i)) := by
        rw [hb.cell, bv_getElem?, xorT_get l x i (by rw [Hl.out]; exact hlt)]
        rfl
      go_wp2_with (refine wpList_put rfl _ _ _ rfl rfl (bt (g8 l i ^^^ x)) rfl rfl hb (by rw [bv_length, xorT_len, Hl.out]; exact hlt) (by kernel_rfl) ?_; intro w10 f10 hO10 hs10; (try simp only [World.size_alloc, World.size_drew, Act.put, List.setIfInBounds_toArray, List.set_cons_succ, List.set_cons_zero]))
      rw [← bv_set, xorT_set l x i (by rw [Hl.out]; exact hlt)] at hO10
      go_roundw
      case rel => exact ⟨i + 1, by omega, by go_num, hO10, f.trans f10 (by simp)⟩
      case measure => simp [intOf]; omega
    · have ei : i = 64 := by omega
      have hd1 : decide ((i : Int) < 64) = false := by simp; omega
      rw [xorT_all l x i (by rw [Hl.out]; omega), Hm.out] at hb
      have HSv := hid (show ((bv m).drop 0).take m.length = bv m by rw [List.drop_zero, ← bv_length, List.take_length])
      clear ei
      go_wp2_with (refine wpList_string_of_bytes rfl _ _ 5 _ rfl 64 64 rfl hb m Hml.out HSv.out Try.underlying41 Try.underlying5 Try.underlying9 ?_; (try simp only [World.size_alloc, World.size_drew, Act.put, List.setIfInBounds_toArray, List.set_cons_succ, List.set_cons_zero]))
      go_ret
      exact ⟨rfl, f⟩

theorem sum_str {w : World} {hb tp : Nat} {A : ByteArray} (h : HR w hb tp A.data.toList) (hn : A.size < 1099511627776) : Calls Try.prog 25 #[.pointer (some ⟨hb, 0, none⟩)] w fun e w' => e = .returned (.string (shaS A)) ∧ Fr [] w w' :=
  sum_any h (by rw [bytes_len]; exact hn)
theorem add_str {w : World} {hb tp : Nat} {A : ByteArray} (h : HR w hb tp A.data.toList) (s : ByteArray) (hs : A.size + s.size < 1152921504606846976) : Calls Try.prog 23 #[.pointer (some ⟨hb, 0, none⟩), .string s] w fun e w' => e = .returned (.int .i64 0) ∧ HR w' hb tp (A ++ s).data.toList ∧ Fr [hb] w w' := by
  have e : (A ++ s).data.toList = A.data.toList ++ s.data.toList := by simp
  rw [e]
  exact add_any h s (by rw [bytes_len]; exact hs)
theorem nil_app (s : ByteArray) : (⟨#[]⟩ : ByteArray) ++ s = s := by
  apply ByteArray.ext
  simp

theorem padK_splice (K : ByteArray) (h : K.size ≤ 64) : splice (List.replicate 64 (bt 0)) 0 (bv (K.data.toList.take K.size)) = bv (padK K.data.toList) := by
  have hl := bytes_len K
  have e1 : K.data.toList.take K.size = K.data.toList := List.take_of_length_le (by omega)
  rw [e1]
  unfold splice padK
  rw [bv_length, hl, List.take_zero, List.nil_append, List.drop_replicate, List.take_of_length_le (by simp; omega), bv_append, bv_replicate, Nat.zero_add]

set_option maxRecDepth 20000 in
set_option maxHeartbeats 1000000 in
theorem mof_any {w : World} (key s : ByteArray) (hk : key.size < 1099511627776) (hs : s.size + 64 < 1099511627776) : Calls Try.prog 9 #[.string key, .string s] w fun e w' => e = .returned (.string (macS key s)) ∧ Fr [] w w' := by
  obtain ⟨iA, hiA, hzA, hsA⟩ := infB
  have Hi := hid hiA
  have Hz := hid hzA
  have Hs := hid (show (Try.prog.info? 40).map (·.size) = some 64 by rw [hiA]; exact congrArg some hsA)
  have H5 := hid (show (Try.prog.info? 5).map (·.size) = some 1 by kernel_rfl)
  clear hiA hzA hsA
  have Hsz := hid (keyS_size key)
  unfold macS
  have hcase : (decide (64 < (key.size : Int)) = true ∧ Hid (keyS key = shaS key)) ∨ (decide (64 < (key.size : Int)) = false ∧ Hid (keyS key = key)) := by
    by_cases h : 64 < key.size
    · exact .inl ⟨by simp; omega, by unfold keyS Hid; rw [if_pos h]⟩
    · exact .inr ⟨by simp; omega, by unfold keyS Hid; rw [if_neg h]⟩
  obtain ⟨K, hK⟩ : ∃ K, keyS key = K := ⟨_, rfl⟩
  rw [hK] at hcase Hsz ⊢
  obtain ⟨P1, hP1⟩ : ∃ P1 : ByteArray, ⟨(padX K.data.toList (c8 92)).toArray⟩ = P1 := ⟨_, rfl⟩
  obtain ⟨P2, hP2⟩ : ∃ P2 : ByteArray, ⟨(padX K.data.toList (c8 54)).toArray⟩ = P2 := ⟨_, rfl⟩
  have Hs1 := hid (show P1.size = 64 by rw [← hP1, size_mk', padX_len])
  have Hs2 := hid (show P2.size = 64 by rw [← hP2, size_mk', padX_len])
  have hw1 := fun w0 : World => with_any (w := w0) (padK K.data.toList) (padK_len _) (c8 92)
  have hw2 := fun w0 : World => with_any (w := w0) (padK K.data.toList) (padK_len _) (c8 54)
  rw [show (padK K.data.toList).map (fun c => c ^^^ c8 92) = padX K.data.toList (c8 92) from rfl, hP1] at hw1
  rw [show (padK K.data.toList).map (fun c => c ^^^ c8 54) = padX K.data.toList (c8 54) from rfl, hP2] at hw2
  rw [hP1, hP2]
  have Hw1 := hid hw1
  have Hw2 := hid hw2
  clear hK hP1 hP2 hw1 hw2
  rcases hcase with ⟨hd, hke⟩ | ⟨hd, hke⟩
  case' inl =>
    have h1 := fun w0 : World => of_any (w := w0) key hk
    rw [← hke.out] at h1
    have H1 := hid h1
    clear h1 hke
    go_enter Try.func9, Try.ntmps9
    go_wp2_with fail
    refine (H1.out _).mono ?_
    rintro e w1 ⟨rfl, f1⟩
  case' inr =>
    have h := hke.out
    subst h
    clear hke
    obtain ⟨w1, hw⟩ : ∃ w1 : World, w1 = w := ⟨w, rfl⟩
    subst hw
    have f1 : Fr [] w1 w1 := Fr.refl _ _
    go_enter Try.func9, Try.ntmps9
  all_goals
    go_wp2_with (first
      | (refine wpList_alloc_any rfl _ rfl _ _ 64 Hi.out Hz.out rfl ?_; intro zs w2 hzl hze f2 hlt2 hb2; have Hze := hid hze; clear hzl hze; simp only [World.size_alloc, World.size_drew, Act.put, List.setIfInBounds_toArray, List.set_cons_succ, List.set_cons_zero])
      | (refine wpList_copy_str rfl _ _ 5 _ _ rfl 64 64 K K.size (Nat.min_eq_left Hsz.out) rfl rfl hb2 Try.underlying41 H5.out (by rw [Hze.out]; simp; exact Hsz.out) ?_; intro w3 f3 hb3 hs3; simp only [World.size_alloc, World.size_drew, Act.put, List.setIfInBounds_toArray, List.set_cons_succ, List.set_cons_zero]))
    have hb3' : Blk w3 w1.heap.size (bv (padK K.data.toList)) := by
      rw [← padK_splice K Hsz.out]
      rw [Hze.out] at hb3
      exact hb3
    have g3 : Fr [] w1 w3 := f2.trans f3 (fun x hx => .inr (by simp at hx; omega))
    have hl3 : w1.heap.size < w3.heap.size := by omega
    clear hb3 hb2 f2 f3 hs3 hlt2
    have Hvs := hid (show ((bv (padK K.data.toList)).drop 0).take (bv (padK K.data.toList)).length = bv (padK K.data.toList) by rw [List.drop_zero, List.take_length])
    have Hvl := hid (show (Try.prog.info? 40).map (·.size) = some (bv (padK K.data.toList)).length by rw [Hs.out, bv_length, padK_len])
    refine new_any.mono ?_
    rintro e w4 ⟨hb, rfl, hr4, hlt4, f4⟩
    have hr4' : HR w4 hb w3.heap.size (⟨#[]⟩ : ByteArray).data.toList := hr4
    have hb4 := f4.blk hb3' (by simp)
    clear hr4 hb3'
    go_wp2_with (refine wpList_load_agg rfl _ _ rfl rfl (bv (padK K.data.toList)) hb4 _ Try.underlying40 rfl Hvl.out Hvs.out ?_; simp only [World.size_alloc, World.size_drew, Act.put, List.setIfInBounds_toArray, List.set_cons_succ, List.set_cons_zero])
    refine (Hw2.out _).mono ?_
    rintro e w5 ⟨rfl, f5⟩
    go_wp2_with fail
    refine (add_str (A := ⟨#[]⟩) (hr4'.keep f5 (by simp) (by simp)) P2 (by rw [Hs2.out]; decide)).mono ?_
    rintro e w6 ⟨rfl, hr6, f6⟩
    rw [nil_app] at hr6
    go_wp2_with fail
    refine (add_str hr6 s (by rw [Hs2.out]; omega)).mono ?_
    rintro e w7 ⟨rfl, hr7, f7⟩
    have hh4 : w4.heap.size ≤ w5.heap.size := f5.size
    have g7 : Fr [hb] w4 w7 := ((f5.mono (by simp)).trans' f6).trans' f7
    have hb7 := g7.blk hb4 (by simp; omega)
    clear hb4 hr6 f6 f5 hr4'
    go_wp2_with (refine wpList_load_agg rfl _ _ rfl rfl (bv (padK K.data.toList)) hb7 _ Try.underlying40 rfl Hvl.out Hvs.out ?_; simp only [World.size_alloc, World.size_drew, Act.put, List.setIfInBounds_toArray, List.set_cons_succ, List.set_cons_zero])
    refine (Hw1.out _).mono ?_
    rintro e w8 ⟨rfl, f8⟩
    go_wp2_with fail
    refine (sum_str (A := P2 ++ s) (hr7.keep f8 (by simp) (by simp)) (by rw [ByteArray.size_append, Hs2.out]; omega)).mono ?_
    rintro e w9 ⟨rfl, f9⟩
    have hc1 := shaS_size (P2 ++ s)
    have hc2 := Hs1.out
    go_wp2_with fail
    refine (of_any (P1 ++ shaS (P2 ++ s)) (by rw [ByteArray.size_append, Hs1.out, shaS_size]; decide)).mono ?_
    rintro e w10 ⟨rfl, f10⟩
    go_wp2_with fail
    go_ret
    exact ⟨rfl, ((((f1.trans' g3).trans' (f4.trans g7 (fun x hx => .inr (by simp at hx; omega)))).trans' f8).trans' f9).trans' f10⟩
end Go.Proofs.Ytfcpnicgffbmeaa
