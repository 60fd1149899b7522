/- Several texts put together: MacA, MacB, MacC, MacD, MacE, MacF, MacG. What each shows stands ahead of it. -/
import Derived.Test.YtneoagelcjfanaaGreatDoorGSha
import Derived.Test.YtneoagelcjfanaaGreatDoorGCore
import Derived.Test.YtneoagelcjfanaaGreatDoorGArgs
/- Layer 2, mac: a key's block, the tag. -/
namespace Go.Xr
open Go
set_option linter.unusedVariables false
/-- Each of the first i bytes exclusive or x. -/
def xorT (l : List UInt8) (x : UInt8) (i : Nat) : List UInt8 := (l.take i).map (fun c => c ^^^ x) ++ l.drop i
theorem xorT_len (l : List UInt8) (x : UInt8) (i : Nat) : (xorT l x i).length = l.length := by
  simp only [xorT, List.length_append, List.length_map, List.length_take, List.length_drop]
  omega
theorem xorT_zero (l : List UInt8) (x : UInt8) : xorT l x 0 = l := by simp [xorT]
theorem xorT_all (l : List UInt8) (x : UInt8) (i : Nat) (h : l.length ≤ i) : xorT l x i = l.map (fun c => c ^^^ x) := by
  simp [xorT, List.take_of_length_le h, List.drop_eq_nil_of_le h]
theorem xorT_get (l : List UInt8) (x : UInt8) (i : Nat) (h : i < l.length) : (xorT l x i)[i]? = some (g8 l i) := by
  have hl : ((l.take i).map (fun c => c ^^^ x)).length = i := by rw [List.length_map, List.length_take]; omega
  unfold xorT
  rw [List.getElem?_append_right (by omega), hl, Nat.sub_self, List.getElem?_drop, Nat.add_zero, g8_eq l i h]
theorem xorT_set (l : List UInt8) (x : UInt8) (i : Nat) (h : i < l.length) : (xorT l x i).set i (g8 l i ^^^ x) = xorT l x (i + 1) := by
  have hl : ((l.take i).map (fun c => c ^^^ x)).length = i := by rw [List.length_map, List.length_take]; omega
  have e : l[i] = g8 l i := by
    have := g8_eq l i h
    rw [List.getElem?_eq_getElem h] at this
    exact Option.some.inj this
  unfold xorT
  rw [List.set_append_right _ _ (by omega), hl, Nat.sub_self, List.drop_eq_getElem_cons h, List.set_cons_zero, List.take_succ_eq_append_getElem h, List.map_append, List.append_assoc, e]
  rfl
/-- A key's block: 64 bytes. -/
def padK (k : List UInt8) : List UInt8 := (k ++ List.replicate (64 - k.length) 0).take 64
theorem padK_len (k : List UInt8) : (padK k).length = 64 := by simp [padK]; omega
theorem padK_get (k : List UInt8) (h : k.length ≤ 64) (i : Nat) (hi : i < 64) : g8 (padK k) i = g8 k i := by
  unfold g8 padK
  rw [List.getD_eq_getElem?_getD, List.getD_eq_getElem?_getD, List.getElem?_take, if_pos hi]
  by_cases h1 : i < k.length
  · rw [List.getElem?_append_left h1]
  · rw [List.getElem?_append_right (by omega), List.getElem?_replicate, if_pos (by omega), List.getElem?_eq_none (by omega)]
    rfl
/-- The block, each byte exclusive or x. -/
def padX (k : List UInt8) (x : UInt8) : List UInt8 := (padK k).map fun c => c ^^^ x
theorem padX_len (k : List UInt8) (x : UInt8) : (padX k x).length = 64 := by simp [padX, padK_len]
end Go.Xr
namespace Go.Proofs.YtneoagelcjfanaaGreatDoor
open Go Go.Xr Go.RowKit
set_option linter.unusedVariables false
set_option linter.unusedSimpArgs false

/-- The key cut down. -/
def keyS (key : ByteArray) : ByteArray := if 64 < key.size then shaS key else key
theorem keyS_size (key : ByteArray) : (keyS key).size ≤ 64 := by
  unfold keyS
  split
  · rw [shaS_size]; omega
  · omega
/-- The tag. -/
def macS (key s : ByteArray) : ByteArray := shaS (⟨(padX (keyS key).data.toList (c8 92)).toArray⟩ ++ shaS (⟨(padX (keyS key).data.toList (c8 54)).toArray⟩ ++ s))
theorem macS_size (key s : ByteArray) : (macS key s).size = 32 := shaS_size _

set_option maxRecDepth 20000 in
theorem infA : ∃ i, Tryz.prog.info? 141 = some i ∧ i.zero = some (.agg (List.replicate 64 (bt 0)).toArray) ∧ i.size = 64 := ⟨_, rfl, rfl, rfl⟩
set_option maxRecDepth 20000 in
theorem infB : ∃ i, Tryz.prog.info? 142 = some i ∧ i.zero = some (.agg (List.replicate 64 (bt 0)).toArray) ∧ i.size = 64 := ⟨_, rfl, rfl, rfl⟩

attribute [local go_sem] xor_u8 xor_u8_c

set_option maxRecDepth 20000 in
theorem with_any {w : World} (l : List UInt8) (hl : l.length = 64) (x : UInt8) : Calls Tryz.prog 88 #[.agg (bv l).toArray, bt x] w fun e w' => e = .returned (.string ⟨(l.map (fun c => c ^^^ x)).toArray⟩) ∧ Fr [] w w' := by
  have Hl := hid hl
  obtain ⟨m, hm⟩ : ∃ m, l.map (fun c => c ^^^ x) = m := ⟨_, rfl⟩
  rw [hm]
  have Hml := hid (show m.length = 64 by rw [← hm, List.length_map, hl])
  have Hm := hid hm
  clear hl hm
  go_enter Tryz.func88, Tryz.ntmps88
  go_wp2_with (refine wpList_box rfl _ _ rfl (bv l) rfl ?_; intro w1 f1 hlt1 hb1; simp only [World.size_alloc, World.size_drew, Act.put, List.setIfInBounds_toArray, List.set_cons_succ, List.set_cons_zero])
  go_loopw [6] (fun iv wr => ∃ i : Nat, i ≤ 64 ∧ iv = .int .i64 i ∧ Blk wr w.heap.size (bv (xorT l x i)) ∧ Fr [] w wr) (fun iv _ => 64 - (intOf iv).toNat)
  case atStart => exact ⟨0, by omega, rfl, by rw [xorT_zero]; exact hb1, f1⟩
  case round =>
    obtain ⟨i, hi, rfl, hb, f⟩ := hrel
    clear hb1 f1 hlt1
    by_cases hlt : i < 64
    · have hd1 : decide ((i : Int) < 64) = true := by simp; omega
      have hc : wr.cell? ⟨w.heap.size, i, none⟩ = some (bt (g8 l i)) := by
        rw [hb.cell, bv_getElem?, xorT_get l x i (by rw [Hl.out]; exact hlt)]
        rfl
      go_wp2_with (refine wpList_put rfl _ _ _ rfl rfl (bt (g8 l i ^^^ x)) rfl rfl hb (by rw [bv_length, xorT_len, Hl.out]; exact hlt) (by kernel_rfl) ?_; intro w10 f10 hO10 hs10; (try simp only [World.size_alloc, World.size_drew, Act.put, List.setIfInBounds_toArray, List.set_cons_succ, List.set_cons_zero]))
      rw [← bv_set, xorT_set l x i (by rw [Hl.out]; exact hlt)] at hO10
      go_roundw
      case rel => exact ⟨i + 1, by omega, by go_num, hO10, f.trans f10 (by simp)⟩
      case measure => simp [intOf]; omega
    · have ei : i = 64 := by omega
      have hd1 : decide ((i : Int) < 64) = false := by simp; omega
      rw [xorT_all l x i (by rw [Hl.out]; omega), Hm.out] at hb
      have HSv := hid (show ((bv m).drop 0).take m.length = bv m by rw [List.drop_zero, ← bv_length, List.take_length])
      clear ei
      go_wp2_with (refine wpList_string_of_bytes rfl _ _ 5 _ rfl 64 64 rfl hb m Hml.out HSv.out Tryz.underlying67 Tryz.underlying5 Tryz.underlying9 ?_; (try simp only [World.size_alloc, World.size_drew, Act.put, List.setIfInBounds_toArray, List.set_cons_succ, List.set_cons_zero]))
      go_ret
      exact ⟨rfl, f⟩

theorem sum_str {w : World} {hb tp : Nat} {A : ByteArray} (h : HR w hb tp A.data.toList) (hn : A.size < 1099511627776) : Calls Tryz.prog 89 #[.pointer (some ⟨hb, 0, none⟩)] w fun e w' => e = .returned (.string (shaS A)) ∧ Fr [] w w' :=
  sum_any h (by rw [bytes_len]; exact hn)
theorem add_str {w : World} {hb tp : Nat} {A : ByteArray} (h : HR w hb tp A.data.toList) (s : ByteArray) (hs : A.size + s.size < 1152921504606846976) : Calls Tryz.prog 87 #[.pointer (some ⟨hb, 0, none⟩), .string s] w fun e w' => e = .returned (.int .i64 0) ∧ HR w' hb tp (A ++ s).data.toList ∧ Fr [hb] w w' := by
  have e : (A ++ s).data.toList = A.data.toList ++ s.data.toList := by simp
  rw [e]
  exact add_any h s (by rw [bytes_len]; exact hs)
theorem nil_app (s : ByteArray) : (⟨#[]⟩ : ByteArray) ++ s = s := by
  apply ByteArray.ext
  simp

theorem padK_splice (K : ByteArray) (h : K.size ≤ 64) : splice (List.replicate 64 (bt 0)) 0 (bv (K.data.toList.take K.size)) = bv (padK K.data.toList) := by
  have hl := bytes_len K
  have e1 : K.data.toList.take K.size = K.data.toList := List.take_of_length_le (by omega)
  rw [e1]
  unfold splice padK
  rw [bv_length, hl, List.take_zero, List.nil_append, List.drop_replicate, List.take_of_length_le (by simp; omega), bv_append, bv_replicate, Nat.zero_add]

set_option maxRecDepth 20000 in
set_option maxHeartbeats 1000000 in
theorem mof_any {w : World} (key s : ByteArray) (hk : key.size < 1099511627776) (hs : s.size + 64 < 1099511627776) : Calls Tryz.prog 62 #[.string key, .string s] w fun e w' => e = .returned (.string (macS key s)) ∧ Fr [] w w' := by
  obtain ⟨iA, hiA, hzA, hsA⟩ := infB
  have Hi := hid hiA
  have Hz := hid hzA
  have Hs := hid (show (Tryz.prog.info? 142).map (·.size) = some 64 by rw [hiA]; exact congrArg some hsA)
  have H5 := hid (show (Tryz.prog.info? 5).map (·.size) = some 1 by kernel_rfl)
  clear hiA hzA hsA
  have Hsz := hid (keyS_size key)
  unfold macS
  have hcase : (decide (64 < (key.size : Int)) = true ∧ Hid (keyS key = shaS key)) ∨ (decide (64 < (key.size : Int)) = false ∧ Hid (keyS key = key)) := by
    by_cases h : 64 < key.size
    · exact .inl ⟨by simp; omega, by unfold keyS Hid; rw [if_pos h]⟩
    · exact .inr ⟨by simp; omega, by unfold keyS Hid; rw [if_neg h]⟩
  obtain ⟨K, hK⟩ : ∃ K, keyS key = K := ⟨_, rfl⟩
  rw [hK] at hcase Hsz ⊢
  obtain ⟨P1, hP1⟩ : ∃ P1 : ByteArray, ⟨(padX K.data.toList (c8 92)).toArray⟩ = P1 := ⟨_, rfl⟩
  obtain ⟨P2, hP2⟩ : ∃ P2 : ByteArray, ⟨(padX K.data.toList (c8 54)).toArray⟩ = P2 := ⟨_, rfl⟩
  have Hs1 := hid (show P1.size = 64 by rw [← hP1, size_mk', padX_len])
  have Hs2 := hid (show P2.size = 64 by rw [← hP2, size_mk', padX_len])
  have hw1 := fun w0 : World => with_any (w := w0) (padK K.data.toList) (padK_len _) (c8 92)
  have hw2 := fun w0 : World => with_any (w := w0) (padK K.data.toList) (padK_len _) (c8 54)
  rw [show (padK K.data.toList).map (fun c => c ^^^ c8 92) = padX K.data.toList (c8 92) from rfl, hP1] at hw1
  rw [show (padK K.data.toList).map (fun c => c ^^^ c8 54) = padX K.data.toList (c8 54) from rfl, hP2] at hw2
  rw [hP1, hP2]
  have Hw1 := hid hw1
  have Hw2 := hid hw2
  clear hK hP1 hP2 hw1 hw2
  rcases hcase with ⟨hd, hke⟩ | ⟨hd, hke⟩
  case' inl =>
    have h1 := fun w0 : World => of_any (w := w0) key hk
    rw [← hke.out] at h1
    have H1 := hid h1
    clear h1 hke
    go_enter Tryz.func62, Tryz.ntmps62
    go_wp2_with fail
    refine (H1.out _).mono ?_
    rintro e w1 ⟨rfl, f1⟩
  case' inr =>
    have h := hke.out
    subst h
    clear hke
    obtain ⟨w1, hw⟩ : ∃ w1 : World, w1 = w := ⟨w, rfl⟩
    subst hw
    have f1 : Fr [] w1 w1 := Fr.refl _ _
    go_enter Tryz.func62, Tryz.ntmps62
  all_goals
    go_wp2_with (first
      | (refine wpList_alloc_any rfl _ rfl _ _ 64 Hi.out Hz.out rfl ?_; intro zs w2 hzl hze f2 hlt2 hb2; have Hze := hid hze; clear hzl hze; simp only [World.size_alloc, World.size_drew, Act.put, List.setIfInBounds_toArray, List.set_cons_succ, List.set_cons_zero])
      | (refine wpList_copy_str rfl _ _ 5 _ _ rfl 64 64 K K.size (Nat.min_eq_left Hsz.out) rfl rfl hb2 Tryz.underlying67 H5.out (by rw [Hze.out]; simp; exact Hsz.out) ?_; intro w3 f3 hb3 hs3; simp only [World.size_alloc, World.size_drew, Act.put, List.setIfInBounds_toArray, List.set_cons_succ, List.set_cons_zero]))
    have hb3' : Blk w3 w1.heap.size (bv (padK K.data.toList)) := by
      rw [← padK_splice K Hsz.out]
      rw [Hze.out] at hb3
      exact hb3
    have g3 : Fr [] w1 w3 := f2.trans f3 (fun x hx => .inr (by simp at hx; omega))
    have hl3 : w1.heap.size < w3.heap.size := by omega
    clear hb3 hb2 f2 f3 hs3 hlt2
    have Hvs := hid (show ((bv (padK K.data.toList)).drop 0).take (bv (padK K.data.toList)).length = bv (padK K.data.toList) by rw [List.drop_zero, List.take_length])
    have Hvl := hid (show (Tryz.prog.info? 142).map (·.size) = some (bv (padK K.data.toList)).length by rw [Hs.out, bv_length, padK_len])
    refine new_any.mono ?_
    rintro e w4 ⟨hb, rfl, hr4, hlt4, f4⟩
    have hr4' : HR w4 hb w3.heap.size (⟨#[]⟩ : ByteArray).data.toList := hr4
    have hb4 := f4.blk hb3' (by simp)
    clear hr4 hb3'
    go_wp2_with (refine wpList_load_agg rfl _ _ rfl rfl (bv (padK K.data.toList)) hb4 _ Tryz.underlying142 rfl Hvl.out Hvs.out ?_; simp only [World.size_alloc, World.size_drew, Act.put, List.setIfInBounds_toArray, List.set_cons_succ, List.set_cons_zero])
    refine (Hw2.out _).mono ?_
    rintro e w5 ⟨rfl, f5⟩
    go_wp2_with fail
    refine (add_str (A := ⟨#[]⟩) (hr4'.keep f5 (by simp) (by simp)) P2 (by rw [Hs2.out]; decide)).mono ?_
    rintro e w6 ⟨rfl, hr6, f6⟩
    rw [nil_app] at hr6
    go_wp2_with fail
    refine (add_str hr6 s (by rw [Hs2.out]; omega)).mono ?_
    rintro e w7 ⟨rfl, hr7, f7⟩
    have hh4 : w4.heap.size ≤ w5.heap.size := f5.size
    have g7 : Fr [hb] w4 w7 := ((f5.mono (by simp)).trans' f6).trans' f7
    have hb7 := g7.blk hb4 (by simp; omega)
    clear hb4 hr6 f6 f5 hr4'
    go_wp2_with (refine wpList_load_agg rfl _ _ rfl rfl (bv (padK K.data.toList)) hb7 _ Tryz.underlying142 rfl Hvl.out Hvs.out ?_; simp only [World.size_alloc, World.size_drew, Act.put, List.setIfInBounds_toArray, List.set_cons_succ, List.set_cons_zero])
    refine (Hw1.out _).mono ?_
    rintro e w8 ⟨rfl, f8⟩
    go_wp2_with fail
    refine (sum_str (A := P2 ++ s) (hr7.keep f8 (by simp) (by simp)) (by rw [ByteArray.size_append, Hs2.out]; omega)).mono ?_
    rintro e w9 ⟨rfl, f9⟩
    have hc1 := shaS_size (P2 ++ s)
    have hc2 := Hs1.out
    go_wp2_with fail
    refine (of_any (P1 ++ shaS (P2 ++ s)) (by rw [ByteArray.size_append, Hs1.out, shaS_size]; decide)).mono ?_
    rintro e w10 ⟨rfl, f10⟩
    go_wp2_with fail
    go_ret
    exact ⟨rfl, ((((f1.trans' g3).trans' (f4.trans g7 (fun x hx => .inr (by simp at hx; omega)))).trans' f8).trans' f9).trans' f10⟩
end Go.Proofs.YtneoagelcjfanaaGreatDoor

/- Layer 2, the document's mac: a key's block, the tag. -/
namespace Go.Xr
open Go
set_option linter.unusedVariables false
/-- The block of the document after i rounds. -/
def padT (p : List UInt8) (x : UInt8) (i : Nat) : List UInt8 := (padX p x).take i ++ List.replicate (64 - i) 0
theorem padT_len (p : List UInt8) (x : UInt8) (i : Nat) (h : i ≤ 64) : (padT p x i).length = 64 := by
  simp only [padT, List.length_append, List.length_take, padX_len, List.length_replicate]
  omega
theorem padT_get (p : List UInt8) (x : UInt8) (i : Nat) (h : i < 64) : (padT p x i)[i]? = some 0 := by
  have hl : ((padX p x).take i).length = i := by rw [List.length_take, padX_len]; omega
  unfold padT
  rw [List.getElem?_append_right (by omega), hl, Nat.sub_self, List.getElem?_replicate, if_pos (by omega)]
theorem padT_set (p : List UInt8) (x : UInt8) (i : Nat) (hp : p.length ≤ 64) (h : i < 64) : (padT p x i).set i (g8 p i ^^^ x) = padT p x (i + 1) := by
  have hl : ((padX p x).take i).length = i := by rw [List.length_take, padX_len]; omega
  have hk := padK_len p
  have e : (padX p x)[i]'(by rw [padX_len]; exact h) = g8 p i ^^^ x := by
    have h1 := g8_eq (padK p) i (by omega)
    rw [List.getElem?_eq_getElem (by omega), padK_get p hp i h] at h1
    unfold padX
    rw [List.getElem_map, Option.some.inj h1]
  unfold padT
  rw [List.set_append_right _ _ (by omega), hl, Nat.sub_self, show 64 - i = (64 - (i + 1)) + 1 by omega, List.replicate_succ, List.set_cons_zero, List.take_succ_eq_append_getElem (by rw [padX_len]; exact h), List.append_assoc, e]
  rfl
theorem padT_all (p : List UInt8) (x : UInt8) : padT p x 64 = padX p x := by
  unfold padT
  rw [List.take_of_length_le (by rw [padX_len]; exact Nat.le_refl _)]
  simp
end Go.Xr
namespace Go.Proofs.YtneoagelcjfanaaGreatDoor
open Go Go.Xr Go.RowKit
set_option linter.unusedVariables false
set_option linter.unusedSimpArgs false

attribute [local go_sem] xor_u8 xor_u8_c

set_option maxRecDepth 20000 in
set_option maxHeartbeats 1000000 in
theorem pad_any {w : World} (key : ByteArray) (hk : key.size ≤ 64) (x : UInt8) : Calls Tryz.prog 91 #[.string key, bt x] w fun e w' => e = .returned (.string ⟨(padX key.data.toList x).toArray⟩) ∧ Fr [] w w' := by
  obtain ⟨i28, hi28, hz28, hs28, hb28⟩ := inf5
  have Hi := hid hi28
  have Hz := hid hz28
  have Hs := hid hs28
  have Hb := hid hb28
  obtain ⟨p, hp⟩ : ∃ p, key.data.toList = p := ⟨_, rfl⟩
  have Hpl := hid (show p.length = key.size by rw [← hp]; exact bytes_len key)
  rw [hp]
  have Hp := hid hp
  clear hi28 hz28 hs28 hb28 hp
  go_enter Tryz.func91, Tryz.ntmps91
  go_wp2_with (refine wpList_make_blk rfl _ _ _ rfl 64 64 .i64 .i64 rfl rfl 5 _ _ 1 Tryz.underlying67 Hi.out Hz.out Hs.out Hb.out rfl (by omega) (by omega) (by omega) ?_; intro w1 f1 hlt1 hb1; simp only [World.size_alloc, World.size_drew, Act.put, List.setIfInBounds_toArray, List.set_cons_succ, List.set_cons_zero])
  go_loopw [6] (fun iv wr => ∃ i : Nat, i ≤ 64 ∧ iv = .int .i64 i ∧ Blk wr w.heap.size (bv (padT p x i)) ∧ Fr [] w wr) (fun iv _ => 64 - (intOf iv).toNat)
  case atStart => exact ⟨0, by omega, rfl, by simp only [padT, List.take_zero, List.nil_append, bv_replicate]; exact hb1, f1⟩
  case round =>
    obtain ⟨i, hi, rfl, hb, f⟩ := hrel
    clear hb1 f1 hlt1
    by_cases hlt : i < 64
    · have hd1 : decide ((i : Int) < 64) = true := by simp; omega
      have Hlen := hid (show (bv (padT p x i)).length = 64 by rw [bv_length, padT_len p x i hi])
      by_cases hk2 : i < key.size
      · have hd2 : decide (i < key.size) = true := by simp; omega
        have hix : ∀ w0 : World, (Instr.index 9 (.string key) (.int .i64 i)).run Tryz.prog w0 = .ok (bt (g8 p i)) w0 := fun w0 => by
          have := index_str (P := Tryz.prog) w0 9 key .i64 i i Tryz.underlying9 rfl hk2 0
          rw [Hp.out] at this
          exact this
        have hc0 : (wr.cell? ⟨w.heap.size, i, none⟩) = some (bt 0) := by rw [hb.cell, bv_getElem?, padT_get p x i hlt]; rfl
        go_wp2_with (first
          | (refine wpList_put rfl _ _ _ rfl rfl (bt (g8 p i)) rfl rfl hb (by rw [Hlen.out]; exact hlt) (by kernel_rfl) ?_; intro w2 f2 hb2 hs2; clear hc0; have hc : w2.cell? ⟨w.heap.size, i, none⟩ = some (bt (g8 p i)) := (by rw [hb2.cell, List.getElem?_set_self (by rw [Hlen.out]; exact hlt)]); (try simp only [World.size_alloc, World.size_drew, Act.put, List.setIfInBounds_toArray, List.set_cons_succ, List.set_cons_zero]))
          | (refine wpList_put rfl _ _ _ rfl rfl (bt (g8 p i ^^^ x)) rfl rfl hb2 (by rw [List.length_set, Hlen.out]; exact hlt) (by kernel_rfl) ?_; intro w3 f3 hb3 hs3; (try simp only [World.size_alloc, World.size_drew, Act.put, List.setIfInBounds_toArray, List.set_cons_succ, List.set_cons_zero])))
        rw [List.set_set, ← bv_set, padT_set p x i (by rw [Hpl.out]; exact hk) hlt] at hb3
        go_roundw
        case rel => exact ⟨i + 1, by omega, by go_num, hb3, (f.trans f2 (by simp)).trans f3 (by simp)⟩
        case measure => simp [intOf]; omega
      · have hd2 : decide (i < key.size) = false := by simp; omega
        have hg : g8 p i = 0 := by
          unfold g8
          rw [List.getD_eq_getElem?_getD, List.getElem?_eq_none (by rw [Hpl.out]; omega)]
          rfl
        have hc : wr.cell? ⟨w.heap.size, i, none⟩ = some (bt (g8 p i)) := by rw [hg, hb.cell, bv_getElem?, padT_get p x i hlt]; rfl
        clear hg
        go_wp2_with (refine wpList_put rfl _ _ _ rfl rfl (bt (g8 p i ^^^ x)) rfl rfl hb (by rw [Hlen.out]; exact hlt) (by kernel_rfl) ?_; intro w3 f3 hb3 hs3; (try simp only [World.size_alloc, World.size_drew, Act.put, List.setIfInBounds_toArray, List.set_cons_succ, List.set_cons_zero]))
        rw [← bv_set, padT_set p x i (by rw [Hpl.out]; exact hk) hlt] at hb3
        go_roundw
        case rel => exact ⟨i + 1, by omega, by go_num, hb3, f.trans f3 (by simp)⟩
        case measure => simp [intOf]; omega
    · have ei : i = 64 := by omega
      have hd1 : decide ((i : Int) < 64) = false := by simp; omega
      rw [ei, padT_all] at hb
      have Hml := hid (padX_len p x)
      have HSv := hid (show ((bv (padX p x)).drop 0).take (padX p x).length = bv (padX p x) by rw [List.drop_zero, ← bv_length, List.take_length])
      clear ei
      go_wp2_with (refine wpList_string_of_bytes rfl _ _ 5 _ rfl 64 64 rfl hb (padX p x) Hml.out HSv.out Tryz.underlying67 Tryz.underlying5 Tryz.underlying9 ?_; (try simp only [World.size_alloc, World.size_drew, Act.put, List.setIfInBounds_toArray, List.set_cons_succ, List.set_cons_zero]))
      go_ret
      exact ⟨rfl, f⟩

set_option maxRecDepth 20000 in
theorem rmac_any {w : World} (key s : ByteArray) (hk : key.size < 1099511627776) (hs : s.size + 64 < 1099511627776) : Calls Tryz.prog 63 #[.string key, .string s] w fun e w' => e = .returned (.string (macS key s)) ∧ Fr [] w w' := by
  have Hsz := hid (keyS_size key)
  unfold macS
  have hcase : (decide (64 < (key.size : Int)) = true ∧ Hid (keyS key = shaS key)) ∨ (decide (64 < (key.size : Int)) = false ∧ Hid (keyS key = key)) := by
    by_cases h : 64 < key.size
    · exact .inl ⟨by simp; omega, by unfold keyS Hid; rw [if_pos h]⟩
    · exact .inr ⟨by simp; omega, by unfold keyS Hid; rw [if_neg h]⟩
  obtain ⟨K, hK⟩ : ∃ K, keyS key = K := ⟨_, rfl⟩
  rw [hK] at hcase Hsz ⊢
  obtain ⟨P1, hP1⟩ : ∃ P1 : ByteArray, ⟨(padX K.data.toList (c8 92)).toArray⟩ = P1 := ⟨_, rfl⟩
  obtain ⟨P2, hP2⟩ : ∃ P2 : ByteArray, ⟨(padX K.data.toList (c8 54)).toArray⟩ = P2 := ⟨_, rfl⟩
  have Hs1 := hid (show P1.size = 64 by rw [← hP1, size_mk', padX_len])
  have Hs2 := hid (show P2.size = 64 by rw [← hP2, size_mk', padX_len])
  have hw1 := fun w0 : World => pad_any (w := w0) K Hsz.out (c8 92)
  have hw2 := fun w0 : World => pad_any (w := w0) K Hsz.out (c8 54)
  rw [hP1] at hw1
  rw [hP2] at hw2
  rw [hP1, hP2]
  have Hw1 := hid hw1
  have Hw2 := hid hw2
  clear hK hP1 hP2 hw1 hw2
  rcases hcase with ⟨hd, hke⟩ | ⟨hd, hke⟩
  case' inl =>
    have h1 := fun w0 : World => rof_any (w := w0) key hk
    rw [← hke.out] at h1
    have H1 := hid h1
    clear h1 hke
    go_enter Tryz.func63, Tryz.ntmps63
    go_wp2_with fail
    refine (H1.out _).mono ?_
    rintro e w1 ⟨rfl, f1⟩
  case' inr =>
    have h := hke.out
    subst h
    clear hke
    obtain ⟨w1, hw⟩ : ∃ w1 : World, w1 = w := ⟨w, rfl⟩
    subst hw
    have f1 : Fr [] w1 w1 := Fr.refl _ _
    go_enter Tryz.func63, Tryz.ntmps63
  all_goals
    go_wp2_with fail
    refine (Hw1.out _).mono ?_
    rintro e w2 ⟨rfl, f2⟩
    go_wp2_with fail
    refine (Hw2.out _).mono ?_
    rintro e w3 ⟨rfl, f3⟩
    have hc1 := Hs2.out
    have hc3 := Hs1.out
    go_wp2_with fail
    refine (rof_any (P2 ++ s) (by rw [ByteArray.size_append, Hs2.out]; omega)).mono ?_
    rintro e w4 ⟨rfl, f4⟩
    have hc2 := shaS_size (P2 ++ s)
    go_wp2_with fail
    refine (rof_any (P1 ++ shaS (P2 ++ s)) (by rw [ByteArray.size_append, Hs1.out, shaS_size]; decide)).mono ?_
    rintro e w5 ⟨rfl, f5⟩
    go_wp2_with fail
    go_ret
    exact ⟨rfl, (((f1.trans' f2).trans' f3).trans' f4).trans' f5⟩
end Go.Proofs.YtneoagelcjfanaaGreatDoor

/- Layer 2, mac: a text with its length; many. -/
namespace Go.Xr
open Go
set_option linter.unusedVariables false
def longL (s : ByteArray) : List UInt8 := be8 s.size ++ s.data.toList
def allL (l : List ByteArray) : List UInt8 := l.flatMap longL
theorem be8_len (n : Nat) : (be8 n).length = 8 := by simp [be8]
theorem longL_len (s : ByteArray) : (longL s).length = 8 + s.size := by rw [longL, List.length_append, be8_len, bytes_len]
theorem allL_snoc (l : List ByteArray) (i : Nat) (h : i < l.length) : allL (l.take (i + 1)) = allL (l.take i) ++ longL l[i] := by
  rw [List.take_succ_eq_append_getElem h]
  simp only [allL, List.flatMap_append, List.flatMap_cons, List.flatMap_nil, List.append_nil]
theorem allL_le (l : List ByteArray) (i : Nat) : (allL (l.take i)).length ≤ (allL l).length := by
  have : allL l = allL (l.take i) ++ allL (l.drop i) := by
    rw [allL, allL, allL, ← List.flatMap_append, List.take_append_drop]
  rw [this, List.length_append]
  omega
theorem allL_room (l : List ByteArray) (i : Nat) (h : i < l.length) : (allL (l.take i)).length + 8 + l[i].size ≤ (allL l).length := by
  have h1 := allL_le l (i + 1)
  rw [allL_snoc l i h, List.length_append, longL_len] at h1
  omega
/-- Eight bytes filled from behind. -/
def bzr (m i : Nat) : List UInt8 := List.replicate (8 - i) 0 ++ (be8 m).drop (8 - i)
theorem bzr_len (m i : Nat) : (bzr m i).length = 8 := by
  simp only [bzr, List.length_append, List.length_replicate, List.length_drop, be8_len]
  omega
theorem bzr_zero (m : Nat) : bzr m 0 = List.replicate 8 0 := by
  unfold bzr
  rw [List.drop_of_length_le (by rw [be8_len]; exact Nat.le_refl _)]
  simp
theorem bzr_full (m : Nat) : bzr m 8 = be8 m := by simp [bzr]
theorem bzr_set (m i : Nat) (h : i < 8) : (bzr m i).set (7 - i) (UInt8.ofNat (m / 2 ^ (8 * i))) = bzr m (i + 1) := by
  have h : i = 0 ∨ i = 1 ∨ i = 2 ∨ i = 3 ∨ i = 4 ∨ i = 5 ∨ i = 6 ∨ i = 7 := by omega
  rcases h with rfl | rfl | rfl | rfl | rfl | rfl | rfl | rfl <;> rfl
end Go.Xr
namespace Go.Proofs.YtneoagelcjfanaaGreatDoor
open Go Go.Xr Go.RowKit
set_option linter.unusedVariables false
set_option linter.unusedSimpArgs false

def longS (s : ByteArray) : ByteArray := ⟨(longL s).toArray⟩
def allS (l : List ByteArray) : ByteArray := ⟨(allL l).toArray⟩
theorem longS_eq (s : ByteArray) : (⟨(be8 s.size).toArray⟩ : ByteArray) ++ s = longS s := by
  apply ByteArray.ext
  apply Array.ext'
  simp [longS, longL]
theorem longS_size (s : ByteArray) : (longS s).size = 8 + s.size := by rw [longS, size_mk', longL_len]
theorem allS_size (l : List ByteArray) : (allS l).size = (allL l).length := by rw [allS, size_mk']
theorem allS_snoc (l : List ByteArray) (i : Nat) (h : i < l.length) : allS (l.take i) ++ longS l[i] = allS (l.take (i + 1)) := by
  apply ByteArray.ext
  apply Array.ext'
  simp only [allS, longS, allL_snoc l i h]
  simp

theorem shr_i64 (t : TypeId) (a c : Nat) (yk : IntKind) (h : c ≤ 64) : binOp .shr t (.int .i64 (a : Int)) (.int yk (c : Int)) = pure (.int .i64 ((a / 2 ^ c : Nat) : Int)) := by
  have hn : ¬ ((c : Int) < 0) := by omega
  simp only [binOp, Op.shift, hn, if_false, IntKind.bits, Int.toNat_natCast, Nat.min_eq_left h]
  rw [Int.fdiv_eq_ediv_of_nonneg _ (by exact Int.pow_nonneg (by decide)), Int.natCast_ediv, Int.natCast_pow]
  rfl
theorem cvi_8 (w : World) (x : Nat) : (convert 3 5 (.int .i64 (x : Int))).run Tryz.prog w = .ok (bt (UInt8.ofNat x)) w := by
  have e : Value.int .u8 (IntKind.u8.wrap (x : Int)) = bt (UInt8.ofNat x) := by
    rw [int_u8]
    refine congrArg bt (UInt8.toNat_inj.1 ?_)
    have h1 : (UInt8.ofBitVec (BitVec.ofInt 8 (x : Int))).toNat = (BitVec.ofInt 8 (x : Int)).toNat := rfl
    rw [UInt8.toNat_ofNat', h1, BitVec.toNat_ofInt]
    omega
  simp only [convert, Sem.run_bind, run_underlying Tryz.underlying3, run_underlying Tryz.underlying5, Result.andThen_ok, Conv.intToInt, e, Sem.run_pure]

set_option maxRecDepth 20000 in
theorem infC : ∃ i, Tryz.prog.info? 160 = some i ∧ i.zero = some (.agg (List.replicate 8 (bt 0)).toArray) ∧ i.size = 8 := ⟨_, rfl, rfl, rfl⟩

set_option maxRecDepth 20000 in
set_option maxHeartbeats 1000000 in
theorem long_any {w : World} (s : ByteArray) (hs : s.size < 1099511627776) : Calls Tryz.prog 84 #[.string s] w fun e w' => e = .returned (.string (longS s)) ∧ Fr [] w w' := by
  obtain ⟨iA, hiA, hzA, hsA⟩ := infC
  have Hi := hid hiA
  have Hz := hid hzA
  clear hiA hzA hsA
  have hl := longS_eq s
  obtain ⟨L, hL⟩ : ∃ L, longS s = L := ⟨_, rfl⟩
  rw [hL] at hl ⊢
  have Hl := hid hl
  clear hl hL
  go_enter Tryz.func84, Tryz.ntmps84
  go_wp2_with (refine wpList_alloc_any rfl _ rfl _ _ 8 Hi.out Hz.out rfl ?_; intro zs w2 hzl hze f2 hlt2 hb2; have Hze := hid hze; clear hzl hze; simp only [World.size_alloc, World.size_drew, Act.put, List.setIfInBounds_toArray, List.set_cons_succ, List.set_cons_zero])
  have hb2' : Blk w2 w.heap.size (bv (bzr s.size 0)) := by
    rw [bzr_zero, bv_replicate]
    rw [Hze.out] at hb2
    exact hb2
  clear hb2 Hze
  go_loopw [8] (fun iv wr => ∃ i : Nat, i ≤ 8 ∧ iv = .int .i64 i ∧ Blk wr w.heap.size (bv (bzr s.size i)) ∧ Fr [] w wr) (fun iv _ => 8 - (intOf iv).toNat)
  case atStart => exact ⟨0, by omega, rfl, hb2', f2⟩
  case round =>
    obtain ⟨i, hi, rfl, hb, f⟩ := hrel
    clear hb2' f2 hlt2
    by_cases hlt : i < 8
    · have hd1 : decide ((i : Int) < 8) = true := by simp; omega
      have hm1 : (i : Int) ≤ 7 := by omega
      have hm2 : (7 - (i : Int)).toNat = 7 - i := by omega
      have hm3 : 8 * (i : Int) ≤ 64 := by omega
      obtain ⟨X, hX⟩ : ∃ X, s.size / 2 ^ (8 * i) = X := ⟨_, rfl⟩
      have hsr : ∀ t, binOp .shr t (.int .i64 (s.size : Int)) (.int .u64 (8 * (i : Int))) = pure (.int .i64 (X : Int)) := by
        intro t
        have := shr_i64 t s.size (8 * i) .u64 (by omega)
        rw [hX] at this
        have e2 : ((8 * i : Nat) : Int) = 8 * (i : Int) := by omega
        rw [e2] at this
        exact this
      have hcv := cvi_8
      have HX := hid hX
      clear hX
      go_wp2_with (refine wpList_put rfl _ _ _ rfl rfl (bt (UInt8.ofNat X)) rfl rfl hb (by rw [bv_length, bzr_len]; omega) (by kernel_rfl) ?_; intro w3 f3 hb3 hs3; (try simp only [World.size_alloc, World.size_drew, Act.put, List.setIfInBounds_toArray, List.set_cons_succ, List.set_cons_zero]))
      rw [← bv_set, ← HX.out, bzr_set _ _ hlt] at hb3
      go_roundw
      case rel => exact ⟨i + 1, by omega, by go_num, hb3, f.trans f3 (by simp)⟩
      case measure => simp [intOf]; omega
    · have ei : i = 8 := by omega
      have hd1 : decide ((i : Int) < 8) = false := by simp; omega
      rw [ei, bzr_full] at hb
      have Hml := hid (be8_len s.size)
      have HSv := hid (show ((bv (be8 s.size)).drop 0).take (be8 s.size).length = bv (be8 s.size) by rw [List.drop_zero, ← bv_length, List.take_length])
      have hsz : (⟨(be8 s.size).toArray⟩ : ByteArray).size = 8 := by rw [size_mk', be8_len]
      clear ei
      go_wp2_with (refine wpList_string_of_bytes rfl _ _ 5 _ rfl 8 8 rfl hb (be8 s.size) Hml.out HSv.out Tryz.underlying67 Tryz.underlying5 Tryz.underlying9 ?_; (try simp only [World.size_alloc, World.size_drew, Act.put, List.setIfInBounds_toArray, List.set_cons_succ, List.set_cons_zero]))
      go_ret
      rw [← Hl.out]
      exact ⟨rfl, f⟩

set_option maxRecDepth 20000 in
set_option maxHeartbeats 1000000 in
theorem rlong_any {w : World} (s : ByteArray) (hs : s.size < 1099511627776) : Calls Tryz.prog 64 #[.string s] w fun e w' => e = .returned (.string (longS s)) ∧ Fr [] w w' := by
  obtain ⟨i28, hi28, hz28, hs28, hb28⟩ := inf5
  have Hi := hid hi28
  have Hz := hid hz28
  have Hs := hid hs28
  have Hb := hid hb28
  clear hi28 hz28 hs28 hb28
  have hl := longS_eq s
  obtain ⟨L, hL⟩ : ∃ L, longS s = L := ⟨_, rfl⟩
  rw [hL] at hl ⊢
  have Hl := hid hl
  clear hl hL
  go_enter Tryz.func64, Tryz.ntmps64
  go_wp2_with (refine wpList_make_blk rfl _ _ _ rfl 8 8 .i64 .i64 rfl rfl 5 _ _ 1 Tryz.underlying67 Hi.out Hz.out Hs.out Hb.out rfl (by omega) (by omega) (by omega) ?_; intro w1 f1 hlt1 hb1; simp only [World.size_alloc, World.size_drew, Act.put, List.setIfInBounds_toArray, List.set_cons_succ, List.set_cons_zero])
  have hb2' : Blk w1 w.heap.size (bv (bz s.size 0)) := by
    simp only [bz, List.take_zero, List.nil_append, bv_replicate]
    exact hb1
  clear hb1
  go_loopw [4] (fun iv wr => ∃ i : Nat, i ≤ 8 ∧ iv = .int .i64 i ∧ Blk wr w.heap.size (bv (bz s.size i)) ∧ Fr [] w wr) (fun iv _ => 8 - (intOf iv).toNat)
  case atStart => exact ⟨0, by omega, rfl, hb2', f1⟩
  case round =>
    obtain ⟨i, hi, rfl, hb, f⟩ := hrel
    clear hb2' f1 hlt1
    by_cases hlt : i < 8
    · have hd1 : decide ((i : Int) < 8) = true := by simp; omega
      obtain ⟨X, hX⟩ : ∃ X, s.size / 2 ^ (56 - 8 * i) = X := ⟨_, rfl⟩
      have hsr : ∀ t, binOp .shr t (.int .u64 (s.size : Int)) (.int .u64 (56 - 8 * (i : Int))) = pure (.int .u64 (X : Int)) := by
        intro t
        have := shr_nat t s.size (56 - 8 * i) .u64 (by omega)
        rw [hX] at this
        have e2 : ((56 - 8 * i : Nat) : Int) = 56 - 8 * (i : Int) := by omega
        rw [e2] at this
        exact this
      have hcv := cvn_8
      have HX := hid hX
      clear hX
      go_wp2_with (refine wpList_put rfl _ _ _ rfl rfl (bt (UInt8.ofNat X)) rfl rfl hb (by rw [bv_length, bz_len _ _ hi]; exact hlt) (by kernel_rfl) ?_; intro w3 f3 hb3 hs3; (try simp only [World.size_alloc, World.size_drew, Act.put, List.setIfInBounds_toArray, List.set_cons_succ, List.set_cons_zero]))
      rw [← bv_set, ← HX.out, bz_set _ _ hlt] at hb3
      go_roundw
      case rel => exact ⟨i + 1, by omega, by go_num, hb3, f.trans f3 (by simp)⟩
      case measure => simp [intOf]; omega
    · have ei : i = 8 := by omega
      have hd1 : decide ((i : Int) < 8) = false := by simp; omega
      rw [ei, bz_full] at hb
      have Hml := hid (be8_len s.size)
      have HSv := hid (show ((bv (be8 s.size)).drop 0).take (be8 s.size).length = bv (be8 s.size) by rw [List.drop_zero, ← bv_length, List.take_length])
      have hsz : (⟨(be8 s.size).toArray⟩ : ByteArray).size = 8 := by rw [size_mk', be8_len]
      clear ei
      go_wp2_with (refine wpList_string_of_bytes rfl _ _ 5 _ rfl 8 8 rfl hb (be8 s.size) Hml.out HSv.out Tryz.underlying67 Tryz.underlying5 Tryz.underlying9 ?_; (try simp only [World.size_alloc, World.size_drew, Act.put, List.setIfInBounds_toArray, List.set_cons_succ, List.set_cons_zero]))
      go_ret
      rw [← Hl.out]
      exact ⟨rfl, f⟩
end Go.Proofs.YtneoagelcjfanaaGreatDoor

/- Layer 2, mac: many texts' tag; sameness; what is small. -/
namespace Go.Xr
open Go
set_option linter.unusedVariables false
/-- What two texts differ in, of the first i bytes. -/
def difX (p q : List UInt8) : Nat → UInt8
  | 0 => 0
  | i + 1 => difX p q i ||| (g8 p i ^^^ g8 q i)
theorem or_zero8 (a b : UInt8) : (a ||| b = 0) ↔ (a = 0 ∧ b = 0) := by
  constructor
  · intro h
    have h1 : a.toBitVec ||| b.toBitVec = 0#8 := congrArg UInt8.toBitVec h
    rw [BitVec.or_eq_zero_iff] at h1
    exact ⟨UInt8.toBitVec_inj.1 h1.1, UInt8.toBitVec_inj.1 h1.2⟩
  · rintro ⟨rfl, rfl⟩
    rfl
theorem difX_zero (p q : List UInt8) (i : Nat) : difX p q i = 0 ↔ ∀ j, j < i → g8 p j = g8 q j := by
  induction i with
  | zero => simp [difX]
  | succ i ih =>
    rw [difX, or_zero8, ih, UInt8.xor_eq_zero_iff]
    constructor
    · rintro ⟨h1, h2⟩ j hj
      by_cases h : j < i
      · exact h1 j h
      · obtain rfl : j = i := by omega
        exact h2
    · intro h
      exact ⟨fun j hj => h j (by omega), h i (by omega)⟩
theorem difX_same (p q : List UInt8) : (difX p q (min p.length q.length) = 0 ∧ p.length = q.length) ↔ p = q := by
  rw [difX_zero]
  constructor
  · rintro ⟨h1, h2⟩
    apply List.ext_getElem h2
    intro j h3 h4
    have := h1 j (by omega)
    unfold g8 at this
    simpa [List.getD, h3, h4] using this
  · rintro rfl
    exact ⟨fun _ _ => rfl, rfl⟩
def totL (l : List ByteArray) : Nat := (l.map (·.size)).sum
theorem totL_snoc (l : List ByteArray) (i : Nat) (h : i < l.length) : totL (l.take (i + 1)) = totL (l.take i) + l[i].size := by
  rw [List.take_succ_eq_append_getElem h]
  simp only [totL, List.map_append, List.sum_append, List.map_cons, List.map_nil, List.sum_cons, List.sum_nil, Nat.add_zero]
theorem totL_bound (l : List ByteArray) (M i : Nat) (h : ∀ s ∈ l, s.size ≤ M) (hi : i ≤ l.length) : totL (l.take i) ≤ i * M := by
  induction i with
  | zero => simp [totL]
  | succ i ih =>
    rw [totL_snoc l i (by omega)]
    have h1 := ih (by omega)
    have h2 := h l[i] (List.getElem_mem (by omega))
    rw [Nat.add_mul]
    omega
theorem allL_tot (l : List ByteArray) : (allL l).length = totL l + 8 * l.length := by
  induction l with
  | nil => rfl
  | cons s l ih =>
    have e1 : allL (s :: l) = longL s ++ allL l := by simp [allL]
    have e2 : totL (s :: l) = s.size + totL l := by simp [totL]
    rw [e1, e2, List.length_append, longL_len, ih, List.length_cons]
    omega
end Go.Xr
namespace Go.Proofs.YtneoagelcjfanaaGreatDoor
open Go Go.Xr Go.RowKit
set_option linter.unusedVariables false
set_option linter.unusedSimpArgs false

/-- An element of a row of texts, read. -/
theorem rc_str {w wr : World} {la : Option Addr} {lc : Nat} {l : List ByteArray} {LB : Option Nat} (hl : Rc w 1 (.slice la l.length lc) l.length (l.map .string) LB) (f : Fr [] w wr) (i : Nat) (hi : i < l.length) :
    ∃ lb off, la = some ⟨lb, off, none⟩ ∧ lb < w.heap.size ∧ wr.cell? ⟨lb, off + i, none⟩ = some (.string l[i]) := by
  obtain ⟨lb, off, lc', hLB, hv, h1, h2, h3, h4⟩ := hl.some (by omega)
  obtain ⟨rfl, rfl⟩ : la = some ⟨lb, off, none⟩ ∧ lc = lc' := by simpa using hv
  refine ⟨lb, off, rfl, h3, ?_⟩
  rw [f.cell_old (a := ⟨lb, off + i, none⟩) h3, h4 i (by simpa using hi), List.getElem?_map, List.getElem?_eq_getElem hi]
  rfl

theorem mall_any {w : World} {v : Value} {l : List ByteArray} {LB : Option Nat} (key : ByteArray) (hk : key.size < 1099511627776) (hl : Rc w 1 v l.length (l.map .string) LB) (hsum : (allL l).length + 64 < 1099511627776) :
    Calls Tryz.prog 61 #[.string key, v] w fun e w' => e = .returned (.string (macS key (allS l))) ∧ Fr [] w w' := by
  obtain ⟨i28, hi28, hz28, hs28, hb28⟩ := inf5
  have Hi := hid hi28
  have Hz := hid hz28
  have Hs := hid hs28
  have Hb := hid hb28
  clear hi28 hz28 hs28 hb28
  obtain ⟨la, lc, rfl⟩ := hl.isSlice
  have hl8 : l.length ≤ (allL l).length := by rw [allL_tot]; omega
  have Hsum := hid hsum
  have hmac := fun w0 : World => mof_any (w := w0) key (allS l) hk (by rw [allS_size]; exact hsum)
  obtain ⟨T, hT⟩ : ∃ T, macS key (allS l) = T := ⟨_, rfl⟩
  rw [hT] at hmac ⊢
  have Hmac := hid hmac
  clear hmac hT hsum
  have hlen : l.length < 1099511627776 := by have := Hsum.out; omega
  clear hl8
  go_enter Tryz.func61, Tryz.ntmps61
  go_wp2_with fail
  go_loopw [5, 10] (fun bv0 iv wr => ∃ (i : Nat) (B : Option Nat), i ≤ l.length ∧ iv = .int .i64 i ∧ Xr.Own wr 1 bv0 (allL (l.take i)).length (bv (allL (l.take i))) B ∧ Fresh w B ∧ Fr [] w wr) (fun _ iv _ => l.length - (intOf iv).toNat)
  case atStart => exact ⟨0, none, by omega, rfl, Xr.Own.nil _ 1, Fresh.none _, Fr.refl _ _⟩
  case round =>
    obtain ⟨i, B, hi, rfl, ho, hF, f⟩ := hrel
    obtain ⟨ba, bc, rfl⟩ := ho.isSlice
    by_cases hlt : i < l.length
    · have hd1 : decide (i < l.length) = true := by simp; omega
      obtain ⟨lb, off, rfl, hlb, hcell⟩ := rc_str hl f i hlt
      have hroom := allL_room l i hlt
      have hsn := allL_snoc l i hlt
      obtain ⟨s, hs⟩ : ∃ s, l[i] = s := ⟨_, rfl⟩
      rw [hs] at hcell hroom hsn
      clear hs
      have Hsn := hid hsn
      have hss : s.size < 1099511627776 := by have := Hsum.out; omega
      have Hroom := hid hroom
      clear hsn hroom
      go_wp2_with fail
      refine (long_any s hss).mono ?_
      rintro e w2 ⟨rfl, f2⟩
      have ho2 := ho.keep f2 (by simp)
      have g2 := f.trans' f2
      clear ho f f2 hcell
      go_wp2_with (refine wpList_append_str rfl _ _ _ _ rfl 5 _ Tryz.underlying67 Tryz.underlying9 Hi.out Hz.out Hs.out Hb.out rfl ho2 (longS s) rfl (by have := Hsum.out; have := Hroom.out; rw [longS_size]; unfold maxLen; omega) (by have := Hsum.out; have := Hroom.out; rw [longS_size]; omega) ?_; intro v3 w3 B3 ho3 f3 hB3; simp only [World.size_alloc, World.size_drew, Act.put, List.setIfInBounds_toArray, List.set_cons_succ, List.set_cons_zero])
      go_roundw
      case rel =>
        refine ⟨i + 1, B3, by omega, by go_num, ?_, hF.step g2 hB3, hF.fr g2 f3⟩
        have e : bv (allL (l.take (i + 1))) = bv (allL (l.take i)) ++ bv (longS s).data.toList := by rw [Hsn.out, bv_append]; rfl
        have e2 : (allL (l.take (i + 1))).length = (allL (l.take i)).length + (longS s).size := by rw [Hsn.out, List.length_append, longS_size, longL_len]
        rw [e, e2]
        exact ho3
      case measure => simp [intOf]; omega
    · have ei : i = l.length := by omega
      have hd1 : decide (i < l.length) = false := by simp; omega
      have ho9 : Xr.Own wr 1 (.slice ba (allL (l.take i)).length bc) (allL (l.take i)).length (bv (allL l)) B := by
        have e : l.take i = l := List.take_of_length_le (by omega)
        rw [e] at ho ⊢
        exact ho
      clear ei ho
      go_wp2_with (refine wpList_string_of_own rfl _ _ 5 _ rfl rfl ho9 Tryz.underlying67 Tryz.underlying5 Tryz.underlying9 ?_; (try simp only [World.size_alloc, World.size_drew, Act.put, List.setIfInBounds_toArray, List.set_cons_succ, List.set_cons_zero]))
      refine (Hmac.out _).mono ?_
      rintro e w2 ⟨rfl, f2⟩
      go_wp2_with fail
      go_ret
      exact ⟨rfl, f.trans' f2⟩

theorem rall_any {w : World} {v : Value} {l : List ByteArray} {LB : Option Nat} (key : ByteArray) (hk : key.size < 1099511627776) (hl : Rc w 1 v l.length (l.map .string) LB) (hsum : (allL l).length + 64 < 1099511627776) :
    Calls Tryz.prog 72 #[.string key, v] w fun e w' => e = .returned (.string (macS key (allS l))) ∧ Fr [] w w' := by
  obtain ⟨la, lc, rfl⟩ := hl.isSlice
  have hl8 : l.length ≤ (allL l).length := by rw [allL_tot]; omega
  have Hsum := hid hsum
  have hmac := fun w0 : World => rmac_any (w := w0) key (allS l) hk (by rw [allS_size]; exact hsum)
  obtain ⟨T, hT⟩ : ∃ T, macS key (allS l) = T := ⟨_, rfl⟩
  rw [hT] at hmac ⊢
  have Hmac := hid hmac
  clear hmac hT hsum
  have hlen : l.length < 1099511627776 := by have := Hsum.out; omega
  clear hl8
  go_enter Tryz.func72, Tryz.ntmps72
  go_wp2_with fail
  go_loopw [5, 6] (fun sv iv wr => ∃ i : Nat, i ≤ l.length ∧ iv = .int .i64 i ∧ sv = .string (allS (l.take i)) ∧ Fr [] w wr) (fun _ iv _ => l.length - (intOf iv).toNat)
  case atStart => exact ⟨0, by omega, rfl, rfl, Fr.refl _ _⟩
  case round =>
    obtain ⟨i, hi, rfl, rfl, f⟩ := hrel
    by_cases hlt : i < l.length
    · have hd1 : decide (i < l.length) = true := by simp; omega
      obtain ⟨lb, off, rfl, hlb, hcell⟩ := rc_str hl f i hlt
      have hroom := allL_room l i hlt
      have hsn := allS_snoc l i hlt
      obtain ⟨s, hs⟩ : ∃ s, l[i] = s := ⟨_, rfl⟩
      rw [hs] at hcell hroom hsn
      clear hs
      have Hsn := hid hsn
      have hss : s.size < 1099511627776 := by have := Hsum.out; omega
      have h1 : (allS (l.take i)).size + 8 + s.size < 1099511627776 := by have := Hsum.out; rw [allS_size]; omega
      have h2 := longS_size s
      clear hsn hroom
      go_wp2_with fail
      refine (rlong_any s hss).mono ?_
      rintro e w2 ⟨rfl, f2⟩
      go_wp2_with fail
      go_roundw
      case rel => exact ⟨i + 1, by omega, by go_num, by rw [Hsn.out], f.trans' f2⟩
      case measure => simp [intOf]; omega
    · have ei : i = l.length := by omega
      have hd1 : decide (i < l.length) = false := by simp; omega
      have hm : ∀ w0 : World, Calls Tryz.prog 63 #[.string key, .string (allS (l.take i))] w0 fun e w' => e = .returned (.string T) ∧ Fr [] w0 w' := by
        have e : l.take i = l := List.take_of_length_le (by omega)
        rw [e]
        exact Hmac.out
      have Hm := hid hm
      clear ei hm
      go_wp2_with fail
      refine (Hm.out _).mono ?_
      rintro e w2 ⟨rfl, f2⟩
      go_wp2_with fail
      go_ret
      exact ⟨rfl, f.trans' f2⟩
end Go.Proofs.YtneoagelcjfanaaGreatDoor

/- Layer 2, mac: Same, Is, small. -/
namespace Go.Proofs.YtneoagelcjfanaaGreatDoor
open Go Go.Xr Go.RowKit
set_option linter.unusedVariables false
set_option linter.unusedSimpArgs false

theorem eqg_u8_c (t : TypeId) (x y : Operand) (a : UInt8) (n : Int) : eqGuard .eql t x y (bt a) (.int .u8 n) = pure () := rfl
attribute [local go_sem] xor_u8 or_u8 eql_u8_c eqg_u8_c

set_option maxRecDepth 20000 in
theorem same_any {w : World} (s t : ByteArray) (hs : s.size ≤ 9223372036854775807) (ht : t.size ≤ 9223372036854775807) : Calls Tryz.prog 96 #[.string s, .string t] w fun e w' => e = .returned (.bool (decide (s = t))) ∧ Fr [] w w' := by
  obtain ⟨p, hp⟩ : ∃ p, s.data.toList = p := ⟨_, rfl⟩
  obtain ⟨q, hq⟩ : ∃ q, t.data.toList = q := ⟨_, rfl⟩
  have hpl : p.length = s.size := by rw [← hp]; exact bytes_len s
  have hql : q.length = t.size := by rw [← hq]; exact bytes_len t
  have hst : s = t ↔ p = q := by
    constructor
    · rintro rfl; rw [← hp, ← hq]
    · intro h
      apply ByteArray.ext
      apply Array.ext'
      rw [hp, hq, h]
  have hdd : decide (s = t) = ((((difX p q (min s.size t.size)).toNat : Int) == 0) && decide ((s.size : Int) = (t.size : Int))) := by
    rw [Bool.eq_iff_iff]
    simp only [decide_eq_true_eq, Bool.and_eq_true, beq_iff_eq]
    rw [hst, ← difX_same, hpl, hql]
    constructor
    · rintro ⟨h1, h2⟩
      exact ⟨by rw [h1]; rfl, by omega⟩
    · rintro ⟨h1, h2⟩
      exact ⟨UInt8.toNat_inj.1 (by rw [show (0 : UInt8).toNat = 0 from rfl]; omega), by omega⟩
  rw [hdd]
  have Hp := hid hp
  have Hq := hid hq
  clear hdd hst hpl hql hp hq
  obtain ⟨M, hM⟩ : ∃ M, min s.size t.size = M := ⟨_, rfl⟩
  have hM1 : M ≤ s.size := by omega
  have hM2 : M ≤ t.size := by omega
  have hmm : min (s.size : Int) (t.size : Int) = (M : Int) := by omega
  rw [hM]
  have HM := hid hM
  obtain ⟨R, hR⟩ : ∃ R, ((((difX p q M).toNat : Int) == 0) && decide ((s.size : Int) = (t.size : Int))) = R := ⟨_, rfl⟩
  rw [hR]
  have HR := hid hR
  clear hM hR
  go_enter Tryz.func96, Tryz.ntmps96
  go_wp2_with fail
  go_loopw [5, 12] (fun xv iv wr => ∃ i : Nat, i ≤ M ∧ iv = .int .i64 i ∧ xv = bt (difX p q i) ∧ Fr [] w wr) (fun _ iv _ => M - (intOf iv).toNat)
  case atStart => exact ⟨0, by omega, rfl, rfl, Fr.refl _ _⟩
  case round =>
    obtain ⟨i, hi, rfl, rfl, f⟩ := hrel
    by_cases hlt : i < M
    · have hd1 : decide (i < M) = true := by simp; omega
      have hix : ∀ w0 : World, (Instr.index 9 (.string s) (.int .i64 i)).run Tryz.prog w0 = .ok (bt (g8 p i)) w0 := fun w0 => by
        have := index_str (P := Tryz.prog) w0 9 s .i64 i i Tryz.underlying9 rfl (by omega) 0
        rw [Hp.out] at this
        exact this
      have hiy : ∀ w0 : World, (Instr.index 9 (.string t) (.int .i64 i)).run Tryz.prog w0 = .ok (bt (g8 q i)) w0 := fun w0 => by
        have := index_str (P := Tryz.prog) w0 9 t .i64 i i Tryz.underlying9 rfl (by omega) 0
        rw [Hq.out] at this
        exact this
      go_wp2_with fail
      obtain ⟨ι, W, hι, hW1, hW2, hW0⟩ := family (fun w' => True) (w := wr.drew) trivial
      have HW1 := hid hW1
      have HW2 := hid hW2
      have HW0 := hid hW0
      clear hW1 hW2 hW0
      refine wp_region_X (fun w' => ∃ j, w' = W j) true (by kernel_rfl) ?_
      refine WX.pure [0, 1, 2, 3, 4, 5, 6, 7, 8, 9] (by kernel_rfl) HW0.out ?_
      simp only [pick, List.toList_toArray, List.map_cons, List.map_nil, List.getD_cons_succ, List.getD_cons_zero]
      repeat (go_big_quiet_step (fail))
      refine wpQuiet_nil ?_
      refine WX.done (by kernel_rfl) ?_
      clear HW1 HW2 HW0 hι W ι
      have f2 := f.drew
      go_wp2_with fail
      go_roundw
      case rel => exact ⟨i + 1, by omega, by go_num, rfl, f2⟩
      case measure => simp [intOf]; omega
    · have ei : i = M := by omega
      have hd1 : decide (i < M) = false := by simp; omega
      have Hdx := hid (show ((difX p q M).toNat : Int) = ((difX p q i).toNat : Int) by rw [ei])
      clear ei
      cases hz : (((difX p q i).toNat : Int) == 0)
      all_goals
        go_wp2_with fail
        go_ret
        exact ⟨by rw [← HR.out, Hdx.out, hz]; rfl, f⟩


def smallS (l : List ByteArray) : Bool := decide (totL l ≤ 8192) && decide (l.length ≤ 200)

end Go.Proofs.YtneoagelcjfanaaGreatDoor

/- Layer 2, mac: keys from keys. -/
namespace Go.Xr
open Go Go.RowKit
set_option linter.unusedVariables false
section
variable {P : Program} {ops : Array Oper} {Q : Exit → Act → World → Prop} {a : Act} {w : World} {K : Act → World → Prop} {rest : List Oper} {o : Oper}
/-- 's[:h]' of a slice of its own, nil too. -/
theorem wpList_slice_h_own (hg : o.guard = none) (t : TypeId) (x hi : Operand) (ho : o.op = .slice t x none (some hi) none) {v : Value} {n : Nat} {xs : List Value} {B : Option Nat} (hx : a.eval x = v) (hv : Xr.Own w 1 v n xs B) (kh : IntKind) (hi' : Int) (h : Nat) (hhi : a.eval hi = .int kh hi') (hh : hi' = h)
    (h1 : h ≤ n) (e : TypeId) (ht : P.underlying t = some (.slice e)) (hs : (P.info? e).map (·.size) = some 1)
    (hK : ∀ v', Xr.Own w 1 v' h (xs.take h) B → wpList P ops Q rest (a.put o.dst v') w) : wpList P ops Q (o :: rest) a w := by
  refine wpList_plain hg fun K hk => ?_
  subst hh
  cases hq : P.info? e with
  | none => simp [hq] at hs
  | some i =>
    have hs1 : i.size = 1 := by simpa [hq] using hs
    have he := elem_of ht
    have hsz : (sizeOf (P.elem t)).run P w = .ok 1 w := by rw [he]; simp [sizeOf, typeInfo, hq, hs1]
    have main : ∀ (ad : Option Addr) (c : Nat), v = .slice ad n c → n ≤ c → Xr.Own w 1 (sliced ad 0 h c 1) h (xs.take h) B → o.wp P a w K Q := by
      intro ad c hv0 hc hO
      subst hv0
      have hr1 := run_sliceAt_slice (P := P) w t (.slice ad n c) none (some (.int kh h)) none (by rw [he]; exact ht)
      have hr2 := run_slice_h (P := P) w t ad n c (by rw [he]; exact ht) kh h (by omega) (by omega)
      have hr : (Instr.sliceAt t (.slice ad n c) none (some (.int kh h)) none).run P w = .ok (sliced ad 0 h c 1) w := by
        rw [hr1, hr2, hsz]
        simp only [Result.andThen_ok, Int.toNat_natCast]
      unfold Oper.wp execOp
      simp only [ho, Option.map_some, Option.map_none, hx, hhi, Sem.run_bind, hr, Result.andThen_ok, Sem.run_pure]
      exact hk _ _ (hK _ hO)
    have hl : xs.length = n := by have := hv.1; omega
    have htl : (xs.take h).length = h * 1 := by rw [List.length_take]; omega
    rcases hv.2 with ⟨hv1, h0, h3⟩ | ⟨b, cap, cs, hB, hv1, hc1, hc2, hb, hcl, hct⟩
    · obtain rfl : h = 0 := by omega
      subst h3
      refine main none 0 (by rw [hv1, h0]) (by omega) ⟨htl, .inl ⟨?_, rfl, rfl⟩⟩
      rfl
    · subst hB
      refine main _ _ hv1 hc1 ⟨htl, .inr ⟨b, cap, cs, rfl, ?_, by omega, hc2, hb, hcl, ?_⟩⟩
      · unfold sliced Addr.add
        by_cases h0 : cap = 0 <;> simp [h0]
      · rw [← hct, List.take_take]
        congr 1
        omega

/-- A slice literal of one-cell elements: of the world no more is told. -/
theorem wpList_buildSlice_any (hg : o.guard = none) (t : TypeId) (n : Nat) (ps : Array (Nat × Operand)) (ho : o.op = .buildSlice t n ps) (e : TypeId) (hu : P.underlying t = some (.slice e)) (i : TypeInfo) (z : Value) (hi : P.info? e = some i) (hz : i.zero = some z) (hzs : z.cells.size = 1)
    (hs : i.size = 1) (hn : n ≤ 16777216) (hn0 : 0 < n) (hidx : ps.toList.map (·.1) = List.range n) (vs : List Value) (hvs : ps.toList.map (fun p => a.eval p.2) = vs) (h1 : ∀ v ∈ vs, v.oneCell' = true)
    (h : ∀ w', Fr [] w w' → w.heap.size < w'.heap.size → Blk w' w.heap.size vs → wpList P ops Q rest (a.put o.dst (.slice (some ⟨w.heap.size, 0, none⟩) n n)) w') : wpList P ops Q (o :: rest) a w :=
  wpList_buildSlice_ones hg t n ps ho e hu i z hi hz hzs hs hn hn0 hidx vs hvs h1 fun hb => h _ ((Fr.refl [] w).alloc _) (by simp) hb
end
/-- A block's row as an argument. -/
theorem rc_of_blk {w : World} {b n : Nat} {xs : List Value} (hb : Blk w b xs) (hn : xs.length = n) (hm : n ≤ maxLen) : Rc w 1 (.slice (some ⟨b, 0, none⟩) n n) n xs (some b) := by
  refine ⟨by omega, fun c hc => by cases hc; exact hb.lt, _, _, rfl, Nat.le_refl _, hm, fun _ => ⟨b, 0, rfl, rfl, fun j hj => ?_⟩⟩
  rw [hb.cell, Nat.zero_add]
end Go.Xr
namespace Go.Proofs.YtneoagelcjfanaaGreatDoor
open Go Go.Xr Go.RowKit
set_option linter.unusedVariables false
set_option linter.unusedSimpArgs false

/-- What is derived after j rounds: all of it, and the last tag. -/
def derT (key label : ByteArray) : Nat → ByteArray × ByteArray
  | 0 => (⟨#[]⟩, ⟨#[]⟩)
  | j + 1 => ((derT key label j).1 ++ macS key ((derT key label j).2 ++ label ++ ⟨#[UInt8.ofNat (j + 1)]⟩), macS key ((derT key label j).2 ++ label ++ ⟨#[UInt8.ofNat (j + 1)]⟩))
theorem derT_len (key label : ByteArray) (j : Nat) : (derT key label j).1.size = 32 * j := by
  induction j with
  | zero => rfl
  | succ j ih =>
    show ((derT key label j).1 ++ _).size = _
    rw [ByteArray.size_append, ih, macS_size]
    omega
theorem derT_last (key label : ByteArray) (j : Nat) : (derT key label j).2.size ≤ 32 := by
  cases j with
  | zero => exact Nat.zero_le _
  | succ j => exact Nat.le_of_eq (macS_size _ _)
def derS (key label : ByteArray) (m : Nat) : ByteArray := (derT key label ((m + 31) / 32)).1.extract 0 m
theorem ext_eq (s : ByteArray) (m : Nat) : (⟨(s.data.toList.take m).toArray⟩ : ByteArray) = s.extract 0 m := by
  apply ByteArray.ext
  apply Array.ext'
  simp

set_option maxRecDepth 20000 in
theorem inf9 : ∃ i, Tryz.prog.info? 9 = some i ∧ i.zero = some (.string ⟨#[]⟩) ∧ i.size = 1 := ⟨_, rfl, rfl, rfl⟩

attribute [local go_sem] add_u8_c

set_option maxRecDepth 20000 in
set_option maxHeartbeats 1000000 in
theorem rder_any {w : World} (key label : ByteArray) (hk : key.size < 1099511627776) (hs : label.size + 128 < 1099511627776) (m : Nat) (hm : m ≤ 8160) : Calls Tryz.prog 44 #[.string key, .string label, .int .i64 m] w fun e w' => e = .returned (.tuple #[.string (derS key label m), .int .i64 0]) ∧ Fr [] w w' := by
  obtain ⟨i28, hi28, hz28, hs28, hb28⟩ := inf5
  have Hi := hid hi28
  have Hz := hid hz28
  have Hs := hid hs28
  have Hb := hid hb28
  clear hi28 hz28 hs28 hb28
  obtain ⟨R, hR⟩ : ∃ R, (m + 31) / 32 = R := ⟨_, rfl⟩
  unfold derS
  rw [hR]
  have hr1 : m ≤ 32 * R := by omega
  have hr2 : 32 * R < m + 32 := by omega
  clear hR
  go_enter Tryz.func44, Tryz.ntmps44
  go_wp2_with fail
  go_loopg [8, 9, 10] R (fun g sv lv cv wr => ∃ j : Nat, j + g = R ∧ sv = .string (derT key label j).1 ∧ lv = .string (derT key label j).2 ∧ cv = .int .i64 ((j + 1 : Nat) : Int) ∧ Fr [] w wr)
  case atStart => exact ⟨0, by omega, rfl, rfl, rfl, Fr.refl _ _⟩
  case round =>
    obtain ⟨j, hj, rfl, rfl, rfl, f⟩ := hrel
    obtain ⟨G, rfl⟩ : ∃ G, G = gk := ⟨_, rfl⟩
    have hl1 := derT_len key label j
    have hl2 := derT_last key label j
    have Hsu := hid (show derT key label (j + 1) = ((derT key label j).1 ++ macS key ((derT key label j).2 ++ label ++ ⟨#[UInt8.ofNat (j + 1)]⟩), macS key ((derT key label j).2 ++ label ++ ⟨#[UInt8.ofNat (j + 1)]⟩)) from rfl)
    cases G with
    | succ G =>
      generalize derT key label j = D at *
      have hd1 : decide (D.1.size < m) = true := by simp; omega
      have Hc := hid (show Value.int .u8 ((j : Int) + 1) = bt (UInt8.ofNat (j + 1)) by
        have e : (UInt8.ofNat (j + 1)).toNat = j + 1 := by rw [UInt8.toNat_ofNat']; omega
        rw [val_u8, e]
        rfl)
      obtain ⟨C, hC⟩ : ∃ C : UInt8, UInt8.ofNat (j + 1) = C := ⟨_, rfl⟩
      rw [hC] at Hc Hsu
      obtain ⟨T, hT⟩ : ∃ T : ByteArray, D.2 ++ label ++ ⟨#[C]⟩ = T := ⟨_, rfl⟩
      have hTs : T.size + 64 < 1099511627776 := by
        rw [← hT, ByteArray.size_append, ByteArray.size_append]
        have : (⟨#[C]⟩ : ByteArray).size = 1 := rfl
        omega
      have hm1 := fun w0 : World => rmac_any (w := w0) key T hk hTs
      rw [hT] at Hsu
      have hms := macS_size key T
      have HT := hid hT
      generalize macS key T = M at *
      have Hm1 := hid hm1
      have H1s : (⟨#[C]⟩ : ByteArray).size = 1 := rfl
      clear hC hT hm1
      go_wp2_with (first
        | (refine wpList_buildSlice_any rfl _ 1 _ rfl 5 Tryz.underlying67 _ _ Hi.out Hz.out rfl Hs.out (by decide) (by decide) rfl (bv [C]) (by show [Value.int .u8 ((j : Int) + 1)] = _; rw [Hc.out]; rfl) (bv_one _) ?_; intro w2 f2 hlt2 hb2; simp only [World.size_alloc, World.size_drew, Act.put, List.setIfInBounds_toArray, List.set_cons_succ, List.set_cons_zero])
        | (refine wpList_string_of_bytes rfl _ _ 5 _ rfl 1 1 rfl hb2 [C] rfl rfl Tryz.underlying67 Tryz.underlying5 Tryz.underlying9 ?_; simp only [World.size_alloc, World.size_drew, Act.put, List.setIfInBounds_toArray, List.set_cons_succ, List.set_cons_zero]))
      rw [HT.out]
      refine (Hm1.out _).mono ?_
      rintro e w3 ⟨rfl, f3⟩
      go_wp2_with fail
      go_roundg G
      case rel => exact ⟨j + 1, by omega, by rw [Hsu.out], by rw [Hsu.out], by go_num, (f.trans' f2).trans' f3⟩
      case measure => omega
    | zero =>
      obtain rfl : j = R := by omega
      obtain ⟨D, hD⟩ : ∃ D, derT key label j = D := ⟨_, rfl⟩
      rw [hD] at hl1 hl2 ⊢
      have HD := hid hD
      clear hD
      have hd1 : decide (D.1.size < m) = false := by simp; omega
      go_wp2_with fail
      go_ret2
      rw [HD.out]
      exact ⟨rfl, f⟩

set_option maxRecDepth 20000 in
set_option maxHeartbeats 1000000 in
theorem mder_any {w : World} (key label : ByteArray) (hk : key.size < 1099511627776) (hs : label.size + 128 < 1099511627776) (m : Nat) (hm : m ≤ 8160) : Calls Tryz.prog 41 #[.string key, .string label, .int .i64 m] w fun e w' => e = .returned (.tuple #[.string (derS key label m), .int .i64 0]) ∧ Fr [] w w' := by
  obtain ⟨i28, hi28, hz28, hs28, hb28⟩ := inf5
  have Hi := hid hi28
  have Hz := hid hz28
  have Hs := hid hs28
  have Hb := hid hb28
  have H5 := hid (show (Tryz.prog.info? 5).map (·.size) = some 1 by kernel_rfl)
  clear hi28 hz28 hs28 hb28
  obtain ⟨R, hR⟩ : ∃ R, (m + 31) / 32 = R := ⟨_, rfl⟩
  unfold derS
  rw [hR]
  have hr1 : m ≤ 32 * R := by omega
  have hr2 : 32 * R < m + 32 := by omega
  clear hR
  go_enter Tryz.func41, Tryz.ntmps41
  go_wp2_with fail
  go_loopg [8, 9, 10] R (fun g sv lv cv wr => ∃ (j : Nat) (B : Option Nat), j + g = R ∧ Xr.Own wr 1 sv (32 * j) (bv (derT key label j).1.data.toList) B ∧ lv = .string (derT key label j).2 ∧ cv = bt (UInt8.ofNat (j + 1)) ∧ Fresh w B ∧ Fr [] w wr)
  case atStart => exact ⟨0, none, by omega, Xr.Own.nil _ 1, rfl, rfl, Fresh.none _, Fr.refl _ _⟩
  case round =>
    obtain ⟨j, B, hj, ho, rfl, rfl, hF, f⟩ := hrel
    obtain ⟨G, rfl⟩ : ∃ G, G = gk := ⟨_, rfl⟩
    obtain ⟨ba, bc, rfl⟩ := ho.isSlice
    have hl1 := derT_len key label j
    have hl2 := derT_last key label j
    have Hsu := hid (show derT key label (j + 1) = ((derT key label j).1 ++ macS key ((derT key label j).2 ++ label ++ ⟨#[UInt8.ofNat (j + 1)]⟩), macS key ((derT key label j).2 ++ label ++ ⟨#[UInt8.ofNat (j + 1)]⟩)) from rfl)
    have Hc := hid (show UInt8.ofNat (j + 1) + c8 1 = UInt8.ofNat (j + 1 + 1) from (UInt8.ofNat_add (j + 1) 1).symm)
    obtain ⟨C, hC⟩ : ∃ C : UInt8, UInt8.ofNat (j + 1) = C := ⟨_, rfl⟩
    rw [hC] at Hc Hsu ⊢
    clear hC
    cases G with
    | succ G =>
      generalize derT key label j = D at *
      have hd1 : decide (32 * j < m) = true := by simp; omega
      obtain ⟨T, hT⟩ : ∃ T : ByteArray, D.2 ++ label ++ ⟨#[C]⟩ = T := ⟨_, rfl⟩
      have hTs : T.size + 64 < 1099511627776 := by
        rw [← hT, ByteArray.size_append, ByteArray.size_append]
        have : (⟨#[C]⟩ : ByteArray).size = 1 := rfl
        omega
      have hm1 := fun w0 : World => mof_any (w := w0) key T hk hTs
      rw [hT] at Hsu
      have hms := macS_size key T
      have HT := hid hT
      generalize macS key T = M at *
      have Hm1 := hid hm1
      have H1s : (⟨#[C]⟩ : ByteArray).size = 1 := rfl
      clear hT hm1
      go_wp2_with (first
        | (refine wpList_buildSlice_any rfl _ 1 _ rfl 5 Tryz.underlying67 _ _ Hi.out Hz.out rfl Hs.out (by decide) (by decide) rfl (bv [C]) rfl (bv_one _) ?_; intro w2 f2 hlt2 hb2; simp only [World.size_alloc, World.size_drew, Act.put, List.setIfInBounds_toArray, List.set_cons_succ, List.set_cons_zero])
        | (refine wpList_string_of_bytes rfl _ _ 5 _ rfl 1 1 rfl hb2 [C] rfl rfl Tryz.underlying67 Tryz.underlying5 Tryz.underlying9 ?_; simp only [World.size_alloc, World.size_drew, Act.put, List.setIfInBounds_toArray, List.set_cons_succ, List.set_cons_zero]))
      rw [HT.out]
      refine (Hm1.out _).mono ?_
      rintro e w3 ⟨rfl, f3⟩
      have ho3 := (ho.keep f2 (by simp)).keep f3 (by simp)
      have g3 := (f.trans' f2).trans' f3
      clear ho f f2 f3 hb2
      go_wp2_with (refine wpList_append_str rfl _ _ _ _ rfl 5 _ Tryz.underlying67 Tryz.underlying9 Hi.out Hz.out Hs.out Hb.out rfl ho3 M rfl (by unfold maxLen; omega) (by omega) ?_; intro v4 w4 B4 ho4 f4 hB4; simp only [World.size_alloc, World.size_drew, Act.put, List.setIfInBounds_toArray, List.set_cons_succ, List.set_cons_zero])
      go_roundg G
      case rel =>
        refine ⟨j + 1, B4, by omega, ?_, by rw [Hsu.out], by rw [Hc.out], hF.step g3 hB4, hF.fr g3 f4⟩
        have e : bv (derT key label (j + 1)).1.data.toList = bv D.1.data.toList ++ bv M.data.toList := by
          rw [Hsu.out, ← bv_append]
          simp
        rw [e, show 32 * (j + 1) = 32 * j + M.size by omega]
        exact ho4
      case measure => omega
    | zero =>
      obtain rfl : j = R := by omega
      obtain ⟨D, hD⟩ : ∃ D, derT key label j = D := ⟨_, rfl⟩
      rw [hD] at hl1 hl2 ho ⊢
      have HD := hid hD
      clear hD
      have hd1 : decide (32 * j < m) = false := by simp; omega
      go_wp2_with (first
        | (refine wpList_slice_h_own rfl _ _ _ rfl rfl ho .i64 m m rfl rfl hr1 5 Tryz.underlying67 H5.out ?_; intro v5 ho5; rw [bv_take] at ho5; simp only [World.size_alloc, World.size_drew, Act.put, List.setIfInBounds_toArray, List.set_cons_succ, List.set_cons_zero])
        | (refine wpList_string_of_own rfl _ _ 5 _ rfl rfl ho5 Tryz.underlying67 Tryz.underlying5 Tryz.underlying9 ?_; (try simp only [World.size_alloc, World.size_drew, Act.put, List.setIfInBounds_toArray, List.set_cons_succ, List.set_cons_zero])))
      go_ret2
      rw [HD.out, ← ext_eq]
      exact ⟨rfl, f⟩
end Go.Proofs.YtneoagelcjfanaaGreatDoor

/- Layer 2, mac: trees of keys; what stands fixed. -/
namespace Go.Proofs.YtneoagelcjfanaaGreatDoor
open Go Go.Xr Go.RowKit
set_option linter.unusedVariables false
set_option linter.unusedSimpArgs false

theorem mder_bad {w : World} (key label : ByteArray) (n : Int) (hn : n < 0 ∨ n > 8160) : Calls Tryz.prog 41 #[.string key, .string label, .int .i64 n] w fun e w' => e = .returned (.tuple #[.string ⟨#[]⟩, .int .i64 2]) ∧ w = w' := by
  have hc : decide (n < 0) = true ∨ (decide (n < 0) = false ∧ decide (8160 < n) = true) := by
    by_cases h : n < 0
    · exact .inl (by simp; omega)
    · exact .inr ⟨by simp; omega, by simp; omega⟩
  clear hn
  rcases hc with h1 | ⟨h1, h2⟩
  all_goals
    go_enter Tryz.func41, Tryz.ntmps41
    go_wp2_with fail
    go_ret2
    exact ⟨rfl, rfl⟩
theorem rder_bad {w : World} (key label : ByteArray) (n : Int) (hn : n < 0 ∨ n > 8160) : Calls Tryz.prog 44 #[.string key, .string label, .int .i64 n] w fun e w' => e = .returned (.tuple #[.string ⟨#[]⟩, .int .i64 2]) ∧ w = w' := by
  have hc : decide (n < 0) = true ∨ (decide (n < 0) = false ∧ decide (8160 < n) = true) := by
    by_cases h : n < 0
    · exact .inl (by simp; omega)
    · exact .inr ⟨by simp; omega, by simp; omega⟩
  clear hn
  rcases hc with h1 | ⟨h1, h2⟩
  all_goals
    go_enter Tryz.func44, Tryz.ntmps44
    go_wp2_with fail
    go_ret2
    exact ⟨rfl, rfl⟩

theorem allS_one (s : ByteArray) : allS [s] = longS s := by
  unfold allS longS allL
  simp
def treeS (key : ByteArray) (l : List ByteArray) : ByteArray := l.foldl (fun k s => macS k (longS s)) key
theorem treeS_snoc (key : ByteArray) (l : List ByteArray) (i : Nat) (h : i < l.length) : treeS key (l.take (i + 1)) = macS (treeS key (l.take i)) (longS l[i]) := by
  unfold treeS
  rw [List.take_succ_eq_append_getElem h, List.foldl_append]
  rfl
theorem treeS_size (key : ByteArray) (l : List ByteArray) (hk : key.size < 1099511627776) : (treeS key l).size < 1099511627776 := by
  induction l generalizing key with
  | nil => exact hk
  | cons s l ih => exact ih (macS key (longS s)) (by rw [macS_size]; decide)

set_option maxRecDepth 20000 in
theorem rtree_any {w : World} {v : Value} {l : List ByteArray} {LB : Option Nat} (key : ByteArray) (hk : key.size < 1099511627776) (hl : Rc w 1 v l.length (l.map .string) LB) (hm : l.length ≤ 9223372036854775807) (hs : ∀ s ∈ l, s.size < 1099511627000) :
    Calls Tryz.prog 43 #[.string key, v] w fun e w' => e = .returned (.string (treeS key l)) ∧ Fr [] w w' := by
  obtain ⟨la, lc, rfl⟩ := hl.isSlice
  obtain ⟨T, hT⟩ : ∃ T, treeS key l = T := ⟨_, rfl⟩
  rw [hT]
  have HT := hid hT
  have Hs := hid hs
  clear hT hs
  go_enter Tryz.func43, Tryz.ntmps43
  go_wp2_with fail
  go_loopw [0, 5] (fun kv iv wr => ∃ i : Nat, i ≤ l.length ∧ iv = .int .i64 i ∧ kv = .string (treeS key (l.take i)) ∧ Fr [] w wr) (fun _ iv _ => l.length - (intOf iv).toNat)
  case atStart => exact ⟨0, by omega, rfl, rfl, Fr.refl _ _⟩
  case round =>
    obtain ⟨i, hi, rfl, rfl, f⟩ := hrel
    by_cases hlt : i < l.length
    · have hd1 : decide (i < l.length) = true := by simp; omega
      obtain ⟨lb, off, rfl, hlb, hcell⟩ := rc_str hl f i hlt
      have hsn := treeS_snoc key l i hlt
      have hss := Hs.out _ (List.getElem_mem hlt)
      have hks := treeS_size key (l.take i) hk
      obtain ⟨s, hs⟩ : ∃ s, l[i] = s := ⟨_, rfl⟩
      rw [hs] at hcell hsn hss
      clear hs
      have Hsn := hid hsn
      have hls := longS_size s
      clear hsn
      go_wp2_with fail
      refine (rlong_any s (by omega)).mono ?_
      rintro e w2 ⟨rfl, f2⟩
      go_wp2_with fail
      refine (rmac_any (treeS key (l.take i)) (longS s) hks (by omega)).mono ?_
      rintro e w3 ⟨rfl, f3⟩
      go_wp2_with fail
      go_roundw
      case rel => exact ⟨i + 1, by omega, by go_num, by rw [Hsn.out], (f.trans' f2).trans' f3⟩
      case measure => simp [intOf]; omega
    · have ei : i = l.length := by omega
      have hd1 : decide (i < l.length) = false := by simp; omega
      have He := hid (show treeS key (l.take i) = T by rw [List.take_of_length_le (by omega), HT.out])
      clear ei
      go_wp2_with fail
      go_ret
      rw [He.out]
      exact ⟨rfl, f⟩

set_option maxRecDepth 20000 in
theorem mtree_any {w : World} {v : Value} {l : List ByteArray} {LB : Option Nat} (key : ByteArray) (hk : key.size < 1099511627776) (hl : Rc w 1 v l.length (l.map .string) LB) (hm : l.length ≤ 9223372036854775807) (hs : ∀ s ∈ l, s.size < 1099511627000) :
    Calls Tryz.prog 40 #[.string key, v] w fun e w' => e = .returned (.string (treeS key l)) ∧ Fr [] w w' := by
  obtain ⟨i9, hi9, hz9, hs9⟩ := inf9
  have Hi := hid hi9
  have Hz := hid hz9
  have Hs9 := hid hs9
  clear hi9 hz9 hs9
  obtain ⟨la, lc, rfl⟩ := hl.isSlice
  obtain ⟨T, hT⟩ : ∃ T, treeS key l = T := ⟨_, rfl⟩
  rw [hT]
  have HT := hid hT
  have Hs := hid hs
  clear hT hs
  go_enter Tryz.func40, Tryz.ntmps40
  go_wp2_with fail
  go_loopw [0, 9] (fun kv iv wr => ∃ i : Nat, i ≤ l.length ∧ iv = .int .i64 i ∧ kv = .string (treeS key (l.take i)) ∧ Fr [] w wr) (fun _ iv _ => l.length - (intOf iv).toNat)
  case atStart => exact ⟨0, by omega, rfl, rfl, Fr.refl _ _⟩
  case round =>
    obtain ⟨i, hi, rfl, rfl, f⟩ := hrel
    by_cases hlt : i < l.length
    · have hd1 : decide (i < l.length) = true := by simp; omega
      obtain ⟨lb, off, rfl, hlb, hcell⟩ := rc_str hl f i hlt
      have hsn := treeS_snoc key l i hlt
      have hss := Hs.out _ (List.getElem_mem hlt)
      have hks := treeS_size key (l.take i) hk
      obtain ⟨s, hs⟩ : ∃ s, l[i] = s := ⟨_, rfl⟩
      rw [hs] at hcell hsn hss
      clear hs
      rw [← allS_one] at hsn
      have Hsn := hid hsn
      clear hsn
      go_wp2_with (refine wpList_buildSlice_any rfl _ 1 _ rfl 9 Tryz.underlying23 _ _ Hi.out Hz.out rfl Hs9.out (by decide) (by decide) rfl [.string s] rfl (by simp [Value.oneCell']) ?_; intro w2 f2 hlt2 hb2; simp only [World.size_alloc, World.size_drew, Act.put, List.setIfInBounds_toArray, List.set_cons_succ, List.set_cons_zero])
      refine (mall_any (l := [s]) (treeS key (l.take i)) hks (rc_of_blk hb2 rfl (by simp [maxLen])) (by simp [allL, longL_len]; omega)).mono ?_
      rintro e w3 ⟨rfl, f3⟩
      go_wp2_with fail
      go_roundw
      case rel => exact ⟨i + 1, by omega, by go_num, by rw [Hsn.out], (f.trans' f2).trans' f3⟩
      case measure => simp [intOf]; omega
    · have ei : i = l.length := by omega
      have hd1 : decide (i < l.length) = false := by simp; omega
      have He := hid (show treeS key (l.take i) = T by rw [List.take_of_length_le (by omega), HT.out])
      clear ei
      go_wp2_with fail
      go_ret
      rw [He.out]
      exact ⟨rfl, f⟩

def jefe : ByteArray := ⟨#[74, 101, 102, 101]⟩
def what : ByteArray := ⟨#[119, 104, 97, 116, 32, 100, 111, 32, 121, 97, 32, 119, 97, 110, 116, 32, 102, 111, 114, 32, 110, 111, 116, 104, 105, 110, 103, 63]⟩
def known : ByteArray := ⟨#[53, 98, 100, 99, 99, 49, 52, 54, 98, 102, 54, 48, 55, 53, 52, 101, 54, 97, 48, 52, 50, 52, 50, 54, 48, 56, 57, 53, 55, 53, 99, 55, 53, 97, 48, 48, 51, 102, 48, 56, 57, 100, 50, 55, 51, 57, 56, 51, 57, 100, 101, 99, 53, 56, 98, 57, 54, 52, 101, 99, 51, 56, 52, 51]⟩
theorem macS_list (key s : ByteArray) (h : key.size ≤ 64) : (macS key s).data.toList = shaL (padX key.data.toList (c8 92) ++ shaL (padX key.data.toList (c8 54) ++ s.data.toList)) := by
  unfold macS shaS
  rw [show keyS key = key by unfold keyS; rw [if_neg (by omega)]]
  simp
theorem hex_known : hexS (macS jefe what) = known := by
  have e : hexL (shaL (padX [74, 101, 102, 101] (c8 92) ++ shaL (padX [74, 101, 102, 101] (c8 54) ++ [119, 104, 97, 116, 32, 100, 111, 32, 121, 97, 32, 119, 97, 110, 116, 32, 102, 111, 114, 32, 110, 111, 116, 104, 105, 110, 103, 63]))) = [53, 98, 100, 99, 99, 49, 52, 54, 98, 102, 54, 48, 55, 53, 52, 101, 54, 97, 48, 52, 50, 52, 50, 54, 48, 56, 57, 53, 55, 53, 99, 55, 53, 97, 48, 48, 51, 102, 48, 56, 57, 100, 50, 55, 51, 57, 56, 51, 57, 100, 101, 99, 53, 56, 98, 57, 54, 52, 101, 99, 51, 56, 52, 51] := by decide +kernel
  unfold hexS
  rw [macS_list jefe what (by decide)]
  show (⟨(hexL (shaL (padX [74, 101, 102, 101] (c8 92) ++ shaL (padX [74, 101, 102, 101] (c8 54) ++ [119, 104, 97, 116, 32, 100, 111, 32, 121, 97, 32, 119, 97, 110, 116, 32, 102, 111, 114, 32, 110, 111, 116, 104, 105, 110, 103, 63])))).toArray⟩ : ByteArray) = _
  rw [e]
  rfl

end Go.Proofs.YtneoagelcjfanaaGreatDoor
