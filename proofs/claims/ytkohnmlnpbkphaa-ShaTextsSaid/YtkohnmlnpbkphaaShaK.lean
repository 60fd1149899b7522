/- Layer 1, sha: digits read. -/
import Derived.Test.YtkohnmlnpbkphaaShaI
namespace Go.Xr
open Go
set_option linter.unusedVariables false
def dg1 (c : UInt8) : Bool := decide (48 ≤ c.toNat) && decide (c.toNat ≤ 57)
def dg2 (c : UInt8) : Bool := decide (97 ≤ c.toNat) && decide (c.toNat ≤ 102)
def dok (c : UInt8) : Bool := dg1 c || dg2 c
/-- A digit's value. -/
def dv (c : UInt8) : UInt8 := if dg1 c then c - c8 48 else if dg2 c then c - c8 97 + c8 10 else 0
def nib (p : List UInt8) (m : Nat) : Nat → UInt8
  | 0 => 0
  | k + 1 => shl8 (nib p m k) 4 ||| dv (g8 p (2 * m + k))
def nibL (p : List UInt8) (i : Nat) : List UInt8 := (List.range i).map fun m => nib p m 2
/-- After i digits. -/
def nibM (p : List UInt8) (i : Nat) : List UInt8 := if i % 2 = 0 then nibL p (i / 2) ++ List.replicate (32 - i / 2) 0 else nibL p (i / 2) ++ nib p (i / 2) 1 :: List.replicate (31 - i / 2) 0
theorem nibL_len (p : List UInt8) (i : Nat) : (nibL p i).length = i := by simp [nibL]
theorem nibL_succ (p : List UInt8) (i : Nat) : nibL p (i + 1) = nibL p i ++ [nib p i 2] := by simp [nibL, List.range_succ]
theorem nibM_len (p : List UInt8) (i : Nat) (h : i ≤ 64) : (nibM p i).length = 32 := by
  unfold nibM
  split
  · rw [List.length_append, nibL_len, List.length_replicate]; omega
  · rw [List.length_append, nibL_len, List.length_cons, List.length_replicate]; omega
theorem nibM_get (p : List UInt8) (i : Nat) (h : i < 64) : g8 (nibM p i) (i / 2) = nib p (i / 2) (i % 2) := by
  unfold nibM g8
  split
  · rename_i h0
    rw [List.getD_eq_getElem?_getD, List.getElem?_append_right (by rw [nibL_len]; exact Nat.le_refl _), nibL_len, Nat.sub_self, h0, List.getElem?_replicate_of_lt (by omega)]
    rfl
  · rename_i h0
    rw [List.getD_eq_getElem?_getD, List.getElem?_append_right (by rw [nibL_len]; exact Nat.le_refl _), nibL_len, Nat.sub_self, show i % 2 = 1 by omega]
    rfl
theorem nibM_set (p : List UInt8) (i : Nat) (h : i < 64) : (nibM p i).set (i / 2) (shl8 (nib p (i / 2) (i % 2)) 4 ||| dv (g8 p i)) = nibM p (i + 1) := by
  by_cases h0 : i % 2 = 0
  · have e : nibM p i = nibL p (i / 2) ++ List.replicate (32 - i / 2) 0 := by unfold nibM; rw [if_pos h0]
    have e2 : nibM p (i + 1) = nibL p (i / 2) ++ nib p (i / 2) 1 :: List.replicate (31 - i / 2) 0 := by
      unfold nibM
      rw [if_neg (by omega), show (i + 1) / 2 = i / 2 by omega]
    rw [e, e2, List.set_append_right _ _ (by rw [nibL_len]; exact Nat.le_refl _), nibL_len, Nat.sub_self, h0, show 32 - i / 2 = (31 - i / 2) + 1 by omega, List.replicate_succ, List.set_cons_zero]
    have e3 : nib p (i / 2) 1 = shl8 0 4 ||| dv (g8 p i) := by
      rw [show (1 : Nat) = 0 + 1 from rfl, nib, nib, show (0 + 1 + 1) * (i / 2) + 0 = i by omega]
    rw [e3]
    rfl
  · have e : nibM p i = nibL p (i / 2) ++ nib p (i / 2) 1 :: List.replicate (31 - i / 2) 0 := by unfold nibM; rw [if_neg h0]
    have e2 : nibM p (i + 1) = nibL p (i / 2 + 1) ++ List.replicate (31 - i / 2) 0 := by
      unfold nibM
      rw [if_pos (by omega), show (i + 1) / 2 = i / 2 + 1 by omega, show 32 - (i / 2 + 1) = 31 - i / 2 by omega]
    rw [e, e2, List.set_append_right _ _ (by rw [nibL_len]; exact Nat.le_refl _), nibL_len, Nat.sub_self, List.set_cons_zero, nibL_succ, List.append_assoc, show i % 2 = 1 by omega]
    have e3 : nib p (i / 2) 2 = shl8 (nib p (i / 2) 1) 4 ||| dv (g8 p i) := by
      rw [show (2 : Nat) = 1 + 1 from rfl, nib, show (1 + 1) * (i / 2) + 1 = i by omega]
    rw [← e3]
    rfl
/-- What is read of 64 digits. -/
def allOk (p : List UInt8) (i : Nat) : Prop := ∀ j, j < i → dok (g8 p j) = true
theorem nib_two (p : List UInt8) (m : Nat) : nib p m 2 = shl8 (dv (g8 p (2 * m))) 4 ||| dv (g8 p (2 * m + 1)) := by
  have h : ∀ x : UInt8, shl8 0 4 ||| x = x := by
    intro x
    have : shl8 0 4 = 0 := by decide
    rw [this]
    exact UInt8.zero_or
  rw [show (2 : Nat) = 0 + 1 + 1 from rfl, nib, nib, nib, h]
  rfl
theorem u8_all (P : UInt8 → Prop) (h : ∀ n : Fin 256, P (UInt8.ofNat n.val)) (c : UInt8) : P c := by
  have := h ⟨c.toNat, c.toNat_lt⟩
  simpa using this
theorem hx_ok (c : UInt8) : dok (hx1 c) = true ∧ dok (hx2 c) = true ∧ (shl8 (dv (hx1 c)) 4 ||| dv (hx2 c)) = c := by
  refine u8_all (fun c => dok (hx1 c) = true ∧ dok (hx2 c) = true ∧ (shl8 (dv (hx1 c)) 4 ||| dv (hx2 c)) = c) ?_ c
  decide +kernel
theorem dv_lt (c : UInt8) (h : dok c = true) : (dv c).toNat < 16 := by
  revert h
  refine u8_all (fun c => dok c = true → (dv c).toNat < 16) ?_ c
  decide +kernel
theorem nib_byte (x y : UInt8) (hx : x.toNat < 16) (hy : y.toNat < 16) : UInt8.ofNat (16 * x.toNat + y.toNat) = shl8 x 4 ||| y := by
  have h : ∀ a b : Fin 16, UInt8.ofNat (16 * (UInt8.ofNat a.val).toNat + (UInt8.ofNat b.val).toNat) = shl8 (UInt8.ofNat a.val) 4 ||| UInt8.ofNat b.val := by decide +kernel
  have := h ⟨x.toNat, hx⟩ ⟨y.toNat, hy⟩
  simpa using this
theorem hexL_at (l : List UInt8) (m : Nat) (h : m < l.length) : g8 (hexL l) (2 * m) = hx1 (g8 l m) ∧ g8 (hexL l) (2 * m + 1) = hx2 (g8 l m) := by
  induction l generalizing m with
  | nil => simp at h
  | cons c l ih =>
    cases m with
    | zero => exact ⟨rfl, rfl⟩
    | succ m => exact ih m (by simpa using h)
theorem hexL_ok (l : List UInt8) (h : l.length = 32) : allOk (hexL l) 64 := by
  intro j hj
  obtain ⟨h1, h2⟩ := hexL_at l (j / 2) (by omega)
  obtain ⟨h3, h4, _⟩ := hx_ok (g8 l (j / 2))
  by_cases h0 : j % 2 = 0
  · rw [show j = 2 * (j / 2) by omega, h1]
    exact h3
  · rw [show j = 2 * (j / 2) + 1 by omega, h2]
    exact h4
theorem hexL_back (l : List UInt8) (h : l.length = 32) : nibL (hexL l) 32 = l := by
  apply List.ext_getElem (by rw [nibL_len, h])
  intro i h1 h2
  simp only [nibL, List.getElem_map, List.getElem_range]
  rw [nib_two, (hexL_at l i h2).1, (hexL_at l i h2).2, (hx_ok _).2.2]
  have := getD_eq l i 0 h2
  rw [List.getElem?_eq_getElem h2] at this
  exact (Option.some.inj this).symm
end Go.Xr
namespace Go.Proofs.Ytkohnmlnpbkphaa
open Go Go.Xr Go.RowKit
set_option linter.unusedVariables false
set_option linter.unusedSimpArgs false

/-- What 'Read' answers. -/
def readE (s : ByteArray) : Int := if s.size = 64 ∧ ((List.range 64).all fun j => dok (g8 s.data.toList j)) = true then 0 else 2
def readS (s : ByteArray) : ByteArray := if s.size = 64 ∧ ((List.range 64).all fun j => dok (g8 s.data.toList j)) = true then ⟨(nibL s.data.toList 32).toArray⟩ else ⟨#[]⟩
theorem read_yes (s : ByteArray) (h : s.size = 64) (h2 : allOk s.data.toList 64) : readE s = 0 ∧ readS s = ⟨(nibL s.data.toList 32).toArray⟩ := by
  have : ((List.range 64).all fun j => dok (g8 s.data.toList j)) = true := by
    rw [List.all_eq_true]
    intro j hj
    exact h2 j (List.mem_range.1 hj)
  unfold readE readS
  rw [if_pos ⟨h, this⟩, if_pos ⟨h, this⟩]
  exact ⟨rfl, rfl⟩
theorem read_no (s : ByteArray) (h : s.size ≠ 64 ∨ ∃ j, j < 64 ∧ dok (g8 s.data.toList j) = false) : readE s = 2 ∧ readS s = ⟨#[]⟩ := by
  have : ¬ (s.size = 64 ∧ ((List.range 64).all fun j => dok (g8 s.data.toList j)) = true) := by
    rintro ⟨h1, h2⟩
    rcases h with h | ⟨j, hj, hd⟩
    · exact h h1
    · have := List.all_eq_true.1 h2 j (List.mem_range.2 hj)
      rw [hd] at this
      cases this
  unfold readE readS
  rw [if_neg this, if_neg this]
  exact ⟨rfl, rfl⟩

attribute [local go_sem] shl_u8 or_u8 geq_u8_c leq_u8_c sub_u8_c add_u8_c

set_option maxHeartbeats 1000000 in
set_option maxRecDepth 20000 in
theorem read_any {w : World} (s : ByteArray) (hs : s.size ≤ 9223372036854775807) : Calls Try.prog 16 #[.string s] w fun e w' => e = .returned (.tuple #[.string (readS s), .int .i64 (readE s)]) ∧ Fr [] w w' := by
  by_cases h64 : s.size = 64
  · obtain ⟨i56, hi56, hz56⟩ := inf56
    have Hi56 := hid hi56
    have Hz56 := hid hz56
    have Hyes := hid (read_yes s h64)
    have Hno := hid (fun h => read_no s (.inr h))
    obtain ⟨p, hp⟩ : ∃ p, s.data.toList = p := ⟨_, rfl⟩
    rw [hp] at Hyes Hno
    have Hp := hid hp
    have H64 := hid h64
    have hd0 : ((s.size : Int) != 64) = false := by simp; omega
    have hsz : (s.size : Int) = 64 := by omega
    clear hi56 hz56 hp h64
    go_enter Try.func16, Try.ntmps16
    go_wp2_with (refine wpList_alloc_agg rfl _ rfl _ _ 32 Hi56.out Hz56.out rfl ?_; intro zs hzl hze hbz; have Hze := hid hze; clear hzl hze; (try simp only [World.size_alloc, World.size_drew, Act.put, List.setIfInBounds_toArray, List.set_cons_succ, List.set_cons_zero]))
    have HO : Hid (Blk (w.alloc (.cells zs.toArray 56)) w.heap.size (bv (nibM p 0))) := by
      have e : zs = bv (nibM p 0) := by
        rw [Hze.out]
        rfl
      rw [← e]
      exact hbz
    have f8 : Fr [] w (w.alloc (.cells zs.toArray 56)) := (Fr.refl [] w).alloc _
    generalize w.alloc (.cells zs.toArray 56) = w8 at *
    clear hbz
    go_loopw [13] (fun iv wr => ∃ i : Nat, i ≤ 64 ∧ iv = .int .i64 i ∧ Blk wr w.heap.size (bv (nibM p i)) ∧ Hid (allOk p i) ∧ Fr [] w wr) (fun iv _ => 64 - (intOf iv).toNat)
    case atStart => exact ⟨0, by omega, rfl, HO.out, hid (fun j hj => by omega), f8⟩
    case round =>
      obtain ⟨i, hi, rfl, hb, hok, f⟩ := hrel
      clear HO f8
      by_cases hlt : i < 64
      · have hd1 : decide ((i : Int) < 64) = true := by simp; omega
        have hix : ∀ w0 : World, (Instr.index 9 (.string s) (.int .i64 i)).run Try.prog w0 = .ok (bt (g8 p i)) w0 := fun w0 => by
          have := index_str (P := Try.prog) w0 9 s .i64 i i Try.underlying9 rfl (by rw [H64.out]; exact hlt) 0
          rw [Hp.out] at this
          exact this
        have hc : wr.cell? ⟨w.heap.size, i / 2, none⟩ = some (bt (nib p (i / 2) (i % 2))) := by
          rw [hb.cell, bv_getElem?, g8_eq _ _ (by rw [nibM_len p i hi]; omega), nibM_get p i hlt]
          rfl
        obtain ⟨c, hce⟩ : ∃ c, g8 p i = c := ⟨_, rfl⟩
        rw [hce] at hix
        have Hce := hid hce
        clear hce
        have hcases : (decide (48 ≤ (c.toNat : Int)) = true ∧ decide ((c.toNat : Int) ≤ 57) = true ∧ Hid (dok c = true) ∧ Hid (dv c = c - c8 48)) ∨
            (((decide (48 ≤ (c.toNat : Int)) = true ∧ decide ((c.toNat : Int) ≤ 57) = false)) ∧ decide (97 ≤ (c.toNat : Int)) = true ∧ decide ((c.toNat : Int) ≤ 102) = true ∧ Hid (dok c = true) ∧ Hid (dv c = c - c8 97 + c8 10)) ∨
            (decide (48 ≤ (c.toNat : Int)) = false ∧ decide (97 ≤ (c.toNat : Int)) = false ∧ Hid (dok c = false)) ∨
            (decide (48 ≤ (c.toNat : Int)) = true ∧ decide ((c.toNat : Int) ≤ 57) = false ∧ decide (97 ≤ (c.toNat : Int)) = false ∧ Hid (dok c = false)) ∨
            (decide (48 ≤ (c.toNat : Int)) = true ∧ decide ((c.toNat : Int) ≤ 57) = false ∧ decide (97 ≤ (c.toNat : Int)) = true ∧ decide ((c.toNat : Int) ≤ 102) = false ∧ Hid (dok c = false)) := by
          simp only [decide_eq_true_eq, decide_eq_false_iff_not, Hid, dok, dv, dg1, dg2]
          by_cases h1 : 48 ≤ c.toNat
          · by_cases h2 : c.toNat ≤ 57
            · refine .inl ⟨by omega, by omega, by simp [h1, h2], by simp [h1, h2]⟩
            · by_cases h3 : 97 ≤ c.toNat
              · by_cases h4 : c.toNat ≤ 102
                · refine .inr (.inl ⟨⟨by omega, by omega⟩, by omega, by omega, by simp [h1, h2, h3, h4], by simp [h1, h2, h3, h4]⟩)
                · refine .inr (.inr (.inr (.inr ⟨by omega, by omega, by omega, by omega, by simp [h1, h2, h3, h4]⟩)))
              · refine .inr (.inr (.inr (.inl ⟨by omega, by omega, by omega, by simp [h1, h2, h3]⟩)))
          · refine .inr (.inr (.inl ⟨by omega, by omega, by simp [h1]; omega⟩))
        rcases hcases with ⟨h1, h2, hdk, hdv⟩ | ⟨⟨h1, h2⟩, h3, h4, hdk, hdv⟩ | ⟨h1, h3, hdk⟩ | ⟨h1, h2, h3, hdk⟩ | ⟨h1, h2, h3, h4, hdk⟩
        · go_wp2_with (refine wpList_put rfl _ _ _ rfl rfl (bt (shl8 (nib p (i / 2) (i % 2)) 4 ||| (c - c8 48))) rfl rfl hb (by rw [bv_length, nibM_len p i hi]; omega) (by kernel_rfl) ?_; intro w10 f10 hO10 hs10; (try simp only [World.size_alloc, World.size_drew, Act.put, List.setIfInBounds_toArray, List.set_cons_succ, List.set_cons_zero]))
          rw [← bv_set, ← hdv.out, ← Hce.out, nibM_set p i hlt] at hO10
          go_roundw
          case rel => exact ⟨i + 1, by omega, by go_num, hO10, hid (fun j hj => by
            by_cases h : j < i
            · exact hok.out j h
            · obtain rfl : j = i := by omega
              rw [Hce.out]
              exact hdk.out), f.trans f10 (by simp)⟩
          case measure => simp [intOf]; omega
        · go_wp2_with (refine wpList_put rfl _ _ _ rfl rfl (bt (shl8 (nib p (i / 2) (i % 2)) 4 ||| (c - c8 97 + c8 10))) rfl rfl hb (by rw [bv_length, nibM_len p i hi]; omega) (by kernel_rfl) ?_; intro w10 f10 hO10 hs10; (try simp only [World.size_alloc, World.size_drew, Act.put, List.setIfInBounds_toArray, List.set_cons_succ, List.set_cons_zero]))
          rw [← bv_set, ← hdv.out, ← Hce.out, nibM_set p i hlt] at hO10
          go_roundw
          case rel => exact ⟨i + 1, by omega, by go_num, hO10, hid (fun j hj => by
            by_cases h : j < i
            · exact hok.out j h
            · obtain rfl : j = i := by omega
              rw [Hce.out]
              exact hdk.out), f.trans f10 (by simp)⟩
          case measure => simp [intOf]; omega
        all_goals
          have Hr := hid (Hno.out ⟨i, hlt, by rw [Hce.out]; exact hdk.out⟩)
          go_wp2_with fail
          go_ret2
          rw [Hr.out.1, Hr.out.2]
          exact ⟨rfl, f⟩
      · have ei : i = 64 := by omega
        have hd1 : decide ((i : Int) < 64) = false := by simp; omega
        rw [ei] at hb hok
        have hL : nibM p 64 = nibL p 32 := by
          unfold nibM
          rw [if_pos (by decide)]
          simp
        rw [hL] at hb
        have HLl := hid (nibL_len p 32)
        have HLv := hid (show ((bv (nibL p 32)).drop 0).take (nibL p 32).length = bv (nibL p 32) by rw [List.drop_zero, ← bv_length, List.take_length])
        have Hr := hid (Hyes.out hok.out)
        clear ei hL
        go_wp2_with (refine wpList_string_of_bytes rfl _ _ 5 _ rfl 32 32 rfl hb (nibL p 32) HLl.out HLv.out Try.underlying29 Try.underlying5 Try.underlying9 ?_; (try simp only [World.size_alloc, World.size_drew, Act.put, List.setIfInBounds_toArray, List.set_cons_succ, List.set_cons_zero]))
        go_ret2
        rw [Hr.out.1, Hr.out.2]
        exact ⟨rfl, f⟩
  · have hr := read_no s (.inl h64)
    rw [hr.1, hr.2]
    refine (read_bad s hs h64).mono ?_
    rintro e w' ⟨rfl, rfl⟩
    exact ⟨rfl, Fr.refl _ _⟩
end Go.Proofs.Ytkohnmlnpbkphaa
