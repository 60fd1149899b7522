/- Layer 2, mac: many texts' tag; sameness; what is small. -/
import Derived.Test.YtfcpnicgffbmeaaMacC
namespace Go.Xr
open Go
set_option linter.unusedVariables false
/-- What two texts differ in, of the first i bytes. -/
def difX (p q : List UInt8) : Nat → UInt8
  | 0 => 0
  | i + 1 => difX p q i ||| (g8 p i ^^^ g8 q i)
theorem or_zero8 (a b : UInt8) : (a ||| b = 0) ↔ (a = 0 ∧ b = 0) := by
  constructor
  · intro h
    have h1 : a.toBitVec ||| b.toBitVec = 0#8 := congrArg UInt8.toBitVec h
    rw [BitVec.or_eq_zero_iff] at h1
    exact ⟨UInt8.toBitVec_inj.1 h1.1, UInt8.toBitVec_inj.1 h1.2⟩
  · rintro ⟨rfl, rfl⟩
    rfl
theorem difX_zero (p q : List UInt8) (i : Nat) : difX p q i = 0 ↔ ∀ j, j < i → g8 p j = g8 q j := by
  induction i with
  | zero => simp [difX]
  | succ i ih =>
    rw [difX, or_zero8, ih, UInt8.xor_eq_zero_iff]
    constructor
    · rintro ⟨h1, h2⟩ j hj
      by_cases h : j < i
      · exact h1 j h
      · obtain rfl : j = i := by omega
        exact h2
    · intro h
      exact ⟨fun j hj => h j (by omega), h i (by omega)⟩
theorem difX_same (p q : List UInt8) : (difX p q (min p.length q.length) = 0 ∧ p.length = q.length) ↔ p = q := by
  rw [difX_zero]
  constructor
  · rintro ⟨h1, h2⟩
    apply List.ext_getElem h2
    intro j h3 h4
    have := h1 j (by omega)
    unfold g8 at this
    simpa [List.getD, h3, h4] using this
  · rintro rfl
    exact ⟨fun _ _ => rfl, rfl⟩
def totL (l : List ByteArray) : Nat := (l.map (·.size)).sum
theorem totL_snoc (l : List ByteArray) (i : Nat) (h : i < l.length) : totL (l.take (i + 1)) = totL (l.take i) + l[i].size := by
  rw [List.take_succ_eq_append_getElem h]
  simp only [totL, List.map_append, List.sum_append, List.map_cons, List.map_nil, List.sum_cons, List.sum_nil, Nat.add_zero]
theorem totL_bound (l : List ByteArray) (M i : Nat) (h : ∀ s ∈ l, s.size ≤ M) (hi : i ≤ l.length) : totL (l.take i) ≤ i * M := by
  induction i with
  | zero => simp [totL]
  | succ i ih =>
    rw [totL_snoc l i (by omega)]
    have h1 := ih (by omega)
    have h2 := h l[i] (List.getElem_mem (by omega))
    rw [Nat.add_mul]
    omega
theorem allL_tot (l : List ByteArray) : (allL l).length = totL l + 8 * l.length := by
  induction l with
  | nil => rfl
  | cons s l ih =>
    have e1 : allL (s :: l) = longL s ++ allL l := by simp [allL]
    have e2 : totL (s :: l) = s.size + totL l := by simp [totL]
    rw [e1, e2, List.length_append, longL_len, ih, List.length_cons]
    omega
end Go.Xr
namespace Go.Proofs.Ytfcpnicgffbmeaa
open Go Go.Xr Go.RowKit
set_option linter.unusedVariables false
set_option linter.unusedSimpArgs false

/-- An element of a row of texts, read. -/
theorem rc_str {w wr : World} {la : Option Addr} {lc : Nat} {l : List ByteArray} {LB : Option Nat} (hl : Rc w 1 (.slice la l.length lc) l.length (l.map .string) LB) (f : Fr [] w wr) (i : Nat) (hi : i < l.length) :
    ∃ lb off, la = some ⟨lb, off, none⟩ ∧ lb < w.heap.size ∧ wr.cell? ⟨lb, off + i, none⟩ = some (.string l[i]) := by
  obtain ⟨lb, off, lc', hLB, hv, h1, h2, h3, h4⟩ := hl.some (by omega)
  obtain ⟨rfl, rfl⟩ : la = some ⟨lb, off, none⟩ ∧ lc = lc' := by simpa using hv
  refine ⟨lb, off, rfl, h3, ?_⟩
  rw [f.cell_old (a := ⟨lb, off + i, none⟩) h3, h4 i (by simpa using hi), List.getElem?_map, List.getElem?_eq_getElem hi]
  rfl

theorem mall_any {w : World} {v : Value} {l : List ByteArray} {LB : Option Nat} (key : ByteArray) (hk : key.size < 1099511627776) (hl : Rc w 1 v l.length (l.map .string) LB) (hsum : (allL l).length + 64 < 1099511627776) :
    Calls Try.prog 11 #[.string key, v] w fun e w' => e = .returned (.string (macS key (allS l))) ∧ Fr [] w w' := by
  obtain ⟨i28, hi28, hz28, hs28, hb28⟩ := inf5
  have Hi := hid hi28
  have Hz := hid hz28
  have Hs := hid hs28
  have Hb := hid hb28
  clear hi28 hz28 hs28 hb28
  obtain ⟨la, lc, rfl⟩ := hl.isSlice
  have hl8 : l.length ≤ (allL l).length := by rw [allL_tot]; omega
  have Hsum := hid hsum
  have hmac := fun w0 : World => mof_any (w := w0) key (allS l) hk (by rw [allS_size]; exact hsum)
  obtain ⟨T, hT⟩ : ∃ T, macS key (allS l) = T := ⟨_, rfl⟩
  rw [hT] at hmac ⊢
  have Hmac := hid hmac
  clear hmac hT hsum
  have hlen : l.length < 1099511627776 := by have := Hsum.out; omega
  clear hl8
  go_enter Try.func11, Try.ntmps11
  go_wp2_with fail
  go_loopw [5, 10] (fun bv0 iv wr => ∃ (i : Nat) (B : Option Nat), i ≤ l.length ∧ iv = .int .i64 i ∧ Own wr 1 bv0 (allL (l.take i)).length (bv (allL (l.take i))) B ∧ Fresh w B ∧ Fr [] w wr) (fun _ iv _ => l.length - (intOf iv).toNat)
  case atStart => exact ⟨0, none, by omega, rfl, Own.nil _ 1, Fresh.none _, Fr.refl _ _⟩
  case round =>
    obtain ⟨i, B, hi, rfl, ho, hF, f⟩ := hrel
    obtain ⟨ba, bc, rfl⟩ := ho.isSlice
    by_cases hlt : i < l.length
    · have hd1 : decide (i < l.length) = true := by simp; omega
      obtain ⟨lb, off, rfl, hlb, hcell⟩ := rc_str hl f i hlt
      have hroom := allL_room l i hlt
      have hsn := allL_snoc l i hlt
      obtain ⟨s, hs⟩ : ∃ s, l[i] = s := ⟨_, rfl⟩
      rw [hs] at hcell hroom hsn
      clear hs
      have Hsn := hid hsn
      have hss : s.size < 1099511627776 := by have := Hsum.out; omega
      have Hroom := hid hroom
      clear hsn hroom
      go_wp2_with fail
      refine (long_any s hss).mono ?_
      rintro e w2 ⟨rfl, f2⟩
      have ho2 := ho.keep f2 (by simp)
      have g2 := f.trans' f2
      clear ho f f2 hcell
      go_wp2_with (refine wpList_append_str rfl _ _ _ _ rfl 5 _ Try.underlying41 Try.underlying9 Hi.out Hz.out Hs.out Hb.out rfl ho2 (longS s) rfl (by have := Hsum.out; have := Hroom.out; rw [longS_size]; unfold maxLen; omega) (by have := Hsum.out; have := Hroom.out; rw [longS_size]; omega) ?_; intro v3 w3 B3 ho3 f3 hB3; simp only [World.size_alloc, World.size_drew, Act.put, List.setIfInBounds_toArray, List.set_cons_succ, List.set_cons_zero])
      go_roundw
      case rel =>
        refine ⟨i + 1, B3, by omega, by go_num, ?_, hF.step g2 hB3, hF.fr g2 f3⟩
        have e : bv (allL (l.take (i + 1))) = bv (allL (l.take i)) ++ bv (longS s).data.toList := by rw [Hsn.out, bv_append]; rfl
        have e2 : (allL (l.take (i + 1))).length = (allL (l.take i)).length + (longS s).size := by rw [Hsn.out, List.length_append, longS_size, longL_len]
        rw [e, e2]
        exact ho3
      case measure => simp [intOf]; omega
    · have ei : i = l.length := by omega
      have hd1 : decide (i < l.length) = false := by simp; omega
      have ho9 : Own wr 1 (.slice ba (allL (l.take i)).length bc) (allL (l.take i)).length (bv (allL l)) B := by
        have e : l.take i = l := List.take_of_length_le (by omega)
        rw [e] at ho ⊢
        exact ho
      clear ei ho
      go_wp2_with (refine wpList_string_of_own rfl _ _ 5 _ rfl rfl ho9 Try.underlying41 Try.underlying5 Try.underlying9 ?_; (try simp only [World.size_alloc, World.size_drew, Act.put, List.setIfInBounds_toArray, List.set_cons_succ, List.set_cons_zero]))
      refine (Hmac.out _).mono ?_
      rintro e w2 ⟨rfl, f2⟩
      go_wp2_with fail
      go_ret
      exact ⟨rfl, f.trans' f2⟩

theorem rall_any {w : World} {v : Value} {l : List ByteArray} {LB : Option Nat} (key : ByteArray) (hk : key.size < 1099511627776) (hl : Rc w 1 v l.length (l.map .string) LB) (hsum : (allL l).length + 64 < 1099511627776) :
    Calls Try.prog 12 #[.string key, v] w fun e w' => e = .returned (.string (macS key (allS l))) ∧ Fr [] w w' := by
  obtain ⟨la, lc, rfl⟩ := hl.isSlice
  have hl8 : l.length ≤ (allL l).length := by rw [allL_tot]; omega
  have Hsum := hid hsum
  have hmac := fun w0 : World => rmac_any (w := w0) key (allS l) hk (by rw [allS_size]; exact hsum)
  obtain ⟨T, hT⟩ : ∃ T, macS key (allS l) = T := ⟨_, rfl⟩
  rw [hT] at hmac ⊢
  have Hmac := hid hmac
  clear hmac hT hsum
  have hlen : l.length < 1099511627776 := by have := Hsum.out; omega
  clear hl8
  go_enter Try.func12, Try.ntmps12
  go_wp2_with fail
  go_loopw [5, 6] (fun sv iv wr => ∃ i : Nat, i ≤ l.length ∧ iv = .int .i64 i ∧ sv = .string (allS (l.take i)) ∧ Fr [] w wr) (fun _ iv _ => l.length - (intOf iv).toNat)
  case atStart => exact ⟨0, by omega, rfl, rfl, Fr.refl _ _⟩
  case round =>
    obtain ⟨i, hi, rfl, rfl, f⟩ := hrel
    by_cases hlt : i < l.length
    · have hd1 : decide (i < l.length) = true := by simp; omega
      obtain ⟨lb, off, rfl, hlb, hcell⟩ := rc_str hl f i hlt
      have hroom := allL_room l i hlt
      have hsn := allS_snoc l i hlt
      obtain ⟨s, hs⟩ : ∃ s, l[i] = s := ⟨_, rfl⟩
      rw [hs] at hcell hroom hsn
      clear hs
      have Hsn := hid hsn
      have hss : s.size < 1099511627776 := by have := Hsum.out; omega
      have h1 : (allS (l.take i)).size + 8 + s.size < 1099511627776 := by have := Hsum.out; rw [allS_size]; omega
      have h2 := longS_size s
      clear hsn hroom
      go_wp2_with fail
      refine (rlong_any s hss).mono ?_
      rintro e w2 ⟨rfl, f2⟩
      go_wp2_with fail
      go_roundw
      case rel => exact ⟨i + 1, by omega, by go_num, by rw [Hsn.out], f.trans' f2⟩
      case measure => simp [intOf]; omega
    · have ei : i = l.length := by omega
      have hd1 : decide (i < l.length) = false := by simp; omega
      have hm : ∀ w0 : World, Calls Try.prog 10 #[.string key, .string (allS (l.take i))] w0 fun e w' => e = .returned (.string T) ∧ Fr [] w0 w' := by
        have e : l.take i = l := List.take_of_length_le (by omega)
        rw [e]
        exact Hmac.out
      have Hm := hid hm
      clear ei hm
      go_wp2_with fail
      refine (Hm.out _).mono ?_
      rintro e w2 ⟨rfl, f2⟩
      go_wp2_with fail
      go_ret
      exact ⟨rfl, f.trans' f2⟩
end Go.Proofs.Ytfcpnicgffbmeaa
