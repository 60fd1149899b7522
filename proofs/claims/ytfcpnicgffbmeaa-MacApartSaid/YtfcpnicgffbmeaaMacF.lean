/- Layer 2, mac: keys from keys. -/
import Derived.Test.YtfcpnicgffbmeaaMacE
namespace Go.Xr
open Go Go.RowKit
set_option linter.unusedVariables false
section
variable {P : Program} {ops : Array Oper} {Q : Exit → Act → World → Prop} {a : Act} {w : World} {K : Act → World → Prop} {rest : List Oper} {o : Oper}
/-- 's[:h]' of a slice of its own, nil too. -/
theorem wpList_slice_h_own (hg : o.guard = none) (t : TypeId) (x hi : Operand) (ho : o.op = .slice t x none (some hi) none) {v : Value} {n : Nat} {xs : List Value} {B : Option Nat} (hx : a.eval x = v) (hv : Own w 1 v n xs B) (kh : IntKind) (hi' : Int) (h : Nat) (hhi : a.eval hi = .int kh hi') (hh : hi' = h)
    (h1 : h ≤ n) (e : TypeId) (ht : P.underlying t = some (.slice e)) (hs : (P.info? e).map (·.size) = some 1)
    (hK : ∀ v', Own w 1 v' h (xs.take h) B → wpList P ops Q rest (a.put o.dst v') w) : wpList P ops Q (o :: rest) a w := by
  refine wpList_plain hg fun K hk => ?_
  subst hh
  cases hq : P.info? e with
  | none => simp [hq] at hs
  | some i =>
    have hs1 : i.size = 1 := by simpa [hq] using hs
    have he := elem_of ht
    have hsz : (sizeOf (P.elem t)).run P w = .ok 1 w := by rw [he]; simp [sizeOf, typeInfo, hq, hs1]
    have main : ∀ (ad : Option Addr) (c : Nat), v = .slice ad n c → n ≤ c → Own w 1 (sliced ad 0 h c 1) h (xs.take h) B → o.wp P a w K Q := by
      intro ad c hv0 hc hO
      subst hv0
      have hr1 := run_sliceAt_slice (P := P) w t (.slice ad n c) none (some (.int kh h)) none (by rw [he]; exact ht)
      have hr2 := run_slice_h (P := P) w t ad n c (by rw [he]; exact ht) kh h (by omega) (by omega)
      have hr : (Instr.sliceAt t (.slice ad n c) none (some (.int kh h)) none).run P w = .ok (sliced ad 0 h c 1) w := by
        rw [hr1, hr2, hsz]
        simp only [Result.andThen_ok, Int.toNat_natCast]
      unfold Oper.wp execOp
      simp only [ho, Option.map_some, Option.map_none, hx, hhi, Sem.run_bind, hr, Result.andThen_ok, Sem.run_pure]
      exact hk _ _ (hK _ hO)
    have hl : xs.length = n := by have := hv.1; omega
    have htl : (xs.take h).length = h * 1 := by rw [List.length_take]; omega
    rcases hv.2 with ⟨hv1, h0, h3⟩ | ⟨b, cap, cs, hB, hv1, hc1, hc2, hb, hcl, hct⟩
    · obtain rfl : h = 0 := by omega
      subst h3
      refine main none 0 (by rw [hv1, h0]) (by omega) ⟨htl, .inl ⟨?_, rfl, rfl⟩⟩
      rfl
    · subst hB
      refine main _ _ hv1 hc1 ⟨htl, .inr ⟨b, cap, cs, rfl, ?_, by omega, hc2, hb, hcl, ?_⟩⟩
      · unfold sliced Addr.add
        by_cases h0 : cap = 0 <;> simp [h0]
      · rw [← hct, List.take_take]
        congr 1
        omega

/-- A slice literal of one-cell elements: of the world no more is told. -/
theorem wpList_buildSlice_any (hg : o.guard = none) (t : TypeId) (n : Nat) (ps : Array (Nat × Operand)) (ho : o.op = .buildSlice t n ps) (e : TypeId) (hu : P.underlying t = some (.slice e)) (i : TypeInfo) (z : Value) (hi : P.info? e = some i) (hz : i.zero = some z) (hzs : z.cells.size = 1)
    (hs : i.size = 1) (hn : n ≤ 16777216) (hn0 : 0 < n) (hidx : ps.toList.map (·.1) = List.range n) (vs : List Value) (hvs : ps.toList.map (fun p => a.eval p.2) = vs) (h1 : ∀ v ∈ vs, v.oneCell' = true)
    (h : ∀ w', Fr [] w w' → w.heap.size < w'.heap.size → Blk w' w.heap.size vs → wpList P ops Q rest (a.put o.dst (.slice (some ⟨w.heap.size, 0, none⟩) n n)) w') : wpList P ops Q (o :: rest) a w :=
  wpList_buildSlice_ones hg t n ps ho e hu i z hi hz hzs hs hn hn0 hidx vs hvs h1 fun hb => h _ ((Fr.refl [] w).alloc _) (by simp) hb
end
/-- A block's row as an argument. -/
theorem rc_of_blk {w : World} {b n : Nat} {xs : List Value} (hb : Blk w b xs) (hn : xs.length = n) (hm : n ≤ maxLen) : Rc w 1 (.slice (some ⟨b, 0, none⟩) n n) n xs (some b) := by
  refine ⟨by omega, fun c hc => by cases hc; exact hb.lt, _, _, rfl, Nat.le_refl _, hm, fun _ => ⟨b, 0, rfl, rfl, fun j hj => ?_⟩⟩
  rw [hb.cell, Nat.zero_add]
end Go.Xr
namespace Go.Proofs.Ytfcpnicgffbmeaa
open Go Go.Xr Go.RowKit
set_option linter.unusedVariables false
set_option linter.unusedSimpArgs false

/-- What is derived after j rounds: all of it, and the last tag. -/
def derT (key label : ByteArray) : Nat → ByteArray × ByteArray
  | 0 => (⟨#[]⟩, ⟨#[]⟩)
  | j + 1 => ((derT key label j).1 ++ macS key ((derT key label j).2 ++ label ++ ⟨#[UInt8.ofNat (j + 1)]⟩), macS key ((derT key label j).2 ++ label ++ ⟨#[UInt8.ofNat (j + 1)]⟩))
theorem derT_len (key label : ByteArray) (j : Nat) : (derT key label j).1.size = 32 * j := by
  induction j with
  | zero => rfl
  | succ j ih =>
    show ((derT key label j).1 ++ _).size = _
    rw [ByteArray.size_append, ih, macS_size]
    omega
theorem derT_last (key label : ByteArray) (j : Nat) : (derT key label j).2.size ≤ 32 := by
  cases j with
  | zero => exact Nat.zero_le _
  | succ j => exact Nat.le_of_eq (macS_size _ _)
def derS (key label : ByteArray) (m : Nat) : ByteArray := (derT key label ((m + 31) / 32)).1.extract 0 m
theorem ext_eq (s : ByteArray) (m : Nat) : (⟨(s.data.toList.take m).toArray⟩ : ByteArray) = s.extract 0 m := by
  apply ByteArray.ext
  apply Array.ext'
  simp

theorem inf9 : ∃ i, Try.prog.info? 9 = some i ∧ i.zero = some (.string ⟨#[]⟩) ∧ i.size = 1 := ⟨_, rfl, rfl, rfl⟩

attribute [local go_sem] add_u8_c

set_option maxRecDepth 20000 in
set_option maxHeartbeats 1000000 in
theorem rder_any {w : World} (key label : ByteArray) (hk : key.size < 1099511627776) (hs : label.size + 128 < 1099511627776) (m : Nat) (hm : m ≤ 8160) : Calls Try.prog 14 #[.string key, .string label, .int .i64 m] w fun e w' => e = .returned (.tuple #[.string (derS key label m), .int .i64 0]) ∧ Fr [] w w' := by
  obtain ⟨i28, hi28, hz28, hs28, hb28⟩ := inf5
  have Hi := hid hi28
  have Hz := hid hz28
  have Hs := hid hs28
  have Hb := hid hb28
  clear hi28 hz28 hs28 hb28
  obtain ⟨R, hR⟩ : ∃ R, (m + 31) / 32 = R := ⟨_, rfl⟩
  unfold derS
  rw [hR]
  have hr1 : m ≤ 32 * R := by omega
  have hr2 : 32 * R < m + 32 := by omega
  clear hR
  go_enter Try.func14, Try.ntmps14
  go_wp2_with fail
  go_loopg [8, 9, 10] R (fun g sv lv cv wr => ∃ j : Nat, j + g = R ∧ sv = .string (derT key label j).1 ∧ lv = .string (derT key label j).2 ∧ cv = .int .i64 ((j + 1 : Nat) : Int) ∧ Fr [] w wr)
  case atStart => exact ⟨0, by omega, rfl, rfl, rfl, Fr.refl _ _⟩
  case round =>
    obtain ⟨j, hj, rfl, rfl, rfl, f⟩ := hrel
    obtain ⟨G, rfl⟩ : ∃ G, G = gk := ⟨_, rfl⟩
    have hl1 := derT_len key label j
    have hl2 := derT_last key label j
    have Hsu := hid (show derT key label (j + 1) = ((derT key label j).1 ++ macS key ((derT key label j).2 ++ label ++ ⟨#[UInt8.ofNat (j + 1)]⟩), macS key ((derT key label j).2 ++ label ++ ⟨#[UInt8.ofNat (j + 1)]⟩)) from rfl)
    cases G with
    | succ G =>
      generalize derT key label j = D at *
      have hd1 : decide (D.1.size < m) = true := by simp; omega
      have Hc := hid (show Value.int .u8 ((j : Int) + 1) = bt (UInt8.ofNat (j + 1)) by
        have e : (UInt8.ofNat (j + 1)).toNat = j + 1 := by rw [UInt8.toNat_ofNat']; omega
        rw [val_u8, e]
        rfl)
      obtain ⟨C, hC⟩ : ∃ C : UInt8, UInt8.ofNat (j + 1) = C := ⟨_, rfl⟩
      rw [hC] at Hc Hsu
      obtain ⟨T, hT⟩ : ∃ T : ByteArray, D.2 ++ label ++ ⟨#[C]⟩ = T := ⟨_, rfl⟩
      have hTs : T.size + 64 < 1099511627776 := by
        rw [← hT, ByteArray.size_append, ByteArray.size_append]
        have : (⟨#[C]⟩ : ByteArray).size = 1 := rfl
        omega
      have hm1 := fun w0 : World => rmac_any (w := w0) key T hk hTs
      rw [hT] at Hsu
      have hms := macS_size key T
      have HT := hid hT
      generalize macS key T = M at *
      have Hm1 := hid hm1
      have H1s : (⟨#[C]⟩ : ByteArray).size = 1 := rfl
      clear hC hT hm1
      go_wp2_with (first
        | (refine wpList_buildSlice_any rfl _ 1 _ rfl 5 Try.underlying41 _ _ Hi.out Hz.out rfl Hs.out (by decide) (by decide) rfl (bv [C]) (by show [Value.int .u8 ((j : Int) + 1)] = _; rw [Hc.out]; rfl) (bv_one _) ?_; intro w2 f2 hlt2 hb2; simp only [World.size_alloc, World.size_drew, Act.put, List.setIfInBounds_toArray, List.set_cons_succ, List.set_cons_zero])
        | (refine wpList_string_of_bytes rfl _ _ 5 _ rfl 1 1 rfl hb2 [C] rfl rfl Try.underlying41 Try.underlying5 Try.underlying9 ?_; simp only [World.size_alloc, World.size_drew, Act.put, List.setIfInBounds_toArray, List.set_cons_succ, List.set_cons_zero]))
      rw [HT.out]
      refine (Hm1.out _).mono ?_
      rintro e w3 ⟨rfl, f3⟩
      go_wp2_with fail
      go_roundg G
      case rel => exact ⟨j + 1, by omega, by rw [Hsu.out], by rw [Hsu.out], by go_num, (f.trans' f2).trans' f3⟩
      case measure => omega
    | zero =>
      obtain rfl : j = R := by omega
      obtain ⟨D, hD⟩ : ∃ D, derT key label j = D := ⟨_, rfl⟩
      rw [hD] at hl1 hl2 ⊢
      have HD := hid hD
      clear hD
      have hd1 : decide (D.1.size < m) = false := by simp; omega
      go_wp2_with fail
      go_ret2
      rw [HD.out]
      exact ⟨rfl, f⟩

set_option maxRecDepth 20000 in
set_option maxHeartbeats 1000000 in
theorem mder_any {w : World} (key label : ByteArray) (hk : key.size < 1099511627776) (hs : label.size + 128 < 1099511627776) (m : Nat) (hm : m ≤ 8160) : Calls Try.prog 13 #[.string key, .string label, .int .i64 m] w fun e w' => e = .returned (.tuple #[.string (derS key label m), .int .i64 0]) ∧ Fr [] w w' := by
  obtain ⟨i28, hi28, hz28, hs28, hb28⟩ := inf5
  have Hi := hid hi28
  have Hz := hid hz28
  have Hs := hid hs28
  have Hb := hid hb28
  have H5 := hid (show (Try.prog.info? 5).map (·.size) = some 1 by kernel_rfl)
  clear hi28 hz28 hs28 hb28
  obtain ⟨R, hR⟩ : ∃ R, (m + 31) / 32 = R := ⟨_, rfl⟩
  unfold derS
  rw [hR]
  have hr1 : m ≤ 32 * R := by omega
  have hr2 : 32 * R < m + 32 := by omega
  clear hR
  go_enter Try.func13, Try.ntmps13
  go_wp2_with fail
  go_loopg [8, 9, 10] R (fun g sv lv cv wr => ∃ (j : Nat) (B : Option Nat), j + g = R ∧ Own wr 1 sv (32 * j) (bv (derT key label j).1.data.toList) B ∧ lv = .string (derT key label j).2 ∧ cv = bt (UInt8.ofNat (j + 1)) ∧ Fresh w B ∧ Fr [] w wr)
  case atStart => exact ⟨0, none, by omega, Own.nil _ 1, rfl, rfl, Fresh.none _, Fr.refl _ _⟩
  case round =>
    obtain ⟨j, B, hj, ho, rfl, rfl, hF, f⟩ := hrel
    obtain ⟨G, rfl⟩ : ∃ G, G = gk := ⟨_, rfl⟩
    obtain ⟨ba, bc, rfl⟩ := ho.isSlice
    have hl1 := derT_len key label j
    have hl2 := derT_last key label j
    have Hsu := hid (show derT key label (j + 1) = ((derT key label j).1 ++ macS key ((derT key label j).2 ++ label ++ ⟨#[UInt8.ofNat (j + 1)]⟩), macS key ((derT key label j).2 ++ label ++ ⟨#[UInt8.ofNat (j + 1)]⟩)) from rfl)
    have Hc := hid (show UInt8.ofNat (j + 1) + c8 1 = UInt8.ofNat (j + 1 + 1) from (UInt8.ofNat_add (j + 1) 1).symm)
    obtain ⟨C, hC⟩ : ∃ C : UInt8, UInt8.ofNat (j + 1) = C := ⟨_, rfl⟩
    rw [hC] at Hc Hsu ⊢
    clear hC
    cases G with
    | succ G =>
      generalize derT key label j = D at *
      have hd1 : decide (32 * j < m) = true := by simp; omega
      obtain ⟨T, hT⟩ : ∃ T : ByteArray, D.2 ++ label ++ ⟨#[C]⟩ = T := ⟨_, rfl⟩
      have hTs : T.size + 64 < 1099511627776 := by
        rw [← hT, ByteArray.size_append, ByteArray.size_append]
        have : (⟨#[C]⟩ : ByteArray).size = 1 := rfl
        omega
      have hm1 := fun w0 : World => mof_any (w := w0) key T hk hTs
      rw [hT] at Hsu
      have hms := macS_size key T
      have HT := hid hT
      generalize macS key T = M at *
      have Hm1 := hid hm1
      have H1s : (⟨#[C]⟩ : ByteArray).size = 1 := rfl
      clear hT hm1
      go_wp2_with (first
        | (refine wpList_buildSlice_any rfl _ 1 _ rfl 5 Try.underlying41 _ _ Hi.out Hz.out rfl Hs.out (by decide) (by decide) rfl (bv [C]) rfl (bv_one _) ?_; intro w2 f2 hlt2 hb2; simp only [World.size_alloc, World.size_drew, Act.put, List.setIfInBounds_toArray, List.set_cons_succ, List.set_cons_zero])
        | (refine wpList_string_of_bytes rfl _ _ 5 _ rfl 1 1 rfl hb2 [C] rfl rfl Try.underlying41 Try.underlying5 Try.underlying9 ?_; simp only [World.size_alloc, World.size_drew, Act.put, List.setIfInBounds_toArray, List.set_cons_succ, List.set_cons_zero]))
      rw [HT.out]
      refine (Hm1.out _).mono ?_
      rintro e w3 ⟨rfl, f3⟩
      have ho3 := (ho.keep f2 (by simp)).keep f3 (by simp)
      have g3 := (f.trans' f2).trans' f3
      clear ho f f2 f3 hb2
      go_wp2_with (refine wpList_append_str rfl _ _ _ _ rfl 5 _ Try.underlying41 Try.underlying9 Hi.out Hz.out Hs.out Hb.out rfl ho3 M rfl (by unfold maxLen; omega) (by omega) ?_; intro v4 w4 B4 ho4 f4 hB4; simp only [World.size_alloc, World.size_drew, Act.put, List.setIfInBounds_toArray, List.set_cons_succ, List.set_cons_zero])
      go_roundg G
      case rel =>
        refine ⟨j + 1, B4, by omega, ?_, by rw [Hsu.out], by rw [Hc.out], hF.step g3 hB4, hF.fr g3 f4⟩
        have e : bv (derT key label (j + 1)).1.data.toList = bv D.1.data.toList ++ bv M.data.toList := by
          rw [Hsu.out, ← bv_append]
          simp
        rw [e, show 32 * (j + 1) = 32 * j + M.size by omega]
        exact ho4
      case measure => omega
    | zero =>
      obtain rfl : j = R := by omega
      obtain ⟨D, hD⟩ : ∃ D, derT key label j = D := ⟨_, rfl⟩
      rw [hD] at hl1 hl2 ho ⊢
      have HD := hid hD
      clear hD
      have hd1 : decide (32 * j < m) = false := by simp; omega
      go_wp2_with (first
        | (refine wpList_slice_h_own rfl _ _ _ rfl rfl ho .i64 m m rfl rfl hr1 5 Try.underlying41 H5.out ?_; intro v5 ho5; rw [bv_take] at ho5; simp only [World.size_alloc, World.size_drew, Act.put, List.setIfInBounds_toArray, List.set_cons_succ, List.set_cons_zero])
        | (refine wpList_string_of_own rfl _ _ 5 _ rfl rfl ho5 Try.underlying41 Try.underlying5 Try.underlying9 ?_; (try simp only [World.size_alloc, World.size_drew, Act.put, List.setIfInBounds_toArray, List.set_cons_succ, List.set_cons_zero])))
      go_ret2
      rw [HD.out, ← ext_eq]
      exact ⟨rfl, f⟩
end Go.Proofs.Ytfcpnicgffbmeaa
