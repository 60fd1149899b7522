/- Layer 1, sha: numbers by digits, the document's; times. -/
import Derived.Test.YtkohnmlnpbkphaaShaV
namespace Go.Xr
open Go
set_option linter.unusedVariables false
def valL : List Nat → Nat
  | [] => 0
  | d :: r => d + 65536 * valL r
def Dg (l : List Nat) : Prop := ∀ d ∈ l, d < 65536
theorem valL_append (l r : List Nat) : valL (l ++ r) = valL l + 65536 ^ l.length * valL r := by
  induction l with
  | nil => simp [valL]
  | cons d l ih =>
    rw [List.cons_append, valL, ih, valL, List.length_cons, Nat.pow_succ, Nat.mul_add, Nat.add_assoc, Nat.mul_comm (65536 ^ l.length) 65536, Nat.mul_assoc]
theorem valL_snoc (l : List Nat) (d : Nat) : valL (l ++ [d]) = valL l + 65536 ^ l.length * d := by
  rw [valL_append]
  simp [valL]
theorem valL_take (l : List Nat) (i : Nat) (h : i < l.length) : valL (l.take (i + 1)) = valL (l.take i) + 65536 ^ i * l[i] := by
  rw [List.take_succ_eq_append_getElem h, valL_snoc, List.length_take, Nat.min_eq_left (by omega)]
theorem valL_lt (l : List Nat) (h : Dg l) : valL l < 65536 ^ l.length := by
  induction l with
  | nil => simp [valL]
  | cons d l ih =>
    have h1 := ih fun x hx => h x (by simp [hx])
    have h2 := h d (by simp)
    rw [valL, List.length_cons, Nat.pow_succ]
    omega
theorem Dg.snoc {l : List Nat} (h : Dg l) {d : Nat} (hd : d < 65536) : Dg (l ++ [d]) := by
  intro x hx
  rcases List.mem_append.1 hx with h1 | h1
  · exact h x h1
  · simp at h1; omega
/-- A digit, nought behind the end. -/
def dg (l : List Nat) (i : Nat) : Nat := l.getD i 0
theorem dg_lt {l : List Nat} (h : Dg l) (i : Nat) : dg l i < 65536 := by
  unfold dg
  rw [List.getD_eq_getElem?_getD]
  by_cases hi : i < l.length
  · rw [List.getElem?_eq_getElem hi]
    exact h _ (List.getElem_mem _)
  · rw [List.getElem?_eq_none (by omega)]
    decide
theorem valT (l : List Nat) (i : Nat) : valL (l.take (i + 1)) = valL (l.take i) + 65536 ^ i * dg l i := by
  by_cases hi : i < l.length
  · rw [valL_take l i hi]
    simp [dg, hi]
  · rw [List.take_of_length_le (by omega), List.take_of_length_le (by omega)]
    simp [dg, List.getElem?_eq_none (show l.length ≤ i by omega)]
/-- One step of a sum: a digit is put down, the rest goes on. -/
theorem carry_step (S : List Nat) (i c a t : Nat) (hl : S.length = i) (h : valL S + 65536 ^ i * c = t) : valL (S ++ [(c + a) % 65536]) + 65536 ^ (i + 1) * ((c + a) / 65536) = t + 65536 ^ i * a := by
  rw [valL_snoc, hl, Nat.pow_succ, ← h]
  have h1 := Nat.div_add_mod (c + a) 65536
  have h2 : 65536 ^ i * ((c + a) % 65536) + 65536 ^ i * 65536 * ((c + a) / 65536) = 65536 ^ i * (c + a) := by
    rw [Nat.mul_assoc, ← Nat.mul_add]
    congr 1
    omega
  rw [Nat.mul_add] at h2
  omega
theorem hi_step (H : List Nat) (i : Nat) : 65536 * valL (H.take (i - 1)) + 65536 ^ i * (if 0 < i then dg H (i - 1) else 0) = 65536 * valL (H.take i) := by
  cases i with
  | zero => simp
  | succ i =>
    rw [if_pos (by omega), show i + 1 - 1 = i by omega, valT H i, Nat.pow_succ, Nat.mul_add, ← Nat.mul_assoc, Nat.mul_comm 65536 (65536 ^ i)]
theorem dg_end {l : List Nat} {i : Nat} (h : l.length ≤ i) : dg l i = 0 := by simp [dg, List.getElem?_eq_none h]
theorem dg_at {l : List Nat} {i : Nat} (h : i < l.length) : dg l i = l[i] := by simp [dg, h]
/-- Numbers of 64 bits, reckoned as numbers. -/
theorem addU (t : TypeId) (a b : Nat) (h : a + b < 18446744073709551616) : binOp .add t (.int .u64 (a : Int)) (.int .u64 (b : Int)) = pure (.int .u64 ((a + b : Nat) : Int)) := by
  have e : IntKind.u64.wrap ((a : Int) + (b : Int)) = ((a + b : Nat) : Int) := by
    simp [IntKind.wrap, IntKind.bits, IntKind.signed]
    omega
  exact congrArg (fun x => (pure (Value.int .u64 x) : Sem Value)) e
theorem mulU (t : TypeId) (a b : Nat) (h : a * b < 18446744073709551616) : binOp .mul t (.int .u64 (a : Int)) (.int .u64 (b : Int)) = pure (.int .u64 ((a * b : Nat) : Int)) := by
  have e : IntKind.u64.wrap ((a : Int) * (b : Int)) = ((a * b : Nat) : Int) := by
    rw [← Int.natCast_mul]
    simp [IntKind.wrap, IntKind.bits, IntKind.signed]
    omega
  exact congrArg (fun x => (pure (Value.int .u64 x) : Sem Value)) e
theorem andU (t : TypeId) (a : Nat) (h : a < 18446744073709551616) : binOp .and t (.int .u64 (a : Int)) (.int .u64 65535) = pure (.int .u64 ((a % 65536 : Nat) : Int)) := by
  have e : IntKind.u64.wrap ((BitVec.ofInt 64 (a : Int) &&& BitVec.ofInt 64 65535).toNat : Int) = ((a % 65536 : Nat) : Int) := by
    have h1 : (BitVec.ofInt 64 (a : Int) &&& BitVec.ofInt 64 65535).toNat = a % 65536 := by
      rw [BitVec.toNat_and]
      have h2 : (BitVec.ofInt 64 (a : Int)).toNat = a := by
        rw [BitVec.toNat_ofInt]
        omega
      have h3 : (BitVec.ofInt 64 65535).toNat = 2 ^ 16 - 1 := by decide
      rw [h2, h3, Nat.and_two_pow_sub_one_eq_mod]
    rw [h1]
    simp [IntKind.wrap, IntKind.bits, IntKind.signed]
    omega
  exact congrArg (fun x => (pure (Value.int .u64 x) : Sem Value)) e
theorem shrU (t : TypeId) (a c : Nat) (yk : IntKind) (h : c ≤ 64) : binOp .shr t (.int .u64 (a : Int)) (.int yk (c : Int)) = pure (.int .u64 ((a / 2 ^ c : Nat) : Int)) := by
  have hn : ¬ ((c : Int) < 0) := by omega
  simp only [binOp, Op.shift, hn, if_false, IntKind.bits, Int.toNat_natCast, Nat.min_eq_left h]
  rw [Int.fdiv_eq_ediv_of_nonneg _ (by exact Int.pow_nonneg (by decide)), Int.natCast_ediv, Int.natCast_pow]
  rfl
end Go.Xr
namespace Go.Proofs.Ytkohnmlnpbkphaa
open Go Go.Xr Go.RowKit
set_option linter.unusedVariables false
set_option linter.unusedSimpArgs false
def dv (d : Nat) : Value := .int .u64 (d : Int)
set_option maxRecDepth 20000 in
theorem infU64 : ∃ i, Try.prog.info? 42 = some i ∧ i.zero = some (.int .u64 0) ∧ i.size = 1 ∧ i.bytes = 8 := ⟨_, rfl, rfl, rfl, rfl⟩
theorem dv_at {w : World} {la : Option Addr} {n lc i : Nat} {l : List Nat} {B : Option Nat} (h : Rc w 1 (.slice la n lc) n (l.map dv) B) (hi : i < n) :
    ∃ lb off, la = some ⟨lb, off, none⟩ ∧ lb < w.heap.size ∧ w.cell? ⟨lb, off + i, none⟩ = some (.int .u64 (dg l i : Int)) := by
  have hn : l.length = n := by have := h.1; simpa using this
  obtain ⟨b, off, c, hB, hv, h1, h2, h3, h4⟩ := h.some (by omega)
  obtain ⟨rfl, rfl⟩ : la = some ⟨b, off, none⟩ ∧ lc = c := by simpa using hv
  refine ⟨b, off, rfl, h3, ?_⟩
  rw [h4 i (by simp; omega), List.getElem?_map, List.getElem?_eq_getElem (by omega), dg_at (by omega)]
  rfl
def TimesTo (w w' : World) (l : List Nat) (x k : Nat) (e : Ending) : Prop := (∃ (u : Value) (R : List Nat) (B : Option Nat), e = .returned u ∧ Rc w' 1 u R.length (R.map dv) B ∧ Dg R ∧ valL R = valL l * x ∧ R.length ≤ l.length + 1 + 2 * k) ∧ Fr [] w w'
/-- The document's product of digits by a number of less than so many digits. -/
def TimesOk (k : Nat) : Prop := ∀ (w : World) (v : Value) (l : List Nat) (LB : Option Nat) (x : Nat), x < 65536 ^ (k + 1) → Dg l → l.length ≤ 1000 → Rc w 1 v l.length (l.map dv) LB →
    Calls Try.prog 42 #[v, .int .u64 (x : Int)] w fun e w' => TimesTo w w' l x k e
set_option maxRecDepth 20000 in
set_option maxHeartbeats 4000000 in
theorem times_step (k : Nat) (hk : k ≤ 3) (ih : ∀ k', k = k' + 1 → TimesOk k') : TimesOk k := by
    intro w v l LB x hx hD hl1 hl
    have Ih := hid ih
    clear ih
    have HT : Hid (∀ (w' : World) (e : Ending), ((∃ (u : Value) (R : List Nat) (B : Option Nat), e = .returned u ∧ Rc w' 1 u R.length (R.map dv) B ∧ Dg R ∧ valL R = valL l * x ∧ R.length ≤ l.length + 1 + 2 * k) ∧ Fr [] w w') → TimesTo w w' l x k e) := hid fun _ _ h => h
    obtain ⟨i9, hi9, hz9, hs9, hb9⟩ := infU64
    have Hi := hid hi9
    have Hz := hid hz9
    have Hs := hid hs9
    have Hb := hid hb9
    obtain ⟨la, lc, rfl⟩ := hl.isSlice
    have Hl := hid hl
    have HD := hid hD
    obtain ⟨n, hn⟩ : ∃ n, l.length = n := ⟨_, rfl⟩
    have Hn := hid hn
    rw [hn] at hl1 ⊢
    have hx64 : x < 18446744073709551616 := by
      have : 65536 ^ (k + 1) ≤ 65536 ^ 4 := Nat.pow_le_pow_right (by decide) (by omega)
      have h4 : 65536 ^ 4 = 18446744073709551616 := by decide
      omega
    obtain ⟨x0, hx0⟩ : ∃ x0, x % 65536 = x0 := ⟨_, rfl⟩
    have hx0l : x0 < 65536 := by omega
    have handx : ∀ t, binOp .and t (.int .u64 (x : Int)) (.int .u64 65535) = pure (.int .u64 (x0 : Int)) := fun t => by rw [← hx0]; exact andU t x hx64
    obtain ⟨xh, hxh⟩ : ∃ xh, x / 65536 = xh := ⟨_, rfl⟩
    have hshx : ∀ t, binOp .shr t (.int .u64 (x : Int)) (.int .u64 16) = pure (.int .u64 (xh : Int)) := fun t => by rw [← hxh]; exact shrU t x 16 .u64 (by decide)
    have Hx := hid hx
    have Hxx := hid (show x = x0 + 65536 * xh by omega)
    clear hl hn hi9 hz9 hs9 hb9 hD hx0 hxh hx
    go_enter Try.func42, Try.ntmps42
    go_wp2_with fail
    go_loopw [5, 6, 7] (fun ov cv iv wr => ∃ (i c : Nat) (O : List Nat) (B : Option Nat), iv = .int .i64 i ∧ cv = .int .u64 c ∧ c < 65536 ∧ Xr.Own wr 1 ov i (O.map dv) B ∧ Hid (Dg O) ∧ Hid (valL O + 65536 ^ i * c = valL (l.take i) * x0) ∧ i ≤ n + 1 ∧ (n < i → c = 0) ∧ (∀ b, B = some b → w.heap.size ≤ b) ∧ Fr [] w wr) (fun _ _ iv _ => n + 2 - (intOf iv).toNat)
    case atStart => exact ⟨0, 0, [], none, rfl, rfl, by decide, Xr.Own.nil _ 1, hid (fun d hd => by cases hd), hid (by simp [valL]), by omega, by omega, by simp, Fr.refl _ _⟩
    case round =>
      obtain ⟨i, c, O, B, rfl, rfl, hc, own, HO, HE, hi, hci, hB, f⟩ := hrel
      have hBS : ∀ b ∈ B.toList, b ∈ ([] : List Nat) ∨ w.heap.size ≤ b := fun b hb => .inr (hB b (by simpa using hb))
      have HOl := hid (show O.length = i by have := own.1; simpa using this)
      obtain ⟨oa, oc, rfl⟩ := own.isSlice
      by_cases hin : i < n
      case pos =>
        have h1 : decide (i < n) = true := by simp; omega
        obtain ⟨lb, off, rfl, _, hcell⟩ := dv_at (Hn.out ▸ Hl.out.keep f (by simp)) hin
        have hdl : dg l i < 65536 := dg_lt HD.out i
        have Hnx := hid (valT l i)
        obtain ⟨d, hd⟩ : ∃ d, dg l i = d := ⟨_, rfl⟩
        rw [hd] at hcell hdl Hnx
        have hdm : d * x0 ≤ 65535 * 65535 := Nat.mul_le_mul (by omega) (by omega)
        have hmul : ∀ t, binOp .mul t (.int .u64 (d : Int)) (.int .u64 (x0 : Int)) = pure (.int .u64 ((d * x0 : Nat) : Int)) := fun t => mulU t d x0 (by omega)
        obtain ⟨m, hm⟩ : ∃ m, d * x0 = m := ⟨_, rfl⟩
        have Hm := hid hm
        rw [hm] at hmul hdm
        have hadd : ∀ t, binOp .add t (.int .u64 (c : Int)) (.int .u64 (m : Int)) = pure (.int .u64 ((c + m : Nat) : Int)) := fun t => addU t c m (by omega)
        obtain ⟨s, hs⟩ : ∃ s, c + m = s := ⟨_, rfl⟩
        have Hss := hid hs
        rw [hs] at hadd
        have hsl : s ≤ 4294901760 := by omega
        obtain ⟨s0, hs0⟩ : ∃ s0, s % 65536 = s0 := ⟨_, rfl⟩
        obtain ⟨s1, hs1⟩ : ∃ s1, s / 65536 = s1 := ⟨_, rfl⟩
        have hand : ∀ t, binOp .and t (.int .u64 ((s : Nat) : Int)) (.int .u64 65535) = pure (.int .u64 (s0 : Int)) := fun t => by rw [← hs0]; exact andU t _ (by omega)
        have hshr : ∀ t, binOp .shr t (.int .u64 ((s : Nat) : Int)) (.int .u64 16) = pure (.int .u64 (s1 : Int)) := fun t => by rw [← hs1]; exact shrU t _ 16 .u64 (by decide)
        have hs1l : s1 < 65536 := by omega
        have Hs0 := hid hs0
        have Hs1 := hid hs1
        have hs0l : s0 < 65536 := by omega
        clear hd hm hs hs0 hs1
        go_wp2_with (refine wpList_append1 rfl rfl 80 _ _ _ rfl rfl 42 _ _ 8 Try.underlying80 Hi.out Hz.out Hs.out Hb.out rfl (.int .u64 (s0 : Int)) rfl rfl rfl rfl own (by unfold maxLen; omega) (by omega) ?_; intro v3 w3 B3 own3 f3 hB3; simp only [World.size_alloc, World.size_drew, Act.put, List.setIfInBounds_toArray, List.set_cons_succ, List.set_cons_zero])
        have hB4 : ∀ b, B3 = some b → w.heap.size ≤ b := by
          have := f.size
          rcases hB3 with h | ⟨b, h, hb⟩
          · rw [h]; exact hB
          · intro b' hb'; rw [h] at hb'; cases hb'; omega
        go_roundw
        case rel =>
          refine ⟨i + 1, s1, O ++ [s0], B3, by go_num, rfl, hs1l, by simpa [dv] using own3, hid (HO.out.snoc hs0l), hid ?_, by omega, by omega, hB4, f.trans f3 hBS⟩
          have := carry_step O i c m _ HOl.out HE.out
          rw [Hss.out, Hs0.out, Hs1.out] at this
          rw [this, Hnx.out, Nat.add_mul, Nat.mul_assoc, Hm.out]
        case measure => simp [intOf]; omega
      case neg =>
        have h1 : decide (i < n) = false := by simp; omega
        by_cases hc0 : 0 < c
        case pos =>
          have h2 : decide ((0 : Int) < (c : Int)) = true := by simp; omega
          have h2' : decide (0 < c) = true := by simp; omega
          have hin2 : i = n := by omega
          obtain ⟨s0, hs0⟩ : ∃ s0, c % 65536 = s0 := ⟨_, rfl⟩
          obtain ⟨s1, hs1⟩ : ∃ s1, c / 65536 = s1 := ⟨_, rfl⟩
          have hand : ∀ t, binOp .and t (.int .u64 ((c : Nat) : Int)) (.int .u64 65535) = pure (.int .u64 (s0 : Int)) := fun t => by rw [← hs0]; exact andU t _ (by omega)
          have hshr : ∀ t, binOp .shr t (.int .u64 ((c : Nat) : Int)) (.int .u64 16) = pure (.int .u64 (s1 : Int)) := fun t => by rw [← hs1]; exact shrU t _ 16 .u64 (by decide)
          have hs1l : s1 = 0 := by omega
          have Hs0 := hid hs0
          have Hs1 := hid hs1
          have hs0l : s0 < 65536 := by omega
          clear hs0 hs1
          subst hs1l
          go_wp2_with (refine wpList_append1 rfl rfl 80 _ _ _ rfl rfl 42 _ _ 8 Try.underlying80 Hi.out Hz.out Hs.out Hb.out rfl (.int .u64 (s0 : Int)) rfl rfl rfl rfl own (by unfold maxLen; omega) (by omega) ?_; intro v3 w3 B3 own3 f3 hB3; simp only [World.size_alloc, World.size_drew, Act.put, List.setIfInBounds_toArray, List.set_cons_succ, List.set_cons_zero])
          have hB4 : ∀ b, B3 = some b → w.heap.size ≤ b := by
            have := f.size
            rcases hB3 with h | ⟨b, h, hb⟩
            · rw [h]; exact hB
            · intro b' hb'; rw [h] at hb'; cases hb'; omega
          go_roundw
          case rel =>
            refine ⟨i + 1, 0, O ++ [s0], B3, by go_num, rfl, by decide, by simpa [dv] using own3, hid (HO.out.snoc hs0l), hid ?_, by omega, by omega, hB4, f.trans f3 hBS⟩
            have := carry_step O i c 0 _ HOl.out HE.out
            rw [Nat.add_zero, Hs0.out, Hs1.out, List.take_of_length_le (by rw [Hn.out]; omega)] at this
            rw [List.take_of_length_le (by rw [Hn.out]; omega)]
            simpa using this
          case measure => simp [intOf]; omega
        case neg =>
          have hcz : c = 0 := by omega
          subst hcz
          have HV := hid (show valL O = valL l * x0 by
            have := HE.out
            rw [Nat.mul_zero, Nat.add_zero, List.take_of_length_le (by rw [Hn.out]; omega)] at this
            exact this)
          by_cases hxh0 : xh = 0
          case pos =>
            have h3 : ((xh : Int) == 0) = true := by simp; omega
            have Hx00 := hid (show x = x0 by rw [Hxx.out, hxh0]; rfl)
            subst hxh0
            go_wp2_with fail
            go_ret
            refine HT.out _ _ ⟨⟨_, O, B, rfl, ?_, HO.out, by rw [HV.out, ← Hx00.out], by rw [HOl.out, Hn.out]; omega⟩, f⟩
            rw [HOl.out]
            exact own.rd.rc
          case neg =>
            have h3 : ((xh : Int) == 0) = false := by simp; omega
            obtain ⟨k', hk'⟩ : ∃ k', k = k' + 1 := by
              cases k with
              | zero =>
                have h4 := Hx.out
                have h5 := Hxx.out
                rw [Nat.zero_add, Nat.pow_one] at h4
                omega
              | succ k' => exact ⟨k', rfl⟩
            have hxl : xh < 65536 ^ (k' + 1) := by
              have h4 := Hx.out
              have h5 := Hxx.out
              rw [hk', Nat.pow_succ] at h4
              omega
            have HR := hid (Ih.out k' hk' wr _ l LB xh hxl HD.out (by rw [Hn.out]; exact hl1) (Hl.out.keep f (by simp)))
            rw [Hn.out] at HR
            have hcr := own.rd.rc
            have Hk' := hid hk'
            have hkb : k' ≤ 2 := by omega
            clear HE hci own hxl hk'
            go_wp2_with fail
            refine HR.out.mono ?_
            rintro e w4 ⟨⟨u, R, RB, rfl, hR, hRD, hRv, hRl⟩, f4⟩
            obtain ⟨ra, rc, rfl⟩ := hR.isSlice
            have HRD := hid hRD
            have HRv := hid hRv
            obtain ⟨nh, hnh⟩ : ∃ nh, R.length = nh := ⟨_, rfl⟩
            have Hnh := hid hnh
            rw [hnh] at hR hRl ⊢
            rw [Hn.out] at hRl
            have hO4 := hcr.keep f4 (by simp)
            have g4 := f.trans' f4
            clear hRD hRv hnh hcr f f4 HR Ih hB hBS hin h1 hc hc0
            go_wp2_with fail
            obtain ⟨M, hM1, hM2, hM3⟩ : ∃ M, i ≤ M ∧ nh + 1 ≤ M ∧ (M ≤ i ∨ M ≤ nh + 1) := by
              rcases Nat.le_total i (nh + 1) with h | h
              · exact ⟨nh + 1, h, Nat.le_refl _, .inr (Nat.le_refl _)⟩
              · exact ⟨i, Nat.le_refl _, h, .inl (Nat.le_refl _)⟩
            go_loopw [6, 9, 10] (fun cv sv jv wr2 => ∃ (j c : Nat) (S : List Nat) (B2 : Option Nat), jv = .int .i64 j ∧ cv = .int .u64 c ∧ c ≤ 2 ∧ Xr.Own wr2 1 sv j (S.map dv) B2 ∧ Hid (Dg S) ∧ Hid (valL S + 65536 ^ j * c = valL (O.take j) + 65536 * valL (R.take (j - 1))) ∧ j ≤ M + 1 ∧ (M < j → c = 0) ∧ (∀ b, B2 = some b → w4.heap.size ≤ b) ∧ Fr [] w4 wr2) (fun _ _ jv _ => M + 2 - (intOf jv).toNat)
            case atStart => exact ⟨0, 0, [], none, rfl, rfl, by decide, Xr.Own.nil _ 1, hid (fun d hd => by cases hd), hid (by simp [valL]), by omega, by omega, by simp, Fr.refl _ _⟩
            case round =>
              obtain ⟨j, c, S, B2, rfl, rfl, hc, own, HSD, HE2, hj, hcj, hB2, f⟩ := hrel
              have hBS : ∀ b ∈ B2.toList, b ∈ ([] : List Nat) ∨ w4.heap.size ≤ b := fun b hb => .inr (hB2 b (by simpa using hb))
              have HSl := hid (show S.length = j by have := own.1; simpa using this)
              have hjb : j ≤ 3000 := by omega
              have HRl := hid (show R.length = nh from Hnh.out)
              obtain ⟨sa, sc, rfl⟩ := own.isSlice
              have hAlt : dg O j < 65536 := dg_lt HO.out j
              have hBlt : (if 0 < j then dg R (j - 1) else 0) < 65536 := by
                split
                · exact dg_lt HRD.out _
                · decide
              have HA := hid (valT O j)
              have HBs := hid (hi_step R j)
              by_cases hjo : j < i
              case pos =>
                have h1 : decide (j < i) = true := by simp; omega
                obtain ⟨ob, oo, hoe, _, hca⟩ := dv_at (hO4.keep f (by simp)) hjo
                subst hoe
                obtain ⟨A, hA⟩ : ∃ A, dg O j = A := ⟨_, rfl⟩
                rw [hA] at hca hAlt HA
                have hadd1 : ∀ t, binOp .add t (.int .u64 (c : Int)) (.int .u64 (A : Int)) = pure (.int .u64 ((c + A : Nat) : Int)) := fun t => addU t c A (by omega)
                obtain ⟨c1, hc1⟩ : ∃ c1, c + A = c1 := ⟨_, rfl⟩
                rw [hc1] at hadd1
                by_cases hjh : 0 < j ∧ j - 1 < nh
                case pos =>
                  have hd4 : decide ((0 : Int) < (j : Int)) = true := by simp; omega
                  have hd4' : decide (0 < j) = true := by simp; omega
                  obtain ⟨e, he⟩ : ∃ e : Nat, (j : Int) - 1 = (e : Int) := Int.eq_ofNat_of_zero_le (by omega)
                  have hen : e < nh := by omega
                  have hen1 : decide (e < nh) = true := by simp; omega
                  obtain ⟨rb, ro, hre, _, hcb⟩ := dv_at (hR.keep f (by simp)) hen
                  subst hre
                  have hje : j - 1 = e := by omega
                  rw [if_pos hjh.1, hje] at hBlt HBs
                  obtain ⟨Bv, hBv⟩ : ∃ Bv, dg R e = Bv := ⟨_, rfl⟩
                  rw [hBv] at hcb hBlt HBs
                  have hadd2 : ∀ t, binOp .add t (.int .u64 (c1 : Int)) (.int .u64 (Bv : Int)) = pure (.int .u64 ((c1 + Bv : Nat) : Int)) := fun t => addU t c1 Bv (by omega)
                  clear hBv
                  obtain ⟨s, hs⟩ : ∃ s, c1 + Bv = s := ⟨_, rfl⟩
                  rw [hs] at hadd2
                  have hsl : s ≤ 131072 := by omega
                  have Hss := hid (show c + (A + Bv) = s by omega)
                  obtain ⟨s0, hs0⟩ : ∃ s0, s % 65536 = s0 := ⟨_, rfl⟩
                  obtain ⟨s1, hs1⟩ : ∃ s1, s / 65536 = s1 := ⟨_, rfl⟩
                  have hand : ∀ t, binOp .and t (.int .u64 ((s : Nat) : Int)) (.int .u64 65535) = pure (.int .u64 (s0 : Int)) := fun t => by rw [← hs0]; exact andU t _ (by omega)
                  have hshr : ∀ t, binOp .shr t (.int .u64 ((s : Nat) : Int)) (.int .u64 16) = pure (.int .u64 (s1 : Int)) := fun t => by rw [← hs1]; exact shrU t _ 16 .u64 (by decide)
                  have hs1l : s1 ≤ 2 := by omega
                  have hs0l : s0 < 65536 := by omega
                  have Hs0 := hid hs0
                  have Hs1 := hid hs1
                  clear hs hs0 hs1 hc1
                  go_wp2_with (refine wpList_append1 rfl rfl 80 _ _ _ rfl rfl 42 _ _ 8 Try.underlying80 Hi.out Hz.out Hs.out Hb.out rfl (.int .u64 (s0 : Int)) rfl rfl rfl rfl own (by unfold maxLen; omega) (by omega) ?_; intro v3 w3 B3 own3 f3 hB3; simp only [World.size_alloc, World.size_drew, Act.put, List.setIfInBounds_toArray, List.set_cons_succ, List.set_cons_zero])
                  have hB4 : ∀ b, B3 = some b → w4.heap.size ≤ b := by
                    have := f.size
                    rcases hB3 with h | ⟨b, h, hb⟩
                    · rw [h]; exact hB2
                    · intro b' hb'; rw [h] at hb'; cases hb'; omega
                  go_roundw
                  case rel =>
                    refine ⟨j + 1, s1, S ++ [s0], B3, by go_num, rfl, hs1l, by simpa [dv] using own3, hid (HSD.out.snoc hs0l), hid ?_, by omega, by omega, hB4, f.trans f3 hBS⟩
                    have := carry_step S j c (A + Bv) _ HSl.out HE2.out
                    rw [Hss.out, Hs0.out, Hs1.out] at this
                    rw [this, HA.out, show j + 1 - 1 = j by omega, ← HBs.out, hje, Nat.mul_add]
                    omega
                  case measure => simp [intOf]; omega
                case neg =>
                  have hif : (if 0 < j then dg R (j - 1) else 0) = 0 := by
                    split
                    · exact dg_end (by rw [HRl.out]; omega)
                    · rfl
                  rw [hif] at HBs
                  have hd4 : (decide ((0 : Int) < (j : Int)) = false ∧ decide (0 < j) = false) ∨ (decide ((0 : Int) < (j : Int)) = true ∧ decide (0 < j) = true ∧ decide ((j : Int) - 1 < (nh : Int)) = false) := by
                    by_cases h : 0 < j
                    · exact .inr ⟨by simp; omega, by simp; omega, by simp; omega⟩
                    · exact .inl ⟨by simp; omega, by simp; omega⟩
                  clear hif
                  have Hss := hid (show c + (A + 0) = c1 by omega)
                  have hsl : c1 ≤ 131072 := by omega
                  obtain ⟨s0, hs0⟩ : ∃ s0, c1 % 65536 = s0 := ⟨_, rfl⟩
                  obtain ⟨s1, hs1⟩ : ∃ s1, c1 / 65536 = s1 := ⟨_, rfl⟩
                  have hand : ∀ t, binOp .and t (.int .u64 ((c1 : Nat) : Int)) (.int .u64 65535) = pure (.int .u64 (s0 : Int)) := fun t => by rw [← hs0]; exact andU t _ (by omega)
                  have hshr : ∀ t, binOp .shr t (.int .u64 ((c1 : Nat) : Int)) (.int .u64 16) = pure (.int .u64 (s1 : Int)) := fun t => by rw [← hs1]; exact shrU t _ 16 .u64 (by decide)
                  have hs1l : s1 ≤ 2 := by omega
                  have hs0l : s0 < 65536 := by omega
                  have hs1z : M < j + 1 → s1 = 0 := by omega
                  have Hs0 := hid hs0
                  have Hs1 := hid hs1
                  clear hs0 hs1 hc1
                  rcases hd4 with ⟨hd4, hd4'⟩ | ⟨hd4, hd4', hd5⟩
                  all_goals
                    go_wp2_with (refine wpList_append1 rfl rfl 80 _ _ _ rfl rfl 42 _ _ 8 Try.underlying80 Hi.out Hz.out Hs.out Hb.out rfl (.int .u64 (s0 : Int)) rfl rfl rfl rfl own (by unfold maxLen; omega) (by omega) ?_; intro v3 w3 B3 own3 f3 hB3; simp only [World.size_alloc, World.size_drew, Act.put, List.setIfInBounds_toArray, List.set_cons_succ, List.set_cons_zero])
                    have hB4 : ∀ b, B3 = some b → w4.heap.size ≤ b := by
                      have := f.size
                      rcases hB3 with h | ⟨b, h, hb⟩
                      · rw [h]; exact hB2
                      · intro b' hb'; rw [h] at hb'; cases hb'; omega
                    go_roundw
                    case rel =>
                      refine ⟨j + 1, s1, S ++ [s0], B3, by go_num, rfl, hs1l, by simpa [dv] using own3, hid (HSD.out.snoc hs0l), hid ?_, by omega, hs1z, hB4, f.trans f3 hBS⟩
                      have := carry_step S j c (A + 0) _ HSl.out HE2.out
                      rw [Hss.out, Hs0.out, Hs1.out] at this
                      rw [this, HA.out, show j + 1 - 1 = j by omega, ← HBs.out, Nat.mul_add]
                      omega
                    case measure => simp [intOf]; omega
              case neg =>
                have h1 : decide (j < i) = false := by simp; omega
                have hA0 : dg O j = 0 := dg_end (by rw [HOl.out]; omega)
                rw [hA0] at HA
                by_cases hjn : j ≤ nh
                case pos =>
                  have h2 : decide (j ≤ nh) = true := by simp; omega
                  have hc1 : c + 0 = c := Nat.add_zero c
                  by_cases hjh : 0 < j ∧ j - 1 < nh
                  case pos =>
                    have hd4 : decide ((0 : Int) < (j : Int)) = true := by simp; omega
                    have hd4' : decide (0 < j) = true := by simp; omega
                    obtain ⟨e, he⟩ : ∃ e : Nat, (j : Int) - 1 = (e : Int) := Int.eq_ofNat_of_zero_le (by omega)
                    have hen : e < nh := by omega
                    have hen1 : decide (e < nh) = true := by simp; omega
                    obtain ⟨rb, ro, hre, _, hcb⟩ := dv_at (hR.keep f (by simp)) hen
                    subst hre
                    have hje : j - 1 = e := by omega
                    rw [if_pos hjh.1, hje] at hBlt HBs
                    obtain ⟨Bv, hBv⟩ : ∃ Bv, dg R e = Bv := ⟨_, rfl⟩
                    rw [hBv] at hcb hBlt HBs
                    have hadd2 : ∀ t, binOp .add t (.int .u64 (c : Int)) (.int .u64 (Bv : Int)) = pure (.int .u64 ((c + Bv : Nat) : Int)) := fun t => addU t c Bv (by omega)
                    clear hBv
                    obtain ⟨s, hs⟩ : ∃ s, c + Bv = s := ⟨_, rfl⟩
                    rw [hs] at hadd2
                    have hsl : s ≤ 131072 := by omega
                    have Hss := hid (show c + (0 + Bv) = s by omega)
                    obtain ⟨s0, hs0⟩ : ∃ s0, s % 65536 = s0 := ⟨_, rfl⟩
                    obtain ⟨s1, hs1⟩ : ∃ s1, s / 65536 = s1 := ⟨_, rfl⟩
                    have hand : ∀ t, binOp .and t (.int .u64 ((s : Nat) : Int)) (.int .u64 65535) = pure (.int .u64 (s0 : Int)) := fun t => by rw [← hs0]; exact andU t _ (by omega)
                    have hshr : ∀ t, binOp .shr t (.int .u64 ((s : Nat) : Int)) (.int .u64 16) = pure (.int .u64 (s1 : Int)) := fun t => by rw [← hs1]; exact shrU t _ 16 .u64 (by decide)
                    have hs1l : s1 ≤ 2 := by omega
                    have hs0l : s0 < 65536 := by omega
                    have Hs0 := hid hs0
                    have Hs1 := hid hs1
                    clear hs hs0 hs1 hc1
                    go_wp2_with (refine wpList_append1 rfl rfl 80 _ _ _ rfl rfl 42 _ _ 8 Try.underlying80 Hi.out Hz.out Hs.out Hb.out rfl (.int .u64 (s0 : Int)) rfl rfl rfl rfl own (by unfold maxLen; omega) (by omega) ?_; intro v3 w3 B3 own3 f3 hB3; simp only [World.size_alloc, World.size_drew, Act.put, List.setIfInBounds_toArray, List.set_cons_succ, List.set_cons_zero])
                    have hB4 : ∀ b, B3 = some b → w4.heap.size ≤ b := by
                      have := f.size
                      rcases hB3 with h | ⟨b, h, hb⟩
                      · rw [h]; exact hB2
                      · intro b' hb'; rw [h] at hb'; cases hb'; omega
                    go_roundw
                    case rel =>
                      refine ⟨j + 1, s1, S ++ [s0], B3, by go_num, rfl, hs1l, by simpa [dv] using own3, hid (HSD.out.snoc hs0l), hid ?_, by omega, by omega, hB4, f.trans f3 hBS⟩
                      have := carry_step S j c (0 + Bv) _ HSl.out HE2.out
                      rw [Hss.out, Hs0.out, Hs1.out] at this
                      rw [this, HA.out, show j + 1 - 1 = j by omega, ← HBs.out, hje, Nat.mul_add]
                      omega
                    case measure => simp [intOf]; omega
                  case neg =>
                    have hif : (if 0 < j then dg R (j - 1) else 0) = 0 := by
                      split
                      · exact dg_end (by rw [HRl.out]; omega)
                      · rfl
                    rw [hif] at HBs
                    have hd4 : (decide ((0 : Int) < (j : Int)) = false ∧ decide (0 < j) = false) ∨ (decide ((0 : Int) < (j : Int)) = true ∧ decide (0 < j) = true ∧ decide ((j : Int) - 1 < (nh : Int)) = false) := by
                      by_cases h : 0 < j
                      · exact .inr ⟨by simp; omega, by simp; omega, by simp; omega⟩
                      · exact .inl ⟨by simp; omega, by simp; omega⟩
                    clear hif
                    have Hss := hid (show c + (0 + 0) = c by omega)
                    have hsl : c ≤ 131072 := by omega
                    obtain ⟨s0, hs0⟩ : ∃ s0, c % 65536 = s0 := ⟨_, rfl⟩
                    obtain ⟨s1, hs1⟩ : ∃ s1, c / 65536 = s1 := ⟨_, rfl⟩
                    have hand : ∀ t, binOp .and t (.int .u64 ((c : Nat) : Int)) (.int .u64 65535) = pure (.int .u64 (s0 : Int)) := fun t => by rw [← hs0]; exact andU t _ (by omega)
                    have hshr : ∀ t, binOp .shr t (.int .u64 ((c : Nat) : Int)) (.int .u64 16) = pure (.int .u64 (s1 : Int)) := fun t => by rw [← hs1]; exact shrU t _ 16 .u64 (by decide)
                    have hs1l : s1 ≤ 2 := by omega
                    have hs0l : s0 < 65536 := by omega
                    have hs1z : M < j + 1 → s1 = 0 := by omega
                    have Hs0 := hid hs0
                    have Hs1 := hid hs1
                    clear hs0 hs1 hc1
                    rcases hd4 with ⟨hd4, hd4'⟩ | ⟨hd4, hd4', hd5⟩
                    all_goals
                      go_wp2_with (refine wpList_append1 rfl rfl 80 _ _ _ rfl rfl 42 _ _ 8 Try.underlying80 Hi.out Hz.out Hs.out Hb.out rfl (.int .u64 (s0 : Int)) rfl rfl rfl rfl own (by unfold maxLen; omega) (by omega) ?_; intro v3 w3 B3 own3 f3 hB3; simp only [World.size_alloc, World.size_drew, Act.put, List.setIfInBounds_toArray, List.set_cons_succ, List.set_cons_zero])
                      have hB4 : ∀ b, B3 = some b → w4.heap.size ≤ b := by
                        have := f.size
                        rcases hB3 with h | ⟨b, h, hb⟩
                        · rw [h]; exact hB2
                        · intro b' hb'; rw [h] at hb'; cases hb'; omega
                      go_roundw
                      case rel =>
                        refine ⟨j + 1, s1, S ++ [s0], B3, by go_num, rfl, hs1l, by simpa [dv] using own3, hid (HSD.out.snoc hs0l), hid ?_, by omega, hs1z, hB4, f.trans f3 hBS⟩
                        have := carry_step S j c (0 + 0) _ HSl.out HE2.out
                        rw [Hss.out, Hs0.out, Hs1.out] at this
                        rw [this, HA.out, show j + 1 - 1 = j by omega, ← HBs.out, Nat.mul_add]
                        omega
                      case measure => simp [intOf]; omega
                case neg =>
                  have h2 : decide (j ≤ nh) = false := by simp; omega
                  by_cases hc0 : 0 < c
                  case pos =>
                    have h3 : decide ((0 : Int) < (c : Int)) = true := by simp; omega
                    have h3' : decide (0 < c) = true := by simp; omega
                    have hc1 : c + 0 = c := Nat.add_zero c
                    have hjh : ¬ (0 < j ∧ j - 1 < nh) := by omega
                    have hif : (if 0 < j then dg R (j - 1) else 0) = 0 := by
                      split
                      · exact dg_end (by rw [HRl.out]; omega)
                      · rfl
                    rw [hif] at HBs
                    have hd4 : (decide ((0 : Int) < (j : Int)) = false ∧ decide (0 < j) = false) ∨ (decide ((0 : Int) < (j : Int)) = true ∧ decide (0 < j) = true ∧ decide ((j : Int) - 1 < (nh : Int)) = false) := by
                      by_cases h : 0 < j
                      · exact .inr ⟨by simp; omega, by simp; omega, by simp; omega⟩
                      · exact .inl ⟨by simp; omega, by simp; omega⟩
                    clear hif
                    have Hss := hid (show c + (0 + 0) = c by omega)
                    have hsl : c ≤ 131072 := by omega
                    obtain ⟨s0, hs0⟩ : ∃ s0, c % 65536 = s0 := ⟨_, rfl⟩
                    obtain ⟨s1, hs1⟩ : ∃ s1, c / 65536 = s1 := ⟨_, rfl⟩
                    have hand : ∀ t, binOp .and t (.int .u64 ((c : Nat) : Int)) (.int .u64 65535) = pure (.int .u64 (s0 : Int)) := fun t => by rw [← hs0]; exact andU t _ (by omega)
                    have hshr : ∀ t, binOp .shr t (.int .u64 ((c : Nat) : Int)) (.int .u64 16) = pure (.int .u64 (s1 : Int)) := fun t => by rw [← hs1]; exact shrU t _ 16 .u64 (by decide)
                    have hs1l : s1 ≤ 2 := by omega
                    have hs0l : s0 < 65536 := by omega
                    have hs1z : M < j + 1 → s1 = 0 := by omega
                    have Hs0 := hid hs0
                    have Hs1 := hid hs1
                    clear hs0 hs1 hc1
                    rcases hd4 with ⟨hd4, hd4'⟩ | ⟨hd4, hd4', hd5⟩
                    all_goals
                      go_wp2_with (refine wpList_append1 rfl rfl 80 _ _ _ rfl rfl 42 _ _ 8 Try.underlying80 Hi.out Hz.out Hs.out Hb.out rfl (.int .u64 (s0 : Int)) rfl rfl rfl rfl own (by unfold maxLen; omega) (by omega) ?_; intro v3 w3 B3 own3 f3 hB3; simp only [World.size_alloc, World.size_drew, Act.put, List.setIfInBounds_toArray, List.set_cons_succ, List.set_cons_zero])
                      have hB4 : ∀ b, B3 = some b → w4.heap.size ≤ b := by
                        have := f.size
                        rcases hB3 with h | ⟨b, h, hb⟩
                        · rw [h]; exact hB2
                        · intro b' hb'; rw [h] at hb'; cases hb'; omega
                      go_roundw
                      case rel =>
                        refine ⟨j + 1, s1, S ++ [s0], B3, by go_num, rfl, hs1l, by simpa [dv] using own3, hid (HSD.out.snoc hs0l), hid ?_, by omega, hs1z, hB4, f.trans f3 hBS⟩
                        have := carry_step S j c (0 + 0) _ HSl.out HE2.out
                        rw [Hss.out, Hs0.out, Hs1.out] at this
                        rw [this, HA.out, show j + 1 - 1 = j by omega, ← HBs.out, Nat.mul_add]
                        omega
                      case measure => simp [intOf]; omega
                  case neg =>
                    have hcz : c = 0 := by omega
                    subst hcz
                    have hfin : valL S = valL l * x := by
                      have h4 := HE2.out
                      rw [Nat.mul_zero, Nat.add_zero, List.take_of_length_le (by rw [HOl.out]; omega), List.take_of_length_le (by rw [HRl.out]; omega), HV.out, HRv.out] at h4
                      rw [h4, Hxx.out, Nat.mul_add, ← Nat.mul_assoc, ← Nat.mul_assoc, Nat.mul_comm 65536 (valL l)]
                    go_wp2_with fail
                    go_ret
                    refine HT.out _ _ ⟨⟨_, S, B2, rfl, ?_, HSD.out, hfin, by rw [HSl.out, Hn.out]; have := Hk'.out; omega⟩, g4.trans' f⟩
                    rw [HSl.out]
                    exact own.rd.rc
theorem times_ok : ∀ k, k ≤ 3 → TimesOk k
  | 0, h => times_step 0 h fun k' h => by omega
  | k + 1, h => times_step (k + 1) h fun k' h2 => by
    obtain rfl : k = k' := by omega
    exact times_ok k (by omega)
end Go.Proofs.Ytkohnmlnpbkphaa
