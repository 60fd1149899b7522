/- Layer 1, sha: the roots of the first primes. -/
import Derived.Test.YtkohnmlnpbkphaaShaY
namespace Go.Xr
open Go
set_option linter.unusedVariables false
/-- No smaller number divides it. -/
def prN (p : Nat) : Nat → Nat → Bool → Bool
  | 0, _, a => a
  | f + 1, q, a => if q * q ≤ p then prN p f (q + 1) (if p % q = 0 then false else a) else a
def rootsN (k n : Nat) : Nat → Nat → List Nat → List Nat
  | 0, _, l => l
  | f + 1, p, l => if l.length < n then rootsN k n f (p + 1) (if prN p 25 2 true then l ++ [rootN p k] else l) else l
theorem roots3 : rootsN 3 64 320 2 [] = K0.map UInt32.toNat := by decide +kernel
theorem roots2 : rootsN 2 8 320 2 [] = B0.map UInt32.toNat := by decide +kernel
theorem roots_short {k n f p : Nat} {l : List Nat} (h : l.length < n) (hr : (rootsN k n f p l).length = n) : 0 < f := by
  cases f with
  | zero => rw [rootsN] at hr; omega
  | succ f => omega
end Go.Xr
namespace Go.Proofs.Ytkohnmlnpbkphaa
open Go Go.Xr Go.RowKit
set_option linter.unusedVariables false
set_option linter.unusedSimpArgs false
def uv (r : Nat) : Value := .int .u32 (r : Int)
theorem remU (t : TypeId) (a b : Nat) (h : 0 < b) (ha : a < 18446744073709551616) : binOp .rem t (.int .u64 (a : Int)) (.int .u64 (b : Int)) = pure (.int .u64 ((a % b : Nat) : Int)) := by
  have hb : (b : Int) ≠ 0 := by omega
  have hm : a % b ≤ a := Nat.mod_le _ _
  have e : (a : Int).tmod (b : Int) = ((a % b : Nat) : Int) := by rw [Int.tmod_eq_emod_of_nonneg (by omega)]; rfl
  have e2 : IntKind.u64.wrap ((a % b : Nat) : Int) = ((a % b : Nat) : Int) := by
    simp [IntKind.wrap, IntKind.bits, IntKind.signed]
    omega
  simp only [binOp, Op.intDiv]
  rw [if_neg hb, e]
  rfl
set_option maxRecDepth 20000 in
set_option maxHeartbeats 4000000 in
theorem roots_any {w : World} (n : Nat) (third : Bool) (F : List Nat) (hF : rootsN (kk third) n 320 2 [] = F) (hFl : F.length = n) (hn : n ≤ 100) :
    Calls Try.prog 15 #[.int .i64 (n : Int), .bool third] w fun e w' => (∃ (u : Value) (B : Option Nat), e = .returned u ∧ Rc w' 1 u n (F.map uv) B) ∧ Fr [] w w' := by
  obtain ⟨i9, hi9, hz9, hs9, hb9⟩ := inf28
  have Hi := hid hi9
  have Hz := hid (show i9.zero = some (.int .u32 0) from hz9)
  have Hs := hid hs9
  have Hb := hid hb9
  have HF := hid hF
  have HFl := hid hFl
  clear hi9 hz9 hs9 hb9 hF hFl
  go_enter Try.func15, Try.ntmps15
  go_wp2_with fail
  go_loopw [5, 6] (fun ov pv wr => ∃ (p f m : Nat) (O : List Nat) (B : Option Nat), pv = .int .u64 p ∧ 2 ≤ p ∧ p + f = 322 ∧ m ≤ n ∧ Xr.Own wr 1 ov m (O.map uv) B ∧ Hid (rootsN (kk third) n f p O = F) ∧ (∀ b, B = some b → w.heap.size ≤ b) ∧ Fr [] w wr) (fun _ pv _ => 322 - (intOf pv).toNat)
  case atStart => exact ⟨2, 320, 0, [], none, rfl, by omega, by omega, by omega, Xr.Own.nil _ 1, HF, by simp, Fr.refl _ _⟩
  case round =>
    obtain ⟨p, f0, m, O, B, rfl, hp2, hpf, hmn, own, HE, hB, f⟩ := hrel
    clear HF
    have HOl := hid (show O.length = m by have := own.1; simpa using this)
    have hBS : ∀ b ∈ B.toList, b ∈ ([] : List Nat) ∨ w.heap.size ≤ b := fun b hb => .inr (hB b (by simpa using hb))
    obtain ⟨oa, oc, rfl⟩ := own.isSlice
    by_cases hm : m < n
    case neg =>
      have h1 : decide ((m : Int) < (n : Int)) = false := by simp; omega
      have h1' : decide (m < n) = false := by simp; omega
      have hOF : O = F := by
        have := HE.out
        cases f0 with
        | zero => rw [rootsN] at this; exact this
        | succ f0 => rw [rootsN, if_neg (by rw [HOl.out]; omega)] at this; exact this
      have hme : m = n := by omega
      subst hOF
      have hr := own.rd.rc
      clear own HE
      go_wp2_with fail
      go_ret
      exact ⟨⟨_, B, rfl, by rw [← hme]; exact hr⟩, f⟩
    case pos =>
      have h1 : decide ((m : Int) < (n : Int)) = true := by simp; omega
      have h1' : decide (m < n) = true := by simp; omega
      have hf0 : 0 < f0 := roots_short (by rw [HOl.out]; exact hm) (by rw [HE.out]; exact HFl.out)
      obtain ⟨f1, rfl⟩ : ∃ f1, f0 = f1 + 1 := ⟨f0 - 1, by omega⟩
      have HE2 := HE.out
      rw [rootsN, if_pos (by rw [HOl.out]; exact hm)] at HE2
      obtain ⟨P, hP⟩ : ∃ P, prN p 25 2 true = P := ⟨_, rfl⟩
      rw [hP] at HE2
      have HE3 := hid HE2
      have HP := hid hP
      have haddp : ∀ t, binOp .add t (.int .u64 (p : Int)) (.int .u64 1) = pure (.int .u64 ((p + 1 : Nat) : Int)) := fun t => addU t p 1 (by omega)
      obtain ⟨p1, hp1⟩ : ∃ p1, p + 1 = p1 := ⟨_, rfl⟩
      rw [hp1] at haddp
      have Hp1 := hid hp1
      have hpp : p1 + f1 = 322 ∧ 2 ≤ p1 ∧ p < p1 ∧ p ≤ 321 := by omega
      clear HE2 hP hp1 HE
      go_wp2_with fail
      go_loopw [7, 8] (fun av qv wr2 => ∃ (q g : Nat) (a : Bool), qv = .int .u64 q ∧ av = .bool a ∧ 2 ≤ q ∧ q ≤ 18 ∧ q + g = 27 ∧ Hid (prN p g q a = P) ∧ Fr [] wr wr2) (fun _ qv _ => 27 - (intOf qv).toNat)
      case atStart => exact ⟨2, 25, true, rfl, rfl, by omega, by omega, by omega, HP, Fr.refl _ _⟩
      case round =>
        obtain ⟨q, g0, a, rfl, rfl, hq2, hq18, hqg, HQ, f2⟩ := hrel
        obtain ⟨g, rfl⟩ : ∃ g, g0 = g + 1 := ⟨g0 - 1, by omega⟩
        have HQ2 := HQ.out
        rw [prN] at HQ2
        have hqq : q * q ≤ 18 * 18 := Nat.mul_le_mul hq18 hq18
        have hmul : ∀ t, binOp .mul t (.int .u64 (q : Int)) (.int .u64 (q : Int)) = pure (.int .u64 ((q * q : Nat) : Int)) := fun t => mulU t q q (by omega)
        have hqsq : q * q ≤ p → q ≤ 17 := fun h => by
          rcases Nat.lt_or_ge 17 q with h2 | h2
          · have := Nat.mul_le_mul h2 h2
            omega
          · exact h2
        obtain ⟨s, hs⟩ : ∃ s, q * q = s := ⟨_, rfl⟩
        rw [hs] at hmul hqsq HQ2
        clear hqq hs HQ
        by_cases hsp : s ≤ p
        case pos =>
          have h2 : decide ((s : Int) ≤ (p : Int)) = true := by simp; omega
          have h2' : decide (s ≤ p) = true := by simp; omega
          rw [if_pos hsp] at HQ2
          have hq17 := hqsq hsp
          have hrem : ∀ t, binOp .rem t (.int .u64 (p : Int)) (.int .u64 (q : Int)) = pure (.int .u64 ((p % q : Nat) : Int)) := fun t => remU t p q (by omega) (by omega)
          have haddq : ∀ t, binOp .add t (.int .u64 (q : Int)) (.int .u64 1) = pure (.int .u64 ((q + 1 : Nat) : Int)) := fun t => addU t q 1 (by omega)
          obtain ⟨r, hr⟩ : ∃ r, p % q = r := ⟨_, rfl⟩
          rw [hr] at hrem HQ2
          obtain ⟨q1, hq1⟩ : ∃ q1, q + 1 = q1 := ⟨_, rfl⟩
          rw [hq1] at haddq HQ2
          have hqb : 2 ≤ q1 ∧ q1 ≤ 18 ∧ q1 + g = 27 ∧ q < q1 := by omega
          by_cases hr0 : r = 0
          case pos =>
            have h3 : ((r : Int) == 0) = true := by simp; omega
            rw [if_pos hr0] at HQ2
            have HQ3 := hid HQ2
            clear HQ2 hr hq1 hqsq hr0
            go_wp2_with fail
            go_roundw
            case rel => exact ⟨q1, g, false, rfl, rfl, hqb.1, hqb.2.1, hqb.2.2.1, HQ3, f2⟩
            case measure => simp [intOf]; omega
          case neg =>
            have h3 : ((r : Int) == 0) = false := by simp; omega
            rw [if_neg hr0] at HQ2
            have HQ3 := hid HQ2
            clear HQ2 hr hq1 hqsq
            go_wp2_with fail
            go_roundw
            case rel => exact ⟨q1, g, a, rfl, rfl, hqb.1, hqb.2.1, hqb.2.2.1, HQ3, f2⟩
            case measure => simp [intOf]; omega
        case neg =>
          have h2 : decide ((s : Int) ≤ (p : Int)) = false := by simp; omega
          have h2' : decide (s ≤ p) = false := by simp; omega
          rw [if_neg hsp] at HQ2
          have own2 := own.keep f2 (by simp)
          have f3 := f.trans' f2
          cases a
          case false =>
            have HE4 := hid (show rootsN (kk third) n f1 p1 O = F by
              have := HE3.out
              rw [← HQ2, if_neg (by decide), Hp1.out] at this
              exact this)
            clear HQ2 hqsq own f
            go_wp2_with fail
            go_roundw
            case rel => exact ⟨p1, f1, m, O, B, rfl, hpp.2.1, hpp.1, hmn, own2, HE4, hB, f3⟩
            case measure => simp [intOf]; omega
          case true =>
            have HE4 := hid (show rootsN (kk third) n f1 p1 (O ++ [rootN p (kk third)]) = F by
              have := HE3.out
              rw [← HQ2, if_pos rfl, Hp1.out] at this
              exact this)
            obtain ⟨rt, hrt⟩ : ∃ rt, rootN p (kk third) = rt := ⟨_, rfl⟩
            have HRt := hid fun w0 : World => root_any (w := w0) p third (by omega)
            rw [hrt] at HE4 HRt
            clear HQ2 hqsq own hrt
            go_wp2_with fail
            refine (HRt.out _).mono ?_
            rintro e w4 ⟨rfl, f4⟩
            have own4 := own2.keep f4 (by simp)
            have f5 := f3.trans' f4
            go_wp2_with (refine wpList_append1 rfl rfl 25 _ _ _ rfl rfl 28 _ _ 4 Try.underlying25 Hi.out Hz.out Hs.out Hb.out rfl (.int .u32 (rt : Int)) rfl rfl rfl rfl own4 (by unfold maxLen; omega) (by omega) ?_; intro v5 w5 B5 own5 f6 hB5; simp only [World.size_alloc, World.size_drew, Act.put, List.setIfInBounds_toArray, List.set_cons_succ, List.set_cons_zero])
            have hB6 : ∀ b, B5 = some b → w.heap.size ≤ b := by
              have := f5.size
              rcases hB5 with h | ⟨b, h, hb⟩
              · rw [h]; exact hB
              · intro b' hb'; rw [h] at hb'; cases hb'; omega
            go_roundw
            case rel => exact ⟨p1, f1, m + 1, O ++ [rt], B5, rfl, hpp.2.1, hpp.1, by omega, by simpa [uv] using own5, HE4, hB6, f5.trans f6 hBS⟩
            case measure => simp [intOf]; omega
end Go.Proofs.Ytkohnmlnpbkphaa
