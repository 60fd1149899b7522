/- Layer 10, merkle: the texts of a path, from the leaf up. -/
import Derived.Test.YthfjjencnfebmaaMerI
import Derived.Deep.LoopGhost
import Derived.WalkMore
namespace Go.Proofs.Ythfjjencnfebmaa.mer
open Go Go.Xr Go.RowKit
set_option linter.unusedVariables false
set_option linter.unusedSimpArgs false
/-- What a part of a path is digested as. -/
def nodeP (p : ByteArray) : ByteArray := catS [⟨#[110]⟩, p]
/-- Does the part fit the group of part i of a row of n, and is 'rt' in its place? -/
def fits (n i : Nat) (rt p : ByteArray) : Prop := n ≠ 1 ∧ p.size = 32 * min 8 (n - i / 8 * 8) ∧ p.extract (32 * (i - i / 8 * 8)) (32 * (i - i / 8 * 8) + 32) = rt
open Classical in
/-- A path is climbed from 'rt' on: the texts, the root, does it fit. -/
noncomputable def climb : List ByteArray → Nat → Nat → ByteArray → List ByteArray × ByteArray × Bool
  | [], n, i, rt => ([], rt, decide (n = 1))
  | p :: ps, n, i, rt => if fits n i rt p then (nodeP p :: (climb ps ((n + 7) / 8) (i / 8) (shaS (nodeP p))).1, (climb ps ((n + 7) / 8) (i / 8) (shaS (nodeP p))).2) else ([], rt, false)
theorem climb_no {p : ByteArray} {ps : List ByteArray} {n i : Nat} {rt : ByteArray} (h : ¬ fits n i rt p) : climb (p :: ps) n i rt = ([], rt, false) := by rw [climb, if_neg h]
theorem climb_yes {p : ByteArray} {ps : List ByteArray} {n i : Nat} {rt : ByteArray} (h : fits n i rt p) : climb (p :: ps) n i rt = (nodeP p :: (climb ps ((n + 7) / 8) (i / 8) (shaS (nodeP p))).1, (climb ps ((n + 7) / 8) (i / 8) (shaS (nodeP p))).2) := by rw [climb, if_pos h]
theorem beq_str (a b : ByteArray) : (a.toList == b.toList) = decide (b = a) := by
  rw [Bool.eq_iff_iff]
  simp only [beq_iff_eq, decide_eq_true_eq, ByteArray.toList_eq]
  constructor
  · intro h
    apply ByteArray.ext
    apply Array.ext'
    exact h.symm
  · rintro rfl
    rfl
theorem beq_str2 (a b : ByteArray) : (a.toList == b.toList) = decide (a = b) := by
  rw [beq_str, decide_eq_decide]
  exact eq_comm
theorem leafT_add (i : Nat) (tag : ByteArray) (h : i < 18446744073709551616) : (⟨#[108]⟩ ++ n8le (UInt64.ofNat i)) ++ tag = leafT i tag := by
  apply ByteArray.ext
  apply Array.ext'
  simp [leafT, catS, n8le, ByteArray.data_append, u64_int _ h]
theorem nodeP_add (p : ByteArray) : ⟨#[110]⟩ ++ p = nodeP p := by
  apply ByteArray.ext
  apply Array.ext'
  simp [nodeP, catS, ByteArray.data_append]
set_option maxRecDepth 20000 in
set_option maxHeartbeats 1000000 in
theorem texts_any {w : World} {v : Value} {l : List ByteArray} {B : Option Nat} (h : Rc w 1 v l.length (l.map .string) B) (hl : l.length ≤ 1000000) (hls : ∀ s ∈ l, s.size ≤ 1099511626000) (n i : Nat) (hn : n ≤ 16384) (hi : i < n) (tag : ByteArray) (ht : tag.size ≤ 1099511626000) : Calls Try.prog 30 #[.int .i64 (n : Int), .int .i64 (i : Int), .string tag, v] w fun e w' =>
    (∃ v' B', e = .returned (.tuple #[v', .string (climb l n i (leafS i tag)).2.1, .bool (climb l n i (leafS i tag)).2.2]) ∧ Rc w' 1 v' (leafT i tag :: (climb l n i (leafS i tag)).1).length ((leafT i tag :: (climb l n i (leafS i tag)).1).map .string) B' ∧ ∀ b, B' = some b → w.heap.size ≤ b) ∧ Fr [] w w' := by
  obtain ⟨i9, hi9, hz9, hs9, hb9⟩ := inf9
  have Hi := hid hi9
  have Hz := hid hz9
  have Hs := hid hs9
  have Hb := hid hb9
  clear hi9 hz9 hs9 hb9
  have hcv := fun w0 : World => cv_iu w0 i (by omega)
  obtain ⟨la, lc, rfl⟩ := h.isSlice
  have Hr := hid h
  have hd1 : decide ((n : Int) < 1) = false := by simp; omega
  have hd1' : ¬ ((n : Int) < 1) := by omega
  have hd2 : decide ((16384 : Int) < (n : Int)) = false := by simp; omega
  have hd2' : ¬ ((16384 : Int) < (n : Int)) := by omega
  have hd4 : decide ((n : Int) ≤ (i : Int)) = false := by simp; omega
  have hd4' : ¬ ((n : Int) ≤ (i : Int)) := by omega
  have hd3 : decide ((i : Int) < 0) = false := by simp
  have Hlt := hid (leafT_add i tag (by omega))
  have hN0 := n8le_size (UInt64.ofNat i)
  have hL0 := leafT_size i tag
  obtain ⟨N8, hN8⟩ : ∃ N8, n8le (UInt64.ofNat i) = N8 := ⟨_, rfl⟩
  rw [hN8] at Hlt hN0
  have HN8 := hid hN8
  have hs1 : ¬ (9223372036854775807 < 1 + N8.size) := by omega
  have hs2 : ¬ (9223372036854775807 < 1 + N8.size + tag.size) := by omega
  have HS := hid (show leafS i tag = shaS (leafT i tag) from rfl)
  obtain ⟨LS, hLS⟩ : ∃ LS, leafS i tag = LS := ⟨_, rfl⟩
  obtain ⟨LT, hLT⟩ : ∃ LT, leafT i tag = LT := ⟨_, rfl⟩
  rw [hLS, hLT] at HS
  rw [hLT] at Hlt hL0 ⊢
  rw [hLS]
  have HLs := hid (show LS.size = 32 by rw [← hLS]; exact shaS_size _)
  clear h hN8 hN0 hLS hLT
  go_enter Try.func30, Try.ntmps30
  go_wp2; go_step3
  go_wp2_with (first
    | (go_at_call 43; refine (u64_any _).mono ?_; rintro e w1 ⟨rfl, f1⟩; rw [HN8.out])
    | (refine wpList_buildSlice_r rfl _ 1 _ rfl 9 Try.underlying22 _ _ Hi.out Hz.out rfl Hs.out (by decide) (by decide) (by decide) [.string LT] (by rw [← Hlt.out]; rfl) (by intro v hv; simp at hv; rcases hv with rfl; rfl) ?_; intro w2 f2 hlt2 hb2; have k2 : w2.cell? ⟨w1.heap.size, 0, none⟩ = some (.string LT) := hb2.cell 0; simp only [World.size_alloc, World.size_drew, Act.put, List.setIfInBounds_toArray, List.set_cons_succ, List.set_cons_zero])
    | (go_at_call 44; refine (Go.Proofs.Ythfjjencnfebmaa.of_any LT (by omega)).mono ?_; rintro e w3 ⟨rfl, f3⟩; rw [← HS.out]))
  go_step3
  obtain ⟨M, hM⟩ : ∃ M, w1.heap.size = M := ⟨_, rfl⟩
  have hI0 : Xr.Own w3 1 (.slice (some ⟨M, 0, none⟩) 1 1) 1 [.string LT] (some M) := by
    have := Own.blk (n := 1) (size := 1) (cap := 1) (f3.blk hb2 (by simp)) (Nat.le_refl _) (by unfold maxLen; omega) (by simp)
    rw [hM] at this
    exact this
  have HI0 := hid hI0
  have hwM : w.heap.size ≤ M := by have := f1.size; omega
  have HF3 := hid ((f1.trans' f2).trans' f3)
  rw [hM]
  clear hI0 hb2 k2 hlt2 f1 f2 f3 hM
  go_wp2_with fail
  go_loopg [0, 1, 8, 9, 43] l.length (fun g nv iv lv rv kv wr => ∃ (n' i' k : Nat) (dn todo L : List ByteArray) (rt : ByteArray) (B' : Option Nat), nv = .int .i64 (n' : Int) ∧ iv = .int .i64 (i' : Int) ∧ rv = .string rt ∧ kv = .int .i64 (k : Int) ∧ k + g = l.length ∧ l = dn ++ todo ∧ dn.length = k ∧ 1 ≤ n' ∧ n' ≤ 16384 ∧ i' < n' ∧
      climb l n i LS = (L ++ (climb todo n' i' rt).1, (climb todo n' i' rt).2) ∧ rt.size = 32 ∧ Xr.Own wr 1 lv (LT :: L).length ((LT :: L).map .string) B' ∧ L.length = k ∧ (∀ b, B' = some b → w.heap.size ≤ b) ∧ Fr [] w wr)
  case atStart => exact ⟨n, i, 0, [], l, [], LS, some M, rfl, rfl, rfl, rfl, by omega, rfl, rfl, by omega, hn, hi, rfl, HLs.out, HI0.out, rfl, by intro b hb; cases hb; exact hwM, HF3.out⟩
  case round =>
    obtain ⟨n', i', k, dn, todo, L, rt, B', rfl, rfl, rfl, rfl, hk, e1, e2, p1, p2, p3, e4, e5, e6, e7, e8, f⟩ := hrel
    have Hr2 := Hr.out.keep f (by simp)
    by_cases hkl : k < l.length
    · obtain ⟨G, rfl⟩ : ∃ G, gk = G + 1 := ⟨gk - 1, by omega⟩
      have hd5 : decide ((k : Int) < (l.length : Int)) = true := by simp; omega
      have hd5' : (k : Int) < (l.length : Int) := by omega
      obtain ⟨p, ps, rfl⟩ : ∃ p ps, todo = p :: ps := by
        cases todo with
        | nil => rw [e1] at hkl; simp at hkl; omega
        | cons a b => exact ⟨a, b, rfl⟩
      obtain ⟨lb, off, had, hlb, hlbs, hi', hcell⟩ := rc_elem Hr2 hkl
      cases had
      have hlk : l[k] = p := by
        have : l[k]? = some p := by rw [e1, ← e2]; simp
        rw [List.getElem?_eq_getElem hi'] at this
        exact Option.some.inj this
      rw [hlk] at hcell
      have hps := hls p (by rw [e1]; simp)
      have hq8 : i' / 8 * 8 ≤ i' := Nat.div_mul_le_self _ _
      have hq : ∀ t, binOp .quo t (.int .i64 (i' : Int)) (.int .i64 8) = pure (.int .i64 ((i' / 8 : Nat) : Int)) := fun t => quo_i t i' 8 (by omega) (by decide)
      have hm : ∀ t, binOp .mul t (.int .i64 ((i' / 8 : Nat) : Int)) (.int .i64 8) = pure (.int .i64 ((i' / 8 * 8 : Nat) : Int)) := fun t => mul_i t (i' / 8) 8 (by omega)
      obtain ⟨fi, hfi⟩ : ∃ fi, i' / 8 * 8 = fi := ⟨_, rfl⟩
      obtain ⟨q, hqq⟩ : ∃ q, i' / 8 = q := ⟨_, rfl⟩
      obtain ⟨d, hd⟩ : ∃ d, i' - fi = d := ⟨_, rfl⟩
      obtain ⟨at', hat⟩ : ∃ at', 32 * d = at' := ⟨_, rfl⟩
      obtain ⟨ae, hae⟩ : ∃ ae, at' + 32 = ae := ⟨_, rfl⟩
      obtain ⟨r, hr⟩ : ∃ r, n' - fi = r := ⟨_, rfl⟩
      obtain ⟨mm, hmm⟩ : ∃ mm, min 8 r = mm := ⟨_, rfl⟩
      obtain ⟨z, hz⟩ : ∃ z, 32 * mm = z := ⟨_, rfl⟩
      rw [hfi] at hq8 hm
      have HFT : Hid (∀ X, fits n' i' X p ↔ n' ≠ 1 ∧ p.size = z ∧ p.extract at' ae = X) := hid fun X => by unfold fits; rw [hfi, hd, hat, hae, hr, hmm, hz]
      have a1 : (i' : Int) - (fi : Int) = (d : Int) := by omega
      have a2 : (32 : Int) * (d : Int) = (at' : Int) := by omega
      have a3 : (at' : Int) + 32 = (ae : Int) := by omega
      have a4 : (n' : Int) - (fi : Int) = (r : Int) := by omega
      have a5 : min (8 : Int) (r : Int) = (mm : Int) := by omega
      have a6 : (32 : Int) * (mm : Int) = (z : Int) := by omega
      have b1 : d ≤ 7 := by omega
      have b2 : r ≤ 16384 := by omega
      have b3 : mm ≤ 8 := by omega
      have b4 : at' ≤ 224 := by omega
      have b5 : ae ≤ 256 := by omega
      have b6 : z ≤ 256 := by omega
      have b7 : fi ≤ 16384 := by omega
      have Hb8 := hid (show p.size = z → ae ≤ p.size by omega)
      have HQ := hid hqq
      rw [hqq] at hq hm
      obtain ⟨c8, hc8⟩ : ∃ c8, (LT :: L).length = c8 := ⟨_, rfl⟩
      have hc8k : c8 = k + 1 := by rw [← hc8, ← e7]; rfl
      have Hc8 := hid hc8
      rw [hc8] at e6
      obtain ⟨la2, lc2, rfl⟩ := e6.isSlice
      have hc8b : c8 ≤ 1000001 := by omega
      have Hc8k := hid hc8k
      have E1 := hid e1
      have E4 := hid e4
      have E6 := hid e6
      have E7 := hid e7
      have E2 := hid e2
      have HK := hid hk
      clear hc8 hc8k hfi hqq hd hat hae hr hmm hz hlk hi' hlb e1 e2 e4 e6 e7 hk Hr2
      by_cases c1 : n' = 1
      · have g1 : ((n' : Int) == 1) = true := by simp; omega
        have g2 : decide ((n' : Int) = 1) = true := by simp; omega
        have hno := hid (show climb l n i LS = (L, rt, false) by
          have h : ¬ fits n' i' rt p := fun h => ((HFT.out rt).1 h).1 c1
          rw [E4.out, climb_no h]
          simp)
        go_wp2_with fail
        try rw [Exit.noGoto_ret]
        go_ret3
        rw [hno.out]
        exact ⟨⟨_, B', rfl, (show Rc wr 1 (.slice la2 c8 lc2) (LT :: L).length ((LT :: L).map .string) B' by rw [Hc8.out]; exact E6.out.rd.rc), e8⟩, f⟩
      · have g1 : ((n' : Int) == 1) = false := by simp; omega
        have g2 : decide ((n' : Int) = 1) = false := by simp; omega
        by_cases c2 : p.size = z
        · have g3 : ((p.size : Int) != (z : Int)) = false := by simp; omega
          have Hc2 := hid c2
          have hsl := fun w0 : World => run_slice_s (P := Try.prog) w0 9 Try.underlying9 p .i64 .i64 (at' : Int) (ae : Int) at' ae rfl rfl (by omega) (Hb8.out c2)
          obtain ⟨X, hX⟩ : ∃ X, p.extract at' ae = X := ⟨_, rfl⟩
          rw [hX] at hsl
          have HX := hid hX
          clear c2 hX
          have a7 : decide ((at' : Int) ≤ (ae : Int)) = true := by simp; omega
          by_cases c3 : X = rt
          · subst c3
            have Hfit := hid ((HFT.out X).2 ⟨c1, Hc2.out, HX.out⟩)
            have hs3 : ¬ (9223372036854775807 < 1 + p.size) := by omega
            have hsz : (catS [⟨#[110]⟩, p]).size < 1099511627776 := by
              rw [catS_size]
              have : (ByteArray.mk #[110]).size = 1 := rfl
              simp [this]
              omega
            have Hnp := hid (nodeP_add p)
            obtain ⟨NP, hNP⟩ : ∃ NP, nodeP p = NP := ⟨_, rfl⟩
            have HNP := hid hNP
            have HD := hid fun (w0 : World) (v0 : Value) (B0 : Option Nat) (h0 : Rc w0 1 v0 ([⟨#[110]⟩, p] : List ByteArray).length (([⟨#[110]⟩, p] : List ByteArray).map .string) B0) => digest_any h0 (by simp) hsz
            have hcat : catS [⟨#[110]⟩, p] = NP := hNP
            rw [hcat] at HD
            rw [hNP] at Hnp
            obtain ⟨SN, hSN⟩ : ∃ SN, shaS NP = SN := ⟨_, rfl⟩
            have HSN := hid (show SN.size = 32 by rw [← hSN]; exact shaS_size _)
            rw [hSN] at HD
            have Hstep := hid (show climb l n i LS = ((L ++ [NP]) ++ (climb ps ((n' + 7) / 8) (i' / 8) SN).1, (climb ps ((n' + 7) / 8) (i' / 8) SN).2) by
              rw [E4.out, climb_yes Hfit.out, hNP, hSN]
              simp)
            obtain ⟨n7, hn7⟩ : ∃ n7, n' + 7 = n7 := ⟨_, rfl⟩
            have hq2 : ∀ t, binOp .quo t (.int .i64 (n7 : Int)) (.int .i64 8) = pure (.int .i64 ((n7 / 8 : Nat) : Int)) := fun t => quo_i t n7 8 (by omega) (by decide)
            have m1 : (n' : Int) + 8 - 1 = (n7 : Int) := by omega
            have m2 : n7 ≤ 16391 := by omega
            obtain ⟨n8, hn8⟩ : ∃ n8, n7 / 8 = n8 := ⟨_, rfl⟩
            rw [hn8] at hq2
            rw [hn7, hn8, HQ.out] at Hstep
            have M1 := hid (show 1 ≤ n8 by omega)
            have M2 := hid (show n8 ≤ 16384 by omega)
            have M3 := hid (show q < n8 by have := HQ.out; omega)
            clear hn7 hn8 hSN hNP hcat hsz
            go_wp2_with (first
              | (refine wpList_slice_v rfl _ _ _ _ _ rfl _ rfl _ _ _ rfl rfl rfl _ (hsl _) ?_; simp only [World.size_alloc, World.size_drew, Act.put, List.setIfInBounds_toArray, List.set_cons_succ, List.set_cons_zero])
              | (refine wpList_buildSlice_r rfl _ 1 _ rfl 9 Try.underlying22 _ _ Hi.out Hz.out rfl Hs.out (by decide) (by decide) (by decide) [.string NP] (by rw [← Hnp.out]; rfl) (by intro v hv; simp at hv; rcases hv with rfl; rfl) ?_; intro w5 f5 hlt5 hb5; simp only [World.size_alloc, World.size_drew, Act.put, List.setIfInBounds_toArray, List.set_cons_succ, List.set_cons_zero])
              | (refine wpList_append_rc rfl _ _ _ rfl 9 _ _ 1 16 Try.underlying22 Hi.out Hz.out Hs.out Hb.out rfl (by decide) rfl (E6.out.keep f5 (by simp)) rfl (rc_blk hb5 rfl (by simp [maxLen])) (by intro u hu; simp at hu; subst hu; rfl) (by unfold maxLen; omega) (by omega) ?_; intro v6 w6 B6 ho6 f6 hB6; simp only [World.size_alloc, World.size_drew, Act.put, List.setIfInBounds_toArray, List.set_cons_succ, List.set_cons_zero])
              | (refine wpList_buildSlice_r rfl _ 2 _ rfl 9 Try.underlying22 _ _ Hi.out Hz.out rfl Hs.out (by decide) (by decide) (by decide) [.string ⟨#[110]⟩, .string p] rfl (by intro v hv; simp at hv; rcases hv with rfl | rfl <;> rfl) ?_; intro w7 f7 hlt7 hb7; simp only [World.size_alloc, World.size_drew, Act.put, List.setIfInBounds_toArray, List.set_cons_succ, List.set_cons_zero])
              | (go_at_call 45; refine (HD.out _ _ _ (rc_blk hb7 rfl (by simp [maxLen]))).mono ?_; rintro e w8 ⟨rfl, f8⟩))
            go_roundg G
            case rel =>
              have := f.size
              have := f5.size
              refine ⟨n8, q, k + 1, dn ++ [p], ps, L ++ [NP], SN, B6, by go_num, rfl, rfl, by go_num, by have := HK.out; omega, by rw [E1.out]; simp, by rw [List.length_append, E2.out]; rfl, M1.out, M2.out, M3.out, Hstep.out, HSN.out, ?_, by rw [List.length_append, E7.out]; rfl, ?_, ?_⟩
              · have := ho6.keep (f7.trans' f8) (by simp)
                rw [show (LT :: (L ++ [NP])).length = c8 + 1 by have := Hc8.out; simp at this ⊢; omega]
                simpa using this
              · intro b hb
                rcases hB6 with rfl | ⟨y, rfl, hy⟩
                · exact e8 b hb
                · cases hb; omega
              · refine (f.trans' f5).trans ((f6.trans' ((f7.trans' f8).mono (by simp)))) ?_
                intro y hy
                exact .inr (e8 y (by simpa using hy))
            case measure => omega
          · have g4 : (X.toList == rt.toList) = false := by rw [beq_str2]; exact decide_eq_false c3
            have hno := hid (show climb l n i LS = (L, rt, false) by
              have h : ¬ fits n' i' rt p := fun h => c3 (HX.out.symm.trans ((HFT.out rt).1 h).2.2)
              rw [E4.out, climb_no h]
              simp)
            go_wp2_with (refine wpList_slice_v rfl _ _ _ _ _ rfl _ rfl _ _ _ rfl rfl rfl _ (hsl _) ?_; simp only [World.size_alloc, World.size_drew, Act.put, List.setIfInBounds_toArray, List.set_cons_succ, List.set_cons_zero])
            try rw [Exit.noGoto_ret]
            go_ret3
            rw [hno.out]
            exact ⟨⟨_, B', rfl, (show Rc wr 1 (.slice la2 c8 lc2) (LT :: L).length ((LT :: L).map .string) B' by rw [Hc8.out]; exact E6.out.rd.rc), e8⟩, f⟩
        · have g3 : ((p.size : Int) != (z : Int)) = true := by simp; omega
          have hno := hid (show climb l n i LS = (L, rt, false) by
            have h : ¬ fits n' i' rt p := fun h => c2 ((HFT.out rt).1 h).2.1
            rw [E4.out, climb_no h]
            simp)
          go_wp2_with fail
          try rw [Exit.noGoto_ret]
          go_ret3
          rw [hno.out]
          exact ⟨⟨_, B', rfl, (show Rc wr 1 (.slice la2 c8 lc2) (LT :: L).length ((LT :: L).map .string) B' by rw [Hc8.out]; exact E6.out.rd.rc), e8⟩, f⟩
    · have hd5 : decide ((k : Int) < (l.length : Int)) = false := by simp; omega
      have hd5' : ¬ ((k : Int) < (l.length : Int)) := by omega
      obtain rfl : todo = [] := by
        have : l.length = _ := congrArg List.length e1
        rw [List.length_append] at this
        exact List.eq_nil_of_length_eq_zero (by omega)
      have hres := hid (show climb l n i LS = (L, rt, decide (n' = 1)) by rw [e4]; simp [climb])
      have E6 := hid e6
      obtain ⟨c8, hc8⟩ : ∃ c8, (LT :: L).length = c8 := ⟨_, rfl⟩
      have Hc8 := hid hc8
      rw [hc8] at e6
      obtain ⟨la2, lc2, rfl⟩ := e6.isSlice
      have E9 := hid e6
      clear e1 e2 e4 e6 e7 hc8 Hr2 E6
      by_cases c1 : n' = 1
      · have g1 : ((n' : Int) == 1) = true := by simp; omega
        have g2 : decide ((n' : Int) = 1) = true := by simp; omega
        have g3 := hid (show decide (n' = 1) = true by simp [c1])
        clear c1
        go_wp2_with fail
        try rw [Exit.noGoto_ret]
        go_ret3
        rw [hres.out, g3.out]
        exact ⟨⟨_, B', rfl, (show Rc wr 1 (.slice la2 c8 lc2) (LT :: L).length ((LT :: L).map .string) B' by rw [Hc8.out]; exact E9.out.rd.rc), e8⟩, f⟩
      · have g1 : ((n' : Int) == 1) = false := by simp; omega
        have g2 : decide ((n' : Int) = 1) = false := by simp; omega
        have g3 := hid (show decide (n' = 1) = false by simp [c1])
        clear c1
        go_wp2_with fail
        try rw [Exit.noGoto_ret]
        go_ret3
        rw [hres.out, g3.out]
        exact ⟨⟨_, B', rfl, (show Rc wr 1 (.slice la2 c8 lc2) (LT :: L).length ((LT :: L).map .string) B' by rw [Hc8.out]; exact E9.out.rd.rc), e8⟩, f⟩
set_option maxRecDepth 20000 in
theorem texts_bad {w : World} {a : Option Addr} {m c : Nat} (n i : Int) (tag : ByteArray) (h : n < 1 ∨ n > 16384 ∨ i < 0 ∨ i ≥ n) : Calls Try.prog 30 #[.int .i64 n, .int .i64 i, .string tag, .slice a m c] w fun e w' => e = .returned (.tuple #[.slice none 0 0, .string ⟨#[]⟩, .bool false]) ∧ w' = w := by
  by_cases h1 : n < 1
  · have d1 : decide (n < 1) = true := by simp; omega
    go_enter Try.func30, Try.ntmps30
    go_wp2; go_step3
    go_wp2_with fail
    try rw [Exit.noGoto_ret]
    go_ret3
    exact ⟨rfl, rfl⟩
  · have d1 : decide (n < 1) = false := by simp; omega
    by_cases h2 : n > 16384
    · have d2 : decide (16384 < n) = true := by simp; omega
      go_enter Try.func30, Try.ntmps30
      go_wp2; go_step3
      go_wp2_with fail
      try rw [Exit.noGoto_ret]
      go_ret3
      exact ⟨rfl, rfl⟩
    · have d2 : decide (16384 < n) = false := by simp; omega
      by_cases h3 : i < 0
      · have d3 : decide (i < 0) = true := by simp; omega
        go_enter Try.func30, Try.ntmps30
        go_wp2; go_step3
        go_wp2_with fail
        try rw [Exit.noGoto_ret]
        go_ret3
        exact ⟨rfl, rfl⟩
      · have d3 : decide (i < 0) = false := by simp; omega
        have d4 : decide (n ≤ i) = true := by simp; omega
        go_enter Try.func30, Try.ntmps30
        go_wp2; go_step3
        go_wp2_with fail
        try rw [Exit.noGoto_ret]
        go_ret3
        exact ⟨rfl, rfl⟩
end Go.Proofs.Ythfjjencnfebmaa.mer
