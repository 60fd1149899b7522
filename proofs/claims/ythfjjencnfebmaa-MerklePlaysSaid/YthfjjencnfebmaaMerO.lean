/- Layer 10, the document's answer: the texts of a path. -/
import Derived.Test.YthfjjencnfebmaaMerN
namespace Go.Xr
open Go Go.RowKit
section
variable {P : Program} {ops : Array Oper} {S : World → Prop}
/-- The length of a text. -/
theorem quiet_len_s {a : Act} {o : Oper} {rest : List Oper} {Q' : Act → Prop} (hg : Region.wanted o (yielded ops a.tmps) = true) (t : TypeId) (x : Operand) (ho : o.op = .call { callee := .builtin .len, args := #[x], argTypes := #[t] }) (ht : P.underlying t = some .string) {s : ByteArray} (hx : a.eval x = .string s)
    (h : wpQuiet P ops S Q' rest (a.put o.dst (.int .i64 (s.size : Int)))) : wpQuiet P ops S Q' (o :: rest) a := by
  refine wpQuiet_step fun K hK => ?_
  rw [if_pos hg]
  refine ⟨_, fun w hC => ?_, hK _ h⟩
  unfold Oper.quietAt execOp
  simp [ho, resolve, invoke, builtin, Builtin.len_, run_underlying ht, goInt, List.map_toArray, List.map_cons, List.map_nil, hx, Sem.run_bind, Sem.run_pure, Result.andThen_ok]
  exact ⟨rfl, rfl⟩
end
end Go.Xr
namespace Go.Proofs.Ythfjjencnfebmaa.mer
open Go Go.Xr Go.RowKit
set_option linter.unusedVariables false
set_option linter.unusedSimpArgs false
theorem rem_i (t : TypeId) (i d : Nat) (hi : i ≤ 9223372036854775807) (hd : 0 < d) : binOp .rem t (.int .i64 (i : Int)) (.int .i64 (d : Int)) = pure (.int .i64 ((i % d : Nat) : Int)) := by
  have hq0 : i % d ≤ i := Nat.mod_le _ _
  have h2 : Int.tmod (i : Int) (d : Int) = ((i % d : Nat) : Int) := by rw [Int.tmod_eq_emod_of_nonneg (by omega), Int.natCast_emod]
  generalize i % d = q at *
  have h3 : IntKind.i64.wrap (q : Int) = (q : Int) := by
    simp [IntKind.wrap, IntKind.bits, IntKind.signed]
    omega
  have h4 : ¬ (d = 0) := by omega
  simp [binOp, Op.intDiv, h2, h3, h4]
theorem part_any {w : World} (n i : Nat) (hn : n ≤ 16384) (hi : i < n) : Calls Try.prog 29 #[.int .i64 (n : Int), .int .i64 (i : Int)] w fun e w' => e = .returned (.int .i64 ((min 8 (n - i / 8 * 8) : Nat) : Int)) ∧ w' = w := by
  have hq8 : i / 8 * 8 ≤ i := Nat.div_mul_le_self _ _
  have hq : ∀ t, binOp .quo t (.int .i64 (i : Int)) (.int .i64 8) = pure (.int .i64 ((i / 8 : Nat) : Int)) := fun t => quo_i t i 8 (by omega) (by decide)
  have hm : ∀ t, binOp .mul t (.int .i64 ((i / 8 : Nat) : Int)) (.int .i64 8) = pure (.int .i64 ((i / 8 * 8 : Nat) : Int)) := fun t => mul_i t (i / 8) 8 (by omega)
  obtain ⟨fi, hfi⟩ : ∃ fi, i / 8 * 8 = fi := ⟨_, rfl⟩
  obtain ⟨q, hqq⟩ : ∃ q, i / 8 = q := ⟨_, rfl⟩
  obtain ⟨r, hr⟩ : ∃ r, n - fi = r := ⟨_, rfl⟩
  obtain ⟨mm, hmm⟩ : ∃ mm, min 8 r = mm := ⟨_, rfl⟩
  rw [hfi] at hm hq8
  rw [hfi, hr, hmm]
  rw [hqq] at hq hm
  have a4 : (n : Int) - (fi : Int) = (r : Int) := by omega
  have a5 : min (8 : Int) (r : Int) = (mm : Int) := by omega
  have b2 : r ≤ 16384 := by omega
  have b7 : fi ≤ 16384 := by omega
  clear hfi hqq hr hmm
  go_enter Try.func29, Try.ntmps29
  go_wp2_with fail
  go_ret
  exact ⟨rfl, rfl⟩
set_option maxRecDepth 20000 in
theorem rtexts_bad {w : World} {a : Option Addr} {m c : Nat} (root : ByteArray) (n i : Int) (tag : ByteArray) (h : n < 1 ∨ n > 16384 ∨ i < 0 ∨ i ≥ n) : Calls Try.prog 11 #[.string root, .int .i64 n, .int .i64 i, .string tag, .slice a m c] w fun e w' => e = .returned (.tuple #[.slice none 0 0, .bool false]) ∧ w' = w := by
  by_cases h1 : n < 1
  · have d1 : decide (n < 1) = true := by simp; omega
    go_enter Try.func11, Try.ntmps11
    go_wp2_with fail
    go_ret2
    exact ⟨rfl, rfl⟩
  · have d1 : decide (n < 1) = false := by simp; omega
    by_cases h2 : n > 16384
    · have d2 : decide (16384 < n) = true := by simp; omega
      go_enter Try.func11, Try.ntmps11
      go_wp2_with fail
      go_ret2
      exact ⟨rfl, rfl⟩
    · have d2 : decide (16384 < n) = false := by simp; omega
      by_cases h3 : i < 0
      · have d3 : decide (i < 0) = true := by simp; omega
        go_enter Try.func11, Try.ntmps11
        go_wp2_with fail
        go_ret2
        exact ⟨rfl, rfl⟩
      · have d3 : decide (i < 0) = false := by simp; omega
        have d4 : decide (n ≤ i) = true := by simp; omega
        go_enter Try.func11, Try.ntmps11
        go_wp2_with fail
        go_ret2
        exact ⟨rfl, rfl⟩
set_option maxRecDepth 20000 in
set_option maxHeartbeats 2000000 in
theorem rtexts_any {w : World} {v : Value} {l : List ByteArray} {B : Option Nat} (h : Rc w 1 v l.length (l.map .string) B) (hl : l.length ≤ 1000000) (hls : ∀ s ∈ l, s.size ≤ 1099511626000) (root : ByteArray) (n i : Nat) (hn : n ≤ 16384) (hi : i < n) (tag : ByteArray) (ht : tag.size ≤ 1099511626000) :
    Calls Try.prog 11 #[.string root, .int .i64 (n : Int), .int .i64 (i : Int), .string tag, v] w fun e w' =>
    (∃ v', e = .returned (.tuple #[v', .bool (verS root n i tag l)]) ∧ (verS root n i tag l = true → ∃ B', Rc w' 1 v' (leafT i tag :: (climb l n i (leafS i tag)).1).length ((leafT i tag :: (climb l n i (leafS i tag)).1).reverse.map .string) B')) ∧ Fr [] w w' := by
  obtain ⟨i9, hi9, hz9, hs9, hb9⟩ := inf9
  have Hi := hid hi9
  have Hz := hid hz9
  have Hs := hid hs9
  have Hb := hid hb9
  clear hi9 hz9 hs9 hb9
  obtain ⟨la, lc, rfl⟩ := h.isSlice
  have Hr := hid h
  have hd1 : decide ((n : Int) < 1) = false := by simp; omega
  have hd1' : ¬ ((n : Int) < 1) := by omega
  have hd2 : decide ((16384 : Int) < (n : Int)) = false := by simp; omega
  have hd2' : ¬ ((16384 : Int) < (n : Int)) := by omega
  have hd3 : decide ((i : Int) < 0) = false := by simp
  have hd4 : decide ((n : Int) ≤ (i : Int)) = false := by simp; omega
  have hd4' : ¬ ((n : Int) ≤ (i : Int)) := by omega
  have HV := hid (show verS root n i tag l = ((climb l n i (leafS i tag)).2.2 && decide ((climb l n i (leafS i tag)).2.1 = root)) by unfold verS; rw [if_pos (by unfold okNI; omega)]; rfl)
  obtain ⟨V, hV⟩ : ∃ V, verS root n i tag l = V := ⟨_, rfl⟩
  rw [hV] at HV ⊢
  have H1 := hid fun w0 : World => rleafT_any (w := w0) i tag (by omega) (by omega)
  have H2 := hid fun w0 : World => rleaf_any (w := w0) i tag (by omega) (by omega)
  obtain ⟨LS, hLS⟩ : ∃ LS, leafS i tag = LS := ⟨_, rfl⟩
  obtain ⟨LT, hLT⟩ : ∃ LT, leafT i tag = LT := ⟨_, rfl⟩
  have HLs := hid (show LS.size = 32 by rw [← hLS]; exact shaS_size _)
  rw [hLS] at HV H2
  rw [hLT] at H1
  rw [hLT, hLS]
  clear h hV hLS hLT
  go_enter Try.func11, Try.ntmps11
  go_wp2_with (first
    | (go_at_call 27; refine (H1.out _).mono ?_; rintro e w1 ⟨rfl, f1⟩)
    | (refine wpList_buildSlice_r rfl _ 1 _ rfl 9 Try.underlying22 _ _ Hi.out Hz.out rfl Hs.out (by decide) (by decide) (by decide) [.string LT] rfl (by intro v hv; simp at hv; rcases hv with rfl; rfl) ?_; intro w2 f2 hlt2 hb2; simp only [World.size_alloc, World.size_drew, Act.put, List.setIfInBounds_toArray, List.set_cons_succ, List.set_cons_zero])
    | (go_at_call 28; refine (H2.out _).mono ?_; rintro e w3 ⟨rfl, f3⟩))
  obtain ⟨M, hM⟩ : ∃ M, w1.heap.size = M := ⟨_, rfl⟩
  have hI0 : Xr.Own w3 1 (.slice (some ⟨M, 0, none⟩) 1 1) 1 [.string LT] (some M) := by
    have := Own.blk (n := 1) (size := 1) (cap := 1) (f3.blk hb2 (by simp)) (Nat.le_refl _) (by unfold maxLen; omega) (by simp)
    rw [hM] at this
    exact this
  have HI0 := hid hI0
  have HF3 := hid ((f1.trans' f2).trans' f3)
  rw [hM]
  clear hI0 hb2 hlt2 f1 f2 f3 hM
  go_loopw [1, 2, 12, 13, 14] (fun nv iv lv rv kv wr => ∃ (n' i' k : Nat) (dn todo L : List ByteArray) (rt : ByteArray) (B' : Option Nat), nv = .int .i64 (n' : Int) ∧ iv = .int .i64 (i' : Int) ∧ rv = .string rt ∧ kv = .int .i64 (k : Int) ∧ l = dn ++ todo ∧ dn.length = k ∧ 1 ≤ n' ∧ n' ≤ 16384 ∧ i' < n' ∧
      climb l n i LS = (L ++ (climb todo n' i' rt).1, (climb todo n' i' rt).2) ∧ rt.size = 32 ∧ Xr.Own wr 1 lv (LT :: L).length ((LT :: L).reverse.map .string) B' ∧ L.length = k ∧ Fr [] w wr) (fun _ _ _ _ kv _ => l.length + 1 - (intOf kv).toNat)
  case atStart => exact ⟨n, i, 0, [], l, [], LS, some M, rfl, rfl, rfl, rfl, rfl, rfl, by omega, hn, hi, rfl, HLs.out, HI0.out, rfl, HF3.out⟩
  case round =>
    obtain ⟨n', i', k, dn, todo, L, rt, B', rfl, rfl, rfl, rfl, e1, e2, p1, p2, p3, e4, e5, e6, e7, f⟩ := hrel
    have Hr2 := Hr.out.keep f (by simp)
    have hkl0 : k ≤ l.length := by rw [e1, List.length_append]; omega
    obtain ⟨c8, hc8⟩ : ∃ c8, (LT :: L).length = c8 := ⟨_, rfl⟩
    have hc8k : c8 = k + 1 := by rw [← hc8, ← e7]; rfl
    have Hc8 := hid hc8
    rw [hc8] at e6
    obtain ⟨la2, lc2, rfl⟩ := e6.isSlice
    have hc8b : c8 ≤ 1000001 := by omega
    have Hc8k := hid hc8k
    have E6 := hid e6
    have E4 := hid e4
    have E2 := hid e2
    have E7 := hid e7
    have E1 := hid e1
    have hkb : k ≤ 1000000 := by omega
    clear hc8 hc8k e6
    by_cases c1 : n' = 1
    · have g1 : decide ((1 : Int) < (n' : Int)) = false := by simp; omega
      have g1' : ¬ ((1 : Int) < (n' : Int)) := by omega
      have hlt : todo = [] ∧ k = l.length ∨ ∃ p ps, todo = p :: ps ∧ k ≠ l.length := by
        have := congrArg List.length e1
        rw [List.length_append, e2] at this
        cases todo with
        | nil => exact .inl ⟨rfl, by simpa using this.symm⟩
        | cons p ps => exact .inr ⟨p, ps, rfl, by simp at this; omega⟩
      have Hbr := hid (beq_str2 rt root)
      clear e1 e2 e4 e7
      rcases hlt with ⟨hz, hkl⟩ | ⟨p, ps, hz, hkl⟩
      · have hc : climb l n i LS = (L, rt, true) := by rw [E4.out, hz]; simp [climb, c1]
        have Hc := hid hc
        have g3 : decide ((c8 : Int) = (l.length : Int) + 1) = true := by have := Hc8k.out; simp; omega
        have g3' : ((c8 : Int) == (l.length : Int) + 1) = true := by have := Hc8k.out; simp; omega
        by_cases hrr : rt = root
        · have g4 : (rt.toList == root.toList) = true := by rw [Hbr.out]; exact decide_eq_true hrr
          have Hv := hid (show V = true by rw [HV.out, hc]; simp [hrr])
          clear hc hz hrr
          go_wp2_with fail
          go_ret2
          rw [Hv.out, Hc.out]
          exact ⟨⟨_, rfl, fun _ => ⟨B', by have h9 := (show Rc wr 1 (.slice la2 c8 lc2) (LT :: L).length ((LT :: L).reverse.map .string) B' by rw [Hc8.out]; exact E6.out.rd.rc); simpa using h9⟩⟩, f⟩
        · have g4 : (rt.toList == root.toList) = false := by rw [Hbr.out]; exact decide_eq_false hrr
          have Hv := hid (show V = false by rw [HV.out, hc]; simp [hrr])
          clear hc hz hrr
          go_wp2_with fail
          go_ret2
          rw [Hv.out]
          exact ⟨⟨_, rfl, fun h => by cases h⟩, f⟩
      · have Hv := hid (show V = false by
          rw [HV.out, E4.out, hz, climb_no (fun h => h.1 c1)]
          simp)
        have g3 : decide ((c8 : Int) = (l.length : Int) + 1) = false := by have := Hc8k.out; simp; omega
        have g3' : ((c8 : Int) == (l.length : Int) + 1) = false := by have := Hc8k.out; simp; omega
        by_cases hrr : rt = root
        · have g4 : (rt.toList == root.toList) = true := by rw [Hbr.out]; exact decide_eq_true hrr
          clear hz hrr
          go_wp2_with fail
          go_ret2
          rw [Hv.out]
          exact ⟨⟨_, rfl, fun h => by cases h⟩, f⟩
        · have g4 : (rt.toList == root.toList) = false := by rw [Hbr.out]; exact decide_eq_false hrr
          clear hz hrr
          go_wp2_with fail
          go_ret2
          rw [Hv.out]
          exact ⟨⟨_, rfl, fun h => by cases h⟩, f⟩
    · have g1 : decide ((1 : Int) < (n' : Int)) = true := by simp; omega
      have g1' : (1 : Int) < (n' : Int) := by omega
      by_cases hkl : k < l.length
      · have g2 : decide ((l.length : Int) ≤ (k : Int)) = false := by simp; omega
        have g2' : ¬ ((l.length : Int) ≤ (k : Int)) := by omega
        have g2n : decide (l.length ≤ k) = false := by simp; omega
        have g2m : ¬ (l.length ≤ k) := by omega
        obtain ⟨p, ps, rfl⟩ : ∃ p ps, todo = p :: ps := by
          cases todo with
          | nil => rw [e1] at hkl; simp at hkl; omega
          | cons a b => exact ⟨a, b, rfl⟩
        obtain ⟨lb, off, had, hlb, hlbs, hi', hcell⟩ := rc_elem Hr2 hkl
        cases had
        have hlk : l[k] = p := by
          have : l[k]? = some p := by rw [e1, ← e2]; simp
          rw [List.getElem?_eq_getElem hi'] at this
          exact Option.some.inj this
        rw [hlk] at hcell
        have hps := hls p (by rw [e1]; simp)
        have hq8 : i' / 8 * 8 ≤ i' := Nat.div_mul_le_self _ _
        have Hpart := hid fun w0 : World => part_any (w := w0) n' i' p2 p3
        have hqr : ∀ t, binOp .rem t (.int .i64 (i' : Int)) (.int .i64 8) = pure (.int .i64 ((i' % 8 : Nat) : Int)) := fun t => rem_i t i' 8 (by omega) (by decide)
        have hqq : ∀ t, binOp .quo t (.int .i64 (i' : Int)) (.int .i64 8) = pure (.int .i64 ((i' / 8 : Nat) : Int)) := fun t => quo_i t i' 8 (by omega) (by decide)
        obtain ⟨fi, hfi⟩ : ∃ fi, i' / 8 * 8 = fi := ⟨_, rfl⟩
        obtain ⟨q, hq⟩ : ∃ q, i' / 8 = q := ⟨_, rfl⟩
        obtain ⟨d, hd⟩ : ∃ d, i' - fi = d := ⟨_, rfl⟩
        have hdm : i' % 8 = d := by omega
        obtain ⟨at', hat⟩ : ∃ at', 32 * d = at' := ⟨_, rfl⟩
        obtain ⟨ae, hae⟩ : ∃ ae, at' + 32 = ae := ⟨_, rfl⟩
        obtain ⟨r, hr⟩ : ∃ r, n' - fi = r := ⟨_, rfl⟩
        obtain ⟨mm, hmm⟩ : ∃ mm, min 8 r = mm := ⟨_, rfl⟩
        obtain ⟨z, hz⟩ : ∃ z, 32 * mm = z := ⟨_, rfl⟩
        rw [hfi] at hq8
        rw [hfi, hr, hmm] at Hpart
        rw [hdm] at hqr
        have HFT : Hid (∀ X, fits n' i' X p ↔ n' ≠ 1 ∧ p.size = z ∧ p.extract at' ae = X) := hid fun X => by unfold fits; rw [hfi, hd, hat, hae, hr, hmm, hz]
        have a2 : (32 : Int) * (d : Int) = (at' : Int) := by omega
        have a3 : (at' : Int) + 32 = (ae : Int) := by omega
        have a6 : (32 : Int) * (mm : Int) = (z : Int) := by omega
        have b1 : d ≤ 7 := by omega
        have b3 : mm ≤ 8 := by omega
        have b4 : at' ≤ 224 := by omega
        have b5 : ae ≤ 256 := by omega
        have b6 : z ≤ 256 := by omega
        have Hb8 := hid (show p.size = z → ae ≤ p.size by omega)
        have HQ := hid hq
        rw [hq] at hqq
        clear hfi hq hd hdm hat hae hr hmm hz hlk hi' hlb e1 e2 e4 e7 Hr2
        by_cases c2 : p.size = z
        · have g3 : ((p.size : Int) != (z : Int)) = false := by simp; omega
          have Hc2 := hid c2
          have hsl := fun w0 : World => run_slice_s (P := Try.prog) w0 9 Try.underlying9 p .i64 .i64 (at' : Int) (ae : Int) at' ae rfl rfl (by omega) (Hb8.out c2)
          obtain ⟨X, hX⟩ : ∃ X, p.extract at' ae = X := ⟨_, rfl⟩
          rw [hX] at hsl
          have HX := hid hX
          clear c2 hX
          go_wp2_with fail
          refine wp_region_D (fun w' => w'.cell? ⟨lb, off + k, none⟩ = some (.string p)) false [] (by kernel_rfl) ?_
          refine WD.pure [0, 1, 2, 3, 4, 10, 11] (by kernel_rfl) hcell ?_
          simp only [pick, List.toList_toArray, List.map_cons, List.map_nil, List.getD_cons_succ, List.getD_cons_zero]
          repeat (first | (refine quiet_load_1R (by rfl) _ _ rfl rfl (.string p) (fun w0 h => h) _ Try.underlying9 rfl ?_; simp only [World.size_alloc, World.size_drew, Act.put, List.setIfInBounds_toArray, List.set_cons_succ, List.set_cons_zero]) | (refine quiet_len_s (by rfl) _ _ rfl Try.underlying9 rfl ?_; simp only [World.size_alloc, World.size_drew, Act.put, List.setIfInBounds_toArray, List.set_cons_succ, List.set_cons_zero]) | go_big_quiet_step (fail))
          refine wpQuiet_nil ?_
          refine WD.free [5, 6, 7] (by kernel_rfl) hcell ?_
          simp only [pick, List.toList_toArray, List.map_cons, List.map_nil, List.getD_cons_succ, List.getD_cons_zero]
          repeat (first | (refine quiet_load_1R (by rfl) _ _ rfl rfl (.string p) (fun w0 h => h) _ Try.underlying9 rfl ?_; simp only [World.size_alloc, World.size_drew, Act.put, List.setIfInBounds_toArray, List.set_cons_succ, List.set_cons_zero]) | (refine quiet_len_s (by rfl) _ _ rfl Try.underlying9 rfl ?_; simp only [World.size_alloc, World.size_drew, Act.put, List.setIfInBounds_toArray, List.set_cons_succ, List.set_cons_zero]) | go_big_quiet_step (fail))
          refine wpQuiet_nil ?_
          refine WD.held [8, 9] (by kernel_rfl) hcell ?_
          simp only [pick, List.toList_toArray, List.map_cons, List.map_nil, List.getD_cons_succ, List.getD_cons_zero]
          repeat (first | (refine quiet_load_1R (by rfl) _ _ rfl rfl (.string p) (fun w0 h => h) _ Try.underlying9 rfl ?_; simp only [World.size_alloc, World.size_drew, Act.put, List.setIfInBounds_toArray, List.set_cons_succ, List.set_cons_zero]) | (refine quiet_len_s (by rfl) _ _ rfl Try.underlying9 rfl ?_; simp only [World.size_alloc, World.size_drew, Act.put, List.setIfInBounds_toArray, List.set_cons_succ, List.set_cons_zero]) | go_big_quiet_step (fail))
          refine wpQuiet_nil ?_
          refine WD.eff 12 (by kernel_rfl) ?_
          simp only [pick, List.toList_toArray, List.map_cons, List.map_nil, List.getD_cons_succ, List.getD_cons_zero]
          go_wp2_with (go_at_call 29; refine (Hpart.out _).mono ?_; rintro e w4 ⟨rfl, hw4⟩; have hw4' := hw4.symm; subst hw4')
          try refine wpList_nil ?_
          refine AfterD.on hcell (by kernel_rfl) ?_
          try simp only [World.size_alloc, World.size_drew, Act.put, List.setIfInBounds_toArray, List.set_cons_succ, List.set_cons_zero]
          refine WD.pure [13, 14, 15] (by kernel_rfl) hcell ?_
          simp only [pick, List.toList_toArray, List.map_cons, List.map_nil, List.getD_cons_succ, List.getD_cons_zero]
          repeat (first | (refine quiet_load_1R (by rfl) _ _ rfl rfl (.string p) (fun w0 h => h) _ Try.underlying9 rfl ?_; simp only [World.size_alloc, World.size_drew, Act.put, List.setIfInBounds_toArray, List.set_cons_succ, List.set_cons_zero]) | (refine quiet_len_s (by rfl) _ _ rfl Try.underlying9 rfl ?_; simp only [World.size_alloc, World.size_drew, Act.put, List.setIfInBounds_toArray, List.set_cons_succ, List.set_cons_zero]) | go_big_quiet_step (fail))
          refine wpQuiet_nil ?_
          refine WD.done (by kernel_rfl) ?_
          by_cases c3 : X = rt
          · subst c3
            have Hfit := hid ((HFT.out X).2 ⟨c1, Hc2.out, HX.out⟩)
            have hs3 : ¬ (9223372036854775807 < 1 + p.size) := by omega
            have Hnp := hid (nodeP_add p)
            have hNPs : (nodeP p).size < 1099511627776 := by
              unfold nodeP
              rw [catS_size]
              have : (ByteArray.mk #[110]).size = 1 := rfl
              simp [this]
              omega
            have Hof := hid fun w0 : World => rof_any (w := w0) (nodeP p) hNPs
            have Hstep0 := hid (show climb l n i LS = ((L ++ [nodeP p]) ++ (climb ps ((n' + 7) / 8) (i' / 8) (shaS (nodeP p))).1, (climb ps ((n' + 7) / 8) (i' / 8) (shaS (nodeP p))).2) by
              rw [E4.out, climb_yes Hfit.out]
              simp)
            obtain ⟨NP, hNP⟩ : ∃ NP, nodeP p = NP := ⟨_, rfl⟩
            rw [hNP] at Hnp Hof Hstep0
            obtain ⟨SN, hSN⟩ : ∃ SN, shaS NP = SN := ⟨_, rfl⟩
            have HSN := hid (show SN.size = 32 by rw [← hSN]; exact shaS_size _)
            rw [hSN] at Hof Hstep0
            obtain ⟨n7, hn7⟩ : ∃ n7, n' + 7 = n7 := ⟨_, rfl⟩
            have hq2 : ∀ t, binOp .quo t (.int .i64 (n7 : Int)) (.int .i64 8) = pure (.int .i64 ((n7 / 8 : Nat) : Int)) := fun t => quo_i t n7 8 (by omega) (by decide)
            have m1 : (n' : Int) + 8 - 1 = (n7 : Int) := by omega
            have m2 : n7 ≤ 16391 := by omega
            obtain ⟨n8, hn8⟩ : ∃ n8, n7 / 8 = n8 := ⟨_, rfl⟩
            rw [hn8] at hq2
            rw [hn7, hn8, HQ.out] at Hstep0
            have M1 := hid (show 1 ≤ n8 by omega)
            have M2 := hid (show n8 ≤ 16384 by omega)
            have M3 := hid (show q < n8 by have := HQ.out; omega)
            have Hpl := hid (show l.length = k + 1 + ps.length by rw [E1.out, List.length_append, List.length_cons, E2.out]; omega)
            have hcat : ∀ x : ByteArray, ⟨#[110]⟩ ++ p = x → x = NP := fun x h => h.symm.trans Hnp.out
            clear hn7 hn8 hSN hNP hNPs
            by_cases hb1 : n8 = 1 ∧ k + 1 ≠ l.length
            · have g8 : ((n8 : Int) == 1) = true := by simp; omega
              have g8' : decide ((n8 : Int) = 1) = true := by simp; omega
              have g9 : ((k : Int) + 1 != (l.length : Int)) = true := by simp; omega
              have hno := hid (show V = false by
                obtain ⟨p2, ps2, rfl⟩ : ∃ p2 ps2, ps = p2 :: ps2 := by
                  cases ps with
                  | nil => have := Hpl.out; simp at this; omega
                  | cons a b => exact ⟨a, b, rfl⟩
                rw [HV.out, Hstep0.out, climb_no (fun h => h.1 hb1.1)]
                simp)
              clear hb1
              go_wp2_with (first
                | (refine wpList_slice_v rfl _ _ _ _ _ rfl _ rfl _ _ _ rfl rfl rfl _ (hsl _) ?_; simp only [World.size_alloc, World.size_drew, Act.put, List.setIfInBounds_toArray, List.set_cons_succ, List.set_cons_zero])
                | (refine wpList_buildSlice_r rfl _ 1 _ rfl 9 Try.underlying22 _ _ Hi.out Hz.out rfl Hs.out (by decide) (by decide) (by decide) [.string NP] (by rw [← Hnp.out]; rfl) (by intro v hv; simp at hv; rcases hv with rfl; rfl) ?_; intro w5 f5 hlt5 hb5; have hcell5 := f5.cell_some (show wr.drew.cell? ⟨lb, off + k, none⟩ = some (.string p) from hcell); simp only [World.size_alloc, World.size_drew, Act.put, List.setIfInBounds_toArray, List.set_cons_succ, List.set_cons_zero])
                | (refine wpList_append_rc rfl _ _ _ rfl 9 _ _ 1 16 Try.underlying22 Hi.out Hz.out Hs.out Hb.out rfl (by decide) rfl (Own.blk (n := 1) (size := 1) (cap := 1) hb5 (Nat.le_refl _) (by unfold maxLen; omega) (by simp)) rfl (E6.out.rd.rc.keep ((Fr.refl [] wr).drew.trans' f5) (by simp)) (str_one _) (by unfold maxLen; omega) (by omega) ?_; intro v6 w6 B6 ho6 f6 hB6; have hcell6 : w6.cell? ⟨lb, off + k, none⟩ = some (.string p) := (World.cell?_of_block (a := ⟨lb, off + k, none⟩) (f6.block lb (Nat.lt_of_lt_of_le hlbs f5.size) (by simp; omega))).trans hcell5; simp only [World.size_alloc, World.size_drew, Act.put, List.setIfInBounds_toArray, List.set_cons_succ, List.set_cons_zero])
                | (go_at_call 18; rw [Hnp.out]; refine (Hof.out _).mono ?_; rintro e w7 ⟨rfl, f7⟩))
              go_ret2
              rw [hno.out]
              refine ⟨⟨_, rfl, fun h => by cases h⟩, (((f.drew.trans' f5).trans f6 ?_).trans' f7)⟩
              intro y hy
              have := f.size
              simp at hy
              exact .inr (by rw [hy]; exact this)
            · by_cases h81 : n8 = 1
              · have g8 : ((n8 : Int) == 1) = true := by simp; omega
                have g8' : decide ((n8 : Int) = 1) = true := by simp; omega
                have g9 : ((k : Int) + 1 != (l.length : Int)) = false := by simp; omega
                clear h81 hb1
                go_wp2_with (first
                  | (refine wpList_slice_v rfl _ _ _ _ _ rfl _ rfl _ _ _ rfl rfl rfl _ (hsl _) ?_; simp only [World.size_alloc, World.size_drew, Act.put, List.setIfInBounds_toArray, List.set_cons_succ, List.set_cons_zero])
                  | (refine wpList_buildSlice_r rfl _ 1 _ rfl 9 Try.underlying22 _ _ Hi.out Hz.out rfl Hs.out (by decide) (by decide) (by decide) [.string NP] (by rw [← Hnp.out]; rfl) (by intro v hv; simp at hv; rcases hv with rfl; rfl) ?_; intro w5 f5 hlt5 hb5; have hcell5 := f5.cell_some (show wr.drew.cell? ⟨lb, off + k, none⟩ = some (.string p) from hcell); simp only [World.size_alloc, World.size_drew, Act.put, List.setIfInBounds_toArray, List.set_cons_succ, List.set_cons_zero])
                  | (refine wpList_append_rc rfl _ _ _ rfl 9 _ _ 1 16 Try.underlying22 Hi.out Hz.out Hs.out Hb.out rfl (by decide) rfl (Own.blk (n := 1) (size := 1) (cap := 1) hb5 (Nat.le_refl _) (by unfold maxLen; omega) (by simp)) rfl (E6.out.rd.rc.keep ((Fr.refl [] wr).drew.trans' f5) (by simp)) (str_one _) (by unfold maxLen; omega) (by omega) ?_; intro v6 w6 B6 ho6 f6 hB6; have hcell6 : w6.cell? ⟨lb, off + k, none⟩ = some (.string p) := (World.cell?_of_block (a := ⟨lb, off + k, none⟩) (f6.block lb (Nat.lt_of_lt_of_le hlbs f5.size) (by simp; omega))).trans hcell5; simp only [World.size_alloc, World.size_drew, Act.put, List.setIfInBounds_toArray, List.set_cons_succ, List.set_cons_zero])
                  | (go_at_call 18; rw [Hnp.out]; refine (Hof.out _).mono ?_; rintro e w7 ⟨rfl, f7⟩))
                go_roundw
                case rel =>
                  refine ⟨n8, q, k + 1, dn ++ [p], ps, L ++ [NP], SN, B6, by first | rfl | go_num, by first | rfl | go_num, rfl, by first | rfl | go_num, by rw [E1.out]; simp, by rw [List.length_append, E2.out]; rfl, M1.out, M2.out, M3.out, Hstep0.out, HSN.out, ?_, by rw [List.length_append, E7.out]; rfl, ?_⟩
                  · have := ho6.keep f7 (by simp)
                    rw [show (LT :: (L ++ [NP])).length = 1 + c8 by rw [← Hc8.out]; simp; omega]
                    simpa using this
                  · refine (((f.drew.trans' f5).trans f6 ?_).trans' f7)
                    intro y hy
                    have := f.size
                    simp at hy
                    exact .inr (by rw [hy]; exact this)
                case measure => simp [intOf]; omega
              · have g8 : ((n8 : Int) == 1) = false := by simp; omega
                have g8' : decide ((n8 : Int) = 1) = false := by simp; omega
                clear hb1
                go_wp2_with (first
                  | (refine wpList_slice_v rfl _ _ _ _ _ rfl _ rfl _ _ _ rfl rfl rfl _ (hsl _) ?_; simp only [World.size_alloc, World.size_drew, Act.put, List.setIfInBounds_toArray, List.set_cons_succ, List.set_cons_zero])
                  | (refine wpList_buildSlice_r rfl _ 1 _ rfl 9 Try.underlying22 _ _ Hi.out Hz.out rfl Hs.out (by decide) (by decide) (by decide) [.string NP] (by rw [← Hnp.out]; rfl) (by intro v hv; simp at hv; rcases hv with rfl; rfl) ?_; intro w5 f5 hlt5 hb5; have hcell5 := f5.cell_some (show wr.drew.cell? ⟨lb, off + k, none⟩ = some (.string p) from hcell); simp only [World.size_alloc, World.size_drew, Act.put, List.setIfInBounds_toArray, List.set_cons_succ, List.set_cons_zero])
                  | (refine wpList_append_rc rfl _ _ _ rfl 9 _ _ 1 16 Try.underlying22 Hi.out Hz.out Hs.out Hb.out rfl (by decide) rfl (Own.blk (n := 1) (size := 1) (cap := 1) hb5 (Nat.le_refl _) (by unfold maxLen; omega) (by simp)) rfl (E6.out.rd.rc.keep ((Fr.refl [] wr).drew.trans' f5) (by simp)) (str_one _) (by unfold maxLen; omega) (by omega) ?_; intro v6 w6 B6 ho6 f6 hB6; have hcell6 : w6.cell? ⟨lb, off + k, none⟩ = some (.string p) := (World.cell?_of_block (a := ⟨lb, off + k, none⟩) (f6.block lb (Nat.lt_of_lt_of_le hlbs f5.size) (by simp; omega))).trans hcell5; simp only [World.size_alloc, World.size_drew, Act.put, List.setIfInBounds_toArray, List.set_cons_succ, List.set_cons_zero])
                  | (go_at_call 18; rw [Hnp.out]; refine (Hof.out _).mono ?_; rintro e w7 ⟨rfl, f7⟩))
                go_roundw
                case rel =>
                  refine ⟨n8, q, k + 1, dn ++ [p], ps, L ++ [NP], SN, B6, by first | rfl | go_num, by first | rfl | go_num, rfl, by first | rfl | go_num, by rw [E1.out]; simp, by rw [List.length_append, E2.out]; rfl, M1.out, M2.out, M3.out, Hstep0.out, HSN.out, ?_, by rw [List.length_append, E7.out]; rfl, ?_⟩
                  · have := ho6.keep f7 (by simp)
                    rw [show (LT :: (L ++ [NP])).length = 1 + c8 by rw [← Hc8.out]; simp; omega]
                    simpa using this
                  · refine (((f.drew.trans' f5).trans f6 ?_).trans' f7)
                    intro y hy
                    have := f.size
                    simp at hy
                    exact .inr (by rw [hy]; exact this)
                case measure => simp [intOf]; omega
          · have g4 : (X.toList == rt.toList) = false := by rw [beq_str2]; exact decide_eq_false c3
            have hno := hid (show V = false by
              have h : ¬ fits n' i' rt p := fun h => c3 (HX.out.symm.trans ((HFT.out rt).1 h).2.2)
              rw [HV.out, E4.out, climb_no h]
              simp)
            go_wp2_with (refine wpList_slice_v rfl _ _ _ _ _ rfl _ rfl _ _ _ rfl rfl rfl _ (hsl _) ?_; simp only [World.size_alloc, World.size_drew, Act.put, List.setIfInBounds_toArray, List.set_cons_succ, List.set_cons_zero])
            go_ret2
            rw [hno.out]
            exact ⟨⟨_, rfl, fun h => by cases h⟩, f.drew⟩
        · have g3 : ((p.size : Int) != (z : Int)) = true := by simp; omega
          have hno := hid (show V = false by
            have h : ¬ fits n' i' rt p := fun h => c2 ((HFT.out rt).1 h).2.1
            rw [HV.out, E4.out, climb_no h]
            simp)
          go_wp2_with fail
          refine wp_region_D (fun w' => w'.cell? ⟨lb, off + k, none⟩ = some (.string p)) false [] (by kernel_rfl) ?_
          refine WD.pure [0, 1, 2, 3, 4, 10, 11] (by kernel_rfl) hcell ?_
          simp only [pick, List.toList_toArray, List.map_cons, List.map_nil, List.getD_cons_succ, List.getD_cons_zero]
          repeat (first | (refine quiet_load_1R (by rfl) _ _ rfl rfl (.string p) (fun w0 h => h) _ Try.underlying9 rfl ?_; simp only [World.size_alloc, World.size_drew, Act.put, List.setIfInBounds_toArray, List.set_cons_succ, List.set_cons_zero]) | (refine quiet_len_s (by rfl) _ _ rfl Try.underlying9 rfl ?_; simp only [World.size_alloc, World.size_drew, Act.put, List.setIfInBounds_toArray, List.set_cons_succ, List.set_cons_zero]) | go_big_quiet_step (fail))
          refine wpQuiet_nil ?_
          refine WD.free [5, 6, 7] (by kernel_rfl) hcell ?_
          simp only [pick, List.toList_toArray, List.map_cons, List.map_nil, List.getD_cons_succ, List.getD_cons_zero]
          repeat (first | (refine quiet_load_1R (by rfl) _ _ rfl rfl (.string p) (fun w0 h => h) _ Try.underlying9 rfl ?_; simp only [World.size_alloc, World.size_drew, Act.put, List.setIfInBounds_toArray, List.set_cons_succ, List.set_cons_zero]) | (refine quiet_len_s (by rfl) _ _ rfl Try.underlying9 rfl ?_; simp only [World.size_alloc, World.size_drew, Act.put, List.setIfInBounds_toArray, List.set_cons_succ, List.set_cons_zero]) | go_big_quiet_step (fail))
          refine wpQuiet_nil ?_
          refine WD.held [8, 9] (by kernel_rfl) hcell ?_
          simp only [pick, List.toList_toArray, List.map_cons, List.map_nil, List.getD_cons_succ, List.getD_cons_zero]
          repeat (first | (refine quiet_load_1R (by rfl) _ _ rfl rfl (.string p) (fun w0 h => h) _ Try.underlying9 rfl ?_; simp only [World.size_alloc, World.size_drew, Act.put, List.setIfInBounds_toArray, List.set_cons_succ, List.set_cons_zero]) | (refine quiet_len_s (by rfl) _ _ rfl Try.underlying9 rfl ?_; simp only [World.size_alloc, World.size_drew, Act.put, List.setIfInBounds_toArray, List.set_cons_succ, List.set_cons_zero]) | go_big_quiet_step (fail))
          refine wpQuiet_nil ?_
          refine WD.eff 12 (by kernel_rfl) ?_
          simp only [pick, List.toList_toArray, List.map_cons, List.map_nil, List.getD_cons_succ, List.getD_cons_zero]
          go_wp2_with (go_at_call 29; refine (Hpart.out _).mono ?_; rintro e w4 ⟨rfl, hw4⟩; have hw4' := hw4.symm; subst hw4')
          try refine wpList_nil ?_
          refine AfterD.on hcell (by kernel_rfl) ?_
          try simp only [World.size_alloc, World.size_drew, Act.put, List.setIfInBounds_toArray, List.set_cons_succ, List.set_cons_zero]
          refine WD.pure [13, 14, 15] (by kernel_rfl) hcell ?_
          simp only [pick, List.toList_toArray, List.map_cons, List.map_nil, List.getD_cons_succ, List.getD_cons_zero]
          repeat (first | (refine quiet_load_1R (by rfl) _ _ rfl rfl (.string p) (fun w0 h => h) _ Try.underlying9 rfl ?_; simp only [World.size_alloc, World.size_drew, Act.put, List.setIfInBounds_toArray, List.set_cons_succ, List.set_cons_zero]) | (refine quiet_len_s (by rfl) _ _ rfl Try.underlying9 rfl ?_; simp only [World.size_alloc, World.size_drew, Act.put, List.setIfInBounds_toArray, List.set_cons_succ, List.set_cons_zero]) | go_big_quiet_step (fail))
          refine wpQuiet_nil ?_
          refine WD.done (by kernel_rfl) ?_
          go_wp2_with fail
          go_ret2
          rw [hno.out]
          exact ⟨⟨_, rfl, fun h => by cases h⟩, f.drew⟩
      · have g2 : decide ((l.length : Int) ≤ (k : Int)) = true := by simp; omega
        have g2' : (l.length : Int) ≤ (k : Int) := by omega
        have Hno := hid (show V = false by
          have : todo = [] := by
            have := congrArg List.length e1
            rw [List.length_append] at this
            exact List.eq_nil_of_length_eq_zero (by omega)
          rw [HV.out, E4.out, this]
          simp [climb, c1])
        clear e1 e2 e4 e7
        go_wp2_with fail
        refine wp_region_D (fun _ => True) false [] (by kernel_rfl) ?_
        refine WD.pure [0, 1, 2, 3, 4, 10, 11] (by kernel_rfl) trivial ?_
        simp only [pick, List.toList_toArray, List.map_cons, List.map_nil, List.getD_cons_succ, List.getD_cons_zero]
        repeat (first | go_big_quiet_step (fail))
        refine wpQuiet_nil ?_
        refine WD.free [5, 6, 7] (by kernel_rfl) trivial ?_
        simp only [pick, List.toList_toArray, List.map_cons, List.map_nil, List.getD_cons_succ, List.getD_cons_zero]
        repeat (first | go_big_quiet_step (fail))
        refine wpQuiet_nil ?_
        refine WD.held [8, 9] (by kernel_rfl) trivial ?_
        simp only [pick, List.toList_toArray, List.map_cons, List.map_nil, List.getD_cons_succ, List.getD_cons_zero]
        repeat (first | go_big_quiet_step (fail))
        refine wpQuiet_nil ?_
        refine WD.eff 12 (by kernel_rfl) ?_
        simp only [pick, List.toList_toArray, List.map_cons, List.map_nil, List.getD_cons_succ, List.getD_cons_zero]
        go_wp2_with fail
        try refine wpList_nil ?_
        refine AfterD.on trivial (by kernel_rfl) ?_
        try simp only [World.size_alloc, World.size_drew, Act.put, List.setIfInBounds_toArray, List.set_cons_succ, List.set_cons_zero]
        refine WD.pure [13, 14, 15] (by kernel_rfl) trivial ?_
        simp only [pick, List.toList_toArray, List.map_cons, List.map_nil, List.getD_cons_succ, List.getD_cons_zero]
        repeat (first | go_big_quiet_step (fail))
        refine wpQuiet_nil ?_
        refine WD.done (by kernel_rfl) ?_
        go_wp2_with fail
        go_ret2
        rw [Hno.out]
        exact ⟨⟨_, rfl, fun h => by cases h⟩, f.drew⟩
end Go.Proofs.Ythfjjencnfebmaa.mer
