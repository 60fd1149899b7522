/- Layer 10, the document's answer: a clash. -/
import Derived.Test.YthfjjencnfebmaaMerO
namespace Go.Proofs.Ythfjjencnfebmaa.mer
open Go Go.Xr Go.RowKit
set_option linter.unusedVariables false
set_option linter.unusedSimpArgs false
/-- The root that a path leads to, by its last part. -/
def lastR (path : List ByteArray) (rt : ByteArray) : ByteArray := match path.getLast? with | none => rt | some p => shaS (nodeP p)
theorem climb_root : ∀ (l : List ByteArray) (n i : Nat) (rt : ByteArray), (climb l n i rt).2.2 = true → (climb l n i rt).2.1 = lastR l rt
  | [], n, i, rt, h => rfl
  | p :: ps, n, i, rt, h => by
    by_cases hf : fits n i rt p
    · rw [climb_yes hf] at h ⊢
      simp only
      rw [climb_root ps _ _ _ h]
      cases ps with
      | nil => rfl
      | cons a b =>
        unfold lastR
        rw [List.getLast?_cons_cons]
        cases hb : (a :: b).getLast? with
        | none => simp at hb
        | some x => rfl
    · rw [climb_no hf] at h
      cases h
theorem diffR_drop (a b : List ByteArray) (j : Nat) (x y : ByteArray) (ha : a[j]? = some x) (hb : b[j]? = some y) : diffR (a.drop j) (b.drop j) = if x = y then diffR (a.drop (j + 1)) (b.drop (j + 1)) else (x, y, true) := by
  obtain ⟨h1, h2⟩ := List.getElem?_eq_some_iff.1 ha
  obtain ⟨h3, h4⟩ := List.getElem?_eq_some_iff.1 hb
  rw [List.drop_eq_getElem_cons h1, List.drop_eq_getElem_cons h3, h2, h4, diffR]
theorem cv_any (w : World) (i : Int) : ∃ x : UInt64, (convert 3 65 (.int .i64 i)).run Try.prog w = .ok (W64 x) w := by
  refine ⟨UInt64.ofNat (i % 18446744073709551616).toNat, ?_⟩
  have e : Value.int .u64 (IntKind.u64.wrap i) = W64 (UInt64.ofNat (i % 18446744073709551616).toNat) := by
    rw [val_u64, u64_int _ (by omega)]
    congr 1
    simp [IntKind.wrap, IntKind.bits, IntKind.signed]
    omega
  simp only [convert, Sem.run_bind, run_underlying Try.underlying3, run_underlying Try.underlying65, Result.andThen_ok, Conv.intToInt, e, Sem.run_pure]
theorem rleaf_some {w : World} (i : Int) (tag : ByteArray) (ht : tag.size < 1099511627000) : Calls Try.prog 28 #[.int .i64 i, .string tag] w fun e w' => (∃ s, e = .returned (.string s)) ∧ Fr [] w w' := by
  obtain ⟨x, hx⟩ : ∃ x : UInt64, ∀ w0 : World, (convert 3 65 (.int .i64 i)).run Try.prog w0 = .ok (W64 x) w0 := by
    refine ⟨UInt64.ofNat (i % 18446744073709551616).toNat, fun w0 => ?_⟩
    have e : Value.int .u64 (IntKind.u64.wrap i) = W64 (UInt64.ofNat (i % 18446744073709551616).toNat) := by
      rw [val_u64, u64_int _ (by omega)]
      congr 1
      simp [IntKind.wrap, IntKind.bits, IntKind.signed]
      omega
    simp only [convert, Sem.run_bind, run_underlying Try.underlying3, run_underlying Try.underlying65, Result.andThen_ok, Conv.intToInt, e, Sem.run_pure]
  have hN0 := n8le_size x
  have HL := hid (show n8le x = ⟨(leN x.toNat 8).toArray⟩ from rfl)
  obtain ⟨N8, hN8⟩ : ∃ N8, n8le x = N8 := ⟨_, rfl⟩
  rw [hN8] at hN0 HL
  have hs1 : ¬ (9223372036854775807 < 1 + N8.size) := by omega
  have hs2 : ¬ (9223372036854775807 < 1 + N8.size + tag.size) := by omega
  have hT : (⟨#[108]⟩ ++ N8 ++ tag : ByteArray).size < 1099511627776 := by
    rw [ByteArray.size_append, ByteArray.size_append]
    have : (ByteArray.mk #[108]).size = 1 := rfl
    omega
  have hlt : Calls Try.prog 27 #[.int .i64 i, .string tag] w fun e w' => e = .returned (.string (⟨#[108]⟩ ++ N8 ++ tag)) ∧ Fr [] w w' := by
    clear hT hN8
    go_enter Try.func27, Try.ntmps27
    go_wp2_with (go_at_call 42; refine (num_any _ 8 (by decide)).mono ?_; rintro e w1 ⟨rfl, f1⟩; rw [← HL.out])
    go_ret
    exact ⟨rfl, f1⟩
  have H1 := hid hlt
  have H2 := hid fun w0 : World => rof_any (w := w0) (⟨#[108]⟩ ++ N8 ++ tag) hT
  obtain ⟨T, hTT⟩ : ∃ T, (⟨#[108]⟩ ++ N8 ++ tag : ByteArray) = T := ⟨_, rfl⟩
  rw [hTT] at H1 H2
  clear hx hN8 hT hTT hs2 hs1 hN0 hlt
  go_enter Try.func28, Try.ntmps28
  go_wp2_with (first
    | (go_at_call 27; refine H1.out.mono ?_; rintro e w1 ⟨rfl, f1⟩)
    | (go_at_call 18; refine (H2.out _).mono ?_; rintro e w2 ⟨rfl, f2⟩))
  go_ret
  exact ⟨⟨_, rfl⟩, f1.trans' f2⟩
set_option maxRecDepth 20000 in
set_option maxHeartbeats 1000000 in
theorem rclash_any {w : World} {v1 v2 : Value} {l1 l2 : List ByteArray} {B1 B2 : Option Nat} (h1 : Rc w 1 v1 l1.length (l1.map .string) B1) (hl1 : l1.length ≤ 1000000) (hls1 : ∀ s ∈ l1, s.size ≤ 1099511626000) (h2 : Rc w 1 v2 l2.length (l2.map .string) B2) (hl2 : l2.length ≤ 1000000) (hls2 : ∀ s ∈ l2, s.size ≤ 1099511626000)
    (n i : Int) (tag other : ByteArray) (ht : tag.size ≤ 1099511626000) (ho : other.size ≤ 1099511626000) :
    Calls Try.prog 17 #[.int .i64 n, .int .i64 i, .string tag, .string other, v1, v2] w fun e w' => e = .returned (.tuple #[.string (clashS n i tag other l1 l2).1, .string (clashS n i tag other l1 l2).2.1, .bool (clashS n i tag other l1 l2).2.2]) ∧ Fr [] w w' := by
  have Hto := hid (beq_str2 tag other)
  obtain ⟨a1, c1, rfl⟩ := h1.isSlice
  obtain ⟨a2, c2, rfl⟩ := h2.isSlice
  by_cases hto : tag = other
  · have g1 : (tag.toList == other.toList) = true := by rw [Hto.out]; exact decide_eq_true hto
    have Hno := hid (show clashS n i tag other l1 l2 = (⟨#[]⟩, ⟨#[]⟩, false) by unfold clashS; rw [if_neg]; rintro ⟨_, q1, _⟩; exact q1 hto)
    rw [Hno.out]
    clear h1 h2 hto
    go_enter Try.func17, Try.ntmps17
    go_wp2_with fail
    go_ret3
    exact ⟨rfl, Fr.refl _ _⟩
  · have g1 : (tag.toList == other.toList) = false := by rw [Hto.out]; exact decide_eq_false hto
    -- the root, by the path's last part
    have Hroot := hid (show ∀ (LS : ByteArray), (l1 = [] ∧ lastR l1 LS = LS) ∨ ∃ k p, l1.length = k + 1 ∧ l1[k]? = some p ∧ p.size ≤ 1099511626000 ∧ lastR l1 LS = shaS (nodeP p) by
      intro LS
      rcases List.eq_nil_or_concat l1 with h | ⟨l', p, h⟩
      · exact .inl ⟨h, by rw [h]; rfl⟩
      · refine .inr ⟨l'.length, p, by rw [h]; simp, by rw [h]; simp, hls1 p (by rw [h]; simp), by rw [h]; simp [lastR]⟩)
    obtain ⟨m1, hm1⟩ : ∃ m1, l1.length = m1 := ⟨_, rfl⟩
    have Hm1 := hid hm1
    obtain ⟨m2, hm2⟩ : ∃ m2, l2.length = m2 := ⟨_, rfl⟩
    have Hm2 := hid hm2
    have R1 := hid h1
    have R2 := hid h2
    rw [hm1] at hl1
    by_cases hok : okNI n i
    · obtain ⟨N, rfl⟩ : ∃ N : Nat, n = (N : Int) := ⟨n.toNat, by unfold okNI at hok; omega⟩
      obtain ⟨I, rfl⟩ : ∃ I : Nat, i = (I : Int) := ⟨i.toNat, by unfold okNI at hok; omega⟩
      have HL := hid fun w0 : World => rleaf_any (w := w0) I tag (by unfold okNI at hok; omega) (by omega)
      have HC := hid (show clashS N I tag other l1 l2 = if okNI N I ∧ tag ≠ other ∧ (climb l1 N I (leafS I tag)).2.2 = true ∧ (climb l2 N I (leafS I other)).2.2 = true ∧ (climb l1 N I (leafS I tag)).2.1 = (climb l2 N I (leafS I other)).2.1 then
          diffR (leafT I tag :: (climb l1 N I (leafS I tag)).1).reverse (leafT I other :: (climb l2 N I (leafS I other)).1).reverse else (⟨#[]⟩, ⟨#[]⟩, false) from rfl)
      obtain ⟨C, hC⟩ : ∃ C, clashS N I tag other l1 l2 = C := ⟨_, rfl⟩
      rw [hC] at HC ⊢
      have HT1 := hid fun (w0 : World) (f0 : Fr [] w w0) => rtexts_any (w := w0) (h1.keep f0 (by simp)) (by omega) hls1 (lastR l1 (leafS I tag)) N I (by unfold okNI at hok; omega) (by unfold okNI at hok; omega) tag ht
      have HT2 := hid fun (w0 : World) (f0 : Fr [] w w0) => rtexts_any (w := w0) (h2.keep f0 (by simp)) hl2 hls2 (lastR l1 (leafS I tag)) N I (by unfold okNI at hok; omega) (by unfold okNI at hok; omega) other ho
      have HV1 : verS (lastR l1 (leafS I tag)) N I tag l1 = (climb l1 N I (leafS I tag)).2.2 := by
        have e : verS (lastR l1 (leafS I tag)) N I tag l1 = ((climb l1 N I (leafS I tag)).2.2 && decide ((climb l1 N I (leafS I tag)).2.1 = lastR l1 (leafS I tag))) := by unfold verS; rw [if_pos hok]; rfl
        rw [e]
        cases hc : (climb l1 N I (leafS I tag)).2.2 with
        | false => rfl
        | true => rw [climb_root _ _ _ _ hc]; simp
      have HV2 : verS (lastR l1 (leafS I tag)) N I other l2 = ((climb l2 N I (leafS I other)).2.2 && decide ((climb l2 N I (leafS I other)).2.1 = lastR l1 (leafS I tag))) := by unfold verS; rw [if_pos hok]; rfl
      have Hcr := hid (climb_root l1 N I (leafS I tag))
      have Hsl := hid (fun (e1 : (climb l1 N I (leafS I tag)).2.2 = true) (e2 : (climb l2 N I (leafS I other)).2.2 = true) => (climb_len l1 N I (leafS I tag) e1).trans ((climb_same l1 l2 N I I _ _ e1 e2).trans (climb_len l2 N I (leafS I other) e2).symm))
      have HAl := hid (climb_len l1 N I (leafS I tag))
      obtain ⟨⟨A, r, ok⟩, hc1⟩ : ∃ c, climb l1 N I (leafS I tag) = c := ⟨_, rfl⟩
      obtain ⟨⟨D, q, too⟩, hc2⟩ : ∃ c, climb l2 N I (leafS I other) = c := ⟨_, rfl⟩
      rw [HV1] at HT1
      rw [HV2] at HT2
      rw [hc1] at HT1 Hcr HAl
      rw [hc2] at HT2
      rw [hc1, hc2] at HC Hsl
      simp only at HT1 HT2 HC Hcr Hsl HAl
      obtain ⟨LS, hLS⟩ : ∃ LS, leafS I tag = LS := ⟨_, rfl⟩
      rw [hLS] at HT1 HT2 HL Hcr
      obtain ⟨V2, hV2⟩ : ∃ V2, (too && decide (q = lastR l1 LS)) = V2 := ⟨_, rfl⟩
      rw [hV2] at HT2
      have HV := hid hV2
      have Hok := hid hok
      have Hne := hid hto
      rw [hm1] at HT1
      rw [hm2] at HT2
      rw [hm1, hm2]
      clear h1 h2 hC hc1 hc2 hok hto HV1 HV2 hLS hV2 hm1 hm2
      cases ok
      · have Hno := hid (show C = (⟨#[]⟩, ⟨#[]⟩, false) by rw [HC.out, if_neg]; rintro ⟨_, _, q2, _⟩; cases q2)
        rcases Hroot.out LS with ⟨hl0, hR⟩ | ⟨k, p, hk, hp, hps, hR⟩
        · have hz : m1 = 0 := by rw [← Hm1.out, hl0]; rfl
          have g2 : decide ((0 : Int) < (m1 : Int)) = false := by simp; omega
          have g2' : ¬ ((0 : Int) < (m1 : Int)) := by omega
          rw [hR] at HT1 HT2
          clear hz hl0 hR
          go_enter Try.func17, Try.ntmps17
          go_wp2_with (first
            | (go_at_call 28; refine (HL.out _).mono ?_; rintro e w5 ⟨rfl, f5⟩)
            | (go_at_call 11; refine (HT1.out _ f5).mono ?_; rintro e w6 ⟨⟨x6, rfl, hr6⟩, f6⟩; have g6 := f5.trans' f6; clear HT1)
            | (go_at_call 11; refine (HT2.out _ g6).mono ?_; rintro e w7 ⟨⟨x7, rfl, hr7⟩, f7⟩; have g7 := g6.trans' f7; clear HT2; revert f7))
          intro f7
          go_wp2_with fail
          go_ret3
          rw [Hno.out]
          exact ⟨rfl, g7⟩
        · obtain ⟨b1, o1, had, hB1, hlb1, hi1, q1⟩ := rc_elem R1.out (i := k) (by omega)
          cases had
          rw [show l1[k] = p by rw [List.getElem?_eq_getElem hi1] at hp; exact Option.some.inj hp] at q1
          have hmk : m1 = k + 1 := by rw [← Hm1.out]; exact hk
          have g2 : decide ((0 : Int) < (m1 : Int)) = true := by simp; omega
          have g2' : (0 : Int) < (m1 : Int) := by omega
          have g3 : (m1 : Int) - 1 = (k : Int) := by omega
          have g3' : (k : Int) < (m1 : Int) := by omega
          have hs3 : ¬ (9223372036854775807 < 1 + p.size) := by omega
          have Hnp := hid (nodeP_add p)
          have hNPs : (nodeP p).size < 1099511627776 := by
            unfold nodeP
            rw [catS_size]
            have : (ByteArray.mk #[110]).size = 1 := rfl
            simp [this]
            omega
          have Hof := hid fun w0 : World => rof_any (w := w0) (nodeP p) hNPs
          rw [← hR] at Hof
          obtain ⟨RT, hRT⟩ : ∃ RT, lastR l1 LS = RT := ⟨_, rfl⟩
          rw [hRT] at HT1 HT2 Hof
          clear hk hp hps hB1 hi1 hmk hNPs hR hRT
          go_enter Try.func17, Try.ntmps17
          go_wp2_with (first
            | (go_at_call 28; refine (HL.out _).mono ?_; rintro e w4 ⟨rfl, f4⟩; have q5 := f4.cell_some q1)
            | (go_at_call 18; rw [Hnp.out]; refine (Hof.out _).mono ?_; rintro e w5 ⟨rfl, f45⟩; have f5 := f4.trans' f45)
            | (go_at_call 11; refine (HT1.out _ f5).mono ?_; rintro e w6 ⟨⟨x6, rfl, hr6⟩, f6⟩; have g6 := f5.trans' f6; clear HT1)
            | (go_at_call 11; refine (HT2.out _ g6).mono ?_; rintro e w7 ⟨⟨x7, rfl, hr7⟩, f7⟩; have g7 := g6.trans' f7; clear HT2; revert f7))
          intro f7
          go_wp2_with fail
          go_ret3
          rw [Hno.out]
          exact ⟨rfl, g7⟩
      · have hr := Hcr.out rfl
        cases V2
        · have Hno := hid (show C = (⟨#[]⟩, ⟨#[]⟩, false) by
            rw [HC.out, if_neg]
            rintro ⟨_, _, _, q3, q4⟩
            have := HV.out
            rw [q3, ← q4, hr] at this
            simp at this)
          clear hr
          rcases Hroot.out LS with ⟨hl0, hR⟩ | ⟨k, p, hk, hp, hps, hR⟩
          · have hz : m1 = 0 := by rw [← Hm1.out, hl0]; rfl
            have g2 : decide ((0 : Int) < (m1 : Int)) = false := by simp; omega
            have g2' : ¬ ((0 : Int) < (m1 : Int)) := by omega
            rw [hR] at HT1 HT2
            clear hz hl0 hR
            go_enter Try.func17, Try.ntmps17
            go_wp2_with (first
              | (go_at_call 28; refine (HL.out _).mono ?_; rintro e w5 ⟨rfl, f5⟩)
              | (go_at_call 11; refine (HT1.out _ f5).mono ?_; rintro e w6 ⟨⟨x6, rfl, hr6⟩, f6⟩; have g6 := f5.trans' f6; clear HT1)
              | (go_at_call 11; refine (HT2.out _ g6).mono ?_; rintro e w7 ⟨⟨x7, rfl, hr7⟩, f7⟩; have g7 := g6.trans' f7; clear HT2; revert f7))
            intro f7
            go_wp2_with fail
            go_ret3
            rw [Hno.out]
            exact ⟨rfl, g7⟩
          · obtain ⟨b1, o1, had, hB1, hlb1, hi1, q1⟩ := rc_elem R1.out (i := k) (by omega)
            cases had
            rw [show l1[k] = p by rw [List.getElem?_eq_getElem hi1] at hp; exact Option.some.inj hp] at q1
            have hmk : m1 = k + 1 := by rw [← Hm1.out]; exact hk
            have g2 : decide ((0 : Int) < (m1 : Int)) = true := by simp; omega
            have g2' : (0 : Int) < (m1 : Int) := by omega
            have g3 : (m1 : Int) - 1 = (k : Int) := by omega
            have g3' : (k : Int) < (m1 : Int) := by omega
            have hs3 : ¬ (9223372036854775807 < 1 + p.size) := by omega
            have Hnp := hid (nodeP_add p)
            have hNPs : (nodeP p).size < 1099511627776 := by
              unfold nodeP
              rw [catS_size]
              have : (ByteArray.mk #[110]).size = 1 := rfl
              simp [this]
              omega
            have Hof := hid fun w0 : World => rof_any (w := w0) (nodeP p) hNPs
            rw [← hR] at Hof
            obtain ⟨RT, hRT⟩ : ∃ RT, lastR l1 LS = RT := ⟨_, rfl⟩
            rw [hRT] at HT1 HT2 Hof
            clear hk hp hps hB1 hi1 hmk hNPs hR hRT
            go_enter Try.func17, Try.ntmps17
            go_wp2_with (first
              | (go_at_call 28; refine (HL.out _).mono ?_; rintro e w4 ⟨rfl, f4⟩; have q5 := f4.cell_some q1)
              | (go_at_call 18; rw [Hnp.out]; refine (Hof.out _).mono ?_; rintro e w5 ⟨rfl, f45⟩; have f5 := f4.trans' f45)
              | (go_at_call 11; refine (HT1.out _ f5).mono ?_; rintro e w6 ⟨⟨x6, rfl, hr6⟩, f6⟩; have g6 := f5.trans' f6; clear HT1)
              | (go_at_call 11; refine (HT2.out _ g6).mono ?_; rintro e w7 ⟨⟨x7, rfl, hr7⟩, f7⟩; have g7 := g6.trans' f7; clear HT2; revert f7))
            intro f7
            go_wp2_with fail
            go_ret3
            rw [Hno.out]
            exact ⟨rfl, g7⟩
        · have hv := HV.out
          rw [Bool.and_eq_true] at hv
          obtain ⟨e1, e2⟩ := hv
          subst e1
          have e3 := of_decide_eq_true e2
          have Hyes := hid (show C = diffR (leafT I tag :: A).reverse (leafT I other :: D).reverse by rw [HC.out, if_pos ⟨Hok.out, Hne.out, rfl, rfl, hr.trans e3.symm⟩])
          have Hll := hid (show (leafT I tag :: A).length = (leafT I other :: D).length by simp; exact Hsl.out rfl rfl)
          have HA := HAl.out rfl
          obtain ⟨m, hm⟩ : ∃ m, (leafT I tag :: A).length = m := ⟨_, rfl⟩
          have hmb : m ≤ 1000001 := by
            rw [← hm, List.length_cons, HA]
            have := Hm1.out
            omega
          rw [hm] at HT1 Hll
          obtain ⟨E, hE⟩ : ∃ E, (leafT I tag :: A).reverse = E := ⟨_, rfl⟩
          obtain ⟨F, hF⟩ : ∃ F, (leafT I other :: D).reverse = F := ⟨_, rfl⟩
          rw [hE, hF] at Hyes
          rw [hE] at HT1
          rw [hF, ← Hll.out] at HT2
          have Hm := hid (show E.length = m by rw [← hE, List.length_reverse, hm])
          have HmF := hid (show F.length = m by rw [← hF, List.length_reverse, Hll.out])
          clear hr e2 e3 HA hm hE hF Hll Hsl HAl
          rcases Hroot.out LS with ⟨hl0, hR⟩ | ⟨k, p, hk, hp, hps, hR⟩
          · have hz : m1 = 0 := by rw [← Hm1.out, hl0]; rfl
            have g2 : decide ((0 : Int) < (m1 : Int)) = false := by simp; omega
            have g2' : ¬ ((0 : Int) < (m1 : Int)) := by omega
            rw [hR] at HT1 HT2
            clear hz hl0 hR
            go_enter Try.func17, Try.ntmps17
            go_wp2_with (first
              | (go_at_call 28; refine (HL.out _).mono ?_; rintro e w5 ⟨rfl, f5⟩)
              | (go_at_call 11; refine (HT1.out _ f5).mono ?_; rintro e w6 ⟨⟨x6, rfl, hr6⟩, f6⟩; have g6 := f5.trans' f6; clear HT1)
              | (go_at_call 11; refine (HT2.out _ g6).mono ?_; rintro e w7 ⟨⟨x7, rfl, hr7⟩, f7⟩; have g7 := g6.trans' f7; clear HT2; revert f7))
            intro f7
            obtain ⟨B6, hr6'⟩ := hr6 trivial
            obtain ⟨B7, hr7'⟩ := hr7 trivial
            obtain ⟨aa, ca, rfl⟩ := hr6'.isSlice
            obtain ⟨ab, cb, rfl⟩ := hr7'.isSlice
            have Ha := hid (rc_as (l' := E) (hr6'.keep f7 (by simp)) Hm.out.symm rfl)
            have Ha2 := hid (rc_as (l' := F) hr7' HmF.out.symm rfl)
            rw [Hm.out] at Ha
            rw [HmF.out] at Ha2
            have g7' := g7
            clear hr6 hr7 hr6' hr7' g7
            go_wp2_with fail
            go_loopw [20] (fun kv wr => ∃ j : Nat, kv = .int .i64 (j : Int) ∧ j ≤ m ∧ diffR E F = diffR (E.drop j) (F.drop j) ∧ Fr [] w7 wr) (fun kv _ => m - (intOf kv).toNat)
            case atStart => exact ⟨0, rfl, Nat.zero_le _, rfl, Fr.refl _ _⟩
            case round =>
              obtain ⟨j, rfl, hj, hdf, fr⟩ := hrel
              by_cases hjm : j < m
              · have g5 : decide ((j : Int) < (m : Int)) = true := by simp; omega
                have g7 : (j : Int) < (m : Int) := by omega
                obtain ⟨x, hx⟩ : ∃ x, E[j]? = some x := ⟨_, List.getElem?_eq_getElem (by rw [Hm.out]; omega)⟩
                obtain ⟨y, hy⟩ : ∃ y, F[j]? = some y := ⟨_, List.getElem?_eq_getElem (by rw [HmF.out]; omega)⟩
                rw [diffR_drop E F j x y hx hy] at hdf
                obtain ⟨b3, o3, rfl, hB3, l3', hi3, q3⟩ := rc_elem (Ha.out.keep fr (by simp)) (i := j) (by omega)
                obtain ⟨b4, o4, rfl, hB4, l4', hi4, q4⟩ := rc_elem (Ha2.out.keep fr (by simp)) (i := j) (by omega)
                rw [show E[j] = x by rw [List.getElem?_eq_getElem hi3] at hx; exact Option.some.inj hx] at q3
                rw [show F[j] = y by rw [List.getElem?_eq_getElem hi4] at hy; exact Option.some.inj hy] at q4
                have Hxy := hid (beq_str2 x y)
                have Hdf := hid hdf
                have hjb : j ≤ 1000001 := by omega
                clear hdf hx hy hi3 hi4 hB3 hB4
                by_cases hxy : x = y
                · have g8 : (x.toList == y.toList) = true := by rw [Hxy.out]; exact decide_eq_true hxy
                  have Hd2 := hid (show diffR E F = _ by rw [Hdf.out, if_pos hxy])
                  clear hxy
                  go_wp2_with fail
                  refine wp_region_D (fun _ => True) false [] (by kernel_rfl) ?_
                  refine WD.pure [0, 1, 2, 3, 4, 5, 6, 7, 8] (by kernel_rfl) trivial ?_
                  simp only [pick, List.toList_toArray, List.map_cons, List.map_nil, List.getD_cons_succ, List.getD_cons_zero]
                  repeat (first | go_big_quiet_step (fail))
                  refine wpQuiet_nil ?_
                  refine WD.done (by kernel_rfl) ?_
                  go_wp2_with fail
                  go_roundw
                  case rel => exact ⟨j + 1, by first | rfl | go_num, by omega, Hd2.out, fr.drew⟩
                  case measure => simp [intOf]; omega
                · have g8 : (x.toList == y.toList) = false := by rw [Hxy.out]; exact decide_eq_false hxy
                  have Hres := hid (show C = (x, y, true) by rw [Hyes.out, Hdf.out, if_neg hxy])
                  clear hxy
                  go_wp2_with fail
                  refine wp_region_D (fun _ => True) false [] (by kernel_rfl) ?_
                  refine WD.pure [0, 1, 2, 3, 4, 5, 6, 7, 8] (by kernel_rfl) trivial ?_
                  simp only [pick, List.toList_toArray, List.map_cons, List.map_nil, List.getD_cons_succ, List.getD_cons_zero]
                  repeat (first | go_big_quiet_step (fail))
                  refine wpQuiet_nil ?_
                  refine WD.done (by kernel_rfl) ?_
                  go_wp2_with fail
                  refine wp_region_D (fun _ => True) false [] (by kernel_rfl) ?_
                  refine WD.pure [0, 1, 2, 3, 4, 5, 6, 7, 8, 9, 10] (by kernel_rfl) trivial ?_
                  simp only [pick, List.toList_toArray, List.map_cons, List.map_nil, List.getD_cons_succ, List.getD_cons_zero]
                  repeat (first | go_big_quiet_step (fail))
                  refine wpQuiet_nil ?_
                  refine WD.done (by kernel_rfl) ?_
                  go_wp2_with fail
                  go_ret3
                  rw [Hres.out]
                  exact ⟨rfl, (g7'.trans' fr).drew.drew⟩
              · have g5 : decide ((j : Int) < (m : Int)) = false := by simp; omega
                have g7 : ¬ ((j : Int) < (m : Int)) := by omega
                have Hres := hid (show C = (⟨#[]⟩, ⟨#[]⟩, false) by
                  rw [Hyes.out, hdf, List.drop_eq_nil_of_le (by rw [Hm.out]; omega), List.drop_eq_nil_of_le (by rw [HmF.out]; omega)]
                  rfl)
                clear hdf
                go_wp2_with fail
                go_ret3
                rw [Hres.out]
                exact ⟨rfl, g7'.trans' fr⟩
          · obtain ⟨b1, o1, had, hB1, hlb1, hi1, q1⟩ := rc_elem R1.out (i := k) (by omega)
            cases had
            rw [show l1[k] = p by rw [List.getElem?_eq_getElem hi1] at hp; exact Option.some.inj hp] at q1
            have hmk : m1 = k + 1 := by rw [← Hm1.out]; exact hk
            have g2 : decide ((0 : Int) < (m1 : Int)) = true := by simp; omega
            have g2' : (0 : Int) < (m1 : Int) := by omega
            have g3 : (m1 : Int) - 1 = (k : Int) := by omega
            have g3' : (k : Int) < (m1 : Int) := by omega
            have hs3 : ¬ (9223372036854775807 < 1 + p.size) := by omega
            have Hnp := hid (nodeP_add p)
            have hNPs : (nodeP p).size < 1099511627776 := by
              unfold nodeP
              rw [catS_size]
              have : (ByteArray.mk #[110]).size = 1 := rfl
              simp [this]
              omega
            have Hof := hid fun w0 : World => rof_any (w := w0) (nodeP p) hNPs
            rw [← hR] at Hof
            obtain ⟨RT, hRT⟩ : ∃ RT, lastR l1 LS = RT := ⟨_, rfl⟩
            rw [hRT] at HT1 HT2 Hof
            clear hk hp hps hB1 hi1 hmk hNPs hR hRT
            go_enter Try.func17, Try.ntmps17
            go_wp2_with (first
              | (go_at_call 28; refine (HL.out _).mono ?_; rintro e w4 ⟨rfl, f4⟩; have q5 := f4.cell_some q1)
              | (go_at_call 18; rw [Hnp.out]; refine (Hof.out _).mono ?_; rintro e w5 ⟨rfl, f45⟩; have f5 := f4.trans' f45)
              | (go_at_call 11; refine (HT1.out _ f5).mono ?_; rintro e w6 ⟨⟨x6, rfl, hr6⟩, f6⟩; have g6 := f5.trans' f6; clear HT1)
              | (go_at_call 11; refine (HT2.out _ g6).mono ?_; rintro e w7 ⟨⟨x7, rfl, hr7⟩, f7⟩; have g7 := g6.trans' f7; clear HT2; revert f7))
            intro f7
            obtain ⟨B6, hr6'⟩ := hr6 trivial
            obtain ⟨B7, hr7'⟩ := hr7 trivial
            obtain ⟨aa, ca, rfl⟩ := hr6'.isSlice
            obtain ⟨ab, cb, rfl⟩ := hr7'.isSlice
            have Ha := hid (rc_as (l' := E) (hr6'.keep f7 (by simp)) Hm.out.symm rfl)
            have Ha2 := hid (rc_as (l' := F) hr7' HmF.out.symm rfl)
            rw [Hm.out] at Ha
            rw [HmF.out] at Ha2
            have g7' := g7
            clear hr6 hr7 hr6' hr7' g7
            go_wp2_with fail
            go_loopw [20] (fun kv wr => ∃ j : Nat, kv = .int .i64 (j : Int) ∧ j ≤ m ∧ diffR E F = diffR (E.drop j) (F.drop j) ∧ Fr [] w7 wr) (fun kv _ => m - (intOf kv).toNat)
            case atStart => exact ⟨0, rfl, Nat.zero_le _, rfl, Fr.refl _ _⟩
            case round =>
              obtain ⟨j, rfl, hj, hdf, fr⟩ := hrel
              by_cases hjm : j < m
              · have g5 : decide ((j : Int) < (m : Int)) = true := by simp; omega
                have g7 : (j : Int) < (m : Int) := by omega
                obtain ⟨x, hx⟩ : ∃ x, E[j]? = some x := ⟨_, List.getElem?_eq_getElem (by rw [Hm.out]; omega)⟩
                obtain ⟨y, hy⟩ : ∃ y, F[j]? = some y := ⟨_, List.getElem?_eq_getElem (by rw [HmF.out]; omega)⟩
                rw [diffR_drop E F j x y hx hy] at hdf
                obtain ⟨b3, o3, rfl, hB3, l3', hi3, q3⟩ := rc_elem (Ha.out.keep fr (by simp)) (i := j) (by omega)
                obtain ⟨b4, o4, rfl, hB4, l4', hi4, q4⟩ := rc_elem (Ha2.out.keep fr (by simp)) (i := j) (by omega)
                rw [show E[j] = x by rw [List.getElem?_eq_getElem hi3] at hx; exact Option.some.inj hx] at q3
                rw [show F[j] = y by rw [List.getElem?_eq_getElem hi4] at hy; exact Option.some.inj hy] at q4
                have Hxy := hid (beq_str2 x y)
                have Hdf := hid hdf
                have hjb : j ≤ 1000001 := by omega
                clear hdf hx hy hi3 hi4 hB3 hB4
                by_cases hxy : x = y
                · have g8 : (x.toList == y.toList) = true := by rw [Hxy.out]; exact decide_eq_true hxy
                  have Hd2 := hid (show diffR E F = _ by rw [Hdf.out, if_pos hxy])
                  clear hxy
                  go_wp2_with fail
                  refine wp_region_D (fun _ => True) false [] (by kernel_rfl) ?_
                  refine WD.pure [0, 1, 2, 3, 4, 5, 6, 7, 8] (by kernel_rfl) trivial ?_
                  simp only [pick, List.toList_toArray, List.map_cons, List.map_nil, List.getD_cons_succ, List.getD_cons_zero]
                  repeat (first | go_big_quiet_step (fail))
                  refine wpQuiet_nil ?_
                  refine WD.done (by kernel_rfl) ?_
                  go_wp2_with fail
                  go_roundw
                  case rel => exact ⟨j + 1, by first | rfl | go_num, by omega, Hd2.out, fr.drew⟩
                  case measure => simp [intOf]; omega
                · have g8 : (x.toList == y.toList) = false := by rw [Hxy.out]; exact decide_eq_false hxy
                  have Hres := hid (show C = (x, y, true) by rw [Hyes.out, Hdf.out, if_neg hxy])
                  clear hxy
                  go_wp2_with fail
                  refine wp_region_D (fun _ => True) false [] (by kernel_rfl) ?_
                  refine WD.pure [0, 1, 2, 3, 4, 5, 6, 7, 8] (by kernel_rfl) trivial ?_
                  simp only [pick, List.toList_toArray, List.map_cons, List.map_nil, List.getD_cons_succ, List.getD_cons_zero]
                  repeat (first | go_big_quiet_step (fail))
                  refine wpQuiet_nil ?_
                  refine WD.done (by kernel_rfl) ?_
                  go_wp2_with fail
                  refine wp_region_D (fun _ => True) false [] (by kernel_rfl) ?_
                  refine WD.pure [0, 1, 2, 3, 4, 5, 6, 7, 8, 9, 10] (by kernel_rfl) trivial ?_
                  simp only [pick, List.toList_toArray, List.map_cons, List.map_nil, List.getD_cons_succ, List.getD_cons_zero]
                  repeat (first | go_big_quiet_step (fail))
                  refine wpQuiet_nil ?_
                  refine WD.done (by kernel_rfl) ?_
                  go_wp2_with fail
                  go_ret3
                  rw [Hres.out]
                  exact ⟨rfl, (g7'.trans' fr).drew.drew⟩
              · have g5 : decide ((j : Int) < (m : Int)) = false := by simp; omega
                have g7 : ¬ ((j : Int) < (m : Int)) := by omega
                have Hres := hid (show C = (⟨#[]⟩, ⟨#[]⟩, false) by
                  rw [Hyes.out, hdf, List.drop_eq_nil_of_le (by rw [Hm.out]; omega), List.drop_eq_nil_of_le (by rw [HmF.out]; omega)]
                  rfl)
                clear hdf
                go_wp2_with fail
                go_ret3
                rw [Hres.out]
                exact ⟨rfl, g7'.trans' fr⟩
    · have HV := hid (show clashS n i tag other l1 l2 = (⟨#[]⟩, ⟨#[]⟩, false) by unfold clashS; rw [if_neg (fun h => hok h.1)])
      rw [HV.out]
      have hb : n < 1 ∨ n > 16384 ∨ i < 0 ∨ i ≥ n := by unfold okNI at hok; omega
      have HL := hid fun w0 : World => rleaf_some (w := w0) i tag (by omega)
      rw [hm1, hm2]
      clear h1 h2 hok hm1 hm2 hto
      rcases Hroot.out ⟨#[]⟩ with ⟨hl0, _⟩ | ⟨k, p, hk, hp, hps, _⟩
      · have hz : m1 = 0 := by rw [← Hm1.out, hl0]; rfl
        have g2 : decide ((0 : Int) < (m1 : Int)) = false := by simp; omega
        have g2' : ¬ ((0 : Int) < (m1 : Int)) := by omega
        clear hz hl0
        go_enter Try.func17, Try.ntmps17
        go_wp2_with (first
          | (go_at_call 28; refine (HL.out _).mono ?_; rintro e w5 ⟨⟨s5, rfl⟩, f5⟩)
          | (go_at_call 11; refine (rtexts_bad _ n i _ hb).mono ?_; rintro e w6 ⟨rfl, hw⟩; have hw' := hw.symm; subst hw'; clear hw))
        go_ret3
        exact ⟨rfl, f5⟩
      · obtain ⟨b1, o1, had, hB1, hlb1, hi1, q1⟩ := rc_elem R1.out (i := k) (by omega)
        cases had
        rw [show l1[k] = p by rw [List.getElem?_eq_getElem hi1] at hp; exact Option.some.inj hp] at q1
        have hmk : m1 = k + 1 := by rw [← Hm1.out]; exact hk
        have g2 : decide ((0 : Int) < (m1 : Int)) = true := by simp; omega
        have g2' : (0 : Int) < (m1 : Int) := by omega
        have g3 : (m1 : Int) - 1 = (k : Int) := by omega
        have g3' : (k : Int) < (m1 : Int) := by omega
        have hs3 : ¬ (9223372036854775807 < 1 + p.size) := by omega
        have Hnp := hid (nodeP_add p)
        have hNPs : (nodeP p).size < 1099511627776 := by
          unfold nodeP
          rw [catS_size]
          have : (ByteArray.mk #[110]).size = 1 := rfl
          simp [this]
          omega
        have Hof := hid fun w0 : World => rof_any (w := w0) (nodeP p) hNPs
        clear hk hp hps hB1 hi1 hmk hNPs
        go_enter Try.func17, Try.ntmps17
        go_wp2_with (first
          | (go_at_call 28; refine (HL.out _).mono ?_; rintro e w5 ⟨⟨s5, rfl⟩, f5⟩; have q5 := f5.cell_some q1)
          | (go_at_call 18; rw [Hnp.out]; refine (Hof.out _).mono ?_; rintro e w7 ⟨rfl, f7⟩)
          | (go_at_call 11; refine (rtexts_bad _ n i _ hb).mono ?_; rintro e w6 ⟨rfl, hw⟩; have hw' := hw.symm; subst hw'; clear hw))
        go_ret3
        exact ⟨rfl, f5.trans' f7⟩
end Go.Proofs.Ythfjjencnfebmaa.mer
