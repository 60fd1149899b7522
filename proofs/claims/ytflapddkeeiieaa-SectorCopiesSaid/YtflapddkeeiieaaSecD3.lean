/- Layer 6, the statements' own function 'does': whatever the call. -/
import Derived.Test.YtflapddkeeiieaaSecD2
namespace Go.Proofs.Ytflapddkeeiieaa
open Go Go.Xr Go.RowKit Go.ChangeShapes Go.WideShapes Go.Deep
set_option linter.unusedVariables false
set_option linter.unusedSimpArgs false
/-- What a call leaves of both. -/
structure Nxt (Do : Int) (X X' : XD) (lf lf' : Option Nat) (pb pb' qb qb' : Nat) : Prop where
  good : XGood X'
  len : X'.Kept.length = X.Kept.length
  L : X'.L.length ≤ X.L.length + 1
  T : X'.Trace.length ≤ X.Trace.length + 1
  pw : Do ≠ 3 → Do ≠ 8 → pb' = pb ∧ qb' = qb ∧ ∀ n, lf = some n → ∃ n', lf' = some n' ∧ n' + X'.Trace.length = n + X.Trace.length
theorem Nxt.same {Do : Int} {X : XD} {lf : Option Nat} {pb qb : Nat} (h : XGood X) : Nxt Do X X lf lf pb pb qb qb := ⟨h, rfl, by omega, by omega, fun _ _ => ⟨rfl, rfl, fun n hn => ⟨n, hn, rfl⟩⟩⟩
theorem zs_len : zsec.length = 512 := by unfold zsec; exact List.length_replicate
theorem XGood.dead {X : XD} (h : XGood X) (b : Bool) : XGood { X with Dead := b } := ⟨h.pos, h.le, h.k512, h.l512⟩
theorem faX_good {X : XD} (h : XGood X) : XGood (faX X) := ⟨by simpa [faX] using h.pos, by simpa [faX] using h.le, fun s hs => by
  simp only [faX] at hs
  rw [List.eq_of_mem_replicate hs]
  show zsec.toArray.size = 512
  rw [List.size_toArray]
  exact zs_len, fun p hp => by simp [faX] at hp⟩
theorem wr_nxt {X : XD} (h : XGood X) (lf : Option Nat) (pb qb : Nat) (I : Int) (S : ByteArray) : Nxt 0 X (wrX X lf I S) lf (wrL X lf I S) pb pb qb qb := by
  unfold wrX wrL
  by_cases hc : wrC X lf I S = 0
  · rw [if_pos hc, if_pos hc]
    obtain ⟨hd, ⟨q, rfl, hq⟩, hs⟩ := mayN_ok hc
    refine ⟨?_, rfl, by simp, by simp, fun _ _ => ⟨rfl, rfl, fun n hn => ?_⟩⟩
    · exact h.write (Int.toNat (q : Int)) S (by simpa using hq) (hs rfl) _
    · subst hn
      have hn0 : n ≠ 0 := by
        rintro rfl
        unfold xdead mk offB at hd
        simp at hd
      exact ⟨n - 1, rfl, by simp; omega⟩
  · rw [if_neg hc, if_neg hc]
    exact Nxt.same h
theorem fl_nxt {X : XD} (h : XGood X) (lf : Option Nat) (pb qb : Nat) : Nxt 2 X (flX X lf) lf (flL X lf) pb pb qb qb := by
  unfold flX flL
  cases hd : xdead X (mk 0 lf) with
  | true => exact Nxt.same h
  | false =>
    refine ⟨h.sets X.L (fun p hp => (h.l512 p hp).1) _ _, setX_len _ _, by simp, by simp, fun _ _ => ⟨rfl, rfl, fun n hn => ?_⟩⟩
    subst hn
    have hn0 : n ≠ 0 := by
      rintro rfl
      unfold xdead mk offB at hd
      simp at hd
    exact ⟨n - 1, rfl, by simp; omega⟩
theorem cr_good {X : XD} (h : XGood X) (ks : List Bool) : XGood (crX X ks) ∧ (crX X ks).Kept.length = X.Kept.length ∧ (crX X ks).L.length ≤ X.L.length ∧ (crX X ks).Trace = X.Trace := by
  unfold crX
  cases X.Dead with
  | true => exact ⟨h, rfl, Nat.le_refl _, rfl⟩
  | false => exact ⟨h.sets (keptL X.L ks) (fun p hp => (h.l512 p (keptL_mem _ _ p hp)).1) _ _, setX_len _ _, by simp, rfl⟩
theorem cr_nxt {X : XD} (h : XGood X) (ks : List Bool) (lf lf' : Option Nat) (a b c d : Nat) : Nxt 3 X (crX X ks) lf lf' a b c d := by
  obtain ⟨h1, h2, h3, h4⟩ := cr_good h ks
  exact ⟨h1, h2, by omega, by rw [h4]; omega, fun h => absurd rfl h⟩
theorem ta_nxt {X : XD} (h : XGood X) (lf : Option Nat) (pb qb : Nat) (I : Int) (S : ByteArray) : Nxt 6 X (taX X lf I S) lf lf pb pb qb qb := by
  unfold taX
  by_cases hc : taC X lf I S = 0
  · rw [if_pos hc]
    obtain ⟨hL, hm⟩ := tamN_ok (X := X) hc
    obtain ⟨hd, ⟨q, rfl, hq⟩, hs⟩ := mayN_ok hm
    exact ⟨h.tamper _ S (hs rfl), by simp, by simp, by simp, fun _ _ => ⟨rfl, rfl, fun n hn => ⟨n, hn, rfl⟩⟩⟩
  · rw [if_neg hc]
    exact Nxt.same h
theorem wi_nxt {X : XD} (h : XGood X) (lf lf' : Option Nat) (a b c d : Nat) : Nxt 8 X X lf lf' a b c d := ⟨h, rfl, by omega, by omega, fun _ h => absurd rfl h⟩
def StWide (w : World) (s : StepD) : Prop := StOk w s ∧ s.ks.length ≤ 140737488351232
theorem does_any {w : World} {d x pb qb : Nat} {X : XD} {lf : Option Nat} {F : List Nat} {i : XI} (h : Held w (pr d (dOf X) (mk pb lf) F x X (mk qb lf) i)) (hX : XGood X) (hl : X.L.length < 1000000) (ht : X.Trace.length < 1000000) (s : StepD) (hs : StWide w s) (hT : s.Text.size ≤ 2000)
    (hKB : ∀ b, s.KB = some b → b ∉ feetOf (pr d (dOf X) (mk pb lf) F x X (mk qb lf) i)) :
    Calls Try.prog 17 #[.pointer (some ⟨d, 0, none⟩), .pointer (some ⟨x, 0, none⟩), .agg #[.int .i64 s.Do, .int .i64 s.I, bt s.C, .string s.Text, s.Keep]] w fun e w' => e = .returned (.bool true) ∧
      ∃ X' lf' pb' qb' F' i', Ev w (pr d (dOf X) (mk pb lf) F x X (mk qb lf) i) w' (pr d (dOf X') (mk pb' lf') F' x X' (mk qb' lf') i') ∧ Nxt s.Do X X' lf lf' pb pb' qb qb' := by
  obtain ⟨Do, I, C, T, K, ks, KB⟩ := s
  obtain ⟨⟨d1, d2, i1, i2, t, k, _⟩, kl⟩ := hs
  simp only at d1 d2 i1 i2 t k kl hT hKB ⊢
  by_cases h0 : Do = 0
  · subst h0
    refine (does_write h hX hl ht i1 i2 hT _ rfl).mono ?_
    rintro e w' ⟨he, F', i', ev⟩
    exact ⟨he, _, _, pb, qb, F', i', ev, wr_nxt hX lf pb qb _ _⟩
  by_cases h1 : Do = 1
  · subst h1
    refine (does_read h hX hl i1 i2).mono ?_
    rintro e w' ⟨he, f⟩
    exact ⟨he, X, lf, pb, qb, F, i, Ev.idle h f, Nxt.same hX⟩
  by_cases h2 : Do = 2
  · subst h2
    refine (does_flush h hX hl ht).mono ?_
    rintro e w' ⟨he, F', i', ev⟩
    exact ⟨he, _, _, pb, qb, F', i', ev, fl_nxt hX lf pb qb⟩
  by_cases h3 : Do = 3
  · subst h3
    refine (does_crash h hX hl k hKB kl).mono ?_
    rintro e w' ⟨he, F', i', ev⟩
    exact ⟨he, _, none, pb, qb, F', i', ev, cr_nxt hX ks lf none _ _ _ _⟩
  by_cases h4 : Do = 4
  · subst h4
    refine (does_fail h hX).mono ?_
    rintro e w' ⟨he, F', i', ev⟩
    exact ⟨he, _, lf, pb, qb, F', i', ev, ⟨faX_good hX, by simp [faX], by simp [faX], by simp [faX], fun _ _ => ⟨rfl, rfl, fun n hn => ⟨n, hn, rfl⟩⟩⟩⟩
  by_cases h5 : Do = 5
  · subst h5
    refine (does_replace h).mono ?_
    rintro e w' ⟨he, F', i', ev⟩
    exact ⟨he, _, lf, pb, qb, F', i', ev, ⟨hX.dead false, rfl, by simp, by simp, fun _ _ => ⟨rfl, rfl, fun n hn => ⟨n, hn, rfl⟩⟩⟩⟩
  by_cases h6 : Do = 6
  · subst h6
    refine (does_tamper h hX hl i1 i2 hT _ rfl).mono ?_
    rintro e w' ⟨he, F', i', ev⟩
    exact ⟨he, _, lf, pb, qb, F', i', ev, ta_nxt hX lf pb qb _ _⟩
  by_cases h8 : Do = 8
  · subst h8
    refine (does_wire h i1 i2).mono ?_
    rintro e w' ⟨he, p, q, ev⟩
    exact ⟨he, X, _, _, _, F, i, ev, wi_nxt hX _ _ _ _ _ _⟩
  · refine (does_else h hX hl ht Do ⟨h0, h1, h2, h3, h4, h5, h6, h8⟩).mono ?_
    rintro e w' ⟨he, f⟩
    exact ⟨he, X, lf, pb, qb, F, i, Ev.idle h f, Nxt.same hX⟩
/-- The steps that came in, opened, with their sizes. -/
theorem open_stepsw {H : Type} {enc : TypeId × Value → H} {w : World} {base : Nat} {spare : Nat → Bool} {held : Bool} {fuel : Nat} {cs : List Value} {x : DataW H × List MemPlace} (h : DataW.trod enc Try.prog w base spare held fuel 22 cs = some x) (hw : WOk Try.prog 22 x.1) :
    ∃ (v : Value) (l : List StepD) (B : Option Nat), cs = [v] ∧ Rc w 5 v l.length (l.flatMap stc) B ∧ (∀ a ∈ l, StWide w a) ∧ True ∧ l.length ≤ maxLen := by
  have := open_rows_w stc (StWide w) 5 (by decide) stc_len Try.underlying22 rfl (fun n cs x hx hwx => ?_) h hw
  · obtain ⟨v, l, B, h1, h2, h3, _, h4⟩ := this
    exact ⟨v, l, B, h1, h2, h3, trivial, h4⟩
  obtain ⟨xs, n', _, hxe, hlen, hxl, hf⟩ := DataW.trod_struct Try.underlying32 hx
  have hlen5 : cs.length = 5 := hlen
  have hxl5 : xs.length = 5 := hxl
  match cs, hlen5, xs, hxl5 with
  | [c0, c1, c2, c3, c4], _, [x0, x1, x2, x3, x4], _ =>
    have hd : x.1 = .agg [x0.1, x1.1, x2.1, x3.1, x4.1] := by
      have := congrArg Prod.fst hxe
      simpa using this
    rw [hd] at hwx
    unfold WOk at hwx
    simp only [DataW.weights, Try.underlying32] at hwx
    obtain ⟨z0, hwx⟩ := weights_cons hwx
    obtain ⟨z1, hwx⟩ := weights_cons hwx
    obtain ⟨z2, hwx⟩ := weights_cons hwx
    obtain ⟨z3, hwx⟩ := weights_cons hwx
    obtain ⟨z4, hwx⟩ := weights_cons hwx
    obtain ⟨n0, h0, _, w0⟩ := DataW.trod_int Try.underlying3 (hf 0 _ rfl)
    obtain ⟨n1, h1, _, w1⟩ := DataW.trod_int Try.underlying3 (hf 1 _ rfl)
    obtain ⟨n2, h2, _, w2⟩ := DataW.trod_int Try.underlying5 (hf 2 _ rfl)
    obtain ⟨s3, h3, _, w3⟩ := DataW.trod_string Try.underlying9 (hf 3 _ rfl)
    obtain ⟨v4, l4, B4, h4, r4, _, b4, m4⟩ := open_rows_w (α := Bool) (fun a => [.bool a]) (fun _ => True) 1 (by decide) (fun _ => rfl) Try.underlying23 rfl (fun n cs x hx _ => by
      obtain ⟨b, hb, _⟩ := DataW.trod_bool Try.underlying4 hx
      exact ⟨b, hb, trivial⟩) (hf 4 _ rfl) z4
    rw [flat_one] at r4
    have e0 : c0 = .int .i64 n0 := List.singleton_inj.1 h0
    have e1 : c1 = .int .i64 n1 := List.singleton_inj.1 h1
    have e2 : c2 = .int .u8 n2 := List.singleton_inj.1 h2
    have e3 : c3 = .string s3 := List.singleton_inj.1 h3
    have e4 : c4 = v4 := List.singleton_inj.1 h4
    have hb1 : Try.prog.bytesOf 4 = 1 := rfl
    rw [hb1] at b4
    refine ⟨⟨n0, n1, UInt8.ofNat n2.toNat, s3, v4, l4, B4⟩, ?_, ⟨(i64_wf w0).1, (i64_wf w0).2, (i64_wf w1).1, (i64_wf w1).2, w3, r4, m4⟩, ?_⟩
    · rw [e0, e1, e2, e3, e4, bt_of w2]
      rfl
    · simp only
      unfold reachBytes at b4
      omega
end Go.Proofs.Ytflapddkeeiieaa
