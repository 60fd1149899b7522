/- Several texts put together: SecX, SecSt, SecY, SecZ, SecO, SecOb, SecD1, SecD2, SecD3, SecPl, SecCo, SecPw. What each shows stands ahead of it. -/
import Derived.Test.YtflapddkeeiieaaSecV
import Derived.Test.YtflapddkeeiieaaRefG
import Derived.Test.YtflapddkeeiieaaSecG
import Derived.Test.YtflapddkeeiieaaArgs
import Derived.Test.YtflapddkeeiieaaSecS
import Derived.Test.YtflapddkeeiieaaAppR
import Derived.Test.YtflapddkeeiieaaMax
/- Layer 6: both disks side by side: what is held, and that their errors are one. -/
namespace Go.Proofs.Ytflapddkeeiieaa
open Go Go.Xr Go.RowKit
set_option linter.unusedVariables false
set_option linter.unusedSimpArgs false
/-- A power with so much left, in a block; or none. -/
def mk (b : Nat) (lf : Option Nat) : Option (Nat × Nat) := lf.map fun l => (b, l)
theorem mk_dec (b : Nat) (lf : Option Nat) : pwDec (mk b lf) = mk b (lf.map (· - 1)) := by cases lf <;> rfl
theorem offB_mk (b c : Nat) (lf : Option Nat) : offB (mk b lf) = offB (mk c lf) := by
  match lf with
  | none => rfl
  | some 0 => rfl
  | some (l + 1) => rfl
theorem mayN_mk (X : XD) (b c : Nat) (lf : Option Nat) (i : Int) (s : ByteArray) (t : Bool) : mayN X (mk b lf) i s t = mayN X (mk c lf) i s t := by
  unfold mayN
  rw [offB_mk b c]
theorem ableN_mk (X : XD) (b c : Nat) (lf : Option Nat) : ableN (dOf X) (mk b lf) = if xdead X (mk c lf) then 60 else 0 := by
  unfold ableN xdead
  have e : (dOf X).dead = X.Dead := rfl
  rw [e]
  cases X.Dead with
  | true => rfl
  | false =>
    match lf with
    | none => rfl
    | some 0 => rfl
    | some (l + 1) => rfl
theorem outB_dOf (X : XD) (i : Int) : outB (dOf X) i = (decide (i < 0) || decide ((X.Kept.length : Int) ≤ i)) := by
  unfold outB
  simp [dOf]
theorem atN_mk (X : XD) (b c : Nat) (lf : Option Nat) (i : Int) (s : ByteArray) : atN (dOf X) (mk b lf) i (some s) = mayN X (mk c lf) i s true := by
  unfold atN mayN
  rw [ableN_mk X b c, outB_dOf]
  unfold xdead badT
  cases X.Dead || offB (mk c lf) <;> simp
theorem atN_mk0 (X : XD) (b c : Nat) (lf : Option Nat) (i : Int) (s : ByteArray) : atN (dOf X) (mk b lf) i none = mayN X (mk c lf) i s false := by
  unfold atN mayN
  rw [ableN_mk X b c, outB_dOf]
  unfold xdead badT
  cases X.Dead || offB (mk c lf) <;> simp
theorem tamC_mk (X : XD) (b c : Nat) (lf : Option Nat) (i : Int) (s : ByteArray) : tamC (dOf X) (mk b lf) i s = tamN X (mk c lf) i s := by
  unfold tamC tamN
  rw [ableN_mk X b c, atN_mk X b c]
  have e : (dOf X).loose.length = X.L.length := by simp [dOf]
  rw [e]
  cases xdead X (mk c lf) <;> simp
theorem mayN_cases (X : XD) (p : Option (Nat × Nat)) (i : Int) (s : ByteArray) (t : Bool) : mayN X p i s t = 0 ∨ mayN X p i s t = 60 ∨ mayN X p i s t = 2 := by
  unfold mayN
  split
  · exact .inr (.inl rfl)
  · split
    · exact .inr (.inr rfl)
    · exact .inl rfl
theorem mayN_ok {X : XD} {p : Option (Nat × Nat)} {i : Int} {s : ByteArray} {t : Bool} (h : mayN X p i s t = 0) : xdead X p = false ∧ (∃ q : Nat, i = (q : Int) ∧ q < X.Kept.length) ∧ (t = true → s.size = 512) := by
  unfold mayN at h
  unfold xdead
  cases hd : (X.Dead || offB p) with
  | true => rw [hd] at h; simp at h
  | false =>
    rw [hd] at h
    simp only [Bool.false_eq_true, if_false] at h
    split at h
    · simp at h
    · rename_i hn
      simp only [Bool.or_eq_true, not_or, decide_eq_true_eq, Bool.and_eq_true, Bool.not_eq_true', decide_eq_false_iff_not] at hn
      refine ⟨rfl, ⟨i.toNat, by omega, by omega⟩, fun ht => ?_⟩
      have := hn.2
      simpa [ht] using this

/-- Both disks, each with its power. -/
def pr (d : Nat) (D : SD) (pc : Option (Nat × Nat)) (F : List Nat) (x : Nat) (X : XD) (px : Option (Nat × Nat)) (i : XI) : List Res := [Res.pow pc, Res.disk d D pc F] ++ (Res.pow px :: xps x X px i)
section
variable {w0 w w' : World} {rs l : List Res} {d x : Nat} {D D' : SD} {pc pc' px px' : Option (Nat × Nat)} {F F' : List Nat} {X X' : XD} {i i' : XI}
theorem Held.prC (h : Held w (l ++ pr d D pc F x X px i)) : Held w [Res.pow pc, Res.disk d D pc F] := Held.part l (Res.pow px :: xps x X px i) (by rw [List.append_assoc]; exact h)
theorem Held.prX (h : Held w (l ++ pr d D pc F x X px i)) : Held w (Res.pow px :: xps x X px i) := Held.part (l ++ [Res.pow pc, Res.disk d D pc F]) [] (by rw [List.append_nil, List.append_assoc]; exact h)
theorem Held.xpsOf (h : Held w (Res.pow px :: xps x X px i)) : Held w (xps x X px i) := Held.part [Res.pow px] [] (by rw [List.append_nil]; exact h)
theorem Ev.prC (e : Ev w0 rs w (l ++ pr d D pc F x X px i)) (ev : Ev w [Res.pow pc, Res.disk d D pc F] w' [Res.pow pc', Res.disk d D' pc' F']) : Ev w0 rs w' (l ++ pr d D' pc' F' x X px i) := by
  have := Ev.then l (Res.pow px :: xps x X px i) (by rw [List.append_assoc]; exact e) ev
  rw [List.append_assoc] at this
  exact this
theorem Ev.prX (e : Ev w0 rs w (l ++ pr d D pc F x X px i)) (ev : Ev w (Res.pow px :: xps x X px i) w' (Res.pow px' :: xps x X' px' i')) : Ev w0 rs w' (l ++ pr d D pc F x X' px' i') := by
  have := Ev.then (l ++ [Res.pow pc, Res.disk d D pc F]) [] (by rw [List.append_nil, List.append_assoc]; exact e) ev
  rw [List.append_nil, List.append_assoc] at this
  exact this
theorem Ev.prX1 (e : Ev w0 rs w (l ++ pr d D pc F x X px i)) (ev : Ev w (xps x X px i) w' (xps x X' px i')) : Ev w0 rs w' (l ++ pr d D pc F x X' px i') := by
  refine Ev.prX e ?_
  have := Ev.part [Res.pow px] [] (by rw [List.append_nil]; exact Held.prX e.held) ev
  rw [List.append_nil] at this
  exact this
theorem Held.powOk (h : Held w [Res.pow pc, Res.disk d D pc F]) : pwOk w pc := h.at 0 rfl
theorem Held.rep (h : Held w [Res.pow pc, Res.disk d D pc F]) : Rep w d D pc F := h.at 1 rfl
theorem Held.powNe (h : Held w [Res.pow pc, Res.disk d D pc F]) : ∀ y ∈ pwF pc, y ∉ F := h.idx_ne (i := 0) (j := 1) (by decide) rfl rfl
/-- The code's disk and its power behind a call. -/
theorem Held.cdisk (h : Held w [Res.pow pc, Res.disk d D pc F]) (hr : Rep w' d D' pc' F') (hp : pwOk w' pc') (hpF : pwF pc' = pwF pc) (f : Fr (F ++ pwF pc) w w') (hF : ∀ y ∈ F', y ∈ F ∨ w.heap.size ≤ y) : Ev w [Res.pow pc, Res.disk d D pc F] w' [Res.pow pc', Res.disk d D' pc' F'] := by
  have hne : ∀ y ∈ pwF pc, y ∉ F ∧ y < w.heap.size := fun y hy => ⟨Held.powNe h y hy, h.lt (Res.pow pc) (by simp) y hy⟩
  have hf : feetOf [Res.pow pc, Res.disk d D pc F] = pwF pc ++ F := by simp [feetOf, Res.pow, Res.disk]
  refine ⟨(Held.one (On.disk hr)).new (On.pow hp) fun b hb r' hr' => ?_, f.mono (fun y hy => .inl ?_), fun b hb => ?_⟩
  · obtain rfl := List.mem_singleton.1 hr'
    intro hb'
    have hb : b ∈ pwF pc := by rw [← hpF]; exact hb
    have hb' : b ∈ F' := hb'
    obtain ⟨h1, h2⟩ := hne b hb
    rcases hF b hb' with h3 | h3
    · exact h1 h3
    · omega
  · rw [hf]
    simp only [List.mem_append] at hy ⊢
    exact hy.symm
  · have hf' : feetOf [Res.pow pc', Res.disk d D' pc' F'] = pwF pc' ++ F' := by simp [feetOf, Res.pow, Res.disk]
    rw [hf', hpF] at hb
    rw [hf]
    simp only [List.mem_append] at hb ⊢
    rcases hb with h1 | h1
    · exact .inl (.inl h1)
    · rcases hF b h1 with h2 | h2
      · exact .inl (.inr h2)
      · exact .inr h2
end
end Go.Proofs.Ytflapddkeeiieaa

/- Layer 6: the steps that come in. -/
namespace Go.Proofs.Ytflapddkeeiieaa
open Go Go.Xr Go.RowKit Go.ChangeShapes Go.WideShapes Go.Deep
set_option linter.unusedVariables false
set_option linter.unusedSimpArgs false

/-- A step, as data; 'Keep' is the slice as it lies, and what it holds. -/
structure StepD where
  Do : Int
  I : Int
  C : UInt8
  Text : ByteArray
  Keep : Value
  ks : List Bool
  KB : Option Nat
instance : Inhabited StepD := ⟨⟨0, 0, 0, ⟨#[]⟩, .slice none 0 0, [], none⟩⟩

def stc (s : StepD) : List Value := [.int .i64 s.Do, .int .i64 s.I, bt s.C, .string s.Text, s.Keep]
structure StOk (w : World) (s : StepD) : Prop where
  d1 : -9223372036854775808 ≤ s.Do
  d2 : s.Do ≤ 9223372036854775807
  i1 : -9223372036854775808 ≤ s.I
  i2 : s.I ≤ 9223372036854775807
  t : s.Text.size ≤ maxLen
  k : Rc w 1 s.Keep s.ks.length (s.ks.map .bool) s.KB
  kl : s.ks.length ≤ maxLen

theorem stc_len (a : StepD) : (stc a).length = 5 := rfl

/-- The steps that came in, opened. -/
theorem open_steps {H : Type} {enc : TypeId × Value → H} {w : World} {base : Nat} {spare : Nat → Bool} {held : Bool} {fuel : Nat} {cs : List Value} {x : DataW H × List MemPlace} (h : DataW.trod enc Try.prog w base spare held fuel 22 cs = some x) :
    ∃ (v : Value) (l : List StepD) (B : Option Nat), cs = [v] ∧ Rc w 5 v l.length (l.flatMap stc) B ∧ (∀ a ∈ l, StOk w a) ∧ l.length ≤ maxLen := by
  refine open_rows stc (StOk w) 5 (by decide) stc_len Try.underlying22 rfl (fun n cs x hx => ?_) h
  obtain ⟨xs, n', _, _, hlen, hxl, hf⟩ := DataW.trod_struct Try.underlying32 hx
  have hlen5 : cs.length = 5 := hlen
  have hxl5 : xs.length = 5 := hxl
  match cs, hlen5, xs, hxl5 with
  | [c0, c1, c2, c3, c4], _, [x0, x1, x2, x3, x4], _ =>
    obtain ⟨n0, h0, _, w0⟩ := DataW.trod_int Try.underlying3 (hf 0 _ rfl)
    obtain ⟨n1, h1, _, w1⟩ := DataW.trod_int Try.underlying3 (hf 1 _ rfl)
    obtain ⟨n2, h2, _, w2⟩ := DataW.trod_int Try.underlying5 (hf 2 _ rfl)
    obtain ⟨s3, h3, _, w3⟩ := DataW.trod_string Try.underlying9 (hf 3 _ rfl)
    obtain ⟨v4, l4, B4, h4, r4, m4⟩ := open_bools Try.underlying23 Try.underlying4 rfl (hf 4 _ rfl)
    have e0 : c0 = .int .i64 n0 := List.singleton_inj.1 h0
    have e1 : c1 = .int .i64 n1 := List.singleton_inj.1 h1
    have e2 : c2 = .int .u8 n2 := List.singleton_inj.1 h2
    have e3 : c3 = .string s3 := List.singleton_inj.1 h3
    have e4 : c4 = v4 := List.singleton_inj.1 h4
    refine ⟨⟨n0, n1, UInt8.ofNat n2.toNat, s3, v4, l4, B4⟩, ?_, ⟨(i64_wf w0).1, (i64_wf w0).2, (i64_wf w1).1, (i64_wf w1).2, w3, r4, m4⟩⟩
    rw [e0, e1, e2, e3, e4, bt_of w2]
    rfl

/-- A cell of a row of steps that lies in memory. -/
theorem step_cell {w : World} {v : Value} {l : List StepD} {B : Option Nat} (h : Rc w 5 v l.length (l.flatMap stc) B) (i : Nat) (hi : i < l.length) :
    ∃ b off cap, v = .slice (some ⟨b, off, none⟩) l.length cap ∧ B = some b ∧ b < w.heap.size ∧ ∀ j, j < 5 → w.cell? ⟨b, off + i * 5 + j, none⟩ = (stc l[i])[j]? := by
  obtain ⟨b, off, cap, hB, hv, h1, h2, h3, h4⟩ := h.some (by omega)
  refine ⟨b, off, cap, hv, hB, h3, fun j hj => ?_⟩
  rw [← flat_get stc 5 stc_len l i j hi hj, Nat.add_assoc]
  exact h4 _ (by rw [Go.Xr.flat_len stc 5 stc_len]; omega)

end Go.Proofs.Ytflapddkeeiieaa

/- Layer 6, the statements' own functions: bytes, ints. -/
namespace Go.Proofs.Ytflapddkeeiieaa
open Go Go.Xr Go.RowKit
set_option linter.unusedVariables false
set_option linter.unusedSimpArgs false
def bytesS (s : StepD) : ByteArray := if s.Text.size = 0 then ⟨(fillL s.C s.I).toArray⟩ else s.Text
theorem bytes_any {w : World} (s : StepD) (hi1 : -9223372036854775808 ≤ s.I) (hi2 : s.I ≤ 9223372036854775807) (K : Value) :
    Calls Try.prog 41 #[.agg #[.int .i64 s.Do, .int .i64 s.I, bt s.C, .string s.Text, K]] w fun e w' => e = .returned (.string (bytesS s)) ∧ Fr [] w w' := by
  obtain ⟨Do, I, C, T, _, _, _⟩ := s
  have H1 : Hid (I < 0 → True) := hid fun _ => trivial
  by_cases h0 : T.size = 0
  · have e : bytesS ⟨Do, I, C, T, ‹_›, ‹_›, ‹_›⟩ = ⟨(fillL C I).toArray⟩ := by unfold bytesS; rw [if_pos h0]
    rw [e]
    obtain rfl : T = ⟨#[]⟩ := ByteArray.ext (Array.eq_empty_of_size_eq_zero h0)
    have hf := fun w1 : World => fill_any (w := w1) C I hi1 hi2
    clear h0 e
    go_enter Try.func41, Try.ntmps41
    go_wp2_with (first
      | (refine wpList_box rfl _ _ rfl [.int .i64 Do, .int .i64 I, bt C, .string ⟨#[]⟩, K] rfl ?_; intro w1 f1 hlt1 hb1; have k1 := hb1.cell 1; have k2 := hb1.cell 2; have k3 := hb1.cell 3; simp only [World.size_alloc, World.size_drew, Act.put, List.setIfInBounds_toArray, List.set_cons_succ, List.set_cons_zero])
      | (go_at_call 10; refine (hf _).mono ?_; rintro e w5 ⟨rfl, f5⟩))
    go_ret
    exact ⟨rfl, f1.trans' f5⟩
  · have e : bytesS ⟨Do, I, C, T, ‹_›, ‹_›, ‹_›⟩ = T := by unfold bytesS; rw [if_neg h0]
    rw [e]
    have h1 : T.toList.isEmpty = false := by
      rw [ByteArray.toList_eq]
      cases hT : T.data.toList with
      | nil => exact absurd (show T.size = 0 from by have := congrArg List.length hT; simpa using this) h0
      | cons a l => rfl
    clear h0 e
    go_enter Try.func41, Try.ntmps41
    go_wp2_with (first
      | (refine wpList_box rfl _ _ rfl [.int .i64 Do, .int .i64 I, bt C, .string T, K] rfl ?_; intro w1 f1 hlt1 hb1; have k1 := hb1.cell 1; have k2 := hb1.cell 2; have k3 := hb1.cell 3; simp only [World.size_alloc, World.size_drew, Act.put, List.setIfInBounds_toArray, List.set_cons_succ, List.set_cons_zero]))
    go_ret
    exact ⟨rfl, f1⟩
set_option maxHeartbeats 1000000 in
theorem ints_any {w : World} {va vb : Value} {a b : List Int} {A B : Option Nat} (ha : Rc w 1 va a.length (a.map (.int .i64)) A) (hb : Rc w 1 vb b.length (b.map (.int .i64)) B) (hla : a.length < 1000000) (hlb : b.length < 1000000) :
    Calls Try.prog 47 #[va, vb] w fun e w' => e = .returned (.bool (decide (a = b))) ∧ Fr [] w w' := by
  obtain ⟨aa, ac, rfl⟩ := ha.isSlice
  obtain ⟨ba, bc, rfl⟩ := hb.isSlice
  have HA := hid ha
  have HB := hid hb
  obtain ⟨n, hn⟩ : ∃ n, a.length = n := ⟨_, rfl⟩
  obtain ⟨m, hm⟩ : ∃ m, b.length = m := ⟨_, rfl⟩
  rw [hn] at hla ⊢
  rw [hm] at hlb ⊢
  have Hn := hid hn
  have Hm := hid hm
  clear ha hb hn hm
  by_cases hnm : n = m
  · subst hnm
    go_enter Try.func47, Try.ntmps47
    go_wp2
    go_loopw [5] (fun jv wr => ∃ i : Nat, i ≤ n ∧ jv = .int .i64 (i : Int) ∧ a.take i = b.take i ∧ Fr [] w wr) (fun jv _ => n - (intOf jv).toNat)
    case atStart => exact ⟨0, Nat.zero_le _, rfl, by simp, Fr.refl _ _⟩
    case round =>
      obtain ⟨i, hi, rfl, he, f⟩ := hrel
      by_cases hin : i < n
      · have hd : decide (i < n) = true := by simp; omega
        have hia : i < a.length := by rw [Hn.out]; exact hin
        have hib : i < b.length := by rw [Hm.out]; exact hin
        obtain ⟨b1, o1, c1, hB1, hv1, _, _, _, qa⟩ := (HA.out.keep f (by simp)).some (by omega)
        obtain ⟨b2, o2, c2, hB2, hv2, _, _, _, qb⟩ := (HB.out.keep f (by simp)).some (by omega)
        obtain ⟨rfl, rfl⟩ : aa = some ⟨b1, o1, none⟩ ∧ ac = c1 := by rw [Hn.out] at hv1; simpa using hv1
        obtain ⟨rfl, rfl⟩ : ba = some ⟨b2, o2, none⟩ ∧ bc = c2 := by rw [Hm.out] at hv2; simpa using hv2
        have q1 := qa i (by simpa using hia)
        have q2 := qb i (by simpa using hib)
        rw [List.getElem?_map, List.getElem?_eq_getElem hia, Option.map_some] at q1
        rw [List.getElem?_map, List.getElem?_eq_getElem hib, Option.map_some] at q2
        clear qa qb
        have ht1 := List.take_succ_eq_append_getElem hia
        have ht2 := List.take_succ_eq_append_getElem hib
        have HX : Hid (a[i] ≠ b[i] → decide (a = b) = false) := hid fun h => by
          rw [decide_eq_false_iff_not]
          intro e
          subst e
          exact h rfl
        generalize a[i] = x at *
        generalize b[i] = y at *
        have HT := hid (And.intro ht1 (And.intro ht2 he))
        clear ht1 ht2 he hv1 hv2 hB1 hB2
        by_cases hxy : x = y
        · subst hxy
          go_wp2_with fail
          refine wp_region_D (fun _ => True) false [] (by kernel_rfl) ?_
          refine WD.pure [0, 1, 2, 3, 4, 5, 6, 7, 8] (by kernel_rfl) trivial ?_
          simp only [pick, List.toList_toArray, List.map_cons, List.map_nil, List.getD_cons_succ, List.getD_cons_zero]
          repeat (first | go_big_quiet_step (fail))
          refine wpQuiet_nil ?_
          refine WD.done (by kernel_rfl) ?_
          go_wp2_with fail
          go_roundw
          case rel => exact ⟨i + 1, by omega, by go_num, by rw [HT.out.1, HT.out.2.1, HT.out.2.2], f.drew⟩
          case measure => simp [intOf]; omega
        · have g1 : (x == y) = false := by simpa using hxy
          have g2 : decide (x = y) = false := by simpa using hxy
          go_wp2_with fail
          refine wp_region_D (fun _ => True) false [] (by kernel_rfl) ?_
          refine WD.pure [0, 1, 2, 3, 4, 5, 6, 7, 8] (by kernel_rfl) trivial ?_
          simp only [pick, List.toList_toArray, List.map_cons, List.map_nil, List.getD_cons_succ, List.getD_cons_zero]
          repeat (first | go_big_quiet_step (fail))
          refine wpQuiet_nil ?_
          refine WD.done (by kernel_rfl) ?_
          go_wp2_with fail
          go_ret
          rw [HX.out hxy]
          exact ⟨rfl, f.drew⟩
      · have hd : decide (i < n) = false := by simp; omega
        have HE := hid (show a = b by
          obtain rfl : i = n := by omega
          rw [← List.take_length (l := a), ← List.take_length (l := b), Hn.out, Hm.out, he])
        clear he
        go_wp2_with fail
        go_ret
        rw [decide_eq_true HE.out]
        exact ⟨rfl, f⟩
  · have hd : decide ((n : Int) = (m : Int)) = false := by simp; omega
    have hd2 : ((n : Int) == (m : Int)) = false := by simp; omega
    have HE := hid (show decide (a = b) = false by
      rw [decide_eq_false_iff_not]
      intro e
      exact hnm (by rw [← Hn.out, ← Hm.out, e]))
    go_enter Try.func47, Try.ntmps47
    go_wp2
    go_ret
    rw [HE.out]
    exact ⟨rfl, Fr.refl _ _⟩
end Go.Proofs.Ytflapddkeeiieaa

/- Layer 6, the statements' own function 'stands': both disks look the same. -/
namespace Go.Proofs.Ytflapddkeeiieaa
open Go Go.Xr Go.RowKit
set_option linter.unusedVariables false
set_option linter.unusedSimpArgs false
section
variable {w : World} {l : List Res} {d x pb qb : Nat} {X : XD} {lf : Option Nat} {F : List Nat} {i : XI}
/-- A read of both disks. -/
def rdS (X : XD) (lf : Option Nat) (j : Int) : ByteArray := if mayN X (mk 0 lf) j ⟨#[]⟩ false = 0 then nowX X.L j.toNat (X.Kept.getD j.toNat ⟨#[]⟩) else ⟨#[]⟩
def rdC (X : XD) (lf : Option Nat) (j : Int) : Int := mayN X (mk 0 lf) j ⟨#[]⟩ false
theorem cread_any (h : Held w (l ++ pr d (dOf X) (mk pb lf) F x X (mk qb lf) i)) (hX : XGood X) (j : Int) (h1 : -9223372036854775808 ≤ j) (h2 : j ≤ 9223372036854775807) :
    Calls Try.prog 14 #[.pointer (some ⟨d, 0, none⟩), .int .i64 j] w fun e w' => e = .returned (.tuple #[.string (rdS X lf j), .int .i64 (rdC X lf j)]) ∧ w' = w := by
  have hc := Held.prC h
  have e0 : rdC X lf j = mayN X (mk 0 lf) j ⟨#[]⟩ false := rfl
  rcases mayN_cases X (mk 0 lf) j ⟨#[]⟩ false with h3 | h3
  · obtain ⟨hd, ⟨q, rfl, hq⟩, _⟩ := mayN_ok h3
    have hq' : q < (dOf X).now.length := by have := nowL_len X; simpa [dOf] using (by omega : q < (nowL X).length)
    have ha : ableN (dOf X) (mk pb lf) = 0 := by rw [ableN_mk X pb 0, hd]; rfl
    have := read_ok (Held.rep hc) (Held.powOk hc) q hq' ha
    refine this.mono ?_
    rintro e w' ⟨rfl, rfl⟩
    refine ⟨?_, rfl⟩
    have e1 : (dOf X).now[q] = (nowX X.L q X.Kept[q]).data.toList := nowL_get X q hq
    have e2 : rdS X lf (q : Int) = nowX X.L q X.Kept[q] := by
      unfold rdS
      rw [if_pos h3, Int.toNat_natCast]
      simp [hq]
    rw [e1, e0, h3, e2]
  · have h4 : atN (dOf X) (mk pb lf) j none = mayN X (mk 0 lf) j ⟨#[]⟩ false := atN_mk0 X pb 0 lf j _
    have := read_err (Held.rep hc) (Held.powOk hc) j h1 h2 _ h4 h3
    refine this.mono ?_
    rintro e w' ⟨rfl, rfl⟩
    have e2 : rdS X lf j = ⟨#[]⟩ := by
      unfold rdS
      rw [if_neg (by rcases h3 with h | h <;> omega)]
    rw [e0, e2]
    exact ⟨rfl, rfl⟩
theorem xread_any (h : Held w (l ++ pr d (dOf X) (mk pb lf) F x X (mk qb lf) i)) (hX : XGood X) (hl : X.L.length < 1000000) (j : Int) :
    Calls Try.prog 43 #[.pointer (some ⟨x, 0, none⟩), .int .i64 j] w fun e w' => e = .returned (.tuple #[.string (rdS X lf j), .int .i64 (rdC X lf j)]) ∧ w' = w := by
  have hx := Held.prX h
  have e0 : rdC X lf j = mayN X (mk 0 lf) j ⟨#[]⟩ false := rfl
  have e3 : mayN X (mk qb lf) j ⟨#[]⟩ false = mayN X (mk 0 lf) j ⟨#[]⟩ false := mayN_mk X qb 0 lf j _ _
  rcases mayN_cases X (mk 0 lf) j ⟨#[]⟩ false with h3 | h3
  · obtain ⟨hd, ⟨q, rfl, hq⟩, _⟩ := mayN_ok h3
    refine (xread_ok hx q hq hX.le hl (by rw [e3, h3])).mono ?_
    rintro e w' ⟨rfl, rfl⟩
    refine ⟨?_, rfl⟩
    have e2 : rdS X lf (q : Int) = nowX X.L q X.Kept[q] := by
      unfold rdS
      rw [if_pos h3, Int.toNat_natCast]
      simp [hq]
    rw [e0, h3, e2]
  · refine (xread_err hx j _ e3 h3).mono ?_
    rintro e w' ⟨rfl, rfl⟩
    have e2 : rdS X lf j = ⟨#[]⟩ := by
      unfold rdS
      rw [if_neg (by rcases h3 with h | h <;> omega)]
    rw [e0, e2]
    exact ⟨rfl, rfl⟩
set_option maxHeartbeats 4000000 in
set_option maxRecDepth 20000 in
theorem stands_any (h : Held w (l ++ pr d (dOf X) (mk pb lf) F x X (mk qb lf) i)) (hX : XGood X) (hl : X.L.length < 1000000) (ht : X.Trace.length < 1000000) :
    Calls Try.prog 18 #[.pointer (some ⟨d, 0, none⟩), .pointer (some ⟨x, 0, none⟩)] w fun e w' => e = .returned (.bool true) ∧ Fr [] w w' := by
  obtain ⟨n, hn⟩ : ∃ n, X.Kept.length = n := ⟨_, rfl⟩
  have hx := Held.prX h
  obtain ⟨kb, kc, _, hkv, _, _, _⟩ := own_open (hx.ownAt 2 rfl : Xr.Own w 1 i.kv X.Kept.length (X.Kept.map .string) i.K) hX.pos
  have htv : ∃ ta tc, i.tv = .slice ta X.Trace.length tc := (hx.ownAt 4 rfl : Xr.Own w 1 i.tv X.Trace.length (X.Trace.map (.int .i64)) i.T).isSlice
  obtain ⟨ta, tc, htv⟩ := htv
  have CX := hid fun (w1 : World) (f : Fr [] w w1) => (show w1.cell? ⟨x, 0, none⟩ = some (.slice (some ⟨kb, 0, none⟩) n kc) by rw [((hx.keep0 f).blkAt 1 rfl).cell, hkv, hn]; rfl)
  have CX2 := hid fun (w1 : World) (f : Fr [] w w1) => (show w1.cell? ⟨x, 2, none⟩ = some (.slice ta X.Trace.length tc) by rw [((hx.keep0 f).blkAt 1 rfl).cell, htv]; rfl)
  have CX3 := hid fun (w1 : World) (f : Fr [] w w1) => (show w1.cell? ⟨x, 3, none⟩ = some (.bool X.Dead) by rw [((hx.keep0 f).blkAt 1 rfl).cell]; rfl)
  have RT := hid fun (w1 : World) (f : Fr [] w w1) => (show Rc w1 1 (.slice ta X.Trace.length tc) X.Trace.length (X.Trace.map (.int .i64)) i.T by rw [← htv]; exact ((hx.keep0 f).ownAt 4 rfl : Xr.Own w1 1 i.tv X.Trace.length (X.Trace.map (.int .i64)) i.T).rd.rc)
  have KL := hid fun (w1 : World) (f : Fr [] w w1) => (show Calls Try.prog 33 #[.pointer (some ⟨d, 0, none⟩)] w1 fun e w' => e = .returned (.int .i64 (n : Int)) ∧ w' = w1 by
    have := dlen_any (Held.rep (Held.prC (h.keep0 f)))
    rw [show (dOf X).kept.length = n by rw [← hn]; simp [dOf]] at this
    exact this)
  have KD := hid fun (w1 : World) (f : Fr [] w w1) => (show Calls Try.prog 34 #[.pointer (some ⟨d, 0, none⟩)] w1 fun e w' => e = .returned (.bool X.Dead) ∧ w' = w1 from dead_any (Held.rep (Held.prC (h.keep0 f))))
  have KO := hid fun (w1 : World) (f : Fr [] w w1) => (show Calls Try.prog 13 #[.pointer (some ⟨d, 0, none⟩)] w1 fun e w' => (∃ v B, e = .returned v ∧ Rc w' 1 v (X.L.map fun p => (p.1 : Int)).length ((X.L.map fun p => (p.1 : Int)).map (.int .i64)) B) ∧ Fr [] w1 w' by
    refine (loose_any (Held.rep (Held.prC (h.keep0 f))) (by simpa [dOf] using hl)).mono ?_
    rintro e w' ⟨v, B, rfl, hr, f', _⟩
    refine ⟨⟨v, B, rfl, ?_⟩, f'⟩
    have := hr.rc
    have e1 : looseIx (dOf X) = (X.L.map fun p => (p.1 : Int)).map (.int .i64) := by simp [looseIx, dOf]
    rw [e1] at this
    simpa [dOf] using this)
  have KP := hid fun (w1 : World) (f : Fr [] w w1) => (show Calls Try.prog 48 #[.pointer (some ⟨x, 0, none⟩)] w1 fun e w' => (∃ v B, e = .returned v ∧ Rc w' 1 v (X.L.map fun p => (p.1 : Int)).length ((X.L.map fun p => (p.1 : Int)).map (.int .i64)) B) ∧ Fr [] w1 w' by
    refine (xloose_any (Held.xpsOf (hx.keep0 f)) hl).mono ?_
    rintro e w' ⟨⟨v, B, rfl, hr, _⟩, f'⟩
    refine ⟨⟨v, B, rfl, ?_⟩, f'⟩
    have := hr.rd.rc
    have e1 : xlooseV X = (X.L.map fun p => (p.1 : Int)).map (.int .i64) := by simp [xlooseV]
    rw [e1] at this
    simpa using this)
  have KT := hid fun (w1 : World) (f : Fr [] w w1) => (show Calls Try.prog 23 #[.pointer (some ⟨d, 0, none⟩)] w1 fun e w' => (∃ v B, e = .returned v ∧ Rc w' 1 v X.Trace.length (X.Trace.map (.int .i64)) B) ∧ Fr [] w1 w' by
    refine (trace_any (Held.rep (Held.prC (h.keep0 f))) (by simpa [dOf] using ht)).mono ?_
    rintro e w' ⟨⟨v, B, rfl, hr⟩, f'⟩
    exact ⟨⟨v, B, rfl, hr.rc⟩, f'⟩)
  have KR := hid fun (w1 : World) (f : Fr [] w w1) (j : Nat) (hj : j < n) => cread_any (h.keep0 f) hX (j : Int) (by omega) (by have := hX.le; omega)
  have KS := hid fun (w1 : World) (f : Fr [] w w1) (j : Nat) => xread_any (h.keep0 f) hX hl (j : Int)
  have hle := hX.le
  rw [hn] at hle
  have hll : (X.L.map fun p => (p.1 : Int)).length < 1000000 := by simpa using hl
  generalize (X.L.map fun p => (p.1 : Int)) = il at *
  generalize X.Trace = tl at *
  generalize X.Dead = xd at *
  generalize rdS X lf = rs at *
  generalize rdC X lf = rc at *
  clear h hX hx hkv htv hn hl
  cases xd
  · go_enter Try.func18, Try.ntmps18
    go_wp2_with fail
    refine wp_region_D (fun w' => Fr [] w w') false [] (by kernel_rfl) ?_
    refine WD.pure [0] (by kernel_rfl) (Fr.refl _ _).drew ?_
    simp only [pick, List.toList_toArray, List.map_cons, List.map_nil, List.getD_cons_succ, List.getD_cons_zero]
    repeat (first | (refine quiet_load_1R (by rfl) _ _ rfl rfl (.slice (some ⟨kb, 0, none⟩) n kc) (fun w0 h => CX.out w0 h) _ Try.underlying30 rfl ?_; simp only [World.size_alloc, World.size_drew, Act.put, List.setIfInBounds_toArray, List.set_cons_succ, List.set_cons_zero]) | (refine quiet_load_1R (by rfl) _ _ rfl rfl (.bool false) (fun w0 h => CX3.out w0 h) _ Try.underlying4 rfl ?_; simp only [World.size_alloc, World.size_drew, Act.put, List.setIfInBounds_toArray, List.set_cons_succ, List.set_cons_zero]) | (refine quiet_load_1R (by rfl) _ _ rfl rfl (.slice ta tl.length tc) (fun w0 h => CX2.out w0 h) _ Try.underlying37 rfl ?_; simp only [World.size_alloc, World.size_drew, Act.put, List.setIfInBounds_toArray, List.set_cons_succ, List.set_cons_zero]) | go_big_quiet_step (fail) | (refine quiet_len_v (by rfl) _ _ rfl Try.underlying30 rfl ?_; simp only [World.size_alloc, World.size_drew, Act.put, List.setIfInBounds_toArray, List.set_cons_succ, List.set_cons_zero]))
    refine wpQuiet_nil ?_
    refine WD.free [2, 3, 4] (by kernel_rfl) (Fr.refl _ _).drew ?_
    simp only [pick, List.toList_toArray, List.map_cons, List.map_nil, List.getD_cons_succ, List.getD_cons_zero]
    repeat (first | (refine quiet_load_1R (by rfl) _ _ rfl rfl (.slice (some ⟨kb, 0, none⟩) n kc) (fun w0 h => CX.out w0 h) _ Try.underlying30 rfl ?_; simp only [World.size_alloc, World.size_drew, Act.put, List.setIfInBounds_toArray, List.set_cons_succ, List.set_cons_zero]) | (refine quiet_load_1R (by rfl) _ _ rfl rfl (.bool false) (fun w0 h => CX3.out w0 h) _ Try.underlying4 rfl ?_; simp only [World.size_alloc, World.size_drew, Act.put, List.setIfInBounds_toArray, List.set_cons_succ, List.set_cons_zero]) | (refine quiet_load_1R (by rfl) _ _ rfl rfl (.slice ta tl.length tc) (fun w0 h => CX2.out w0 h) _ Try.underlying37 rfl ?_; simp only [World.size_alloc, World.size_drew, Act.put, List.setIfInBounds_toArray, List.set_cons_succ, List.set_cons_zero]) | go_big_quiet_step (fail) | (refine quiet_len_v (by rfl) _ _ rfl Try.underlying30 rfl ?_; simp only [World.size_alloc, World.size_drew, Act.put, List.setIfInBounds_toArray, List.set_cons_succ, List.set_cons_zero]))
    refine wpQuiet_nil ?_
    refine WD.held [5, 6] (by kernel_rfl) (Fr.refl _ _).drew ?_
    simp only [pick, List.toList_toArray, List.map_cons, List.map_nil, List.getD_cons_succ, List.getD_cons_zero]
    repeat (first | (refine quiet_load_1R (by rfl) _ _ rfl rfl (.slice (some ⟨kb, 0, none⟩) n kc) (fun w0 h => CX.out w0 h) _ Try.underlying30 rfl ?_; simp only [World.size_alloc, World.size_drew, Act.put, List.setIfInBounds_toArray, List.set_cons_succ, List.set_cons_zero]) | (refine quiet_load_1R (by rfl) _ _ rfl rfl (.bool false) (fun w0 h => CX3.out w0 h) _ Try.underlying4 rfl ?_; simp only [World.size_alloc, World.size_drew, Act.put, List.setIfInBounds_toArray, List.set_cons_succ, List.set_cons_zero]) | (refine quiet_load_1R (by rfl) _ _ rfl rfl (.slice ta tl.length tc) (fun w0 h => CX2.out w0 h) _ Try.underlying37 rfl ?_; simp only [World.size_alloc, World.size_drew, Act.put, List.setIfInBounds_toArray, List.set_cons_succ, List.set_cons_zero]) | go_big_quiet_step (fail) | (refine quiet_len_v (by rfl) _ _ rfl Try.underlying30 rfl ?_; simp only [World.size_alloc, World.size_drew, Act.put, List.setIfInBounds_toArray, List.set_cons_succ, List.set_cons_zero]))
    refine wpQuiet_nil ?_
    refine WD.eff 1 (by kernel_rfl) ?_
    simp only [pick, List.toList_toArray, List.map_cons, List.map_nil, List.getD_cons_succ, List.getD_cons_zero]
    have f0 : Fr [] w w.drew := (Fr.refl [] w).drew
    go_wp2_with (go_at_call 33; refine (KL.out _ f0).mono ?_; rintro e w5 ⟨rfl, hw⟩; subst hw)
    try refine wpList_nil ?_
    refine AfterD.on f0 (by kernel_rfl) ?_
    try simp only [World.size_alloc, World.size_drew, Act.put, List.setIfInBounds_toArray, List.set_cons_succ, List.set_cons_zero]
    refine WD.pure [7, 8, 9] (by kernel_rfl) f0 ?_
    simp only [pick, List.toList_toArray, List.map_cons, List.map_nil, List.getD_cons_succ, List.getD_cons_zero]
    repeat (first | (refine quiet_load_1R (by rfl) _ _ rfl rfl (.slice (some ⟨kb, 0, none⟩) n kc) (fun w0 h => CX.out w0 h) _ Try.underlying30 rfl ?_; simp only [World.size_alloc, World.size_drew, Act.put, List.setIfInBounds_toArray, List.set_cons_succ, List.set_cons_zero]) | (refine quiet_load_1R (by rfl) _ _ rfl rfl (.bool false) (fun w0 h => CX3.out w0 h) _ Try.underlying4 rfl ?_; simp only [World.size_alloc, World.size_drew, Act.put, List.setIfInBounds_toArray, List.set_cons_succ, List.set_cons_zero]) | (refine quiet_load_1R (by rfl) _ _ rfl rfl (.slice ta tl.length tc) (fun w0 h => CX2.out w0 h) _ Try.underlying37 rfl ?_; simp only [World.size_alloc, World.size_drew, Act.put, List.setIfInBounds_toArray, List.set_cons_succ, List.set_cons_zero]) | go_big_quiet_step (fail) | (refine quiet_len_v (by rfl) _ _ rfl Try.underlying30 rfl ?_; simp only [World.size_alloc, World.size_drew, Act.put, List.setIfInBounds_toArray, List.set_cons_succ, List.set_cons_zero]))
    refine wpQuiet_nil ?_
    refine WD.free [11, 12, 13] (by kernel_rfl) f0 ?_
    simp only [pick, List.toList_toArray, List.map_cons, List.map_nil, List.getD_cons_succ, List.getD_cons_zero]
    repeat (first | (refine quiet_load_1R (by rfl) _ _ rfl rfl (.slice (some ⟨kb, 0, none⟩) n kc) (fun w0 h => CX.out w0 h) _ Try.underlying30 rfl ?_; simp only [World.size_alloc, World.size_drew, Act.put, List.setIfInBounds_toArray, List.set_cons_succ, List.set_cons_zero]) | (refine quiet_load_1R (by rfl) _ _ rfl rfl (.bool false) (fun w0 h => CX3.out w0 h) _ Try.underlying4 rfl ?_; simp only [World.size_alloc, World.size_drew, Act.put, List.setIfInBounds_toArray, List.set_cons_succ, List.set_cons_zero]) | (refine quiet_load_1R (by rfl) _ _ rfl rfl (.slice ta tl.length tc) (fun w0 h => CX2.out w0 h) _ Try.underlying37 rfl ?_; simp only [World.size_alloc, World.size_drew, Act.put, List.setIfInBounds_toArray, List.set_cons_succ, List.set_cons_zero]) | go_big_quiet_step (fail) | (refine quiet_len_v (by rfl) _ _ rfl Try.underlying30 rfl ?_; simp only [World.size_alloc, World.size_drew, Act.put, List.setIfInBounds_toArray, List.set_cons_succ, List.set_cons_zero]))
    refine wpQuiet_nil ?_
    refine WD.held [14] (by kernel_rfl) f0 ?_
    simp only [pick, List.toList_toArray, List.map_cons, List.map_nil, List.getD_cons_succ, List.getD_cons_zero]
    repeat (first | (refine quiet_load_1R (by rfl) _ _ rfl rfl (.slice (some ⟨kb, 0, none⟩) n kc) (fun w0 h => CX.out w0 h) _ Try.underlying30 rfl ?_; simp only [World.size_alloc, World.size_drew, Act.put, List.setIfInBounds_toArray, List.set_cons_succ, List.set_cons_zero]) | (refine quiet_load_1R (by rfl) _ _ rfl rfl (.bool false) (fun w0 h => CX3.out w0 h) _ Try.underlying4 rfl ?_; simp only [World.size_alloc, World.size_drew, Act.put, List.setIfInBounds_toArray, List.set_cons_succ, List.set_cons_zero]) | (refine quiet_load_1R (by rfl) _ _ rfl rfl (.slice ta tl.length tc) (fun w0 h => CX2.out w0 h) _ Try.underlying37 rfl ?_; simp only [World.size_alloc, World.size_drew, Act.put, List.setIfInBounds_toArray, List.set_cons_succ, List.set_cons_zero]) | go_big_quiet_step (fail) | (refine quiet_len_v (by rfl) _ _ rfl Try.underlying30 rfl ?_; simp only [World.size_alloc, World.size_drew, Act.put, List.setIfInBounds_toArray, List.set_cons_succ, List.set_cons_zero]))
    refine wpQuiet_nil ?_
    refine WD.eff 10 (by kernel_rfl) ?_
    simp only [pick, List.toList_toArray, List.map_cons, List.map_nil, List.getD_cons_succ, List.getD_cons_zero]
    go_wp2_with (go_at_call 34; refine (KD.out _ f0).mono ?_; rintro e w5 ⟨rfl, hw⟩; subst hw)
    try refine wpList_nil ?_
    refine AfterD.on f0 (by kernel_rfl) ?_
    try simp only [World.size_alloc, World.size_drew, Act.put, List.setIfInBounds_toArray, List.set_cons_succ, List.set_cons_zero]
    refine WD.pure [15, 16, 17, 18] (by kernel_rfl) f0 ?_
    simp only [pick, List.toList_toArray, List.map_cons, List.map_nil, List.getD_cons_succ, List.getD_cons_zero]
    repeat (first | (refine quiet_load_1R (by rfl) _ _ rfl rfl (.slice (some ⟨kb, 0, none⟩) n kc) (fun w0 h => CX.out w0 h) _ Try.underlying30 rfl ?_; simp only [World.size_alloc, World.size_drew, Act.put, List.setIfInBounds_toArray, List.set_cons_succ, List.set_cons_zero]) | (refine quiet_load_1R (by rfl) _ _ rfl rfl (.bool false) (fun w0 h => CX3.out w0 h) _ Try.underlying4 rfl ?_; simp only [World.size_alloc, World.size_drew, Act.put, List.setIfInBounds_toArray, List.set_cons_succ, List.set_cons_zero]) | (refine quiet_load_1R (by rfl) _ _ rfl rfl (.slice ta tl.length tc) (fun w0 h => CX2.out w0 h) _ Try.underlying37 rfl ?_; simp only [World.size_alloc, World.size_drew, Act.put, List.setIfInBounds_toArray, List.set_cons_succ, List.set_cons_zero]) | go_big_quiet_step (fail) | (refine quiet_len_v (by rfl) _ _ rfl Try.underlying30 rfl ?_; simp only [World.size_alloc, World.size_drew, Act.put, List.setIfInBounds_toArray, List.set_cons_succ, List.set_cons_zero]))
    refine wpQuiet_nil ?_
    refine WD.free [20] (by kernel_rfl) f0 ?_
    simp only [pick, List.toList_toArray, List.map_cons, List.map_nil, List.getD_cons_succ, List.getD_cons_zero]
    repeat (first | (refine quiet_load_1R (by rfl) _ _ rfl rfl (.slice (some ⟨kb, 0, none⟩) n kc) (fun w0 h => CX.out w0 h) _ Try.underlying30 rfl ?_; simp only [World.size_alloc, World.size_drew, Act.put, List.setIfInBounds_toArray, List.set_cons_succ, List.set_cons_zero]) | (refine quiet_load_1R (by rfl) _ _ rfl rfl (.bool false) (fun w0 h => CX3.out w0 h) _ Try.underlying4 rfl ?_; simp only [World.size_alloc, World.size_drew, Act.put, List.setIfInBounds_toArray, List.set_cons_succ, List.set_cons_zero]) | (refine quiet_load_1R (by rfl) _ _ rfl rfl (.slice ta tl.length tc) (fun w0 h => CX2.out w0 h) _ Try.underlying37 rfl ?_; simp only [World.size_alloc, World.size_drew, Act.put, List.setIfInBounds_toArray, List.set_cons_succ, List.set_cons_zero]) | go_big_quiet_step (fail) | (refine quiet_len_v (by rfl) _ _ rfl Try.underlying30 rfl ?_; simp only [World.size_alloc, World.size_drew, Act.put, List.setIfInBounds_toArray, List.set_cons_succ, List.set_cons_zero]))
    refine wpQuiet_nil ?_
    refine WD.eff 19 (by kernel_rfl) ?_
    simp only [pick, List.toList_toArray, List.map_cons, List.map_nil, List.getD_cons_succ, List.getD_cons_zero]
    go_wp2_with (go_at_call 13; refine (KO.out _ f0).mono ?_; rintro e w5 ⟨⟨v5, B5, rfl, r5⟩, f5⟩)
    have g5 := f0.trans' f5
    try refine wpList_nil ?_
    refine AfterD.on g5 (by kernel_rfl) ?_
    try simp only [World.size_alloc, World.size_drew, Act.put, List.setIfInBounds_toArray, List.set_cons_succ, List.set_cons_zero]
    refine WD.eff 21 (by kernel_rfl) ?_
    simp only [pick, List.toList_toArray, List.map_cons, List.map_nil, List.getD_cons_succ, List.getD_cons_zero]
    go_wp2_with (go_at_call 48; refine (KP.out _ g5).mono ?_; rintro e w6 ⟨⟨v6, B6, rfl, r6⟩, f6⟩)
    have g6 := g5.trans' f6
    try refine wpList_nil ?_
    refine AfterD.on g6 (by kernel_rfl) ?_
    try simp only [World.size_alloc, World.size_drew, Act.put, List.setIfInBounds_toArray, List.set_cons_succ, List.set_cons_zero]
    refine WD.eff 22 (by kernel_rfl) ?_
    simp only [pick, List.toList_toArray, List.map_cons, List.map_nil, List.getD_cons_succ, List.getD_cons_zero]
    have hi6 := ints_any (r5.keep f6 (by simp)) r6 hll hll
    rw [decide_eq_true rfl] at hi6
    go_wp2_with (go_at_call 47; refine hi6.mono ?_; rintro e w7 ⟨rfl, f7⟩)
    have g7 := g6.trans' f7
    try refine wpList_nil ?_
    refine AfterD.on g7 (by kernel_rfl) ?_
    try simp only [World.size_alloc, World.size_drew, Act.put, List.setIfInBounds_toArray, List.set_cons_succ, List.set_cons_zero]
    refine WD.pure [23, 24, 25, 26] (by kernel_rfl) g7 ?_
    simp only [pick, List.toList_toArray, List.map_cons, List.map_nil, List.getD_cons_succ, List.getD_cons_zero]
    repeat (first | (refine quiet_load_1R (by rfl) _ _ rfl rfl (.slice (some ⟨kb, 0, none⟩) n kc) (fun w0 h => CX.out w0 h) _ Try.underlying30 rfl ?_; simp only [World.size_alloc, World.size_drew, Act.put, List.setIfInBounds_toArray, List.set_cons_succ, List.set_cons_zero]) | (refine quiet_load_1R (by rfl) _ _ rfl rfl (.bool false) (fun w0 h => CX3.out w0 h) _ Try.underlying4 rfl ?_; simp only [World.size_alloc, World.size_drew, Act.put, List.setIfInBounds_toArray, List.set_cons_succ, List.set_cons_zero]) | (refine quiet_load_1R (by rfl) _ _ rfl rfl (.slice ta tl.length tc) (fun w0 h => CX2.out w0 h) _ Try.underlying37 rfl ?_; simp only [World.size_alloc, World.size_drew, Act.put, List.setIfInBounds_toArray, List.set_cons_succ, List.set_cons_zero]) | go_big_quiet_step (fail) | (refine quiet_len_v (by rfl) _ _ rfl Try.underlying30 rfl ?_; simp only [World.size_alloc, World.size_drew, Act.put, List.setIfInBounds_toArray, List.set_cons_succ, List.set_cons_zero]))
    refine wpQuiet_nil ?_
    refine WD.free [28, 29, 30] (by kernel_rfl) g7 ?_
    simp only [pick, List.toList_toArray, List.map_cons, List.map_nil, List.getD_cons_succ, List.getD_cons_zero]
    repeat (first | (refine quiet_load_1R (by rfl) _ _ rfl rfl (.slice (some ⟨kb, 0, none⟩) n kc) (fun w0 h => CX.out w0 h) _ Try.underlying30 rfl ?_; simp only [World.size_alloc, World.size_drew, Act.put, List.setIfInBounds_toArray, List.set_cons_succ, List.set_cons_zero]) | (refine quiet_load_1R (by rfl) _ _ rfl rfl (.bool false) (fun w0 h => CX3.out w0 h) _ Try.underlying4 rfl ?_; simp only [World.size_alloc, World.size_drew, Act.put, List.setIfInBounds_toArray, List.set_cons_succ, List.set_cons_zero]) | (refine quiet_load_1R (by rfl) _ _ rfl rfl (.slice ta tl.length tc) (fun w0 h => CX2.out w0 h) _ Try.underlying37 rfl ?_; simp only [World.size_alloc, World.size_drew, Act.put, List.setIfInBounds_toArray, List.set_cons_succ, List.set_cons_zero]) | go_big_quiet_step (fail) | (refine quiet_len_v (by rfl) _ _ rfl Try.underlying30 rfl ?_; simp only [World.size_alloc, World.size_drew, Act.put, List.setIfInBounds_toArray, List.set_cons_succ, List.set_cons_zero]))
    refine wpQuiet_nil ?_
    refine WD.held [31] (by kernel_rfl) g7 ?_
    simp only [pick, List.toList_toArray, List.map_cons, List.map_nil, List.getD_cons_succ, List.getD_cons_zero]
    repeat (first | (refine quiet_load_1R (by rfl) _ _ rfl rfl (.slice (some ⟨kb, 0, none⟩) n kc) (fun w0 h => CX.out w0 h) _ Try.underlying30 rfl ?_; simp only [World.size_alloc, World.size_drew, Act.put, List.setIfInBounds_toArray, List.set_cons_succ, List.set_cons_zero]) | (refine quiet_load_1R (by rfl) _ _ rfl rfl (.bool false) (fun w0 h => CX3.out w0 h) _ Try.underlying4 rfl ?_; simp only [World.size_alloc, World.size_drew, Act.put, List.setIfInBounds_toArray, List.set_cons_succ, List.set_cons_zero]) | (refine quiet_load_1R (by rfl) _ _ rfl rfl (.slice ta tl.length tc) (fun w0 h => CX2.out w0 h) _ Try.underlying37 rfl ?_; simp only [World.size_alloc, World.size_drew, Act.put, List.setIfInBounds_toArray, List.set_cons_succ, List.set_cons_zero]) | go_big_quiet_step (fail) | (refine quiet_len_v (by rfl) _ _ rfl Try.underlying30 rfl ?_; simp only [World.size_alloc, World.size_drew, Act.put, List.setIfInBounds_toArray, List.set_cons_succ, List.set_cons_zero]))
    refine wpQuiet_nil ?_
    refine WD.eff 27 (by kernel_rfl) ?_
    simp only [pick, List.toList_toArray, List.map_cons, List.map_nil, List.getD_cons_succ, List.getD_cons_zero]
    clear r5 r6 f5 f6 f7 hi6 g5 g6
    go_wp2_with (go_at_call 23; refine (KT.out _ g7).mono ?_; rintro e w8 ⟨⟨v8, B8, rfl, r8⟩, f8⟩)
    have g8 := g7.trans' f8
    try refine wpList_nil ?_
    refine AfterD.on g8 (by kernel_rfl) ?_
    try simp only [World.size_alloc, World.size_drew, Act.put, List.setIfInBounds_toArray, List.set_cons_succ, List.set_cons_zero]
    refine WD.eff 32 (by kernel_rfl) ?_
    simp only [pick, List.toList_toArray, List.map_cons, List.map_nil, List.getD_cons_succ, List.getD_cons_zero]
    have hi8 := ints_any r8 (RT.out _ g8) ht ht
    rw [decide_eq_true rfl] at hi8
    go_wp2_with (go_at_call 47; refine hi8.mono ?_; rintro e w9 ⟨rfl, f9⟩)
    have g9 := g8.trans' f9
    try refine wpList_nil ?_
    refine AfterD.on g9 (by kernel_rfl) ?_
    try simp only [World.size_alloc, World.size_drew, Act.put, List.setIfInBounds_toArray, List.set_cons_succ, List.set_cons_zero]
    refine WD.pure [33, 34] (by kernel_rfl) g9 ?_
    simp only [pick, List.toList_toArray, List.map_cons, List.map_nil, List.getD_cons_succ, List.getD_cons_zero]
    repeat (first | (refine quiet_load_1R (by rfl) _ _ rfl rfl (.slice (some ⟨kb, 0, none⟩) n kc) (fun w0 h => CX.out w0 h) _ Try.underlying30 rfl ?_; simp only [World.size_alloc, World.size_drew, Act.put, List.setIfInBounds_toArray, List.set_cons_succ, List.set_cons_zero]) | (refine quiet_load_1R (by rfl) _ _ rfl rfl (.bool false) (fun w0 h => CX3.out w0 h) _ Try.underlying4 rfl ?_; simp only [World.size_alloc, World.size_drew, Act.put, List.setIfInBounds_toArray, List.set_cons_succ, List.set_cons_zero]) | (refine quiet_load_1R (by rfl) _ _ rfl rfl (.slice ta tl.length tc) (fun w0 h => CX2.out w0 h) _ Try.underlying37 rfl ?_; simp only [World.size_alloc, World.size_drew, Act.put, List.setIfInBounds_toArray, List.set_cons_succ, List.set_cons_zero]) | go_big_quiet_step (fail) | (refine quiet_len_v (by rfl) _ _ rfl Try.underlying30 rfl ?_; simp only [World.size_alloc, World.size_drew, Act.put, List.setIfInBounds_toArray, List.set_cons_succ, List.set_cons_zero]))
    refine wpQuiet_nil ?_
    refine WD.done (by kernel_rfl) ?_
    clear r8 f8 f9 hi8 g8 g7
    go_wp2_with fail
    clear KL KD KO KP KT RT CX2 CX3
    go_loopw [5] (fun jv wr => ∃ j : Nat, j ≤ n ∧ jv = .int .i64 (j : Int) ∧ Fr [] w wr) (fun jv _ => n - (intOf jv).toNat)
    case atStart => exact ⟨0, Nat.zero_le _, rfl, g9⟩
    case round =>
      obtain ⟨j, hj, rfl, f⟩ := hrel
      have c0 := CX.out _ f
      by_cases hjn : j < n
      · have hd : decide (j < n) = true := by simp; omega
        have hr := KR.out _ f j hjn
        have hs := KS.out _ f j
        generalize rs (j : Int) = rsj at *
        generalize rc (j : Int) = rcj at *
        go_wp2_with (first
          | (go_at_call 14; refine hr.mono ?_; rintro e w5 ⟨rfl, hw⟩; subst hw)
          | (go_at_call 43; refine hs.mono ?_; rintro e w5 ⟨rfl, hw⟩; subst hw))
        go_roundw
        case rel => exact ⟨j + 1, by omega, by go_num, f⟩
        case measure => simp [intOf]; omega
      · have hd : decide (j < n) = false := by simp; omega
        go_wp2_with fail
        go_ret
        exact ⟨rfl, f⟩
  · go_enter Try.func18, Try.ntmps18
    go_wp2_with fail
    refine wp_region_D (fun w' => Fr [] w w') false [] (by kernel_rfl) ?_
    refine WD.pure [0] (by kernel_rfl) (Fr.refl _ _).drew ?_
    simp only [pick, List.toList_toArray, List.map_cons, List.map_nil, List.getD_cons_succ, List.getD_cons_zero]
    repeat (first | (refine quiet_load_1R (by rfl) _ _ rfl rfl (.slice (some ⟨kb, 0, none⟩) n kc) (fun w0 h => CX.out w0 h) _ Try.underlying30 rfl ?_; simp only [World.size_alloc, World.size_drew, Act.put, List.setIfInBounds_toArray, List.set_cons_succ, List.set_cons_zero]) | (refine quiet_load_1R (by rfl) _ _ rfl rfl (.bool true) (fun w0 h => CX3.out w0 h) _ Try.underlying4 rfl ?_; simp only [World.size_alloc, World.size_drew, Act.put, List.setIfInBounds_toArray, List.set_cons_succ, List.set_cons_zero]) | (refine quiet_load_1R (by rfl) _ _ rfl rfl (.slice ta tl.length tc) (fun w0 h => CX2.out w0 h) _ Try.underlying37 rfl ?_; simp only [World.size_alloc, World.size_drew, Act.put, List.setIfInBounds_toArray, List.set_cons_succ, List.set_cons_zero]) | go_big_quiet_step (fail) | (refine quiet_len_v (by rfl) _ _ rfl Try.underlying30 rfl ?_; simp only [World.size_alloc, World.size_drew, Act.put, List.setIfInBounds_toArray, List.set_cons_succ, List.set_cons_zero]))
    refine wpQuiet_nil ?_
    refine WD.free [2, 3, 4] (by kernel_rfl) (Fr.refl _ _).drew ?_
    simp only [pick, List.toList_toArray, List.map_cons, List.map_nil, List.getD_cons_succ, List.getD_cons_zero]
    repeat (first | (refine quiet_load_1R (by rfl) _ _ rfl rfl (.slice (some ⟨kb, 0, none⟩) n kc) (fun w0 h => CX.out w0 h) _ Try.underlying30 rfl ?_; simp only [World.size_alloc, World.size_drew, Act.put, List.setIfInBounds_toArray, List.set_cons_succ, List.set_cons_zero]) | (refine quiet_load_1R (by rfl) _ _ rfl rfl (.bool true) (fun w0 h => CX3.out w0 h) _ Try.underlying4 rfl ?_; simp only [World.size_alloc, World.size_drew, Act.put, List.setIfInBounds_toArray, List.set_cons_succ, List.set_cons_zero]) | (refine quiet_load_1R (by rfl) _ _ rfl rfl (.slice ta tl.length tc) (fun w0 h => CX2.out w0 h) _ Try.underlying37 rfl ?_; simp only [World.size_alloc, World.size_drew, Act.put, List.setIfInBounds_toArray, List.set_cons_succ, List.set_cons_zero]) | go_big_quiet_step (fail) | (refine quiet_len_v (by rfl) _ _ rfl Try.underlying30 rfl ?_; simp only [World.size_alloc, World.size_drew, Act.put, List.setIfInBounds_toArray, List.set_cons_succ, List.set_cons_zero]))
    refine wpQuiet_nil ?_
    refine WD.held [5, 6] (by kernel_rfl) (Fr.refl _ _).drew ?_
    simp only [pick, List.toList_toArray, List.map_cons, List.map_nil, List.getD_cons_succ, List.getD_cons_zero]
    repeat (first | (refine quiet_load_1R (by rfl) _ _ rfl rfl (.slice (some ⟨kb, 0, none⟩) n kc) (fun w0 h => CX.out w0 h) _ Try.underlying30 rfl ?_; simp only [World.size_alloc, World.size_drew, Act.put, List.setIfInBounds_toArray, List.set_cons_succ, List.set_cons_zero]) | (refine quiet_load_1R (by rfl) _ _ rfl rfl (.bool true) (fun w0 h => CX3.out w0 h) _ Try.underlying4 rfl ?_; simp only [World.size_alloc, World.size_drew, Act.put, List.setIfInBounds_toArray, List.set_cons_succ, List.set_cons_zero]) | (refine quiet_load_1R (by rfl) _ _ rfl rfl (.slice ta tl.length tc) (fun w0 h => CX2.out w0 h) _ Try.underlying37 rfl ?_; simp only [World.size_alloc, World.size_drew, Act.put, List.setIfInBounds_toArray, List.set_cons_succ, List.set_cons_zero]) | go_big_quiet_step (fail) | (refine quiet_len_v (by rfl) _ _ rfl Try.underlying30 rfl ?_; simp only [World.size_alloc, World.size_drew, Act.put, List.setIfInBounds_toArray, List.set_cons_succ, List.set_cons_zero]))
    refine wpQuiet_nil ?_
    refine WD.eff 1 (by kernel_rfl) ?_
    simp only [pick, List.toList_toArray, List.map_cons, List.map_nil, List.getD_cons_succ, List.getD_cons_zero]
    have f0 : Fr [] w w.drew := (Fr.refl [] w).drew
    go_wp2_with (go_at_call 33; refine (KL.out _ f0).mono ?_; rintro e w5 ⟨rfl, hw⟩; subst hw)
    try refine wpList_nil ?_
    refine AfterD.on f0 (by kernel_rfl) ?_
    try simp only [World.size_alloc, World.size_drew, Act.put, List.setIfInBounds_toArray, List.set_cons_succ, List.set_cons_zero]
    refine WD.pure [7, 8, 9] (by kernel_rfl) f0 ?_
    simp only [pick, List.toList_toArray, List.map_cons, List.map_nil, List.getD_cons_succ, List.getD_cons_zero]
    repeat (first | (refine quiet_load_1R (by rfl) _ _ rfl rfl (.slice (some ⟨kb, 0, none⟩) n kc) (fun w0 h => CX.out w0 h) _ Try.underlying30 rfl ?_; simp only [World.size_alloc, World.size_drew, Act.put, List.setIfInBounds_toArray, List.set_cons_succ, List.set_cons_zero]) | (refine quiet_load_1R (by rfl) _ _ rfl rfl (.bool true) (fun w0 h => CX3.out w0 h) _ Try.underlying4 rfl ?_; simp only [World.size_alloc, World.size_drew, Act.put, List.setIfInBounds_toArray, List.set_cons_succ, List.set_cons_zero]) | (refine quiet_load_1R (by rfl) _ _ rfl rfl (.slice ta tl.length tc) (fun w0 h => CX2.out w0 h) _ Try.underlying37 rfl ?_; simp only [World.size_alloc, World.size_drew, Act.put, List.setIfInBounds_toArray, List.set_cons_succ, List.set_cons_zero]) | go_big_quiet_step (fail) | (refine quiet_len_v (by rfl) _ _ rfl Try.underlying30 rfl ?_; simp only [World.size_alloc, World.size_drew, Act.put, List.setIfInBounds_toArray, List.set_cons_succ, List.set_cons_zero]))
    refine wpQuiet_nil ?_
    refine WD.free [11, 12, 13] (by kernel_rfl) f0 ?_
    simp only [pick, List.toList_toArray, List.map_cons, List.map_nil, List.getD_cons_succ, List.getD_cons_zero]
    repeat (first | (refine quiet_load_1R (by rfl) _ _ rfl rfl (.slice (some ⟨kb, 0, none⟩) n kc) (fun w0 h => CX.out w0 h) _ Try.underlying30 rfl ?_; simp only [World.size_alloc, World.size_drew, Act.put, List.setIfInBounds_toArray, List.set_cons_succ, List.set_cons_zero]) | (refine quiet_load_1R (by rfl) _ _ rfl rfl (.bool true) (fun w0 h => CX3.out w0 h) _ Try.underlying4 rfl ?_; simp only [World.size_alloc, World.size_drew, Act.put, List.setIfInBounds_toArray, List.set_cons_succ, List.set_cons_zero]) | (refine quiet_load_1R (by rfl) _ _ rfl rfl (.slice ta tl.length tc) (fun w0 h => CX2.out w0 h) _ Try.underlying37 rfl ?_; simp only [World.size_alloc, World.size_drew, Act.put, List.setIfInBounds_toArray, List.set_cons_succ, List.set_cons_zero]) | go_big_quiet_step (fail) | (refine quiet_len_v (by rfl) _ _ rfl Try.underlying30 rfl ?_; simp only [World.size_alloc, World.size_drew, Act.put, List.setIfInBounds_toArray, List.set_cons_succ, List.set_cons_zero]))
    refine wpQuiet_nil ?_
    refine WD.held [14] (by kernel_rfl) f0 ?_
    simp only [pick, List.toList_toArray, List.map_cons, List.map_nil, List.getD_cons_succ, List.getD_cons_zero]
    repeat (first | (refine quiet_load_1R (by rfl) _ _ rfl rfl (.slice (some ⟨kb, 0, none⟩) n kc) (fun w0 h => CX.out w0 h) _ Try.underlying30 rfl ?_; simp only [World.size_alloc, World.size_drew, Act.put, List.setIfInBounds_toArray, List.set_cons_succ, List.set_cons_zero]) | (refine quiet_load_1R (by rfl) _ _ rfl rfl (.bool true) (fun w0 h => CX3.out w0 h) _ Try.underlying4 rfl ?_; simp only [World.size_alloc, World.size_drew, Act.put, List.setIfInBounds_toArray, List.set_cons_succ, List.set_cons_zero]) | (refine quiet_load_1R (by rfl) _ _ rfl rfl (.slice ta tl.length tc) (fun w0 h => CX2.out w0 h) _ Try.underlying37 rfl ?_; simp only [World.size_alloc, World.size_drew, Act.put, List.setIfInBounds_toArray, List.set_cons_succ, List.set_cons_zero]) | go_big_quiet_step (fail) | (refine quiet_len_v (by rfl) _ _ rfl Try.underlying30 rfl ?_; simp only [World.size_alloc, World.size_drew, Act.put, List.setIfInBounds_toArray, List.set_cons_succ, List.set_cons_zero]))
    refine wpQuiet_nil ?_
    refine WD.eff 10 (by kernel_rfl) ?_
    simp only [pick, List.toList_toArray, List.map_cons, List.map_nil, List.getD_cons_succ, List.getD_cons_zero]
    go_wp2_with (go_at_call 34; refine (KD.out _ f0).mono ?_; rintro e w5 ⟨rfl, hw⟩; subst hw)
    try refine wpList_nil ?_
    refine AfterD.on f0 (by kernel_rfl) ?_
    try simp only [World.size_alloc, World.size_drew, Act.put, List.setIfInBounds_toArray, List.set_cons_succ, List.set_cons_zero]
    refine WD.pure [15, 16, 17, 18] (by kernel_rfl) f0 ?_
    simp only [pick, List.toList_toArray, List.map_cons, List.map_nil, List.getD_cons_succ, List.getD_cons_zero]
    repeat (first | (refine quiet_load_1R (by rfl) _ _ rfl rfl (.slice (some ⟨kb, 0, none⟩) n kc) (fun w0 h => CX.out w0 h) _ Try.underlying30 rfl ?_; simp only [World.size_alloc, World.size_drew, Act.put, List.setIfInBounds_toArray, List.set_cons_succ, List.set_cons_zero]) | (refine quiet_load_1R (by rfl) _ _ rfl rfl (.bool true) (fun w0 h => CX3.out w0 h) _ Try.underlying4 rfl ?_; simp only [World.size_alloc, World.size_drew, Act.put, List.setIfInBounds_toArray, List.set_cons_succ, List.set_cons_zero]) | (refine quiet_load_1R (by rfl) _ _ rfl rfl (.slice ta tl.length tc) (fun w0 h => CX2.out w0 h) _ Try.underlying37 rfl ?_; simp only [World.size_alloc, World.size_drew, Act.put, List.setIfInBounds_toArray, List.set_cons_succ, List.set_cons_zero]) | go_big_quiet_step (fail) | (refine quiet_len_v (by rfl) _ _ rfl Try.underlying30 rfl ?_; simp only [World.size_alloc, World.size_drew, Act.put, List.setIfInBounds_toArray, List.set_cons_succ, List.set_cons_zero]))
    refine wpQuiet_nil ?_
    refine WD.free [20] (by kernel_rfl) f0 ?_
    simp only [pick, List.toList_toArray, List.map_cons, List.map_nil, List.getD_cons_succ, List.getD_cons_zero]
    repeat (first | (refine quiet_load_1R (by rfl) _ _ rfl rfl (.slice (some ⟨kb, 0, none⟩) n kc) (fun w0 h => CX.out w0 h) _ Try.underlying30 rfl ?_; simp only [World.size_alloc, World.size_drew, Act.put, List.setIfInBounds_toArray, List.set_cons_succ, List.set_cons_zero]) | (refine quiet_load_1R (by rfl) _ _ rfl rfl (.bool true) (fun w0 h => CX3.out w0 h) _ Try.underlying4 rfl ?_; simp only [World.size_alloc, World.size_drew, Act.put, List.setIfInBounds_toArray, List.set_cons_succ, List.set_cons_zero]) | (refine quiet_load_1R (by rfl) _ _ rfl rfl (.slice ta tl.length tc) (fun w0 h => CX2.out w0 h) _ Try.underlying37 rfl ?_; simp only [World.size_alloc, World.size_drew, Act.put, List.setIfInBounds_toArray, List.set_cons_succ, List.set_cons_zero]) | go_big_quiet_step (fail) | (refine quiet_len_v (by rfl) _ _ rfl Try.underlying30 rfl ?_; simp only [World.size_alloc, World.size_drew, Act.put, List.setIfInBounds_toArray, List.set_cons_succ, List.set_cons_zero]))
    refine wpQuiet_nil ?_
    refine WD.eff 19 (by kernel_rfl) ?_
    simp only [pick, List.toList_toArray, List.map_cons, List.map_nil, List.getD_cons_succ, List.getD_cons_zero]
    go_wp2_with (go_at_call 13; refine (KO.out _ f0).mono ?_; rintro e w5 ⟨⟨v5, B5, rfl, r5⟩, f5⟩)
    have g5 := f0.trans' f5
    try refine wpList_nil ?_
    refine AfterD.on g5 (by kernel_rfl) ?_
    try simp only [World.size_alloc, World.size_drew, Act.put, List.setIfInBounds_toArray, List.set_cons_succ, List.set_cons_zero]
    refine WD.eff 21 (by kernel_rfl) ?_
    simp only [pick, List.toList_toArray, List.map_cons, List.map_nil, List.getD_cons_succ, List.getD_cons_zero]
    go_wp2_with (go_at_call 48; refine (KP.out _ g5).mono ?_; rintro e w6 ⟨⟨v6, B6, rfl, r6⟩, f6⟩)
    have g6 := g5.trans' f6
    try refine wpList_nil ?_
    refine AfterD.on g6 (by kernel_rfl) ?_
    try simp only [World.size_alloc, World.size_drew, Act.put, List.setIfInBounds_toArray, List.set_cons_succ, List.set_cons_zero]
    refine WD.eff 22 (by kernel_rfl) ?_
    simp only [pick, List.toList_toArray, List.map_cons, List.map_nil, List.getD_cons_succ, List.getD_cons_zero]
    have hi6 := ints_any (r5.keep f6 (by simp)) r6 hll hll
    rw [decide_eq_true rfl] at hi6
    go_wp2_with (go_at_call 47; refine hi6.mono ?_; rintro e w7 ⟨rfl, f7⟩)
    have g7 := g6.trans' f7
    try refine wpList_nil ?_
    refine AfterD.on g7 (by kernel_rfl) ?_
    try simp only [World.size_alloc, World.size_drew, Act.put, List.setIfInBounds_toArray, List.set_cons_succ, List.set_cons_zero]
    refine WD.pure [23, 24, 25, 26] (by kernel_rfl) g7 ?_
    simp only [pick, List.toList_toArray, List.map_cons, List.map_nil, List.getD_cons_succ, List.getD_cons_zero]
    repeat (first | (refine quiet_load_1R (by rfl) _ _ rfl rfl (.slice (some ⟨kb, 0, none⟩) n kc) (fun w0 h => CX.out w0 h) _ Try.underlying30 rfl ?_; simp only [World.size_alloc, World.size_drew, Act.put, List.setIfInBounds_toArray, List.set_cons_succ, List.set_cons_zero]) | (refine quiet_load_1R (by rfl) _ _ rfl rfl (.bool true) (fun w0 h => CX3.out w0 h) _ Try.underlying4 rfl ?_; simp only [World.size_alloc, World.size_drew, Act.put, List.setIfInBounds_toArray, List.set_cons_succ, List.set_cons_zero]) | (refine quiet_load_1R (by rfl) _ _ rfl rfl (.slice ta tl.length tc) (fun w0 h => CX2.out w0 h) _ Try.underlying37 rfl ?_; simp only [World.size_alloc, World.size_drew, Act.put, List.setIfInBounds_toArray, List.set_cons_succ, List.set_cons_zero]) | go_big_quiet_step (fail) | (refine quiet_len_v (by rfl) _ _ rfl Try.underlying30 rfl ?_; simp only [World.size_alloc, World.size_drew, Act.put, List.setIfInBounds_toArray, List.set_cons_succ, List.set_cons_zero]))
    refine wpQuiet_nil ?_
    refine WD.free [28, 29, 30] (by kernel_rfl) g7 ?_
    simp only [pick, List.toList_toArray, List.map_cons, List.map_nil, List.getD_cons_succ, List.getD_cons_zero]
    repeat (first | (refine quiet_load_1R (by rfl) _ _ rfl rfl (.slice (some ⟨kb, 0, none⟩) n kc) (fun w0 h => CX.out w0 h) _ Try.underlying30 rfl ?_; simp only [World.size_alloc, World.size_drew, Act.put, List.setIfInBounds_toArray, List.set_cons_succ, List.set_cons_zero]) | (refine quiet_load_1R (by rfl) _ _ rfl rfl (.bool true) (fun w0 h => CX3.out w0 h) _ Try.underlying4 rfl ?_; simp only [World.size_alloc, World.size_drew, Act.put, List.setIfInBounds_toArray, List.set_cons_succ, List.set_cons_zero]) | (refine quiet_load_1R (by rfl) _ _ rfl rfl (.slice ta tl.length tc) (fun w0 h => CX2.out w0 h) _ Try.underlying37 rfl ?_; simp only [World.size_alloc, World.size_drew, Act.put, List.setIfInBounds_toArray, List.set_cons_succ, List.set_cons_zero]) | go_big_quiet_step (fail) | (refine quiet_len_v (by rfl) _ _ rfl Try.underlying30 rfl ?_; simp only [World.size_alloc, World.size_drew, Act.put, List.setIfInBounds_toArray, List.set_cons_succ, List.set_cons_zero]))
    refine wpQuiet_nil ?_
    refine WD.held [31] (by kernel_rfl) g7 ?_
    simp only [pick, List.toList_toArray, List.map_cons, List.map_nil, List.getD_cons_succ, List.getD_cons_zero]
    repeat (first | (refine quiet_load_1R (by rfl) _ _ rfl rfl (.slice (some ⟨kb, 0, none⟩) n kc) (fun w0 h => CX.out w0 h) _ Try.underlying30 rfl ?_; simp only [World.size_alloc, World.size_drew, Act.put, List.setIfInBounds_toArray, List.set_cons_succ, List.set_cons_zero]) | (refine quiet_load_1R (by rfl) _ _ rfl rfl (.bool true) (fun w0 h => CX3.out w0 h) _ Try.underlying4 rfl ?_; simp only [World.size_alloc, World.size_drew, Act.put, List.setIfInBounds_toArray, List.set_cons_succ, List.set_cons_zero]) | (refine quiet_load_1R (by rfl) _ _ rfl rfl (.slice ta tl.length tc) (fun w0 h => CX2.out w0 h) _ Try.underlying37 rfl ?_; simp only [World.size_alloc, World.size_drew, Act.put, List.setIfInBounds_toArray, List.set_cons_succ, List.set_cons_zero]) | go_big_quiet_step (fail) | (refine quiet_len_v (by rfl) _ _ rfl Try.underlying30 rfl ?_; simp only [World.size_alloc, World.size_drew, Act.put, List.setIfInBounds_toArray, List.set_cons_succ, List.set_cons_zero]))
    refine wpQuiet_nil ?_
    refine WD.eff 27 (by kernel_rfl) ?_
    simp only [pick, List.toList_toArray, List.map_cons, List.map_nil, List.getD_cons_succ, List.getD_cons_zero]
    clear r5 r6 f5 f6 f7 hi6 g5 g6
    go_wp2_with (go_at_call 23; refine (KT.out _ g7).mono ?_; rintro e w8 ⟨⟨v8, B8, rfl, r8⟩, f8⟩)
    have g8 := g7.trans' f8
    try refine wpList_nil ?_
    refine AfterD.on g8 (by kernel_rfl) ?_
    try simp only [World.size_alloc, World.size_drew, Act.put, List.setIfInBounds_toArray, List.set_cons_succ, List.set_cons_zero]
    refine WD.eff 32 (by kernel_rfl) ?_
    simp only [pick, List.toList_toArray, List.map_cons, List.map_nil, List.getD_cons_succ, List.getD_cons_zero]
    have hi8 := ints_any r8 (RT.out _ g8) ht ht
    rw [decide_eq_true rfl] at hi8
    go_wp2_with (go_at_call 47; refine hi8.mono ?_; rintro e w9 ⟨rfl, f9⟩)
    have g9 := g8.trans' f9
    try refine wpList_nil ?_
    refine AfterD.on g9 (by kernel_rfl) ?_
    try simp only [World.size_alloc, World.size_drew, Act.put, List.setIfInBounds_toArray, List.set_cons_succ, List.set_cons_zero]
    refine WD.pure [33, 34] (by kernel_rfl) g9 ?_
    simp only [pick, List.toList_toArray, List.map_cons, List.map_nil, List.getD_cons_succ, List.getD_cons_zero]
    repeat (first | (refine quiet_load_1R (by rfl) _ _ rfl rfl (.slice (some ⟨kb, 0, none⟩) n kc) (fun w0 h => CX.out w0 h) _ Try.underlying30 rfl ?_; simp only [World.size_alloc, World.size_drew, Act.put, List.setIfInBounds_toArray, List.set_cons_succ, List.set_cons_zero]) | (refine quiet_load_1R (by rfl) _ _ rfl rfl (.bool true) (fun w0 h => CX3.out w0 h) _ Try.underlying4 rfl ?_; simp only [World.size_alloc, World.size_drew, Act.put, List.setIfInBounds_toArray, List.set_cons_succ, List.set_cons_zero]) | (refine quiet_load_1R (by rfl) _ _ rfl rfl (.slice ta tl.length tc) (fun w0 h => CX2.out w0 h) _ Try.underlying37 rfl ?_; simp only [World.size_alloc, World.size_drew, Act.put, List.setIfInBounds_toArray, List.set_cons_succ, List.set_cons_zero]) | go_big_quiet_step (fail) | (refine quiet_len_v (by rfl) _ _ rfl Try.underlying30 rfl ?_; simp only [World.size_alloc, World.size_drew, Act.put, List.setIfInBounds_toArray, List.set_cons_succ, List.set_cons_zero]))
    refine wpQuiet_nil ?_
    refine WD.done (by kernel_rfl) ?_
    clear r8 f8 f9 hi8 g8 g7
    go_wp2_with fail
    clear KL KD KO KP KT RT CX2 CX3
    go_loopw [5] (fun jv wr => ∃ j : Nat, j ≤ n ∧ jv = .int .i64 (j : Int) ∧ Fr [] w wr) (fun jv _ => n - (intOf jv).toNat)
    case atStart => exact ⟨0, Nat.zero_le _, rfl, g9⟩
    case round =>
      obtain ⟨j, hj, rfl, f⟩ := hrel
      have c0 := CX.out _ f
      by_cases hjn : j < n
      · have hd : decide (j < n) = true := by simp; omega
        have hr := KR.out _ f j hjn
        have hs := KS.out _ f j
        generalize rs (j : Int) = rsj at *
        generalize rc (j : Int) = rcj at *
        go_wp2_with (first
          | (go_at_call 14; refine hr.mono ?_; rintro e w5 ⟨rfl, hw⟩; subst hw)
          | (go_at_call 43; refine hs.mono ?_; rintro e w5 ⟨rfl, hw⟩; subst hw))
        go_roundw
        case rel => exact ⟨j + 1, by omega, by go_num, f⟩
        case measure => simp [intOf]; omega
      · have hd : decide (j < n) = false := by simp; omega
        go_wp2_with fail
        go_ret
        exact ⟨rfl, f⟩
end
end Go.Proofs.Ytflapddkeeiieaa

/- Layer 6: each call of both disks, told alike. -/
namespace Go.Proofs.Ytflapddkeeiieaa
open Go Go.Xr Go.RowKit
set_option linter.unusedVariables false
set_option linter.unusedSimpArgs false
def wrC (X : XD) (lf : Option Nat) (I : Int) (S : ByteArray) : Int := mayN X (mk 0 lf) I S true
def wrX (X : XD) (lf : Option Nat) (I : Int) (S : ByteArray) : XD := if wrC X lf I S = 0 then { X with L := X.L ++ [(I.toNat, S)], Trace := X.Trace ++ [I] } else X
def wrL (X : XD) (lf : Option Nat) (I : Int) (S : ByteArray) : Option Nat := if wrC X lf I S = 0 then lf.map (· - 1) else lf
def flC (X : XD) (lf : Option Nat) : Int := if xdead X (mk 0 lf) then 60 else 0
def flX (X : XD) (lf : Option Nat) : XD := if xdead X (mk 0 lf) then X else { X with Kept := setX X.Kept X.L, L := [], Trace := X.Trace ++ [-1] }
def flL (X : XD) (lf : Option Nat) : Option Nat := if xdead X (mk 0 lf) then lf else lf.map (· - 1)
def crX (X : XD) (ks : List Bool) : XD := if X.Dead then X else { X with Kept := setX X.Kept (keptL X.L ks), L := [] }
def faX (X : XD) : XD := { X with Kept := List.replicate X.Kept.length Zs, L := [], Dead := true }
def taC (X : XD) (lf : Option Nat) (I : Int) (S : ByteArray) : Int := tamN X (mk 0 lf) I S
def taX (X : XD) (lf : Option Nat) (I : Int) (S : ByteArray) : XD := if taC X lf I S = 0 then { X with Kept := X.Kept.set I.toNat S } else X
theorem offB_dec {lf : Option Nat} : (mk 0 lf).map (·.2) = lf := by cases lf <;> rfl
theorem pwF_mk_dec (b : Nat) (lf : Option Nat) : pwF (mk b (lf.map (· - 1))) = pwF (mk b lf) := by cases lf <;> rfl
section
variable {w : World} {l : List Res} {d x pb qb : Nat} {X Y : XD} {lf : Option Nat} {pc px : Option (Nat × Nat)} {D : SD} {F : List Nat} {i : XI}
theorem Ev.idle {w' : World} {rs : List Res} (h : Held w rs) (f : Fr [] w w') : Ev w rs w' rs := (Ev.refl h).step f
theorem cwrite_any (h : Held w (l ++ pr d (dOf X) (mk pb lf) F x Y px i)) (hX : XGood X) (hl : X.L.length < 1000000) (ht : X.Trace.length < 1000000) (I : Int) (h1 : -9223372036854775808 ≤ I) (h2 : I ≤ 9223372036854775807) (S : ByteArray) (hS : S.size ≤ 9223372036854775807) :
    Calls Try.prog 11 #[.pointer (some ⟨d, 0, none⟩), .int .i64 I, .string S] w fun e w' => e = .returned (.int .i64 (wrC X lf I S)) ∧ ∃ F', Ev w (l ++ pr d (dOf X) (mk pb lf) F x Y px i) w' (l ++ pr d (dOf (wrX X lf I S)) (mk pb (wrL X lf I S)) F' x Y px i) := by
  have hc := Held.prC h
  rcases mayN_cases X (mk 0 lf) I S true with h3 | h3
  · obtain ⟨hd, ⟨q, rfl, hq⟩, hs⟩ := mayN_ok h3
    have ha : ableN (dOf X) (mk pb lf) = 0 := by rw [ableN_mk X pb 0, hd]; rfl
    have e1 : wrC X lf q S = 0 := h3
    have e2 : wrX X lf q S = { X with L := X.L ++ [(q, S)], Trace := X.Trace ++ [(q : Int)] } := by unfold wrX; rw [if_pos e1, Int.toNat_natCast]
    have e3 : wrL X lf q S = lf.map (· - 1) := by unfold wrL; rw [if_pos e1]
    refine (write_ok (Held.rep hc) (Held.powOk hc) (Held.powNe hc) q (by simpa [dOf] using hq) S (hs rfl) ha (by simpa [dOf] using hl) (by simpa [dOf] using ht)).mono ?_
    rintro e w' ⟨rfl, F', hr, hp, f, hF⟩
    rw [e1, e2, e3, dOf_write X q S hq]
    rw [mk_dec] at hr hp
    exact ⟨rfl, F', Ev.prC (Ev.refl h) (Held.cdisk hc hr hp (pwF_mk_dec pb lf) f hF)⟩
  · have h4 : atN (dOf X) (mk pb lf) I (some S) = mayN X (mk 0 lf) I S true := atN_mk X pb 0 lf I S
    have hne : wrC X lf I S ≠ 0 := by show mayN X (mk 0 lf) I S true ≠ 0; rcases h3 with h | h <;> omega
    refine (write_err (Held.rep hc) (Held.powOk hc) I h1 h2 S hS _ h4 h3).mono ?_
    rintro e w' ⟨rfl, f⟩
    refine ⟨rfl, F, ?_⟩
    unfold wrX wrL
    rw [if_neg hne, if_neg hne]
    exact Ev.idle h f
theorem dwrite_any (h : Held w (l ++ pr d D pc F x X (mk qb lf) i)) (hX : XGood X) (hl : X.L.length < 1000000) (ht : X.Trace.length < 1000000) (I : Int) (S : ByteArray) (hS : S.size ≤ 9223372036854775807) :
    Calls Try.prog 42 #[.pointer (some ⟨x, 0, none⟩), .int .i64 I, .string S] w fun e w' => e = .returned (.int .i64 (wrC X lf I S)) ∧ ∃ i', Ev w (l ++ pr d D pc F x X (mk qb lf) i) w' (l ++ pr d D pc F x (wrX X lf I S) (mk qb (wrL X lf I S)) i') := by
  have hx := Held.prX h
  have e3 : mayN X (mk qb lf) I S true = wrC X lf I S := mayN_mk X qb 0 lf I _ _
  rcases mayN_cases X (mk 0 lf) I S true with h3 | h3
  · obtain ⟨hd, ⟨q, rfl, hq⟩, hs⟩ := mayN_ok h3
    have e1 : wrC X lf q S = 0 := h3
    have e2 : wrX X lf q S = { X with L := X.L ++ [(q, S)], Trace := X.Trace ++ [(q : Int)] } := by unfold wrX; rw [if_pos e1, Int.toNat_natCast]
    have e4 : wrL X lf q S = lf.map (· - 1) := by unfold wrL; rw [if_pos e1]
    have ho : offB (mk qb lf) = false := by
      rw [offB_mk qb 0]
      unfold xdead at hd
      cases hh : offB (mk 0 lf) with
      | false => rfl
      | true => rw [hh] at hd; simp at hd
    refine (xwrite_ok hx q S hS (by rw [e3]; exact e1) ho hl ht).mono ?_
    rintro e w' ⟨rfl, i', ev⟩
    rw [e1, e2, e4]
    rw [mk_dec] at ev
    exact ⟨rfl, i', Ev.prX (Ev.refl h) ev⟩
  · have hne : wrC X lf I S ≠ 0 := by show mayN X (mk 0 lf) I S true ≠ 0; rcases h3 with h | h <;> omega
    refine (xwrite_err hx I S hS _ e3 (by unfold wrC; exact h3)).mono ?_
    rintro e w' ⟨rfl, rfl⟩
    refine ⟨rfl, i, ?_⟩
    unfold wrX wrL
    rw [if_neg hne, if_neg hne]
    exact Ev.refl h
theorem cflush_any (h : Held w (l ++ pr d (dOf X) (mk pb lf) F x Y px i)) (hX : XGood X) (ht : X.Trace.length < 1000000) :
    Calls Try.prog 9 #[.pointer (some ⟨d, 0, none⟩)] w fun e w' => e = .returned (.int .i64 (flC X lf)) ∧ ∃ F', Ev w (l ++ pr d (dOf X) (mk pb lf) F x Y px i) w' (l ++ pr d (dOf (flX X lf)) (mk pb (flL X lf)) F' x Y px i) := by
  have hc := Held.prC h
  have ha := ableN_mk X pb 0 lf
  unfold flC flX flL
  cases hd : xdead X (mk 0 lf) with
  | true =>
    rw [hd] at ha
    refine (flush_err (Held.rep hc) (Held.powOk hc) ha).mono ?_
    rintro e w' ⟨rfl, rfl⟩
    exact ⟨rfl, F, Ev.refl h⟩
  | false =>
    rw [hd] at ha
    refine (flush_ok (Held.rep hc) (Held.powOk hc) (Held.powNe hc) ha (by simpa [dOf] using ht)).mono ?_
    rintro e w' ⟨rfl, F', hr, hp, f, hF⟩
    rw [mk_dec] at hr hp
    have e1 : flushed (dOf X) = dOf { X with Kept := setX X.Kept X.L, L := [], Trace := X.Trace ++ [-1] } := (dOf_flush X).symm
    rw [e1] at hr
    exact ⟨rfl, F', Ev.prC (Ev.refl h) (Held.cdisk hc hr hp (pwF_mk_dec pb lf) f hF)⟩
theorem dflush_any (h : Held w (l ++ pr d D pc F x X (mk qb lf) i)) (hX : XGood X) (hl : X.L.length < 1000000) (ht : X.Trace.length < 1000000) :
    Calls Try.prog 25 #[.pointer (some ⟨x, 0, none⟩)] w fun e w' => e = .returned (.int .i64 (flC X lf)) ∧ ∃ i', Ev w (l ++ pr d D pc F x X (mk qb lf) i) w' (l ++ pr d D pc F x (flX X lf) (mk qb (flL X lf)) i') := by
  have hx := Held.prX h
  have e0 : xdead X (mk qb lf) = xdead X (mk 0 lf) := by unfold xdead; rw [offB_mk qb 0]
  unfold flC flX flL
  cases hd : xdead X (mk 0 lf) with
  | true =>
    refine (xflush_err hx (by rw [e0, hd])).mono ?_
    rintro e w' ⟨rfl, rfl⟩
    exact ⟨rfl, i, Ev.refl h⟩
  | false =>
    refine (xflush_ok hx (by rw [e0, hd]) hX.pos hX.le (fun p hp => (hX.l512 p hp).2) hl ht).mono ?_
    rintro e w' ⟨rfl, i', ev⟩
    rw [mk_dec] at ev
    exact ⟨rfl, i', Ev.prX (Ev.refl h) ev⟩
theorem dfail_any (h : Held w (l ++ pr d D pc F x X px i)) (hX : XGood X) :
    Calls Try.prog 44 #[.pointer (some ⟨x, 0, none⟩)] w fun e w' => e = .returned (.int .i64 0) ∧ ∃ i', Ev w (l ++ pr d D pc F x X px i) w' (l ++ pr d D pc F x (faX X) px i') := by
  refine (xfail_any (Held.xpsOf (Held.prX h)) hX.le).mono ?_
  rintro e w' ⟨rfl, i', ev⟩
  exact ⟨rfl, i', Ev.prX1 (Ev.refl h) ev⟩
theorem dOf_fail (X : XD) : dOf (faX X) = failed (dOf X) := by
  unfold faX failed dOf
  rw [nowL_nil]
  simp only [List.map_replicate, List.map_nil, List.length_map]
  rfl
theorem cfail_any (h : Held w (l ++ pr d (dOf X) pc F x Y px i)) :
    Calls Try.prog 30 #[.pointer (some ⟨d, 0, none⟩)] w fun e w' => e = .returned (.int .i64 0) ∧ ∃ F', Ev w (l ++ pr d (dOf X) pc F x Y px i) w' (l ++ pr d (dOf (faX X)) pc F' x Y px i) := by
  have hc := Held.prC h
  refine (fail_ok (Held.rep hc)).mono ?_
  rintro e w' ⟨rfl, F', hr, f, hF⟩
  rw [← dOf_fail] at hr
  have hp : pwOk w' pc := (On.pow (Held.powOk hc)).loc w w' (fun b hb hlt => f.block b hlt (Held.powNe hc b hb)) (Held.powOk hc)
  exact ⟨rfl, F', Ev.prC (Ev.refl h) (Held.cdisk hc hr hp rfl (f.mono (fun y hy => .inl (List.mem_append_left _ hy))) hF)⟩
theorem dreplace_any (h : Held w (l ++ pr d D pc F x X px i)) :
    Calls Try.prog 45 #[.pointer (some ⟨x, 0, none⟩)] w fun e w' => e = .returned (.int .i64 (if X.Dead then 0 else 3)) ∧ Ev w (l ++ pr d D pc F x X px i) w' (l ++ pr d D pc F x { X with Dead := false } px i) := by
  refine (xreplace_any (Held.xpsOf (Held.prX h))).mono ?_
  rintro e w' ⟨rfl, ev⟩
  exact ⟨rfl, Ev.prX1 (Ev.refl h) ev⟩
theorem creplace_any (h : Held w (l ++ pr d (dOf X) pc F x Y px i)) :
    Calls Try.prog 31 #[.pointer (some ⟨d, 0, none⟩)] w fun e w' => e = .returned (.int .i64 (if X.Dead then 0 else 3)) ∧ Ev w (l ++ pr d (dOf X) pc F x Y px i) w' (l ++ pr d (dOf { X with Dead := false }) pc F x Y px i) := by
  have hc := Held.prC h
  cases hd : X.Dead with
  | true =>
    refine (replace_ok (Held.rep hc) hd).mono ?_
    rintro e w' ⟨rfl, hr, f⟩
    have hlt : d ∈ F := by obtain ⟨kc, nc, lv, tv, k, n, L, T, hF, _⟩ := (Held.rep hc).open; rw [hF]; simp [feet]
    have f2 : Fr F w w' := f.mono (fun y hy => .inl (by simp at hy; rw [hy]; exact hlt))
    have hp : pwOk w' pc := (On.pow (Held.powOk hc)).loc w w' (fun b hb hlt => f2.block b hlt (Held.powNe hc b hb)) (Held.powOk hc)
    exact ⟨rfl, Ev.prC (Ev.refl h) (Held.cdisk hc hr hp rfl (f2.mono (fun y hy => .inl (List.mem_append_left _ hy))) (fun y hy => .inl hy))⟩
  | false =>
    refine (replace_no (Held.rep hc) hd).mono ?_
    rintro e w' ⟨rfl, rfl⟩
    have e1 : ({ X with Dead := false } : XD) = X := by cases X; cases hd; rfl
    rw [e1]
    exact ⟨rfl, Ev.refl h⟩
theorem tamN_ok {p : Option (Nat × Nat)} {I : Int} {S : ByteArray} (h : tamN X p I S = 0) : X.L = [] ∧ mayN X p I S true = 0 := by
  unfold tamN at h
  split at h
  · simp at h
  · split at h
    · simp at h
    · rename_i h2
      exact ⟨List.length_eq_zero_iff.1 (by omega), h⟩
theorem taC_mk (X : XD) (lf : Option Nat) (b : Nat) (I : Int) (S : ByteArray) : tamN X (mk b lf) I S = taC X lf I S := by
  unfold taC tamN xdead
  rw [offB_mk b 0, mayN_mk X b 0]
theorem ctamper_any (h : Held w (l ++ pr d (dOf X) (mk pb lf) F x Y px i)) (hX : XGood X) (hl : X.L.length < 1000000) (I : Int) (h1 : -9223372036854775808 ≤ I) (h2 : I ≤ 9223372036854775807) (S : ByteArray) (hS : S.size ≤ 9223372036854775807) :
    Calls Try.prog 32 #[.pointer (some ⟨d, 0, none⟩), .int .i64 I, .string S] w fun e w' => e = .returned (.int .i64 (taC X lf I S)) ∧ Ev w (l ++ pr d (dOf X) (mk pb lf) F x Y px i) w' (l ++ pr d (dOf (taX X lf I S)) (mk pb lf) F x Y px i) := by
  have hc := Held.prC h
  have e1 : tamC (dOf X) (mk pb lf) I S = taC X lf I S := tamC_mk X pb 0 lf I S
  unfold taX
  by_cases h0 : taC X lf I S = 0
  · obtain ⟨hL, hm⟩ := tamN_ok (X := X) h0
    obtain ⟨hd, ⟨q, rfl, hq⟩, hs⟩ := mayN_ok hm
    have ha : ableN (dOf X) (mk pb lf) = 0 := by rw [ableN_mk X pb 0, hd]; rfl
    rw [if_pos h0, h0, Int.toNat_natCast]
    refine (tamper_ok (Held.rep hc) (Held.powOk hc) q (by simpa [dOf] using hq) S (hs rfl) ha (by simp [dOf, hL])).mono ?_
    rintro e w' ⟨rfl, hr, f⟩
    rw [← dOf_tamper X hL] at hr
    have hp : pwOk w' (mk pb lf) := (On.pow (Held.powOk hc)).loc w w' (fun b hb hlt => f.block b hlt (Held.powNe hc b hb)) (Held.powOk hc)
    exact ⟨rfl, Ev.prC (Ev.refl h) (Held.cdisk hc hr hp rfl (f.mono (fun y hy => .inl (List.mem_append_left _ hy))) (fun y hy => .inl hy))⟩
  · rw [if_neg h0]
    refine (tamper_err (Held.rep hc) (Held.powOk hc) I h1 h2 S hS (by simpa [dOf] using hl) _ e1 h0).mono ?_
    rintro e w' ⟨rfl, f⟩
    exact ⟨rfl, Ev.idle h f⟩
theorem dtamper_any (h : Held w (l ++ pr d D pc F x X (mk qb lf) i)) (hX : XGood X) (hl : X.L.length < 1000000) (I : Int) (S : ByteArray) (hS : S.size ≤ 9223372036854775807) :
    Calls Try.prog 46 #[.pointer (some ⟨x, 0, none⟩), .int .i64 I, .string S] w fun e w' => e = .returned (.int .i64 (taC X lf I S)) ∧ Ev w (l ++ pr d D pc F x X (mk qb lf) i) w' (l ++ pr d D pc F x (taX X lf I S) (mk qb lf) i) := by
  have hx := Held.prX h
  unfold taX
  by_cases h0 : taC X lf I S = 0
  · obtain ⟨hL, hm⟩ := tamN_ok (X := X) h0
    obtain ⟨hd, ⟨q, rfl, hq⟩, hs⟩ := mayN_ok hm
    rw [if_pos h0, h0, Int.toNat_natCast]
    refine (xtamper_ok hx q hq hX.le S hS (by rw [taC_mk, h0])).mono ?_
    rintro e w' ⟨rfl, ev⟩
    exact ⟨rfl, Ev.prX (Ev.refl h) ev⟩
  · rw [if_neg h0]
    refine (xtamper_err hx I S hS hl _ (taC_mk X lf qb I S) h0).mono ?_
    rintro e w' ⟨rfl, rfl⟩
    exact ⟨rfl, Ev.refl h⟩
end
end Go.Proofs.Ytflapddkeeiieaa

/- Layer 6: Crash and Wire of both disks, told alike. -/
namespace Go.Proofs.Ytflapddkeeiieaa
open Go Go.Xr Go.RowKit
set_option linter.unusedVariables false
set_option linter.unusedSimpArgs false
theorem dOf_crash (X : XD) (ks : List Bool) : crashed (dOf X) ks = dOf { X with Kept := setX X.Kept (keptL X.L ks), L := [] } := by
  have e := crashK_set X.L ks X.Kept (min ks.length X.L.length) rfl keptL (fun _ => by unfold keptL; rfl) (fun p l k => by rw [keptL])
  simp only [dOf, crashed, nowL_nil, List.map_nil, List.length_map]
  rw [e]
  rfl
theorem keptL_mem : ∀ (l : List (Nat × ByteArray)) (ks : List Bool), ∀ p ∈ keptL l ks, p ∈ l
  | [], _, p, h => by simp [keptL] at h
  | q :: l, ks, p, h => by
    rw [keptL] at h
    split at h
    · rcases List.mem_cons.1 h with h | h
      · simp [h]
      · exact List.mem_cons_of_mem _ (keptL_mem l _ p h)
    · exact List.mem_cons_of_mem _ (keptL_mem l _ p h)
section
variable {w w' : World} {l rs : List Res} {d x pb qb : Nat} {X Y : XD} {lf : Option Nat} {pc px : Option (Nat × Nat)} {D D' : SD} {F F' : List Nat} {i i' : XI}
theorem Ev.less {w1 : World} (a m : List Res) {r : Res} (e : Ev w rs w1 (a ++ r :: m)) : Ev w rs w1 (a ++ m) :=
  ⟨Held.drop a m e.held, e.fr, fun b hb => e.low b (by
    simp only [feetOf, List.flatMap_append, List.flatMap_cons, List.mem_append] at hb ⊢
    rcases hb with h | h
    · exact .inl h
    · exact .inr (.inr h))⟩
theorem pow0 (w : World) : (Res.pow none).On w := On.pow (pw := none) trivial
/-- The code's disk behind a call that cuts it off its power. -/
theorem Held.cdisk0 (h : Held w [Res.pow pc, Res.disk d D pc F]) (hr : Rep w' d D' none F') (f : Fr F w w') (hF : ∀ y ∈ F', y ∈ F ∨ w.heap.size ≤ y) : Ev w [Res.pow pc, Res.disk d D pc F] w' [Res.pow none, Res.disk d D' none F'] := by
  have hf : feetOf [Res.pow pc, Res.disk d D pc F] = pwF pc ++ F := by simp [feetOf, Res.pow, Res.disk]
  refine ⟨(Held.one (On.disk hr)).new (pow0 w') fun b hb r' hr' => by simp [Res.pow, pwF] at hb, f.mono (fun y hy => .inl ?_), fun b hb => ?_⟩
  · rw [hf]
    exact List.mem_append_right _ hy
  · have hb : b ∈ F' := by simpa [feetOf, Res.pow, Res.disk, pwF] using hb
    rw [hf]
    rcases hF b hb with h2 | h2
    · exact .inl (List.mem_append_right _ h2)
    · exact .inr h2
theorem ccrash_any (h : Held w (l ++ pr d (dOf X) pc F x Y px i)) (hl : X.L.length < 1000000) {v : Value} {ks : List Bool} {KB : Option Nat} (hk : Rc w 1 v ks.length (ks.map .bool) KB) (hKB : ∀ b, KB = some b → b ∉ F) (hkl : ks.length ≤ maxLen) :
    Calls Try.prog 12 #[.pointer (some ⟨d, 0, none⟩), v] w fun e w' => e = .returned (.int .i64 (if X.Dead then 60 else 0)) ∧ ∃ F', Ev w (l ++ pr d (dOf X) pc F x Y px i) w' (l ++ pr d (dOf (crX X ks)) none F' x Y px i) := by
  have hc := Held.prC h
  unfold crX
  cases hd : X.Dead with
  | true =>
    refine (crash_dead (Held.rep hc) v hd).mono ?_
    rintro e w' ⟨rfl, hr, f⟩
    exact ⟨rfl, F, Ev.prC (Ev.refl h) (Held.cdisk0 hc hr f (fun y hy => .inl hy))⟩
  | false =>
    refine (crash_ok (Held.rep hc) hd (by simpa [dOf] using hl) hk hKB hkl).mono ?_
    rintro e w' ⟨rfl, F', hr, f, hF⟩
    rw [dOf_crash] at hr
    rw [hd] at hr
    exact ⟨rfl, F', Ev.prC (Ev.refl h) (Held.cdisk0 hc hr f hF)⟩
theorem Ev.xps0 (h : Held w (Res.pow px :: xps x X px i)) {i' : XI} (ev : Ev w (xps x X px i) w' (xps x Y none i')) : Ev w (Res.pow px :: xps x X px i) w' (Res.pow none :: xps x Y none i') := by
  have e1 : Ev w (Res.pow px :: xps x X px i) w' (Res.pow px :: xps x Y none i') := by
    have := Ev.part [Res.pow px] [] (by rw [List.append_nil]; exact h) ev
    rw [List.append_nil] at this
    exact this
  exact ((Ev.less [] (xps x Y none i') e1)).new (Fr.refl _ _) (pow0 w') (fun b hb => by simp [Res.pow, pwF] at hb)
theorem dcrash_any (h : Held w (l ++ pr d D pc F x X px i)) (hX : XGood X) (hl : X.L.length < 1000000) {v : Value} {ks : List Bool} {KB : Option Nat} (hk : Rc w 1 v ks.length (ks.map .bool) KB) (hKB : ∀ b, KB = some b → b ∉ feetOf (xps x X px i)) (hkl : ks.length ≤ 9223372036854775807) :
    Calls Try.prog 24 #[.pointer (some ⟨x, 0, none⟩), v] w fun e w' => e = .returned (.int .i64 (if X.Dead then 60 else 0)) ∧ ∃ i', Ev w (l ++ pr d D pc F x X px i) w' (l ++ pr d D pc F x (crX X ks) none i') := by
  have hx := Held.prX h
  unfold crX
  cases hd : X.Dead with
  | true =>
    refine (xcrash_dead (Held.xpsOf hx) v hd).mono ?_
    rintro e w' ⟨rfl, ev⟩
    exact ⟨rfl, i, Ev.prX (Ev.refl h) (Ev.xps0 hx ev)⟩
  | false =>
    refine (xcrash_ok (Held.xpsOf hx) hd hX.pos hX.le (fun p hp => (hX.l512 p hp).2) hl hk hKB hkl).mono ?_
    rintro e w' ⟨rfl, i', ev⟩
    rw [hd] at ev
    exact ⟨rfl, i', Ev.prX (Ev.refl h) (Ev.xps0 hx ev)⟩
/-- A new power beside, to which both are wired. -/
def wiC (X : XD) (lf : Option Nat) : Int := if xdead X (mk 0 lf) then 60 else 0
def wiL (X : XD) (lf : Option Nat) (n : Nat) : Option Nat := if xdead X (mk 0 lf) then lf else some n
def wiB (X : XD) (lf : Option Nat) (pb p : Nat) : Nat := if xdead X (mk 0 lf) then pb else p
theorem cwire_any {p n : Nat} (h : Held w (l ++ Res.pow (some (p, n)) :: pr d (dOf X) (mk pb lf) F x Y px i)) :
    Calls Try.prog 20 #[.pointer (some ⟨d, 0, none⟩), .pointer (some ⟨p, 0, none⟩)] w fun e w' => e = .returned (.int .i64 (wiC X lf)) ∧
      Ev w (l ++ Res.pow (some (p, n)) :: pr d (dOf X) (mk pb lf) F x Y px i) w' (l ++ pr d (dOf X) (mk (wiB X lf pb p) (wiL X lf n)) F x Y px i) := by
  have h' : Held w ((l ++ [Res.pow (some (p, n))]) ++ pr d (dOf X) (mk pb lf) F x Y px i) := by rw [List.append_assoc]; exact h
  have hc := Held.prC h'
  have ha := ableN_mk X pb 0 lf
  unfold wiC wiL wiB
  cases hd : xdead X (mk 0 lf) with
  | true =>
    rw [hd] at ha
    refine (wire_err (Held.rep hc) (Held.powOk hc) ha p).mono ?_
    rintro e w' ⟨rfl, rfl⟩
    exact ⟨rfl, Ev.less l _ (Ev.refl h)⟩
  | false =>
    rw [hd] at ha
    refine (wire_ok (Held.rep hc) (Held.powOk hc) ha p n).mono ?_
    rintro e w' ⟨rfl, hr, f, hsz⟩
    refine ⟨rfl, ?_⟩
    have hdF : d ∈ F := by obtain ⟨kc, nc, lv, tv, k, n, L, T, hF, _⟩ := (Held.rep hc).open; rw [hF]; simp [feet]
    have f2 : Fr F w w' := f.mono (fun y hy => .inl (by simp at hy; rw [hy]; exact hdF))
    have h3 : Held w (l ++ [Res.pow (some (p, n)), Res.pow (mk pb lf), Res.disk d (dOf X) (mk pb lf) F] ++ (Res.pow px :: xps x Y px i)) := by rw [List.append_assoc]; exact h
    have h4 : Held w [Res.pow (some (p, n)), Res.pow (mk pb lf), Res.disk d (dOf X) (mk pb lf) F] := Held.part _ _ h3
    have e5 : Ev w [Res.pow (some (p, n)), Res.pow (mk pb lf), Res.disk d (dOf X) (mk pb lf) F] w' [Res.pow (some (p, n)), Res.pow (mk pb lf), Res.disk d (dOf X) (some (p, n)) F] :=
      (Ev.refl h4).at 2 rfl f2 (fun b hb => .inl hb) (On.disk hr) (fun b hb => .inl hb)
    have e6 := Ev.part l (Res.pow px :: xps x Y px i) h3 (Ev.pick e5 [0, 2] (by decide) (qs := [Res.pow (some (p, n)), Res.disk d (dOf X) (some (p, n)) F]) rfl)
    rw [List.append_assoc, List.append_assoc] at e6
    exact e6
theorem dwire_any {p n : Nat} (h : Held w (l ++ Res.pow (some (p, n)) :: pr d D pc F x X (mk qb lf) i)) :
    Calls Try.prog 21 #[.pointer (some ⟨x, 0, none⟩), .pointer (some ⟨p, 0, none⟩)] w fun e w' => e = .returned (.int .i64 (wiC X lf)) ∧
      Ev w (l ++ Res.pow (some (p, n)) :: pr d D pc F x X (mk qb lf) i) w' (l ++ pr d D pc F x X (mk (wiB X lf qb p) (wiL X lf n)) i) := by
  have h' : Held w ((l ++ [Res.pow (some (p, n))]) ++ pr d D pc F x X (mk qb lf) i) := by rw [List.append_assoc]; exact h
  have hx := Held.prX h'
  have e0 : xdead X (mk qb lf) = xdead X (mk 0 lf) := by unfold xdead; rw [offB_mk qb 0]
  unfold wiC wiL wiB
  cases hd : xdead X (mk 0 lf) with
  | true =>
    refine (xwire_dead hx _ (by rw [e0, hd])).mono ?_
    rintro e w' ⟨rfl, rfl⟩
    exact ⟨rfl, Ev.less l _ (Ev.refl h)⟩
  | false =>
    refine (xwire_ok hx (some (p, n)) (by rw [e0, hd])).mono ?_
    rintro e w' ⟨rfl, ev⟩
    refine ⟨rfl, ?_⟩
    have h3 : Held w ((l ++ Res.pow (some (p, n)) :: [Res.pow pc, Res.disk d D pc F] ++ [Res.pow (mk qb lf)]) ++ xps x X (mk qb lf) i ++ []) := by
      rw [List.append_nil]
      simpa [pr] using h
    have e4 := Ev.part _ _ h3 ev
    rw [List.append_nil, List.append_nil] at e4
    have e5 : Ev w (l ++ Res.pow (some (p, n)) :: pr d D pc F x X (mk qb lf) i) w' (l ++ [Res.pow (some (p, n)), Res.pow pc, Res.disk d D pc F, Res.pow (mk qb lf)] ++ xps x X (some (p, n)) i) := by
      have a1 : l ++ Res.pow (some (p, n)) :: pr d D pc F x X (mk qb lf) i = l ++ Res.pow (some (p, n)) :: [Res.pow pc, Res.disk d D pc F] ++ [Res.pow (mk qb lf)] ++ xps x X (mk qb lf) i := by simp [pr]
      have a2 : l ++ [Res.pow (some (p, n)), Res.pow pc, Res.disk d D pc F, Res.pow (mk qb lf)] ++ xps x X (some (p, n)) i = l ++ Res.pow (some (p, n)) :: [Res.pow pc, Res.disk d D pc F] ++ [Res.pow (mk qb lf)] ++ xps x X (some (p, n)) i := by simp
      rw [a1, a2]
      exact e4
    have hh : Held w' (l ++ [Res.pow (some (p, n)), Res.pow pc, Res.disk d D pc F, Res.pow (mk qb lf)] ++ xps x X (some (p, n)) i) := e5.held
    have h6 : Held w' [Res.pow (some (p, n)), Res.pow pc, Res.disk d D pc F, Res.pow (mk qb lf)] := Held.part _ _ hh
    have e7 := Ev.then _ _ e5 (Ev.pick (Ev.refl h6) [1, 2, 0] (by decide) (qs := [Res.pow pc, Res.disk d D pc F, Res.pow (some (p, n))]) rfl)
    have a3 : l ++ pr d D pc F x X (mk p (some n)) i = l ++ [Res.pow pc, Res.disk d D pc F, Res.pow (some (p, n))] ++ xps x X (some (p, n)) i := by simp [pr, mk]
    simp only [Bool.false_eq_true, if_false]
    rw [a3]
    exact e7
end
end Go.Proofs.Ytflapddkeeiieaa

/- Layer 6, the statements' own function 'does': one call of both. -/
namespace Go.Proofs.Ytflapddkeeiieaa
open Go Go.Xr Go.RowKit
set_option linter.unusedVariables false
set_option linter.unusedSimpArgs false
theorem stT : AggT Try.prog 32 5 := ⟨_, Try.underlying32, rfl, rfl⟩
theorem bytesS_le (s : StepD) (h : s.Text.size ≤ 2000) : (bytesS s).size ≤ 2000 := by
  unfold bytesS
  split
  · show (fillL s.C s.I).toArray.size ≤ 2000
    rw [List.size_toArray, fillL_len]
    decide
  · exact h
section
variable {w : World} {d x pb qb : Nat} {X : XD} {lf : Option Nat} {F : List Nat} {i : XI} {I : Int} {C : UInt8} {T : ByteArray} {K : Value}
theorem Ev.unbox {w w' : World} {rs rs' : List Res} {b : Nat} {cs : List Value} (e : Ev w rs w' (Res.blk b cs :: rs')) : Ev w rs w' rs' := Ev.less [] rs' e
theorem boxed {w w1 : World} {rs : List Res} {cs : List Value} (h : Held w rs) (f : Fr [] w w1) (hb : Blk w1 w.heap.size cs) : Ev w rs w1 ([Res.blk w.heap.size cs] ++ rs) := (Ev.refl h).new f (Res.On.blk hb) (fun b hb => by simp [Res.blk] at hb; omega)
theorem boxAt {w1 : World} {rs : List Res} {b : Nat} {cs : List Value} (h : Held w1 ([Res.blk b cs] ++ rs)) : Blk w1 b cs := h.blkAt 0 rfl
set_option maxHeartbeats 4000000 in
set_option maxRecDepth 20000 in
theorem does_write (h : Held w (pr d (dOf X) (mk pb lf) F x X (mk qb lf) i)) (hX : XGood X) (hl : X.L.length < 1000000) (ht : X.Trace.length < 1000000) (h1 : -9223372036854775808 ≤ I) (h2 : I ≤ 9223372036854775807) (hT : T.size ≤ 2000) (S : ByteArray) (hS : bytesS ⟨0, I, C, T, K, [], none⟩ = S) :
    Calls Try.prog 17 #[.pointer (some ⟨d, 0, none⟩), .pointer (some ⟨x, 0, none⟩), .agg #[.int .i64 0, .int .i64 I, bt C, .string T, K]] w fun e w' => e = .returned (.bool true) ∧ ∃ F' i', Ev w (pr d (dOf X) (mk pb lf) F x X (mk qb lf) i) w' (pr d (dOf (wrX X lf I S)) (mk pb (wrL X lf I S)) F' x (wrX X lf I S) (mk qb (wrL X lf I S)) i') := by
  have hby := fun w1 : World => bytes_any (w := w1) ⟨0, I, C, T, K, [], none⟩ h1 h2 K
  have hSl := bytesS_le ⟨0, I, C, T, K, [], none⟩ hT
  rw [hS] at hby hSl
  have HH := hid h
  have HX := hid hX
  have HW := hid fun (w1 : World) (l : List Res) (F0 : List Nat) (h : Held w1 (l ++ pr d (dOf X) (mk pb lf) F0 x X (mk qb lf) i)) => cwrite_any h hX hl ht I h1 h2 S (by omega)
  have HV := hid fun (w1 : World) (l : List Res) (D0 : SD) (p0 : Option (Nat × Nat)) (F0 : List Nat) (h : Held w1 (l ++ pr d D0 p0 F0 x X (mk qb lf) i)) => dwrite_any h hX hl ht I S (by omega)
  generalize wrC X lf I S = c at *
  generalize wrX X lf I S = X' at *
  generalize wrL X lf I S = lf' at *
  clear h hX hS hSl
  go_enter Try.func17, Try.ntmps17
  go_wp2_with (refine wpList_box rfl _ _ rfl [.int .i64 0, .int .i64 I, bt C, .string T, K] rfl ?_; intro w1 f1 hlt1 hb1; have k0 := hb1.cell 0; simp only [World.size_alloc, World.size_drew, Act.put, List.setIfInBounds_toArray, List.set_cons_succ, List.set_cons_zero])
  have e1 := boxed HH.out f1 hb1
  generalize w.heap.size = b at *
  have e1d := e1.step (Fr.refl [] w1).drew
  have hbd := boxAt e1d.held
  clear k0 e1 f1 hlt1 HH
  refine wp_region_D (fun w' => Blk w' b [.int .i64 0, .int .i64 I, bt C, .string T, K]) false [] (by kernel_rfl) ?_
  refine WD.pure [3] (by kernel_rfl) hbd ?_
  simp only [pick, List.toList_toArray, List.map_cons, List.map_nil, List.getD_cons_succ, List.getD_cons_zero]
  repeat (first | (refine quiet_load_1R (by rfl) _ _ rfl rfl (.int .i64 I) (fun w0 h => h.cell 1) _ Try.underlying3 rfl ?_; simp only [World.size_alloc, World.size_drew, Act.put, List.setIfInBounds_toArray, List.set_cons_succ, List.set_cons_zero]) | (refine quiet_load_ag rfl _ _ rfl rfl [.int .i64 0, .int .i64 I, bt C, .string T, K] hbd stT rfl rfl ?_; simp only [World.size_alloc, World.size_drew, Act.put, List.setIfInBounds_toArray, List.set_cons_succ, List.set_cons_zero]) | (refine quiet_load_agS rfl _ _ rfl rfl [.int .i64 0, .int .i64 I, bt C, .string T, K] (fun w0 h => h) stT rfl rfl ?_; simp only [World.size_alloc, World.size_drew, Act.put, List.setIfInBounds_toArray, List.set_cons_succ, List.set_cons_zero]) | go_big_quiet_step (fail))
  refine wpQuiet_nil ?_
  refine WD.free [0, 1, 6, 7] (by kernel_rfl) hbd ?_
  simp only [pick, List.toList_toArray, List.map_cons, List.map_nil, List.getD_cons_succ, List.getD_cons_zero]
  repeat (first | (refine quiet_load_1R (by rfl) _ _ rfl rfl (.int .i64 I) (fun w0 h => h.cell 1) _ Try.underlying3 rfl ?_; simp only [World.size_alloc, World.size_drew, Act.put, List.setIfInBounds_toArray, List.set_cons_succ, List.set_cons_zero]) | (refine quiet_load_ag rfl _ _ rfl rfl [.int .i64 0, .int .i64 I, bt C, .string T, K] hbd stT rfl rfl ?_; simp only [World.size_alloc, World.size_drew, Act.put, List.setIfInBounds_toArray, List.set_cons_succ, List.set_cons_zero]) | (refine quiet_load_agS rfl _ _ rfl rfl [.int .i64 0, .int .i64 I, bt C, .string T, K] (fun w0 h => h) stT rfl rfl ?_; simp only [World.size_alloc, World.size_drew, Act.put, List.setIfInBounds_toArray, List.set_cons_succ, List.set_cons_zero]) | go_big_quiet_step (fail))
  refine wpQuiet_nil ?_
  refine WD.held [2, 8, 9] (by kernel_rfl) hbd ?_
  simp only [pick, List.toList_toArray, List.map_cons, List.map_nil, List.getD_cons_succ, List.getD_cons_zero]
  repeat (first | (refine quiet_load_1R (by rfl) _ _ rfl rfl (.int .i64 I) (fun w0 h => h.cell 1) _ Try.underlying3 rfl ?_; simp only [World.size_alloc, World.size_drew, Act.put, List.setIfInBounds_toArray, List.set_cons_succ, List.set_cons_zero]) | (refine quiet_load_ag rfl _ _ rfl rfl [.int .i64 0, .int .i64 I, bt C, .string T, K] hbd stT rfl rfl ?_; simp only [World.size_alloc, World.size_drew, Act.put, List.setIfInBounds_toArray, List.set_cons_succ, List.set_cons_zero]) | (refine quiet_load_agS rfl _ _ rfl rfl [.int .i64 0, .int .i64 I, bt C, .string T, K] (fun w0 h => h) stT rfl rfl ?_; simp only [World.size_alloc, World.size_drew, Act.put, List.setIfInBounds_toArray, List.set_cons_succ, List.set_cons_zero]) | go_big_quiet_step (fail))
  refine wpQuiet_nil ?_
  refine WD.eff 4 (by kernel_rfl) ?_
  simp only [pick, List.toList_toArray, List.map_cons, List.map_nil, List.getD_cons_succ, List.getD_cons_zero]
  go_wp2_with (go_at_call 41; refine (hby _).mono ?_; rintro e w5 ⟨rfl, f5⟩)
  have e5 := e1d.step f5
  have b5 := boxAt e5.held
  try refine wpList_nil ?_
  refine AfterD.on b5 (by kernel_rfl) ?_
  try simp only [World.size_alloc, World.size_drew, Act.put, List.setIfInBounds_toArray, List.set_cons_succ, List.set_cons_zero]
  refine WD.eff 5 (by kernel_rfl) ?_
  simp only [pick, List.toList_toArray, List.map_cons, List.map_nil, List.getD_cons_succ, List.getD_cons_zero]
  go_wp2_with (go_at_call 11; refine (HW.out _ _ _ e5.held).mono ?_; rintro e w6 ⟨rfl, F6, v6⟩)
  have e6 := e5.trans v6
  have b6 := boxAt e6.held
  try refine wpList_nil ?_
  refine AfterD.on b6 (by kernel_rfl) ?_
  try simp only [World.size_alloc, World.size_drew, Act.put, List.setIfInBounds_toArray, List.set_cons_succ, List.set_cons_zero]
  refine WD.eff 10 (by kernel_rfl) ?_
  simp only [pick, List.toList_toArray, List.map_cons, List.map_nil, List.getD_cons_succ, List.getD_cons_zero]
  go_wp2_with (go_at_call 41; refine (hby _).mono ?_; rintro e w7 ⟨rfl, f7⟩)
  have e7 := e6.step f7
  have b7 := boxAt e7.held
  try refine wpList_nil ?_
  refine AfterD.on b7 (by kernel_rfl) ?_
  try simp only [World.size_alloc, World.size_drew, Act.put, List.setIfInBounds_toArray, List.set_cons_succ, List.set_cons_zero]
  refine WD.eff 11 (by kernel_rfl) ?_
  simp only [pick, List.toList_toArray, List.map_cons, List.map_nil, List.getD_cons_succ, List.getD_cons_zero]
  go_wp2_with (go_at_call 42; refine (HV.out _ _ _ _ _ e7.held).mono ?_; rintro e w8 ⟨rfl, i8, v8⟩)
  have e8 := e7.trans v8
  have b8 := boxAt e8.held
  try refine wpList_nil ?_
  refine AfterD.on b8 (by kernel_rfl) ?_
  try simp only [World.size_alloc, World.size_drew, Act.put, List.setIfInBounds_toArray, List.set_cons_succ, List.set_cons_zero]
  refine WD.pure [12, 13] (by kernel_rfl) b8 ?_
  simp only [pick, List.toList_toArray, List.map_cons, List.map_nil, List.getD_cons_succ, List.getD_cons_zero]
  repeat (first | (refine quiet_load_1R (by rfl) _ _ rfl rfl (.int .i64 I) (fun w0 h => h.cell 1) _ Try.underlying3 rfl ?_; simp only [World.size_alloc, World.size_drew, Act.put, List.setIfInBounds_toArray, List.set_cons_succ, List.set_cons_zero]) | (refine quiet_load_ag rfl _ _ rfl rfl [.int .i64 0, .int .i64 I, bt C, .string T, K] hbd stT rfl rfl ?_; simp only [World.size_alloc, World.size_drew, Act.put, List.setIfInBounds_toArray, List.set_cons_succ, List.set_cons_zero]) | (refine quiet_load_agS rfl _ _ rfl rfl [.int .i64 0, .int .i64 I, bt C, .string T, K] (fun w0 h => h) stT rfl rfl ?_; simp only [World.size_alloc, World.size_drew, Act.put, List.setIfInBounds_toArray, List.set_cons_succ, List.set_cons_zero]) | go_big_quiet_step (fail))
  refine wpQuiet_nil ?_
  refine WD.done (by kernel_rfl) ?_
  go_wp2_with fail
  go_ret
  exact ⟨by simp, F6, i8, Ev.unbox e8⟩
set_option maxHeartbeats 4000000 in
theorem does_read (h : Held w (pr d (dOf X) (mk pb lf) F x X (mk qb lf) i)) (hX : XGood X) (hl : X.L.length < 1000000) (h1 : -9223372036854775808 ≤ I) (h2 : I ≤ 9223372036854775807) :
    Calls Try.prog 17 #[.pointer (some ⟨d, 0, none⟩), .pointer (some ⟨x, 0, none⟩), .agg #[.int .i64 1, .int .i64 I, bt C, .string T, K]] w fun e w' => e = .returned (.bool true) ∧ Fr [] w w' := by
  have HR := hid fun (w1 : World) (f : Fr [] w w1) => cread_any (l := []) (h.keep0 f) hX I h1 h2
  have HS := hid fun (w1 : World) (f : Fr [] w w1) => xread_any (l := []) (h.keep0 f) hX hl I
  generalize rdS X lf I = rs at *
  generalize rdC X lf I = rc at *
  clear h hX
  go_enter Try.func17, Try.ntmps17
  go_wp2_with (refine wpList_box rfl _ _ rfl [.int .i64 1, .int .i64 I, bt C, .string T, K] rfl ?_; intro w1 f1 hlt1 hb1; have k0 := hb1.cell 0; have k1 := hb1.cell 1; simp only [World.size_alloc, World.size_drew, Act.put, List.setIfInBounds_toArray, List.set_cons_succ, List.set_cons_zero])
  have hr := HR.out _ f1
  have hs := HS.out _ f1
  go_wp2_with (first
    | (go_at_call 14; refine hr.mono ?_; rintro e w5 ⟨rfl, hw⟩; subst hw)
    | (go_at_call 43; refine hs.mono ?_; rintro e w5 ⟨rfl, hw⟩; subst hw))
  go_ret
  exact ⟨by simp, f1⟩
set_option maxHeartbeats 4000000 in
theorem does_flush (h : Held w (pr d (dOf X) (mk pb lf) F x X (mk qb lf) i)) (hX : XGood X) (hl : X.L.length < 1000000) (ht : X.Trace.length < 1000000) :
    Calls Try.prog 17 #[.pointer (some ⟨d, 0, none⟩), .pointer (some ⟨x, 0, none⟩), .agg #[.int .i64 2, .int .i64 I, bt C, .string T, K]] w fun e w' => e = .returned (.bool true) ∧ ∃ F' i', Ev w (pr d (dOf X) (mk pb lf) F x X (mk qb lf) i) w' (pr d (dOf (flX X lf)) (mk pb (flL X lf)) F' x (flX X lf) (mk qb (flL X lf)) i') := by
  have HW := hid fun (w1 : World) (l : List Res) (F0 : List Nat) (h : Held w1 (l ++ pr d (dOf X) (mk pb lf) F0 x X (mk qb lf) i)) => cflush_any h hX ht
  have HV := hid fun (w1 : World) (l : List Res) (D0 : SD) (p0 : Option (Nat × Nat)) (F0 : List Nat) (h : Held w1 (l ++ pr d D0 p0 F0 x X (mk qb lf) i)) => dflush_any h hX hl ht
  have HH := hid h
  generalize flC X lf = c at *
  generalize flX X lf = X' at *
  generalize flL X lf = lf' at *
  clear h hX
  go_enter Try.func17, Try.ntmps17
  go_wp2_with (refine wpList_box rfl _ _ rfl [.int .i64 2, .int .i64 I, bt C, .string T, K] rfl ?_; intro w1 f1 hlt1 hb1; have k0 := hb1.cell 0; have k1 := hb1.cell 1; simp only [World.size_alloc, World.size_drew, Act.put, List.setIfInBounds_toArray, List.set_cons_succ, List.set_cons_zero])
  have e1 := boxed HH.out f1 hb1
  clear hb1 f1 hlt1
  go_wp2_with (first
    | (go_at_call 9; refine (HW.out _ _ _ e1.held).mono ?_; rintro e w6 ⟨rfl, F6, v6⟩; have e6 := e1.trans v6)
    | (go_at_call 25; refine (HV.out _ _ _ _ _ e6.held).mono ?_; rintro e w8 ⟨rfl, i8, v8⟩; have e8 := e6.trans v8))
  go_ret
  exact ⟨by simp, F6, i8, Ev.unbox e8⟩
set_option maxHeartbeats 4000000 in
theorem does_fail (h : Held w (pr d (dOf X) (mk pb lf) F x X (mk qb lf) i)) (hX : XGood X) :
    Calls Try.prog 17 #[.pointer (some ⟨d, 0, none⟩), .pointer (some ⟨x, 0, none⟩), .agg #[.int .i64 4, .int .i64 I, bt C, .string T, K]] w fun e w' => e = .returned (.bool true) ∧ ∃ F' i', Ev w (pr d (dOf X) (mk pb lf) F x X (mk qb lf) i) w' (pr d (dOf (faX X)) (mk pb lf) F' x (faX X) (mk qb lf) i') := by
  have HW := hid fun (w1 : World) (l : List Res) (F0 : List Nat) (h : Held w1 (l ++ pr d (dOf X) (mk pb lf) F0 x X (mk qb lf) i)) => cfail_any h
  have HV := hid fun (w1 : World) (l : List Res) (D0 : SD) (p0 : Option (Nat × Nat)) (F0 : List Nat) (h : Held w1 (l ++ pr d D0 p0 F0 x X (mk qb lf) i)) => dfail_any h hX
  have HH := hid h
  generalize faX X = X' at *
  clear h hX
  go_enter Try.func17, Try.ntmps17
  go_wp2_with (refine wpList_box rfl _ _ rfl [.int .i64 4, .int .i64 I, bt C, .string T, K] rfl ?_; intro w1 f1 hlt1 hb1; have k0 := hb1.cell 0; have k1 := hb1.cell 1; simp only [World.size_alloc, World.size_drew, Act.put, List.setIfInBounds_toArray, List.set_cons_succ, List.set_cons_zero])
  have e1 := boxed HH.out f1 hb1
  clear hb1 f1 hlt1
  go_wp2_with (first
    | (go_at_call 30; refine (HW.out _ _ _ e1.held).mono ?_; rintro e w6 ⟨rfl, F6, v6⟩; have e6 := e1.trans v6)
    | (go_at_call 44; refine (HV.out _ _ _ _ _ e6.held).mono ?_; rintro e w8 ⟨rfl, i8, v8⟩; have e8 := e6.trans v8))
  go_ret
  exact ⟨rfl, F6, i8, Ev.unbox e8⟩
set_option maxHeartbeats 4000000 in
theorem does_replace (h : Held w (pr d (dOf X) (mk pb lf) F x X (mk qb lf) i)) :
    Calls Try.prog 17 #[.pointer (some ⟨d, 0, none⟩), .pointer (some ⟨x, 0, none⟩), .agg #[.int .i64 5, .int .i64 I, bt C, .string T, K]] w fun e w' => e = .returned (.bool true) ∧ ∃ F' i', Ev w (pr d (dOf X) (mk pb lf) F x X (mk qb lf) i) w' (pr d (dOf { X with Dead := false }) (mk pb lf) F' x { X with Dead := false } (mk qb lf) i') := by
  have HW := hid fun (w1 : World) (l : List Res) (F0 : List Nat) (h : Held w1 (l ++ pr d (dOf X) (mk pb lf) F0 x X (mk qb lf) i)) => creplace_any h
  have HV := hid fun (w1 : World) (l : List Res) (D0 : SD) (p0 : Option (Nat × Nat)) (F0 : List Nat) (h : Held w1 (l ++ pr d D0 p0 F0 x X (mk qb lf) i)) => dreplace_any h
  have HH := hid h
  generalize (if X.Dead then (0 : Int) else 3) = c at *
  generalize ({ X with Dead := false } : XD) = X' at *
  clear h
  go_enter Try.func17, Try.ntmps17
  go_wp2_with (refine wpList_box rfl _ _ rfl [.int .i64 5, .int .i64 I, bt C, .string T, K] rfl ?_; intro w1 f1 hlt1 hb1; have k0 := hb1.cell 0; have k1 := hb1.cell 1; simp only [World.size_alloc, World.size_drew, Act.put, List.setIfInBounds_toArray, List.set_cons_succ, List.set_cons_zero])
  have e1 := boxed HH.out f1 hb1
  clear hb1 f1 hlt1
  go_wp2_with (first
    | (go_at_call 31; refine (HW.out _ _ _ e1.held).mono ?_; rintro e w6 ⟨rfl, v6⟩; have e6 := e1.trans v6)
    | (go_at_call 45; refine (HV.out _ _ _ _ _ e6.held).mono ?_; rintro e w8 ⟨rfl, v8⟩; have e8 := e6.trans v8))
  go_ret
  exact ⟨by simp, F, i, Ev.unbox e8⟩
set_option maxHeartbeats 4000000 in
set_option maxRecDepth 20000 in
theorem does_tamper (h : Held w (pr d (dOf X) (mk pb lf) F x X (mk qb lf) i)) (hX : XGood X) (hl : X.L.length < 1000000) (h1 : -9223372036854775808 ≤ I) (h2 : I ≤ 9223372036854775807) (hT : T.size ≤ 2000) (S : ByteArray) (hS : bytesS ⟨6, I, C, T, K, [], none⟩ = S) :
    Calls Try.prog 17 #[.pointer (some ⟨d, 0, none⟩), .pointer (some ⟨x, 0, none⟩), .agg #[.int .i64 6, .int .i64 I, bt C, .string T, K]] w fun e w' => e = .returned (.bool true) ∧ ∃ F' i', Ev w (pr d (dOf X) (mk pb lf) F x X (mk qb lf) i) w' (pr d (dOf (taX X lf I S)) (mk pb lf) F' x (taX X lf I S) (mk qb lf) i') := by
  have hby := fun w1 : World => bytes_any (w := w1) ⟨6, I, C, T, K, [], none⟩ h1 h2 K
  have hSl := bytesS_le ⟨6, I, C, T, K, [], none⟩ hT
  rw [hS] at hby hSl
  have HH := hid h
  have HX := hid hX
  have HW := hid fun (w1 : World) (l : List Res) (F0 : List Nat) (h : Held w1 (l ++ pr d (dOf X) (mk pb lf) F0 x X (mk qb lf) i)) => ctamper_any h hX hl I h1 h2 S (by omega)
  have HV := hid fun (w1 : World) (l : List Res) (D0 : SD) (p0 : Option (Nat × Nat)) (F0 : List Nat) (h : Held w1 (l ++ pr d D0 p0 F0 x X (mk qb lf) i)) => dtamper_any h hX hl I S (by omega)
  generalize taC X lf I S = c at *
  generalize taX X lf I S = X' at *
  clear h hX hS hSl
  go_enter Try.func17, Try.ntmps17
  go_wp2_with (refine wpList_box rfl _ _ rfl [.int .i64 6, .int .i64 I, bt C, .string T, K] rfl ?_; intro w1 f1 hlt1 hb1; have k0 := hb1.cell 0; simp only [World.size_alloc, World.size_drew, Act.put, List.setIfInBounds_toArray, List.set_cons_succ, List.set_cons_zero])
  have e1 := boxed HH.out f1 hb1
  generalize w.heap.size = b at *
  have e1d := e1.step (Fr.refl [] w1).drew
  have hbd := boxAt e1d.held
  clear k0 e1 f1 hlt1 HH
  refine wp_region_D (fun w' => Blk w' b [.int .i64 6, .int .i64 I, bt C, .string T, K]) false [] (by kernel_rfl) ?_
  refine WD.pure [3] (by kernel_rfl) hbd ?_
  simp only [pick, List.toList_toArray, List.map_cons, List.map_nil, List.getD_cons_succ, List.getD_cons_zero]
  repeat (first | (refine quiet_load_1R (by rfl) _ _ rfl rfl (.int .i64 I) (fun w0 h => h.cell 1) _ Try.underlying3 rfl ?_; simp only [World.size_alloc, World.size_drew, Act.put, List.setIfInBounds_toArray, List.set_cons_succ, List.set_cons_zero]) | (refine quiet_load_ag rfl _ _ rfl rfl [.int .i64 6, .int .i64 I, bt C, .string T, K] hbd stT rfl rfl ?_; simp only [World.size_alloc, World.size_drew, Act.put, List.setIfInBounds_toArray, List.set_cons_succ, List.set_cons_zero]) | (refine quiet_load_agS rfl _ _ rfl rfl [.int .i64 6, .int .i64 I, bt C, .string T, K] (fun w0 h => h) stT rfl rfl ?_; simp only [World.size_alloc, World.size_drew, Act.put, List.setIfInBounds_toArray, List.set_cons_succ, List.set_cons_zero]) | go_big_quiet_step (fail))
  refine wpQuiet_nil ?_
  refine WD.free [0, 1, 6, 7] (by kernel_rfl) hbd ?_
  simp only [pick, List.toList_toArray, List.map_cons, List.map_nil, List.getD_cons_succ, List.getD_cons_zero]
  repeat (first | (refine quiet_load_1R (by rfl) _ _ rfl rfl (.int .i64 I) (fun w0 h => h.cell 1) _ Try.underlying3 rfl ?_; simp only [World.size_alloc, World.size_drew, Act.put, List.setIfInBounds_toArray, List.set_cons_succ, List.set_cons_zero]) | (refine quiet_load_ag rfl _ _ rfl rfl [.int .i64 6, .int .i64 I, bt C, .string T, K] hbd stT rfl rfl ?_; simp only [World.size_alloc, World.size_drew, Act.put, List.setIfInBounds_toArray, List.set_cons_succ, List.set_cons_zero]) | (refine quiet_load_agS rfl _ _ rfl rfl [.int .i64 6, .int .i64 I, bt C, .string T, K] (fun w0 h => h) stT rfl rfl ?_; simp only [World.size_alloc, World.size_drew, Act.put, List.setIfInBounds_toArray, List.set_cons_succ, List.set_cons_zero]) | go_big_quiet_step (fail))
  refine wpQuiet_nil ?_
  refine WD.held [2, 8, 9] (by kernel_rfl) hbd ?_
  simp only [pick, List.toList_toArray, List.map_cons, List.map_nil, List.getD_cons_succ, List.getD_cons_zero]
  repeat (first | (refine quiet_load_1R (by rfl) _ _ rfl rfl (.int .i64 I) (fun w0 h => h.cell 1) _ Try.underlying3 rfl ?_; simp only [World.size_alloc, World.size_drew, Act.put, List.setIfInBounds_toArray, List.set_cons_succ, List.set_cons_zero]) | (refine quiet_load_ag rfl _ _ rfl rfl [.int .i64 6, .int .i64 I, bt C, .string T, K] hbd stT rfl rfl ?_; simp only [World.size_alloc, World.size_drew, Act.put, List.setIfInBounds_toArray, List.set_cons_succ, List.set_cons_zero]) | (refine quiet_load_agS rfl _ _ rfl rfl [.int .i64 6, .int .i64 I, bt C, .string T, K] (fun w0 h => h) stT rfl rfl ?_; simp only [World.size_alloc, World.size_drew, Act.put, List.setIfInBounds_toArray, List.set_cons_succ, List.set_cons_zero]) | go_big_quiet_step (fail))
  refine wpQuiet_nil ?_
  refine WD.eff 4 (by kernel_rfl) ?_
  simp only [pick, List.toList_toArray, List.map_cons, List.map_nil, List.getD_cons_succ, List.getD_cons_zero]
  go_wp2_with (go_at_call 41; refine (hby _).mono ?_; rintro e w5 ⟨rfl, f5⟩)
  have e5 := e1d.step f5
  have b5 := boxAt e5.held
  try refine wpList_nil ?_
  refine AfterD.on b5 (by kernel_rfl) ?_
  try simp only [World.size_alloc, World.size_drew, Act.put, List.setIfInBounds_toArray, List.set_cons_succ, List.set_cons_zero]
  refine WD.eff 5 (by kernel_rfl) ?_
  simp only [pick, List.toList_toArray, List.map_cons, List.map_nil, List.getD_cons_succ, List.getD_cons_zero]
  go_wp2_with (go_at_call 32; refine (HW.out _ _ _ e5.held).mono ?_; rintro e w6 ⟨rfl, v6⟩)
  have e6 := e5.trans v6
  have b6 := boxAt e6.held
  try refine wpList_nil ?_
  refine AfterD.on b6 (by kernel_rfl) ?_
  try simp only [World.size_alloc, World.size_drew, Act.put, List.setIfInBounds_toArray, List.set_cons_succ, List.set_cons_zero]
  refine WD.eff 10 (by kernel_rfl) ?_
  simp only [pick, List.toList_toArray, List.map_cons, List.map_nil, List.getD_cons_succ, List.getD_cons_zero]
  go_wp2_with (go_at_call 41; refine (hby _).mono ?_; rintro e w7 ⟨rfl, f7⟩)
  have e7 := e6.step f7
  have b7 := boxAt e7.held
  try refine wpList_nil ?_
  refine AfterD.on b7 (by kernel_rfl) ?_
  try simp only [World.size_alloc, World.size_drew, Act.put, List.setIfInBounds_toArray, List.set_cons_succ, List.set_cons_zero]
  refine WD.eff 11 (by kernel_rfl) ?_
  simp only [pick, List.toList_toArray, List.map_cons, List.map_nil, List.getD_cons_succ, List.getD_cons_zero]
  go_wp2_with (go_at_call 46; refine (HV.out _ _ _ _ _ e7.held).mono ?_; rintro e w8 ⟨rfl, v8⟩)
  have e8 := e7.trans v8
  have b8 := boxAt e8.held
  try refine wpList_nil ?_
  refine AfterD.on b8 (by kernel_rfl) ?_
  try simp only [World.size_alloc, World.size_drew, Act.put, List.setIfInBounds_toArray, List.set_cons_succ, List.set_cons_zero]
  refine WD.pure [12, 13] (by kernel_rfl) b8 ?_
  simp only [pick, List.toList_toArray, List.map_cons, List.map_nil, List.getD_cons_succ, List.getD_cons_zero]
  repeat (first | (refine quiet_load_1R (by rfl) _ _ rfl rfl (.int .i64 I) (fun w0 h => h.cell 1) _ Try.underlying3 rfl ?_; simp only [World.size_alloc, World.size_drew, Act.put, List.setIfInBounds_toArray, List.set_cons_succ, List.set_cons_zero]) | (refine quiet_load_ag rfl _ _ rfl rfl [.int .i64 6, .int .i64 I, bt C, .string T, K] hbd stT rfl rfl ?_; simp only [World.size_alloc, World.size_drew, Act.put, List.setIfInBounds_toArray, List.set_cons_succ, List.set_cons_zero]) | (refine quiet_load_agS rfl _ _ rfl rfl [.int .i64 6, .int .i64 I, bt C, .string T, K] (fun w0 h => h) stT rfl rfl ?_; simp only [World.size_alloc, World.size_drew, Act.put, List.setIfInBounds_toArray, List.set_cons_succ, List.set_cons_zero]) | go_big_quiet_step (fail))
  refine wpQuiet_nil ?_
  refine WD.done (by kernel_rfl) ?_
  go_wp2_with fail
  go_ret
  exact ⟨by simp, F, i, Ev.unbox e8⟩
set_option maxHeartbeats 4000000 in
theorem does_else (h : Held w (pr d (dOf X) (mk pb lf) F x X (mk qb lf) i)) (hX : XGood X) (hl : X.L.length < 1000000) (ht : X.Trace.length < 1000000) (n : Int) (hn : n ≠ 0 ∧ n ≠ 1 ∧ n ≠ 2 ∧ n ≠ 3 ∧ n ≠ 4 ∧ n ≠ 5 ∧ n ≠ 6 ∧ n ≠ 8) :
    Calls Try.prog 17 #[.pointer (some ⟨d, 0, none⟩), .pointer (some ⟨x, 0, none⟩), .agg #[.int .i64 n, .int .i64 I, bt C, .string T, K]] w fun e w' => e = .returned (.bool true) ∧ Fr [] w w' := by
  have HR := hid fun (w1 : World) (f : Fr [] w w1) => stands_any (l := []) (h.keep0 f) hX hl ht
  obtain ⟨n0, n1, n2, n3, n4, n5, n6, n8⟩ := hn
  have m0 : (n == 0) = false := by simpa using n0
  have m1 : (n == 1) = false := by simpa using n1
  have m2 : (n == 2) = false := by simpa using n2
  have m3 : (n == 3) = false := by simpa using n3
  have m4 : (n == 4) = false := by simpa using n4
  have m5 : (n == 5) = false := by simpa using n5
  have m6 : (n == 6) = false := by simpa using n6
  have m8 : (n == 8) = false := by simpa using n8
  clear h hX hl ht
  go_enter Try.func17, Try.ntmps17
  go_wp2_with (refine wpList_box rfl _ _ rfl [.int .i64 n, .int .i64 I, bt C, .string T, K] rfl ?_; intro w1 f1 hlt1 hb1; have k0 := hb1.cell 0; have k1 := hb1.cell 1; simp only [World.size_alloc, World.size_drew, Act.put, List.setIfInBounds_toArray, List.set_cons_succ, List.set_cons_zero])
  have hr := HR.out _ f1
  go_wp2_with (go_at_call 18; refine hr.mono ?_; rintro e w5 ⟨rfl, f5⟩)
  go_ret
  exact ⟨rfl, f1.trans' f5⟩
end
end Go.Proofs.Ytflapddkeeiieaa

/- Layer 6, the statements' own function 'does': Crash, Wire. -/
namespace Go.Proofs.Ytflapddkeeiieaa
open Go Go.Xr Go.RowKit
set_option linter.unusedVariables false
set_option linter.unusedSimpArgs false
theorem Ev.perm {w w1 : World} {rs a b : List Res} (e : Ev w rs w1 a) (p : a.Perm b) : Ev w rs w1 b :=
  ⟨e.held.perm p, e.fr, fun x hx => e.low x ((p.flatMap_right _).mem_iff.2 hx)⟩
theorem newPower_int (w : World) (I : Int) (h1 : -9223372036854775808 ≤ I) (h2 : I ≤ 9223372036854775807) : Calls Try.prog 19 #[.int .i64 I] w fun e w' => e = .returned (.pointer (some ⟨w.heap.size, 0, none⟩)) ∧ Blk w' w.heap.size [.int .i64 (I.toNat : Int)] ∧ Fr [] w w' := by
  have e0 : ((I.toNat : Nat) : Int) = max I 0 := by omega
  rw [e0]
  clear e0
  go_enter Try.func19, Try.ntmps19
  go_wp2
  go_ret
  exact ⟨rfl, Blk.alloc w [.int .i64 (max I 0)] _, (Fr.refl _ _).alloc _⟩
section
variable {w : World} {d x pb qb : Nat} {X : XD} {lf : Option Nat} {F : List Nat} {i : XI} {I : Int} {C : UInt8} {T : ByteArray} {K : Value}
set_option maxHeartbeats 4000000 in
set_option maxRecDepth 20000 in
theorem does_crash (h : Held w (pr d (dOf X) (mk pb lf) F x X (mk qb lf) i)) (hX : XGood X) (hl : X.L.length < 1000000) {ks : List Bool} {KB : Option Nat} (hk : Rc w 1 K ks.length (ks.map .bool) KB) (hKB : ∀ b, KB = some b → b ∉ feetOf (pr d (dOf X) (mk pb lf) F x X (mk qb lf) i)) (hkl : ks.length ≤ 140737488351232) :
    Calls Try.prog 17 #[.pointer (some ⟨d, 0, none⟩), .pointer (some ⟨x, 0, none⟩), .agg #[.int .i64 3, .int .i64 I, bt C, .string T, K]] w fun e w' => e = .returned (.bool true) ∧ ∃ F' i', Ev w (pr d (dOf X) (mk pb lf) F x X (mk qb lf) i) w' (pr d (dOf (crX X ks)) none F' x (crX X ks) none i') := by
  obtain ⟨i4, hi4, hz4, hs4, hb4⟩ : ∃ i, Try.prog.info? 4 = some i ∧ i.zero = some (.bool false) ∧ i.size = 1 ∧ i.bytes = 1 := ⟨_, rfl, rfl, rfl, rfl⟩
  have Hi4 := hid hi4
  have Hz4 := hid hz4
  have Hs4 := hid hs4
  have Hb4 := hid hb4
  clear hi4 hz4 hs4 hb4
  obtain ⟨ka, kc, rfl⟩ := hk.isSlice
  have hkb : ∀ b, KB = some b → b < w.heap.size := hk.lt
  have HK := hid fun (w1 : World) (f : Fr (feetOf (pr d (dOf X) (mk pb lf) F x X (mk qb lf) i)) w w1) => hk.keep f hKB
  have HW := hid fun (w1 : World) (l : List Res) (F0 : List Nat) (h : Held w1 (l ++ pr d (dOf X) (mk pb lf) F0 x X (mk qb lf) i)) (v : Value) (B : Option Nat) (hv : Rc w1 1 v ks.length (ks.map .bool) B) (hB : ∀ b, B = some b → b ∉ F0) => ccrash_any h hl hv hB (by unfold maxLen; omega)
  have HV := hid fun (w1 : World) (l : List Res) (D0 : SD) (p0 : Option (Nat × Nat)) (F0 : List Nat) (h : Held w1 (l ++ pr d D0 p0 F0 x X (mk qb lf) i)) (hv : Rc w1 1 (.slice ka ks.length kc) ks.length (ks.map .bool) KB) (hB : ∀ b, KB = some b → b ∉ feetOf (xps x X (mk qb lf) i)) => dcrash_any h hX hl hv hB (by omega)
  have HH := hid h
  have M4 := hid (show ∀ u ∈ ks.map Value.bool, u.oneCell' = true by intro u hu; obtain ⟨s, _, rfl⟩ := List.mem_map.1 hu; rfl)
  have HKB := hid hKB
  generalize (if X.Dead then (60 : Int) else 0) = c at *
  generalize crX X ks = X' at *
  generalize hkn : ks.length = kn at *
  clear h hX hk hKB
  go_enter Try.func17, Try.ntmps17
  go_wp2_with (refine wpList_box rfl _ _ rfl [.int .i64 3, .int .i64 I, bt C, .string T, .slice ka kn kc] rfl ?_; intro w1 f1 hlt1 hb1; have k0 := hb1.cell 0; simp only [World.size_alloc, World.size_drew, Act.put, List.setIfInBounds_toArray, List.set_cons_succ, List.set_cons_zero])
  have e1 := boxed HH.out f1 hb1
  obtain ⟨b, hb⟩ : ∃ b, w.heap.size = b := ⟨_, rfl⟩
  rw [hb] at e1 ⊢
  have e1d := e1.step (Fr.refl [] w1).drew
  have hbd := boxAt e1d.held
  clear k0 e1 f1 hlt1 hb1
  refine wp_region_D (fun w' => Blk w' b [.int .i64 3, .int .i64 I, bt C, .string T, .slice ka kn kc]) false [] (by kernel_rfl) ?_
  refine WD.pure [1, 2] (by kernel_rfl) hbd ?_
  simp only [pick, List.toList_toArray, List.map_cons, List.map_nil, List.getD_cons_succ, List.getD_cons_zero]
  repeat (first | (refine quiet_load_1R (by rfl) _ _ rfl rfl (.slice ka kn kc) (fun w0 h => h.cell 4) _ Try.underlying23 rfl ?_; simp only [World.size_alloc, World.size_drew, Act.put, List.setIfInBounds_toArray, List.set_cons_succ, List.set_cons_zero]) | (refine quiet_load_1R (by rfl) _ _ rfl rfl (.slice ka kn kc) (fun w0 h => by subst h; exact hbd.cell 4) _ Try.underlying23 rfl ?_; simp only [World.size_alloc, World.size_drew, Act.put, List.setIfInBounds_toArray, List.set_cons_succ, List.set_cons_zero]) | go_big_quiet_step (fail))
  refine wpQuiet_nil ?_
  refine WD.free [0, 5, 6] (by kernel_rfl) hbd ?_
  simp only [pick, List.toList_toArray, List.map_cons, List.map_nil, List.getD_cons_succ, List.getD_cons_zero]
  repeat (first | (refine quiet_load_1R (by rfl) _ _ rfl rfl (.slice ka kn kc) (fun w0 h => h.cell 4) _ Try.underlying23 rfl ?_; simp only [World.size_alloc, World.size_drew, Act.put, List.setIfInBounds_toArray, List.set_cons_succ, List.set_cons_zero]) | (refine quiet_load_1R (by rfl) _ _ rfl rfl (.slice ka kn kc) (fun w0 h => by subst h; exact hbd.cell 4) _ Try.underlying23 rfl ?_; simp only [World.size_alloc, World.size_drew, Act.put, List.setIfInBounds_toArray, List.set_cons_succ, List.set_cons_zero]) | go_big_quiet_step (fail))
  refine wpQuiet_nil ?_
  refine WD.held [7] (by kernel_rfl) hbd ?_
  simp only [pick, List.toList_toArray, List.map_cons, List.map_nil, List.getD_cons_succ, List.getD_cons_zero]
  repeat (first | (refine quiet_load_1R (by rfl) _ _ rfl rfl (.slice ka kn kc) (fun w0 h => h.cell 4) _ Try.underlying23 rfl ?_; simp only [World.size_alloc, World.size_drew, Act.put, List.setIfInBounds_toArray, List.set_cons_succ, List.set_cons_zero]) | (refine quiet_load_1R (by rfl) _ _ rfl rfl (.slice ka kn kc) (fun w0 h => by subst h; exact hbd.cell 4) _ Try.underlying23 rfl ?_; simp only [World.size_alloc, World.size_drew, Act.put, List.setIfInBounds_toArray, List.set_cons_succ, List.set_cons_zero]) | go_big_quiet_step (fail))
  refine wpQuiet_nil ?_
  refine WD.eff 3 (by kernel_rfl) ?_
  simp only [pick, List.toList_toArray, List.map_cons, List.map_nil, List.getD_cons_succ, List.getD_cons_zero]
  refine wpList_append_rc rfl _ _ _ rfl 4 _ _ 1 1 Try.underlying23 Hi4.out Hz4.out Hs4.out Hb4.out rfl (by decide) rfl (Xr.Own.nil _ 1) rfl (HK.out _ e1d.fr) M4.out (by unfold maxLen; omega) (by omega) ?_
  intro v5 w5 B5 ho5 f5 hB5
  rw [Nat.zero_add, List.nil_append] at ho5
  have f5' : Fr [] w1.drew w5 := f5
  have e5 := e1d.step f5'
  have b5 := boxAt e5.held
  try refine wpList_nil ?_
  refine AfterD.on b5 (by kernel_rfl) ?_
  try simp only [World.size_alloc, World.size_drew, Act.put, List.setIfInBounds_toArray, List.set_cons_succ, List.set_cons_zero]
  refine WD.eff 4 (by kernel_rfl) ?_
  simp only [pick, List.toList_toArray, List.map_cons, List.map_nil, List.getD_cons_succ, List.getD_cons_zero]
  have hne5 : ∀ y, B5 = some y → y ∉ F := by
    intro y hy hyF
    rcases hB5 with rfl | ⟨b5, rfl, h5⟩
    · cases hy
    · cases hy
      have := e1d.held.lt (Res.disk d (dOf X) (mk pb lf) F) (by simp [pr]) _ hyF
      omega
  go_wp2_with (go_at_call 12; refine (HW.out _ _ _ e5.held _ _ ho5.rd.rc hne5).mono ?_; rintro e w6 ⟨rfl, F6, v6⟩)
  have e6 := e5.trans v6
  have b6 := boxAt e6.held
  try refine wpList_nil ?_
  refine AfterD.on b6 (by kernel_rfl) ?_
  try simp only [World.size_alloc, World.size_drew, Act.put, List.setIfInBounds_toArray, List.set_cons_succ, List.set_cons_zero]
  refine WD.eff 8 (by kernel_rfl) ?_
  simp only [pick, List.toList_toArray, List.map_cons, List.map_nil, List.getD_cons_succ, List.getD_cons_zero]
  go_wp2_with (go_at_call 24; refine (HV.out _ _ _ _ _ e6.held (HK.out _ e6.fr) (fun y hy hyx => HKB.out y hy (by simp only [feetOf, pr, List.flatMap_append, List.flatMap_cons, List.mem_append] at hyx ⊢; exact .inr (.inr hyx)))).mono ?_; rintro e w8 ⟨rfl, i8, v8⟩)
  have e8 := e6.trans v8
  have b8 := boxAt e8.held
  try refine wpList_nil ?_
  refine AfterD.on b8 (by kernel_rfl) ?_
  try simp only [World.size_alloc, World.size_drew, Act.put, List.setIfInBounds_toArray, List.set_cons_succ, List.set_cons_zero]
  refine WD.pure [9, 10] (by kernel_rfl) b8 ?_
  simp only [pick, List.toList_toArray, List.map_cons, List.map_nil, List.getD_cons_succ, List.getD_cons_zero]
  repeat (first | (refine quiet_load_1R (by rfl) _ _ rfl rfl (.slice ka kn kc) (fun w0 h => h.cell 4) _ Try.underlying23 rfl ?_; simp only [World.size_alloc, World.size_drew, Act.put, List.setIfInBounds_toArray, List.set_cons_succ, List.set_cons_zero]) | (refine quiet_load_1R (by rfl) _ _ rfl rfl (.slice ka kn kc) (fun w0 h => by subst h; exact hbd.cell 4) _ Try.underlying23 rfl ?_; simp only [World.size_alloc, World.size_drew, Act.put, List.setIfInBounds_toArray, List.set_cons_succ, List.set_cons_zero]) | go_big_quiet_step (fail))
  refine wpQuiet_nil ?_
  refine WD.done (by kernel_rfl) ?_
  go_wp2_with fail
  go_ret
  exact ⟨by simp, F6, i8, Ev.unbox e8⟩
set_option maxHeartbeats 4000000 in
set_option maxRecDepth 20000 in
theorem does_wire (h : Held w (pr d (dOf X) (mk pb lf) F x X (mk qb lf) i)) (h1 : -9223372036854775808 ≤ I) (h2 : I ≤ 9223372036854775807) :
    Calls Try.prog 17 #[.pointer (some ⟨d, 0, none⟩), .pointer (some ⟨x, 0, none⟩), .agg #[.int .i64 8, .int .i64 I, bt C, .string T, K]] w fun e w' => e = .returned (.bool true) ∧ ∃ p q, Ev w (pr d (dOf X) (mk pb lf) F x X (mk qb lf) i) w' (pr d (dOf X) (mk (wiB X lf pb p) (wiL X lf I.toNat)) F x X (mk (wiB X lf qb q) (wiL X lf I.toNat)) i) := by
  have HW := hid fun (w1 : World) (l : List Res) (p : Nat) (px0 : Option (Nat × Nat)) (h : Held w1 (l ++ Res.pow (some (p, I.toNat)) :: pr d (dOf X) (mk pb lf) F x X px0 i)) => cwire_any h
  have HV := hid fun (w1 : World) (l : List Res) (p : Nat) (pc0 : Option (Nat × Nat)) (h : Held w1 (l ++ Res.pow (some (p, I.toNat)) :: pr d (dOf X) pc0 F x X (mk qb lf) i)) => dwire_any h
  have HP := hid fun w1 : World => newPower_int w1 I h1 h2
  have hmx : max I 0 = (I.toNat : Int) := by omega
  have hmx' : (if (0 : Int) > I then 0 else I) = (I.toNat : Int) := by split <;> omega
  have hIn : I.toNat ≤ 9223372036854775807 := by omega
  have HH := hid h
  generalize wiC X lf = c at *
  generalize wiL X lf I.toNat = lf' at *
  generalize I.toNat = n at *
  clear h h2
  go_enter Try.func17, Try.ntmps17
  go_wp2_with (refine wpList_box rfl _ _ rfl [.int .i64 8, .int .i64 I, bt C, .string T, K] rfl ?_; intro w1 f1 hlt1 hb1; have k0 := hb1.cell 0; simp only [World.size_alloc, World.size_drew, Act.put, List.setIfInBounds_toArray, List.set_cons_succ, List.set_cons_zero])
  have e1 := boxed HH.out f1 hb1
  obtain ⟨b, hb⟩ : ∃ b, w.heap.size = b := ⟨_, rfl⟩
  rw [hb] at e1 ⊢
  have e1d := e1.step (Fr.refl [] w1).drew
  have hbd := boxAt e1d.held
  clear k0 e1 f1 hlt1 hb1
  refine wp_region_D (fun w' => Blk w' b [.int .i64 8, .int .i64 I, bt C, .string T, K]) false [] (by kernel_rfl) ?_
  refine WD.free [0, 1, 5, 6] (by kernel_rfl) hbd ?_
  simp only [pick, List.toList_toArray, List.map_cons, List.map_nil, List.getD_cons_succ, List.getD_cons_zero]
  repeat (first | (refine quiet_load_1R (by rfl) _ _ rfl rfl (.int .i64 I) (fun w0 h => h.cell 1) _ Try.underlying3 rfl ?_; simp only [World.size_alloc, World.size_drew, Act.put, List.setIfInBounds_toArray, List.set_cons_succ, List.set_cons_zero]) | go_big_quiet_step (fail) | (refine quiet_max_v (by rfl) _ _ _ rfl .i64 I 0 (n : Int) rfl rfl hmx' ?_; simp only [World.size_alloc, World.size_drew, Act.put, List.setIfInBounds_toArray, List.set_cons_succ, List.set_cons_zero]))
  refine wpQuiet_nil ?_
  refine WD.held [2, 7, 8] (by kernel_rfl) hbd ?_
  simp only [pick, List.toList_toArray, List.map_cons, List.map_nil, List.getD_cons_succ, List.getD_cons_zero]
  repeat (first | (refine quiet_load_1R (by rfl) _ _ rfl rfl (.int .i64 I) (fun w0 h => h.cell 1) _ Try.underlying3 rfl ?_; simp only [World.size_alloc, World.size_drew, Act.put, List.setIfInBounds_toArray, List.set_cons_succ, List.set_cons_zero]) | go_big_quiet_step (fail) | (refine quiet_max_v (by rfl) _ _ _ rfl .i64 I 0 (n : Int) rfl rfl hmx' ?_; simp only [World.size_alloc, World.size_drew, Act.put, List.setIfInBounds_toArray, List.set_cons_succ, List.set_cons_zero]))
  refine wpQuiet_nil ?_
  refine WD.free [9] (by kernel_rfl) hbd ?_
  simp only [pick, List.toList_toArray, List.map_cons, List.map_nil, List.getD_cons_succ, List.getD_cons_zero]
  repeat (first | (refine quiet_load_1R (by rfl) _ _ rfl rfl (.int .i64 I) (fun w0 h => h.cell 1) _ Try.underlying3 rfl ?_; simp only [World.size_alloc, World.size_drew, Act.put, List.setIfInBounds_toArray, List.set_cons_succ, List.set_cons_zero]) | go_big_quiet_step (fail) | (refine quiet_max_v (by rfl) _ _ _ rfl .i64 I 0 (n : Int) rfl rfl hmx' ?_; simp only [World.size_alloc, World.size_drew, Act.put, List.setIfInBounds_toArray, List.set_cons_succ, List.set_cons_zero]))
  refine wpQuiet_nil ?_
  refine WD.eff2 3 10 (by kernel_rfl) ?_ ?_
  all_goals simp only [pick, List.toList_toArray, List.map_cons, List.map_nil, List.getD_cons_succ, List.getD_cons_zero]
  · skip
    go_wp2_with (go_at_call 19; refine (HP.out _).mono ?_; rintro e w3 ⟨rfl, hb3, f3⟩)
    have e3 := Ev.perm (e1d.new f3 (On.pow (pw := some (_, n)) ⟨hb3, hIn⟩) (fun y hy => by simp [Res.pow, pwF] at hy ⊢; omega)) (List.Perm.swap _ _ _)
    have c3 := boxAt e3.held
    try refine wpList_nil ?_
    refine AfterD.on c3 (by kernel_rfl) ?_
    try simp only [World.size_alloc, World.size_drew, Act.put, List.setIfInBounds_toArray, List.set_cons_succ, List.set_cons_zero]
    refine WD.eff2 4 10 (by kernel_rfl) ?_ ?_
    all_goals simp only [pick, List.toList_toArray, List.map_cons, List.map_nil, List.getD_cons_succ, List.getD_cons_zero]
    · skip
      go_wp2_with (go_at_call 20; refine (HW.out _ [Res.blk b [.int .i64 8, .int .i64 I, bt C, .string T, K]] _ _ e3.held).mono ?_; rintro e w4 ⟨rfl, v4⟩)
      have e4 := e3.trans v4
      have c4 := boxAt e4.held
      try refine wpList_nil ?_
      refine AfterD.on c4 (by kernel_rfl) ?_
      try simp only [World.size_alloc, World.size_drew, Act.put, List.setIfInBounds_toArray, List.set_cons_succ, List.set_cons_zero]
      refine WD.eff 10 (by kernel_rfl) ?_
      simp only [pick, List.toList_toArray, List.map_cons, List.map_nil, List.getD_cons_succ, List.getD_cons_zero]
      refine wpList_box rfl _ _ rfl [.int .i64 (n : Int)] rfl ?_
      intro w5 f5 _ hb5
      have e5 := Ev.perm (e4.new f5 (On.pow (pw := some (_, n)) ⟨hb5, hIn⟩) (fun y hy => by simp [Res.pow, pwF] at hy ⊢; omega)) (List.Perm.swap _ _ _)
      have c5 := boxAt e5.held
      simp only [World.size_alloc, World.size_drew, Act.put, List.setIfInBounds_toArray, List.set_cons_succ, List.set_cons_zero]
      try refine wpList_nil ?_
      refine AfterD.on c5 (by kernel_rfl) ?_
      try simp only [World.size_alloc, World.size_drew, Act.put, List.setIfInBounds_toArray, List.set_cons_succ, List.set_cons_zero]
      refine WD.eff 11 (by kernel_rfl) ?_
      simp only [pick, List.toList_toArray, List.map_cons, List.map_nil, List.getD_cons_succ, List.getD_cons_zero]
      go_wp2_with (go_at_call 21; refine (HV.out _ [Res.blk b [.int .i64 8, .int .i64 I, bt C, .string T, K]] _ _ e5.held).mono ?_; rintro e w6 ⟨rfl, v6⟩)
      have e9 := e5.trans v6
      have c6 := boxAt e9.held
      try refine wpList_nil ?_
      refine AfterD.on c6 (by kernel_rfl) ?_
      try simp only [World.size_alloc, World.size_drew, Act.put, List.setIfInBounds_toArray, List.set_cons_succ, List.set_cons_zero]
      refine WD.pure [12, 13] (by kernel_rfl) c6 ?_
      simp only [pick, List.toList_toArray, List.map_cons, List.map_nil, List.getD_cons_succ, List.getD_cons_zero]
      repeat (first | (refine quiet_load_1R (by rfl) _ _ rfl rfl (.int .i64 I) (fun w0 h => h.cell 1) _ Try.underlying3 rfl ?_; simp only [World.size_alloc, World.size_drew, Act.put, List.setIfInBounds_toArray, List.set_cons_succ, List.set_cons_zero]) | go_big_quiet_step (fail) | (refine quiet_max_v (by rfl) _ _ _ rfl .i64 I 0 (n : Int) rfl rfl hmx' ?_; simp only [World.size_alloc, World.size_drew, Act.put, List.setIfInBounds_toArray, List.set_cons_succ, List.set_cons_zero]))
      refine wpQuiet_nil ?_
      refine WD.done (by kernel_rfl) ?_
      go_wp2_with fail
      go_ret
      exact ⟨by simp, _, _, Ev.unbox e9⟩
    · skip
      skip
      refine wpList_box rfl _ _ rfl [.int .i64 (n : Int)] rfl ?_
      intro w5 f5 _ hb5
      have e5 := Ev.perm (e3.new f5 (On.pow (pw := some (_, n)) ⟨hb5, hIn⟩) (fun y hy => by simp [Res.pow, pwF] at hy ⊢; omega)) (List.Perm.swap _ _ _)
      have c5 := boxAt e5.held
      simp only [World.size_alloc, World.size_drew, Act.put, List.setIfInBounds_toArray, List.set_cons_succ, List.set_cons_zero]
      try refine wpList_nil ?_
      refine AfterD.on c5 (by kernel_rfl) ?_
      try simp only [World.size_alloc, World.size_drew, Act.put, List.setIfInBounds_toArray, List.set_cons_succ, List.set_cons_zero]
      refine WD.eff 4 (by kernel_rfl) ?_
      simp only [pick, List.toList_toArray, List.map_cons, List.map_nil, List.getD_cons_succ, List.getD_cons_zero]
      go_wp2_with (go_at_call 20; refine (HW.out _ [Res.blk b [.int .i64 8, .int .i64 I, bt C, .string T, K], Res.pow (some (_, n))] _ _ e5.held).mono ?_; rintro e w4 ⟨rfl, v4⟩)
      have e4 := e5.trans v4
      have c4 := boxAt e4.held
      try refine wpList_nil ?_
      refine AfterD.on c4 (by kernel_rfl) ?_
      try simp only [World.size_alloc, World.size_drew, Act.put, List.setIfInBounds_toArray, List.set_cons_succ, List.set_cons_zero]
      refine WD.eff 11 (by kernel_rfl) ?_
      simp only [pick, List.toList_toArray, List.map_cons, List.map_nil, List.getD_cons_succ, List.getD_cons_zero]
      go_wp2_with (go_at_call 21; refine (HV.out _ [Res.blk b [.int .i64 8, .int .i64 I, bt C, .string T, K]] _ _ e4.held).mono ?_; rintro e w6 ⟨rfl, v6⟩)
      have e9 := e4.trans v6
      have c6 := boxAt e9.held
      try refine wpList_nil ?_
      refine AfterD.on c6 (by kernel_rfl) ?_
      try simp only [World.size_alloc, World.size_drew, Act.put, List.setIfInBounds_toArray, List.set_cons_succ, List.set_cons_zero]
      refine WD.pure [12, 13] (by kernel_rfl) c6 ?_
      simp only [pick, List.toList_toArray, List.map_cons, List.map_nil, List.getD_cons_succ, List.getD_cons_zero]
      repeat (first | (refine quiet_load_1R (by rfl) _ _ rfl rfl (.int .i64 I) (fun w0 h => h.cell 1) _ Try.underlying3 rfl ?_; simp only [World.size_alloc, World.size_drew, Act.put, List.setIfInBounds_toArray, List.set_cons_succ, List.set_cons_zero]) | go_big_quiet_step (fail) | (refine quiet_max_v (by rfl) _ _ _ rfl .i64 I 0 (n : Int) rfl rfl hmx' ?_; simp only [World.size_alloc, World.size_drew, Act.put, List.setIfInBounds_toArray, List.set_cons_succ, List.set_cons_zero]))
      refine wpQuiet_nil ?_
      refine WD.done (by kernel_rfl) ?_
      go_wp2_with fail
      go_ret
      exact ⟨by simp, _, _, Ev.unbox e9⟩
  · skip
    skip
    refine wpList_box rfl _ _ rfl [.int .i64 (n : Int)] rfl ?_
    intro w5 f5 _ hb5
    have e5 := Ev.perm (e1d.new f5 (On.pow (pw := some (_, n)) ⟨hb5, hIn⟩) (fun y hy => by simp [Res.pow, pwF] at hy ⊢; omega)) (List.Perm.swap _ _ _)
    have c5 := boxAt e5.held
    simp only [World.size_alloc, World.size_drew, Act.put, List.setIfInBounds_toArray, List.set_cons_succ, List.set_cons_zero]
    try refine wpList_nil ?_
    refine AfterD.on c5 (by kernel_rfl) ?_
    try simp only [World.size_alloc, World.size_drew, Act.put, List.setIfInBounds_toArray, List.set_cons_succ, List.set_cons_zero]
    refine WD.eff 3 (by kernel_rfl) ?_
    simp only [pick, List.toList_toArray, List.map_cons, List.map_nil, List.getD_cons_succ, List.getD_cons_zero]
    go_wp2_with (go_at_call 19; refine (HP.out _).mono ?_; rintro e w3 ⟨rfl, hb3, f3⟩)
    have e3 := Ev.perm (e5.new f3 (On.pow (pw := some (_, n)) ⟨hb3, hIn⟩) (fun y hy => by simp [Res.pow, pwF] at hy ⊢; omega)) ((List.Perm.swap _ _ _).trans ((List.Perm.swap _ _ _).cons _))
    have c3 := boxAt e3.held
    try refine wpList_nil ?_
    refine AfterD.on c3 (by kernel_rfl) ?_
    try simp only [World.size_alloc, World.size_drew, Act.put, List.setIfInBounds_toArray, List.set_cons_succ, List.set_cons_zero]
    refine WD.eff 4 (by kernel_rfl) ?_
    simp only [pick, List.toList_toArray, List.map_cons, List.map_nil, List.getD_cons_succ, List.getD_cons_zero]
    go_wp2_with (go_at_call 20; refine (HW.out _ [Res.blk b [.int .i64 8, .int .i64 I, bt C, .string T, K], Res.pow (some (_, n))] _ _ e3.held).mono ?_; rintro e w4 ⟨rfl, v4⟩)
    have e4 := e3.trans v4
    have c4 := boxAt e4.held
    try refine wpList_nil ?_
    refine AfterD.on c4 (by kernel_rfl) ?_
    try simp only [World.size_alloc, World.size_drew, Act.put, List.setIfInBounds_toArray, List.set_cons_succ, List.set_cons_zero]
    refine WD.eff 11 (by kernel_rfl) ?_
    simp only [pick, List.toList_toArray, List.map_cons, List.map_nil, List.getD_cons_succ, List.getD_cons_zero]
    go_wp2_with (go_at_call 21; refine (HV.out _ [Res.blk b [.int .i64 8, .int .i64 I, bt C, .string T, K]] _ _ e4.held).mono ?_; rintro e w6 ⟨rfl, v6⟩)
    have e9 := e4.trans v6
    have c6 := boxAt e9.held
    try refine wpList_nil ?_
    refine AfterD.on c6 (by kernel_rfl) ?_
    try simp only [World.size_alloc, World.size_drew, Act.put, List.setIfInBounds_toArray, List.set_cons_succ, List.set_cons_zero]
    refine WD.pure [12, 13] (by kernel_rfl) c6 ?_
    simp only [pick, List.toList_toArray, List.map_cons, List.map_nil, List.getD_cons_succ, List.getD_cons_zero]
    repeat (first | (refine quiet_load_1R (by rfl) _ _ rfl rfl (.int .i64 I) (fun w0 h => h.cell 1) _ Try.underlying3 rfl ?_; simp only [World.size_alloc, World.size_drew, Act.put, List.setIfInBounds_toArray, List.set_cons_succ, List.set_cons_zero]) | go_big_quiet_step (fail) | (refine quiet_max_v (by rfl) _ _ _ rfl .i64 I 0 (n : Int) rfl rfl hmx' ?_; simp only [World.size_alloc, World.size_drew, Act.put, List.setIfInBounds_toArray, List.set_cons_succ, List.set_cons_zero]))
    refine wpQuiet_nil ?_
    refine WD.done (by kernel_rfl) ?_
    go_wp2_with fail
    go_ret
    exact ⟨by simp, _, _, Ev.unbox e9⟩
end
end Go.Proofs.Ytflapddkeeiieaa

/- Layer 6, the statements' own function 'does': whatever the call. -/
namespace Go.Proofs.Ytflapddkeeiieaa
open Go Go.Xr Go.RowKit Go.ChangeShapes Go.WideShapes Go.Deep
set_option linter.unusedVariables false
set_option linter.unusedSimpArgs false
/-- What a call leaves of both. -/
structure Nxt (Do : Int) (X X' : XD) (lf lf' : Option Nat) (pb pb' qb qb' : Nat) : Prop where
  good : XGood X'
  len : X'.Kept.length = X.Kept.length
  L : X'.L.length ≤ X.L.length + 1
  T : X'.Trace.length ≤ X.Trace.length + 1
  pw : Do ≠ 3 → Do ≠ 8 → pb' = pb ∧ qb' = qb ∧ ∀ n, lf = some n → ∃ n', lf' = some n' ∧ n' + X'.Trace.length = n + X.Trace.length
theorem Nxt.same {Do : Int} {X : XD} {lf : Option Nat} {pb qb : Nat} (h : XGood X) : Nxt Do X X lf lf pb pb qb qb := ⟨h, rfl, by omega, by omega, fun _ _ => ⟨rfl, rfl, fun n hn => ⟨n, hn, rfl⟩⟩⟩
theorem zs_len : zsec.length = 512 := by unfold zsec; exact List.length_replicate
theorem XGood.dead {X : XD} (h : XGood X) (b : Bool) : XGood { X with Dead := b } := ⟨h.pos, h.le, h.k512, h.l512⟩
theorem faX_good {X : XD} (h : XGood X) : XGood (faX X) := ⟨by simpa [faX] using h.pos, by simpa [faX] using h.le, fun s hs => by
  simp only [faX] at hs
  rw [List.eq_of_mem_replicate hs]
  show zsec.toArray.size = 512
  rw [List.size_toArray]
  exact zs_len, fun p hp => by simp [faX] at hp⟩
theorem wr_nxt {X : XD} (h : XGood X) (lf : Option Nat) (pb qb : Nat) (I : Int) (S : ByteArray) : Nxt 0 X (wrX X lf I S) lf (wrL X lf I S) pb pb qb qb := by
  unfold wrX wrL
  by_cases hc : wrC X lf I S = 0
  · rw [if_pos hc, if_pos hc]
    obtain ⟨hd, ⟨q, rfl, hq⟩, hs⟩ := mayN_ok hc
    refine ⟨?_, rfl, by simp, by simp, fun _ _ => ⟨rfl, rfl, fun n hn => ?_⟩⟩
    · exact h.write (Int.toNat (q : Int)) S (by simpa using hq) (hs rfl) _
    · subst hn
      have hn0 : n ≠ 0 := by
        rintro rfl
        unfold xdead mk offB at hd
        simp at hd
      exact ⟨n - 1, rfl, by simp; omega⟩
  · rw [if_neg hc, if_neg hc]
    exact Nxt.same h
theorem fl_nxt {X : XD} (h : XGood X) (lf : Option Nat) (pb qb : Nat) : Nxt 2 X (flX X lf) lf (flL X lf) pb pb qb qb := by
  unfold flX flL
  cases hd : xdead X (mk 0 lf) with
  | true => exact Nxt.same h
  | false =>
    refine ⟨h.sets X.L (fun p hp => (h.l512 p hp).1) _ _, setX_len _ _, by simp, by simp, fun _ _ => ⟨rfl, rfl, fun n hn => ?_⟩⟩
    subst hn
    have hn0 : n ≠ 0 := by
      rintro rfl
      unfold xdead mk offB at hd
      simp at hd
    exact ⟨n - 1, rfl, by simp; omega⟩
theorem cr_good {X : XD} (h : XGood X) (ks : List Bool) : XGood (crX X ks) ∧ (crX X ks).Kept.length = X.Kept.length ∧ (crX X ks).L.length ≤ X.L.length ∧ (crX X ks).Trace = X.Trace := by
  unfold crX
  cases X.Dead with
  | true => exact ⟨h, rfl, Nat.le_refl _, rfl⟩
  | false => exact ⟨h.sets (keptL X.L ks) (fun p hp => (h.l512 p (keptL_mem _ _ p hp)).1) _ _, setX_len _ _, by simp, rfl⟩
theorem cr_nxt {X : XD} (h : XGood X) (ks : List Bool) (lf lf' : Option Nat) (a b c d : Nat) : Nxt 3 X (crX X ks) lf lf' a b c d := by
  obtain ⟨h1, h2, h3, h4⟩ := cr_good h ks
  exact ⟨h1, h2, by omega, by rw [h4]; omega, fun h => absurd rfl h⟩
theorem ta_nxt {X : XD} (h : XGood X) (lf : Option Nat) (pb qb : Nat) (I : Int) (S : ByteArray) : Nxt 6 X (taX X lf I S) lf lf pb pb qb qb := by
  unfold taX
  by_cases hc : taC X lf I S = 0
  · rw [if_pos hc]
    obtain ⟨hL, hm⟩ := tamN_ok (X := X) hc
    obtain ⟨hd, ⟨q, rfl, hq⟩, hs⟩ := mayN_ok hm
    exact ⟨h.tamper _ S (hs rfl), by simp, by simp, by simp, fun _ _ => ⟨rfl, rfl, fun n hn => ⟨n, hn, rfl⟩⟩⟩
  · rw [if_neg hc]
    exact Nxt.same h
theorem wi_nxt {X : XD} (h : XGood X) (lf lf' : Option Nat) (a b c d : Nat) : Nxt 8 X X lf lf' a b c d := ⟨h, rfl, by omega, by omega, fun _ h => absurd rfl h⟩
def StWide (w : World) (s : StepD) : Prop := StOk w s ∧ s.ks.length ≤ 140737488351232
theorem does_any {w : World} {d x pb qb : Nat} {X : XD} {lf : Option Nat} {F : List Nat} {i : XI} (h : Held w (pr d (dOf X) (mk pb lf) F x X (mk qb lf) i)) (hX : XGood X) (hl : X.L.length < 1000000) (ht : X.Trace.length < 1000000) (s : StepD) (hs : StWide w s) (hT : s.Text.size ≤ 2000)
    (hKB : ∀ b, s.KB = some b → b ∉ feetOf (pr d (dOf X) (mk pb lf) F x X (mk qb lf) i)) :
    Calls Try.prog 17 #[.pointer (some ⟨d, 0, none⟩), .pointer (some ⟨x, 0, none⟩), .agg #[.int .i64 s.Do, .int .i64 s.I, bt s.C, .string s.Text, s.Keep]] w fun e w' => e = .returned (.bool true) ∧
      ∃ X' lf' pb' qb' F' i', Ev w (pr d (dOf X) (mk pb lf) F x X (mk qb lf) i) w' (pr d (dOf X') (mk pb' lf') F' x X' (mk qb' lf') i') ∧ Nxt s.Do X X' lf lf' pb pb' qb qb' := by
  obtain ⟨Do, I, C, T, K, ks, KB⟩ := s
  obtain ⟨⟨d1, d2, i1, i2, t, k, _⟩, kl⟩ := hs
  simp only at d1 d2 i1 i2 t k kl hT hKB ⊢
  by_cases h0 : Do = 0
  · subst h0
    refine (does_write h hX hl ht i1 i2 hT _ rfl).mono ?_
    rintro e w' ⟨he, F', i', ev⟩
    exact ⟨he, _, _, pb, qb, F', i', ev, wr_nxt hX lf pb qb _ _⟩
  by_cases h1 : Do = 1
  · subst h1
    refine (does_read h hX hl i1 i2).mono ?_
    rintro e w' ⟨he, f⟩
    exact ⟨he, X, lf, pb, qb, F, i, Ev.idle h f, Nxt.same hX⟩
  by_cases h2 : Do = 2
  · subst h2
    refine (does_flush h hX hl ht).mono ?_
    rintro e w' ⟨he, F', i', ev⟩
    exact ⟨he, _, _, pb, qb, F', i', ev, fl_nxt hX lf pb qb⟩
  by_cases h3 : Do = 3
  · subst h3
    refine (does_crash h hX hl k hKB kl).mono ?_
    rintro e w' ⟨he, F', i', ev⟩
    exact ⟨he, _, none, pb, qb, F', i', ev, cr_nxt hX ks lf none _ _ _ _⟩
  by_cases h4 : Do = 4
  · subst h4
    refine (does_fail h hX).mono ?_
    rintro e w' ⟨he, F', i', ev⟩
    exact ⟨he, _, lf, pb, qb, F', i', ev, ⟨faX_good hX, by simp [faX], by simp [faX], by simp [faX], fun _ _ => ⟨rfl, rfl, fun n hn => ⟨n, hn, rfl⟩⟩⟩⟩
  by_cases h5 : Do = 5
  · subst h5
    refine (does_replace h).mono ?_
    rintro e w' ⟨he, F', i', ev⟩
    exact ⟨he, _, lf, pb, qb, F', i', ev, ⟨hX.dead false, rfl, by simp, by simp, fun _ _ => ⟨rfl, rfl, fun n hn => ⟨n, hn, rfl⟩⟩⟩⟩
  by_cases h6 : Do = 6
  · subst h6
    refine (does_tamper h hX hl i1 i2 hT _ rfl).mono ?_
    rintro e w' ⟨he, F', i', ev⟩
    exact ⟨he, _, lf, pb, qb, F', i', ev, ta_nxt hX lf pb qb _ _⟩
  by_cases h8 : Do = 8
  · subst h8
    refine (does_wire h i1 i2).mono ?_
    rintro e w' ⟨he, p, q, ev⟩
    exact ⟨he, X, _, _, _, F, i, ev, wi_nxt hX _ _ _ _ _ _⟩
  · refine (does_else h hX hl ht Do ⟨h0, h1, h2, h3, h4, h5, h6, h8⟩).mono ?_
    rintro e w' ⟨he, f⟩
    exact ⟨he, X, lf, pb, qb, F, i, Ev.idle h f, Nxt.same hX⟩
/-- The steps that came in, opened, with their sizes. -/
theorem open_stepsw {H : Type} {enc : TypeId × Value → H} {w : World} {base : Nat} {spare : Nat → Bool} {held : Bool} {fuel : Nat} {cs : List Value} {x : DataW H × List MemPlace} (h : DataW.trod enc Try.prog w base spare held fuel 22 cs = some x) (hw : WOk Try.prog 22 x.1) :
    ∃ (v : Value) (l : List StepD) (B : Option Nat), cs = [v] ∧ Rc w 5 v l.length (l.flatMap stc) B ∧ (∀ a ∈ l, StWide w a) ∧ True ∧ l.length ≤ maxLen := by
  have := open_rows_w stc (StWide w) 5 (by decide) stc_len Try.underlying22 rfl (fun n cs x hx hwx => ?_) h hw
  · obtain ⟨v, l, B, h1, h2, h3, _, h4⟩ := this
    exact ⟨v, l, B, h1, h2, h3, trivial, h4⟩
  obtain ⟨xs, n', _, hxe, hlen, hxl, hf⟩ := DataW.trod_struct Try.underlying32 hx
  have hlen5 : cs.length = 5 := hlen
  have hxl5 : xs.length = 5 := hxl
  match cs, hlen5, xs, hxl5 with
  | [c0, c1, c2, c3, c4], _, [x0, x1, x2, x3, x4], _ =>
    have hd : x.1 = .agg [x0.1, x1.1, x2.1, x3.1, x4.1] := by
      have := congrArg Prod.fst hxe
      simpa using this
    rw [hd] at hwx
    unfold WOk at hwx
    simp only [DataW.weights, Try.underlying32] at hwx
    obtain ⟨z0, hwx⟩ := weights_cons hwx
    obtain ⟨z1, hwx⟩ := weights_cons hwx
    obtain ⟨z2, hwx⟩ := weights_cons hwx
    obtain ⟨z3, hwx⟩ := weights_cons hwx
    obtain ⟨z4, hwx⟩ := weights_cons hwx
    obtain ⟨n0, h0, _, w0⟩ := DataW.trod_int Try.underlying3 (hf 0 _ rfl)
    obtain ⟨n1, h1, _, w1⟩ := DataW.trod_int Try.underlying3 (hf 1 _ rfl)
    obtain ⟨n2, h2, _, w2⟩ := DataW.trod_int Try.underlying5 (hf 2 _ rfl)
    obtain ⟨s3, h3, _, w3⟩ := DataW.trod_string Try.underlying9 (hf 3 _ rfl)
    obtain ⟨v4, l4, B4, h4, r4, _, b4, m4⟩ := open_rows_w (α := Bool) (fun a => [.bool a]) (fun _ => True) 1 (by decide) (fun _ => rfl) Try.underlying23 rfl (fun n cs x hx _ => by
      obtain ⟨b, hb, _⟩ := DataW.trod_bool Try.underlying4 hx
      exact ⟨b, hb, trivial⟩) (hf 4 _ rfl) z4
    rw [flat_one] at r4
    have e0 : c0 = .int .i64 n0 := List.singleton_inj.1 h0
    have e1 : c1 = .int .i64 n1 := List.singleton_inj.1 h1
    have e2 : c2 = .int .u8 n2 := List.singleton_inj.1 h2
    have e3 : c3 = .string s3 := List.singleton_inj.1 h3
    have e4 : c4 = v4 := List.singleton_inj.1 h4
    have hb1 : Try.prog.bytesOf 4 = 1 := rfl
    rw [hb1] at b4
    refine ⟨⟨n0, n1, UInt8.ofNat n2.toNat, s3, v4, l4, B4⟩, ?_, ⟨(i64_wf w0).1, (i64_wf w0).2, (i64_wf w1).1, (i64_wf w1).2, w3, r4, m4⟩, ?_⟩
    · rw [e0, e1, e2, e3, e4, bt_of w2]
      rfl
    · simp only
      unfold reachBytes at b4
      omega
end Go.Proofs.Ytflapddkeeiieaa

/- Layer 6: SectorPlays, the walk. -/
namespace Go.Proofs.Ytflapddkeeiieaa
open Go Go.Xr Go.RowKit Go.ChangeShapes Go.WideShapes Go.Deep
set_option linter.unusedVariables false
set_option linter.unusedSimpArgs false
theorem dOf_new (n : Nat) : dOf (newXD n) = newSD n := by
  unfold newXD newSD dOf
  rw [nowL_nil]
  simp only [List.map_replicate, List.map_nil]
  rfl
theorem newXD_good {n : Nat} (h1 : 1 ≤ n) (h2 : n ≤ 16384) : XGood (newXD n) := ⟨by simp [newXD]; omega, by simp [newXD]; omega, fun s hs => by
  simp only [newXD] at hs
  rw [List.eq_of_mem_replicate hs]
  show zsec.toArray.size = 512
  rw [List.size_toArray]
  exact zs_len, fun p hp => by simp [newXD] at hp⟩
/-- Two new disks. -/
theorem pr_new {w w1 w2 : World} {rs : List Res} {d x n : Nat} {F : List Nat} {i : XI} (e : Ev w rs w1 rs) (h : Rep w2 d (newSD n) none F) (f : Fr [] w1 w2) (hF : ∀ y ∈ F, w1.heap.size ≤ y) {w3 : World} (ev : Ev w2 [] w3 (xps x (newXD n) none i)) :
    Ev w rs w3 (pr d (dOf (newXD n)) (mk 0 none) F x (newXD n) (mk 0 none) i ++ rs) := by
  rw [dOf_new]
  have e2 : Ev w rs w2 (Res.disk d (newSD n) none F :: rs) := e.new f (On.disk h) hF
  have e3 : Ev w rs w3 (xps x (newXD n) none i ++ (Res.disk d (newSD n) none F :: rs)) := by
    have := Ev.then [] (Res.disk d (newSD n) none F :: rs) (by simpa using e2) ev
    simpa using this
  have e4 : Ev w rs w3 (Res.pow none :: (xps x (newXD n) none i ++ (Res.disk d (newSD n) none F :: rs))) := e3.new (Fr.refl _ _) (pow0 w3) (fun b hb => by simp [Res.pow, pwF] at hb)
  have e5 : Ev w rs w3 (Res.pow none :: Res.pow none :: (xps x (newXD n) none i ++ (Res.disk d (newSD n) none F :: rs))) := e4.new (Fr.refl _ _) (pow0 w3) (fun b hb => by simp [Res.pow, pwF] at hb)
  refine Ev.perm e5 ?_
  show (Res.pow none :: Res.pow none :: (xps x (newXD n) none i ++ (Res.disk d (newSD n) none F :: rs))).Perm (Res.pow none :: Res.disk d (newSD n) none F :: Res.pow none :: (xps x (newXD n) none i ++ rs))
  refine List.Perm.cons _ ?_
  exact (List.Perm.cons _ List.perm_middle).trans (List.Perm.swap _ _ _)
theorem StWide.keep {w w' : World} {s : StepD} (h : StWide w s) (f : Fr [] w w') : StWide w' s := ⟨⟨h.1.d1, h.1.d2, h.1.i1, h.1.i2, h.1.t, h.1.k.keep f (by simp), h.1.kl⟩, h.2⟩
/-- What came in lies on none of the blocks made since. -/
theorem kb_ne {w w1 : World} {s : StepD} (h : StWide w s) {rs : List Res} (e : Ev w [] w1 rs) : ∀ b, s.KB = some b → b ∉ feetOf rs := by
  intro b hb hbr
  have := h.1.k.lt b hb
  rcases e.low b hbr with h1 | h1
  · cases h1
  · omega
set_option maxHeartbeats 4000000 in
set_option maxRecDepth 20000 in
theorem plays_walk {w : World} (n : Int) (hn : -9223372036854775808 ≤ n ∧ n ≤ 9223372036854775807) {v : Value} {l : List StepD} {LB : Option Nat} (hl : Rc w 5 v l.length (l.flatMap stc) LB) (hlok : ∀ s ∈ l, StWide w s) (hlm : l.length ≤ 9223372036854775807) :
    Calls Try.prog 4 #[.int .i64 n, v] w fun e w' => e = .returned (.bool true) ∧ Fr [] w w' := by
  obtain ⟨la, lc, rfl⟩ := hl.isSlice
  have HL := hid hl
  have HO := hid hlok
  have hLB : ∀ b, LB = some b → b < w.heap.size := hl.lt
  obtain ⟨ln, hln⟩ : ∃ ln, l.length = ln := ⟨_, rfl⟩
  have Hln := hid hln
  rw [hln] at hlm ⊢
  clear hl hlok hln
  by_cases h40 : 40 < n ∧ n ≤ 16384
  · obtain ⟨h1, h2⟩ := h40
    go_enter Try.func4, Try.ntmps4
    go_wp2_with (go_at_call 15; refine alive_any.mono ?_; rintro e w5 ⟨rfl, f5⟩)
    go_ret
    exact ⟨rfl, f5⟩
  · have d1 : (decide (40 < n) && decide (n ≤ 16384)) = false := by
      rw [Bool.and_eq_false_iff, decide_eq_false_iff_not, decide_eq_false_iff_not]
      omega
    by_cases hb : n < 1 ∨ 16384 < n
    · have hc := fun w1 : World => new_bad (w := w1) n hb hn.1 hn.2
      have hx := fun w1 : World => xnew_bad (w := w1) n (by omega)
      by_cases hb1 : n < 1
      · have g1 : ¬ (40 < n) := by omega
        go_enter Try.func4, Try.ntmps4
        go_wp2_with (first
          | (go_at_call 8; refine (hc _).mono ?_; rintro e w5 ⟨rfl, hw⟩; subst hw)
          | (go_at_call 16; refine (hx _).mono ?_; rintro e w5 ⟨rfl, hw⟩; subst hw)
          | (go_at_call 15; refine alive_any.mono ?_; rintro e w5 ⟨rfl, f5⟩))
        go_ret
        exact ⟨rfl, f5⟩
      · have g1 : 40 < n := by omega
        have g2 : ¬ (n ≤ 16384) := by omega
        go_enter Try.func4, Try.ntmps4
        go_wp2_with (first
          | (go_at_call 8; refine (hc _).mono ?_; rintro e w5 ⟨rfl, hw⟩; subst hw)
          | (go_at_call 16; refine (hx _).mono ?_; rintro e w5 ⟨rfl, hw⟩; subst hw)
          | (go_at_call 15; refine alive_any.mono ?_; rintro e w5 ⟨rfl, f5⟩))
        go_ret
        exact ⟨rfl, f5⟩
    · have g1 : ¬ (40 < n) := by omega
      obtain ⟨m, rfl⟩ : ∃ m : Nat, n = m := ⟨n.toNat, by omega⟩
      have hm1 : 1 ≤ m := by omega
      have hm2 : m ≤ 16384 := by omega
      go_enter Try.func4, Try.ntmps4
      go_wp2_with (first
        | (go_at_call 8; refine (new_ok m hm1 hm2).mono ?_; rintro e w1 ⟨d, F, rfl, hr, f1, hF⟩)
        | (go_at_call 16; refine (xnew_ok m hm1 hm2).mono ?_; rintro e w2 ⟨x, i, rfl, ev⟩))
      have e2 := pr_new (Ev.refl (Held.nil w)) hr f1 hF ev
      rw [List.append_nil] at e2
      have hX := newXD_good hm1 hm2
      have hXL : (newXD m).L.length = 0 ∧ (newXD m).Trace.length = 0 := ⟨rfl, rfl⟩
      clear hr f1 hF ev d1 hb h40
      generalize newXD m = X0 at *
      go_loopw [9] (fun jv wr => ∃ j : Nat, j ≤ ln ∧ j ≤ 80 ∧ jv = .int .i64 (j : Int) ∧ ∃ X lf pb qb F i, Ev w [] wr (pr d (dOf X) (mk pb lf) F x X (mk qb lf) i) ∧ XGood X ∧ X.L.length ≤ j ∧ X.Trace.length ≤ j) (fun jv _ => 80 - (intOf jv).toNat)
      case atStart => exact ⟨0, Nat.zero_le _, Nat.zero_le _, rfl, X0, none, 0, 0, F, i, e2, hX, by omega, by omega⟩
      case round =>
        obtain ⟨j, hj, hj80, rfl, X, lf, pb, qb, F, i, ev, hX, hXL, hXT⟩ := hrel
        clear e2
        by_cases hin : j < ln
        · have d1 : decide ((j : Int) < (ln : Int)) = true := by simp; omega
          have d1' : (j : Int) < (ln : Int) := by omega
          by_cases h80 : j < 80
          · have d2 : decide ((j : Int) < 80) = true := by simp; omega
            have d2' : (j : Int) < 80 := by omega
            have hil : j < l.length := by rw [Hln.out]; exact hin
            obtain ⟨b, off, cap, hv, hB, hblt, hcs⟩ := step_cell (HL.out.keep ev.fr (by simp [feetOf])) j hil
            have hcap : la = some ⟨b, off, none⟩ ∧ lc = cap := by rw [Hln.out] at hv; simpa using hv
            obtain ⟨rfl, rfl⟩ := hcap
            have c0 : wr.cell? ⟨b, off + j * 5, none⟩ = some (.int .i64 l[j].Do) := by simpa [stc] using hcs 0 (by decide)
            have c1 : wr.cell? ⟨b, off + j * 5 + 1, none⟩ = some (.int .i64 l[j].I) := by simpa [stc] using hcs 1 (by decide)
            have c2 : wr.cell? ⟨b, off + j * 5 + 2, none⟩ = some (bt l[j].C) := by simpa [stc] using hcs 2 (by decide)
            have c3 : wr.cell? ⟨b, off + j * 5 + 3, none⟩ = some (.string l[j].Text) := by simpa [stc] using hcs 3 (by decide)
            have c4 : wr.cell? ⟨b, off + j * 5 + 4, none⟩ = some l[j].Keep := by simpa [stc] using hcs 4 (by decide)
            have hs := HO.out l[j] (List.getElem_mem hil)
            generalize l[j] = s at *
            have HS := hid hs
            have EV := hid ev
            clear hcs hv hB hs ev
            by_cases hT : s.Text.size ≤ 2000
            · have d3 : decide ((s.Text.size : Int) ≤ 2000) = true := by simp; omega
              have hd := does_any EV.out.held hX (by omega) (by omega) s (HS.out.keep EV.out.fr) hT (kb_ne HS.out EV.out)
              go_wp2_with (go_at_call 17; refine hd.mono ?_; rintro e w5 ⟨rfl, X', lf', pb', qb', F', i', ev5, nx⟩)
              go_roundw
              case rel => exact ⟨j + 1, by omega, by omega, by go_num, X', lf', pb', qb', F', i', EV.out.trans ev5, nx.good, by have := nx.L; omega, by have := nx.T; omega⟩
              case measure => simp [intOf]; omega
            · have d3 : decide ((s.Text.size : Int) ≤ 2000) = false := by simp; omega
              go_wp2_with fail
              go_roundw
              case rel => exact ⟨j + 1, by omega, by omega, by go_num, X, lf, pb, qb, F, i, EV.out, hX, by omega, by omega⟩
              case measure => simp [intOf]; omega
          · have d2 : decide ((j : Int) < 80) = false := by simp; omega
            have d2' : ¬ ((j : Int) < 80) := by omega
            have hst := stands_any (l := []) ev.held hX (by omega) (by omega)
            have f := ev.fr
            clear ev
            go_wp2_with (first
              | (go_at_call 18; refine hst.mono ?_; rintro e w5 ⟨rfl, f5⟩)
              | (go_at_call 15; refine alive_any.mono ?_; rintro e w6 ⟨rfl, f6⟩))
            go_ret
            exact ⟨rfl, (f.trans' f5).trans' f6⟩
        · have d1 : decide ((j : Int) < (ln : Int)) = false := by simp; omega
          have d1' : ¬ ((j : Int) < (ln : Int)) := by omega
          have hst := stands_any (l := []) ev.held hX (by omega) (by omega)
          have f := ev.fr
          clear ev
          go_wp2_with (first
            | (go_at_call 18; refine hst.mono ?_; rintro e w5 ⟨rfl, f5⟩)
            | (go_at_call 15; refine alive_any.mono ?_; rintro e w6 ⟨rfl, f6⟩))
          go_ret
          exact ⟨rfl, (f.trans' f5).trans' f6⟩
end Go.Proofs.Ytflapddkeeiieaa

/- Layer 6: SectorCopies, the walk. -/
namespace Go.Proofs.Ytflapddkeeiieaa
open Go Go.Xr Go.RowKit Go.ChangeShapes Go.WideShapes Go.Deep
set_option linter.unusedVariables false
set_option linter.unusedSimpArgs false
/-- Two more disks, beside what there is. -/
theorem pr_add {w w1 w2 : World} {rs r0 : List Res} {d x : Nat} {D : SD} {X : XD} {F : List Nat} {i : XI} (e : Ev w r0 w1 rs) (h : Rep w2 d D none F) (f : Fr [] w1 w2) (hF : ∀ y ∈ F, w1.heap.size ≤ y) {w3 : World} (ev : Ev w2 [] w3 (xps x X none i)) :
    Ev w r0 w3 (pr d D (mk 0 none) F x X (mk 0 none) i ++ rs) := by
  have e2 : Ev w r0 w2 (Res.disk d D none F :: rs) := e.new f (On.disk h) hF
  have e3 : Ev w r0 w3 (xps x X none i ++ (Res.disk d D none F :: rs)) := by
    have := Ev.then [] (Res.disk d D none F :: rs) (by simpa using e2) ev
    simpa using this
  have e4 : Ev w r0 w3 (Res.pow none :: (xps x X none i ++ (Res.disk d D none F :: rs))) := e3.new (Fr.refl _ _) (pow0 w3) (fun b hb => by simp [Res.pow, pwF] at hb)
  have e5 : Ev w r0 w3 (Res.pow none :: Res.pow none :: (xps x X none i ++ (Res.disk d D none F :: rs))) := e4.new (Fr.refl _ _) (pow0 w3) (fun b hb => by simp [Res.pow, pwF] at hb)
  refine Ev.perm e5 ?_
  show (Res.pow none :: Res.pow none :: (xps x X none i ++ (Res.disk d D none F :: rs))).Perm (Res.pow none :: Res.disk d D none F :: Res.pow none :: (xps x X none i ++ rs))
  refine List.Perm.cons _ ?_
  exact (List.Perm.cons _ List.perm_middle).trans (List.Perm.swap _ _ _)
/-- A step that came in, at its place. -/
theorem step_here {w wr : World} {la : Option Addr} {ln lc : Nat} {l : List StepD} {LB : Option Nat} (hl : Rc w 5 (.slice la ln lc) l.length (l.flatMap stc) LB) (hlok : ∀ s ∈ l, StWide w s) (hn : l.length = ln) (f : Fr [] w wr) (j : Nat) (hj : j < ln) :
    ∃ b off s, la = some ⟨b, off, none⟩ ∧ s ∈ l ∧ StWide w s ∧ wr.cell? ⟨b, off + j * 5, none⟩ = some (.int .i64 s.Do) ∧ wr.cell? ⟨b, off + j * 5 + 1, none⟩ = some (.int .i64 s.I) ∧ wr.cell? ⟨b, off + j * 5 + 2, none⟩ = some (bt s.C) ∧ wr.cell? ⟨b, off + j * 5 + 3, none⟩ = some (.string s.Text) ∧ wr.cell? ⟨b, off + j * 5 + 4, none⟩ = some s.Keep := by
  have hil : j < l.length := by omega
  obtain ⟨b, off, cap, hv, hB, hblt, hcs⟩ := step_cell (hl.keep f (by simp)) j hil
  have hcap : la = some ⟨b, off, none⟩ := by injection hv
  exact ⟨b, off, l[j], hcap, List.getElem_mem hil, hlok _ (List.getElem_mem hil), by simpa [stc] using hcs 0 (by decide), by simpa [stc] using hcs 1 (by decide), by simpa [stc] using hcs 2 (by decide), by simpa [stc] using hcs 3 (by decide), by simpa [stc] using hcs 4 (by decide)⟩
set_option maxHeartbeats 8000000 in
set_option maxRecDepth 20000 in
theorem copies_walk {w : World} {v u : Value} {l k : List StepD} {LB KB : Option Nat} (hl : Rc w 5 v l.length (l.flatMap stc) LB) (hlok : ∀ s ∈ l, StWide w s) (hlm : l.length ≤ 9223372036854775807) (hk : Rc w 5 u k.length (k.flatMap stc) KB) (hkok : ∀ s ∈ k, StWide w s) (hkm : k.length ≤ 9223372036854775807) :
    Calls Try.prog 6 #[v, u] w fun e w' => e = .returned (.bool true) ∧ Fr [] w w' := by
  obtain ⟨la, lc, rfl⟩ := hl.isSlice
  obtain ⟨ka, kc, rfl⟩ := hk.isSlice
  have HL := hid fun (wr : World) (f : Fr [] w wr) (j : Nat) (hj : j < l.length) => step_here hl hlok rfl f j hj
  have HK := hid fun (wr : World) (f : Fr [] w wr) (j : Nat) (hj : j < k.length) => step_here hk hkok rfl f j hj
  generalize l.length = ln at *
  generalize k.length = kn at *
  clear hl hlok hk hkok
  go_enter Try.func6, Try.ntmps6
  go_wp2_with (first
    | (go_at_call 8; refine (new_ok 6 (by decide) (by decide)).mono ?_; rintro e w1 ⟨d, F, rfl, hr, f1, hF⟩)
    | (go_at_call 16; refine (xnew_ok 6 (by decide) (by decide)).mono ?_; rintro e w2 ⟨x, i, rfl, ev⟩))
  have e2 := pr_new (Ev.refl (Held.nil w)) hr f1 hF ev
  rw [List.append_nil] at e2
  have hX := newXD_good (n := 6) (by decide) (by decide)
  have hXL : (newXD 6).L.length = 0 ∧ (newXD 6).Trace.length = 0 := ⟨rfl, rfl⟩
  clear hr f1 hF ev
  generalize newXD 6 = X0 at *
  go_loopw [9] (fun jv wr => ∃ j : Nat, j ≤ ln ∧ j ≤ 40 ∧ jv = .int .i64 (j : Int) ∧ ∃ X lf pb qb F i, Ev w [] wr (pr d (dOf X) (mk pb lf) F x X (mk qb lf) i) ∧ XGood X ∧ X.L.length ≤ j ∧ X.Trace.length ≤ j) (fun jv _ => 40 - (intOf jv).toNat)
  case atStart => exact ⟨0, Nat.zero_le _, Nat.zero_le _, rfl, X0, none, 0, 0, F, i, e2, hX, by omega, by omega⟩
  case round =>
    obtain ⟨j, hj, hj80, rfl, X, lf, pb, qb, F, i, ev, hX, hXL, hXT⟩ := hrel
    clear e2
    have go_on : (j < ln ∧ j < 40) ∨ ¬ (j < ln ∧ j < 40) := Classical.em _
    rcases go_on with ⟨hin, h80⟩ | hend
    · have d1 : decide ((j : Int) < (ln : Int)) = true := by simp; omega
      have d1' : (j : Int) < (ln : Int) := by omega
      have d2 : decide ((j : Int) < 40) = true := by simp; omega
      have d2' : (j : Int) < 40 := by omega
      obtain ⟨b, off, s, rfl, _, hs, c0, c1, c2, c3, c4⟩ := HL.out _ ev.fr j hin
      have HS := hid hs
      have EV := hid ev
      clear hs ev
      by_cases hT : s.Text.size ≤ 2000
      · have d3 : decide ((s.Text.size : Int) ≤ 2000) = true := by simp; omega
        have hd := does_any EV.out.held hX (by omega) (by omega) s (HS.out.keep EV.out.fr) hT (kb_ne HS.out EV.out)
        go_wp2_with (go_at_call 17; refine hd.mono ?_; rintro e w5 ⟨rfl, X', lf', pb', qb', F', i', ev5, nx⟩)
        go_roundw
        case rel => exact ⟨j + 1, by omega, by omega, by go_num, X', lf', pb', qb', F', i', EV.out.trans ev5, nx.good, by have := nx.L; omega, by have := nx.T; omega⟩
        case measure => simp [intOf]; omega
      · have d3 : decide ((s.Text.size : Int) ≤ 2000) = false := by simp; omega
        go_wp2_with fail
        go_roundw
        case rel => exact ⟨j + 1, by omega, by omega, by go_num, X, lf, pb, qb, F, i, EV.out, hX, by omega, by omega⟩
        case measure => simp [intOf]; omega
    · by_cases hin : j < ln
      · have d1 : decide ((j : Int) < (ln : Int)) = true := by simp; omega
        have d1' : (j : Int) < (ln : Int) := by omega
        have d2 : decide ((j : Int) < 40) = false := by simp; omega
        have d2' : ¬ ((j : Int) < 40) := by omega
        have EV := hid ev
        have HX := hid hX
        have hcp := copy_any (Held.rep (Held.prC (l := []) ev.held)) (by simp only [dOf, List.length_map]; omega) (by simp only [dOf]; omega)
        clear ev
        go_wp2_with (first
          | (go_at_call 26; refine hcp.mono ?_; rintro e w3 ⟨c, Fc, rfl, hrc, f3, hFc⟩; have hxc := xcopy_any (Held.xpsOf (Held.prX (l := []) (EV.out.step f3).held)) HX.out (by omega) (by omega); clear hcp)
          | (go_at_call 27; refine hxc.mono ?_; rintro e w4 ⟨y, iy, rfl, ev4⟩; clear hxc))
        have e4 := pr_add EV.out hrc f3 hFc ev4
        have hsm := same_any (Held.rep (Held.prC (l := []) (Held.part [] _ (by simpa using e4.held)))) (Held.rep (Held.prC e4.held))
        rw [beq_self_eq_true, beq_self_eq_true, beq_self_eq_true] at hsm
        have E4 := hid e4
        clear hrc f3 hFc ev4 e4 EV
        go_wp2_with (go_at_call 28; refine hsm.mono ?_; rintro e w5 ⟨rfl, f5⟩; clear hsm)
        have e5 := E4.out.step f5
        clear f5
        go_loopw [12] (fun jv wr => ∃ g : Nat, g ≤ kn ∧ g ≤ 40 ∧ jv = .int .i64 (g : Int) ∧ ∃ Y lg pb' qb' G iy, Ev w [] wr (pr c (dOf Y) (mk pb' lg) G y Y (mk qb' lg) iy ++ pr d (dOf X) (mk pb lf) F x X (mk qb lf) i) ∧ XGood Y ∧ Y.L.length ≤ 40 + g ∧ Y.Trace.length ≤ 40 + g) (fun jv _ => 40 - (intOf jv).toNat)
        case atStart => exact ⟨0, Nat.zero_le _, Nat.zero_le _, rfl, X, none, 0, 0, Fc, iy, e5, HX.out, by omega, by omega⟩
        case round =>
          obtain ⟨g, hg, hg40, rfl, Y, lg, pb', qb', G, iy', ev, hY, hYL, hYT⟩ := hrel
          clear e5 E4
          by_cases hgk : g < kn ∧ g < 40
          · obtain ⟨hgk1, hgk2⟩ := hgk
            have d5 : decide ((g : Int) < (kn : Int)) = true := by simp; omega
            have d5' : (g : Int) < (kn : Int) := by omega
            have d6 : decide ((g : Int) < 40) = true := by simp; omega
            have d6' : (g : Int) < 40 := by omega
            obtain ⟨b, off, s, rfl, _, hs, c0, c1, c2, c3, c4⟩ := HK.out _ ev.fr g hgk1
            have HS := hid hs
            have EW := hid ev
            clear hs ev
            by_cases hT : s.Text.size ≤ 2000
            · have d7 : decide ((s.Text.size : Int) ≤ 2000) = true := by simp; omega
              have hpt := Held.part [] (pr d (dOf X) (mk pb lf) F x X (mk qb lf) i) (by simpa using EW.out.held)
              have hd := does_any hpt hY (by omega) (by omega) s (HS.out.keep EW.out.fr) hT (fun b hb hbf => kb_ne HS.out EW.out b hb (by simp only [feetOf, List.flatMap_append, List.mem_append] at hbf ⊢; exact .inl hbf))
              clear hpt
              go_wp2_with (go_at_call 17; refine hd.mono ?_; rintro e w6 ⟨rfl, X', lf', pb'', qb'', F', i', ev5, nx⟩)
              go_roundw
              case rel => exact ⟨g + 1, by omega, by omega, by go_num, X', lf', pb'', qb'', F', i', Ev.then [] _ EW.out ev5, nx.good, by have := nx.L; omega, by have := nx.T; omega⟩
              case measure => simp [intOf]; omega
            · have d7 : decide ((s.Text.size : Int) ≤ 2000) = false := by simp; omega
              go_wp2_with fail
              go_roundw
              case rel => exact ⟨g + 1, by omega, by omega, by go_num, Y, lg, pb', qb', G, iy', EW.out, hY, by omega, by omega⟩
              case measure => simp [intOf]; omega
          · have EW := hid ev
            have hpt := Held.part [] (pr d (dOf X) (mk pb lf) F x X (mk qb lf) i) (by simpa using ev.held)
            have HP := hid hpt
            clear ev hpt
            have HS1 := hid fun (w1 : World) (f : Fr [] wr w1) => stands_any (EW.out.held.keep0 f) HX.out (by omega) (by omega)
            have HS2 := hid fun (w1 : World) (f : Fr [] wr w1) => stands_any (l := []) (HP.out.keep0 f) hY (by omega) (by omega)
            have HS3 := hid fun (w1 : World) (f : Fr [] wr w1) => same_any (Held.rep (Held.prC (l := []) (HP.out.keep0 f))) (Held.rep (Held.prC (EW.out.held.keep0 f)))
            have HS4 := hid fun (w1 : World) (f : Fr [] wr w1) => xsame_any (Held.prX (l := []) (HP.out.keep0 f)) (Held.prX (EW.out.held.keep0 f)) hY HX.out (by omega) (by omega)
            have hsb : sameX Y X = (((dOf Y).dead == (dOf X).dead && (dOf Y).kept == (dOf X).kept) && (dOf Y).now == (dOf X).now) := rfl
            rw [← hsb] at HS3
            generalize sameX Y X = sb at *
            have hf := EW.out.fr
            clear hsb
            by_cases hgk2 : g < kn
            · have d5 : decide ((g : Int) < (kn : Int)) = true := by simp; omega
              have d5' : (g : Int) < (kn : Int) := by omega
              have d6 : decide ((g : Int) < 40) = false := by simp; omega
              have d6' : ¬ ((g : Int) < 40) := by omega
              cases sb
              · skip
                go_wp2_with (first
                  | (go_at_call 18; refine (HS1.out _ (Fr.refl _ _)).mono ?_; rintro e w7 ⟨rfl, f7⟩; clear HS1)
                  | (go_at_call 18; refine (HS2.out _ f7).mono ?_; rintro e w8 ⟨rfl, f8⟩; have g8 := f7.trans' f8)
                  | (go_at_call 28; refine (HS3.out _ g8).mono ?_; rintro e w9 ⟨rfl, f9⟩; have g9 := g8.trans' f9)
                  | (go_at_call 29; refine (HS4.out _ g9).mono ?_; rintro e w10 ⟨rfl, f10⟩; have g10 := g9.trans' f10)
                  | (go_at_call 15; refine alive_any.mono ?_; rintro e w11 ⟨rfl, f11⟩))
                go_ret
                exact ⟨rfl, hf.trans' (g10.trans' f11)⟩
              · skip
                go_wp2_with (first
                  | (go_at_call 18; refine (HS1.out _ (Fr.refl _ _)).mono ?_; rintro e w7 ⟨rfl, f7⟩; clear HS1)
                  | (go_at_call 18; refine (HS2.out _ f7).mono ?_; rintro e w8 ⟨rfl, f8⟩; have g8 := f7.trans' f8)
                  | (go_at_call 28; refine (HS3.out _ g8).mono ?_; rintro e w9 ⟨rfl, f9⟩; have g9 := g8.trans' f9)
                  | (go_at_call 29; refine (HS4.out _ g9).mono ?_; rintro e w10 ⟨rfl, f10⟩; have g10 := g9.trans' f10)
                  | (go_at_call 15; refine alive_any.mono ?_; rintro e w11 ⟨rfl, f11⟩))
                go_ret
                exact ⟨rfl, hf.trans' (g10.trans' f11)⟩
            · have d5 : decide ((g : Int) < (kn : Int)) = false := by simp; omega
              have d5' : ¬ ((g : Int) < (kn : Int)) := by omega
              cases sb
              · skip
                go_wp2_with (first
                  | (go_at_call 18; refine (HS1.out _ (Fr.refl _ _)).mono ?_; rintro e w7 ⟨rfl, f7⟩; clear HS1)
                  | (go_at_call 18; refine (HS2.out _ f7).mono ?_; rintro e w8 ⟨rfl, f8⟩; have g8 := f7.trans' f8)
                  | (go_at_call 28; refine (HS3.out _ g8).mono ?_; rintro e w9 ⟨rfl, f9⟩; have g9 := g8.trans' f9)
                  | (go_at_call 29; refine (HS4.out _ g9).mono ?_; rintro e w10 ⟨rfl, f10⟩; have g10 := g9.trans' f10)
                  | (go_at_call 15; refine alive_any.mono ?_; rintro e w11 ⟨rfl, f11⟩))
                go_ret
                exact ⟨rfl, hf.trans' (g10.trans' f11)⟩
              · skip
                go_wp2_with (first
                  | (go_at_call 18; refine (HS1.out _ (Fr.refl _ _)).mono ?_; rintro e w7 ⟨rfl, f7⟩; clear HS1)
                  | (go_at_call 18; refine (HS2.out _ f7).mono ?_; rintro e w8 ⟨rfl, f8⟩; have g8 := f7.trans' f8)
                  | (go_at_call 28; refine (HS3.out _ g8).mono ?_; rintro e w9 ⟨rfl, f9⟩; have g9 := g8.trans' f9)
                  | (go_at_call 29; refine (HS4.out _ g9).mono ?_; rintro e w10 ⟨rfl, f10⟩; have g10 := g9.trans' f10)
                  | (go_at_call 15; refine alive_any.mono ?_; rintro e w11 ⟨rfl, f11⟩))
                go_ret
                exact ⟨rfl, hf.trans' (g10.trans' f11)⟩
      · have d1 : decide ((j : Int) < (ln : Int)) = false := by simp; omega
        have d1' : ¬ ((j : Int) < (ln : Int)) := by omega
        have EV := hid ev
        have HX := hid hX
        have hcp := copy_any (Held.rep (Held.prC (l := []) ev.held)) (by simp only [dOf, List.length_map]; omega) (by simp only [dOf]; omega)
        clear ev
        go_wp2_with (first
          | (go_at_call 26; refine hcp.mono ?_; rintro e w3 ⟨c, Fc, rfl, hrc, f3, hFc⟩; have hxc := xcopy_any (Held.xpsOf (Held.prX (l := []) (EV.out.step f3).held)) HX.out (by omega) (by omega); clear hcp)
          | (go_at_call 27; refine hxc.mono ?_; rintro e w4 ⟨y, iy, rfl, ev4⟩; clear hxc))
        have e4 := pr_add EV.out hrc f3 hFc ev4
        have hsm := same_any (Held.rep (Held.prC (l := []) (Held.part [] _ (by simpa using e4.held)))) (Held.rep (Held.prC e4.held))
        rw [beq_self_eq_true, beq_self_eq_true, beq_self_eq_true] at hsm
        have E4 := hid e4
        clear hrc f3 hFc ev4 e4 EV
        go_wp2_with (go_at_call 28; refine hsm.mono ?_; rintro e w5 ⟨rfl, f5⟩; clear hsm)
        have e5 := E4.out.step f5
        clear f5
        go_loopw [12] (fun jv wr => ∃ g : Nat, g ≤ kn ∧ g ≤ 40 ∧ jv = .int .i64 (g : Int) ∧ ∃ Y lg pb' qb' G iy, Ev w [] wr (pr c (dOf Y) (mk pb' lg) G y Y (mk qb' lg) iy ++ pr d (dOf X) (mk pb lf) F x X (mk qb lf) i) ∧ XGood Y ∧ Y.L.length ≤ 40 + g ∧ Y.Trace.length ≤ 40 + g) (fun jv _ => 40 - (intOf jv).toNat)
        case atStart => exact ⟨0, Nat.zero_le _, Nat.zero_le _, rfl, X, none, 0, 0, Fc, iy, e5, HX.out, by omega, by omega⟩
        case round =>
          obtain ⟨g, hg, hg40, rfl, Y, lg, pb', qb', G, iy', ev, hY, hYL, hYT⟩ := hrel
          clear e5 E4
          by_cases hgk : g < kn ∧ g < 40
          · obtain ⟨hgk1, hgk2⟩ := hgk
            have d5 : decide ((g : Int) < (kn : Int)) = true := by simp; omega
            have d5' : (g : Int) < (kn : Int) := by omega
            have d6 : decide ((g : Int) < 40) = true := by simp; omega
            have d6' : (g : Int) < 40 := by omega
            obtain ⟨b, off, s, rfl, _, hs, c0, c1, c2, c3, c4⟩ := HK.out _ ev.fr g hgk1
            have HS := hid hs
            have EW := hid ev
            clear hs ev
            by_cases hT : s.Text.size ≤ 2000
            · have d7 : decide ((s.Text.size : Int) ≤ 2000) = true := by simp; omega
              have hpt := Held.part [] (pr d (dOf X) (mk pb lf) F x X (mk qb lf) i) (by simpa using EW.out.held)
              have hd := does_any hpt hY (by omega) (by omega) s (HS.out.keep EW.out.fr) hT (fun b hb hbf => kb_ne HS.out EW.out b hb (by simp only [feetOf, List.flatMap_append, List.mem_append] at hbf ⊢; exact .inl hbf))
              clear hpt
              go_wp2_with (go_at_call 17; refine hd.mono ?_; rintro e w6 ⟨rfl, X', lf', pb'', qb'', F', i', ev5, nx⟩)
              go_roundw
              case rel => exact ⟨g + 1, by omega, by omega, by go_num, X', lf', pb'', qb'', F', i', Ev.then [] _ EW.out ev5, nx.good, by have := nx.L; omega, by have := nx.T; omega⟩
              case measure => simp [intOf]; omega
            · have d7 : decide ((s.Text.size : Int) ≤ 2000) = false := by simp; omega
              go_wp2_with fail
              go_roundw
              case rel => exact ⟨g + 1, by omega, by omega, by go_num, Y, lg, pb', qb', G, iy', EW.out, hY, by omega, by omega⟩
              case measure => simp [intOf]; omega
          · have EW := hid ev
            have hpt := Held.part [] (pr d (dOf X) (mk pb lf) F x X (mk qb lf) i) (by simpa using ev.held)
            have HP := hid hpt
            clear ev hpt
            have HS1 := hid fun (w1 : World) (f : Fr [] wr w1) => stands_any (EW.out.held.keep0 f) HX.out (by omega) (by omega)
            have HS2 := hid fun (w1 : World) (f : Fr [] wr w1) => stands_any (l := []) (HP.out.keep0 f) hY (by omega) (by omega)
            have HS3 := hid fun (w1 : World) (f : Fr [] wr w1) => same_any (Held.rep (Held.prC (l := []) (HP.out.keep0 f))) (Held.rep (Held.prC (EW.out.held.keep0 f)))
            have HS4 := hid fun (w1 : World) (f : Fr [] wr w1) => xsame_any (Held.prX (l := []) (HP.out.keep0 f)) (Held.prX (EW.out.held.keep0 f)) hY HX.out (by omega) (by omega)
            have hsb : sameX Y X = (((dOf Y).dead == (dOf X).dead && (dOf Y).kept == (dOf X).kept) && (dOf Y).now == (dOf X).now) := rfl
            rw [← hsb] at HS3
            generalize sameX Y X = sb at *
            have hf := EW.out.fr
            clear hsb
            by_cases hgk2 : g < kn
            · have d5 : decide ((g : Int) < (kn : Int)) = true := by simp; omega
              have d5' : (g : Int) < (kn : Int) := by omega
              have d6 : decide ((g : Int) < 40) = false := by simp; omega
              have d6' : ¬ ((g : Int) < 40) := by omega
              cases sb
              · skip
                go_wp2_with (first
                  | (go_at_call 18; refine (HS1.out _ (Fr.refl _ _)).mono ?_; rintro e w7 ⟨rfl, f7⟩; clear HS1)
                  | (go_at_call 18; refine (HS2.out _ f7).mono ?_; rintro e w8 ⟨rfl, f8⟩; have g8 := f7.trans' f8)
                  | (go_at_call 28; refine (HS3.out _ g8).mono ?_; rintro e w9 ⟨rfl, f9⟩; have g9 := g8.trans' f9)
                  | (go_at_call 29; refine (HS4.out _ g9).mono ?_; rintro e w10 ⟨rfl, f10⟩; have g10 := g9.trans' f10)
                  | (go_at_call 15; refine alive_any.mono ?_; rintro e w11 ⟨rfl, f11⟩))
                go_ret
                exact ⟨rfl, hf.trans' (g10.trans' f11)⟩
              · skip
                go_wp2_with (first
                  | (go_at_call 18; refine (HS1.out _ (Fr.refl _ _)).mono ?_; rintro e w7 ⟨rfl, f7⟩; clear HS1)
                  | (go_at_call 18; refine (HS2.out _ f7).mono ?_; rintro e w8 ⟨rfl, f8⟩; have g8 := f7.trans' f8)
                  | (go_at_call 28; refine (HS3.out _ g8).mono ?_; rintro e w9 ⟨rfl, f9⟩; have g9 := g8.trans' f9)
                  | (go_at_call 29; refine (HS4.out _ g9).mono ?_; rintro e w10 ⟨rfl, f10⟩; have g10 := g9.trans' f10)
                  | (go_at_call 15; refine alive_any.mono ?_; rintro e w11 ⟨rfl, f11⟩))
                go_ret
                exact ⟨rfl, hf.trans' (g10.trans' f11)⟩
            · have d5 : decide ((g : Int) < (kn : Int)) = false := by simp; omega
              have d5' : ¬ ((g : Int) < (kn : Int)) := by omega
              cases sb
              · skip
                go_wp2_with (first
                  | (go_at_call 18; refine (HS1.out _ (Fr.refl _ _)).mono ?_; rintro e w7 ⟨rfl, f7⟩; clear HS1)
                  | (go_at_call 18; refine (HS2.out _ f7).mono ?_; rintro e w8 ⟨rfl, f8⟩; have g8 := f7.trans' f8)
                  | (go_at_call 28; refine (HS3.out _ g8).mono ?_; rintro e w9 ⟨rfl, f9⟩; have g9 := g8.trans' f9)
                  | (go_at_call 29; refine (HS4.out _ g9).mono ?_; rintro e w10 ⟨rfl, f10⟩; have g10 := g9.trans' f10)
                  | (go_at_call 15; refine alive_any.mono ?_; rintro e w11 ⟨rfl, f11⟩))
                go_ret
                exact ⟨rfl, hf.trans' (g10.trans' f11)⟩
              · skip
                go_wp2_with (first
                  | (go_at_call 18; refine (HS1.out _ (Fr.refl _ _)).mono ?_; rintro e w7 ⟨rfl, f7⟩; clear HS1)
                  | (go_at_call 18; refine (HS2.out _ f7).mono ?_; rintro e w8 ⟨rfl, f8⟩; have g8 := f7.trans' f8)
                  | (go_at_call 28; refine (HS3.out _ g8).mono ?_; rintro e w9 ⟨rfl, f9⟩; have g9 := g8.trans' f9)
                  | (go_at_call 29; refine (HS4.out _ g9).mono ?_; rintro e w10 ⟨rfl, f10⟩; have g10 := g9.trans' f10)
                  | (go_at_call 15; refine alive_any.mono ?_; rintro e w11 ⟨rfl, f11⟩))
                go_ret
                exact ⟨rfl, hf.trans' (g10.trans' f11)⟩
end Go.Proofs.Ytflapddkeeiieaa

/- Layer 6: two pairs of disks on one power. -/
namespace Go.Proofs.Ytflapddkeeiieaa
open Go Go.Xr Go.RowKit
set_option linter.unusedVariables false
set_option linter.unusedSimpArgs false
section
variable {w w1 w2 w' : World} {l m rs : List Res} {p q n n' d d' x x' : Nat} {X X' Y : XD} {F F' G : List Nat} {i i' j : XI} {D D' : SD} {pc px : Option (Nat × Nat)}
theorem disk_left (d : Nat) (D : SD) (p n m : Nat) (F : List Nat) : Res.disk d D (some (p, n)) F = Res.disk d D (some (p, m)) F := by
  have e : (fun w => Rep w d D (some (p, n)) F) = (fun w => Rep w d D (some (p, m)) F) := by
    funext w
    exact propext ⟨fun h => ⟨h.good, h.mem⟩, fun h => ⟨h.good, h.mem⟩⟩
  unfold Res.disk
  rw [e]
/-- A disk of the code's and one of the document's. -/
def dx (d : Nat) (D : SD) (pc : Option (Nat × Nat)) (F : List Nat) (x : Nat) (X : XD) (px : Option (Nat × Nat)) (i : XI) : List Res := Res.disk d D pc F :: xps x X px i
def two (p q n : Nat) (d x : Nat) (X : XD) (F : List Nat) (i : XI) (d' x' : Nat) (Y : XD) (G : List Nat) (j : XI) : List Res :=
  pr d (dOf X) (mk p (some n)) F x X (mk q (some n)) i ++ dx d' (dOf Y) (mk p (some n)) G x' Y (mk q (some n)) j
theorem pr_perm (d : Nat) (D : SD) (pc : Option (Nat × Nat)) (F : List Nat) (x : Nat) (X : XD) (px : Option (Nat × Nat)) (i : XI) : (pr d D pc F x X px i).Perm (Res.pow pc :: Res.pow px :: dx d D pc F x X px i) :=
  List.Perm.cons _ (List.Perm.swap _ _ _)
theorem two_perm : (two p q n d x X F i d' x' Y G j).Perm (Res.pow (some (p, n)) :: Res.pow (some (q, n)) :: (dx d (dOf X) (some (p, n)) F x X (some (q, n)) i ++ dx d' (dOf Y) (some (p, n)) G x' Y (some (q, n)) j)) :=
  (pr_perm _ _ _ _ _ _ _ _).append_right _
theorem two_swap : (two p q n d x X F i d' x' Y G j).Perm (two p q n d' x' Y G j d x X F i) :=
  two_perm.trans ((List.Perm.cons _ (List.Perm.cons _ List.perm_append_comm)).trans two_perm.symm)
/-- The first of the two takes a step. -/
theorem two_step (e : Ev w rs w1 (l ++ two p q n d x X F i d' x' Y G j)) (ev : Ev w1 (pr d (dOf X) (mk p (some n)) F x X (mk q (some n)) i) w2 (pr d (dOf X') (mk p (some n')) F' x X' (mk q (some n')) i')) :
    Ev w rs w2 (l ++ two p q n' d x X' F' i' d' x' Y G j) := by
  have e2 := Ev.then l (dx d' (dOf Y) (mk p (some n)) G x' Y (mk q (some n)) j) (by unfold two at e; rw [List.append_assoc]; exact e) ev
  rw [List.append_assoc] at e2
  have e3 : dx d' (dOf Y) (mk p (some n)) G x' Y (mk q (some n)) j = dx d' (dOf Y) (mk p (some n')) G x' Y (mk q (some n')) j := by
    unfold dx
    rw [show mk p (some n) = some (p, n) from rfl, show mk p (some n') = some (p, n') from rfl, disk_left d' (dOf Y) p n n']
    rfl
  unfold two
  rw [← e3]
  exact e2
theorem two_first (h : Held w (l ++ two p q n d x X F i d' x' Y G j)) : Held w (pr d (dOf X) (mk p (some n)) F x X (mk q (some n)) i) := Held.part l _ (by unfold two at h; rw [List.append_assoc]; exact h)
/-- A disk that is wired to a power that lies elsewhere. -/
theorem wire2_any (h : Held w (pr d (dOf X) (mk 0 none) F x Y px i)) (hd : X.Dead = false) :
    Calls Try.prog 20 #[.pointer (some ⟨d, 0, none⟩), .pointer (some ⟨p, 0, none⟩)] w fun e w' => e = .returned (.int .i64 0) ∧ Ev w (pr d (dOf X) (mk 0 none) F x Y px i) w' (Res.pow px :: dx d (dOf X) (some (p, n)) F x Y px i) := by
  have hc := Held.prC (l := []) h
  have ha : ableN (dOf X) (mk 0 none) = 0 := by rw [ableN_mk X 0 0]; unfold xdead; rw [hd]; rfl
  refine (wire_ok (Held.rep hc) (Held.powOk hc) ha p n).mono ?_
  rintro e w' ⟨rfl, hr, f, hsz⟩
  have hdF : d ∈ F := by obtain ⟨kc, nc, lv, tv, k, n, L, T, hF, _⟩ := (Held.rep hc).open; rw [hF]; simp [feet]
  have f2 : Fr F w w' := f.mono (fun y hy => .inl (by simp at hy; rw [hy]; exact hdF))
  have e1 := (Ev.refl h).at 1 (r := Res.disk d (dOf X) none F) rfl f2 (fun b hb => .inl hb) (On.disk hr) (fun b hb => .inl hb)
  have e2 : Ev w (pr d (dOf X) (mk 0 none) F x Y px i) w' (Res.disk d (dOf X) (some (p, n)) F :: Res.pow px :: xps x Y px i) := Ev.less [] _ e1
  exact ⟨rfl, Ev.perm e2 (List.Perm.swap _ _ _)⟩
theorem dwire2_any (h : Held w (Res.pow none :: dx d D pc F x X none i)) (hd : X.Dead = false) :
    Calls Try.prog 21 #[.pointer (some ⟨x, 0, none⟩), .pointer (some ⟨p, 0, none⟩)] w fun e w' => e = .returned (.int .i64 0) ∧ Ev w (Res.pow none :: dx d D pc F x X none i) w' (dx d D pc F x X (some (p, n)) i) := by
  have hp : Held w (Res.disk d D pc F :: Res.pow none :: xps x X none i) := h.perm (List.Perm.swap _ _ _)
  have hx : Held w (Res.pow none :: xps x X none i) := Held.part [Res.disk d D pc F] [] (by simpa using hp)
  refine (xwire_ok hx (some (p, n)) (by unfold xdead; rw [hd]; rfl)).mono ?_
  rintro e w' ⟨rfl, ev⟩
  refine ⟨rfl, ?_⟩
  have e1 := Ev.part [Res.pow none, Res.disk d D pc F] [] (by simpa [dx] using h) ev
  rw [List.append_nil, List.append_nil] at e1
  exact Ev.less [] _ e1
/-- Crash of a disk, whatever its power. -/
theorem ccrash_d (h : Held w (dx d (dOf X) pc F x Y px i)) (hl : X.L.length < 1000000) :
    Calls Try.prog 12 #[.pointer (some ⟨d, 0, none⟩), .slice none 0 0] w fun e w' => e = .returned (.int .i64 (if X.Dead then 60 else 0)) ∧ ∃ F', Ev w (dx d (dOf X) pc F x Y px i) w' (dx d (dOf (crX X [])) none F' x Y px i) := by
  have hr0 : Rep w d (dOf X) pc F := h.at 0 rfl
  unfold crX
  cases hd : X.Dead with
  | true =>
    refine (crash_dead hr0 (.slice none 0 0) hd).mono ?_
    rintro e w' ⟨rfl, hr, f⟩
    exact ⟨rfl, F, (Ev.refl h).at 0 (r := Res.disk d (dOf X) pc F) rfl f (fun b hb => .inl hb) (On.disk hr) (fun b hb => .inl hb)⟩
  | false =>
    refine (crash_ok hr0 hd (by simpa [dOf] using hl) (kv0 := .slice none 0 0) (ks := []) (KB := none) (Rc.nil w 1) (fun b hb => by cases hb) (Nat.zero_le _)).mono ?_
    rintro e w' ⟨rfl, F', hr, f, hF⟩
    rw [dOf_crash, hd] at hr
    exact ⟨rfl, F', (Ev.refl h).at 0 (r := Res.disk d (dOf X) pc F) rfl f (fun b hb => .inl hb) (On.disk hr) (fun b hb => hF b hb)⟩
theorem dcrash_d (h : Held w (dx d D pc F x X px i)) (hX : XGood X) (hl : X.L.length < 1000000) :
    Calls Try.prog 24 #[.pointer (some ⟨x, 0, none⟩), .slice none 0 0] w fun e w' => e = .returned (.int .i64 (if X.Dead then 60 else 0)) ∧ ∃ i', Ev w (dx d D pc F x X px i) w' (dx d D pc F x (crX X []) none i') := by
  have hx : Held w (xps x X px i) := Held.part [Res.disk d D pc F] [] (by simpa [dx] using h)
  have key : ∀ {w' : World} {Z : XD} {i' : XI}, Ev w (xps x X px i) w' (xps x Z none i') → Ev w (dx d D pc F x X px i) w' (dx d D pc F x Z none i') := by
    intro w' Z i' ev
    have e1 := Ev.part [Res.disk d D pc F] [] (by simpa [dx] using h) ev
    rw [List.append_nil, List.append_nil] at e1
    exact e1
  unfold crX
  cases hd : X.Dead with
  | true =>
    refine (xcrash_dead hx _ hd).mono ?_
    rintro e w' ⟨rfl, ev⟩
    exact ⟨rfl, i, key ev⟩
  | false =>
    refine (xcrash_ok hx hd hX.pos hX.le (fun p hp => (hX.l512 p hp).2) hl (v := .slice none 0 0) (ks := []) (KB := none) (Rc.nil w 1) (fun b hb => by cases hb) (by decide)).mono ?_
    rintro e w' ⟨rfl, i', ev⟩
    rw [hd] at ev
    exact ⟨rfl, i', key ev⟩
/-- Without powers, the two are a pair. -/
theorem dx_pr (h : Held w (dx d D none F x X none i)) : Held w (pr d D (mk 0 none) F x X (mk 0 none) i) := by
  have h1 : Held w (Res.pow none :: Res.pow none :: dx d D none F x X none i) := (h.new (pow0 w) (fun b hb => by simp [Res.pow, pwF] at hb)).new (pow0 w) (fun b hb => by simp [Res.pow, pwF] at hb)
  exact h1.perm (pr_perm _ _ _ _ _ _ _ _).symm
theorem feet_pr0 : feetOf (pr d D (mk 0 none) F x X (mk 0 none) i) = feetOf (dx d D none F x X none i) := by
  simp [feetOf, pr, dx, mk, Res.pow, pwF]
theorem pr_dx (e : Ev w (pr d D (mk 0 none) F x X (mk 0 none) i) w' (pr d D' (mk 0 none) F' x X' (mk 0 none) i')) : Ev w (dx d D none F x X none i) w' (dx d D' none F' x X' none i') := by
  refine ⟨?_, ?_, ?_⟩
  · exact Held.part [Res.pow none, Res.pow none] [] (by rw [List.append_nil]; exact e.held.perm (pr_perm _ _ _ _ _ _ _ _))
  · have := e.fr
    rw [feet_pr0] at this
    exact this
  · have := e.low
    rw [feet_pr0, feet_pr0] at this
    exact this
end
end Go.Proofs.Ytflapddkeeiieaa
