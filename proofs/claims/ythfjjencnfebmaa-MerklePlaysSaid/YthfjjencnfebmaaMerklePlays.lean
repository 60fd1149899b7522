/- Layer 10: MerklePlays, the walk. -/
import Derived.Test.YthfjjencnfebmaaMerkleSound
namespace Go.Proofs.Ythfjjencnfebmaa.mer
open Go Go.Xr Go.RowKit
set_option linter.unusedVariables false
set_option linter.unusedSimpArgs false
structure StepD where
  Do : Int
  I : Int
  Tag : ByteArray
instance : Inhabited StepD := ⟨⟨0, 0, ⟨#[]⟩⟩⟩
def stc (t : StepD) : List Value := [.int .i64 t.Do, .int .i64 t.I, .string t.Tag]
theorem stc_len (a : StepD) : (stc a).length = 3 := rfl
set_option maxRecDepth 20000 in
theorem open_steps {H : Type} {enc : TypeId × Value → H} {w : World} {base : Nat} {spare : Nat → Bool} {held : Bool} {fuel : Nat} {cs : List Value} {x : DataW H × List MemPlace} (h : DataW.trod enc Try.prog w base spare held fuel 52 cs = some x) :
    ∃ (v : Value) (l : List StepD) (B : Option Nat), cs = [v] ∧ Rc w 3 v l.length (l.flatMap stc) B ∧ (∀ a ∈ l, True) ∧ l.length ≤ maxLen := by
  refine open_rows stc (fun _ => True) 3 (by decide) stc_len Try.underlying52 rfl (fun n cs x hx => ?_) h
  obtain ⟨xs, n', _, _, hlen, hxl, hf⟩ := DataW.trod_struct Try.underlying54 hx
  have hlen3 : cs.length = 3 := hlen
  have hxl3 : xs.length = 3 := hxl
  match cs, hlen3, xs, hxl3 with
  | [c0, c1, c2], _, [x0, x1, x2], _ =>
    obtain ⟨n0, h0, _, w0⟩ := DataW.trod_int Try.underlying3 (hf 0 _ rfl)
    obtain ⟨n1, h1, _, w1⟩ := DataW.trod_int Try.underlying3 (hf 1 _ rfl)
    obtain ⟨s2, h2, _, w2⟩ := DataW.trod_string Try.underlying9 (hf 2 _ rfl)
    have e0 : c0 = .int .i64 n0 := List.singleton_inj.1 h0
    have e1 : c1 = .int .i64 n1 := List.singleton_inj.1 h1
    have e2 : c2 = .string s2 := List.singleton_inj.1 h2
    refine ⟨⟨n0, n1, s2⟩, ?_, trivial⟩
    rw [e0, e1, e2]
    rfl
theorem step_at {w : World} {ua : Option Addr} {n uc i : Nat} {l : List StepD} {B : Option Nat} (h : Rc w 3 (.slice ua n uc) n (l.flatMap stc) B) (hn : l.length = n) (hi : i < n) :
    ∃ b off, ua = some ⟨b, off, none⟩ ∧ ∃ (h : i < l.length), ∀ j, j < 3 → w.cell? ⟨b, off + i * 3 + j, none⟩ = (stc l[i])[j]? := by
  obtain ⟨b, off, c, hB, hv, h1, h2, h3, h4⟩ := h.some (by omega)
  obtain ⟨rfl, rfl⟩ : ua = some ⟨b, off, none⟩ ∧ uc = c := by simpa using hv
  refine ⟨b, off, rfl, by omega, fun j hj => ?_⟩
  rw [← flat_get stc 3 stc_len l i j (by omega) hj, Nat.add_assoc]
  exact h4 _ (by rw [Go.Xr.flat_len stc 3 stc_len]; omega)
set_option maxRecDepth 20000 in
theorem stepT : AggT Try.prog 54 3 := ⟨_, Try.underlying54, rfl, by kernel_rfl⟩
set_option maxRecDepth 20000 in
theorem infSt : ∃ i, Try.prog.info? 54 = some i ∧ i.zero = some (.agg #[.int .i64 0, .int .i64 0, .string ⟨#[]⟩]) := ⟨_, rfl, rfl⟩
/-- Set, whatever it is asked: it writes into the tree's own blocks alone. -/
theorem set_gen {w : World} {bl : List Nat} {tb : Nat} {tags : List ByteArray} (h : TreeAt w bl tb tags (rowsS tags)) (hn : 0 < tags.length) (hl : tags.length ≤ 16384) (i : Int) (tag : ByteArray) : Calls Try.prog 20 #[.pointer (some ⟨tb, 0, none⟩), .int .i64 i, .string tag] w fun e w' => (∃ r : Int, e = .returned (.int .i64 r)) ∧ Fr bl w w' := by
  by_cases hi : 0 ≤ i ∧ i < tags.length
  · by_cases hs : tag.size = 0 ∨ tag.size = 32
    · obtain ⟨I, rfl⟩ : ∃ I : Nat, i = (I : Int) := ⟨i.toNat, by omega⟩
      refine (set_any h hl I tag (by omega) hs).mono ?_
      rintro e w1 ⟨rfl, _, f⟩
      exact ⟨⟨_, rfl⟩, f⟩
    · refine (set_size h hn i tag hi (by omega)).mono ?_
      rintro e w1 ⟨rfl, rfl⟩
      exact ⟨⟨_, rfl⟩, Fr.refl _ _⟩
  · refine (set_not h hn i tag hi).mono ?_
    rintro e w1 ⟨rfl, rfl⟩
    exact ⟨⟨_, rfl⟩, Fr.refl _ _⟩
/-- Between two calls: the tree, and the tags that it has. -/
def PlayI (w0 : World) (m tg : Nat) (tv : Value) (w : World) : Prop :=
  ∃ tb bl T, tv = .pointer (some ⟨tb, 0, none⟩) ∧ TreeAt w bl tb T (rowsS T) ∧ T.length = m ∧ Xr.Own w 1 (.slice (some ⟨tg, 0, none⟩) m m) m (T.map .string) (some tg) ∧ (∀ x ∈ T, x.size ≤ 32) ∧ (∀ b ∈ bl, w0.heap.size ≤ b) ∧ tg ∉ bl ∧ Fr [] w0 w
theorem len_keep {w : World} {bl : List Nat} {tb m : Nat} {tags : List ByteArray} {rows : List (List ByteArray)} (h : TreeAt w bl tb tags rows) (hm : tags.length = m) : ∀ w0, Fr [] w w0 → Calls Try.prog 24 #[.pointer (some ⟨tb, 0, none⟩)] w0 fun e w' => e = .returned (.int .i64 (m : Int)) ∧ w' = w0 := fun w0 f => by
  have := len_any (h.keep f (by simp))
  rw [hm] at this
  exact this
theorem root_keep {w : World} {bl : List Nat} {tb : Nat} {tags : List ByteArray} (h : TreeAt w bl tb tags (rowsS tags)) (hm : 0 < tags.length) : ∀ w0, Fr [] w w0 → Calls Try.prog 22 #[.pointer (some ⟨tb, 0, none⟩)] w0 fun e w' => e = .returned (.string (rootS tags)) ∧ Fr [] w0 w' := fun w0 f => by
  have h0 := h.keep f (by simp)
  obtain ⟨pre, er⟩ := rowsS_root tags hm
  rw [er] at h0
  exact root_any h0 hm
theorem rroot_keep {w : World} {tg m : Nat} {tags : List ByteArray} (h : Xr.Own w 1 (.slice (some ⟨tg, 0, none⟩) m m) m (tags.map .string) (some tg)) (hm : tags.length = m) (h0 : 0 < m) (h1 : m ≤ 16384) (hs : ∀ x ∈ tags, x.size ≤ 32) : ∀ w0, Fr [] w w0 → Calls Try.prog 15 #[.slice (some ⟨tg, 0, none⟩) m m] w0 fun e w' => e = .returned (.string (rootS tags)) ∧ Fr [] w0 w' := fun w0 f => by
  have := rroot_any (w := w0) (rc_as (l' := tags) (h.rd.rc.keep f (by simp)) hm.symm rfl) (by omega) (by omega) fun s hs' => by have := hs s hs'; omega
  exact this
set_option maxRecDepth 20000 in
set_option maxHeartbeats 4000000 in
theorem plays_walk {w : World} {v : Value} {l : List StepD} {B : Option Nat} (n : Int) (h : Rc w 3 v l.length (l.flatMap stc) B) (hm : l.length ≤ 9223372036854775807) :
    Calls Try.prog 8 #[.int .i64 n, v] w fun e w' => e = .returned (.bool true) ∧ Fr [] w w' := by
  obtain ⟨i9, hi9, hz9, hs9, hb9⟩ := inf9
  have Hi := hid hi9
  have Hz := hid hz9
  have Hs := hid hs9
  have Hb := hid hb9
  obtain ⟨ist, hist, hzst⟩ := infSt
  have HiS := hid hist
  have HzS := hid hzst
  clear hi9 hz9 hs9 hb9 hist hzst
  obtain ⟨la, lc, rfl⟩ := h.isSlice
  have H := hid h
  obtain ⟨M, hmm⟩ : ∃ M, l.length = M := ⟨_, rfl⟩
  have Hm := hid hmm
  rw [hmm] at hm ⊢
  clear h hmm
  by_cases hA : 100 < n ∧ n ≤ 16384
  · have d1 : decide (100 < n) = true := by simp; omega
    have d2 : decide (n ≤ 16384) = true := by simp; omega
    go_enter Try.func8, Try.ntmps8
    go_wp2_with (go_at_call 10; refine alive_any.mono ?_; rintro e w3 ⟨rfl, f3⟩)
    go_ret
    exact ⟨rfl, f3⟩
  by_cases hL : 12 < M
  · have d3 : decide ((12 : Int) < (M : Int)) = true := by simp; omega
    by_cases h1 : 100 < n
    · have d1 : decide (100 < n) = true := by simp; omega
      have d2 : decide (n ≤ 16384) = false := by simp; omega
      go_enter Try.func8, Try.ntmps8
      go_wp2_with (go_at_call 10; refine alive_any.mono ?_; rintro e w3 ⟨rfl, f3⟩)
      go_ret
      exact ⟨rfl, f3⟩
    · have d1 : decide (100 < n) = false := by simp; omega
      go_enter Try.func8, Try.ntmps8
      go_wp2_with (go_at_call 10; refine alive_any.mono ?_; rintro e w3 ⟨rfl, f3⟩)
      go_ret
      exact ⟨rfl, f3⟩
  have d3 : decide ((12 : Int) < (M : Int)) = false := by simp; omega
  have d3' : ¬ ((12 : Int) < (M : Int)) := by omega
  by_cases hbad : n < 1 ∨ n > 16384
  · have HB := hid fun w0 : World => new_bad (w := w0) n hbad
    by_cases h1 : n < 1
    · have d1 : decide (100 < n) = false := by simp; omega
      have d4 : decide (n < 1) = true := by simp; omega
      go_enter Try.func8, Try.ntmps8
      go_wp2_with (first
        | (go_at_call 19; refine (HB.out _).mono ?_; rintro e w2 ⟨rfl, hw⟩; have hw' := hw.symm; subst hw')
        | (go_at_call 10; refine alive_any.mono ?_; rintro e w3 ⟨rfl, f3⟩))
      go_ret
      exact ⟨rfl, f3⟩
    · have d1 : decide (100 < n) = true := by simp; omega
      have d2 : decide (n ≤ 16384) = false := by simp; omega
      have d4 : decide (n < 1) = false := by simp; omega
      have d5 : decide (16384 < n) = true := by simp; omega
      go_enter Try.func8, Try.ntmps8
      go_wp2_with (first
        | (go_at_call 19; refine (HB.out _).mono ?_; rintro e w2 ⟨rfl, hw⟩; have hw' := hw.symm; subst hw')
        | (go_at_call 10; refine alive_any.mono ?_; rintro e w3 ⟨rfl, f3⟩))
      go_ret
      exact ⟨rfl, f3⟩
  obtain ⟨m, rfl⟩ : ∃ m : Nat, n = (m : Int) := ⟨n.toNat, by omega⟩
  have hm1 : 1 ≤ m := by omega
  have hmb : m ≤ 100 := by omega
  have d1 : decide ((100 : Int) < (m : Int)) = false := by simp; omega
  have d1' : ¬ ((100 : Int) < (m : Int)) := by omega
  have d4 : decide ((m : Int) < 1) = false := by simp; omega
  have d4' : ¬ ((m : Int) < 1) := by omega
  have d5 : decide ((16384 : Int) < (m : Int)) = false := by simp; omega
  have d5' : ¬ ((16384 : Int) < (m : Int)) := by omega
  have HN := hid fun w0 : World => new_any (w := w0) m hm1 (by omega)
  clear hA hL hbad
  go_enter Try.func8, Try.ntmps8
  go_wp2_with (first
    | (go_at_call 19; refine (HN.out _).mono ?_; rintro e w2 ⟨tb, bl, rfl, hT, hbl, f2⟩)
    | (refine wpList_make_blk rfl _ _ _ rfl m m .i64 .i64 rfl rfl 9 _ _ 16 Try.underlying22 Hi.out Hz.out Hs.out Hb.out rfl (Nat.le_refl _) (by omega) (by omega) ?_; intro w3 f3 hlt3 hb3; simp only [World.size_alloc, World.size_drew, Act.put, List.setIfInBounds_toArray, List.set_cons_succ, List.set_cons_zero]))
  obtain ⟨tg, htg⟩ : ∃ tg, w2.heap.size = tg := ⟨_, rfl⟩
  rw [htg] at hb3 ⊢
  have htgw : w.heap.size ≤ tg := by have := f2.size; omega
  have hI0 : PlayI w m tg (.pointer (some ⟨tb, 0, none⟩)) w3 := by
    refine ⟨tb, bl, List.replicate m ⟨#[]⟩, rfl, hT.keep f3 (by simp), by simp, ?_, ?_, hbl, ?_, f2.trans' f3⟩
    · have := Own.blk (n := m) (size := 1) (cap := m) hb3 (Nat.le_refl _) (by unfold maxLen; omega) (by simp)
      rw [Nat.mul_one, List.take_of_length_le (by simp)] at this
      simpa using this
    · intro x hx
      rw [List.eq_of_mem_replicate hx]
      decide
    · intro hx
      obtain ⟨rv, hT'⟩ := hT
      have := hT'.lt tg hx
      omega
  have HI0 := hid hI0
  clear hI0 hT hbl f2 f3 hlt3 hb3 htg
  go_loopw [5, 8] (fun tv kv wr => ∃ k : Nat, kv = .int .i64 (k : Int) ∧ k ≤ M ∧ PlayI w m tg tv wr) (fun _ kv _ => M - (intOf kv).toNat)
  case atStart => exact ⟨0, rfl, Nat.zero_le _, HI0.out⟩
  case round =>
    obtain ⟨k, rfl, hk, tb, bl, T, rfl, hT, hTm, hO, hx, hbl, htb, f⟩ := hrel
    clear HI0
    have HT := hid hT
    have HTm := hid hTm
    have HO := hid hO
    have HX := hid hx
    have HBL := hid hbl
    have HTB := hid htb
    have htgl := hO.lt tg rfl
    clear hT hTm hO hx hbl htb
    by_cases hkm : k < M
    · have g1 : decide ((k : Int) < (M : Int)) = true := by simp; omega
      have g1' : (k : Int) < (M : Int) := by omega
      obtain ⟨ub, uo, rfl, hit, hcell⟩ := step_at (Hm.out ▸ H.out.keep f (by simp)) Hm.out hkm
      obtain ⟨S, hS⟩ : ∃ S, l[k]'hit = S := ⟨_, rfl⟩
      rw [hS] at hcell
      obtain ⟨d, I, X⟩ := S
      have kc0 : wr.cell? ⟨ub, uo + k * 3, none⟩ = some (.int .i64 d) := hcell 0 (by decide)
      have kc1 : wr.cell? ⟨ub, uo + k * 3 + 1, none⟩ = some (.int .i64 I) := hcell 1 (by decide)
      have kc2 : wr.cell? ⟨ub, uo + k * 3 + 2, none⟩ = some (.string X) := hcell 2 (by decide)
      clear hcell hS hit
      go_wp2_with (first
        | (refine wpList_alloc_any rfl _ rfl _ _ 3 HiS.out HzS.out rfl ?_; intro zs w5 hzl hze f5 hlt5 hb5; subst hze; simp only [World.size_alloc, World.size_drew, Act.put, List.setIfInBounds_toArray, List.set_cons_succ, List.set_cons_zero])
        | (refine wpList_store_ag rfl _ _ _ rfl rfl [.int .i64 d, .int .i64 I, .string X] rfl hb5 stepT rfl (by decide) (by intro u hu; simp at hu; rcases hu with rfl | rfl | rfl <;> rfl) ?_; intro w6 f6 b6 hs6; revert f6; simp only [World.size_alloc, World.size_drew, Act.put, List.setIfInBounds_toArray, List.set_cons_succ, List.set_cons_zero]))
      intro f6
      obtain ⟨sb, hsb⟩ : ∃ sb, wr.heap.size = sb := ⟨_, rfl⟩
      have b6' : Blk w6 wr.heap.size [.int .i64 d, .int .i64 I, .string X] := b6
      have f56 : Fr [] wr w6 := f5.trans f6 (by simp)
      rw [hsb] at b6' ⊢
      have hT6 := HT.out.keep f56 (by simp)
      have hO6 := HO.out.keep f56 (by simp)
      have HTl := hid (show 0 < T.length by rw [HTm.out]; omega)
      have HL6 := hid (len_keep hT6 HTm.out)
      have HR6 := hid (root_keep hT6 HTl.out)
      have HQ6 := hid (rroot_keep hO6 HTm.out (by omega) (by omega) HX.out)
      have HT6 := hid hT6
      have HO6 := hid hO6
      have F6 := hid (f.trans' f56)
      have B6 := hid b6'
      have Hsb := hid (show tg < sb ∧ ∀ b ∈ bl, b ≠ sb from ⟨by omega, by
        intro b hb
        obtain ⟨rv, hT'⟩ := HT.out
        have := hT'.lt b hb
        omega⟩)
      have s0 := b6'.cell 0
      have s1 := b6'.cell 1
      have s2 := b6'.cell 2
      obtain ⟨RT, hRT⟩ : ∃ RT, rootS T = RT := ⟨_, rfl⟩
      have HRT := hid hRT
      rw [hRT] at HR6 HQ6
      clear hRT hT6 hO6 b6 b6' f56 f5 f6 hlt5 hb5 hzl hs6 hsb kc0 kc1 kc2 HT HO f htgl
      by_cases hin : 0 ≤ I ∧ I < m
      · obtain ⟨J, rfl⟩ : ∃ J : Nat, I = (J : Int) := ⟨I.toNat, by omega⟩
        have hJ : J < m := by omega
        have r1 : decide ((0 : Int) ≤ (J : Int)) = true := by simp
        have r2 : decide ((J : Int) < (m : Int)) = true := by simp; omega
        have r2' : (J : Int) < (m : Int) := by omega
        have hJT : J < T.length := by rw [HTm.out]; exact hJ
        by_cases c1 : d = 1
        · subst c1
          as_aux_lemma =>
            have HG := hid (get_any HT6.out J hJT)
            have q1 : w6.cell? ⟨tg, J, none⟩ = some (.string T[J]) := by rw [HO6.out.cellAt rfl (by simpa using hJT), List.getElem?_map, List.getElem?_eq_getElem hJT]; rfl
            obtain ⟨Y, hY⟩ : ∃ Y, T[J] = Y := ⟨_, rfl⟩
            rw [hY] at HG q1
            clear hY hJT
            go_wp2_with (first
              | (go_at_call 23; refine HG.out.mono ?_; rintro e w7 ⟨rfl, hw⟩; have hw' := hw.symm; subst hw')
              | (go_at_call 24; refine (HL6.out _ (Fr.refl _ _)).mono ?_; rintro e wL ⟨rfl, hwL⟩; have hwL' := hwL.symm; subst hwL')
              | (go_at_call 22; refine (HR6.out _ (Fr.refl _ _)).mono ?_; rintro e wR ⟨rfl, fR⟩)
              | (go_at_call 15; refine (HQ6.out _ ((Fr.refl _ _).trans' fR)).mono ?_; rintro e wQ ⟨rfl, fQ⟩))
            go_roundw
            case rel =>
              have gg := ((Fr.refl _ _).trans' fR).trans' fQ
              exact ⟨k + 1, by first | rfl | go_num, by omega, tb, bl, T, rfl, HT6.out.keep gg (by simp), HTm.out, HO6.out.keep gg (by simp), HX.out, HBL.out, HTB.out, F6.out.trans' gg⟩
            case measure => simp [intOf]; omega
        by_cases c2 : d = 2
        · subst c2
          as_aux_lemma =>
            have HP := hid (path_any HT6.out (by rw [HTm.out]; omega) J hJT)
            have HRP := hid fun (w0 : World) (f0 : Fr [] w6 w0) => rpath_any (w := w0) (rc_as (l' := T) (HO6.out.rd.rc.keep f0 (by simp)) HTm.out.symm rfl) (by rw [HTm.out]; omega) (fun s hs => by have := HX.out s hs; omega) J hJT
            have Hpl := hid (pathS_len T J HTl.out)
            obtain ⟨P, hP⟩ : ∃ P, pathS T J = P := ⟨_, rfl⟩
            rw [hP] at HP HRP Hpl
            rw [HTm.out] at Hpl
            clear hP hJT c1
            go_wp2_with (first
              | (go_at_call 21; refine HP.out.mono ?_; rintro e w7 ⟨⟨pv, PB, rfl, hr7, hB7⟩, f7⟩; obtain ⟨pa, pc, rfl⟩ := hr7.isSlice; revert f7))
            intro f7
            have HSm := hid fun (w0 : World) (f0 : Fr [] w7 w0) (v2 : Value) (B2 : Option Nat) (h2 : Rc w0 1 v2 P.length (P.map .string) B2) => same_any (w := w0) (hr7.keep f0 (by simp)) h2 (by have := Hpl.out; omega)
            simp only [decide_true] at HSm
            have t1 := (f7.blk B6.out (by simp)).cell 1
            clear s0 s1 s2
            obtain ⟨pl, hpl⟩ : ∃ pl, P.length = pl := ⟨_, rfl⟩
            have Hpn := hid hpl
            rw [hpl] at HSm HRP ⊢
            clear hr7 hB7 hpl
            go_wp2_with (first
              | (go_at_call 26; refine (HRP.out _ f7).mono ?_; rintro e w8 ⟨⟨pv2, PB2, rfl, hr8⟩, f8⟩; have hs8 := HSm.out _ f8 _ _ hr8; obtain ⟨pa2, pc2, rfl⟩ := hr8.isSlice)
              | (go_at_call 14; refine hs8.mono ?_; rintro e w9 ⟨rfl, f9⟩; have g9 := (f7.trans' f8).trans' f9)
              | (go_at_call 24; refine (HL6.out _ (g9)).mono ?_; rintro e wL ⟨rfl, hwL⟩; have hwL' := hwL.symm; subst hwL')
              | (go_at_call 22; refine (HR6.out _ (g9)).mono ?_; rintro e wR ⟨rfl, fR⟩)
              | (go_at_call 15; refine (HQ6.out _ ((g9).trans' fR)).mono ?_; rintro e wQ ⟨rfl, fQ⟩))
            go_roundw
            case rel =>
              have gg := ((g9).trans' fR).trans' fQ
              exact ⟨k + 1, by first | rfl | go_num, by omega, tb, bl, T, rfl, HT6.out.keep gg (by simp), HTm.out, HO6.out.keep gg (by simp), HX.out, HBL.out, HTB.out, F6.out.trans' gg⟩
            case measure => simp [intOf]; omega
        by_cases c3 : d = 3
        · subst c3
          clear c1 c2
          as_aux_lemma =>
            have HCp := hid (copy_any HT6.out (by rw [HTm.out]; omega) HTl.out)
            go_wp2_with (first
              | (go_at_call 25; refine HCp.out.mono ?_; rintro e w7 ⟨⟨tb2, bl2, rfl, hT7, hbl7⟩, f7⟩; revert f7))
            intro f7
            have hO7 := HO6.out.keep f7 (by simp)
            have HL7 := hid (len_keep hT7 HTm.out)
            have HR7 := hid (root_keep hT7 HTl.out)
            have HQ7 := hid (rroot_keep hO7 HTm.out (by omega) (by omega) HX.out)
            rw [HRT.out] at HR7 HQ7
            have HT7 := hid hT7
            have HO7 := hid hO7
            have HB7 := hid (show (∀ b ∈ bl2, w.heap.size ≤ b) ∧ tg ∉ bl2 from ⟨fun b hb => Nat.le_trans F6.out.size (hbl7 b hb), fun hb => by have := hbl7 tg hb; have := HO6.out.lt tg rfl; omega⟩)
            clear hT7 hO7 hbl7
            go_wp2_with (first
              | (go_at_call 24; refine (HL7.out _ (Fr.refl _ _)).mono ?_; rintro e wL ⟨rfl, hwL⟩; have hwL' := hwL.symm; subst hwL')
              | (go_at_call 22; refine (HR7.out _ (Fr.refl _ _)).mono ?_; rintro e wR ⟨rfl, fR⟩)
              | (go_at_call 15; refine (HQ7.out _ ((Fr.refl _ _).trans' fR)).mono ?_; rintro e wQ ⟨rfl, fQ⟩))
            go_roundw
            case rel =>
              have gg := fR.trans' fQ
              exact ⟨k + 1, by first | rfl | go_num, by omega, tb2, bl2, T, rfl, HT7.out.keep gg (by simp), HTm.out, HO7.out.keep gg (by simp), HX.out, HB7.out.1, HB7.out.2, (F6.out.trans' f7).trans' gg⟩
            case measure => simp [intOf]; omega
        by_cases c4 : d = 4
        · subst c4
          clear c1 c2 c3
          as_aux_lemma =>
            have HCp := hid fun (w0 : World) (f0 : Fr [] w6 w0) => copy_any (HT6.out.keep f0 (by simp)) (by rw [HTm.out]; omega) HTl.out
            go_wp2_with fail
            refine wp_region_D (fun w' => Blk w' sb [.int .i64 4, .int .i64 (J : Int), .string X]) true [] (by kernel_rfl) ?_
            refine WD.pure [0] (by kernel_rfl) B6.out.drew ?_
            simp only [pick, List.toList_toArray, List.map_cons, List.map_nil, List.getD_cons_succ, List.getD_cons_zero]
            repeat (first | (refine quiet_load_1R (by rfl) _ _ rfl rfl (.int .i64 (J : Int)) (fun w0 h => h.cell 1) _ Try.underlying3 rfl ?_; simp only [World.size_alloc, World.size_drew, Act.put, List.setIfInBounds_toArray, List.set_cons_succ, List.set_cons_zero]) | (refine quiet_load_1R (by rfl) _ _ rfl rfl (.string X) (fun w0 h => h.cell 2) _ Try.underlying9 rfl ?_; simp only [World.size_alloc, World.size_drew, Act.put, List.setIfInBounds_toArray, List.set_cons_succ, List.set_cons_zero]) | go_big_quiet_step (fail))
            refine wpQuiet_nil ?_
            refine WD.free [2, 4] (by kernel_rfl) B6.out.drew ?_
            simp only [pick, List.toList_toArray, List.map_cons, List.map_nil, List.getD_cons_succ, List.getD_cons_zero]
            repeat (first | (refine quiet_load_1R (by rfl) _ _ rfl rfl (.int .i64 (J : Int)) (fun w0 h => h.cell 1) _ Try.underlying3 rfl ?_; simp only [World.size_alloc, World.size_drew, Act.put, List.setIfInBounds_toArray, List.set_cons_succ, List.set_cons_zero]) | (refine quiet_load_1R (by rfl) _ _ rfl rfl (.string X) (fun w0 h => h.cell 2) _ Try.underlying9 rfl ?_; simp only [World.size_alloc, World.size_drew, Act.put, List.setIfInBounds_toArray, List.set_cons_succ, List.set_cons_zero]) | go_big_quiet_step (fail))
            refine wpQuiet_nil ?_
            refine WD.held [3, 5] (by kernel_rfl) B6.out.drew ?_
            simp only [pick, List.toList_toArray, List.map_cons, List.map_nil, List.getD_cons_succ, List.getD_cons_zero]
            repeat (first | (refine quiet_load_1R (by rfl) _ _ rfl rfl (.int .i64 (J : Int)) (fun w0 h => h.cell 1) _ Try.underlying3 rfl ?_; simp only [World.size_alloc, World.size_drew, Act.put, List.setIfInBounds_toArray, List.set_cons_succ, List.set_cons_zero]) | (refine quiet_load_1R (by rfl) _ _ rfl rfl (.string X) (fun w0 h => h.cell 2) _ Try.underlying9 rfl ?_; simp only [World.size_alloc, World.size_drew, Act.put, List.setIfInBounds_toArray, List.set_cons_succ, List.set_cons_zero]) | go_big_quiet_step (fail))
            refine wpQuiet_nil ?_
            refine WD.eff 1 (by kernel_rfl) ?_
            simp only [pick, List.toList_toArray, List.map_cons, List.map_nil, List.getD_cons_succ, List.getD_cons_zero]
            have f0 : Fr [] w6 w6.drew := (Fr.refl [] w6).drew
            go_wp2_with (go_at_call 25; refine (HCp.out _ f0).mono ?_; rintro e w7 ⟨⟨tb2, bl2, rfl, hT7, hbl7⟩, f7⟩)
            have b7 := f7.blk B6.out.drew (by simp)
            try refine wpList_nil ?_
            refine AfterD.on b7 (by kernel_rfl) ?_
            try simp only [World.size_alloc, World.size_drew, Act.put, List.setIfInBounds_toArray, List.set_cons_succ, List.set_cons_zero]
            refine WD.eff 6 (by kernel_rfl) ?_
            simp only [pick, List.toList_toArray, List.map_cons, List.map_nil, List.getD_cons_succ, List.getD_cons_zero]
            have HSt := hid (set_gen hT7 HTl.out (by rw [HTm.out]; omega) (J : Int) X)
            have Hb7 := hid hbl7
            have sl := B6.out.lt
            clear hT7 hbl7
            go_wp2_with (go_at_call 20; refine HSt.out.mono ?_; rintro e w8 ⟨⟨r, rfl⟩, f8⟩)
            have b8 := f8.blk b7 (fun hb => by have := Hb7.out sb hb; rw [World.size_drew] at this; omega)
            have g8 : Fr [] w6 w8 := (f0.trans' f7).trans f8 (fun x hx => .inr (Hb7.out x hx))
            try refine wpList_nil ?_
            refine AfterD.end rfl (by kernel_rfl) ?_
            try simp only [World.size_alloc, World.size_drew, Act.put, List.setIfInBounds_toArray, List.set_cons_succ, List.set_cons_zero]
            refine WD.done (by kernel_rfl) ?_
            go_wp2_with (first
              | (go_at_call 24; refine (HL6.out _ (g8)).mono ?_; rintro e wL ⟨rfl, hwL⟩; have hwL' := hwL.symm; subst hwL')
              | (go_at_call 22; refine (HR6.out _ (g8)).mono ?_; rintro e wR ⟨rfl, fR⟩)
              | (go_at_call 15; refine (HQ6.out _ ((g8).trans' fR)).mono ?_; rintro e wQ ⟨rfl, fQ⟩))
            go_roundw
            case rel =>
              have gg := ((g8).trans' fR).trans' fQ
              exact ⟨k + 1, by first | rfl | go_num, by omega, tb, bl, T, rfl, HT6.out.keep gg (by simp), HTm.out, HO6.out.keep gg (by simp), HX.out, HBL.out, HTB.out, F6.out.trans' gg⟩
            case measure => simp [intOf]; omega
        have e1 : (d == 1) = false := by simpa using c1
        have e2 : (d == 2) = false := by simpa using c2
        have e3 : (d == 3) = false := by simpa using c3
        have e4 : (d == 4) = false := by simpa using c4
        have e1' : decide (d = 1) = false := by simpa using c1
        have e2' : decide (d = 2) = false := by simpa using c2
        have e3' : decide (d = 3) = false := by simpa using c3
        have e4' : decide (d = 4) = false := by simpa using c4
        clear c1 c2 c3 c4
        by_cases hX0 : X.size = 0
        · have x1 := str_none hX0
          have hXs : X.size = 0 ∨ X.size = 32 := .inl hX0
          clear hX0
          as_aux_lemma =>
            have HSet := hid (set_any HT6.out (by rw [HTm.out]; omega) J X hJT hXs)
            have Hxs := hid hXs
            clear hXs
            go_wp2_with (go_at_call 20; refine HSet.out.mono ?_; rintro e w7 ⟨rfl, hT7, f7⟩; revert f7)
            intro f7
            have hO7 := HO6.out.keep f7 (by intro b hb; cases hb; exact HTB.out)
            obtain ⟨cs, p1, p2, p3⟩ := hO7.put
            have b7 := f7.blk B6.out (fun hb => Hsb.out.2 sb hb rfl)
            have t0 := b7.cell 0
            have t1 := b7.cell 1
            have t2 := b7.cell 2
            have HT7 := hid hT7
            have P3 := hid p3
            clear s0 s1 s2 hT7 hO7 p3
            go_wp2_with (refine wpList_put rfl _ _ _ rfl rfl (.string X) rfl rfl p1 (by omega) (by kernel_rfl) ?_; intro w8 f8 b8 hs8; revert f8; simp only [World.size_alloc, World.size_drew, Act.put, List.setIfInBounds_toArray, List.set_cons_succ, List.set_cons_zero])
            intro f8
            have hT8 := HT7.out.keep f8 (fun b hb => by simp; rintro rfl; exact HTB.out hb)
            have hO8 : Xr.Own w8 1 (.slice (some ⟨tg, 0, none⟩) m m) m ((T.set J X).map .string) (some tg) := by
              have := P3.out J (.string X) w8 b8
              rw [List.map_set]
              exact this
            have hTm8 : (T.set J X).length = m := by rw [List.length_set]; exact HTm.out
            have hX8 : ∀ x ∈ T.set J X, x.size ≤ 32 := by
              intro x hx
              rcases List.mem_or_eq_of_mem_set hx with h | h
              · exact HX.out x h
              · rw [h]; have := Hxs.out; omega
            have HL8 := hid (len_keep hT8 hTm8)
            have HR8 := hid (root_keep hT8 (by omega))
            have HQ8 := hid (rroot_keep hO8 hTm8 (by omega) (by omega) hX8)
            have HT8 := hid hT8
            have HO8 := hid hO8
            have HTm8 := hid hTm8
            have HX8 := hid hX8
            have G8 := hid (show Fr [] w w8 from (F6.out.trans f7 (fun x hx => .inr (HBL.out x hx))).trans f8 (by simp; omega))
            obtain ⟨R8, hR8⟩ : ∃ R8, rootS (T.set J X) = R8 := ⟨_, rfl⟩
            rw [hR8] at HR8 HQ8
            clear hT8 hO8 hTm8 hX8 hR8 t0 t1 t2 p1 b8
            go_wp2_with (first
              | (go_at_call 24; refine (HL8.out _ (Fr.refl _ _)).mono ?_; rintro e wL ⟨rfl, hwL⟩; have hwL' := hwL.symm; subst hwL')
              | (go_at_call 22; refine (HR8.out _ (Fr.refl _ _)).mono ?_; rintro e wR ⟨rfl, fR⟩)
              | (go_at_call 15; refine (HQ8.out _ ((Fr.refl _ _).trans' fR)).mono ?_; rintro e wQ ⟨rfl, fQ⟩))
            go_roundw
            case rel =>
              have gg := fR.trans' fQ
              exact ⟨k + 1, by first | rfl | go_num, by omega, tb, bl, T.set J X, rfl, HT8.out.keep gg (by simp), HTm8.out, HO8.out.keep gg (by simp), HX8.out, HBL.out, HTB.out, G8.out.trans' gg⟩
            case measure => simp [intOf]; omega
        have x1 := str_some hX0
        by_cases hX32 : X.size = 32
        · have x2 : ((X.size : Int) == 32) = true := by simp; omega
          have x2' : decide ((X.size : Int) = 32) = true := by simp; omega
          have hXs : X.size = 0 ∨ X.size = 32 := .inr hX32
          clear hX0 hX32
          as_aux_lemma =>
            have HSet := hid (set_any HT6.out (by rw [HTm.out]; omega) J X hJT hXs)
            have Hxs := hid hXs
            clear hXs
            go_wp2_with (go_at_call 20; refine HSet.out.mono ?_; rintro e w7 ⟨rfl, hT7, f7⟩; revert f7)
            intro f7
            have hO7 := HO6.out.keep f7 (by intro b hb; cases hb; exact HTB.out)
            obtain ⟨cs, p1, p2, p3⟩ := hO7.put
            have b7 := f7.blk B6.out (fun hb => Hsb.out.2 sb hb rfl)
            have t0 := b7.cell 0
            have t1 := b7.cell 1
            have t2 := b7.cell 2
            have HT7 := hid hT7
            have P3 := hid p3
            clear s0 s1 s2 hT7 hO7 p3
            go_wp2_with (refine wpList_put rfl _ _ _ rfl rfl (.string X) rfl rfl p1 (by omega) (by kernel_rfl) ?_; intro w8 f8 b8 hs8; revert f8; simp only [World.size_alloc, World.size_drew, Act.put, List.setIfInBounds_toArray, List.set_cons_succ, List.set_cons_zero])
            intro f8
            have hT8 := HT7.out.keep f8 (fun b hb => by simp; rintro rfl; exact HTB.out hb)
            have hO8 : Xr.Own w8 1 (.slice (some ⟨tg, 0, none⟩) m m) m ((T.set J X).map .string) (some tg) := by
              have := P3.out J (.string X) w8 b8
              rw [List.map_set]
              exact this
            have hTm8 : (T.set J X).length = m := by rw [List.length_set]; exact HTm.out
            have hX8 : ∀ x ∈ T.set J X, x.size ≤ 32 := by
              intro x hx
              rcases List.mem_or_eq_of_mem_set hx with h | h
              · exact HX.out x h
              · rw [h]; have := Hxs.out; omega
            have HL8 := hid (len_keep hT8 hTm8)
            have HR8 := hid (root_keep hT8 (by omega))
            have HQ8 := hid (rroot_keep hO8 hTm8 (by omega) (by omega) hX8)
            have HT8 := hid hT8
            have HO8 := hid hO8
            have HTm8 := hid hTm8
            have HX8 := hid hX8
            have G8 := hid (show Fr [] w w8 from (F6.out.trans f7 (fun x hx => .inr (HBL.out x hx))).trans f8 (by simp; omega))
            obtain ⟨R8, hR8⟩ : ∃ R8, rootS (T.set J X) = R8 := ⟨_, rfl⟩
            rw [hR8] at HR8 HQ8
            clear hT8 hO8 hTm8 hX8 hR8 t0 t1 t2 p1 b8
            go_wp2_with (first
              | (go_at_call 24; refine (HL8.out _ (Fr.refl _ _)).mono ?_; rintro e wL ⟨rfl, hwL⟩; have hwL' := hwL.symm; subst hwL')
              | (go_at_call 22; refine (HR8.out _ (Fr.refl _ _)).mono ?_; rintro e wR ⟨rfl, fR⟩)
              | (go_at_call 15; refine (HQ8.out _ ((Fr.refl _ _).trans' fR)).mono ?_; rintro e wQ ⟨rfl, fQ⟩))
            go_roundw
            case rel =>
              have gg := fR.trans' fQ
              exact ⟨k + 1, by first | rfl | go_num, by omega, tb, bl, T.set J X, rfl, HT8.out.keep gg (by simp), HTm8.out, HO8.out.keep gg (by simp), HX8.out, HBL.out, HTB.out, G8.out.trans' gg⟩
            case measure => simp [intOf]; omega
        have x2 : ((X.size : Int) == 32) = false := by simp; omega
        have x2' : decide ((X.size : Int) = 32) = false := by simp; omega
        have HSet := hid (set_size HT6.out HTl.out (J : Int) X ⟨by omega, by omega⟩ ⟨hX0, hX32⟩)
        clear hX0 hX32
        as_aux_lemma =>
          go_wp2_with (first
            | (go_at_call 20; refine HSet.out.mono ?_; rintro e w7 ⟨rfl, hw⟩; have hw' := hw.symm; subst hw')
            | (go_at_call 24; refine (HL6.out _ (Fr.refl _ _)).mono ?_; rintro e wL ⟨rfl, hwL⟩; have hwL' := hwL.symm; subst hwL')
            | (go_at_call 22; refine (HR6.out _ (Fr.refl _ _)).mono ?_; rintro e wR ⟨rfl, fR⟩)
            | (go_at_call 15; refine (HQ6.out _ ((Fr.refl _ _).trans' fR)).mono ?_; rintro e wQ ⟨rfl, fQ⟩))
          go_roundw
          case rel =>
            have gg := ((Fr.refl _ _).trans' fR).trans' fQ
            exact ⟨k + 1, by first | rfl | go_num, by omega, tb, bl, T, rfl, HT6.out.keep gg (by simp), HTm.out, HO6.out.keep gg (by simp), HX.out, HBL.out, HTB.out, F6.out.trans' gg⟩
          case measure => simp [intOf]; omega
      · skip
        by_cases hI0 : 0 ≤ I
        · have r1 : decide (0 ≤ I) = true := by simp; omega
          have r2 : decide (I < (m : Int)) = false := by simp; omega
          by_cases c1 : d = 1
          · subst c1
            as_aux_lemma =>
              have HG := hid (get_not HT6.out HTl.out I (by rw [HTm.out]; exact hin))
              go_wp2_with (first
                | (go_at_call 23; refine HG.out.mono ?_; rintro e w7 ⟨rfl, hw⟩; have hw' := hw.symm; subst hw')
                | (go_at_call 24; refine (HL6.out _ (Fr.refl _ _)).mono ?_; rintro e wL ⟨rfl, hwL⟩; have hwL' := hwL.symm; subst hwL')
                | (go_at_call 22; refine (HR6.out _ (Fr.refl _ _)).mono ?_; rintro e wR ⟨rfl, fR⟩)
                | (go_at_call 15; refine (HQ6.out _ ((Fr.refl _ _).trans' fR)).mono ?_; rintro e wQ ⟨rfl, fQ⟩))
              go_roundw
              case rel =>
                have gg := ((Fr.refl _ _).trans' fR).trans' fQ
                exact ⟨k + 1, by first | rfl | go_num, by omega, tb, bl, T, rfl, HT6.out.keep gg (by simp), HTm.out, HO6.out.keep gg (by simp), HX.out, HBL.out, HTB.out, F6.out.trans' gg⟩
              case measure => simp [intOf]; omega
          by_cases c2 : d = 2
          · subst c2
            as_aux_lemma =>
              have HG := hid (path_not HT6.out HTl.out I (by rw [HTm.out]; exact hin))
              clear c1
              go_wp2_with (first
                | (go_at_call 21; refine HG.out.mono ?_; rintro e w7 ⟨rfl, hw⟩; have hw' := hw.symm; subst hw')
                | (go_at_call 24; refine (HL6.out _ (Fr.refl _ _)).mono ?_; rintro e wL ⟨rfl, hwL⟩; have hwL' := hwL.symm; subst hwL')
                | (go_at_call 22; refine (HR6.out _ (Fr.refl _ _)).mono ?_; rintro e wR ⟨rfl, fR⟩)
                | (go_at_call 15; refine (HQ6.out _ ((Fr.refl _ _).trans' fR)).mono ?_; rintro e wQ ⟨rfl, fQ⟩))
              go_roundw
              case rel =>
                have gg := ((Fr.refl _ _).trans' fR).trans' fQ
                exact ⟨k + 1, by first | rfl | go_num, by omega, tb, bl, T, rfl, HT6.out.keep gg (by simp), HTm.out, HO6.out.keep gg (by simp), HX.out, HBL.out, HTB.out, F6.out.trans' gg⟩
              case measure => simp [intOf]; omega
          by_cases c3 : d = 3
          · subst c3
            clear c1 c2
            as_aux_lemma =>
              have HCp := hid (copy_any HT6.out (by rw [HTm.out]; omega) HTl.out)
              go_wp2_with (first
                | (go_at_call 25; refine HCp.out.mono ?_; rintro e w7 ⟨⟨tb2, bl2, rfl, hT7, hbl7⟩, f7⟩; revert f7))
              intro f7
              have hO7 := HO6.out.keep f7 (by simp)
              have HL7 := hid (len_keep hT7 HTm.out)
              have HR7 := hid (root_keep hT7 HTl.out)
              have HQ7 := hid (rroot_keep hO7 HTm.out (by omega) (by omega) HX.out)
              rw [HRT.out] at HR7 HQ7
              have HT7 := hid hT7
              have HO7 := hid hO7
              have HB7 := hid (show (∀ b ∈ bl2, w.heap.size ≤ b) ∧ tg ∉ bl2 from ⟨fun b hb => Nat.le_trans F6.out.size (hbl7 b hb), fun hb => by have := hbl7 tg hb; have := HO6.out.lt tg rfl; omega⟩)
              clear hT7 hO7 hbl7
              go_wp2_with (first
                | (go_at_call 24; refine (HL7.out _ (Fr.refl _ _)).mono ?_; rintro e wL ⟨rfl, hwL⟩; have hwL' := hwL.symm; subst hwL')
                | (go_at_call 22; refine (HR7.out _ (Fr.refl _ _)).mono ?_; rintro e wR ⟨rfl, fR⟩)
                | (go_at_call 15; refine (HQ7.out _ ((Fr.refl _ _).trans' fR)).mono ?_; rintro e wQ ⟨rfl, fQ⟩))
              go_roundw
              case rel =>
                have gg := fR.trans' fQ
                exact ⟨k + 1, by first | rfl | go_num, by omega, tb2, bl2, T, rfl, HT7.out.keep gg (by simp), HTm.out, HO7.out.keep gg (by simp), HX.out, HB7.out.1, HB7.out.2, (F6.out.trans' f7).trans' gg⟩
              case measure => simp [intOf]; omega
          by_cases c4 : d = 4
          · subst c4
            clear c1 c2 c3
            as_aux_lemma =>
              have HCp := hid fun (w0 : World) (f0 : Fr [] w6 w0) => copy_any (HT6.out.keep f0 (by simp)) (by rw [HTm.out]; omega) HTl.out
              go_wp2_with fail
              refine wp_region_D (fun w' => Blk w' sb [.int .i64 4, .int .i64 I, .string X]) true [] (by kernel_rfl) ?_
              refine WD.pure [0] (by kernel_rfl) B6.out.drew ?_
              simp only [pick, List.toList_toArray, List.map_cons, List.map_nil, List.getD_cons_succ, List.getD_cons_zero]
              repeat (first | (refine quiet_load_1R (by rfl) _ _ rfl rfl (.int .i64 I) (fun w0 h => h.cell 1) _ Try.underlying3 rfl ?_; simp only [World.size_alloc, World.size_drew, Act.put, List.setIfInBounds_toArray, List.set_cons_succ, List.set_cons_zero]) | (refine quiet_load_1R (by rfl) _ _ rfl rfl (.string X) (fun w0 h => h.cell 2) _ Try.underlying9 rfl ?_; simp only [World.size_alloc, World.size_drew, Act.put, List.setIfInBounds_toArray, List.set_cons_succ, List.set_cons_zero]) | go_big_quiet_step (fail))
              refine wpQuiet_nil ?_
              refine WD.free [2, 4] (by kernel_rfl) B6.out.drew ?_
              simp only [pick, List.toList_toArray, List.map_cons, List.map_nil, List.getD_cons_succ, List.getD_cons_zero]
              repeat (first | (refine quiet_load_1R (by rfl) _ _ rfl rfl (.int .i64 I) (fun w0 h => h.cell 1) _ Try.underlying3 rfl ?_; simp only [World.size_alloc, World.size_drew, Act.put, List.setIfInBounds_toArray, List.set_cons_succ, List.set_cons_zero]) | (refine quiet_load_1R (by rfl) _ _ rfl rfl (.string X) (fun w0 h => h.cell 2) _ Try.underlying9 rfl ?_; simp only [World.size_alloc, World.size_drew, Act.put, List.setIfInBounds_toArray, List.set_cons_succ, List.set_cons_zero]) | go_big_quiet_step (fail))
              refine wpQuiet_nil ?_
              refine WD.held [3, 5] (by kernel_rfl) B6.out.drew ?_
              simp only [pick, List.toList_toArray, List.map_cons, List.map_nil, List.getD_cons_succ, List.getD_cons_zero]
              repeat (first | (refine quiet_load_1R (by rfl) _ _ rfl rfl (.int .i64 I) (fun w0 h => h.cell 1) _ Try.underlying3 rfl ?_; simp only [World.size_alloc, World.size_drew, Act.put, List.setIfInBounds_toArray, List.set_cons_succ, List.set_cons_zero]) | (refine quiet_load_1R (by rfl) _ _ rfl rfl (.string X) (fun w0 h => h.cell 2) _ Try.underlying9 rfl ?_; simp only [World.size_alloc, World.size_drew, Act.put, List.setIfInBounds_toArray, List.set_cons_succ, List.set_cons_zero]) | go_big_quiet_step (fail))
              refine wpQuiet_nil ?_
              refine WD.eff 1 (by kernel_rfl) ?_
              simp only [pick, List.toList_toArray, List.map_cons, List.map_nil, List.getD_cons_succ, List.getD_cons_zero]
              have f0 : Fr [] w6 w6.drew := (Fr.refl [] w6).drew
              go_wp2_with (go_at_call 25; refine (HCp.out _ f0).mono ?_; rintro e w7 ⟨⟨tb2, bl2, rfl, hT7, hbl7⟩, f7⟩)
              have b7 := f7.blk B6.out.drew (by simp)
              try refine wpList_nil ?_
              refine AfterD.on b7 (by kernel_rfl) ?_
              try simp only [World.size_alloc, World.size_drew, Act.put, List.setIfInBounds_toArray, List.set_cons_succ, List.set_cons_zero]
              refine WD.eff 6 (by kernel_rfl) ?_
              simp only [pick, List.toList_toArray, List.map_cons, List.map_nil, List.getD_cons_succ, List.getD_cons_zero]
              have HSt := hid (set_gen hT7 HTl.out (by rw [HTm.out]; omega) I X)
              have Hb7 := hid hbl7
              have sl := B6.out.lt
              clear hT7 hbl7
              go_wp2_with (go_at_call 20; refine HSt.out.mono ?_; rintro e w8 ⟨⟨r, rfl⟩, f8⟩)
              have b8 := f8.blk b7 (fun hb => by have := Hb7.out sb hb; rw [World.size_drew] at this; omega)
              have g8 : Fr [] w6 w8 := (f0.trans' f7).trans f8 (fun x hx => .inr (Hb7.out x hx))
              try refine wpList_nil ?_
              refine AfterD.end rfl (by kernel_rfl) ?_
              try simp only [World.size_alloc, World.size_drew, Act.put, List.setIfInBounds_toArray, List.set_cons_succ, List.set_cons_zero]
              refine WD.done (by kernel_rfl) ?_
              go_wp2_with (first
                | (go_at_call 24; refine (HL6.out _ (g8)).mono ?_; rintro e wL ⟨rfl, hwL⟩; have hwL' := hwL.symm; subst hwL')
                | (go_at_call 22; refine (HR6.out _ (g8)).mono ?_; rintro e wR ⟨rfl, fR⟩)
                | (go_at_call 15; refine (HQ6.out _ ((g8).trans' fR)).mono ?_; rintro e wQ ⟨rfl, fQ⟩))
              go_roundw
              case rel =>
                have gg := ((g8).trans' fR).trans' fQ
                exact ⟨k + 1, by first | rfl | go_num, by omega, tb, bl, T, rfl, HT6.out.keep gg (by simp), HTm.out, HO6.out.keep gg (by simp), HX.out, HBL.out, HTB.out, F6.out.trans' gg⟩
              case measure => simp [intOf]; omega
          have e1 : (d == 1) = false := by simpa using c1
          have e2 : (d == 2) = false := by simpa using c2
          have e3 : (d == 3) = false := by simpa using c3
          have e4 : (d == 4) = false := by simpa using c4
          have e1' : decide (d = 1) = false := by simpa using c1
          have e2' : decide (d = 2) = false := by simpa using c2
          have e3' : decide (d = 3) = false := by simpa using c3
          have e4' : decide (d = 4) = false := by simpa using c4
          clear c1 c2 c3 c4
          have HSet := hid (set_not HT6.out HTl.out I X (by rw [HTm.out]; exact hin))
          as_aux_lemma =>
            go_wp2_with (first
              | (go_at_call 20; refine HSet.out.mono ?_; rintro e w7 ⟨rfl, hw⟩; have hw' := hw.symm; subst hw')
              | (go_at_call 24; refine (HL6.out _ (Fr.refl _ _)).mono ?_; rintro e wL ⟨rfl, hwL⟩; have hwL' := hwL.symm; subst hwL')
              | (go_at_call 22; refine (HR6.out _ (Fr.refl _ _)).mono ?_; rintro e wR ⟨rfl, fR⟩)
              | (go_at_call 15; refine (HQ6.out _ ((Fr.refl _ _).trans' fR)).mono ?_; rintro e wQ ⟨rfl, fQ⟩))
            go_roundw
            case rel =>
              have gg := ((Fr.refl _ _).trans' fR).trans' fQ
              exact ⟨k + 1, by first | rfl | go_num, by omega, tb, bl, T, rfl, HT6.out.keep gg (by simp), HTm.out, HO6.out.keep gg (by simp), HX.out, HBL.out, HTB.out, F6.out.trans' gg⟩
            case measure => simp [intOf]; omega
        · have r1 : decide (0 ≤ I) = false := by simp; omega
          by_cases c1 : d = 1
          · subst c1
            as_aux_lemma =>
              have HG := hid (get_not HT6.out HTl.out I (by rw [HTm.out]; exact hin))
              go_wp2_with (first
                | (go_at_call 23; refine HG.out.mono ?_; rintro e w7 ⟨rfl, hw⟩; have hw' := hw.symm; subst hw')
                | (go_at_call 24; refine (HL6.out _ (Fr.refl _ _)).mono ?_; rintro e wL ⟨rfl, hwL⟩; have hwL' := hwL.symm; subst hwL')
                | (go_at_call 22; refine (HR6.out _ (Fr.refl _ _)).mono ?_; rintro e wR ⟨rfl, fR⟩)
                | (go_at_call 15; refine (HQ6.out _ ((Fr.refl _ _).trans' fR)).mono ?_; rintro e wQ ⟨rfl, fQ⟩))
              go_roundw
              case rel =>
                have gg := ((Fr.refl _ _).trans' fR).trans' fQ
                exact ⟨k + 1, by first | rfl | go_num, by omega, tb, bl, T, rfl, HT6.out.keep gg (by simp), HTm.out, HO6.out.keep gg (by simp), HX.out, HBL.out, HTB.out, F6.out.trans' gg⟩
              case measure => simp [intOf]; omega
          by_cases c2 : d = 2
          · subst c2
            as_aux_lemma =>
              have HG := hid (path_not HT6.out HTl.out I (by rw [HTm.out]; exact hin))
              clear c1
              go_wp2_with (first
                | (go_at_call 21; refine HG.out.mono ?_; rintro e w7 ⟨rfl, hw⟩; have hw' := hw.symm; subst hw')
                | (go_at_call 24; refine (HL6.out _ (Fr.refl _ _)).mono ?_; rintro e wL ⟨rfl, hwL⟩; have hwL' := hwL.symm; subst hwL')
                | (go_at_call 22; refine (HR6.out _ (Fr.refl _ _)).mono ?_; rintro e wR ⟨rfl, fR⟩)
                | (go_at_call 15; refine (HQ6.out _ ((Fr.refl _ _).trans' fR)).mono ?_; rintro e wQ ⟨rfl, fQ⟩))
              go_roundw
              case rel =>
                have gg := ((Fr.refl _ _).trans' fR).trans' fQ
                exact ⟨k + 1, by first | rfl | go_num, by omega, tb, bl, T, rfl, HT6.out.keep gg (by simp), HTm.out, HO6.out.keep gg (by simp), HX.out, HBL.out, HTB.out, F6.out.trans' gg⟩
              case measure => simp [intOf]; omega
          by_cases c3 : d = 3
          · subst c3
            clear c1 c2
            as_aux_lemma =>
              have HCp := hid (copy_any HT6.out (by rw [HTm.out]; omega) HTl.out)
              go_wp2_with (first
                | (go_at_call 25; refine HCp.out.mono ?_; rintro e w7 ⟨⟨tb2, bl2, rfl, hT7, hbl7⟩, f7⟩; revert f7))
              intro f7
              have hO7 := HO6.out.keep f7 (by simp)
              have HL7 := hid (len_keep hT7 HTm.out)
              have HR7 := hid (root_keep hT7 HTl.out)
              have HQ7 := hid (rroot_keep hO7 HTm.out (by omega) (by omega) HX.out)
              rw [HRT.out] at HR7 HQ7
              have HT7 := hid hT7
              have HO7 := hid hO7
              have HB7 := hid (show (∀ b ∈ bl2, w.heap.size ≤ b) ∧ tg ∉ bl2 from ⟨fun b hb => Nat.le_trans F6.out.size (hbl7 b hb), fun hb => by have := hbl7 tg hb; have := HO6.out.lt tg rfl; omega⟩)
              clear hT7 hO7 hbl7
              go_wp2_with (first
                | (go_at_call 24; refine (HL7.out _ (Fr.refl _ _)).mono ?_; rintro e wL ⟨rfl, hwL⟩; have hwL' := hwL.symm; subst hwL')
                | (go_at_call 22; refine (HR7.out _ (Fr.refl _ _)).mono ?_; rintro e wR ⟨rfl, fR⟩)
                | (go_at_call 15; refine (HQ7.out _ ((Fr.refl _ _).trans' fR)).mono ?_; rintro e wQ ⟨rfl, fQ⟩))
              go_roundw
              case rel =>
                have gg := fR.trans' fQ
                exact ⟨k + 1, by first | rfl | go_num, by omega, tb2, bl2, T, rfl, HT7.out.keep gg (by simp), HTm.out, HO7.out.keep gg (by simp), HX.out, HB7.out.1, HB7.out.2, (F6.out.trans' f7).trans' gg⟩
              case measure => simp [intOf]; omega
          by_cases c4 : d = 4
          · subst c4
            clear c1 c2 c3
            as_aux_lemma =>
              have HCp := hid fun (w0 : World) (f0 : Fr [] w6 w0) => copy_any (HT6.out.keep f0 (by simp)) (by rw [HTm.out]; omega) HTl.out
              go_wp2_with fail
              refine wp_region_D (fun w' => Blk w' sb [.int .i64 4, .int .i64 I, .string X]) true [] (by kernel_rfl) ?_
              refine WD.pure [0] (by kernel_rfl) B6.out.drew ?_
              simp only [pick, List.toList_toArray, List.map_cons, List.map_nil, List.getD_cons_succ, List.getD_cons_zero]
              repeat (first | (refine quiet_load_1R (by rfl) _ _ rfl rfl (.int .i64 I) (fun w0 h => h.cell 1) _ Try.underlying3 rfl ?_; simp only [World.size_alloc, World.size_drew, Act.put, List.setIfInBounds_toArray, List.set_cons_succ, List.set_cons_zero]) | (refine quiet_load_1R (by rfl) _ _ rfl rfl (.string X) (fun w0 h => h.cell 2) _ Try.underlying9 rfl ?_; simp only [World.size_alloc, World.size_drew, Act.put, List.setIfInBounds_toArray, List.set_cons_succ, List.set_cons_zero]) | go_big_quiet_step (fail))
              refine wpQuiet_nil ?_
              refine WD.free [2, 4] (by kernel_rfl) B6.out.drew ?_
              simp only [pick, List.toList_toArray, List.map_cons, List.map_nil, List.getD_cons_succ, List.getD_cons_zero]
              repeat (first | (refine quiet_load_1R (by rfl) _ _ rfl rfl (.int .i64 I) (fun w0 h => h.cell 1) _ Try.underlying3 rfl ?_; simp only [World.size_alloc, World.size_drew, Act.put, List.setIfInBounds_toArray, List.set_cons_succ, List.set_cons_zero]) | (refine quiet_load_1R (by rfl) _ _ rfl rfl (.string X) (fun w0 h => h.cell 2) _ Try.underlying9 rfl ?_; simp only [World.size_alloc, World.size_drew, Act.put, List.setIfInBounds_toArray, List.set_cons_succ, List.set_cons_zero]) | go_big_quiet_step (fail))
              refine wpQuiet_nil ?_
              refine WD.held [3, 5] (by kernel_rfl) B6.out.drew ?_
              simp only [pick, List.toList_toArray, List.map_cons, List.map_nil, List.getD_cons_succ, List.getD_cons_zero]
              repeat (first | (refine quiet_load_1R (by rfl) _ _ rfl rfl (.int .i64 I) (fun w0 h => h.cell 1) _ Try.underlying3 rfl ?_; simp only [World.size_alloc, World.size_drew, Act.put, List.setIfInBounds_toArray, List.set_cons_succ, List.set_cons_zero]) | (refine quiet_load_1R (by rfl) _ _ rfl rfl (.string X) (fun w0 h => h.cell 2) _ Try.underlying9 rfl ?_; simp only [World.size_alloc, World.size_drew, Act.put, List.setIfInBounds_toArray, List.set_cons_succ, List.set_cons_zero]) | go_big_quiet_step (fail))
              refine wpQuiet_nil ?_
              refine WD.eff 1 (by kernel_rfl) ?_
              simp only [pick, List.toList_toArray, List.map_cons, List.map_nil, List.getD_cons_succ, List.getD_cons_zero]
              have f0 : Fr [] w6 w6.drew := (Fr.refl [] w6).drew
              go_wp2_with (go_at_call 25; refine (HCp.out _ f0).mono ?_; rintro e w7 ⟨⟨tb2, bl2, rfl, hT7, hbl7⟩, f7⟩)
              have b7 := f7.blk B6.out.drew (by simp)
              try refine wpList_nil ?_
              refine AfterD.on b7 (by kernel_rfl) ?_
              try simp only [World.size_alloc, World.size_drew, Act.put, List.setIfInBounds_toArray, List.set_cons_succ, List.set_cons_zero]
              refine WD.eff 6 (by kernel_rfl) ?_
              simp only [pick, List.toList_toArray, List.map_cons, List.map_nil, List.getD_cons_succ, List.getD_cons_zero]
              have HSt := hid (set_gen hT7 HTl.out (by rw [HTm.out]; omega) I X)
              have Hb7 := hid hbl7
              have sl := B6.out.lt
              clear hT7 hbl7
              go_wp2_with (go_at_call 20; refine HSt.out.mono ?_; rintro e w8 ⟨⟨r, rfl⟩, f8⟩)
              have b8 := f8.blk b7 (fun hb => by have := Hb7.out sb hb; rw [World.size_drew] at this; omega)
              have g8 : Fr [] w6 w8 := (f0.trans' f7).trans f8 (fun x hx => .inr (Hb7.out x hx))
              try refine wpList_nil ?_
              refine AfterD.end rfl (by kernel_rfl) ?_
              try simp only [World.size_alloc, World.size_drew, Act.put, List.setIfInBounds_toArray, List.set_cons_succ, List.set_cons_zero]
              refine WD.done (by kernel_rfl) ?_
              go_wp2_with (first
                | (go_at_call 24; refine (HL6.out _ (g8)).mono ?_; rintro e wL ⟨rfl, hwL⟩; have hwL' := hwL.symm; subst hwL')
                | (go_at_call 22; refine (HR6.out _ (g8)).mono ?_; rintro e wR ⟨rfl, fR⟩)
                | (go_at_call 15; refine (HQ6.out _ ((g8).trans' fR)).mono ?_; rintro e wQ ⟨rfl, fQ⟩))
              go_roundw
              case rel =>
                have gg := ((g8).trans' fR).trans' fQ
                exact ⟨k + 1, by first | rfl | go_num, by omega, tb, bl, T, rfl, HT6.out.keep gg (by simp), HTm.out, HO6.out.keep gg (by simp), HX.out, HBL.out, HTB.out, F6.out.trans' gg⟩
              case measure => simp [intOf]; omega
          have e1 : (d == 1) = false := by simpa using c1
          have e2 : (d == 2) = false := by simpa using c2
          have e3 : (d == 3) = false := by simpa using c3
          have e4 : (d == 4) = false := by simpa using c4
          have e1' : decide (d = 1) = false := by simpa using c1
          have e2' : decide (d = 2) = false := by simpa using c2
          have e3' : decide (d = 3) = false := by simpa using c3
          have e4' : decide (d = 4) = false := by simpa using c4
          clear c1 c2 c3 c4
          have HSet := hid (set_not HT6.out HTl.out I X (by rw [HTm.out]; exact hin))
          as_aux_lemma =>
            go_wp2_with (first
              | (go_at_call 20; refine HSet.out.mono ?_; rintro e w7 ⟨rfl, hw⟩; have hw' := hw.symm; subst hw')
              | (go_at_call 24; refine (HL6.out _ (Fr.refl _ _)).mono ?_; rintro e wL ⟨rfl, hwL⟩; have hwL' := hwL.symm; subst hwL')
              | (go_at_call 22; refine (HR6.out _ (Fr.refl _ _)).mono ?_; rintro e wR ⟨rfl, fR⟩)
              | (go_at_call 15; refine (HQ6.out _ ((Fr.refl _ _).trans' fR)).mono ?_; rintro e wQ ⟨rfl, fQ⟩))
            go_roundw
            case rel =>
              have gg := ((Fr.refl _ _).trans' fR).trans' fQ
              exact ⟨k + 1, by first | rfl | go_num, by omega, tb, bl, T, rfl, HT6.out.keep gg (by simp), HTm.out, HO6.out.keep gg (by simp), HX.out, HBL.out, HTB.out, F6.out.trans' gg⟩
            case measure => simp [intOf]; omega
    · have g1 : decide ((k : Int) < (M : Int)) = false := by simp; omega
      have g1' : ¬ ((k : Int) < (M : Int)) := by omega
      have hkp := HO.out.rd.rc.keep ((Fr.refl [] wr).alloc (.cells #[] 9)) (by simp)
      have hown : Xr.Own (wr.alloc (.cells #[] 9)) 1 (.slice (some ⟨wr.heap.size, 0, none⟩) 0 0) 0 [] (some wr.heap.size) :=
        Own.blk (cs := []) (Blk.alloc wr [] _) (Nat.le_refl _) (by simp) (by simp)
      have HTl := hid (show 0 < T.length by rw [HTm.out]; omega)
      go_wp2_with (refine wpList_append_rc rfl _ _ _ rfl 9 _ _ 1 16 Try.underlying22 Hi.out Hz.out Hs.out Hb.out rfl (by decide) rfl hown rfl hkp (str_one T) (by unfold maxLen; omega) (by omega) ?_; intro v1 w1 B1 ho1 f1 hB1; revert f1; simp only [World.size_alloc, World.size_drew, Act.put, List.setIfInBounds_toArray, List.set_cons_succ, List.set_cons_zero])
      intro f1
      have g6 : Fr [] wr w1 := ((Fr.refl [] wr).alloc _).trans f1 (by intro y hy; simp at hy; exact .inr (by omega))
      have hin : Rc w1 1 v1 T.length (T.map .string) B1 := rc_as ho1.rd.rc (by rw [HTm.out]; omega) (by simp)
      have HOf := hid (Of_any hin (by rw [HTm.out]; omega) HTl.out (fun s hs => by have := HX.out s hs; omega))
      obtain ⟨va1, vc1, rfl⟩ := ho1.isSlice
      rw [Nat.zero_add] at HOf ⊢
      have HR6 := hid (root_keep HT.out HTl.out)
      have HQ6 := hid (rroot_keep HO.out HTm.out (by omega) (by omega) HX.out)
      obtain ⟨RT, hRT⟩ : ∃ RT, rootS T = RT := ⟨_, rfl⟩
      rw [hRT] at HR6 HQ6 HOf
      clear hown hkp ho1 hin hB1 hRT
      go_wp2_with (first
        | (go_at_call 13; refine HOf.out.mono ?_; rintro e w2 ⟨rfl, f2⟩; have g2 := g6.trans' f2)
        | (go_at_call 15; refine (HQ6.out _ g2).mono ?_; rintro e w3 ⟨rfl, f3⟩; have g3 := g2.trans' f3)
        | (go_at_call 22; refine (HR6.out _ g3).mono ?_; rintro e w4 ⟨rfl, f4⟩; have g4 := g3.trans' f4)
        | (go_at_call 10; refine alive_any.mono ?_; rintro e w5 ⟨rfl, f5⟩))
      go_ret
      exact ⟨rfl, (f.trans' g4).trans' f5⟩
end Go.Proofs.Ythfjjencnfebmaa.mer
