/- Layer 1: ShaBooks, the walk. -/
import Derived.Test.YtkohnmlnpbkphaaShaV
namespace Go.Proofs.Ytkohnmlnpbkphaa
open Go Go.Xr Go.RowKit
set_option linter.unusedVariables false
set_option linter.unusedSimpArgs false
/-- What the statement has seen, beside the book. -/
structure BI (l : List ByteArray) (i : Nat) (B : BookS) (sf : ByteArray → Option Int) (ns : Nat) : Prop where
  none_ : ∀ d, sf d = none → B.bf d = none
  some_ : ∀ d j, sf d = some j → ∃ (k : Nat) (h : k < l.length), j = (k : Int) ∧ B.bf d = some l[k]
  hnk : B.nk ≤ i
  hnb : B.nb ≤ i
  hns : ns ≤ i
  ok : B.cl = false → B.nk = ns ∧ B.x = ⟨#[]⟩ ∧ B.y = ⟨#[]⟩ ∧ ∀ s, B.kf s = some true → B.bf (shaS s) = some s
  kn : ∀ d t, B.bf d = some t → B.kf t = some true
  kt : ∀ s a, B.kf s = some a → a = true
theorem BI.on {l : List ByteArray} {i : Nat} {B : BookS} {sf : ByteArray → Option Int} {ns : Nat} (h : BI l i B sf ns) : BI l (i + 1) B sf ns :=
  ⟨h.none_, h.some_, Nat.le_succ_of_le h.hnk, Nat.le_succ_of_le h.hnb, Nat.le_succ_of_le h.hns, h.ok, h.kn, h.kt⟩
theorem put_nk_le (B : BookS) (s : ByteArray) : (B.put s).nk ≤ B.nk + 1 := by
  rw [BookS.put_nk]
  split <;> omega
theorem put_kt {B : BookS} (h : ∀ s a, B.kf s = some a → a = true) (s : ByteArray) : ∀ t a, (B.put s).kf t = some a → a = true := by
  intro t a ht
  rw [BookS.put_kf] at ht
  simp only at ht
  split at ht
  · cases ht; rfl
  · exact h t a ht
theorem BI.new {l : List ByteArray} {i : Nat} {B : BookS} {sf : ByteArray → Option Int} {ns : Nat} (h : BI l i B sf ns) (hi : i < l.length) (hd : sf (shaS l[i]) = none) :
    BI l (i + 1) (B.put l[i]) (fun x => if x = shaS l[i] then some (i : Int) else sf x) (ns + 1) ∧ (B.put l[i]).x = B.x ∧ (B.put l[i]).y = B.y ∧ (B.put l[i]).cl = B.cl := by
  have hb := h.none_ _ hd
  have e1 : (B.put l[i]).bf = fun x => if x = shaS l[i] then some l[i] else B.bf x := by simp [BookS.put, hb]
  have e2 : (B.put l[i]).x = B.x := by simp [BookS.put, hb]
  have e3 : (B.put l[i]).y = B.y := by simp [BookS.put, hb]
  have e4 : (B.put l[i]).cl = B.cl := by simp [BookS.put, hb]
  refine ⟨⟨?_, ?_, Nat.le_trans (put_nk_le _ _) (by have := h.hnk; omega), Nat.le_trans (BookS.put_nb _ _) (by have := h.hnb; omega), by have := h.hns; omega, ?_, ?_, put_kt h.kt _⟩, e2, e3, e4⟩
  · intro d hd2
    rw [e1]
    simp only at hd2 ⊢
    split at hd2
    · cases hd2
    · rename_i hne
      rw [if_neg hne]
      exact h.none_ d hd2
  · intro d j hj
    rw [e1]
    simp only at hj ⊢
    split at hj
    · rename_i he
      cases hj
      exact ⟨i, hi, rfl, by rw [if_pos he]⟩
    · rename_i hne
      obtain ⟨k, hk, h1, h2⟩ := h.some_ d j hj
      exact ⟨k, hk, h1, by rw [if_neg hne]; exact h2⟩
  · intro hc
    rw [e4] at hc
    obtain ⟨h1, h2, h3, h4⟩ := h.ok hc
    have hkS : B.kf l[i] = none := by
      cases hk : B.kf l[i] with
      | none => rfl
      | some a =>
        have := h4 l[i] (by rw [hk, h.kt _ _ hk])
        rw [hb] at this
        cases this
    refine ⟨?_, e2.trans h2, e3.trans h3, fun s hs => ?_⟩
    · rw [BookS.put_nk, hkS]
      simp [h1]
    · rw [e1]
      simp only
      rw [BookS.put_kf] at hs
      simp only at hs
      split at hs
      · rename_i he
        rw [if_pos (by rw [he]), he]
      · have h5 := h4 s hs
        rw [if_neg (fun e => by rw [e, hb] at h5; cases h5)]
        exact h5
  · intro d t ht
    rw [e1] at ht
    simp only at ht
    rw [BookS.put_kf]
    simp only
    split at ht
    · cases ht; rw [if_pos rfl]
    · split
      · rfl
      · exact h.kn d t ht
theorem BI.old {l : List ByteArray} {i : Nat} {B : BookS} {sf : ByteArray → Option Int} {ns : Nat} (h : BI l i B sf ns) (hi : i < l.length) {k : Nat} (hk : k < l.length) (hd : sf (shaS l[i]) = some (k : Int)) :
    BI l (i + 1) (B.put l[i]) sf ns ∧ (if l[k] ≠ l[i] ∧ B.cl = false then (B.put l[i]).x = l[k] ∧ (B.put l[i]).y = l[i] ∧ (B.put l[i]).cl = true else (B.put l[i]).x = B.x ∧ (B.put l[i]).y = B.y ∧ (B.put l[i]).cl = B.cl) := by
  obtain ⟨k', hk', he, hb⟩ := h.some_ _ _ hd
  have : k = k' := by omega
  subst this
  have e1 : (B.put l[i]).bf = B.bf := by simp [BookS.put, hb]
  have hn : ∀ d t, (B.put l[i]).bf d = some t → (B.put l[i]).kf t = some true := by
    intro d t ht
    rw [e1] at ht
    rw [BookS.put_kf]
    simp only
    split
    · rfl
    · exact h.kn d t ht
  have hnk : (B.put l[i]).nk ≤ i + 1 := Nat.le_trans (put_nk_le _ _) (by have := h.hnk; omega)
  have hnb : (B.put l[i]).nb ≤ i + 1 := Nat.le_trans (BookS.put_nb _ _) (by have := h.hnb; omega)
  by_cases hc : l[k] ≠ l[i] ∧ B.cl = false
  · rw [if_pos hc]
    have e2 : (B.put l[i]).x = l[k] := by simp [BookS.put, hb, hc.1, hc.2]
    have e3 : (B.put l[i]).y = l[i] := by simp [BookS.put, hb, hc.1, hc.2]
    have e4 : (B.put l[i]).cl = true := by simp [BookS.put, hb, hc.1, hc.2]
    exact ⟨⟨fun d hd => by rw [e1]; exact h.none_ d hd, fun d j hj => by rw [e1]; exact h.some_ d j hj, hnk, hnb, Nat.le_succ_of_le h.hns, (fun h0 => by rw [e4] at h0; cases h0), hn, put_kt h.kt _⟩, e2, e3, e4⟩
  · rw [if_neg hc]
    have hh : (decide (l[k] ≠ l[i]) && !B.cl) = false := by
      by_cases h1 : l[k] = l[i]
      · simp [h1]
      · cases h2 : B.cl
        · exact absurd ⟨h1, h2⟩ hc
        · simp
    have e2 : (B.put l[i]).x = B.x := by
      show (if _ then _ else _) = _
      rw [hb]
      simp only [hh]
      simp
    have e3 : (B.put l[i]).y = B.y := by
      show (if _ then _ else _) = _
      rw [hb]
      simp only [hh]
      simp
    have e4 : (B.put l[i]).cl = B.cl := by
      show (B.cl || _) = _
      rw [hb]
      simp only [hh]
      simp
    refine ⟨⟨fun d hd => by rw [e1]; exact h.none_ d hd, fun d j hj => by rw [e1]; exact h.some_ d j hj, hnk, hnb, Nat.le_succ_of_le h.hns, ?_, hn, put_kt h.kt _⟩, e2, e3, e4⟩
    intro h0
    rw [e4] at h0
    obtain ⟨h1, h2, h3, h4⟩ := h.ok h0
    have hts : l[k] = l[i] := by
      by_cases h5 : l[k] = l[i]
      · exact h5
      · exact absurd ⟨h5, h0⟩ hc
    have hki : B.kf l[i] = some true := by rw [← hts]; exact h.kn _ _ hb
    refine ⟨?_, e2.trans h2, e3.trans h3, fun s hs => ?_⟩
    · rw [BookS.put_nk, hki]
      simp [h1]
    · rw [e1]
      rw [BookS.put_kf] at hs
      simp only at hs
      split at hs
      · rename_i he
        rw [he, hb, hts]
      · exact h4 s hs
theorem rc_str1 {w wr : World} {la : Option Addr} {lc : Nat} {l : List ByteArray} {LB : Option Nat} (hl : Rc w 1 (.slice la l.length lc) l.length (l.map .string) LB) (f : Fr [] w wr) (i : Nat) (hi : i < l.length) :
    ∃ lb off, la = some ⟨lb, off, none⟩ ∧ lb < w.heap.size ∧ wr.cell? ⟨lb, off + i, none⟩ = some (.string l[i]) := by
  obtain ⟨lb, off, lc', hLB, hv, h1, h2, h3, h4⟩ := hl.some (by omega)
  obtain ⟨rfl, rfl⟩ : la = some ⟨lb, off, none⟩ ∧ lc = lc' := by simpa using hv
  refine ⟨lb, off, rfl, h3, ?_⟩
  rw [f.cell_old (a := ⟨lb, off + i, none⟩) h3, h4 i (by simpa using hi), List.getElem?_map, List.getElem?_eq_getElem hi]
  rfl
abbrev SeenM (w : World) (sb ns : Nat) (sf : ByteArray → Option Int) : Prop := MapF Try.prog 9 3 (fun n : Int => .lit (.int .i64 n)) w sb ns sf
theorem SeenM.has {w : World} {sb ns : Nat} {sf : ByteArray → Option Int} (h : SeenM w sb ns sf) (hg : ∀ s a, sf s = some a → (Lit.int .i64 a).wf = true) (s : ByteArray) (hs : s.size ≤ maxLen) : (Instr.lookup 49 (.map (some sb)) (.string s) true).run Try.prog w = .ok (.tuple #[.int .i64 ((sf s).getD 0), .bool (sf s).isSome]) w :=
  MapF.get_ok h (el_int Try.underlying3) Try.underlying9 Try.underlying49 (z := 0) (zeroInt w) (by decide) hg s hs
theorem wf_nat (k : Nat) (h : k ≤ 9223372036854775807) : (Lit.int .i64 (k : Int)).wf = true := by
  have h2 : IntKind.i64.min = -9223372036854775808 := by decide
  have h3 : IntKind.i64.max = 9223372036854775807 := by decide
  simp [Lit.wf, h2, h3]
  omega
set_option maxRecDepth 20000 in
set_option maxHeartbeats 4000000 in
theorem books_walk {w : World} {v : Value} {l : List ByteArray} {LB : Option Nat} (hl : Rc w 1 v l.length (l.map .string) LB) (hm : l.length ≤ maxLen) :
    Calls Try.prog 8 #[v] w fun e w' => e = .returned (.bool true) ∧ Fr [] w w' := by
  unfold maxLen at hm
  obtain ⟨la, lc, rfl⟩ := hl.isSlice
  have Hl := hid hl
  have hmm := @run_makeMap Try.prog
  obtain ⟨n, hn⟩ : ∃ n, l.length = n := ⟨_, rfl⟩
  have Hn := hid hn
  rw [hn] at hm ⊢
  clear hl hn
  go_enter Try.func8, Try.ntmps8
  go_wp2_with fail
  refine newb_any.mono ?_
  rintro e w1 ⟨p, bb, kb, rfl, h1, hp, hbb, hkb, f1⟩
  go_wp2_with fail
  obtain ⟨sb, hsb⟩ : ∃ sb, w1.heap.size = sb := ⟨_, rfl⟩
  obtain ⟨w2, hw2⟩ : ∃ w2, w1.alloc (.map #[] 0) = w2 := ⟨_, rfl⟩
  have hS : SeenM w2 sb 0 (fun _ => none) := by rw [← hw2, ← hsb]; exact MapF.made w1
  have f2 : Fr [] w1 w2 := by rw [← hw2]; exact (Fr.refl [] w1).alloc _
  have h2 := h1.keep f2 (by simp) (by simp) (by simp)
  have HS := hid (show ∀ x ∈ [p, bb, kb], x ∈ ([] : List Nat) ∨ w.heap.size ≤ x by simp; omega)
  have hbb1 := h1.by_.lt
  have hkb1 := h1.kn.lt
  have hpb1 := h1.blk.lt
  have HsS := hid (show sb ∉ [p, bb, kb] by simp; omega)
  have HsW := hid (show ∀ x ∈ [sb], x ∈ ([] : List Nat) ∨ w.heap.size ≤ x by have := f1.size; simp; omega)
  have HpS := hid (show p ∉ [sb] ∧ bb ∉ [sb] ∧ kb ∉ [sb] by simp; omega)
  have g2 := f1.trans' f2
  have Hwp := hid (show w.heap.size ≤ p ∧ w.heap.size ≤ bb ∧ w.heap.size ≤ kb from ⟨hp, hbb, hkb⟩)
  rw [hw2, hsb]
  clear hw2 hsb h1 f1 f2 hbb1 hkb1 hpb1 hp hbb hkb
  go_loopw [5, 6, 7, 8] (fun xv yv cv iv wr => ∃ (i : Nat) (B : BookS) (sf : ByteArray → Option Int) (ns : Nat), i ≤ n ∧ i ≤ 60 ∧ iv = .int .i64 i ∧ xv = .string B.x ∧ yv = .string B.y ∧ cv = .bool B.cl ∧ BookM wr p bb kb B ∧ SeenM wr sb ns sf ∧ Hid (BI l i B sf ns) ∧ Fr [] w wr) (fun _ _ _ iv _ => n - (intOf iv).toNat)
  case atStart => exact ⟨0, BookS.empty, fun _ => none, 0, by omega, by omega, rfl, rfl, rfl, rfl, h2, hS, hid ⟨fun _ _ => rfl, (fun _ _ h => nomatch h), Nat.le_refl _, Nat.le_refl _, Nat.le_refl _, fun _ => ⟨rfl, rfl, rfl, (fun _ h => nomatch h)⟩, (fun _ _ h => nomatch h), (fun _ _ h => nomatch h)⟩, g2⟩
  case round =>
    obtain ⟨i, B, sf, ns, hi, hi60, rfl, rfl, rfl, rfl, hM, hS, HI, f⟩ := hrel
    clear h2 g2
    by_cases hli : i < n ∧ i < 60
    case neg =>
      have hend : decide (i < n) = false ∨ (decide (i < n) = true ∧ decide (i < 60) = false ∧ decide ((i : Int) < 60) = false) := by
        by_cases h : i < n
        · exact .inr ⟨by simp; omega, by simp; omega, by simp; omega⟩
        · exact .inl (by simp; omega)
      have hslen : ∀ ty, (Builtin.len_ #[49] ty #[.map (some sb)]).run Try.prog wr = .ok (.int .i64 (ns : Int)) wr := fun ty => hS.len Try.underlying49 ty
      have hxx : ∀ s : ByteArray, (s.toList == s.toList) = true := fun s => by simp
      rcases hend with e1 | ⟨e1, e2, e3⟩
      all_goals
        cases hcl : B.cl
        case true =>
          have HB := hid fun w0 (h : BookM w0 p bb kb B) => bclash_any h
          rw [hcl] at HB
          go_wp2_with fail
          refine (HB.out _ hM).mono ?_
          rintro e w5 ⟨rfl, f5⟩
          go_wp2_with fail
          refine alive_any.mono ?_
          rintro e w6 ⟨rfl, f6⟩
          go_wp2_with fail
          go_ret
          exact ⟨rfl, (f.trans' f5).trans' f6⟩
        case false =>
          obtain ⟨hk1, hk2, hk3, _⟩ := HI.out.ok hcl
          have HB := hid fun w0 (h : BookM w0 p bb kb B) => bclash_any h
          have HL := hid fun w0 (h : BookM w0 p bb kb B) => blen_any h
          rw [hcl, hk2, hk3] at HB
          rw [hk1] at HL
          clear hk1 hk2 hk3
          go_wp2_with fail
          refine (HB.out _ hM).mono ?_
          rintro e w5 ⟨rfl, f5⟩
          have hM5 := hM.keep f5 (by simp) (by simp) (by simp)
          have hS5 := hS.keep f5 (by simp)
          have hslen5 : ∀ ty, (Builtin.len_ #[49] ty #[.map (some sb)]).run Try.prog w5 = .ok (.int .i64 (ns : Int)) w5 := fun ty => hS5.len Try.underlying49 ty
          go_wp2_with fail
          refine (HL.out _ hM5).mono ?_
          rintro e w' ⟨rfl, rfl⟩
          go_wp2_with fail
          refine alive_any.mono ?_
          rintro e w6 ⟨rfl, f6⟩
          go_wp2_with fail
          go_ret
          exact ⟨rfl, (f.trans' f5).trans' f6⟩
    case pos =>
      have e1 : decide (i < n) = true := by simp; omega
      have e2 : decide (i < 60) = true := by simp; omega
      have e3 : decide ((i : Int) < 60) = true := by simp; omega
      obtain ⟨lb, off, hla, hlbw, hcell⟩ := rc_str1 (wr := wr) Hl.out f i (by rw [Hn.out]; exact hli.1)
      have hil : i < l.length := by rw [Hn.out]; exact hli.1
      obtain ⟨S, hSe⟩ : ∃ S, l[i]'hil = S := ⟨_, rfl⟩
      rw [hSe] at hcell
      have HSe := hid hSe
      have HlS := hid (show lb ∉ [p, bb, kb] by have := Hwp.out; simp; omega)
      have hlbw2 : lb < wr.heap.size := by have := f.size; omega
      clear hSe
      by_cases hbig : 500 < S.size
      case pos =>
        subst hla
        have hd3 : decide (500 < (S.size : Int)) = true := by simp; omega
        have hd4 : decide (500 < S.size) = true := by simp; omega
        go_wp2_with fail
        go_roundw
        case rel => exact ⟨i + 1, B, sf, ns, by omega, by omega, by go_num, rfl, rfl, rfl, hM, hS, hid HI.out.on, f⟩
        case measure => simp [intOf]; omega
      case neg =>
        have hd3 : decide (500 < (S.size : Int)) = false := by simp; omega
        have hd4 : decide (500 < S.size) = false := by simp; omega
        have hSm : S.size ≤ 500 := by omega
        have hnk := HI.out.hnk
        have hnb := HI.out.hnb
        have hns := HI.out.hns
        have hwf : ∀ s a, sf s = some a → (Lit.int .i64 a).wf = true := fun s a h => by
          obtain ⟨k, hk, rfl, _⟩ := HI.out.some_ s a h
          exact wf_nat k (by have := Hn.out; omega)
        have HP := hid fun (w0 : World) (h : BookM w0 p bb kb B) => bof_put h S (by omega) (.inr (by omega)) (by omega) (by omega)
        obtain ⟨d, hd⟩ : ∃ d, shaS S = d := ⟨_, rfl⟩
        have HD := hid hd
        have hdm : d.size ≤ maxLen := by rw [← hd]; exact shaS_max S
        rw [hd] at HP
        clear hbig hd
        cases hsd : sf d with
        | none =>
          subst hla
          have Hsd := hid hsd
          have Hnew := hid (HI.out.new hil (by rw [HSe.out, HD.out]; exact hsd))
          rw [HSe.out, HD.out] at Hnew
          go_wp2_with fail
          refine (rof_any S (by omega)).mono ?_
          rintro e w2 ⟨rfl, f2⟩
          have hc2 := f2.cell_some hcell
          have hM2 := hM.keep f2 (by simp) (by simp) (by simp)
          go_wp2_with fail
          refine (HP.out _ hM2).mono ?_
          rintro e w3 ⟨rfl, hM3, f3⟩
          have hc3 : w3.cell? ⟨lb, off + i, none⟩ = some (.string S) := (World.cell?_of_block (w := w2) (f3.block lb (by have := f2.lt hlbw2; omega) HlS.out)).trans hc2
          have hS3 := (hS.keep f2 (by simp)).keep f3 HsS.out
          have g3 := (f.trans' f2).trans f3 HS.out
          have g13 : Fr [p, bb, kb] wr w3 := (f2.mono (T := [p, bb, kb]) (by simp)).trans' f3
          have hlk := SeenM.has hS3 hwf d hdm
          rw [HD.out]
          rw [Hsd.out] at hlk
          clear f2 f3 hM hM2 hc2 hcell hS
          have hlk2 : (Instr.lookup 49 (.map (some sb)) (.string d) true).run Try.prog w3 = .ok (.tuple #[.int .i64 0, .bool false]) w3 := hlk
          clear hlk
          go_wp2_with fail
          have hS3d : SeenM w3.drew sb ns sf := hS3
          have hM3d := hM3.keep ((Fr.refl [] w3).drew) (by simp) (by simp) (by simp)
          refine wp_region_D (fun _ => True) false [] (by kernel_rfl) ?_
          refine WD.pure [0, 1, 2, 3, 4, 5, 6, 7, 8, 9, 10, 11, 12, 13, 14, 15] (by kernel_rfl) trivial ?_
          simp only [pick, List.toList_toArray, List.map_cons, List.map_nil, List.getD_cons_succ, List.getD_cons_zero]
          repeat (first | go_big_quiet_step (fail))
          refine wpQuiet_nil ?_
          refine WD.done (by kernel_rfl) ?_
          go_wp2_with (at_mapUpdate; refine wpList_map_put rfl _ _ _ _ rfl rfl rfl (i : Int) rfl hS3d (el_int Try.underlying3) Try.underlying9 Try.underlying49 (by unfold maxLen; omega) hdm (wf_nat i (by omega)) ?_; intro w4 hS4 f4; simp only [World.size_alloc, World.size_drew, Act.put, List.setIfInBounds_toArray, List.set_cons_succ, List.set_cons_zero])
          go_roundw
          case rel =>
            rw [Hsd.out] at hS4
            exact ⟨i + 1, B.put S, fun x => if x = d then some (i : Int) else sf x, ns + 1, by omega, by omega, by go_num, by rw [Hnew.out.2.1], by rw [Hnew.out.2.2.1], by rw [Hnew.out.2.2.2], hM3d.keep f4 HpS.out.1 HpS.out.2.1 HpS.out.2.2, hS4, hid Hnew.out.1, (g3.drew).trans f4 HsW.out⟩
          case measure => simp [intOf]; omega
        | some j =>
          obtain ⟨k, hk, rfl, hbk⟩ := HI.out.some_ d j hsd
          have hkn : k < n := by rw [← Hn.out]; exact hk
          obtain ⟨lb2, off2, hla2, _, hck⟩ := rc_str1 (wr := wr) Hl.out f k hk
          obtain ⟨rfl, rfl⟩ : lb = lb2 ∧ off = off2 := by rw [hla] at hla2; simp at hla2; exact hla2
          subst hla
          obtain ⟨T, hTe⟩ : ∃ T, l[k]'hk = T := ⟨_, rfl⟩
          rw [hTe] at hck
          have Hsd := hid hsd
          have Hold := hid (HI.out.old hil hk (by rw [HSe.out, HD.out]; exact hsd))
          rw [HSe.out, hTe] at Hold
          clear hTe hbk hla2 hsd
          have hkd1 : decide (k < n) = true := by simp; omega
          have hcase : (T = S ∧ (T.toList == S.toList) = true) ∨ (T ≠ S ∧ (T.toList == S.toList) = false) := by
            by_cases hts : T = S
            · exact .inl ⟨hts, by rw [beq_str2]; exact decide_eq_true hts⟩
            · exact .inr ⟨hts, by rw [beq_str2]; exact decide_eq_false hts⟩
          rcases hcase with ⟨hts, hbe⟩ | ⟨hts, hbe⟩
          · skip
            go_wp2_with fail
            refine (rof_any S (by omega)).mono ?_
            rintro e w2 ⟨rfl, f2⟩
            have hc2 := f2.cell_some hcell
            have hM2 := hM.keep f2 (by simp) (by simp) (by simp)
            go_wp2_with fail
            refine (HP.out _ hM2).mono ?_
            rintro e w3 ⟨rfl, hM3, f3⟩
            have hc3 : w3.cell? ⟨lb, off + i, none⟩ = some (.string S) := (World.cell?_of_block (w := w2) (f3.block lb (by have := f2.lt hlbw2; omega) HlS.out)).trans hc2
            have hS3 := (hS.keep f2 (by simp)).keep f3 HsS.out
            have g3 := (f.trans' f2).trans f3 HS.out
            have g13 : Fr [p, bb, kb] wr w3 := (f2.mono (T := [p, bb, kb]) (by simp)).trans' f3
            have hlk := SeenM.has hS3 hwf d hdm
            rw [HD.out]
            rw [Hsd.out] at hlk
            clear f2 f3 hM hM2 hc2 hcell hS
            have hck3 : w3.cell? ⟨lb, off + k, none⟩ = some (.string T) := (World.cell?_of_block (w := wr) (g13.block lb hlbw2 HlS.out)).trans hck
            have hlk2 : (Instr.lookup 49 (.map (some sb)) (.string d) true).run Try.prog w3 = .ok (.tuple #[.int .i64 (k : Int), .bool true]) w3 := hlk
            clear hlk hck
            go_wp2_with fail
            have hc3d : w3.drew.cell? ⟨lb, off + i, none⟩ = some (.string S) := hc3
            have hck3d : w3.drew.cell? ⟨lb, off + k, none⟩ = some (.string T) := hck3
            have hS3d : SeenM w3.drew sb ns sf := hS3
            have hM3d := hM3.keep ((Fr.refl [] w3).drew) (by simp) (by simp) (by simp)
            have Hr := hid Hold.out.2
            rw [if_neg (fun h => h.1 hts)] at Hr
            have hck4 : w3.drew.cell? ⟨lb, off + k, none⟩ = some (.string T) := hck3
            refine wp_region_D (fun _ => True) false [] (by kernel_rfl) ?_
            refine WD.pure [0, 1, 2, 3, 4, 5, 6, 7, 8, 9, 10, 11, 12, 13, 14, 15] (by kernel_rfl) trivial ?_
            simp only [pick, List.toList_toArray, List.map_cons, List.map_nil, List.getD_cons_succ, List.getD_cons_zero]
            repeat (first | go_big_quiet_step (fail))
            refine wpQuiet_nil ?_
            refine WD.done (by kernel_rfl) ?_
            go_wp2_with fail
            go_roundw
            case rel => exact ⟨i + 1, B.put S, sf, ns, by omega, by omega, by go_num, by rw [Hr.out.1], by rw [Hr.out.2.1], by rw [Hr.out.2.2], hM3d, hS3d, hid Hold.out.1, g3.drew⟩
            case measure => simp [intOf]; omega
          · cases hcl : B.cl
            case true =>
              go_wp2_with fail
              refine (rof_any S (by omega)).mono ?_
              rintro e w2 ⟨rfl, f2⟩
              have hc2 := f2.cell_some hcell
              have hM2 := hM.keep f2 (by simp) (by simp) (by simp)
              go_wp2_with fail
              refine (HP.out _ hM2).mono ?_
              rintro e w3 ⟨rfl, hM3, f3⟩
              have hc3 : w3.cell? ⟨lb, off + i, none⟩ = some (.string S) := (World.cell?_of_block (w := w2) (f3.block lb (by have := f2.lt hlbw2; omega) HlS.out)).trans hc2
              have hS3 := (hS.keep f2 (by simp)).keep f3 HsS.out
              have g3 := (f.trans' f2).trans f3 HS.out
              have g13 : Fr [p, bb, kb] wr w3 := (f2.mono (T := [p, bb, kb]) (by simp)).trans' f3
              have hlk := SeenM.has hS3 hwf d hdm
              rw [HD.out]
              rw [Hsd.out] at hlk
              clear f2 f3 hM hM2 hc2 hcell hS
              have hck3 : w3.cell? ⟨lb, off + k, none⟩ = some (.string T) := (World.cell?_of_block (w := wr) (g13.block lb hlbw2 HlS.out)).trans hck
              have hlk2 : (Instr.lookup 49 (.map (some sb)) (.string d) true).run Try.prog w3 = .ok (.tuple #[.int .i64 (k : Int), .bool true]) w3 := hlk
              clear hlk hck
              go_wp2_with fail
              have hc3d : w3.drew.cell? ⟨lb, off + i, none⟩ = some (.string S) := hc3
              have hck3d : w3.drew.cell? ⟨lb, off + k, none⟩ = some (.string T) := hck3
              have hS3d : SeenM w3.drew sb ns sf := hS3
              have hM3d := hM3.keep ((Fr.refl [] w3).drew) (by simp) (by simp) (by simp)
              have Hr := hid Hold.out.2
              rw [if_neg (fun h => by rw [hcl] at h; exact absurd h.2 (by decide))] at Hr
              refine wp_region_D (fun _ => True) false [] (by kernel_rfl) ?_
              refine WD.pure [0, 1, 2, 3, 4, 5, 6, 7, 8, 9, 10, 11, 12, 13, 14, 15] (by kernel_rfl) trivial ?_
              simp only [pick, List.toList_toArray, List.map_cons, List.map_nil, List.getD_cons_succ, List.getD_cons_zero]
              repeat (first | go_big_quiet_step (fail))
              refine wpQuiet_nil ?_
              refine WD.done (by kernel_rfl) ?_
              go_wp2_with fail
              go_roundw
              case rel => exact ⟨i + 1, B.put S, sf, ns, by omega, by omega, by go_num, by rw [Hr.out.1], by rw [Hr.out.2.1], by rw [Hr.out.2.2, hcl], hM3d, hS3d, hid Hold.out.1, g3.drew⟩
              case measure => simp [intOf]; omega
            case false =>
              go_wp2_with fail
              refine (rof_any S (by omega)).mono ?_
              rintro e w2 ⟨rfl, f2⟩
              have hc2 := f2.cell_some hcell
              have hM2 := hM.keep f2 (by simp) (by simp) (by simp)
              go_wp2_with fail
              refine (HP.out _ hM2).mono ?_
              rintro e w3 ⟨rfl, hM3, f3⟩
              have hc3 : w3.cell? ⟨lb, off + i, none⟩ = some (.string S) := (World.cell?_of_block (w := w2) (f3.block lb (by have := f2.lt hlbw2; omega) HlS.out)).trans hc2
              have hS3 := (hS.keep f2 (by simp)).keep f3 HsS.out
              have g3 := (f.trans' f2).trans f3 HS.out
              have g13 : Fr [p, bb, kb] wr w3 := (f2.mono (T := [p, bb, kb]) (by simp)).trans' f3
              have hlk := SeenM.has hS3 hwf d hdm
              rw [HD.out]
              rw [Hsd.out] at hlk
              clear f2 f3 hM hM2 hc2 hcell hS
              have hck3 : w3.cell? ⟨lb, off + k, none⟩ = some (.string T) := (World.cell?_of_block (w := wr) (g13.block lb hlbw2 HlS.out)).trans hck
              have hlk2 : (Instr.lookup 49 (.map (some sb)) (.string d) true).run Try.prog w3 = .ok (.tuple #[.int .i64 (k : Int), .bool true]) w3 := hlk
              clear hlk hck
              go_wp2_with fail
              have hc3d : w3.drew.cell? ⟨lb, off + i, none⟩ = some (.string S) := hc3
              have hck3d : w3.drew.cell? ⟨lb, off + k, none⟩ = some (.string T) := hck3
              have hS3d : SeenM w3.drew sb ns sf := hS3
              have hM3d := hM3.keep ((Fr.refl [] w3).drew) (by simp) (by simp) (by simp)
              have Hr := hid Hold.out.2
              rw [if_pos ⟨hts, hcl⟩] at Hr
              refine wp_region_D (fun _ => True) false [] (by kernel_rfl) ?_
              refine WD.pure [0, 1, 2, 3, 4, 5, 6, 7, 8, 9, 10, 11, 12, 13, 14, 15] (by kernel_rfl) trivial ?_
              simp only [pick, List.toList_toArray, List.map_cons, List.map_nil, List.getD_cons_succ, List.getD_cons_zero]
              repeat (first | go_big_quiet_step (fail))
              refine wpQuiet_nil ?_
              refine WD.done (by kernel_rfl) ?_
              go_wp2_with fail
              have hc5 : w3.drew.drew.cell? ⟨lb, off + i, none⟩ = some (.string S) := hc3
              have hck5 : w3.drew.drew.cell? ⟨lb, off + k, none⟩ = some (.string T) := hck3
              refine wp_region_D (fun _ => True) false [] (by kernel_rfl) ?_
              refine WD.pure [0, 1, 2, 3, 4, 5, 6, 7, 8, 9, 10] (by kernel_rfl) trivial ?_
              simp only [pick, List.toList_toArray, List.map_cons, List.map_nil, List.getD_cons_succ, List.getD_cons_zero]
              repeat (first | go_big_quiet_step (fail))
              refine wpQuiet_nil ?_
              refine WD.done (by kernel_rfl) ?_
              go_wp2_with fail
              go_roundw
              case rel => exact ⟨i + 1, B.put S, sf, ns, by omega, by omega, by go_num, by rw [Hr.out.1], by rw [Hr.out.2.1], by rw [Hr.out.2.2], hM3d.keep ((Fr.refl [] w3.drew).drew) (by simp) (by simp) (by simp), hS3d, hid Hold.out.1, (g3.drew).drew⟩
              case measure => simp [intOf]; omega
end Go.Proofs.Ytkohnmlnpbkphaa
