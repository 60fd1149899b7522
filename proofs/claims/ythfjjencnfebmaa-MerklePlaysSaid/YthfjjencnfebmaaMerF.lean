/- Layer 10, merkle: what is asked of a tree (Len, not, Get, Root), and a new one. -/
import Derived.Test.YthfjjencnfebmaaMerE
namespace Go.Proofs.Ythfjjencnfebmaa.mer
open Go Go.Xr Go.RowKit
set_option linter.unusedVariables false
set_option linter.unusedSimpArgs false
/-- The last row has one part. -/
theorem rowsF_last : ∀ (f : Nat) (r : List ByteArray), 0 < r.length → r.length ≤ f + 1 → ∃ pre x, rowsF f r = pre ++ [[x]]
  | 0, r, h0, hf => by
    match r, h0, hf with
    | [x], _, _ => exact ⟨[], x, rfl⟩
  | f + 1, r, h0, hf => by
    by_cases h : r.length ≤ 1
    · match r, h0, h with
      | [x], _, _ => exact ⟨[], x, rfl⟩
    · obtain ⟨pre, x, e⟩ := rowsF_last f (upS r) (upS_pos r h0) (by rw [upS_len]; omega)
      refine ⟨r :: pre, x, ?_⟩
      simp only [rowsF]
      rw [if_neg h, e]
      rfl
theorem rowsS_last (tags : List ByteArray) (h : 0 < tags.length) : ∃ pre x, rowsS tags = pre ++ [[x]] := rowsF_last _ _ (by rw [leafs_len]; exact h) (by rw [leafs_len]; omega)
/-- The root of rows; over tags. -/
def rootR (rows : List (List ByteArray)) : ByteArray := (rows.getLastD []).headD ⟨#[]⟩
def rootS (tags : List ByteArray) : ByteArray := rootR (rowsS tags)
theorem rootR_last (pre : List (List ByteArray)) (x : ByteArray) : rootR (pre ++ [[x]]) = x := by simp [rootR]
/-- What the fields of a tree are. -/
theorem TreeP.cells {w : World} {bl : List Nat} {tb : Nat} {tags : List ByteArray} {rows : List (List ByteArray)} {rvs : List Value} (h : TreeP w bl tb tags rows rvs) : ∃ bt ct br cr bs, bl = tb :: bt :: br :: bs ∧ Blk w tb [.slice (some ⟨bt, 0, none⟩) tags.length ct, .slice (some ⟨br, 0, none⟩) rows.length cr] ∧
    Xr.Own w 1 (.slice (some ⟨bt, 0, none⟩) tags.length ct) tags.length (tags.map .string) (some bt) ∧ Xr.Own w 1 (.slice (some ⟨br, 0, none⟩) rows.length cr) rows.length rvs (some br) ∧ tags.length ≤ ct ∧ rows.length ≤ cr ∧ RowsAt w rvs rows bs ∧ bl.Nodup := by
  obtain ⟨vt, bt, vr, br, bs, rfl, h1, h2, h3, h4, h5⟩ := h
  rcases h2.shape with ⟨_, _, _, h0⟩ | ⟨b2, ct, h0, rfl, hc2, _⟩
  · cases h0
  cases h0
  rcases h3.shape with ⟨_, _, _, h0⟩ | ⟨b3, cr, h0, rfl, hc3, _⟩
  · cases h0
  cases h0
  exact ⟨bt, ct, br, cr, bs, rfl, h1, h2, h3, hc2, hc3, h4, h5⟩
set_option maxRecDepth 20000 in
theorem len_any {w : World} {bl : List Nat} {tb : Nat} {tags : List ByteArray} {rows : List (List ByteArray)} (h : TreeAt w bl tb tags rows) : Calls Try.prog 24 #[.pointer (some ⟨tb, 0, none⟩)] w fun e w' => e = .returned (.int .i64 (tags.length : Int)) ∧ w' = w := by
  obtain ⟨rvs, h⟩ := h
  obtain ⟨bt, ct, br, cr, bs, rfl, h1, h2, h3, h4, h5, h6, h7⟩ := h.cells
  have k0 : w.cell? ⟨tb, 0, none⟩ = some (.slice (some ⟨bt, 0, none⟩) tags.length ct) := h1.cell 0
  clear h h1 h2 h3 h6 h7
  go_enter Try.func24, Try.ntmps24
  go_wp2_with fail
  go_ret
  exact ⟨rfl, rfl⟩
theorem len_nil {w : World} : Calls Try.prog 24 #[.pointer none] w fun e w' => e = .returned (.int .i64 0) ∧ w' = w := by
  go_enter Try.func24, Try.ntmps24
  go_wp2_with fail
  go_ret
  exact ⟨rfl, rfl⟩
theorem not_nil {w : World} (i : Int) : Calls Try.prog 36 #[.pointer none, .int .i64 i] w fun e w' => e = .returned (.int .i64 1) ∧ w' = w := by
  go_enter Try.func36, Try.ntmps36
  go_wp2_with (go_at_call 24; refine len_nil.mono ?_; rintro e w1 ⟨rfl, rfl⟩)
  go_ret
  exact ⟨rfl, rfl⟩
/-- Is a block's number one of n? -/
def notI (n : Nat) (i : Int) : Int := if 0 ≤ i ∧ i < n then 0 else 2
set_option maxRecDepth 20000 in
theorem not_any {w : World} {bl : List Nat} {tb : Nat} {tags : List ByteArray} {rows : List (List ByteArray)} (h : TreeAt w bl tb tags rows) (hn : 0 < tags.length) (i : Int) : Calls Try.prog 36 #[.pointer (some ⟨tb, 0, none⟩), .int .i64 i] w fun e w' => e = .returned (.int .i64 (notI tags.length i)) ∧ w' = w := by
  have Hl := hid (len_any h)
  obtain ⟨rvs, h⟩ := h
  obtain ⟨bt, ct, br, cr, bs, rfl, h1, h2, h3, h4, h5, h6, h7⟩ := h.cells
  have k0 : w.cell? ⟨tb, 0, none⟩ = some (.slice (some ⟨bt, 0, none⟩) tags.length ct) := h1.cell 0
  have hz : (((tags.length : Int)) == 0) = false := by simp; intro h; rw [h] at hn; simp at hn
  have hz2 : decide ((tags.length : Int) = 0) = false := by simp; intro h; rw [h] at hn; simp at hn
  obtain ⟨R, hR⟩ : ∃ R, notI tags.length i = R := ⟨_, rfl⟩
  have HR := hid hR
  rw [hR]
  generalize tags.length = n at *
  clear h h1 h2 h3 h6 h7 hR
  by_cases h0 : i < 0
  · have hd : decide (i < 0) = true := by simp; omega
    go_enter Try.func36, Try.ntmps36
    go_wp2_with (go_at_call 24; refine Hl.out.mono ?_; rintro e w1 ⟨rfl, rfl⟩)
    go_ret
    exact ⟨by rw [show R = 2 by rw [← HR.out]; unfold notI; rw [if_neg (by omega)]]; rfl, rfl⟩
  · have hd : decide (i < 0) = false := by simp; omega
    by_cases h1 : (n : Int) ≤ i
    · have hd1 : decide ((n : Int) ≤ i) = true := by simp; omega
      go_enter Try.func36, Try.ntmps36
      go_wp2_with (go_at_call 24; refine Hl.out.mono ?_; rintro e w1 ⟨rfl, rfl⟩)
      go_ret
      exact ⟨by rw [show R = 2 by rw [← HR.out]; unfold notI; rw [if_neg (by omega)]]; rfl, rfl⟩
    · have hd1 : decide ((n : Int) ≤ i) = false := by simp; omega
      go_enter Try.func36, Try.ntmps36
      go_wp2_with (go_at_call 24; refine Hl.out.mono ?_; rintro e w1 ⟨rfl, rfl⟩)
      go_ret
      exact ⟨by rw [show R = 0 by rw [← HR.out]; unfold notI; rw [if_pos (by omega)]]; rfl, rfl⟩
set_option maxRecDepth 20000 in
theorem get_any {w : World} {bl : List Nat} {tb : Nat} {tags : List ByteArray} {rows : List (List ByteArray)} (h : TreeAt w bl tb tags rows) (i : Nat) (hi : i < tags.length) : Calls Try.prog 23 #[.pointer (some ⟨tb, 0, none⟩), .int .i64 (i : Int)] w fun e w' => e = .returned (.tuple #[.string tags[i], .int .i64 0]) ∧ w' = w := by
  have Hl := hid (not_any h (by omega) i)
  have HN := hid (show notI tags.length i = 0 by unfold notI; rw [if_pos (by omega)])
  obtain ⟨rvs, h⟩ := h
  obtain ⟨bt, ct, br, cr, bs, rfl, h1, h2, h3, h4, h5, h6, h7⟩ := h.cells
  have k0 : w.cell? ⟨tb, 0, none⟩ = some (.slice (some ⟨bt, 0, none⟩) tags.length ct) := h1.cell 0
  have k1 : w.cell? ⟨bt, i, none⟩ = some (.string tags[i]) := by rw [h2.cellAt rfl (by simpa using hi), List.getElem?_map, List.getElem?_eq_getElem hi]; rfl
  generalize tags[i] = T at *
  have hi' : (i : Int) < (tags.length : Int) := by omega
  have hdi : decide ((i : Int) < (tags.length : Int)) = true := by simp; omega
  generalize tags.length = n at *
  clear h h1 h2 h3 h6 h7
  go_enter Try.func23, Try.ntmps23
  go_wp2_with (go_at_call 36; refine Hl.out.mono ?_; rintro e w1 ⟨rfl, rfl⟩; rw [HN.out])
  go_ret2
  exact ⟨rfl, rfl⟩
theorem get_not {w : World} {bl : List Nat} {tb : Nat} {tags : List ByteArray} {rows : List (List ByteArray)} (h : TreeAt w bl tb tags rows) (hn : 0 < tags.length) (i : Int) (hi : ¬ (0 ≤ i ∧ i < tags.length)) : Calls Try.prog 23 #[.pointer (some ⟨tb, 0, none⟩), .int .i64 i] w fun e w' => e = .returned (.tuple #[.string ⟨#[]⟩, .int .i64 2]) ∧ w' = w := by
  have Hl := hid (not_any h hn i)
  have HN := hid (show notI tags.length i = 2 by unfold notI; rw [if_neg hi])
  go_enter Try.func23, Try.ntmps23
  go_wp2_with (go_at_call 36; refine Hl.out.mono ?_; rintro e w1 ⟨rfl, rfl⟩; rw [HN.out])
  go_ret2
  exact ⟨rfl, rfl⟩
theorem get_nil {w : World} (i : Int) : Calls Try.prog 23 #[.pointer none, .int .i64 i] w fun e w' => e = .returned (.tuple #[.string ⟨#[]⟩, .int .i64 1]) ∧ w' = w := by
  go_enter Try.func23, Try.ntmps23
  go_wp2_with (go_at_call 36; refine (not_nil i).mono ?_; rintro e w1 ⟨rfl, rfl⟩)
  go_ret2
  exact ⟨rfl, rfl⟩
theorem root_nil {w : World} : Calls Try.prog 22 #[.pointer none] w fun e w' => e = .returned (.string ⟨#[]⟩) ∧ w' = w := by
  go_enter Try.func22, Try.ntmps22
  go_wp2_with (go_at_call 24; refine len_nil.mono ?_; rintro e w1 ⟨rfl, rfl⟩)
  go_ret
  exact ⟨rfl, rfl⟩
set_option maxRecDepth 20000 in
theorem root_any {w : World} {bl : List Nat} {tb : Nat} {tags : List ByteArray} {pre : List (List ByteArray)} {x : ByteArray} (h : TreeAt w bl tb tags (pre ++ [[x]])) (hn : 0 < tags.length) : Calls Try.prog 22 #[.pointer (some ⟨tb, 0, none⟩)] w fun e w' => e = .returned (.string x) ∧ Fr [] w w' := by
  have Hl := hid (len_any h)
  obtain ⟨rvs, h⟩ := h
  obtain ⟨bt, ct, br, cr, bs, rfl, h1, h2, h3, h4, h5, h6, h7⟩ := h.cells
  obtain ⟨v, b, e1, e2, e3⟩ := h6.2.2 pre.length [x] (by simp)
  obtain ⟨cv, rfl⟩ : ∃ cv, v = .slice (some ⟨b, 0, none⟩) 1 cv := by
    rcases e3.shape with ⟨_, _, _, h0⟩ | ⟨b2, ct, h0, rfl, hc2, _⟩
    · cases h0
    · cases h0; exact ⟨ct, rfl⟩
  have k0 : w.cell? ⟨tb, 1, none⟩ = some (.slice (some ⟨br, 0, none⟩) (pre.length + 1) cr) := by have := h1.cell 1; simpa using this
  have k1 : w.cell? ⟨br, pre.length, none⟩ = some (.slice (some ⟨b, 0, none⟩) 1 cv) := by rw [h3.cellAt rfl (by rw [h6.1]; simp), e1]
  have k2 : w.cell? ⟨b, 0, none⟩ = some (.string x) := by rw [e3.cellAt rfl (by simp)]; rfl
  have hz : (((tags.length : Int)) == 0) = false := by simp; intro h; rw [h] at hn; simp at hn
  have hz2 : decide ((tags.length : Int) = 0) = false := by simp; intro h; rw [h] at hn; simp at hn
  have hpl : pre.length + 1 ≤ maxLen := by
    rcases h3.shape with ⟨_, _, _, h0⟩ | ⟨b2, ct, h0, hv, hc2, hm⟩
    · cases h0
    · simp at hc2; omega
  unfold maxLen at hpl
  generalize pre.length = m at *
  generalize tags.length = n at *
  have hsub : ((m + 1 : Nat) : Int) - 1 = (m : Int) := by omega
  clear h h1 h2 h3 h6 h7 e1 e2 e3
  go_enter Try.func22, Try.ntmps22
  go_wp2_with (go_at_call 24; refine Hl.out.mono ?_; rintro e w1 ⟨rfl, rfl⟩)
  refine wp_region_D (fun _ => True) false [] (by kernel_rfl) ?_
  refine WD.pure [0, 1, 2, 3, 4, 5, 6, 7, 8, 9, 10, 11, 12, 13, 14] (by kernel_rfl) trivial ?_
  simp only [pick, List.toList_toArray, List.map_cons, List.map_nil, List.getD_cons_succ, List.getD_cons_zero]
  repeat (first | go_big_quiet_step (fail))
  refine wpQuiet_nil ?_
  refine WD.done (by kernel_rfl) ?_
  go_wp2_with fail
  go_ret
  exact ⟨rfl, (Fr.refl [] _).drew⟩
theorem new_bad {w : World} (n : Int) (h : n < 1 ∨ n > 16384) : Calls Try.prog 19 #[.int .i64 n] w fun e w' => e = .returned (.tuple #[.pointer none, .int .i64 2]) ∧ w' = w := by
  by_cases h1 : n < 1
  · have hd : decide (n < 1) = true := by simp; omega
    go_enter Try.func19, Try.ntmps19
    go_wp2_with fail
    go_ret2
    exact ⟨rfl, rfl⟩
  · have hd : decide (n < 1) = false := by simp; omega
    have hd1 : decide (16384 < n) = true := by simp; omega
    go_enter Try.func19, Try.ntmps19
    go_wp2_with fail
    go_ret2
    exact ⟨rfl, rfl⟩
set_option maxRecDepth 20000 in
theorem new_any {w : World} (n : Nat) (h1 : 1 ≤ n) (h2 : n ≤ 16384) : Calls Try.prog 19 #[.int .i64 (n : Int)] w fun e w' => ∃ tb bl, e = .returned (.tuple #[.pointer (some ⟨tb, 0, none⟩), .int .i64 0]) ∧ TreeAt w' bl tb (List.replicate n ⟨#[]⟩) (rowsS (List.replicate n ⟨#[]⟩)) ∧ (∀ b ∈ bl, w.heap.size ≤ b) ∧ Fr [] w w' := by
  obtain ⟨i9, hi9, hz9, hs9, hb9⟩ := inf9
  have Hi := hid hi9
  have Hz := hid hz9
  have Hs := hid hs9
  have Hb := hid hb9
  clear hi9 hz9 hs9 hb9
  have hd : decide ((n : Int) < 1) = false := by simp; omega
  have hd' : ¬ ((n : Int) < 1) := by omega
  have hd1 : decide (16384 < (n : Int)) = false := by simp; omega
  have hd1' : ¬ (16384 < (n : Int)) := by omega
  go_enter Try.func19, Try.ntmps19
  go_wp2_with (first
    | (refine wpList_make_blk rfl _ _ _ rfl n n .i64 .i64 rfl rfl 9 _ _ 16 Try.underlying22 Hi.out Hz.out Hs.out Hb.out rfl (Nat.le_refl _) (by omega) (by omega) ?_; intro w3 f3 hlt3 hb3; simp only [World.size_alloc, World.size_drew, Act.put, List.setIfInBounds_toArray, List.set_cons_succ, List.set_cons_zero])
    | (go_at_call 31; refine (of_any (l := List.replicate n ⟨#[]⟩) (rc_as (rc_blk hb3 (by simp) (by unfold maxLen; omega)) (by simp) (by simp)) (by simp; omega) (by simp; omega) (by intro s hs; rw [List.eq_of_mem_replicate hs]; decide)).mono ?_; rintro e w4 ⟨⟨tb, bl, rfl, hT, hbl⟩, f4⟩; revert f4))
  intro f4
  go_wp2_with fail
  go_ret2
  exact ⟨tb, bl, rfl, hT, fun b hb => Nat.le_trans f3.size (hbl b hb), f3.trans' f4⟩
theorem of_bad {w : World} {v : Value} {l : List ByteArray} {B : Option Nat} (h : Rc w 1 v l.length (l.map .string) B) (hl : l.length < 1 ∨ l.length > 16384) : Calls Try.prog 13 #[v] w fun e w' => e = .returned (.tuple #[.string ⟨#[]⟩, .int .i64 2]) ∧ w' = w := by
  obtain ⟨a, c, rfl⟩ := h.isSlice
  generalize l.length = n at *
  clear h
  by_cases h1 : (n : Int) < 1
  · have hd : decide ((n : Int) < 1) = true := by simp; omega
    go_enter Try.func13, Try.ntmps13
    go_wp2_with fail
    go_ret2
    exact ⟨rfl, rfl⟩
  · have hd : decide ((n : Int) < 1) = false := by simp; omega
    have hd1 : decide (16384 < (n : Int)) = true := by simp; omega
    go_enter Try.func13, Try.ntmps13
    go_wp2_with fail
    go_ret2
    exact ⟨rfl, rfl⟩
set_option maxRecDepth 20000 in
theorem Of_any {w : World} {v : Value} {l : List ByteArray} {B : Option Nat} (h : Rc w 1 v l.length (l.map .string) B) (hl : l.length ≤ 16384) (hn : 0 < l.length) (hs : ∀ s ∈ l, s.size < 1099511627000) : Calls Try.prog 13 #[v] w fun e w' => e = .returned (.tuple #[.string (rootS l), .int .i64 0]) ∧ Fr [] w w' := by
  have H1 := hid (of_any h hl hn hs)
  obtain ⟨a, c, rfl⟩ := h.isSlice
  obtain ⟨pre, x, ex⟩ := rowsS_last l hn
  have HR := hid (show rootS l = x by rw [rootS, ex, rootR_last])
  obtain ⟨R, hR⟩ : ∃ R, rootS l = R := ⟨_, rfl⟩
  rw [hR] at HR ⊢
  have hd : decide ((l.length : Int) < 1) = false := by simp; omega
  have hd' : ¬ ((l.length : Int) < 1) := by omega
  have hd1 : decide (16384 < (l.length : Int)) = false := by simp; omega
  have hd1' : ¬ (16384 < (l.length : Int)) := by omega
  clear hR h hs
  have HL := hid hn
  rw [ex] at H1
  clear ex
  obtain ⟨n, hN⟩ : ∃ n, l.length = n := ⟨_, rfl⟩
  rw [hN] at hd hd' hd1 hd1' H1 ⊢
  clear hN hl hn
  go_enter Try.func13, Try.ntmps13
  go_wp2_with (first
    | (go_at_call 31; refine H1.out.mono ?_; rintro e w4 ⟨⟨tb, bl, rfl, hT, hbl⟩, f4⟩)
    | (go_at_call 22; refine (root_any hT HL.out).mono ?_; rintro e w5 ⟨rfl, f5⟩; rw [← HR.out]))
  go_ret2
  exact ⟨rfl, f4.trans' f5⟩
end Go.Proofs.Ythfjjencnfebmaa.mer
