/- Layer 10: MerkleClashes, the walk. -/
import Derived.Test.YthfjjencnfebmaaMerS
namespace Go.Proofs.Ythfjjencnfebmaa.mer
open Go Go.Xr Go.RowKit
set_option linter.unusedVariables false
set_option linter.unusedSimpArgs false
set_option maxRecDepth 20000 in
set_option maxHeartbeats 1000000 in
theorem clashes_walk {w : World} {v v2 : Value} {l l2 : List ByteArray} {B B2 : Option Nat} (h : Rc w 1 v l.length (l.map .string) B) (ho : ∀ s ∈ l, s.size ≤ 140737488351232) (hm : l.length ≤ 9223372036854775807) (root tag : ByteArray) (n i : Int) (hr : root.size ≤ 140737488351232) (ht : tag.size ≤ 140737488351232)
    (other : ByteArray) (hot : other.size ≤ 140737488351232) (h2 : Rc w 1 v2 l2.length (l2.map .string) B2) (ho2 : ∀ s ∈ l2, s.size ≤ 140737488351232) (hm2 : l2.length ≤ 9223372036854775807) :
    Calls Try.prog 5 #[.agg #[.string root, .int .i64 n, .int .i64 i, .string tag, v], .string other, v2] w fun e w' => e = .returned (.bool true) ∧ Fr [] w w' := by
  obtain ⟨la, lc, rfl⟩ := h.isSlice
  obtain ⟨la2, lc2, rfl⟩ := h2.isSlice
  have HS1 := hid fun (w0 : World) (f0 : Fr [] w w0) => size_any (w := w0) (h.keep f0 (by simp)) ho hm root tag n i hr ht
  have HS2 := hid fun (w0 : World) (f0 : Fr [] w w0) => size_any (w := w0) (h2.keep f0 (by simp)) ho2 hm2 ⟨#[]⟩ other 0 0 (by decide) hot
  have HC := hid fun (w0 : World) (f0 : Fr [] w w0) (q1 : l.length ≤ 1024) (q2 : ∀ x ∈ l, x.size ≤ 8192) (q3 : tag.size ≤ 8192) (p1 : l2.length ≤ 1024) (p2 : ∀ x ∈ l2, x.size ≤ 8192) (p3 : other.size ≤ 8192) =>
    clash_any (w := w0) (h.keep f0 (by simp)) (by omega) (fun s hs => by have := q2 s hs; omega) (h2.keep f0 (by simp)) (by omega) (fun s hs => by have := p2 s hs; omega) n i tag other (by omega) (by omega)
  have HR := hid fun (w0 : World) (f0 : Fr [] w w0) (q1 : l.length ≤ 1024) (q2 : ∀ x ∈ l, x.size ≤ 8192) (q3 : tag.size ≤ 8192) (p1 : l2.length ≤ 1024) (p2 : ∀ x ∈ l2, x.size ≤ 8192) (p3 : other.size ≤ 8192) =>
    rclash_any (w := w0) (h.keep f0 (by simp)) (by omega) (fun s hs => by have := q2 s hs; omega) (h2.keep f0 (by simp)) (by omega) (fun s hs => by have := p2 s hs; omega) n i tag other (by omega) (by omega)
  have HL := hid fun (hD : (clashS n i tag other l l2).2.2 = true) (q2 : ∀ x ∈ l, x.size ≤ 8192) (q3 : tag.size ≤ 8192) (p2 : ∀ x ∈ l2, x.size ≤ 8192) (p3 : other.size ≤ 8192) => clashS_law n i tag other l l2 hD 8192 q3 p3 q2 p2
  obtain ⟨⟨X, Y, D⟩, hC⟩ : ∃ C, clashS n i tag other l l2 = C := ⟨_, rfl⟩
  rw [hC] at HC HR HL
  simp only at HC HR HL
  obtain ⟨m, hmm⟩ : ∃ m, l.length = m := ⟨_, rfl⟩
  obtain ⟨m2, hmm2⟩ : ∃ m2, l2.length = m2 := ⟨_, rfl⟩
  rw [hmm] at HC HR HS1 ⊢
  rw [hmm2] at HC HR HS2 ⊢
  clear h ho hm h2 ho2 hm2 hmm hmm2 hC
  go_enter Try.func5, Try.ntmps5
  go_wp2_with (first
    | (refine wpList_box rfl _ _ rfl [.string root, .int .i64 n, .int .i64 i, .string tag, .slice la m lc] rfl ?_; intro w1 f1 hlt1 hb1; simp only [World.size_alloc, World.size_drew, Act.put, List.setIfInBounds_toArray, List.set_cons_succ, List.set_cons_zero])
    | (refine wpList_load_ag rfl _ _ rfl rfl [.string root, .int .i64 n, .int .i64 i, .string tag, .slice la m lc] hb1 wayT rfl rfl ?_; simp only [World.size_alloc, World.size_drew, Act.put, List.setIfInBounds_toArray, List.set_cons_succ, List.set_cons_zero])
    | (go_at_call 9; refine (HS1.out _ f1).mono ?_; rintro e w2 ⟨⟨s, rfl, hs⟩, f2⟩; revert f2))
  intro f2
  have hb2 := f2.blk hb1 (by simp)
  have g2 := f1.trans' f2
  by_cases hs8 : s ≤ 8192
  · obtain ⟨q0, q3, q1, q2⟩ := hs hs8
    have d1 : decide ((8192 : Int) < (s : Int)) = false := by simp; omega
    have d1' : ¬ ((8192 : Int) < (s : Int)) := by omega
    clear hs
    go_wp2_with (go_at_call 9; refine (HS2.out _ g2).mono ?_; rintro e w3 ⟨⟨s2, rfl, hs2⟩, f3⟩; revert f3)
    intro f3
    have hb3 := f3.blk hb2 (by simp)
    have g3 := g2.trans' f3
    clear HS1 HS2
    by_cases hs9 : s2 ≤ 8192
    · obtain ⟨p0, p3, p1, p2⟩ := hs2 hs9
      have d2 : decide ((8192 : Int) < (s2 : Int)) = false := by simp; omega
      have d2' : ¬ ((8192 : Int) < (s2 : Int)) := by omega
      have k1 := hb3.cell 1
      have k2 := hb3.cell 2
      have k3 := hb3.cell 3
      have k4 := hb3.cell 4
      have H1 := hid (HC.out _ g3 q1 q2 q3 p1 p2 p3)
      have H2 := hid fun (w0 : World) (f0 : Fr [] w w0) => HR.out w0 f0 q1 q2 q3 p1 p2 p3
      have H3 := hid fun (hD : D = true) => HL.out hD q2 q3 p2 p3
      clear hs2 q2 p2 HC HR HL hb1 f1 f2 hlt1
      go_wp2_with (go_at_call 16; refine H1.out.mono ?_; rintro e w4 ⟨rfl, f4⟩; revert f4)
      intro f4
      have hb4 := f4.blk hb3 (by simp)
      have g4 := g3.trans' f4
      have k1' := hb4.cell 1
      have k2' := hb4.cell 2
      have k3' := hb4.cell 3
      have k4' := hb4.cell 4
      clear k1 k2 k3 k4
      go_wp2_with (go_at_call 17; refine (H2.out _ g4).mono ?_; rintro e w5 ⟨rfl, f5⟩; revert f5)
      intro f5
      have g5 := g4.trans' f5
      clear k1' k2' k3' k4'
      cases D
      · go_wp2_with (go_at_call 10; refine alive_any.mono ?_; rintro e w6 ⟨rfl, f6⟩)
        go_ret
        exact ⟨rfl, g5.trans' f6⟩
      · obtain ⟨e1, e2, e3, e4⟩ := H3.out rfl
        have O1 := hid fun w0 : World => rof_any (w := w0) X (by omega)
        have O2 := hid fun w0 : World => rof_any (w := w0) Y (by omega)
        rw [← e2] at O2
        obtain ⟨SX, hSX⟩ : ∃ SX, shaS X = SX := ⟨_, rfl⟩
        rw [hSX] at O1 O2
        have hxy : (X.toList == Y.toList) = false := by rw [beq_str2]; exact decide_eq_false e1
        clear e2 hSX H3 e1
        go_wp2_with (first
          | (go_at_call 18; refine (O1.out _).mono ?_; rintro e w6 ⟨rfl, f6⟩; clear O1)
          | (go_at_call 18; refine (O2.out _).mono ?_; rintro e w7 ⟨rfl, f7⟩)
          | (go_at_call 10; refine alive_any.mono ?_; rintro e w8 ⟨rfl, f8⟩))
        go_ret
        exact ⟨rfl, ((g5.trans' f6).trans' f7).trans' f8⟩
    · have d2 : decide ((8192 : Int) < (s2 : Int)) = true := by simp; omega
      go_wp2_with (go_at_call 10; refine alive_any.mono ?_; rintro e w4 ⟨rfl, f4⟩)
      go_ret
      exact ⟨rfl, g3.trans' f4⟩
  · have d1 : decide ((8192 : Int) < (s : Int)) = true := by simp; omega
    go_wp2_with (go_at_call 10; refine alive_any.mono ?_; rintro e w3 ⟨rfl, f3⟩)
    go_ret
    exact ⟨rfl, g2.trans' f3⟩
end Go.Proofs.Ythfjjencnfebmaa.mer
