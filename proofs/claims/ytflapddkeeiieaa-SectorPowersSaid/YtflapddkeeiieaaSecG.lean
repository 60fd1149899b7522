/- Layer 6: Write refused; alive. -/
import Derived.Test.YtflapddkeeiieaaSecF
namespace Go.Proofs.Ytflapddkeeiieaa
open Go Go.Xr Go.RowKit
set_option linter.unusedVariables false
set_option linter.unusedSimpArgs false

theorem write_err {w : World} {d : Nat} {D : SD} {pw : Option (Nat × Nat)} {F : List Nat} (h : Rep w d D pw F) (hp : pwOk w pw) (i : Int) (hi1 : -9223372036854775808 ≤ i) (hi2 : i ≤ 9223372036854775807) (s : ByteArray) (hs : s.size ≤ 9223372036854775807) (x : Int) (hx : atN D pw i (some s) = x) (h0 : x = 60 ∨ x = 2) :
    Calls Try.prog 11 #[.pointer (some ⟨d, 0, none⟩), .int .i64 i, .string s] w fun e w' => e = .returned (.int .i64 x) ∧ Fr [] w w' := by
  have hat2 : ∀ w1 : World, Fr [] w w1 → ∀ v, txt w1 v (some s) → Calls Try.prog 38 #[.pointer (some ⟨d, 0, none⟩), .int .i64 i, v] w1 fun e w' => e = .returned (.int .i64 x) ∧ w1 = w' := by
    intro w1 f v hv
    have := at_any (h.keep f (by simp)) (hp.keep f (by simp)) i hi1 hi2 hv
    rw [hx] at this
    exact this
  clear h hp hx
  rcases h0 with rfl | rfl
  · go_enter Try.func11, Try.ntmps11
    go_wp2_with fail
    refine (hat2 _ ((Fr.refl _ _).alloc _) _ ⟨_, _, rfl, by simp, hs⟩).mono ?_
    rintro e w1 ⟨rfl, rfl⟩
    go_wp2_with fail
    go_ret
    exact ⟨rfl, (Fr.refl _ _).alloc _⟩
  · go_enter Try.func11, Try.ntmps11
    go_wp2_with fail
    refine (hat2 _ ((Fr.refl _ _).alloc _) _ ⟨_, _, rfl, by simp, hs⟩).mono ?_
    rintro e w1 ⟨rfl, rfl⟩
    go_wp2_with fail
    go_ret
    exact ⟨rfl, (Fr.refl _ _).alloc _⟩

/-- A disk on blocks that were not there ahead: what happens to it is not seen. -/
theorem Fr.hide {w w1 w2 : World} {F : List Nat} (f : Fr [] w w1) (g : Fr (F ++ pwF none) w1 w2) (hF : ∀ x ∈ F, w.heap.size ≤ x) : Fr [] w w2 :=
  f.trans g (fun x hx => .inr (hF x (by simpa [pwF] using hx)))

set_option maxHeartbeats 1000000 in
set_option maxRecDepth 20000 in
theorem alive_any {w : World} : Calls Try.prog 15 #[] w fun e w' => e = .returned (.bool true) ∧ Fr [] w w' := by
  have hA := fillL_len 97 1
  have hB := fillL_len 98 2
  have fA : ∀ w : World, Calls Try.prog 10 #[.int .u8 97, .int .i64 1] w fun e w' => e = .returned (.string ⟨(fillL 97 1).toArray⟩) ∧ Fr [] w w' := fun w => fill_any 97 1 (by decide) (by decide)
  have fB : ∀ w : World, Calls Try.prog 10 #[.int .u8 98, .int .i64 2] w fun e w' => e = .returned (.string ⟨(fillL 98 2).toArray⟩) ∧ Fr [] w w' := fun w => fill_any 98 2 (by decide) (by decide)
  generalize fillL 97 1 = A at *
  generalize fillL 98 2 = B at *
  have HA := hid hA
  have HB := hid hB
  clear hA hB
  go_enter Try.func15, Try.ntmps15
  go_wp2_with fail
  refine (new_ok 4 (by decide) (by decide)).mono ?_
  rintro e w1 ⟨d, F, rfl, h1, f1, hF⟩
  go_wp2_with fail
  refine (fA _).mono ?_
  rintro e w2 ⟨rfl, f2⟩
  have h2 := h1.keep f2 (by simp)
  have f2' := f1.trans' f2
  go_wp2_with fail
  refine (write_ok h2 (pw := none) trivial (by simp [pwF]) 1 (by simp [newSD]) ⟨A.toArray⟩ (by rw [size_mk']; exact HA.out) rfl (by simp [newSD]) (by simp [newSD])).mono ?_
  rintro e w3 ⟨rfl, F3, h3, -, f3, hF3⟩
  simp only [newSD, pwDec, List.nil_append] at h3
  have hF3' : ∀ x ∈ F3, w.heap.size ≤ x := fun x hx => by rcases hF3 x hx with h | h; exact hF x h; have := f2'.size; omega
  have f3' := Fr.hide f2' f3 hF
  go_wp2_with fail
  refine (fB _).mono ?_
  rintro e w4 ⟨rfl, f4⟩
  have h4 := h3.keep f4 (by simp)
  have f4' := f3'.trans' f4
  clear h1 h2 h3 f1 f2 f2' f3 f3' hF hF3 f4
  go_wp2_with fail
  refine (write_ok h4 (pw := none) trivial (by simp [pwF]) 1 (by simp) ⟨B.toArray⟩ (by rw [size_mk']; exact HB.out) rfl (by simp) (by simp)).mono ?_
  rintro e w5 ⟨rfl, F5, h5, -, f5, hF5⟩
  simp only [pwDec, List.cons_append, List.nil_append] at h5
  have hF5' : ∀ x ∈ F5, w.heap.size ≤ x := fun x hx => by rcases hF5 x hx with h | h; exact hF3' x h; have := f4'.size; omega
  have f5' := Fr.hide f4' f5 hF3'
  clear h4 f5 hF5 hF3' f4'
  go_wp2_with fail
  refine (loose_any h5 (by simp)).mono ?_
  rintro e w6 ⟨lv, LB, rfl, hl6, f6, hL6⟩
  have h6 := h5.keep f6 (by simp)
  have f6' := f5'.trans' f6
  obtain ⟨la, lc, rfl⟩ := hl6.isSlice
  simp only [List.length_cons, List.length_nil] at hl6
  clear h5 f6 f5'
  go_wp2_with fail
  have g7 : Fr [] w6 (w6.alloc (.cells #[.bool true] 4)) := (Fr.refl [] w6).alloc _
  have hk7 : Rc (w6.alloc (.cells #[.bool true] 4)) 1 (.slice (some ⟨w6.heap.size, 0, none⟩) 1 1) [true].length ([true].map .bool) (some w6.heap.size) :=
    (Xr.Own.blk (n := 1) (cap := 1) (size := 1) (Blk.alloc w6 [.bool true] _) (Nat.le_refl _) (by unfold maxLen; decide) rfl).rd.rc
  refine (crash_ok (h6.keep g7 (by simp)) rfl (by simp) hk7 (fun b e hb => by cases e; have := h6.lt _ hb; omega) (by unfold maxLen; decide)).mono ?_
  rintro e w8 ⟨rfl, F8, h8, f8, hF8⟩
  have hF8' : ∀ x ∈ F8, w.heap.size ≤ x := fun x hx => by rcases hF8 x hx with h | h; exact hF5' x h; have := f6'.size; simp at h; omega
  have f8' : Fr [] w w8 := (f6'.trans' g7).trans f8 (fun x hx => .inr (hF5' x hx))
  have e8 : crashed { kept := List.replicate 4 zsec, now := ((List.replicate 4 zsec).set 1 A).set 1 B, loose := [(1, A), (1, B)], trace := [((1 : Nat) : Int), ((1 : Nat) : Int)], dead := false } [true] = { kept := (List.replicate 4 zsec).set 1 A, now := (List.replicate 4 zsec).set 1 A, loose := [], trace := [((1 : Nat) : Int), ((1 : Nat) : Int)], dead := false } := rfl
  rw [e8] at h8
  clear h6 hl6 f6' g7 hk7 f8 hF8 hF5' e8 hL6
  have hr : Calls Try.prog 14 #[.pointer (some ⟨d, 0, none⟩), .int .i64 1] w8 fun e w' => e = .returned (.tuple #[.string ⟨A.toArray⟩, .int .i64 0]) ∧ w8 = w' := by
    have := read_ok h8 (pw := none) trivial 1 (by simp) rfl
    simpa using this
  go_wp2_with fail
  refine hr.mono ?_
  rintro e w9 ⟨rfl, rfl⟩
  clear hr
  go_wp2_with fail
  refine (fA _).mono ?_
  rintro e w10 ⟨rfl, f10⟩
  have h10 := h8.keep f10 (by simp)
  go_wp2_with fail
  refine (write_err h10 (pw := none) trivial 4 (by decide) (by decide) ⟨A.toArray⟩ (by rw [size_mk', HA.out]; decide) 2 (by simp [atN, ableN, outB]) (.inr rfl)).mono ?_
  rintro e w11 ⟨rfl, f11⟩
  go_wp2_with fail
  go_ret
  exact ⟨rfl, (f8'.trans' f10).trans' f11⟩
end Go.Proofs.Ytflapddkeeiieaa
