/- Layer 8: Len, Place, Index of a volume; Write, Read, Other. -/
import Derived.Test.YtgafefecookgaaaVolJ
namespace Go.Proofs.Ytgafefecookgaaa
open Go Go.Xr Go.RowKit
set_option linter.unusedVariables false
set_option linter.unusedSimpArgs false
section
variable {w w' w0 : World} {l rs : List Res} {X : VX} {Ms : List MS} {wr : Int} {k m a : Nat} {M : MS}
theorem vlen_v (h : VA w0 rs w l X Ms wr) (o : VOk X) : Calls Try.prog 9 #[.pointer (some ⟨X.vb, 0, none⟩)] w fun r w' => r = .returned (.int .i64 ((X.e * X.ms.length : Nat) : Int)) ∧ Fr [] w w' := by
  obtain ⟨c, hv, h1, h2, hb, hc⟩ := h.shape o
  exact vlen_any hb o.h8 o.he
theorem vplace_v (h : VA w0 rs w l X Ms wr) (o : VOk X) (i : Int) :
    Calls Try.prog 8 #[.pointer (some ⟨X.vb, 0, none⟩), .int .i64 i] w fun r w' => r = .returned (.tuple #[.int .i64 (plP X.ms.length X.e i : Int), .int .i64 (plA X.ms.length X.e i : Int), .int .i64 (plC X.ms.length X.e i)]) ∧ Fr [] w w' := by
  obtain ⟨c, hv, h1, h2, hb, hc⟩ := h.shape o
  exact vplace_any hb o.h1 o.h8 o.he i
theorem vindex_v (h : VA w0 rs w l X Ms wr) (o : VOk X) (p a : Int) :
    Calls Try.prog 10 #[.pointer (some ⟨X.vb, 0, none⟩), .int .i64 p, .int .i64 a] w fun r w' => r = .returned (.tuple #[.int .i64 (ixN X.ms.length X.e p a : Int), .int .i64 (ixC X.ms.length X.e p a)]) ∧ w' = w := by
  obtain ⟨c, hv, h1, h2, hb, hc⟩ := h.shape o
  exact vindex_any hb o.h8 o.he p a
theorem vwr_v (h : VA w0 rs w l X Ms wr) (o : VOk X) : Calls Try.prog 19 #[.pointer (some ⟨X.vb, 0, none⟩)] w fun r w' => r = .returned (.int .i64 wr) ∧ w' = w := by
  obtain ⟨c, hv, h1, h2, hb, hc⟩ := h.shape o
  exact vwr_any hb
set_option maxRecDepth 20000 in
theorem vwrite_nil (w : World) (i : Int) (S : ByteArray) : Calls Try.prog 17 #[.pointer none, .int .i64 i, .string S] w fun r w' => r = .returned (.int .i64 1) ∧ w' = w := by
  go_enter Try.func17, Try.ntmps17
  go_wp2_with (go_at_call 8; refine (vplace_nil _ _).mono ?_; rintro r w5 ⟨rfl, hw⟩; subst hw)
  go_ret
  exact ⟨rfl, rfl⟩
set_option maxRecDepth 20000 in
theorem vwrite_off (h : VA w0 rs w l X Ms wr) (o : VOk X) (i : Int) (S : ByteArray) (hc : plC X.ms.length X.e i ≠ 0) :
    Calls Try.prog 17 #[.pointer (some ⟨X.vb, 0, none⟩), .int .i64 i, .string S] w fun r w' => r = .returned (.int .i64 (plC X.ms.length X.e i)) ∧ VA w0 rs w' l X Ms wr := by
  have HV := hid h
  have HP := hid (vplace_v h o i)
  generalize plC X.ms.length X.e i = cc at *
  have u0 : (cc == 0) = false := by simpa using hc
  clear h hc
  go_enter Try.func17, Try.ntmps17
  go_wp2_with (go_at_call 8; refine HP.out.mono ?_; rintro r w5 ⟨rfl, f5⟩)
  go_ret
  exact ⟨rfl, HV.out.step f5⟩
set_option maxRecDepth 20000 in
set_option maxHeartbeats 1000000 in
theorem vwrite_in (h : VA w0 rs w l X Ms wr) (o : VOk X) (i : Int) (S : ByteArray) (hc : plC X.ms.length X.e i = 0) (hp : plP X.ms.length X.e i = k) (ha : plA X.ms.length X.e i = a) (hk : Ms[k]? = some M) (ok : SysOk M.s) (ht : M.s.T < 998900) (hS : S.size ≤ 9223372036854775807) (hw0 : 0 ≤ wr) (hw1 : wr ≤ 1000000) :
    Calls Try.prog 17 #[.pointer (some ⟨X.vb, 0, none⟩), .int .i64 i, .string S] w fun r w' => r = .returned (.int .i64 (M.wrE (a : Int) S)) ∧ VA w0 rs w' l X (Ms.set k (M.wrM (a : Int) S)) (if M.wrE (a : Int) S = 0 then wr + 1 else wr) := by
  have HV := hid h
  have HP := hid (vplace_v h o i)
  rw [hc, hp, ha] at HP
  have hkl : k < X.ms.length := by rw [← h.len.1]; exact (List.getElem?_eq_some_iff.1 hk).1
  obtain ⟨m, hm⟩ : ∃ m, X.ms[k]? = some m := ⟨_, List.getElem?_eq_getElem hkl⟩
  obtain ⟨c, hv, h1, h2, hb, hcell⟩ := h.shape o
  have HC := hid fun (w1 : World) (h1 : VA w0 rs w1 l X Ms wr) => (show w1.cell? ⟨X.vb, 0, none⟩ = some (.slice (some ⟨X.rb, 0, none⟩) X.ms.length c) ∧ w1.cell? ⟨X.rb, k, none⟩ = some (.pointer (some ⟨m, 0, none⟩)) from by
    obtain ⟨c2, hv2, _, _, hb2, hcell2⟩ := h1.shape o
    rw [hv] at hv2
    obtain rfl : c = c2 := by simpa using hv2
    exact ⟨hb2.cell 0, hcell2 k m hm⟩)
  have HW := hid fun (w1 : World) (h1 : VA w0 rs w1 l X Ms wr) => vw_at h1 hk hm ok ht (a : Int) S hS
  have HB := hid fun (w1 : World) (h1 : VA w0 rs w1 l X (Ms.set k (M.wrM (a : Int) S)) wr) => h1.blk
  have hadd : ∀ ty, binOp .add ty (.int .i64 wr) (.int .i64 1) = pure (.int .i64 (wr + 1)) := fun ty => by
    show pure (Value.int .i64 (IntKind.i64.wrap (wr + 1))) = _
    rw [IntKind.wrap_i64]
    have h9 : (wr + 1 + 9223372036854775808) % 18446744073709551616 - 9223372036854775808 = wr + 1 := by omega
    rw [h9]
  obtain ⟨wr1, hwr1⟩ : ∃ x, wr + 1 = x := ⟨_, rfl⟩
  rw [hwr1] at hadd ⊢
  have HN := hid hwr1
  have hkl2 : k < X.ms.length := hkl
  generalize M.wrM (a : Int) S = M' at *
  generalize M.wrE (a : Int) S = cc at *
  have hvb : X.vb = X.vb := rfl
  generalize hgn : X.ms.length = n at *
  generalize X.rb = rb at *
  have HG := hid hgn
  clear hgn hc hp ha h hv h1 h2 hb hcell hkl hw0 hw1 hwr1 hk hm ok ht hS
  by_cases h0 : cc = 0
  · subst h0
    rw [if_pos rfl]
    go_enter Try.func17, Try.ntmps17
    go_wp2_with (first
      | (go_at_call 8; refine HP.out.mono ?_; rintro r w5 ⟨rfl, f5⟩; have V5 := hid (HV.out.step f5); obtain ⟨k0, k1⟩ := HC.out _ V5.out)
      | (go_at_call 40; refine (HW.out _ V5.out).mono ?_; rintro r w6 ⟨rfl, v6⟩; have V6 := hid v6; have B6 := HB.out _ v6; have k2 : w6.cell? ⟨X.vb, 2, none⟩ = some (.int .i64 wr) := B6.cell 2; clear v6 k0 k1)
      | (refine wpList_put rfl _ _ _ rfl rfl (.int .i64 wr1) rfl rfl B6 (by simp) (by kernel_rfl) ?_; intro w7 f7 b7 hs7; simp only [World.size_alloc, World.size_drew, Act.put, List.setIfInBounds_toArray, List.set_cons_succ, List.set_cons_zero]))
    go_ret
    exact ⟨rfl, V6.out.put f7 b7⟩
  · have u0 : (cc == 0) = false := by simpa using h0
    rw [if_neg h0]
    go_enter Try.func17, Try.ntmps17
    go_wp2_with (first
      | (go_at_call 8; refine HP.out.mono ?_; rintro r w5 ⟨rfl, f5⟩; have V5 := hid (HV.out.step f5); obtain ⟨k0, k1⟩ := HC.out _ V5.out)
      | (go_at_call 40; refine (HW.out _ V5.out).mono ?_; rintro r w6 ⟨rfl, v6⟩; have V6 := hid v6; clear v6 k0 k1))
    go_ret
    exact ⟨rfl, V6.out⟩
set_option maxRecDepth 20000 in
theorem vread_nil1 (w : World) (i : Int) : Calls Try.prog 34 #[.pointer none, .int .i64 i, .func (.func 35) #[] #[]] w fun r w' => r = .returned (.tuple #[.string ⟨#[]⟩, .int .i64 1]) ∧ w' = w := by
  go_enter Try.func34, Try.ntmps34
  go_wp2_with (go_at_call 8; refine (vplace_nil _ _).mono ?_; rintro r w5 ⟨rfl, hw⟩; subst hw)
  go_ret2
  exact ⟨rfl, rfl⟩
set_option maxRecDepth 20000 in
theorem vread_nil (w : World) (i : Int) : Calls Try.prog 14 #[.pointer none, .int .i64 i] w fun r w' => r = .returned (.tuple #[.string ⟨#[]⟩, .int .i64 1]) ∧ w' = w := by
  go_enter Try.func14, Try.ntmps14
  go_wp2_with (go_at_call 34; refine (vread_nil1 _ _).mono ?_; rintro r w5 ⟨rfl, hw⟩; subst hw)
  go_ret2
  exact ⟨rfl, rfl⟩
set_option maxRecDepth 20000 in
theorem vread_off (h : VA w0 rs w l X Ms wr) (o : VOk X) (i : Int) (hc : plC X.ms.length X.e i ≠ 0) :
    Calls Try.prog 14 #[.pointer (some ⟨X.vb, 0, none⟩), .int .i64 i] w fun r w' => r = .returned (.tuple #[.string ⟨#[]⟩, .int .i64 (plC X.ms.length X.e i)]) ∧ VA w0 rs w' l X Ms wr := by
  have HV := hid h
  have HP := hid (vplace_v h o i)
  generalize plC X.ms.length X.e i = cc at *
  have u0 : (cc == 0) = false := by simpa using hc
  have u1 : (cc != 0) = true := by simpa using hc
  clear h hc
  have HR : Hid (Calls Try.prog 34 #[.pointer (some ⟨X.vb, 0, none⟩), .int .i64 i, .func (.func 35) #[] #[]] w fun r w' => r = .returned (.tuple #[.string ⟨#[]⟩, .int .i64 cc]) ∧ VA w0 rs w' l X Ms wr) := hid (by
    go_enter Try.func34, Try.ntmps34
    go_wp2_with (go_at_call 8; refine HP.out.mono ?_; rintro r w5 ⟨rfl, f5⟩)
    go_ret2
    exact ⟨rfl, HV.out.step f5⟩)
  clear HP
  go_enter Try.func14, Try.ntmps14
  go_wp2_with (go_at_call 34; refine HR.out.mono ?_; rintro r w5 ⟨rfl, v5⟩)
  go_ret2
  exact ⟨rfl, v5⟩
set_option maxRecDepth 20000 in
set_option maxHeartbeats 1000000 in
theorem vread_in (h : VA w0 rs w l X Ms wr) (o : VOk X) (i : Int) (hc : plC X.ms.length X.e i = 0) (hp : plP X.ms.length X.e i = k) (ha : plA X.ms.length X.e i = a) (hk : Ms[k]? = some M) (ok : SysOk M.s) (ht : M.s.T < 998900) :
    Calls Try.prog 14 #[.pointer (some ⟨X.vb, 0, none⟩), .int .i64 i] w fun r w' => r = .returned (.tuple #[.string ((M.rd (a : Int)).2.1), .int .i64 ((M.rd (a : Int)).2.2)]) ∧ VA w0 rs w' l X (Ms.set k ((M.rd (a : Int)).1)) wr := by
  have HV := hid h
  have HP := hid (vplace_v h o i)
  rw [hc, hp, ha] at HP
  have hkl : k < X.ms.length := by rw [← h.len.1]; exact (List.getElem?_eq_some_iff.1 hk).1
  obtain ⟨m, hm⟩ : ∃ m, X.ms[k]? = some m := ⟨_, List.getElem?_eq_getElem hkl⟩
  obtain ⟨c, hv, h1, h2, hb, hcell⟩ := h.shape o
  have HC := hid fun (w1 : World) (h1 : VA w0 rs w1 l X Ms wr) => (show w1.cell? ⟨X.vb, 0, none⟩ = some (.slice (some ⟨X.rb, 0, none⟩) X.ms.length c) ∧ w1.cell? ⟨X.rb, k, none⟩ = some (.pointer (some ⟨m, 0, none⟩)) from by
    obtain ⟨c2, hv2, _, _, hb2, hcell2⟩ := h1.shape o
    rw [hv] at hv2
    obtain rfl : c = c2 := by simpa using hv2
    exact ⟨hb2.cell 0, hcell2 k m hm⟩)
  have HW := hid fun (w1 : World) (h1 : VA w0 rs w1 l X Ms wr) => vr_at h1 hk hm ok ht (a : Int)
  have hkl2 : k < X.ms.length := hkl
  generalize (M.rd (a : Int)).1 = M' at *
  generalize (M.rd (a : Int)).2.1 = S at *
  generalize (M.rd (a : Int)).2.2 = cc at *
  generalize hgn : X.ms.length = n at *
  generalize X.rb = rb at *
  clear hgn hc hp ha h hv h1 h2 hb hcell hkl hk hm ok ht
  have HR : Hid (Calls Try.prog 34 #[.pointer (some ⟨X.vb, 0, none⟩), .int .i64 i, .func (.func 35) #[] #[]] w fun r w' => r = .returned (.tuple #[.string S, .int .i64 cc]) ∧ VA w0 rs w' l X (Ms.set k M') wr) := hid (by
    go_enter Try.func34, Try.ntmps34
    go_wp2_with (first
      | (go_at_call 8; refine HP.out.mono ?_; rintro r w5 ⟨rfl, f5⟩; have V5 := hid (HV.out.step f5); obtain ⟨k0, k1⟩ := HC.out _ V5.out)
      | (go_at_call 35; refine (HW.out _ V5.out).mono ?_; rintro r w6 ⟨rfl, v6⟩; have V6 := hid v6; clear v6 k0 k1))
    go_ret2
    exact ⟨rfl, V6.out⟩)
  clear HP HW HC
  go_enter Try.func14, Try.ntmps14
  go_wp2_with (go_at_call 34; refine HR.out.mono ?_; rintro r w5 ⟨rfl, v5⟩)
  go_ret2
  exact ⟨rfl, v5⟩
set_option maxRecDepth 20000 in
theorem vother_nil1 (w : World) (i : Int) : Calls Try.prog 34 #[.pointer none, .int .i64 i, .func (.func 36) #[] #[]] w fun r w' => r = .returned (.tuple #[.string ⟨#[]⟩, .int .i64 1]) ∧ w' = w := by
  go_enter Try.func34, Try.ntmps34
  go_wp2_with (go_at_call 8; refine (vplace_nil _ _).mono ?_; rintro r w5 ⟨rfl, hw⟩; subst hw)
  go_ret2
  exact ⟨rfl, rfl⟩
set_option maxRecDepth 20000 in
theorem vother_nil (w : World) (i : Int) : Calls Try.prog 15 #[.pointer none, .int .i64 i] w fun r w' => r = .returned (.tuple #[.string ⟨#[]⟩, .int .i64 1]) ∧ w' = w := by
  go_enter Try.func15, Try.ntmps15
  go_wp2_with (go_at_call 34; refine (vother_nil1 _ _).mono ?_; rintro r w5 ⟨rfl, hw⟩; subst hw)
  go_ret2
  exact ⟨rfl, rfl⟩
set_option maxRecDepth 20000 in
theorem vother_off (h : VA w0 rs w l X Ms wr) (o : VOk X) (i : Int) (hc : plC X.ms.length X.e i ≠ 0) :
    Calls Try.prog 15 #[.pointer (some ⟨X.vb, 0, none⟩), .int .i64 i] w fun r w' => r = .returned (.tuple #[.string ⟨#[]⟩, .int .i64 (plC X.ms.length X.e i)]) ∧ VA w0 rs w' l X Ms wr := by
  have HV := hid h
  have HP := hid (vplace_v h o i)
  generalize plC X.ms.length X.e i = cc at *
  have u0 : (cc == 0) = false := by simpa using hc
  have u1 : (cc != 0) = true := by simpa using hc
  clear h hc
  have HR : Hid (Calls Try.prog 34 #[.pointer (some ⟨X.vb, 0, none⟩), .int .i64 i, .func (.func 36) #[] #[]] w fun r w' => r = .returned (.tuple #[.string ⟨#[]⟩, .int .i64 cc]) ∧ VA w0 rs w' l X Ms wr) := hid (by
    go_enter Try.func34, Try.ntmps34
    go_wp2_with (go_at_call 8; refine HP.out.mono ?_; rintro r w5 ⟨rfl, f5⟩)
    go_ret2
    exact ⟨rfl, HV.out.step f5⟩)
  clear HP
  go_enter Try.func15, Try.ntmps15
  go_wp2_with (go_at_call 34; refine HR.out.mono ?_; rintro r w5 ⟨rfl, v5⟩)
  go_ret2
  exact ⟨rfl, v5⟩
set_option maxRecDepth 20000 in
set_option maxHeartbeats 1000000 in
theorem vother_in (h : VA w0 rs w l X Ms wr) (o : VOk X) (i : Int) (hc : plC X.ms.length X.e i = 0) (hp : plP X.ms.length X.e i = k) (ha : plA X.ms.length X.e i = a) (hk : Ms[k]? = some M) (ok : SysOk M.s) (ht : M.s.T < 998900) :
    Calls Try.prog 15 #[.pointer (some ⟨X.vb, 0, none⟩), .int .i64 i] w fun r w' => r = .returned (.tuple #[.string ((M.ot (a : Int)).2.1), .int .i64 ((M.ot (a : Int)).2.2)]) ∧ VA w0 rs w' l X (Ms.set k ((M.ot (a : Int)).1)) wr := by
  have HV := hid h
  have HP := hid (vplace_v h o i)
  rw [hc, hp, ha] at HP
  have hkl : k < X.ms.length := by rw [← h.len.1]; exact (List.getElem?_eq_some_iff.1 hk).1
  obtain ⟨m, hm⟩ : ∃ m, X.ms[k]? = some m := ⟨_, List.getElem?_eq_getElem hkl⟩
  obtain ⟨c, hv, h1, h2, hb, hcell⟩ := h.shape o
  have HC := hid fun (w1 : World) (h1 : VA w0 rs w1 l X Ms wr) => (show w1.cell? ⟨X.vb, 0, none⟩ = some (.slice (some ⟨X.rb, 0, none⟩) X.ms.length c) ∧ w1.cell? ⟨X.rb, k, none⟩ = some (.pointer (some ⟨m, 0, none⟩)) from by
    obtain ⟨c2, hv2, _, _, hb2, hcell2⟩ := h1.shape o
    rw [hv] at hv2
    obtain rfl : c = c2 := by simpa using hv2
    exact ⟨hb2.cell 0, hcell2 k m hm⟩)
  have HW := hid fun (w1 : World) (h1 : VA w0 rs w1 l X Ms wr) => vo_at h1 hk hm ok ht (a : Int)
  have hkl2 : k < X.ms.length := hkl
  generalize (M.ot (a : Int)).1 = M' at *
  generalize (M.ot (a : Int)).2.1 = S at *
  generalize (M.ot (a : Int)).2.2 = cc at *
  generalize hgn : X.ms.length = n at *
  generalize X.rb = rb at *
  clear hgn hc hp ha h hv h1 h2 hb hcell hkl hk hm ok ht
  have HR : Hid (Calls Try.prog 34 #[.pointer (some ⟨X.vb, 0, none⟩), .int .i64 i, .func (.func 36) #[] #[]] w fun r w' => r = .returned (.tuple #[.string S, .int .i64 cc]) ∧ VA w0 rs w' l X (Ms.set k M') wr) := hid (by
    go_enter Try.func34, Try.ntmps34
    go_wp2_with (first
      | (go_at_call 8; refine HP.out.mono ?_; rintro r w5 ⟨rfl, f5⟩; have V5 := hid (HV.out.step f5); obtain ⟨k0, k1⟩ := HC.out _ V5.out)
      | (go_at_call 36; refine (HW.out _ V5.out).mono ?_; rintro r w6 ⟨rfl, v6⟩; have V6 := hid v6; clear v6 k0 k1))
    go_ret2
    exact ⟨rfl, V6.out⟩)
  clear HP HW HC
  go_enter Try.func15, Try.ntmps15
  go_wp2_with (go_at_call 34; refine HR.out.mono ?_; rintro r w5 ⟨rfl, v5⟩)
  go_ret2
  exact ⟨rfl, v5⟩
end
end Go.Proofs.Ytgafefecookgaaa
