/- Layer 6, sector: Fail. -/
import Derived.Test.YtflapddkeeiieaaSecP
import Derived.Test.YtflapddkeeiieaaClr
namespace Go.Proofs.Ytflapddkeeiieaa
open Go Go.Xr Go.RowKit
set_option linter.unusedVariables false
set_option linter.unusedSimpArgs false
def failed (D : SD) : SD := { D with kept := List.replicate D.kept.length zsec, now := List.replicate D.kept.length zsec, loose := [], dead := true }
theorem failed_good {D : SD} (h : Good D) : Good (failed D) := by
  have h2 := new_good D.kept.length h.pos h.le
  exact ⟨h2.same, h2.pos, h2.le, h2.k512, h2.n512, by simp [failed]⟩
theorem zs73 : ∃ i z, Try.prog.info? 73 = some i ∧ i.zero = some z ∧ z.cells.toList = List.replicate 512 (bt 0) := by
  refine ⟨_, _, rfl, rfl, ?_⟩
  kernel_rfl
theorem fail_ok {w : World} {d : Nat} {D : SD} {pw : Option (Nat × Nat)} {F : List Nat} (h : Rep w d D pw F) :
    Calls Try.prog 30 #[.pointer (some ⟨d, 0, none⟩)] w fun e w' => e = .returned (.int .i64 0) ∧ ∃ F', Rep w' d (failed D) pw F' ∧ Fr F w w' ∧ ∀ x ∈ F', x ∈ F ∨ w.heap.size ≤ x := by
  have Hg := hid (failed_good h.good)
  have hpos := h.good.pos
  have Hsame := hid h.good.same
  obtain ⟨kc, nc, lv, tv, k, n, L, T, hF, H, h1, h2⟩ := h.open
  obtain ⟨xs, hxs⟩ : ∃ xs, xs = fl D.kept := ⟨_, rfl⟩
  obtain ⟨ys, hys⟩ : ∃ ys, ys = fl D.now := ⟨_, rfl⟩
  obtain ⟨kl, hkl⟩ : ∃ kl, kl = D.kept.length := ⟨_, rfl⟩
  have HF := hid hF
  have Hkl := hid hkl
  unfold parts at H
  rw [← hxs, ← hys, ← Hsame.out, ← hkl] at H
  have H0 := hid H
  have hb : Blk w d [.slice (some ⟨k, 0, none⟩) kl kc, .slice (some ⟨n, 0, none⟩) kl nc, lv, tv, .bool D.dead, pwv pw] := H.blkAt 0 rfl
  have ok1 : Xr.Own w 512 (.slice (some ⟨k, 0, none⟩) kl kc) kl xs (some k) := H.ownAt 1 rfl
  rw [← hkl] at hpos
  have k0 := hb.cell 0
  have hsn := @Lib.run_eql_slice_nil
  obtain ⟨i73, z73, hi, hz, hzs⟩ := zs73
  have Hi := hid hi
  have Hz := hid hz
  have Hzs := hid hzs
  clear h H hF hxs hys hkl h1 h2 hi hz hzs hb
  go_enter Try.func30, Try.ntmps30
  go_wp2_with (first
    | (refine wpList_clear rfl _ _ rfl _ _ _ _ 512 Try.underlying67 Hi.out Hz.out Hzs.out (by decide) rfl hpos rfl ok1 ?_; intro w1 f1 o1' s1; simp only [World.size_alloc, World.size_drew, Act.put, List.setIfInBounds_toArray, List.set_cons_succ, List.set_cons_zero]
       have o1 : Xr.Own w1 512 (.slice (some ⟨k, 0, none⟩) kl kc) kl (List.replicate (kl * 512) (bt 0)) (some k) := o1'
       have H1 := hid (Held.setAt 1 H0.out rfl f1 (fun b hb => .inl (by simpa [Res.own] using hb)) (Res.On.own o1) (fun b hb => .inl (by simpa [Res.own] using hb)))
       have on1 : Xr.Own w1 512 (.slice (some ⟨n, 0, none⟩) kl nc) kl ys (some n) := H1.out.ownAt 2 rfl
       have hb1 : Blk w1 d [.slice (some ⟨k, 0, none⟩) kl kc, .slice (some ⟨n, 0, none⟩) kl nc, lv, tv, .bool D.dead, pwv pw] := H1.out.blkAt 0 rfl
       have k1 := hb1.cell 1
       clear hb1 ok1 k0)
    | (refine wpList_clear rfl _ _ rfl _ _ _ _ 512 Try.underlying67 Hi.out Hz.out Hzs.out (by decide) rfl hpos rfl on1 ?_; intro w2 f2 o2' s2; simp only [World.size_alloc, World.size_drew, Act.put, List.setIfInBounds_toArray, List.set_cons_succ, List.set_cons_zero]
       have o2 : Xr.Own w2 512 (.slice (some ⟨n, 0, none⟩) kl nc) kl (List.replicate (kl * 512) (bt 0)) (some n) := o2'
       have H2 := hid (Held.setAt 2 H1.out rfl f2 (fun b hb => .inl (by simpa [Res.own] using hb)) (Res.On.own o2) (fun b hb => .inl (by simpa [Res.own] using hb)))
       have hb2 : Blk w2 d [.slice (some ⟨k, 0, none⟩) kl kc, .slice (some ⟨n, 0, none⟩) kl nc, lv, tv, .bool D.dead, pwv pw] := H2.out.blkAt 0 rfl
       clear k1 on1)
    | (refine wpList_put rfl _ _ _ rfl rfl (.slice none 0 0) rfl rfl hb2 (by simp) (by kernel_rfl) ?_; intro w3 f3 b3 hs3; simp only [World.size_alloc, World.size_drew, Act.put, List.setIfInBounds_toArray, List.set_cons_succ, List.set_cons_zero])
    | (refine wpList_put rfl _ _ _ rfl rfl (.bool true) rfl rfl b3 (by simp) (by kernel_rfl) ?_; intro w4 f4 b4 hs4; simp only [World.size_alloc, World.size_drew, Act.put, List.setIfInBounds_toArray, List.set_cons_succ, List.set_cons_zero]))
  go_ret
  have f34 := f3.trans f4 (fun x hx => .inl hx)
  have H3 := Held.setAt 0 H2.out rfl f34 (fun b hb => .inl (by simpa [Res.blk] using hb)) (Res.On.blk b4) (fun b hb => .inl (by simpa [Res.blk] using hb))
  have H4 := Held.setAt 3 H3 rfl (Fr.refl [] w4) (by simp) (Res.On.own (Xr.Own.nil w4 513)) (by simp [Res.own])
  have f14 : Fr F w w4 := by
    rw [HF.out]
    refine ((f1.mono (fun x hx => .inl ?_)).trans (f2.mono (fun x hx => .inl ?_)) (fun x hx => .inl hx)).trans (f34.mono (fun x hx => .inl ?_)) (fun x hx => .inl hx) <;> (simp at hx; simp [feet, hx])
  refine ⟨rfl, feet d k n none T, ?_, f14, ?_⟩
  · refine Rep.ofHeld (D := failed D) (kv := .slice (some ⟨k, 0, none⟩) kl kc) (nv := .slice (some ⟨n, 0, none⟩) kl nc) (lv := .slice none 0 0) (tv := tv) Hg.out ?_
    unfold parts failed
    simp only [List.length_replicate, ← Hkl.out, fl_zero]
    exact H4
  · intro x hx
    rw [HF.out]
    simp [feet] at hx ⊢
    rcases hx with hx | hx | hx | hx <;> simp [hx]
end Go.Proofs.Ytflapddkeeiieaa
