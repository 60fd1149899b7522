/- Layer 6, sector: Wire, Replace, Len, Dead, Trace; a power. -/
import Derived.Test.YtflapddkeeiieaaSecG
import Derived.Test.YtflapddkeeiieaaSecN
import Derived.Test.YtflapddkeeiieaaWord
namespace Go.Proofs.Ytflapddkeeiieaa
open Go Go.Xr Go.RowKit
set_option linter.unusedVariables false
set_option linter.unusedSimpArgs false
/-- A disk's fields as cells, and its blocks held. -/
theorem Rep.open {w : World} {d : Nat} {D : SD} {pw : Option (Nat × Nat)} {F : List Nat} (h : Rep w d D pw F) :
    ∃ kc nc lv tv k n L T, F = feet d k n L T ∧ Held w (parts d D pw (.slice (some ⟨k, 0, none⟩) D.kept.length kc) (.slice (some ⟨n, 0, none⟩) D.now.length nc) lv tv k n L T) ∧ D.kept.length ≤ kc ∧ D.now.length ≤ nc := by
  obtain ⟨kv, nv, lv, tv, k, n, L, T, hF, H⟩ := h.held
  obtain ⟨kc, rfl, h1⟩ : ∃ cap, kv = .slice (some ⟨k, 0, none⟩) D.kept.length cap ∧ D.kept.length ≤ cap := by
    rcases (H.ownAt 1 rfl : Xr.Own w 512 kv D.kept.length (fl D.kept) (some k)).shape with ⟨_, _, _, h⟩ | ⟨b, cap, hb, h1, h2, h3⟩
    · cases h
    · cases hb; exact ⟨cap, h1, h2⟩
  obtain ⟨nc, rfl, h2⟩ : ∃ cap, nv = .slice (some ⟨n, 0, none⟩) D.now.length cap ∧ D.now.length ≤ cap := by
    rcases (H.ownAt 2 rfl : Xr.Own w 512 nv D.now.length (fl D.now) (some n)).shape with ⟨_, _, _, h⟩ | ⟨b, cap, hb, h1, h2, h3⟩
    · cases h
    · cases hb; exact ⟨cap, h1, h2⟩
  exact ⟨kc, nc, lv, tv, k, n, L, T, hF, H, h1, h2⟩
theorem wire_none {w : World} (v : Value) : Calls Try.prog 20 #[v, .pointer none] w fun e w' => e = .returned (.int .i64 1) ∧ w' = w := by
  go_enter Try.func20, Try.ntmps20
  go_wp2_with fail
  go_ret
  exact ⟨rfl, rfl⟩
theorem wire_err {w : World} {d : Nat} {D : SD} {pw : Option (Nat × Nat)} {F : List Nat} (h : Rep w d D pw F) (hp : pwOk w pw) (ha : ableN D pw = 60) (p : Nat) :
    Calls Try.prog 20 #[.pointer (some ⟨d, 0, none⟩), .pointer (some ⟨p, 0, none⟩)] w fun e w' => e = .returned (.int .i64 60) ∧ w' = w := by
  have hab := able_any h hp
  rw [ha] at hab
  clear ha h hp
  go_enter Try.func20, Try.ntmps20
  go_wp2_with (go_at_call 35; refine hab.mono ?_; rintro e w' ⟨rfl, hw⟩; subst hw)
  go_ret
  exact ⟨rfl, rfl⟩
theorem wire_ok {w : World} {d : Nat} {D : SD} {pw : Option (Nat × Nat)} {F : List Nat} (h : Rep w d D pw F) (hp : pwOk w pw) (ha : ableN D pw = 0) (p l : Nat) :
    Calls Try.prog 20 #[.pointer (some ⟨d, 0, none⟩), .pointer (some ⟨p, 0, none⟩)] w fun e w' => e = .returned (.int .i64 0) ∧ Rep w' d D (some (p, l)) F ∧ Fr [d] w w' ∧ w'.heap.size = w.heap.size := by
  have hab := able_any h hp
  rw [ha] at hab
  have Hg := hid h.good
  obtain ⟨kc, nc, lv, tv, k, n, L, T, hF, H, h1, h2⟩ := h.open
  have hb : Blk w d [.slice (some ⟨k, 0, none⟩) D.kept.length kc, .slice (some ⟨n, 0, none⟩) D.now.length nc, lv, tv, .bool D.dead, pwv pw] := H.blkAt 0 rfl
  have HH := hid H
  have HF := hid hF
  clear ha h hp hF H
  go_enter Try.func20, Try.ntmps20
  go_wp2_with (first
    | (go_at_call 35; refine hab.mono ?_; rintro e w' ⟨rfl, hw⟩; subst hw)
    | (refine wpList_put rfl _ _ _ rfl rfl (.pointer (some ⟨p, 0, none⟩)) rfl rfl hb (by simp) (by kernel_rfl) ?_; intro w4 f4 b4 hs4; simp only [World.size_alloc, World.size_drew, Act.put, List.setIfInBounds_toArray, List.set_cons_succ, List.set_cons_zero]))
  go_ret
  refine ⟨rfl, ?_, f4, hs4⟩
  rw [HF.out]
  refine Rep.ofHeld (kv := .slice (some ⟨k, 0, none⟩) D.kept.length kc) (nv := .slice (some ⟨n, 0, none⟩) D.now.length nc) (lv := lv) (tv := tv) Hg.out ?_
  exact Held.setAt 0 HH.out rfl f4 (fun b hb => .inl (by simpa [Res.blk] using hb)) (Res.On.blk b4) (fun b hb => .inl (by simpa [Res.blk] using hb))
theorem replace_no {w : World} {d : Nat} {D : SD} {pw : Option (Nat × Nat)} {F : List Nat} (h : Rep w d D pw F) (hd : D.dead = false) :
    Calls Try.prog 31 #[.pointer (some ⟨d, 0, none⟩)] w fun e w' => e = .returned (.int .i64 3) ∧ w' = w := by
  obtain ⟨kc, nc, lv, tv, k, n, L, T, hF, H, h1, h2⟩ := h.open
  have hb : Blk w d [.slice (some ⟨k, 0, none⟩) D.kept.length kc, .slice (some ⟨n, 0, none⟩) D.now.length nc, lv, tv, .bool D.dead, pwv pw] := H.blkAt 0 rfl
  rw [hd] at hb
  have k0 := hb.cell 0
  have k4 := hb.cell 4
  have hsn := @Lib.run_eql_slice_nil
  clear h H hF hb
  go_enter Try.func31, Try.ntmps31
  go_wp2_with fail
  go_ret
  exact ⟨rfl, rfl⟩
theorem replace_ok {w : World} {d : Nat} {D : SD} {pw : Option (Nat × Nat)} {F : List Nat} (h : Rep w d D pw F) (hd : D.dead = true) :
    Calls Try.prog 31 #[.pointer (some ⟨d, 0, none⟩)] w fun e w' => e = .returned (.int .i64 0) ∧ Rep w' d { D with dead := false } pw F ∧ Fr [d] w w' := by
  have Hg := hid (show Good { D with dead := false } from ⟨h.good.same, h.good.pos, h.good.le, h.good.k512, h.good.n512, h.good.l512⟩)
  obtain ⟨kc, nc, lv, tv, k, n, L, T, hF, H, h1, h2⟩ := h.open
  have hb : Blk w d [.slice (some ⟨k, 0, none⟩) D.kept.length kc, .slice (some ⟨n, 0, none⟩) D.now.length nc, lv, tv, .bool D.dead, pwv pw] := H.blkAt 0 rfl
  rw [hd] at hb
  have k0 := hb.cell 0
  have k4 := hb.cell 4
  have hsn := @Lib.run_eql_slice_nil
  have HH := hid H
  have HF := hid hF
  clear h H hF
  go_enter Try.func31, Try.ntmps31
  go_wp2_with (refine wpList_put rfl _ _ _ rfl rfl (.bool false) rfl rfl hb (by simp) (by kernel_rfl) ?_; intro w4 f4 b4 hs4; simp only [World.size_alloc, World.size_drew, Act.put, List.setIfInBounds_toArray, List.set_cons_succ, List.set_cons_zero])
  go_ret
  refine ⟨rfl, ?_, f4⟩
  rw [HF.out]
  refine Rep.ofHeld (D := { D with dead := false }) (kv := .slice (some ⟨k, 0, none⟩) D.kept.length kc) (nv := .slice (some ⟨n, 0, none⟩) D.now.length nc) (lv := lv) (tv := tv) Hg.out ?_
  exact Held.setAt 0 HH.out rfl f4 (fun b hb => .inl (by simpa [Res.blk] using hb)) (Res.On.blk b4) (fun b hb => .inl (by simpa [Res.blk] using hb))
theorem dlen_any {w : World} {d : Nat} {D : SD} {pw : Option (Nat × Nat)} {F : List Nat} (h : Rep w d D pw F) :
    Calls Try.prog 33 #[.pointer (some ⟨d, 0, none⟩)] w fun e w' => e = .returned (.int .i64 (D.kept.length : Int)) ∧ w' = w := by
  obtain ⟨kc, nc, lv, tv, k, n, L, T, hF, H, h1, h2⟩ := h.open
  have hb : Blk w d [.slice (some ⟨k, 0, none⟩) D.kept.length kc, .slice (some ⟨n, 0, none⟩) D.now.length nc, lv, tv, .bool D.dead, pwv pw] := H.blkAt 0 rfl
  have k0 := hb.cell 0
  clear h H hF hb
  go_enter Try.func33, Try.ntmps33
  go_wp2_with fail
  go_ret
  exact ⟨rfl, rfl⟩
theorem dead_any {w : World} {d : Nat} {D : SD} {pw : Option (Nat × Nat)} {F : List Nat} (h : Rep w d D pw F) :
    Calls Try.prog 34 #[.pointer (some ⟨d, 0, none⟩)] w fun e w' => e = .returned (.bool D.dead) ∧ w' = w := by
  obtain ⟨kc, nc, lv, tv, k, n, L, T, hF, H, h1, h2⟩ := h.open
  have hb : Blk w d [.slice (some ⟨k, 0, none⟩) D.kept.length kc, .slice (some ⟨n, 0, none⟩) D.now.length nc, lv, tv, .bool D.dead, pwv pw] := H.blkAt 0 rfl
  have k4 := hb.cell 4
  clear h H hF hb
  go_enter Try.func34, Try.ntmps34
  go_wp2_with fail
  go_ret
  exact ⟨rfl, rfl⟩
theorem left_any {w : World} {p l : Nat} (h : pwOk w (some (p, l))) : Calls Try.prog 22 #[.pointer (some ⟨p, 0, none⟩)] w fun e w' => e = .returned (.int .i64 (l : Int)) ∧ w' = w := by
  have k0 := h.1.cell 0
  clear h
  go_enter Try.func22, Try.ntmps22
  go_wp2_with fail
  go_ret
  exact ⟨rfl, rfl⟩
theorem left_nil {w : World} : Calls Try.prog 22 #[.pointer none] w fun e w' => e = .returned (.int .i64 0) ∧ w' = w := by
  go_enter Try.func22, Try.ntmps22
  go_wp2_with fail
  go_ret
  exact ⟨rfl, rfl⟩
theorem trace_any {w : World} {d : Nat} {D : SD} {pw : Option (Nat × Nat)} {F : List Nat} (h : Rep w d D pw F) (htl : D.trace.length < 1000000) :
    Calls Try.prog 23 #[.pointer (some ⟨d, 0, none⟩)] w fun e w' => (∃ v B, e = .returned v ∧ Rd w' 1 v D.trace.length (D.trace.map (.int .i64)) B) ∧ Fr [] w w' := by
  obtain ⟨kc, nc, lv, tv, k, n, L, T, hF, H, h1, h2⟩ := h.open
  have hb : Blk w d [.slice (some ⟨k, 0, none⟩) D.kept.length kc, .slice (some ⟨n, 0, none⟩) D.now.length nc, lv, tv, .bool D.dead, pwv pw] := H.blkAt 0 rfl
  have k3 := hb.cell 3
  have ho : Xr.Own w 1 tv D.trace.length (D.trace.map (.int .i64)) T := H.ownAt 4 rfl
  obtain ⟨tn, htn⟩ : ∃ tn, D.trace.length = tn := ⟨_, rfl⟩
  rw [htn] at ho htl ⊢
  clear h H hF hb htn
  cases T with
  | none =>
    rcases ho.shape with ⟨rfl, rfl, hx, _⟩ | ⟨b, cap, hb, _⟩
    · have hc := clip_any (Own.nil w 1)
      have Hx := hid hx
      clear ho hx
      go_enter Try.func23, Try.ntmps23
      go_wp2_with (first
        | (go_at_call 50; refine (cloneI_nil w).mono ?_; rintro e w' ⟨rfl, hw⟩; subst hw)
        | (go_at_call 39; refine hc.mono ?_; rintro e w' ⟨⟨v', rfl, hr⟩, hw⟩; subst hw))
      go_ret
      rw [Hx.out]
      exact ⟨⟨_, none, rfl, hr⟩, Fr.refl _ _⟩
    · cases hb
  | some b =>
    have hcl := hid (cloneI_any ho (by intro u hu; simp at hu; obtain ⟨x, _, rfl⟩ := hu; rfl) (by unfold maxLen; omega) (by omega))
    obtain ⟨ta, tc, rfl⟩ := ho.isSlice
    clear ho
    go_enter Try.func23, Try.ntmps23
    go_wp2_with (first
      | (go_at_call 50; refine hcl.out.mono ?_; rintro e w1 ⟨v1, b1, rfl, ho1, hb1, f1⟩; have hc := clip_any ho1; obtain ⟨va1, vc1, rfl⟩ := ho1.isSlice)
      | (go_at_call 39; refine hc.mono ?_; rintro e w' ⟨⟨v', rfl, hr⟩, hw⟩; subst hw))
    go_ret
    exact ⟨⟨_, some b1, rfl, hr⟩, f1⟩
end Go.Proofs.Ytflapddkeeiieaa
