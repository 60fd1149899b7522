/- Layer 6, sector: Same. -/
import Derived.Test.YtflapddkeeiieaaSecT
namespace Go.Proofs.Ytflapddkeeiieaa
open Go Go.Xr Go.RowKit
set_option linter.unusedVariables false
set_option linter.unusedSimpArgs false
set_option maxHeartbeats 1000000 in
set_option maxRecDepth 20000 in
theorem same_any {w : World} {d d' : Nat} {D D' : SD} {pw pw' : Option (Nat × Nat)} {F F' : List Nat} (h : Rep w d D pw F) (h' : Rep w d' D' pw' F') :
    Calls Try.prog 28 #[.pointer (some ⟨d, 0, none⟩), .pointer (some ⟨d', 0, none⟩)] w fun e w' => e = .returned (.bool ((D.dead == D'.dead && D.kept == D'.kept) && D.now == D'.now)) ∧ Fr [] w w' := by
  have g := h.good
  have g' := h'.good
  obtain ⟨kc, nc, lv, tv, k, n, L, T, hF, H, h1, h2⟩ := h.open
  obtain ⟨kc', nc', lv', tv', k', n', L', T', hF', H', h1', h2'⟩ := h'.open
  have hb : Blk w d [.slice (some ⟨k, 0, none⟩) D.kept.length kc, .slice (some ⟨n, 0, none⟩) D.now.length nc, lv, tv, .bool D.dead, pwv pw] := H.blkAt 0 rfl
  have hb' : Blk w d' [.slice (some ⟨k', 0, none⟩) D'.kept.length kc', .slice (some ⟨n', 0, none⟩) D'.now.length nc', lv', tv', .bool D'.dead, pwv pw'] := H'.blkAt 0 rfl
  have hk : Xr.Own w 512 (.slice (some ⟨k, 0, none⟩) D.kept.length kc) D.kept.length (fl D.kept) (some k) := H.ownAt 1 rfl
  have hn : Xr.Own w 512 (.slice (some ⟨n, 0, none⟩) D.now.length nc) D.now.length (fl D.now) (some n) := H.ownAt 2 rfl
  have hk' : Xr.Own w 512 (.slice (some ⟨k', 0, none⟩) D'.kept.length kc') D'.kept.length (fl D'.kept) (some k') := H'.ownAt 1 rfl
  have hn' : Xr.Own w 512 (.slice (some ⟨n', 0, none⟩) D'.now.length nc') D'.now.length (fl D'.now) (some n') := H'.ownAt 2 rfl
  have HK := hid fun (w1 : World) (f : Fr [] w w1) => equalS_any (hk.keep f (by simp)) (hk'.keep f (by simp)) g.k512 g'.k512 g.le g'.le
  have HN := hid fun (w1 : World) (f : Fr [] w w1) => equalS_any (hn.keep f (by simp)) (hn'.keep f (by simp)) g.n512 g'.n512 (by have := g.same; have := g.le; omega) (by have := g'.same; have := g'.le; omega)
  have hsn := @Lib.run_eql_slice_nil
  generalize hKe : (D.kept == D'.kept) = ke at *
  generalize hNe : (D.now == D'.now) = ne at *
  generalize D.kept.length = kl at *
  generalize D'.kept.length = kl' at *
  generalize D.now.length = nl at *
  generalize D'.now.length = nl' at *
  clear h h' H H' hF hF' g g' hk hn hk' hn' h1 h2 h1' h2' hKe hNe
  cases hd : D.dead <;> cases hd' : D'.dead <;> rw [hd] at hb <;> rw [hd'] at hb' <;> clear hd hd'
  · skip
    have k0 := hb.cell 0
    have k0' := hb'.cell 0
    have k4 := hb.cell 4
    have k4' := hb'.cell 4
    cases ke
    · skip
      go_enter Try.func28, Try.ntmps28
      go_wp2_with fail
      refine wp_region_D (fun _ => True) false [] (by kernel_rfl) ?_
      refine WD.pure [0, 1, 2, 3, 4, 5, 6, 7, 8, 9, 10, 11, 12, 13, 14, 15, 16, 17] (by kernel_rfl) trivial ?_
      simp only [pick, List.toList_toArray, List.map_cons, List.map_nil, List.getD_cons_succ, List.getD_cons_zero]
      repeat (first | go_big_quiet_step (fail))
      refine wpQuiet_nil ?_
      refine WD.eff 18 (by kernel_rfl) ?_
      simp only [pick, List.toList_toArray, List.map_cons, List.map_nil, List.getD_cons_succ, List.getD_cons_zero]
      go_wp2_with (go_at_call 53; refine (HK.out _ (Fr.refl _ _).drew).mono ?_; rintro e w5 ⟨rfl, f5⟩)
      have b5 := (f5.blk hb.drew (by simp)).cell
      have b5' := (f5.blk hb'.drew (by simp)).cell
      have k51 := b5 1
      have k51' := b5' 1
      clear b5 b5'
      try refine wpList_nil ?_
      refine AfterD.on trivial (by kernel_rfl) ?_
      try simp only [World.size_alloc, World.size_drew, Act.put, List.setIfInBounds_toArray, List.set_cons_succ, List.set_cons_zero]
      refine WD.pure [19, 20, 21, 22, 23, 24, 25, 26, 27, 28] (by kernel_rfl) trivial ?_
      simp only [pick, List.toList_toArray, List.map_cons, List.map_nil, List.getD_cons_succ, List.getD_cons_zero]
      repeat (first | go_big_quiet_step (fail))
      refine wpQuiet_nil ?_
      refine WD.eff 29 (by kernel_rfl) ?_
      simp only [pick, List.toList_toArray, List.map_cons, List.map_nil, List.getD_cons_succ, List.getD_cons_zero]
      go_wp2_with fail
      try refine wpList_nil ?_
      refine AfterD.on trivial (by kernel_rfl) ?_
      try simp only [World.size_alloc, World.size_drew, Act.put, List.setIfInBounds_toArray, List.set_cons_succ, List.set_cons_zero]
      refine WD.pure [30, 31] (by kernel_rfl) trivial ?_
      simp only [pick, List.toList_toArray, List.map_cons, List.map_nil, List.getD_cons_succ, List.getD_cons_zero]
      repeat (first | go_big_quiet_step (fail))
      refine wpQuiet_nil ?_
      refine WD.done (by kernel_rfl) ?_
      go_wp2_with fail
      go_ret
      exact ⟨rfl, (Fr.refl _ _).drew.trans' f5⟩
    · skip
      go_enter Try.func28, Try.ntmps28
      go_wp2_with fail
      refine wp_region_D (fun _ => True) false [] (by kernel_rfl) ?_
      refine WD.pure [0, 1, 2, 3, 4, 5, 6, 7, 8, 9, 10, 11, 12, 13, 14, 15, 16, 17] (by kernel_rfl) trivial ?_
      simp only [pick, List.toList_toArray, List.map_cons, List.map_nil, List.getD_cons_succ, List.getD_cons_zero]
      repeat (first | go_big_quiet_step (fail))
      refine wpQuiet_nil ?_
      refine WD.eff 18 (by kernel_rfl) ?_
      simp only [pick, List.toList_toArray, List.map_cons, List.map_nil, List.getD_cons_succ, List.getD_cons_zero]
      go_wp2_with (go_at_call 53; refine (HK.out _ (Fr.refl _ _).drew).mono ?_; rintro e w5 ⟨rfl, f5⟩)
      have b5 := (f5.blk hb.drew (by simp)).cell
      have b5' := (f5.blk hb'.drew (by simp)).cell
      have k51 := b5 1
      have k51' := b5' 1
      clear b5 b5'
      try refine wpList_nil ?_
      refine AfterD.on trivial (by kernel_rfl) ?_
      try simp only [World.size_alloc, World.size_drew, Act.put, List.setIfInBounds_toArray, List.set_cons_succ, List.set_cons_zero]
      refine WD.pure [19, 20, 21, 22, 23, 24, 25, 26, 27, 28] (by kernel_rfl) trivial ?_
      simp only [pick, List.toList_toArray, List.map_cons, List.map_nil, List.getD_cons_succ, List.getD_cons_zero]
      repeat (first | go_big_quiet_step (fail))
      refine wpQuiet_nil ?_
      refine WD.eff 29 (by kernel_rfl) ?_
      simp only [pick, List.toList_toArray, List.map_cons, List.map_nil, List.getD_cons_succ, List.getD_cons_zero]
      go_wp2_with (go_at_call 53; refine (HN.out _ ((Fr.refl _ _).drew.trans' f5)).mono ?_; rintro e w6 ⟨rfl, f6⟩)
      try refine wpList_nil ?_
      refine AfterD.on trivial (by kernel_rfl) ?_
      try simp only [World.size_alloc, World.size_drew, Act.put, List.setIfInBounds_toArray, List.set_cons_succ, List.set_cons_zero]
      refine WD.pure [30, 31] (by kernel_rfl) trivial ?_
      simp only [pick, List.toList_toArray, List.map_cons, List.map_nil, List.getD_cons_succ, List.getD_cons_zero]
      repeat (first | go_big_quiet_step (fail))
      refine wpQuiet_nil ?_
      refine WD.done (by kernel_rfl) ?_
      go_wp2_with fail
      go_ret
      exact ⟨rfl, ((Fr.refl _ _).drew.trans' f5).trans' f6⟩
  · skip
    have k0 := hb.cell 0
    have k0' := hb'.cell 0
    have k4 := hb.cell 4
    have k4' := hb'.cell 4
    go_enter Try.func28, Try.ntmps28
    go_wp2_with fail
    refine wp_region_D (fun _ => True) false [] (by kernel_rfl) ?_
    refine WD.pure [0, 1, 2, 3, 4, 5, 6, 7, 8, 9, 10, 11, 12, 13, 14, 15, 16, 17] (by kernel_rfl) trivial ?_
    simp only [pick, List.toList_toArray, List.map_cons, List.map_nil, List.getD_cons_succ, List.getD_cons_zero]
    repeat (first | go_big_quiet_step (fail))
    refine wpQuiet_nil ?_
    refine WD.eff 18 (by kernel_rfl) ?_
    simp only [pick, List.toList_toArray, List.map_cons, List.map_nil, List.getD_cons_succ, List.getD_cons_zero]
    go_wp2_with fail
    try refine wpList_nil ?_
    refine AfterD.on trivial (by kernel_rfl) ?_
    try simp only [World.size_alloc, World.size_drew, Act.put, List.setIfInBounds_toArray, List.set_cons_succ, List.set_cons_zero]
    refine WD.pure [19, 20, 21, 22, 23, 24, 25, 26, 27, 28] (by kernel_rfl) trivial ?_
    simp only [pick, List.toList_toArray, List.map_cons, List.map_nil, List.getD_cons_succ, List.getD_cons_zero]
    repeat (first | go_big_quiet_step (fail))
    refine wpQuiet_nil ?_
    refine WD.eff 29 (by kernel_rfl) ?_
    simp only [pick, List.toList_toArray, List.map_cons, List.map_nil, List.getD_cons_succ, List.getD_cons_zero]
    go_wp2_with fail
    try refine wpList_nil ?_
    refine AfterD.on trivial (by kernel_rfl) ?_
    try simp only [World.size_alloc, World.size_drew, Act.put, List.setIfInBounds_toArray, List.set_cons_succ, List.set_cons_zero]
    refine WD.pure [30, 31] (by kernel_rfl) trivial ?_
    simp only [pick, List.toList_toArray, List.map_cons, List.map_nil, List.getD_cons_succ, List.getD_cons_zero]
    repeat (first | go_big_quiet_step (fail))
    refine wpQuiet_nil ?_
    refine WD.done (by kernel_rfl) ?_
    go_wp2_with fail
    go_ret
    exact ⟨rfl, (Fr.refl _ _).drew⟩
  · skip
    have k0 := hb.cell 0
    have k0' := hb'.cell 0
    have k4 := hb.cell 4
    have k4' := hb'.cell 4
    go_enter Try.func28, Try.ntmps28
    go_wp2_with fail
    refine wp_region_D (fun _ => True) false [] (by kernel_rfl) ?_
    refine WD.pure [0, 1, 2, 3, 4, 5, 6, 7, 8, 9, 10, 11, 12, 13, 14, 15, 16, 17] (by kernel_rfl) trivial ?_
    simp only [pick, List.toList_toArray, List.map_cons, List.map_nil, List.getD_cons_succ, List.getD_cons_zero]
    repeat (first | go_big_quiet_step (fail))
    refine wpQuiet_nil ?_
    refine WD.eff 18 (by kernel_rfl) ?_
    simp only [pick, List.toList_toArray, List.map_cons, List.map_nil, List.getD_cons_succ, List.getD_cons_zero]
    go_wp2_with fail
    try refine wpList_nil ?_
    refine AfterD.on trivial (by kernel_rfl) ?_
    try simp only [World.size_alloc, World.size_drew, Act.put, List.setIfInBounds_toArray, List.set_cons_succ, List.set_cons_zero]
    refine WD.pure [19, 20, 21, 22, 23, 24, 25, 26, 27, 28] (by kernel_rfl) trivial ?_
    simp only [pick, List.toList_toArray, List.map_cons, List.map_nil, List.getD_cons_succ, List.getD_cons_zero]
    repeat (first | go_big_quiet_step (fail))
    refine wpQuiet_nil ?_
    refine WD.eff 29 (by kernel_rfl) ?_
    simp only [pick, List.toList_toArray, List.map_cons, List.map_nil, List.getD_cons_succ, List.getD_cons_zero]
    go_wp2_with fail
    try refine wpList_nil ?_
    refine AfterD.on trivial (by kernel_rfl) ?_
    try simp only [World.size_alloc, World.size_drew, Act.put, List.setIfInBounds_toArray, List.set_cons_succ, List.set_cons_zero]
    refine WD.pure [30, 31] (by kernel_rfl) trivial ?_
    simp only [pick, List.toList_toArray, List.map_cons, List.map_nil, List.getD_cons_succ, List.getD_cons_zero]
    repeat (first | go_big_quiet_step (fail))
    refine wpQuiet_nil ?_
    refine WD.done (by kernel_rfl) ?_
    go_wp2_with fail
    go_ret
    exact ⟨rfl, (Fr.refl _ _).drew⟩
  · skip
    have k0 := hb.cell 0
    have k0' := hb'.cell 0
    have k4 := hb.cell 4
    have k4' := hb'.cell 4
    cases ke
    · skip
      go_enter Try.func28, Try.ntmps28
      go_wp2_with fail
      refine wp_region_D (fun _ => True) false [] (by kernel_rfl) ?_
      refine WD.pure [0, 1, 2, 3, 4, 5, 6, 7, 8, 9, 10, 11, 12, 13, 14, 15, 16, 17] (by kernel_rfl) trivial ?_
      simp only [pick, List.toList_toArray, List.map_cons, List.map_nil, List.getD_cons_succ, List.getD_cons_zero]
      repeat (first | go_big_quiet_step (fail))
      refine wpQuiet_nil ?_
      refine WD.eff 18 (by kernel_rfl) ?_
      simp only [pick, List.toList_toArray, List.map_cons, List.map_nil, List.getD_cons_succ, List.getD_cons_zero]
      go_wp2_with (go_at_call 53; refine (HK.out _ (Fr.refl _ _).drew).mono ?_; rintro e w5 ⟨rfl, f5⟩)
      have b5 := (f5.blk hb.drew (by simp)).cell
      have b5' := (f5.blk hb'.drew (by simp)).cell
      have k51 := b5 1
      have k51' := b5' 1
      clear b5 b5'
      try refine wpList_nil ?_
      refine AfterD.on trivial (by kernel_rfl) ?_
      try simp only [World.size_alloc, World.size_drew, Act.put, List.setIfInBounds_toArray, List.set_cons_succ, List.set_cons_zero]
      refine WD.pure [19, 20, 21, 22, 23, 24, 25, 26, 27, 28] (by kernel_rfl) trivial ?_
      simp only [pick, List.toList_toArray, List.map_cons, List.map_nil, List.getD_cons_succ, List.getD_cons_zero]
      repeat (first | go_big_quiet_step (fail))
      refine wpQuiet_nil ?_
      refine WD.eff 29 (by kernel_rfl) ?_
      simp only [pick, List.toList_toArray, List.map_cons, List.map_nil, List.getD_cons_succ, List.getD_cons_zero]
      go_wp2_with fail
      try refine wpList_nil ?_
      refine AfterD.on trivial (by kernel_rfl) ?_
      try simp only [World.size_alloc, World.size_drew, Act.put, List.setIfInBounds_toArray, List.set_cons_succ, List.set_cons_zero]
      refine WD.pure [30, 31] (by kernel_rfl) trivial ?_
      simp only [pick, List.toList_toArray, List.map_cons, List.map_nil, List.getD_cons_succ, List.getD_cons_zero]
      repeat (first | go_big_quiet_step (fail))
      refine wpQuiet_nil ?_
      refine WD.done (by kernel_rfl) ?_
      go_wp2_with fail
      go_ret
      exact ⟨rfl, (Fr.refl _ _).drew.trans' f5⟩
    · skip
      go_enter Try.func28, Try.ntmps28
      go_wp2_with fail
      refine wp_region_D (fun _ => True) false [] (by kernel_rfl) ?_
      refine WD.pure [0, 1, 2, 3, 4, 5, 6, 7, 8, 9, 10, 11, 12, 13, 14, 15, 16, 17] (by kernel_rfl) trivial ?_
      simp only [pick, List.toList_toArray, List.map_cons, List.map_nil, List.getD_cons_succ, List.getD_cons_zero]
      repeat (first | go_big_quiet_step (fail))
      refine wpQuiet_nil ?_
      refine WD.eff 18 (by kernel_rfl) ?_
      simp only [pick, List.toList_toArray, List.map_cons, List.map_nil, List.getD_cons_succ, List.getD_cons_zero]
      go_wp2_with (go_at_call 53; refine (HK.out _ (Fr.refl _ _).drew).mono ?_; rintro e w5 ⟨rfl, f5⟩)
      have b5 := (f5.blk hb.drew (by simp)).cell
      have b5' := (f5.blk hb'.drew (by simp)).cell
      have k51 := b5 1
      have k51' := b5' 1
      clear b5 b5'
      try refine wpList_nil ?_
      refine AfterD.on trivial (by kernel_rfl) ?_
      try simp only [World.size_alloc, World.size_drew, Act.put, List.setIfInBounds_toArray, List.set_cons_succ, List.set_cons_zero]
      refine WD.pure [19, 20, 21, 22, 23, 24, 25, 26, 27, 28] (by kernel_rfl) trivial ?_
      simp only [pick, List.toList_toArray, List.map_cons, List.map_nil, List.getD_cons_succ, List.getD_cons_zero]
      repeat (first | go_big_quiet_step (fail))
      refine wpQuiet_nil ?_
      refine WD.eff 29 (by kernel_rfl) ?_
      simp only [pick, List.toList_toArray, List.map_cons, List.map_nil, List.getD_cons_succ, List.getD_cons_zero]
      go_wp2_with (go_at_call 53; refine (HN.out _ ((Fr.refl _ _).drew.trans' f5)).mono ?_; rintro e w6 ⟨rfl, f6⟩)
      try refine wpList_nil ?_
      refine AfterD.on trivial (by kernel_rfl) ?_
      try simp only [World.size_alloc, World.size_drew, Act.put, List.setIfInBounds_toArray, List.set_cons_succ, List.set_cons_zero]
      refine WD.pure [30, 31] (by kernel_rfl) trivial ?_
      simp only [pick, List.toList_toArray, List.map_cons, List.map_nil, List.getD_cons_succ, List.getD_cons_zero]
      repeat (first | go_big_quiet_step (fail))
      refine wpQuiet_nil ?_
      refine WD.done (by kernel_rfl) ?_
      go_wp2_with fail
      go_ret
      exact ⟨rfl, ((Fr.refl _ _).drew.trans' f5).trans' f6⟩
end Go.Proofs.Ytflapddkeeiieaa
