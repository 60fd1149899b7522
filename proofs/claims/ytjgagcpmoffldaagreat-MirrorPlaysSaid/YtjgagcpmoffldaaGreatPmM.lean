/- Layer 7 (great seat): do both mirrors look the same? -/
import Derived.Test.YtjgagcpmoffldaaGreatPmL
namespace Go.Proofs.YtjgagcpmoffldaaGreat
open Go Go.Xr Go.RowKit
set_option linter.unusedVariables false
set_option linter.unusedSimpArgs false
attribute [local go_sem] neq_u64 mt_eqg
section
variable {w w' w0 : World} {lc lx : List Res} {pbs qbs : List Nat} {m y db ib : Nat} {s : Sys} {M M' : MS} {d x : Bool → Nat} {FF GG : Bool → List Nat}
set_option maxRecDepth 20000 in
theorem pstands_nil (w : World) : Calls Tryz.prog 9 #[.pointer none, .pointer none] w fun e w' => e = .returned (.bool true) ∧ w' = w := by
  go_enter Tryz.func9, Tryz.ntmps9
  go_wp2_with fail
  go_ret
  exact ⟨rfl, rfl⟩
set_option maxRecDepth 20000 in
set_option maxHeartbeats 2000000 in
theorem pstands_any (hc : Held w (lc ++ mirC pbs m d FF M)) (hx : Held w (lx ++ mirX qbs y db ib x GG M)) (ok : SysOk M.s) :
    Calls Tryz.prog 9 #[.pointer (some ⟨m, 0, none⟩), .pointer (some ⟨y, 0, none⟩)] w fun e w' => e = .returned (.bool true) ∧ Fr [] w w' := by
  have HG := hid fun (w1 : World) (f : Fr [] w w1) => mgen_any (hc.keep0 f)
  have HL := hid fun (w1 : World) (f : Fr [] w w1) => mlen_any (hc.keep0 f) ok
  have HLx := hid fun (w1 : World) (f : Fr [] w w1) => plen_any (hx.keep0 f) ok
  have HA := hid fun (w1 : World) (f : Fr [] w w1) => mcur_any (hc.keep0 f)
  have HI := hid fun (w1 : World) (f : Fr [] w w1) => pis (hx.keep0 f)
  have HB := hid fun (w1 : World) (f : Fr [] w w1) => (xir_blk (hx.keep0 f)).cell 2
  have HB2 : Hid (∀ w1, Fr [] w w1 → w1.cell? ⟨y, 2, none⟩ = some (W64 M.g)) := HB
  have f0 : Fr [] w w.drew := (Fr.refl [] w).drew
  have F0 := hid f0
  have b0 := HB2.out _ f0
  generalize (M.s.len false : Int) - 1 = n at *
  generalize M.g = g at *
  generalize M.c0 = c0 at *
  generalize M.c1 = c1 at *
  clear hc hx ok HB f0
  go_enter Tryz.func9, Tryz.ntmps9
  go_wp2_with fail
  refine wp_region_D (fun w' => w'.cell? ⟨y, 2, none⟩ = some (W64 g)) false [] (by kernel_rfl) ?_
  refine WD.pure [0, 1, 2, 3] (by kernel_rfl) b0 ?_
  simp only [pick, List.toList_toArray, List.map_cons, List.map_nil, List.getD_cons_succ, List.getD_cons_zero]
  repeat (first | (refine quiet_load_1R (by rfl) _ _ rfl rfl (W64 g) (fun wq h => by first|exact h|(rw [h];exact b0)) _ Tryz.underlying55 rfl ?_; simp only [World.size_alloc, World.size_drew, Act.put, List.setIfInBounds_toArray, List.set_cons_succ, List.set_cons_zero]) | go_big_quiet_step (fail))
  refine wpQuiet_nil ?_
  refine WD.free [5, 6, 7] (by kernel_rfl) b0 ?_
  simp only [pick, List.toList_toArray, List.map_cons, List.map_nil, List.getD_cons_succ, List.getD_cons_zero]
  repeat (first | (refine quiet_load_1R (by rfl) _ _ rfl rfl (W64 g) (fun wq h => by first|exact h|(rw [h];exact b0)) _ Tryz.underlying55 rfl ?_; simp only [World.size_alloc, World.size_drew, Act.put, List.setIfInBounds_toArray, List.set_cons_succ, List.set_cons_zero]) | go_big_quiet_step (fail))
  refine wpQuiet_nil ?_
  refine WD.held [8] (by kernel_rfl) b0 ?_
  simp only [pick, List.toList_toArray, List.map_cons, List.map_nil, List.getD_cons_succ, List.getD_cons_zero]
  repeat (first | (refine quiet_load_1R (by rfl) _ _ rfl rfl (W64 g) (fun wq h => by first|exact h|(rw [h];exact b0)) _ Tryz.underlying55 rfl ?_; simp only [World.size_alloc, World.size_drew, Act.put, List.setIfInBounds_toArray, List.set_cons_succ, List.set_cons_zero]) | go_big_quiet_step (fail))
  refine wpQuiet_nil ?_
  refine WD.eff 4 (by kernel_rfl) ?_
  simp only [pick, List.toList_toArray, List.map_cons, List.map_nil, List.getD_cons_succ, List.getD_cons_zero]
  go_wp2_with (go_at_call 22; refine (HG.out _ F0.out).mono ?_; rintro e w1 ⟨rfl, rfl⟩)
  try refine wpList_nil ?_
  refine AfterD.on b0 (by kernel_rfl) ?_
  try simp only [World.size_alloc, World.size_drew, Act.put, List.setIfInBounds_toArray, List.set_cons_succ, List.set_cons_zero]
  refine WD.pure [9, 10, 11, 12] (by kernel_rfl) b0 ?_
  simp only [pick, List.toList_toArray, List.map_cons, List.map_nil, List.getD_cons_succ, List.getD_cons_zero]
  repeat (first | (refine quiet_load_1R (by rfl) _ _ rfl rfl (W64 g) (fun wq h => by first|exact h|(rw [h];exact b0)) _ Tryz.underlying55 rfl ?_; simp only [World.size_alloc, World.size_drew, Act.put, List.setIfInBounds_toArray, List.set_cons_succ, List.set_cons_zero]) | go_big_quiet_step (fail))
  refine wpQuiet_nil ?_
  refine WD.free [14] (by kernel_rfl) b0 ?_
  simp only [pick, List.toList_toArray, List.map_cons, List.map_nil, List.getD_cons_succ, List.getD_cons_zero]
  repeat (first | (refine quiet_load_1R (by rfl) _ _ rfl rfl (W64 g) (fun wq h => by first|exact h|(rw [h];exact b0)) _ Tryz.underlying55 rfl ?_; simp only [World.size_alloc, World.size_drew, Act.put, List.setIfInBounds_toArray, List.set_cons_succ, List.set_cons_zero]) | go_big_quiet_step (fail))
  refine wpQuiet_nil ?_
  refine WD.eff 13 (by kernel_rfl) ?_
  simp only [pick, List.toList_toArray, List.map_cons, List.map_nil, List.getD_cons_succ, List.getD_cons_zero]
  go_wp2_with (go_at_call 23; refine (HL.out _ F0.out).mono ?_; rintro e w1 ⟨rfl, rfl⟩)
  try refine wpList_nil ?_
  refine AfterD.on b0 (by kernel_rfl) ?_
  try simp only [World.size_alloc, World.size_drew, Act.put, List.setIfInBounds_toArray, List.set_cons_succ, List.set_cons_zero]
  refine WD.eff 15 (by kernel_rfl) ?_
  simp only [pick, List.toList_toArray, List.map_cons, List.map_nil, List.getD_cons_succ, List.getD_cons_zero]
  go_wp2_with (go_at_call 30; refine (HLx.out _ F0.out).mono ?_; rintro e w1 ⟨rfl, rfl⟩)
  try refine wpList_nil ?_
  refine AfterD.on b0 (by kernel_rfl) ?_
  try simp only [World.size_alloc, World.size_drew, Act.put, List.setIfInBounds_toArray, List.set_cons_succ, List.set_cons_zero]
  refine WD.pure [16, 17] (by kernel_rfl) b0 ?_
  simp only [pick, List.toList_toArray, List.map_cons, List.map_nil, List.getD_cons_succ, List.getD_cons_zero]
  repeat (first | (refine quiet_load_1R (by rfl) _ _ rfl rfl (W64 g) (fun wq h => by first|exact h|(rw [h];exact b0)) _ Tryz.underlying55 rfl ?_; simp only [World.size_alloc, World.size_drew, Act.put, List.setIfInBounds_toArray, List.set_cons_succ, List.set_cons_zero]) | go_big_quiet_step (fail))
  refine wpQuiet_nil ?_
  refine WD.done (by kernel_rfl) ?_
  go_wp2_with (go_at_call 31; refine (HA.out _ F0.out).mono ?_; rintro e w5 ⟨rfl, f5⟩; have F5 := hid (F0.out.trans' f5); obtain ⟨v0, v1, i1, i2, i3, _, _, q0, q1⟩ := HI.out _ F5.out)
  cases c0 with
  | true =>
    go_wp2_with fail
    go_ret
    exact ⟨by simp, F5.out⟩
  | false =>
    go_wp2_with fail
    go_ret
    exact ⟨by simp, F5.out⟩
end
end Go.Proofs.YtjgagcpmoffldaaGreat
