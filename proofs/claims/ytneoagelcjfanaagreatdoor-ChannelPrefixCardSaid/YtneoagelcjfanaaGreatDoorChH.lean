/- Layer 22: the deferred closure of Take. -/
import Derived.Test.YtneoagelcjfanaaGreatDoorChG
import Derived.Test.YtneoagelcjfanaaGreatDoorWt
import Derived.RecoverIn
namespace Go.Proofs.YtneoagelcjfanaaGreatDoor.chn
open Go Go.Xr Go.RowKit Go.Proofs.YtneoagelcjfanaaGreatDoor Go.Proofs.YtneoagelcjfanaaGreatDoor.rcd
set_option linter.unusedVariables false
set_option linter.unusedSimpArgs false
section
variable {w : World} {cb s o xb b r4 r5 : Nat} {H T z4 : ByteArray} {z5 : Int}
set_option maxRecDepth 20000 in
set_option maxHeartbeats 4000000 in
theorem take1_idle (w : World) (cap : Array Value) (hcap : cap.size = 4) :
    CallsDIn Fence.wide 1 Tryz.prog 33 cap .returning w fun e u' w' => e = .returned (.tuple #[]) ∧ u' = .returning ∧ w' = w := by
  obtain ⟨a0, a1, a2, a3, rfl⟩ : ∃ a0 a1 a2 a3, cap = #[a0, a1, a2, a3] := by
    rcases cap with ⟨l⟩
    match l, hcap with
    | [a0, a1, a2, a3], _ => exact ⟨a0, a1, a2, a3, rfl⟩
  refine callsDIn_of_wpSIn Tryz.func33 rfl trivial fun c₀ cs hu => ?_
  apply wpSIn_seq
  apply wpSIn_region
  simp [wpOpsSIn, go_sem, recoverD, hu, Tryz.ntmps33, Exit.thenS]
  refine wpSIn_of_wpIn rfl ((wpIn_wide (n := 1)).2 ?_)
  rw [show #[a0, a1, a2, a3] ++ ((Array.replicate 23 undef).setIfInBounds 3 Value.nilIface).setIfInBounds 0 Value.nilIface = #[a0, a1, a2, a3, .nilIface, undef, undef, .nilIface, undef, undef, undef, undef, undef, undef, undef, undef, undef, undef, undef, undef, undef, undef, undef, undef, undef, undef, undef] from by kernel_rfl]
  go_wp2_with fail
  refine ⟨rfl, .returning, by rw [← hu], .tuple #[], results_none rfl _ _ _, rfl, rfl, rfl⟩
theorem take1_caught {S : List Nat} {w0 : World} (c : Int) (hF : Fr S w0 w) (hS : cb ∈ S) (h0 : w0.heap.size ≤ r4 ∧ w0.heap.size ≤ r5 ∧ w0.heap.size ≤ b) (hx : w.cell? ⟨xb, 0, none⟩ = some (.pointer (some ⟨cb, 0, none⟩))) (hc : Blk w cb (chL s o H false)) (hb : BD w b T) (h4 : Blk w r4 [.string z4]) (h5 : Blk w r5 [.int .i64 z5])
    (hlt : xb < b ∧ cb < b ∧ r4 < b ∧ r5 < b) (hne : xb ≠ cb ∧ xb ≠ r4 ∧ xb ≠ r5 ∧ cb ≠ r4 ∧ cb ≠ r5 ∧ r4 ≠ r5) :
    CallsDIn Fence.wide 1 Tryz.prog 33 #[.pointer (some ⟨xb, 0, none⟩), .pointer (some ⟨b, 0, none⟩), .pointer (some ⟨r4, 0, none⟩), .pointer (some ⟨r5, 0, none⟩)] (.panicking [{ v := refV c, recovered := false }]) w
      fun e u' w' => e = .returned (.tuple #[]) ∧ u' = .panicking [{ v := refV c, recovered := true }] ∧ Fr S w0 w' ∧ (∀ k, k < b → k ∉ [cb, r4, r5] → w'.heap[k]? = w.heap[k]?) ∧ Blk w' cb (chL s o ⟨#[]⟩ true) ∧ Blk w' r4 [.string T] ∧ Blk w' r5 [.int .i64 c] := by
  refine callsDIn_of_wpSIn Tryz.func33 rfl trivial fun c₀ cs hu => ?_
  apply wpSIn_seq
  apply wpSIn_region
  simp [wpOpsSIn, go_sem, recoverD, hu, Tryz.ntmps33, Exit.thenS]
  refine wpSIn_of_wpIn rfl ((wpIn_wide (n := 1)).2 ?_)
  unfold refV
  rw [show #[Value.pointer (some { block := xb, off := 0 }), Value.pointer (some { block := b, off := 0 }), Value.pointer (some { block := r4, off := 0 }), Value.pointer (some { block := r5, off := 0 })] ++ ((Array.replicate 23 undef).setIfInBounds 3 (Value.iface 80 (.agg #[.int .i64 c]))).setIfInBounds 0 (Value.iface 80 (.agg #[.int .i64 c])) = #[Value.pointer (some { block := xb, off := 0 }), Value.pointer (some { block := b, off := 0 }), Value.pointer (some { block := r4, off := 0 }), Value.pointer (some { block := r5, off := 0 }), .iface 80 (.agg #[.int .i64 c]), undef, undef, .iface 80 (.agg #[.int .i64 c]), undef, undef, undef, undef, undef, undef, undef, undef, undef, undef, undef, undef, undef, undef, undef, undef, undef, undef, undef] from by kernel_rfl]
  have ta : ∀ W : World, (Instr.typeAssert (.iface 80 (.agg #[.int .i64 c])) 20 80 true).run Tryz.prog W = .ok (.tuple #[.agg #[.int .i64 c], .bool true]) W := fun W => by kernel_rfl
  obtain ⟨N, hN⟩ : ∃ N, w.heap.size = N := ⟨_, rfl⟩
  have f1 : Fr [] w (w.alloc (.cells #[.int .i64 c] 80)) := (Fr.refl [] w).alloc _
  have n1 : (w.alloc (.cells #[.int .i64 c] 80)).heap[N]? = some (.cells #[.int .i64 c] 80) := by rw [← hN]; exact World.alloc_heap_new _ _
  have NB1 := hid (show Blk (w.alloc (.cells #[.int .i64 c] 80)) N [.int .i64 c] by rw [← hN]; exact Blk.allocArr w _ _)
  have x1 := f1.cell_some hx
  have c1 := hid (f1.blk hc (by simp))
  have B1 := hid (hb.keep f1 (by simp))
  have H4 := hid (f1.blk h4 (by simp))
  have H5 := hid (f1.blk h5 (by simp))
  have F1 := hid f1
  have HN := hid (show b < N ∧ cb < N ∧ r4 < N ∧ r5 < N by have := hb.lt; omega)
  have N1 := hid n1
  clear hb hc h4 h5 hx f1 n1
  go_wp2_with (first
   | (refine wpList_put rfl _ _ _ rfl rfl (.bool true) rfl rfl c1.out (by simp [chL]) (by kernel_rfl) ?_; intro w4 f4 b4 hs4; simp only [World.size_alloc, World.size_drew, Act.put, List.setIfInBounds_toArray, List.set_cons_succ, List.set_cons_zero])
   | (refine wpList_put rfl _ _ _ rfl rfl (.string ⟨#[]⟩) rfl rfl b4 (by simp [chL]) (by kernel_rfl) ?_; intro w5 f5 b5 hs5; simp only [World.size_alloc, World.size_drew, Act.put, List.setIfInBounds_toArray, List.set_cons_succ, List.set_cons_zero]))
  have B5 := hid ((B1.out.keep f4 (by simp; omega)).keep f5 (by simp; omega))
  have R4 := hid (f5.blk (f4.blk H4.out (by simp; omega)) (by simp; omega))
  have R5 := hid (f5.blk (f4.blk H5.out (by simp; omega)) (by simp; omega))
  have n5 : w5.heap[N]? = some (.cells #[.int .i64 c] 80) := by
    have l1 : N < (w.alloc (.cells #[.int .i64 c] 80)).heap.size := (Array.getElem?_eq_some_iff.1 N1.out).1
    rw [f5.block N (by omega) (by simp; have := HN.out; omega), f4.block N l1 (by simp; have := HN.out; omega)]
    exact N1.out
  have F5 := hid (((F1.out.mono (T := [cb]) (by simp)).trans' f4).trans' f5)
  have NB := hid (f5.blk (f4.blk NB1.out (by simp; have := HN.out; omega)) (by simp; have := HN.out; omega))
  have C5 := hid b5
  have N5 := hid n5
  clear x1 f4 f5 b4 b5 hs4 hs5 n5 B1 H4 H5 F1 N1 c1
  have hs0 : w5.drew.cell? ⟨N, 0, none⟩ = some (.int .i64 c) := NB.out.drew.cell 0
  refine wp_region_D (fun w' => w'.cell? ⟨N, 0, none⟩ = some (.int .i64 c)) true [] (by kernel_rfl) ?_
  refine WD.free [1] (by kernel_rfl) hs0 ?_
  simp only [pick, List.toList_toArray, List.map_cons, List.map_nil, List.getD_cons_succ, List.getD_cons_zero]
  repeat (first | (refine quiet_load_1S rfl _ _ rfl rfl (.int .i64 c) (fun w0 h => h) _ Tryz.underlying27 rfl ?_; simp only [World.size_alloc, World.size_drew, Act.put, List.setIfInBounds_toArray, List.set_cons_succ, List.set_cons_zero]) | go_big_quiet_step (fail))
  refine wpQuiet_nil ?_
  refine WD.held [2] (by kernel_rfl) hs0 ?_
  simp only [pick, List.toList_toArray, List.map_cons, List.map_nil, List.getD_cons_succ, List.getD_cons_zero]
  repeat (first | (refine quiet_load_1S rfl _ _ rfl rfl (.int .i64 c) (fun w0 h => h) _ Tryz.underlying27 rfl ?_; simp only [World.size_alloc, World.size_drew, Act.put, List.setIfInBounds_toArray, List.set_cons_succ, List.set_cons_zero]) | go_big_quiet_step (fail))
  refine wpQuiet_nil ?_
  refine WD.eff 0 (by kernel_rfl) ?_
  simp only [pick, List.toList_toArray, List.map_cons, List.map_nil, List.getD_cons_succ, List.getD_cons_zero]
  have B6 := B5.out.keep ((Fr.refl [] w5).drew) (by simp)
  go_wp2_with (first | (go_at_call 30; refine (bstr_any b T _ B6 (Nat.le_of_lt B6.lt)).mono ?_; rintro e w6 ⟨rfl, b6, f6⟩))
  have n6 : w6.heap[N]? = some (.cells #[.int .i64 c] 80) := f6.2 N _ N5.out (by simp; have := HN.out; omega) (by intro x fz h; cases h)
  have R4' := hid (R4.out.same (f6.1.block r4 (by omega)))
  have R5' := hid (R5.out.same (f6.1.block r5 (by omega)))
  have C6 := hid (C5.out.same (f6.1.block cb (by omega)))
  have hs1 : w6.cell? ⟨N, 0, none⟩ = some (.int .i64 c) := (show Blk w6 N [.int .i64 c] from NB.out.same (n6.trans N5.out.symm)).cell 0
  clear hs0 R4 R5
  try refine wpList_nil ?_
  refine AfterD.on hs1 (by kernel_rfl) ?_
  try simp only [World.size_alloc, World.size_drew, Act.put, List.setIfInBounds_toArray, List.set_cons_succ, List.set_cons_zero]
  refine WD.eff 3 (by kernel_rfl) ?_
  simp only [pick, List.toList_toArray, List.map_cons, List.map_nil, List.getD_cons_succ, List.getD_cons_zero]
  go_wp2_with (first
   | (refine wpList_put rfl _ _ _ rfl rfl (.string T) rfl rfl R4'.out (by simp) (by kernel_rfl) ?_; intro w7 f7 b7 hs7; simp only [World.size_alloc, World.size_drew, Act.put, List.setIfInBounds_toArray, List.set_cons_succ, List.set_cons_zero]))
  have hs2 : w7.cell? ⟨N, 0, none⟩ = some (.int .i64 c) := (f7.blk (show Blk w6 N [.int .i64 c] from NB.out.same (n6.trans N5.out.symm)) (by simp; have := HN.out; omega)).cell 0
  try refine wpList_nil ?_
  refine AfterD.on hs2 (by kernel_rfl) ?_
  try simp only [World.size_alloc, World.size_drew, Act.put, List.setIfInBounds_toArray, List.set_cons_succ, List.set_cons_zero]
  refine WD.eff 4 (by kernel_rfl) ?_
  simp only [pick, List.toList_toArray, List.map_cons, List.map_nil, List.getD_cons_succ, List.getD_cons_zero]
  go_wp2_with (first
   | (refine wpList_put rfl _ _ _ rfl rfl (.int .i64 c) rfl rfl (f7.blk R5'.out (by simp; omega)) (by simp) (by kernel_rfl) ?_; intro w8 f8 b8 hs8; simp only [World.size_alloc, World.size_drew, Act.put, List.setIfInBounds_toArray, List.set_cons_succ, List.set_cons_zero]))
  try refine wpList_nil ?_
  refine AfterD.end rfl (by kernel_rfl) ?_
  try simp only [World.size_alloc, World.size_drew, Act.put, List.setIfInBounds_toArray, List.set_cons_succ, List.set_cons_zero]
  refine WD.done (by kernel_rfl) ?_
  refine ⟨rfl, _, rfl, .tuple #[], results_none rfl _ _ _, rfl, rfl, ?_, ?_, ?_, ?_, ?_⟩
  · have g5 := Fr.trans hF F5.out (fun x hx => by simp at hx; subst hx; exact .inl hS)
    have g6 := Fr.bf (g5.drew) f6 h0.2.2
    have g7 := g6.trans f7 (fun x hx => by simp at hx; omega)
    exact g7.trans f8 (fun x hx => by simp at hx; omega)
  · intro k hk hn hn2 hn3
    have l5 : k < w.heap.size := by have := HN.out; omega
    have l6 : k < w5.heap.size := F5.out.lt l5
    have l6' : k < w6.heap.size := by have := f6.1.size; have : w5.drew.heap.size = w5.heap.size := rfl; omega
    rw [f8.block k (f7.lt l6') (by simp; omega), f7.block k l6' (by simp; omega), f6.1.block k hk]
    exact F5.out.block k l5 (by simp; omega)
  · exact f8.blk (f7.blk C6.out (by simp; omega)) (by simp; omega)
  · exact f8.blk b7 (by simp; omega)
  · exact b8
end
end Go.Proofs.YtneoagelcjfanaaGreatDoor.chn
