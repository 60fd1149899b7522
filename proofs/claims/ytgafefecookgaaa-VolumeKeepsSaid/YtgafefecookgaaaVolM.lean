/- Layer 8: Resync. -/
import Derived.Test.YtgafefecookgaaaVolL
namespace Go.Proofs.Ytgafefecookgaaa
open Go Go.Xr Go.RowKit
set_option linter.unusedVariables false
set_option linter.unusedSimpArgs false
/-- So many sectors were taken over. -/
def rsN (Ms : List MS) : Int := Ms.foldl (fun a M => IntKind.i64.wrap (a + (M.rs.2.1 : Int))) 0
theorem rsN_succ {Ms : List MS} {q : Nat} {M : MS} (h : Ms[q]? = some M) : rsN (Ms.take (q + 1)) = IntKind.i64.wrap (rsN (Ms.take q) + (M.rs.2.1 : Int)) := by
  unfold rsN
  rw [List.take_add_one, h]
  simp [List.foldl_append]
section
variable {w w' w0 : World} {l rs : List Res} {X : VX} {Ms : List MS} {wt : Int} {k m a : Nat} {M : MS}
theorem vs_at (h : VA w0 rs w l X Ms wt) (hk : Ms[k]? = some M) (hm : X.ms[k]? = some m) (ok : SysOk M.s) (ht : M.s.T + 2 * M.s.len (!M.c0) < 998800) :
    Calls Try.prog 39 #[.pointer (some ⟨m, 0, none⟩)] w fun e w' => e = .returned (.tuple #[.int .i64 (M.rs.2.1 : Int), .int .i64 M.rs.2.2]) ∧ VA w0 rs w' l X (Ms.set k M.rs.1) wt := by
  obtain ⟨m2, d, FF, l', em, ed, hh, hback⟩ := h.mir hk
  obtain rfl : m = m2 := Option.some.inj (hm.symm.trans em)
  refine (mresync_any hh ok ht).mono ?_
  rintro e w' ⟨rfl, FF', ev⟩
  exact ⟨rfl, hback _ _ _ ev⟩
set_option maxRecDepth 20000 in
set_option maxHeartbeats 1000000 in
theorem vrs1_any {nb : Nat} {t : Int} (h : VA w0 rs w (Res.blk nb [.int .i64 t] :: l) X Ms wt) (hk : Ms[k]? = some M) (hm : X.ms[k]? = some m) (ok : SysOk M.s) (ht : M.s.T + 2 * M.s.len (!M.c0) < 998800) :
    Calls Try.prog 38 #[.pointer (some ⟨m, 0, none⟩), .pointer (some ⟨nb, 0, none⟩)] w fun e w' => e = .returned (.int .i64 M.rs.2.2) ∧ VA w0 rs w' (Res.blk nb [.int .i64 (IntKind.i64.wrap (t + (M.rs.2.1 : Int)))] :: l) X (Ms.set k M.rs.1) wt := by
  have HS := hid (vs_at h hk hm ok ht)
  obtain ⟨d, hd⟩ : ∃ d : Int, (M.rs.2.1 : Int) = d := ⟨_, rfl⟩
  rw [hd] at HS ⊢
  obtain ⟨s, hs⟩ : ∃ s : Int, IntKind.i64.wrap (t + d) = s := ⟨_, rfl⟩
  have hadd : ∀ ty, binOp .add ty (.int .i64 t) (.int .i64 d) = pure (.int .i64 s) := fun ty => by
    show pure (Value.int .i64 (IntKind.i64.wrap (t + d))) = _
    rw [hs]
  rw [hs]
  generalize M.rs.2.2 = cc at *
  generalize Ms.set k M.rs.1 = Ms' at *
  clear h hk hm ok ht hd hs
  go_enter Try.func38, Try.ntmps38
  go_wp2_with (first
    | (go_at_call 39; refine HS.out.mono ?_; rintro r w5 ⟨rfl, v5⟩; have V5 := hid v5; have b5 : Blk w5 nb [.int .i64 t] := v5.held.blkAt 0 rfl; have k5 : w5.cell? ⟨nb, 0, none⟩ = some (.int .i64 t) := b5.cell 0; clear v5)
    | (refine wpList_put rfl _ _ _ rfl rfl (.int .i64 s) rfl rfl b5 (by simp) (by kernel_rfl) ?_; intro w7 f7 b7 hs7; simp only [World.size_alloc, World.size_drew, Act.put, List.setIfInBounds_toArray, List.set_cons_succ, List.set_cons_zero]))
  go_ret
  exact ⟨rfl, V5.out.ctx 0 rfl f7 (fun b hb => .inl hb) (Res.On.blk b7) (fun b hb => .inl hb)⟩
set_option maxRecDepth 20000 in
set_option maxHeartbeats 1000000 in
theorem vresync_any (h : VA w0 rs w l X Ms wt) (o : VOk X) (ok : ∀ M ∈ Ms, SysOk M.s) (ht : ∀ M ∈ Ms, M.s.T + 2 * M.s.len (!M.c0) < 998800) :
    Calls Try.prog 16 #[.pointer (some ⟨X.vb, 0, none⟩)] w fun e w' => e = .returned (.tuple #[.int .i64 (rsN Ms), .int .i64 (firstC (fun M => M.rs.2.2) Ms)]) ∧ VA w0 rs w' l X (Ms.map fun M => M.rs.1) wt := by
  have HA := hid fun (w1 : World) (nb : Nat) (h1 : VA w0 rs w1 (Res.blk nb [.int .i64 0] :: l) X Ms wt) => vall_r (nb := nb) (J := fun q => Res.blk nb [.int .i64 (rsN (Ms.take q))] :: l) (g := fun M => M.rs.1) (F := fun M => M.rs.2.2) h1 o (fun q M m w1 hM hm hv => by
    have hmem := List.mem_of_getElem? hM
    have := vrs1_any hv (upTo_get _ hM) hm (ok M hmem) (ht M hmem)
    rw [upTo_set (fun M => M.rs.1) hM, ← rsN_succ hM] at this
    exact this)
  have hE := hid fun (o1 : Obj) (h1 : o1 = .cells #[.int .i64 0] 3) => (show VA w0 rs (w.alloc o1) (Res.blk w.heap.size [.int .i64 0] :: l) X Ms wt from by
    subst h1
    exact h.new ((Fr.refl [] w).alloc _) (Res.On.blk (Blk.alloc w [Value.int .i64 0] 3)) (fun b hb => by simp [Res.blk] at hb; omega))
  rw [List.take_length] at HA
  generalize rsN Ms = tot at *
  generalize firstC (fun M => M.rs.2.2) Ms = cc at *
  clear h ok ht
  go_enter Try.func16, Try.ntmps16
  go_wp2_with (go_at_call 37; refine (HA.out _ _ (hE.out _ rfl)).mono ?_; rintro r w5 ⟨rfl, v5⟩; have k5 : w5.cell? ⟨w.heap.size, 0, none⟩ = some (.int .i64 tot) := (v5.held.blkAt 0 rfl).cell 0)
  go_ret2
  exact ⟨rfl, v5.less⟩
end
end Go.Proofs.Ytgafefecookgaaa
