/- Layer 6, sector: Tamper. -/
import Derived.Test.YtflapddkeeiieaaSecQ
import Derived.Test.YtflapddkeeiieaaDet
import Derived.Test.YtflapddkeeiieaaRws
namespace Go.Xr
open Go Go.RowKit
/-- '(*[n]T)(b)', in a region that draws its order. -/
theorem quiet_arrayAt {P : Program} {ops : Array Oper} {S : World → Prop} {a : Act} {o : Oper} {rest : List Oper} {Q' : Act → Prop} (hg : Region.wanted o (yielded ops a.tmps) = true) (t : TypeId) (x : Operand) (ho : o.op = .sliceToArrayPointer t x) (n : Nat) (e : TypeId) (hu : P.underlying t = some (.array n e)) {ad : Option Addr} {l c : Nat} (hx : a.eval x = .slice ad l c) (hl : n ≤ l)
    (h : wpQuiet P ops S Q' rest (a.put o.dst (.pointer ad))) : wpQuiet P ops S Q' (o :: rest) a := by
  have hn : ¬ l < n := by omega
  refine wpQuiet_step fun K hK => ?_
  rw [if_pos hg]
  refine ⟨.pointer ad, fun w hC => ?_, hK _ h⟩
  unfold Oper.quietAt execOp
  simp only [ho, hx, Instr.arrayAt, Sem.run_bind, run_underlying hu, Result.andThen_ok, hn, if_false, Sem.run_pure]
  exact ⟨rfl, rfl⟩
end Go.Xr
namespace Go.Proofs.Ytflapddkeeiieaa
open Go Go.Xr Go.RowKit
set_option linter.unusedVariables false
set_option linter.unusedSimpArgs false
/-- What a Tamper answers. -/
def tamC (D : SD) (pw : Option (Nat × Nat)) (i : Int) (s : ByteArray) : Int := if ableN D pw = 60 then 60 else if 0 < D.loose.length then 3 else atN D pw i (some s)
set_option maxHeartbeats 1000000 in
theorem tamper_err {w : World} {d : Nat} {D : SD} {pw : Option (Nat × Nat)} {F : List Nat} (h : Rep w d D pw F) (hp : pwOk w pw) (i : Int) (hi1 : -9223372036854775808 ≤ i) (hi2 : i ≤ 9223372036854775807) (s : ByteArray) (hs : s.size ≤ 9223372036854775807) (hll : D.loose.length < 1000000) (x : Int) (hx : tamC D pw i s = x) (h0 : x ≠ 0) :
    Calls Try.prog 32 #[.pointer (some ⟨d, 0, none⟩), .int .i64 i, .string s] w fun e w' => e = .returned (.int .i64 x) ∧ Fr [] w w' := by
  have hab := able_any h hp
  have hat2 : ∀ w1 : World, Fr [] w w1 → ∀ v, txt w1 v (some s) → Calls Try.prog 38 #[.pointer (some ⟨d, 0, none⟩), .int .i64 i, v] w1 fun e w' => e = .returned (.int .i64 (atN D pw i (some s))) ∧ w1 = w' := fun w1 f v hv => at_any (h.keep f (by simp)) (hp.keep f (by simp)) i hi1 hi2 hv
  obtain ⟨kc, nc, lv, tv, k, n, L, T, hF, H, h1, h2⟩ := h.open
  have hb : Blk w d [.slice (some ⟨k, 0, none⟩) D.kept.length kc, .slice (some ⟨n, 0, none⟩) D.now.length nc, lv, tv, .bool D.dead, pwv pw] := H.blkAt 0 rfl
  have hl := (H.ownAt 3 rfl : Xr.Own w 513 lv D.loose.length (wlc D.loose) L)
  obtain ⟨la, lc, rfl⟩ := hl.isSlice
  have k2 := hb.cell 2
  unfold tamC at hx
  obtain ⟨ln, hln⟩ : ∃ ln, D.loose.length = ln := ⟨_, rfl⟩
  rw [hln] at hx hll k2
  clear h hp hF H h1 h2 hb hl hln
  rcases ableN_cases D pw with e0 | e0
  · rw [e0] at hab hx
    rw [if_neg (by decide)] at hx
    by_cases hl0 : 0 < ln
    · have d1 : decide ((0 : Int) < (ln : Int)) = true := by simp; omega
      have d1' : (0 : Int) < (ln : Int) := by omega
      rw [if_pos hl0] at hx
      subst hx
      clear hat2
      go_enter Try.func32, Try.ntmps32
      go_wp2_with (go_at_call 35; refine hab.mono ?_; rintro e w' ⟨rfl, hw⟩; subst hw)
      go_ret
      exact ⟨rfl, Fr.refl _ _⟩
    · have d1 : decide ((0 : Int) < (ln : Int)) = false := by simp; omega
      have d1' : ¬ ((0 : Int) < (ln : Int)) := by omega
      rw [if_neg hl0] at hx
      rw [hx] at hat2
      have g1 : (x == 0) = false := by simpa using h0
      have g2 : decide (x = 0) = false := by simpa using h0
      clear hx e0
      go_enter Try.func32, Try.ntmps32
      go_wp2_with (first
        | (go_at_call 35; refine hab.mono ?_; rintro e w' ⟨rfl, hw⟩; subst hw)
        | (go_at_call 38; refine (hat2 _ ((Fr.refl _ _).alloc _) _ ⟨_, _, rfl, by simp, hs⟩).mono ?_; rintro e w' ⟨rfl, hw⟩; subst hw; clear hat2))
      go_ret
      exact ⟨rfl, (Fr.refl _ _).alloc _⟩
  · rw [e0] at hab hx
    rw [if_pos rfl] at hx
    subst hx
    clear hat2 k2
    go_enter Try.func32, Try.ntmps32
    go_wp2_with (go_at_call 35; refine hab.mono ?_; rintro e w' ⟨rfl, hw⟩; subst hw)
    go_ret
    exact ⟨rfl, Fr.refl _ _⟩
/-- A row of long elements: one is written. -/
theorem own_splice {w : World} {size : Nat} {v : Value} {n : Nat} {xs : List Value} {b : Nat} (h : Xr.Own w size v n xs (some b)) : ∃ cs, Blk w b cs ∧ n * size ≤ cs.length ∧ cs.take (n * size) = xs ∧
    ∀ (off : Nat) (vs : List Value) (w' : World), off + vs.length ≤ n * size → Blk w' b (splice cs off vs) → Xr.Own w' size v n (splice xs off vs) (some b) := by
  have hx := h.1
  rcases h.2 with ⟨_, _, h1⟩ | ⟨b', cap, cs, hB, hv, h1, h2, h3, h4, h5⟩
  · cases h1
  · cases hB
    have hle : n * size ≤ cap * size := Nat.mul_le_mul_right _ h1
    refine ⟨cs, h3, by omega, h5, fun off vs w' ho hb => ⟨by rw [splice_length _ _ _ (by omega)]; exact hx, .inr ⟨b, cap, _, rfl, hv, h1, h2, hb, by rw [splice_length _ _ _ (by omega)]; exact h4, by rw [take_splice _ _ _ _ ho, h5]⟩⟩⟩
theorem secT : AggT Try.prog 73 512 := ⟨_, Try.underlying73, rfl, rfl⟩
set_option maxHeartbeats 1000000 in
set_option maxRecDepth 20000 in
theorem tamper_ok {w : World} {d : Nat} {D : SD} {pw : Option (Nat × Nat)} {F : List Nat} (h : Rep w d D pw F) (hp : pwOk w pw) (i : Nat) (hi : i < D.kept.length) (s : ByteArray) (hs : s.size = 512) (ha : ableN D pw = 0) (hl0 : D.loose = []) :
    Calls Try.prog 32 #[.pointer (some ⟨d, 0, none⟩), .int .i64 i, .string s] w fun e w' => e = .returned (.int .i64 0) ∧ Rep w' d { D with kept := D.kept.set i s.data.toList, now := D.now.set i s.data.toList } pw F ∧ Fr F w w' := by
  have hat : atN D pw i (some s) = 0 := by
    have e1 : outB D i = false := by simp [outB]; omega
    have e2 : badT (some s) = false := by simp [badT, hs]
    simp [atN, ha, e1, e2]
  have hle := h.good.le
  have hab := able_any h hp
  rw [ha] at hab
  have hat2 : ∀ w1 : World, Fr [] w w1 → ∀ v, txt w1 v (some s) → Calls Try.prog 38 #[.pointer (some ⟨d, 0, none⟩), .int .i64 i, v] w1 fun e w' => e = .returned (.int .i64 0) ∧ w1 = w' := by
    intro w1 f v hv
    have := at_any (h.keep f (by simp)) (hp.keep f (by simp)) i (by omega) (by omega) hv
    rw [hat] at this
    exact this
  have hdl : s.data.toList.length = 512 := by rw [Array.length_toList]; exact hs
  have Hdl := hid hdl
  have Hsc := hid (show 512 ≤ s.size by omega)
  have Hsl := hid (show s.size ≤ 9223372036854775807 by omega)
  have Hg : Hid (Good { D with kept := D.kept.set i s.data.toList, now := D.now.set i s.data.toList }) := by
    refine hid ⟨by simp [h.good.same], by simp; exact h.good.pos, by simp; exact h.good.le, ?_, ?_, ?_⟩
    · intro x hx
      rcases List.mem_or_eq_of_mem_set hx with hx | rfl
      · exact h.good.k512 x hx
      · exact hdl
    · intro x hx
      rcases List.mem_or_eq_of_mem_set hx with hx | rfl
      · exact h.good.n512 x hx
      · exact hdl
    · intro p hp
      rw [hl0] at hp
      simp at hp
  have Hk5 := hid h.good.k512
  have Hn5 := hid h.good.n512
  have Hsame := hid h.good.same
  obtain ⟨kc, nc, lv, tv, k, n, L, T, hF, H, h1, h2⟩ := h.open
  have hl := (H.ownAt 3 rfl : Xr.Own w 513 lv D.loose.length (wlc D.loose) L)
  obtain ⟨la, lc, hlv⟩ := hl.isSlice
  rw [hl0] at hlv
  have H0 := hid H
  have HF := hid hF
  obtain ⟨kl, hkl⟩ : ∃ kl, kl = D.kept.length := ⟨_, rfl⟩
  have Hkl := hid hkl
  have hb : Blk w d [.slice (some ⟨k, 0, none⟩) kl kc, .slice (some ⟨n, 0, none⟩) kl nc, .slice la 0 lc, tv, .bool D.dead, pwv pw] := by
    have := (H.blkAt 0 rfl : Blk w d [.slice (some ⟨k, 0, none⟩) D.kept.length kc, .slice (some ⟨n, 0, none⟩) D.now.length nc, lv, tv, .bool D.dead, pwv pw])
    rw [← Hsame.out, ← hkl, hlv] at this
    exact this
  have ok0 : Xr.Own w 512 (.slice (some ⟨k, 0, none⟩) kl kc) kl (fl D.kept) (some k) := by rw [hkl]; exact H.ownAt 1 rfl
  have on0 : Xr.Own w 512 (.slice (some ⟨n, 0, none⟩) kl nc) kl (fl D.now) (some n) := by rw [hkl, Hsame.out]; exact H.ownAt 2 rfl
  rw [← hkl] at hi
  have Hkn := hid (show k ≠ n ∧ d ≠ k ∧ d ≠ n from by
    have := H.apart
    simp [parts, Res.blk, Res.own] at this
    simp [this])
  have k2 := hb.cell 2
  have Hb := hid hb
  have Ok := hid ok0
  have On := hid on0
  have Hi := hid hi
  have hi' : (i : Int) < (kl : Int) := by omega
  clear h hp hF H h1 h2 hb hl hat hdl hlv hle hkl ha hs ok0 on0 hl0 hi
  go_enter Try.func32, Try.ntmps32
  go_wp2_with (first
    | (go_at_call 35; refine hab.mono ?_; rintro e w' ⟨rfl, hw⟩; subst hw)
    | (go_at_call 38; refine (hat2 _ ((Fr.refl _ _).alloc _) _ ⟨_, _, rfl, by simp, Hsl.out⟩).mono ?_; rintro e w1 ⟨rfl, hw⟩; have f1 : Fr [] w w1 := by (rw [← hw]; exact (Fr.refl _ _).alloc _)
       clear hat2 hw hab k2; have b1 := f1.blk Hb.out (by simp)))
  have Ok1 := hid (Ok.out.keep f1 (by simp))
  have On1 := hid (On.out.keep f1 (by simp))
  obtain ⟨kcs, y1, y2, y3, y4⟩ := own_splice Ok1.out
  have Y3 := hid y3
  have Y4 := hid y4
  clear y3 y4
  refine wp_region_D (fun w' => Blk w' d [.slice (some ⟨k, 0, none⟩) kl kc, .slice (some ⟨n, 0, none⟩) kl nc, .slice la 0 lc, tv, .bool D.dead, pwv pw]) true [1006] (by kernel_rfl) ?_
  refine WD.pure [5] (by kernel_rfl) b1.drew ?_
  simp only [pick, List.toList_toArray, List.map_cons, List.map_nil, List.getD_cons_succ, List.getD_cons_zero]
  repeat (first | (refine quiet_load_1R (by rfl) _ _ rfl rfl (.slice (some ⟨k, 0, none⟩) kl kc) (fun w0 h => h.cell 0) _ Try.underlying67 rfl ?_; simp only [World.size_alloc, World.size_drew, Act.put, List.setIfInBounds_toArray, List.set_cons_succ, List.set_cons_zero]) | (refine quiet_arrayAt (by rfl) _ _ rfl 512 _ Try.underlying73 rfl Hsc.out ?_; simp only [World.size_alloc, World.size_drew, Act.put, List.setIfInBounds_toArray, List.set_cons_succ, List.set_cons_zero]) | (refine quiet_load_ag rfl _ _ rfl rfl (bv s.data.toList) hb2 secT (by rw [bv_length]; exact Hdl.out) (by rw [List.drop_zero, List.take_append_of_le_length (by rw [bv_length, Hdl.out]; exact Nat.le_refl _), List.take_of_length_le (by rw [bv_length, Hdl.out]; exact Nat.le_refl _)]) ?_; simp only [World.size_alloc, World.size_drew, Act.put, List.setIfInBounds_toArray, List.set_cons_succ, List.set_cons_zero]) | go_big_quiet_step (fail))
  refine wpQuiet_nil ?_
  refine WD.free [0, 1, 2, 4] (by kernel_rfl) b1.drew ?_
  simp only [pick, List.toList_toArray, List.map_cons, List.map_nil, List.getD_cons_succ, List.getD_cons_zero]
  repeat (first | (refine quiet_load_1R (by rfl) _ _ rfl rfl (.slice (some ⟨k, 0, none⟩) kl kc) (fun w0 h => h.cell 0) _ Try.underlying67 rfl ?_; simp only [World.size_alloc, World.size_drew, Act.put, List.setIfInBounds_toArray, List.set_cons_succ, List.set_cons_zero]) | (refine quiet_arrayAt (by rfl) _ _ rfl 512 _ Try.underlying73 rfl Hsc.out ?_; simp only [World.size_alloc, World.size_drew, Act.put, List.setIfInBounds_toArray, List.set_cons_succ, List.set_cons_zero]) | (refine quiet_load_ag rfl _ _ rfl rfl (bv s.data.toList) hb2 secT (by rw [bv_length]; exact Hdl.out) (by rw [List.drop_zero, List.take_append_of_le_length (by rw [bv_length, Hdl.out]; exact Nat.le_refl _), List.take_of_length_le (by rw [bv_length, Hdl.out]; exact Nat.le_refl _)]) ?_; simp only [World.size_alloc, World.size_drew, Act.put, List.setIfInBounds_toArray, List.set_cons_succ, List.set_cons_zero]) | go_big_quiet_step (fail))
  refine wpQuiet_nil ?_
  refine WD.held [3] (by kernel_rfl) b1.drew ?_
  simp only [pick, List.toList_toArray, List.map_cons, List.map_nil, List.getD_cons_succ, List.getD_cons_zero]
  repeat (first | (refine quiet_load_1R (by rfl) _ _ rfl rfl (.slice (some ⟨k, 0, none⟩) kl kc) (fun w0 h => h.cell 0) _ Try.underlying67 rfl ?_; simp only [World.size_alloc, World.size_drew, Act.put, List.setIfInBounds_toArray, List.set_cons_succ, List.set_cons_zero]) | (refine quiet_arrayAt (by rfl) _ _ rfl 512 _ Try.underlying73 rfl Hsc.out ?_; simp only [World.size_alloc, World.size_drew, Act.put, List.setIfInBounds_toArray, List.set_cons_succ, List.set_cons_zero]) | (refine quiet_load_ag rfl _ _ rfl rfl (bv s.data.toList) hb2 secT (by rw [bv_length]; exact Hdl.out) (by rw [List.drop_zero, List.take_append_of_le_length (by rw [bv_length, Hdl.out]; exact Nat.le_refl _), List.take_of_length_le (by rw [bv_length, Hdl.out]; exact Nat.le_refl _)]) ?_; simp only [World.size_alloc, World.size_drew, Act.put, List.setIfInBounds_toArray, List.set_cons_succ, List.set_cons_zero]) | go_big_quiet_step (fail))
  refine wpQuiet_nil ?_
  refine WD.eff 6 (by kernel_rfl) ?_
  simp only [pick, List.toList_toArray, List.map_cons, List.map_nil, List.getD_cons_succ, List.getD_cons_zero]
  refine wpList_bytes_of_string rfl _ _ 5 _ rfl s rfl Try.underlying9 Try.underlying29 Try.underlying5 ?_
  intro w2 cap2 f2 hlt2 hb2 hcap2
  simp only [World.size_alloc, World.size_drew, Act.put, List.setIfInBounds_toArray, List.set_cons_succ, List.set_cons_zero]
  have f2' : Fr [] w1 w2 := ((Fr.refl [] w1).drew).trans' f2
  have b2 := f2'.blk b1 (by simp)
  try refine wpList_nil ?_
  refine AfterD.on b2 (by kernel_rfl) ?_
  try simp only [World.size_alloc, World.size_drew, Act.put, List.setIfInBounds_toArray, List.set_cons_succ, List.set_cons_zero]
  refine WD.pure [7, 8, 9] (by kernel_rfl) b2 ?_
  simp only [pick, List.toList_toArray, List.map_cons, List.map_nil, List.getD_cons_succ, List.getD_cons_zero]
  repeat (first | (refine quiet_load_1R (by rfl) _ _ rfl rfl (.slice (some ⟨k, 0, none⟩) kl kc) (fun w0 h => h.cell 0) _ Try.underlying67 rfl ?_; simp only [World.size_alloc, World.size_drew, Act.put, List.setIfInBounds_toArray, List.set_cons_succ, List.set_cons_zero]) | (refine quiet_arrayAt (by rfl) _ _ rfl 512 _ Try.underlying73 rfl Hsc.out ?_; simp only [World.size_alloc, World.size_drew, Act.put, List.setIfInBounds_toArray, List.set_cons_succ, List.set_cons_zero]) | (refine quiet_load_ag rfl _ _ rfl rfl (bv s.data.toList) hb2 secT (by rw [bv_length]; exact Hdl.out) (by rw [List.drop_zero, List.take_append_of_le_length (by rw [bv_length, Hdl.out]; exact Nat.le_refl _), List.take_of_length_le (by rw [bv_length, Hdl.out]; exact Nat.le_refl _)]) ?_; simp only [World.size_alloc, World.size_drew, Act.put, List.setIfInBounds_toArray, List.set_cons_succ, List.set_cons_zero]) | go_big_quiet_step (fail))
  refine wpQuiet_nil ?_
  refine WD.eff 10 (by kernel_rfl) ?_
  simp only [pick, List.toList_toArray, List.map_cons, List.map_nil, List.getD_cons_succ, List.getD_cons_zero]
  have y1' := f2'.blk y1 (by simp)
  have hfit : i * 512 + (bv s.data.toList).length ≤ kl * 512 := by rw [bv_length, Hdl.out]; have := Hi.out; omega
  refine wpList_store_agg rfl _ _ _ rfl rfl (bv s.data.toList) rfl y1' (by rw [bv_length, Hdl.out]; rfl) (by omega) (bv_one _) ?_
  intro w3 f3 yb3 hs3
  simp only [World.size_alloc, World.size_drew, Act.put, List.setIfInBounds_toArray, List.set_cons_succ, List.set_cons_zero]
  have f3' : Fr [k] w1 w3 := (f2'.mono (T := [k]) (by simp)).trans' f3
  have b3 := f3'.blk b1 (by simpa using Hkn.out.2.1)
  have Ok3 := hid (Y4.out (i * 512) (bv s.data.toList) w3 hfit yb3)
  have On3 := hid (On1.out.keep f3' (fun b e => by cases e; simpa using Hkn.out.1.symm))
  have hk3 : ((splice kcs (i * 512) (bv s.data.toList)).drop (i * 512)).take 512 = bv s.data.toList := by
    unfold splice
    have e1 : (kcs.take (i * 512)).length = i * 512 := by rw [List.length_take]; have := Hi.out; omega
    rw [List.append_assoc, List.drop_append_of_le_length (by omega), List.drop_of_length_le (by omega), List.nil_append, List.take_append_of_le_length (by rw [bv_length, Hdl.out]; exact Nat.le_refl _), List.take_of_length_le (by rw [bv_length, Hdl.out]; exact Nat.le_refl _)]
  clear f2 hlt2 hb2 hcap2 f2' b2 y1' f3 hs3 y1 y2 Y3 Y4 b1
  try refine wpList_nil ?_
  refine AfterD.end rfl (by kernel_rfl) ?_
  try simp only [World.size_alloc, World.size_drew, Act.put, List.setIfInBounds_toArray, List.set_cons_succ, List.set_cons_zero]
  refine WD.done (by kernel_rfl) ?_
  obtain ⟨ncs, z1, z2, z3, z4⟩ := own_splice On3.out
  have Z3 := hid z3
  have Z4 := hid z4
  clear z3 z4
  go_wp2_with fail
  refine wp_region_D (fun _ => True) true [] (by kernel_rfl) ?_
  refine WD.pure [0, 1, 2, 3, 4, 5, 6, 7, 8, 9, 10, 11, 12] (by kernel_rfl) trivial ?_
  simp only [pick, List.toList_toArray, List.map_cons, List.map_nil, List.getD_cons_succ, List.getD_cons_zero]
  repeat (first | (refine quiet_load_1R (by rfl) _ _ rfl rfl (.slice (some ⟨k, 0, none⟩) kl kc) (fun w0 h => by cases h; exact b3.drew.cell 0) _ Try.underlying67 rfl ?_; simp only [World.size_alloc, World.size_drew, Act.put, List.setIfInBounds_toArray, List.set_cons_succ, List.set_cons_zero]) | (refine quiet_load_1R (by rfl) _ _ rfl rfl (.slice (some ⟨n, 0, none⟩) kl nc) (fun w0 h => by cases h; exact b3.drew.cell 1) _ Try.underlying67 rfl ?_; simp only [World.size_alloc, World.size_drew, Act.put, List.setIfInBounds_toArray, List.set_cons_succ, List.set_cons_zero]) | (refine quiet_load_ag rfl _ _ rfl rfl (bv s.data.toList) yb3.drew secT (by rw [bv_length]; exact Hdl.out) hk3 ?_; simp only [World.size_alloc, World.size_drew, Act.put, List.setIfInBounds_toArray, List.set_cons_succ, List.set_cons_zero]) | go_big_quiet_step (fail))
  refine wpQuiet_nil ?_
  refine WD.eff 13 (by kernel_rfl) ?_
  simp only [pick, List.toList_toArray, List.map_cons, List.map_nil, List.getD_cons_succ, List.getD_cons_zero]
  refine wpList_store_agg rfl _ _ _ rfl rfl (bv s.data.toList) rfl z1.drew (by rw [bv_length, Hdl.out]; rfl) (by omega) (bv_one _) ?_
  intro w4 f4 zb4 hs4
  simp only [World.size_alloc, World.size_drew, Act.put, List.setIfInBounds_toArray, List.set_cons_succ, List.set_cons_zero]
  have f4' : Fr [n] w3 w4 := ((Fr.refl [n] w3).drew).trans' f4
  have Hzb := hid zb4
  have HF4 := hid f4'
  clear f4 zb4 hs4 z1 yb3
  try refine wpList_nil ?_
  refine AfterD.end rfl (by kernel_rfl) ?_
  try simp only [World.size_alloc, World.size_drew, Act.put, List.setIfInBounds_toArray, List.set_cons_succ, List.set_cons_zero]
  refine WD.done (by kernel_rfl) ?_
  go_wp2_with fail
  go_ret
  have On4 := Z4.out (i * 512) (bv s.data.toList) w4 hfit Hzb.out
  have H1 := Held.setAt 1 (H0.out.keep0 f1) rfl f3' (fun b hb => .inl (by simpa [Res.own] using hb)) (Res.On.own Ok3.out) (fun b hb => .inl (by simpa [Res.own] using hb))
  have H2 := Held.setAt 2 H1 rfl HF4.out (fun b hb => .inl (by simpa [Res.own] using hb)) (Res.On.own On4) (fun b hb => .inl (by simpa [Res.own] using hb))
  refine ⟨rfl, ?_, ?_⟩
  · rw [HF.out]
    refine Rep.ofHeld (kv := .slice (some ⟨k, 0, none⟩) D.kept.length kc) (nv := .slice (some ⟨n, 0, none⟩) D.now.length nc) (lv := lv) (tv := tv) Hg.out ?_
    rw [Hkl.out] at H2
    rw [splice_flat D.kept i s.data.toList Hk5.out (by rw [← Hkl.out]; exact Hi.out) Hdl.out, splice_flat D.now i s.data.toList Hn5.out (by rw [← Hsame.out, ← Hkl.out]; exact Hi.out) Hdl.out] at H2
    unfold parts at H2 ⊢
    simp only [List.length_set, List.set_cons_succ, List.set_cons_zero, ← Hsame.out] at H2 ⊢
    exact H2
  · rw [HF.out]
    refine (f1.mono (by simp)).trans' ((f3'.mono (fun x hx => .inl ?_)).trans' (HF4.out.mono (fun x hx => .inl ?_))) <;> (simp at hx; simp [feet, hx])
end Go.Proofs.Ytflapddkeeiieaa
