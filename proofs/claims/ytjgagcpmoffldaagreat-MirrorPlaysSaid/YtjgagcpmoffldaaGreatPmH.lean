/- Layer 7 (great seat): the document's May and Make. -/
import Derived.Test.YtjgagcpmoffldaaGreatPmG
import Derived.Test.YtjgagcpmoffldaaGreatGMirB
namespace Go.Proofs.YtjgagcpmoffldaaGreat
open Go Go.Xr Go.RowKit
set_option linter.unusedVariables false
set_option linter.unusedSimpArgs false
section
variable {P : Program} {ops : Array Oper} {Q : Exit → Act → World → Prop} {a : Act} {w : World} {K : Act → World → Prop} {rest : List Oper} {o : Oper}
theorem pbuild_any (hg : o.guard = none) (t : TypeId) (n : Nat) (ps : Array (Nat × Operand)) (ho : o.op = .buildSlice t n ps) (e : TypeId) (hu : P.underlying t = some (.slice e)) (i : TypeInfo) (z : Value) (hi : P.info? e = some i) (hz : i.zero = some z) (hzs : z.cells.size = 1)
    (hs : i.size = 1) (hn : n ≤ 16777216) (hn0 : 0 < n) (hidx : ps.toList.map (·.1) = List.range n) (vs : List Value) (hvs : ps.toList.map (fun p => a.eval p.2) = vs) (h1 : ∀ v ∈ vs, v.oneCell' = true)
    (h : ∀ w', Fr [] w w' → w.heap.size < w'.heap.size → Blk w' w.heap.size vs → wpList P ops Q rest (a.put o.dst (.slice (some ⟨w.heap.size, 0, none⟩) n n)) w') : wpList P ops Q (o :: rest) a w :=
  wpList_buildSlice_ones hg t n ps ho e hu i z hi hz hzs hs hn hn0 hidx vs hvs h1 fun hb => h _ ((Fr.refl [] w).alloc _) (by simp) hb
end
def Sys.mayC (s : Sys) : Int := if s.len false = s.len true ∧ 2 ≤ s.len false then 0 else 2
section
variable {w w' w0 : World} {l rs : List Res} {pbs : List Nat} {m db ib : Nat} {s : Sys} {M M' : MS} {d : Bool → Nat} {FF FF' : Bool → List Nat}
theorem xdk_mem {x : Nat} {X : XD} {k : Option Nat} {F : List Nat} (h : (xdk x X pbs k F).P w) : x ∈ F := by
  obtain ⟨⟨i, hF, _⟩, _⟩ := h
  rw [hF]
  exact xps_mem x X _ i
theorem xdisks_ne (h : Held w (l ++ sysX pbs s d FF)) : d false ≠ d true := by
  have h2 : Held w (sysX pbs s d FF) := Held.part l [] (by simpa using h)
  have hne := h2.idx_ne (i := 1) (j := 2) (by decide) rfl rfl (d false) (xdk_mem (h2.at 1 rfl))
  have hm : d true ∈ (xdk (d true) (s.X true) pbs (s.k true) (FF true)).F := xdk_mem (h2.at 2 rfl)
  intro e
  rw [← e] at hm
  exact hne hm
set_option maxRecDepth 20000 in
theorem xptrs_ne (h : Held w (l ++ sysX pbs s d FF)) (ok : SysOk s) : (binOp .eql 26 (.pointer (some ⟨d false, 0, none⟩)) (.pointer (some ⟨d true, 0, none⟩))).run Tryz.prog w = .ok (.bool false) w := by
  obtain ⟨_, _, _, _, _, _, p0⟩ := xsee false h ok
  obtain ⟨_, _, _, _, _, _, p1⟩ := xsee true h ok
  exact run_ptr_ne p0 p1 (xdisks_ne h) Tryz.underlying26 rfl (by decide)
theorem xsee2 (b : Bool) (h : Held w (l ++ sysX pbs s d FF)) (ok : SysOk s) : ∃ (kb c : Nat), w.cell? ⟨d b, 0, none⟩ = some (.slice (some ⟨kb, 0, none⟩) (s.len b) c) ∧ w.cell? ⟨d b, 3, none⟩ = some (.bool (s.X b).Dead) := by
  obtain ⟨kb, c, lv, tv, pv, hb, _⟩ := xsee b h ok
  exact ⟨kb, c, hb.cell 0, hb.cell 3⟩
set_option maxRecDepth 20000 in
set_option maxHeartbeats 1000000 in
theorem pmay2_any (h : Held w (l ++ sysX pbs s d FF)) (ok : SysOk s) :
    Calls Tryz.prog 28 #[.pointer (some ⟨d false, 0, none⟩), .pointer (some ⟨d true, 0, none⟩)] w fun e w' => e = .returned (.int .i64 s.mayC) ∧ Fr [] w w' := by
  have hne := xptrs_ne h ok
  obtain ⟨ka, ca, a0, _⟩ := xsee2 false h ok
  obtain ⟨kb, cb, b0, _⟩ := xsee2 true h ok
  have a1 : w.drew.cell? ⟨d false, 0, none⟩ = some (.slice (some ⟨ka, 0, none⟩) (s.len false) ca) := a0
  have b1 : w.drew.cell? ⟨d true, 0, none⟩ = some (.slice (some ⟨kb, 0, none⟩) (s.len true) cb) := b0
  unfold Sys.mayC
  generalize s.len false = n at *
  generalize s.len true = q at *
  clear h ok a0 b0
  by_cases e1 : n = q
  · subst e1
    by_cases e2 : 2 ≤ n
    · rw [if_pos ⟨rfl, e2⟩]
      have hd : decide (n < 2) = false := by simp; omega
      have hd' : decide ((n : Int) < 2) = false := by simp; omega
      clear e2
      go_enter Tryz.func28, Tryz.ntmps28
      go_wp2_with fail
      refine wp_region_D (fun _ => True) false [] (by kernel_rfl) ?_
      refine WD.pure [0, 1, 2, 3, 4, 5, 6, 7, 8, 9, 10, 11, 12, 13, 14, 15, 16, 17, 18] (by kernel_rfl) trivial ?_
      simp only [pick, List.toList_toArray, List.map_cons, List.map_nil, List.getD_cons_succ, List.getD_cons_zero]
      repeat (first | go_big_quiet_step (fail))
      refine wpQuiet_nil ?_
      refine WD.done (by kernel_rfl) ?_
      go_wp2_with fail
      go_ret
      exact ⟨rfl, (Fr.refl [] w).drew⟩
    · rw [if_neg (fun h => e2 h.2)]
      have hd : decide (n < 2) = true := by simp; omega
      have hd' : decide ((n : Int) < 2) = true := by simp; omega
      clear e2
      go_enter Tryz.func28, Tryz.ntmps28
      go_wp2_with fail
      refine wp_region_D (fun _ => True) false [] (by kernel_rfl) ?_
      refine WD.pure [0, 1, 2, 3, 4, 5, 6, 7, 8, 9, 10, 11, 12, 13, 14, 15, 16, 17, 18] (by kernel_rfl) trivial ?_
      simp only [pick, List.toList_toArray, List.map_cons, List.map_nil, List.getD_cons_succ, List.getD_cons_zero]
      repeat (first | go_big_quiet_step (fail))
      refine wpQuiet_nil ?_
      refine WD.done (by kernel_rfl) ?_
      go_wp2_with fail
      go_ret
      exact ⟨rfl, (Fr.refl [] w).drew⟩
  · rw [if_neg (fun h => e1 h.1)]
    have hd : ((n : Int) != (q : Int)) = true := by simp; omega
    clear e1
    go_enter Tryz.func28, Tryz.ntmps28
    go_wp2_with fail
    refine wp_region_D (fun _ => True) false [] (by kernel_rfl) ?_
    refine WD.pure [0, 1, 2, 3, 4, 5, 6, 7, 8, 9, 10, 11, 12, 13, 14, 15, 16, 17, 18] (by kernel_rfl) trivial ?_
    simp only [pick, List.toList_toArray, List.map_cons, List.map_nil, List.getD_cons_succ, List.getD_cons_zero]
    repeat (first | go_big_quiet_step (fail))
    refine wpQuiet_nil ?_
    refine WD.done (by kernel_rfl) ?_
    go_wp2_with fail
    go_ret
    exact ⟨rfl, (Fr.refl [] w).drew⟩
set_option maxRecDepth 20000 in
set_option maxHeartbeats 1000000 in
theorem pmake_bad (h : Held w (l ++ sysX pbs s d FF)) (ok : SysOk s) (hc : s.mayC ≠ 0) :
    Calls Tryz.prog 11 #[.pointer (some ⟨d false, 0, none⟩), .pointer (some ⟨d true, 0, none⟩)] w fun e w' => e = .returned (.tuple #[.pointer none, .int .i64 2]) ∧ Fr [] w w' := by
  have HY := hid (pmay2_any h ok)
  have e2 : s.mayC = 2 := by unfold Sys.mayC at hc ⊢; split at hc; exact absurd rfl hc; rename_i hh; exact if_neg hh
  rw [e2] at HY
  clear h ok hc e2
  go_enter Tryz.func11, Tryz.ntmps11
  go_wp2_with (go_at_call 28; refine HY.out.mono ?_; rintro e w1 ⟨rfl, f1⟩)
  go_ret2
  exact ⟨rfl, f1⟩
set_option maxRecDepth 20000 in
set_option maxHeartbeats 1000000 in
theorem pmake_lost (h : Held w (l ++ sysX pbs s d FF)) (ok : SysOk s) (hc : s.mayC = 0) (hd : (s.X false).Dead = true ∨ (s.X true).Dead = true) :
    Calls Tryz.prog 11 #[.pointer (some ⟨d false, 0, none⟩), .pointer (some ⟨d true, 0, none⟩)] w fun e w' => e = .returned (.tuple #[.pointer none, .int .i64 70]) ∧ Fr [] w w' := by
  have HY := hid (pmay2_any h ok)
  rw [hc] at HY
  have HA := hid fun (w1 : World) (f : Fr [] w w1) => (xsee2 false (h.keep0 f) ok).choose_spec.choose_spec.2
  have HB := hid fun (w1 : World) (f : Fr [] w w1) => (xsee2 true (h.keep0 f) ok).choose_spec.choose_spec.2
  cases h0 : (s.X false).Dead with
  | true =>
    rw [h0] at HA
    clear h ok hc hd h0 HB
    go_enter Tryz.func11, Tryz.ntmps11
    go_wp2_with (go_at_call 28; refine HY.out.mono ?_; rintro e w1 ⟨rfl, f1⟩; have a1 := HA.out _ f1)
    go_ret2
    exact ⟨rfl, f1⟩
  | false =>
    have h1 : (s.X true).Dead = true := by rcases hd with hd | hd; exact absurd (h0.symm.trans hd) (by decide); exact hd
    rw [h0] at HA
    rw [h1] at HB
    clear h ok hc hd h0 h1
    go_enter Tryz.func11, Tryz.ntmps11
    go_wp2_with (go_at_call 28; refine HY.out.mono ?_; rintro e w1 ⟨rfl, f1⟩; have a1 := HA.out _ f1; have b1 := HB.out _ f1)
    go_ret2
    exact ⟨rfl, f1⟩
theorem Ev.three {r1 r2 r3 : Res} {S : List Res} (e : Ev w rs w' (r1 :: r3 :: r2 :: (l ++ S))) : Ev w rs w' (l ++ ([r1, r2, r3] ++ S)) := by
  refine Ev.perm e ?_
  have p1 : (r1 :: r3 :: r2 :: (l ++ S)).Perm (r1 :: r2 :: r3 :: (l ++ S)) := List.Perm.cons _ (List.Perm.swap _ _ _)
  refine p1.trans ?_
  have p2 : (([r1, r2, r3] ++ l) ++ S).Perm ((l ++ [r1, r2, r3]) ++ S) := (List.perm_append_comm).append_right S
  rw [List.append_assoc, List.append_assoc] at p2
  exact p2
set_option maxRecDepth 20000 in
theorem pinf26 : ∃ i, Tryz.prog.info? 26 = some i ∧ i.zero = some (.pointer none) ∧ i.size = 1 := ⟨_, rfl, rfl, rfl⟩
set_option maxRecDepth 20000 in
theorem pinf3 : ∃ i, Tryz.prog.info? 3 = some i ∧ i.zero = some (.int .i64 0) ∧ i.size = 1 := ⟨_, rfl, rfl, rfl⟩
set_option maxRecDepth 20000 in
set_option maxHeartbeats 4000000 in
theorem pmake_ok (h : Held w (l ++ sysX pbs s d FF)) (ok : SysOk s) (ht : s.T < 998900) (hc : s.mayC = 0) (h0 : (s.X false).Dead = false) (h1 : (s.X true).Dead = false) :
    Calls Tryz.prog 11 #[.pointer (some ⟨d false, 0, none⟩), .pointer (some ⟨d true, 0, none⟩)] w fun e w' => ∃ m db ib FF', e = .returned (.tuple #[.pointer (some ⟨m, 0, none⟩), .int .i64 0]) ∧ Ev w (l ++ sysX pbs s d FF) w' (l ++ mirX pbs m db ib d FF' ⟨s.made, true, true, 1⟩) := by
  have HY := hid (pmay2_any h ok)
  rw [hc] at HY
  obtain ⟨i26, hi26, hz26, hs26⟩ := pinf26
  obtain ⟨i3, hi3, hz3, hs3⟩ := pinf3
  have Hi := hid hi26
  have Hz := hid hz26
  have Hs := hid hs26
  have Ji := hid hi3
  have Jz := hid hz3
  have Js := hid hs3
  have hln : s.len false = s.len true := by unfold Sys.mayC at hc; split at hc; rename_i hh; exact hh.1; cases hc
  have HA := hid fun (w1 : World) (f : Fr [] w w1) => (xsee2 false (h.keep0 f) ok).choose_spec.choose_spec.2
  have HB := hid fun (w1 : World) (f : Fr [] w w1) => (xsee2 true (h.keep0 f) ok).choose_spec.choose_spec.2
  have HKb := hid fun (w1 : World) (f : Fr [] w w1) => xsee2 false (h.keep0 f) ok
  rw [h0] at HA
  rw [h1] at HB
  have hn := (len_pos ok false).2
  obtain ⟨Z, hZ⟩ : ∃ Z, supS 1 (s.len false) = Z := ⟨_, rfl⟩
  have HSu := hid fun w1 : World => rsuper_any (w := w1) 1 (s.len false) hn
  rw [show W64 1 = Value.int .u64 1 from rfl, hZ] at HSu
  have hZs : Z.size = 512 := by rw [← hZ]; exact supS_size _ _
  have e1 : s.st false 1 = s.wr false 0 Z := by unfold Sys.st; rw [hZ]
  have e2 : (s.st false 1).st true 1 = (s.wr false 0 Z).wr true 0 Z := by
    rw [e1]
    unfold Sys.st
    have : (s.wr false 0 Z).len true = s.len true := (wr_stp s false 0 Z).len ok true
    rw [this, ← hln, hZ]
  have eM : s.made = (((s.wr false 0 Z).wr true 0 Z).fl false).fl true := by unfold Sys.made; rw [e2]
  obtain ⟨s1, hs1⟩ : ∃ s1, s.wr false 0 Z = s1 := ⟨_, rfl⟩
  obtain ⟨s2, hs2⟩ : ∃ s2, s1.wr true 0 Z = s2 := ⟨_, rfl⟩
  obtain ⟨s3, hs3'⟩ : ∃ s3, s2.fl false = s3 := ⟨_, rfl⟩
  obtain ⟨s4, hs4⟩ : ∃ s4, s3.fl true = s4 := ⟨_, rfl⟩
  rw [hs1, hs2, hs3', hs4] at eM
  have ok1 : SysOk s1 := hs1 ▸ (wr_stp s false 0 Z).ok ok
  have ok2 : SysOk s2 := hs2 ▸ (wr_stp s1 true 0 Z).ok ok1
  have ok3 : SysOk s3 := hs3' ▸ (fl_stp s2 false).ok ok2
  have t1 : s1.T ≤ s.T + 2 := hs1 ▸ (wr_stp s false 0 Z).T ok
  have t2 : s2.T ≤ s1.T + 2 := hs2 ▸ (wr_stp s1 true 0 Z).T ok1
  have t3 : s3.T ≤ s2.T + 2 := hs3' ▸ (fl_stp s2 false).T ok2
  have HW1 := hid fun (w1 : World) (FF1 : Bool → List Nat) (h1 : Held w1 (l ++ sysX pbs s d FF1)) => xW false h1 ok (by omega) 0 Z (by rw [hZs]; decide)
  have HW2 := hid fun (w1 : World) (FF1 : Bool → List Nat) (h1 : Held w1 (l ++ sysX pbs s1 d FF1)) => xW true h1 ok1 (by omega) 0 Z (by rw [hZs]; decide)
  have HF1 := hid fun (w1 : World) (FF1 : Bool → List Nat) (h1 : Held w1 (l ++ sysX pbs s2 d FF1)) => xF false h1 ok2 (by omega)
  have HF2 := hid fun (w1 : World) (FF1 : Bool → List Nat) (h1 : Held w1 (l ++ sysX pbs s3 d FF1)) => xF true h1 ok3 (by omega)
  rw [hs1] at HW1
  rw [hs2] at HW2
  rw [hs3'] at HF1
  rw [hs4] at HF2
  rw [eM]
  generalize s.wrC false 0 Z = q1 at *
  generalize s1.wrC true 0 Z = q2 at *
  generalize s2.flC false = q3 at *
  generalize s3.flC true = q4 at *
  generalize s.len false = n at *
  have E0 := hid (Ev.refl h)
  clear h ok hc h0 h1 hln hn hZ hZs e1 e2 eM hs1 hs2 hs3' hs4 ok1 ok2 ok3 t1 t2 t3 ht hi26 hz26 hs26 hi3 hz3 hs3
  go_enter Tryz.func11, Tryz.ntmps11
  go_wp2_with (first
    | (go_at_call 28; refine HY.out.mono ?_; rintro e w1 ⟨rfl, f1⟩; have a1 := HA.out _ f1; have b1 := HB.out _ f1; obtain ⟨kb, kc, k1, _⟩ := HKb.out _ f1; have E1 := hid (E0.out.step f1); clear f1 HY E0 HA HB HKb)
    | (go_at_call 36; refine (HSu.out _).mono ?_; rintro e w2 ⟨rfl, f2⟩; have E2 := hid (E1.out.step f2); clear f2 HSu E1)
    | (go_at_call 37; refine (HW1.out _ _ E2.out.held).mono ?_; rintro e w3 ⟨rfl, F3, v3⟩; have E3 := hid (E2.out.trans v3); clear v3 HW1 E2)
    | (go_at_call 37; refine (HW2.out _ _ E3.out.held).mono ?_; rintro e w4 ⟨rfl, F4, v4⟩; have E4 := hid (E3.out.trans v4); clear v4 HW2 E3)
    | (go_at_call 38; refine (HF1.out _ _ E4.out.held).mono ?_; rintro e w5 ⟨rfl, F5, v5⟩; have E5 := hid (E4.out.trans v5); clear v5 HF1 E4)
    | (go_at_call 38; refine (HF2.out _ _ E5.out.held).mono ?_; rintro e w6 ⟨rfl, F6, v6⟩; have E6 := hid (E5.out.trans v6); clear v6 HF2 E5)
    | (refine pbuild_any rfl _ 2 _ rfl 26 Tryz.underlying76 _ _ Hi.out Hz.out rfl Hs.out (by decide) (by decide) rfl (dbL d) rfl (by simp [dbL, Value.oneCell']) ?_; intro w7 f7 hlt7 hb7; have E7 := hid (E6.out.new f7 (Res.On.blk hb7) (fun b hb => by simp [Res.blk] at hb; omega)); clear f7 hlt7 hb7 E6; simp only [World.size_alloc, World.size_drew, Act.put, List.setIfInBounds_toArray, List.set_cons_succ, List.set_cons_zero])
    | (refine pbuild_any rfl _ 2 _ rfl 3 Tryz.underlying60 _ _ Ji.out Jz.out rfl Js.out (by decide) (by decide) rfl [.int .i64 0, .int .i64 0] rfl (by simp [Value.oneCell']) ?_; intro w8 f8 hlt8 hb8; have E8 := hid (E7.out.new f8 (isR_on (M := ⟨s4, true, true, 1⟩) hb8 rfl rfl) (fun b hb => by simp [isR] at hb; omega)); clear f8 hlt8 hb8 E7; simp only [World.size_alloc, World.size_drew, Act.put, List.setIfInBounds_toArray, List.set_cons_succ, List.set_cons_zero])
    | (refine wpList_box rfl _ _ rfl (gmL w6.heap.size w7.heap.size 1) rfl ?_; intro w9 f9 hlt9 hb9; have E9 := hid (E8.out.new f9 (Res.On.blk hb9) (fun b hb => by simp [Res.blk] at hb; omega)); clear f9 hlt9 hb9 E8; simp only [World.size_alloc, World.size_drew, Act.put, List.setIfInBounds_toArray, List.set_cons_succ, List.set_cons_zero]))
  go_ret2
  exact ⟨_, _, _, F6, rfl, Ev.three E9.out⟩
end
end Go.Proofs.YtjgagcpmoffldaaGreat
