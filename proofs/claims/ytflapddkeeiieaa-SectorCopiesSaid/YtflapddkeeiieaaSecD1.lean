/- Layer 6, the statements' own function 'does': one call of both. -/
import Derived.Test.YtflapddkeeiieaaSecOb
namespace Go.Proofs.Ytflapddkeeiieaa
open Go Go.Xr Go.RowKit
set_option linter.unusedVariables false
set_option linter.unusedSimpArgs false
theorem stT : AggT Try.prog 32 5 := ⟨_, Try.underlying32, rfl, rfl⟩
theorem bytesS_le (s : StepD) (h : s.Text.size ≤ 2000) : (bytesS s).size ≤ 2000 := by
  unfold bytesS
  split
  · show (fillL s.C s.I).toArray.size ≤ 2000
    rw [List.size_toArray, fillL_len]
    decide
  · exact h
section
variable {w : World} {d x pb qb : Nat} {X : XD} {lf : Option Nat} {F : List Nat} {i : XI} {I : Int} {C : UInt8} {T : ByteArray} {K : Value}
theorem Ev.unbox {w w' : World} {rs rs' : List Res} {b : Nat} {cs : List Value} (e : Ev w rs w' (Res.blk b cs :: rs')) : Ev w rs w' rs' := Ev.less [] rs' e
theorem boxed {w w1 : World} {rs : List Res} {cs : List Value} (h : Held w rs) (f : Fr [] w w1) (hb : Blk w1 w.heap.size cs) : Ev w rs w1 ([Res.blk w.heap.size cs] ++ rs) := (Ev.refl h).new f (Res.On.blk hb) (fun b hb => by simp [Res.blk] at hb; omega)
theorem boxAt {w1 : World} {rs : List Res} {b : Nat} {cs : List Value} (h : Held w1 ([Res.blk b cs] ++ rs)) : Blk w1 b cs := h.blkAt 0 rfl
set_option maxHeartbeats 4000000 in
set_option maxRecDepth 20000 in
theorem does_write (h : Held w (pr d (dOf X) (mk pb lf) F x X (mk qb lf) i)) (hX : XGood X) (hl : X.L.length < 1000000) (ht : X.Trace.length < 1000000) (h1 : -9223372036854775808 ≤ I) (h2 : I ≤ 9223372036854775807) (hT : T.size ≤ 2000) (S : ByteArray) (hS : bytesS ⟨0, I, C, T, K, [], none⟩ = S) :
    Calls Try.prog 17 #[.pointer (some ⟨d, 0, none⟩), .pointer (some ⟨x, 0, none⟩), .agg #[.int .i64 0, .int .i64 I, bt C, .string T, K]] w fun e w' => e = .returned (.bool true) ∧ ∃ F' i', Ev w (pr d (dOf X) (mk pb lf) F x X (mk qb lf) i) w' (pr d (dOf (wrX X lf I S)) (mk pb (wrL X lf I S)) F' x (wrX X lf I S) (mk qb (wrL X lf I S)) i') := by
  have hby := fun w1 : World => bytes_any (w := w1) ⟨0, I, C, T, K, [], none⟩ h1 h2 K
  have hSl := bytesS_le ⟨0, I, C, T, K, [], none⟩ hT
  rw [hS] at hby hSl
  have HH := hid h
  have HX := hid hX
  have HW := hid fun (w1 : World) (l : List Res) (F0 : List Nat) (h : Held w1 (l ++ pr d (dOf X) (mk pb lf) F0 x X (mk qb lf) i)) => cwrite_any h hX hl ht I h1 h2 S (by omega)
  have HV := hid fun (w1 : World) (l : List Res) (D0 : SD) (p0 : Option (Nat × Nat)) (F0 : List Nat) (h : Held w1 (l ++ pr d D0 p0 F0 x X (mk qb lf) i)) => dwrite_any h hX hl ht I S (by omega)
  generalize wrC X lf I S = c at *
  generalize wrX X lf I S = X' at *
  generalize wrL X lf I S = lf' at *
  clear h hX hS hSl
  go_enter Try.func17, Try.ntmps17
  go_wp2_with (refine wpList_box rfl _ _ rfl [.int .i64 0, .int .i64 I, bt C, .string T, K] rfl ?_; intro w1 f1 hlt1 hb1; have k0 := hb1.cell 0; simp only [World.size_alloc, World.size_drew, Act.put, List.setIfInBounds_toArray, List.set_cons_succ, List.set_cons_zero])
  have e1 := boxed HH.out f1 hb1
  generalize w.heap.size = b at *
  have e1d := e1.step (Fr.refl [] w1).drew
  have hbd := boxAt e1d.held
  clear k0 e1 f1 hlt1 HH
  refine wp_region_D (fun w' => Blk w' b [.int .i64 0, .int .i64 I, bt C, .string T, K]) false [] (by kernel_rfl) ?_
  refine WD.pure [3] (by kernel_rfl) hbd ?_
  simp only [pick, List.toList_toArray, List.map_cons, List.map_nil, List.getD_cons_succ, List.getD_cons_zero]
  repeat (first | (refine quiet_load_1R (by rfl) _ _ rfl rfl (.int .i64 I) (fun w0 h => h.cell 1) _ Try.underlying3 rfl ?_; simp only [World.size_alloc, World.size_drew, Act.put, List.setIfInBounds_toArray, List.set_cons_succ, List.set_cons_zero]) | (refine quiet_load_ag rfl _ _ rfl rfl [.int .i64 0, .int .i64 I, bt C, .string T, K] hbd stT rfl rfl ?_; simp only [World.size_alloc, World.size_drew, Act.put, List.setIfInBounds_toArray, List.set_cons_succ, List.set_cons_zero]) | (refine quiet_load_agS rfl _ _ rfl rfl [.int .i64 0, .int .i64 I, bt C, .string T, K] (fun w0 h => h) stT rfl rfl ?_; simp only [World.size_alloc, World.size_drew, Act.put, List.setIfInBounds_toArray, List.set_cons_succ, List.set_cons_zero]) | go_big_quiet_step (fail))
  refine wpQuiet_nil ?_
  refine WD.free [0, 1, 6, 7] (by kernel_rfl) hbd ?_
  simp only [pick, List.toList_toArray, List.map_cons, List.map_nil, List.getD_cons_succ, List.getD_cons_zero]
  repeat (first | (refine quiet_load_1R (by rfl) _ _ rfl rfl (.int .i64 I) (fun w0 h => h.cell 1) _ Try.underlying3 rfl ?_; simp only [World.size_alloc, World.size_drew, Act.put, List.setIfInBounds_toArray, List.set_cons_succ, List.set_cons_zero]) | (refine quiet_load_ag rfl _ _ rfl rfl [.int .i64 0, .int .i64 I, bt C, .string T, K] hbd stT rfl rfl ?_; simp only [World.size_alloc, World.size_drew, Act.put, List.setIfInBounds_toArray, List.set_cons_succ, List.set_cons_zero]) | (refine quiet_load_agS rfl _ _ rfl rfl [.int .i64 0, .int .i64 I, bt C, .string T, K] (fun w0 h => h) stT rfl rfl ?_; simp only [World.size_alloc, World.size_drew, Act.put, List.setIfInBounds_toArray, List.set_cons_succ, List.set_cons_zero]) | go_big_quiet_step (fail))
  refine wpQuiet_nil ?_
  refine WD.held [2, 8, 9] (by kernel_rfl) hbd ?_
  simp only [pick, List.toList_toArray, List.map_cons, List.map_nil, List.getD_cons_succ, List.getD_cons_zero]
  repeat (first | (refine quiet_load_1R (by rfl) _ _ rfl rfl (.int .i64 I) (fun w0 h => h.cell 1) _ Try.underlying3 rfl ?_; simp only [World.size_alloc, World.size_drew, Act.put, List.setIfInBounds_toArray, List.set_cons_succ, List.set_cons_zero]) | (refine quiet_load_ag rfl _ _ rfl rfl [.int .i64 0, .int .i64 I, bt C, .string T, K] hbd stT rfl rfl ?_; simp only [World.size_alloc, World.size_drew, Act.put, List.setIfInBounds_toArray, List.set_cons_succ, List.set_cons_zero]) | (refine quiet_load_agS rfl _ _ rfl rfl [.int .i64 0, .int .i64 I, bt C, .string T, K] (fun w0 h => h) stT rfl rfl ?_; simp only [World.size_alloc, World.size_drew, Act.put, List.setIfInBounds_toArray, List.set_cons_succ, List.set_cons_zero]) | go_big_quiet_step (fail))
  refine wpQuiet_nil ?_
  refine WD.eff 4 (by kernel_rfl) ?_
  simp only [pick, List.toList_toArray, List.map_cons, List.map_nil, List.getD_cons_succ, List.getD_cons_zero]
  go_wp2_with (go_at_call 41; refine (hby _).mono ?_; rintro e w5 ⟨rfl, f5⟩)
  have e5 := e1d.step f5
  have b5 := boxAt e5.held
  try refine wpList_nil ?_
  refine AfterD.on b5 (by kernel_rfl) ?_
  try simp only [World.size_alloc, World.size_drew, Act.put, List.setIfInBounds_toArray, List.set_cons_succ, List.set_cons_zero]
  refine WD.eff 5 (by kernel_rfl) ?_
  simp only [pick, List.toList_toArray, List.map_cons, List.map_nil, List.getD_cons_succ, List.getD_cons_zero]
  go_wp2_with (go_at_call 11; refine (HW.out _ _ _ e5.held).mono ?_; rintro e w6 ⟨rfl, F6, v6⟩)
  have e6 := e5.trans v6
  have b6 := boxAt e6.held
  try refine wpList_nil ?_
  refine AfterD.on b6 (by kernel_rfl) ?_
  try simp only [World.size_alloc, World.size_drew, Act.put, List.setIfInBounds_toArray, List.set_cons_succ, List.set_cons_zero]
  refine WD.eff 10 (by kernel_rfl) ?_
  simp only [pick, List.toList_toArray, List.map_cons, List.map_nil, List.getD_cons_succ, List.getD_cons_zero]
  go_wp2_with (go_at_call 41; refine (hby _).mono ?_; rintro e w7 ⟨rfl, f7⟩)
  have e7 := e6.step f7
  have b7 := boxAt e7.held
  try refine wpList_nil ?_
  refine AfterD.on b7 (by kernel_rfl) ?_
  try simp only [World.size_alloc, World.size_drew, Act.put, List.setIfInBounds_toArray, List.set_cons_succ, List.set_cons_zero]
  refine WD.eff 11 (by kernel_rfl) ?_
  simp only [pick, List.toList_toArray, List.map_cons, List.map_nil, List.getD_cons_succ, List.getD_cons_zero]
  go_wp2_with (go_at_call 42; refine (HV.out _ _ _ _ _ e7.held).mono ?_; rintro e w8 ⟨rfl, i8, v8⟩)
  have e8 := e7.trans v8
  have b8 := boxAt e8.held
  try refine wpList_nil ?_
  refine AfterD.on b8 (by kernel_rfl) ?_
  try simp only [World.size_alloc, World.size_drew, Act.put, List.setIfInBounds_toArray, List.set_cons_succ, List.set_cons_zero]
  refine WD.pure [12, 13] (by kernel_rfl) b8 ?_
  simp only [pick, List.toList_toArray, List.map_cons, List.map_nil, List.getD_cons_succ, List.getD_cons_zero]
  repeat (first | (refine quiet_load_1R (by rfl) _ _ rfl rfl (.int .i64 I) (fun w0 h => h.cell 1) _ Try.underlying3 rfl ?_; simp only [World.size_alloc, World.size_drew, Act.put, List.setIfInBounds_toArray, List.set_cons_succ, List.set_cons_zero]) | (refine quiet_load_ag rfl _ _ rfl rfl [.int .i64 0, .int .i64 I, bt C, .string T, K] hbd stT rfl rfl ?_; simp only [World.size_alloc, World.size_drew, Act.put, List.setIfInBounds_toArray, List.set_cons_succ, List.set_cons_zero]) | (refine quiet_load_agS rfl _ _ rfl rfl [.int .i64 0, .int .i64 I, bt C, .string T, K] (fun w0 h => h) stT rfl rfl ?_; simp only [World.size_alloc, World.size_drew, Act.put, List.setIfInBounds_toArray, List.set_cons_succ, List.set_cons_zero]) | go_big_quiet_step (fail))
  refine wpQuiet_nil ?_
  refine WD.done (by kernel_rfl) ?_
  go_wp2_with fail
  go_ret
  exact ⟨by simp, F6, i8, Ev.unbox e8⟩
set_option maxHeartbeats 4000000 in
theorem does_read (h : Held w (pr d (dOf X) (mk pb lf) F x X (mk qb lf) i)) (hX : XGood X) (hl : X.L.length < 1000000) (h1 : -9223372036854775808 ≤ I) (h2 : I ≤ 9223372036854775807) :
    Calls Try.prog 17 #[.pointer (some ⟨d, 0, none⟩), .pointer (some ⟨x, 0, none⟩), .agg #[.int .i64 1, .int .i64 I, bt C, .string T, K]] w fun e w' => e = .returned (.bool true) ∧ Fr [] w w' := by
  have HR := hid fun (w1 : World) (f : Fr [] w w1) => cread_any (l := []) (h.keep0 f) hX I h1 h2
  have HS := hid fun (w1 : World) (f : Fr [] w w1) => xread_any (l := []) (h.keep0 f) hX hl I
  generalize rdS X lf I = rs at *
  generalize rdC X lf I = rc at *
  clear h hX
  go_enter Try.func17, Try.ntmps17
  go_wp2_with (refine wpList_box rfl _ _ rfl [.int .i64 1, .int .i64 I, bt C, .string T, K] rfl ?_; intro w1 f1 hlt1 hb1; have k0 := hb1.cell 0; have k1 := hb1.cell 1; simp only [World.size_alloc, World.size_drew, Act.put, List.setIfInBounds_toArray, List.set_cons_succ, List.set_cons_zero])
  have hr := HR.out _ f1
  have hs := HS.out _ f1
  go_wp2_with (first
    | (go_at_call 14; refine hr.mono ?_; rintro e w5 ⟨rfl, hw⟩; subst hw)
    | (go_at_call 43; refine hs.mono ?_; rintro e w5 ⟨rfl, hw⟩; subst hw))
  go_ret
  exact ⟨by simp, f1⟩
set_option maxHeartbeats 4000000 in
theorem does_flush (h : Held w (pr d (dOf X) (mk pb lf) F x X (mk qb lf) i)) (hX : XGood X) (hl : X.L.length < 1000000) (ht : X.Trace.length < 1000000) :
    Calls Try.prog 17 #[.pointer (some ⟨d, 0, none⟩), .pointer (some ⟨x, 0, none⟩), .agg #[.int .i64 2, .int .i64 I, bt C, .string T, K]] w fun e w' => e = .returned (.bool true) ∧ ∃ F' i', Ev w (pr d (dOf X) (mk pb lf) F x X (mk qb lf) i) w' (pr d (dOf (flX X lf)) (mk pb (flL X lf)) F' x (flX X lf) (mk qb (flL X lf)) i') := by
  have HW := hid fun (w1 : World) (l : List Res) (F0 : List Nat) (h : Held w1 (l ++ pr d (dOf X) (mk pb lf) F0 x X (mk qb lf) i)) => cflush_any h hX ht
  have HV := hid fun (w1 : World) (l : List Res) (D0 : SD) (p0 : Option (Nat × Nat)) (F0 : List Nat) (h : Held w1 (l ++ pr d D0 p0 F0 x X (mk qb lf) i)) => dflush_any h hX hl ht
  have HH := hid h
  generalize flC X lf = c at *
  generalize flX X lf = X' at *
  generalize flL X lf = lf' at *
  clear h hX
  go_enter Try.func17, Try.ntmps17
  go_wp2_with (refine wpList_box rfl _ _ rfl [.int .i64 2, .int .i64 I, bt C, .string T, K] rfl ?_; intro w1 f1 hlt1 hb1; have k0 := hb1.cell 0; have k1 := hb1.cell 1; simp only [World.size_alloc, World.size_drew, Act.put, List.setIfInBounds_toArray, List.set_cons_succ, List.set_cons_zero])
  have e1 := boxed HH.out f1 hb1
  clear hb1 f1 hlt1
  go_wp2_with (first
    | (go_at_call 9; refine (HW.out _ _ _ e1.held).mono ?_; rintro e w6 ⟨rfl, F6, v6⟩; have e6 := e1.trans v6)
    | (go_at_call 25; refine (HV.out _ _ _ _ _ e6.held).mono ?_; rintro e w8 ⟨rfl, i8, v8⟩; have e8 := e6.trans v8))
  go_ret
  exact ⟨by simp, F6, i8, Ev.unbox e8⟩
set_option maxHeartbeats 4000000 in
theorem does_fail (h : Held w (pr d (dOf X) (mk pb lf) F x X (mk qb lf) i)) (hX : XGood X) :
    Calls Try.prog 17 #[.pointer (some ⟨d, 0, none⟩), .pointer (some ⟨x, 0, none⟩), .agg #[.int .i64 4, .int .i64 I, bt C, .string T, K]] w fun e w' => e = .returned (.bool true) ∧ ∃ F' i', Ev w (pr d (dOf X) (mk pb lf) F x X (mk qb lf) i) w' (pr d (dOf (faX X)) (mk pb lf) F' x (faX X) (mk qb lf) i') := by
  have HW := hid fun (w1 : World) (l : List Res) (F0 : List Nat) (h : Held w1 (l ++ pr d (dOf X) (mk pb lf) F0 x X (mk qb lf) i)) => cfail_any h
  have HV := hid fun (w1 : World) (l : List Res) (D0 : SD) (p0 : Option (Nat × Nat)) (F0 : List Nat) (h : Held w1 (l ++ pr d D0 p0 F0 x X (mk qb lf) i)) => dfail_any h hX
  have HH := hid h
  generalize faX X = X' at *
  clear h hX
  go_enter Try.func17, Try.ntmps17
  go_wp2_with (refine wpList_box rfl _ _ rfl [.int .i64 4, .int .i64 I, bt C, .string T, K] rfl ?_; intro w1 f1 hlt1 hb1; have k0 := hb1.cell 0; have k1 := hb1.cell 1; simp only [World.size_alloc, World.size_drew, Act.put, List.setIfInBounds_toArray, List.set_cons_succ, List.set_cons_zero])
  have e1 := boxed HH.out f1 hb1
  clear hb1 f1 hlt1
  go_wp2_with (first
    | (go_at_call 30; refine (HW.out _ _ _ e1.held).mono ?_; rintro e w6 ⟨rfl, F6, v6⟩; have e6 := e1.trans v6)
    | (go_at_call 44; refine (HV.out _ _ _ _ _ e6.held).mono ?_; rintro e w8 ⟨rfl, i8, v8⟩; have e8 := e6.trans v8))
  go_ret
  exact ⟨rfl, F6, i8, Ev.unbox e8⟩
set_option maxHeartbeats 4000000 in
theorem does_replace (h : Held w (pr d (dOf X) (mk pb lf) F x X (mk qb lf) i)) :
    Calls Try.prog 17 #[.pointer (some ⟨d, 0, none⟩), .pointer (some ⟨x, 0, none⟩), .agg #[.int .i64 5, .int .i64 I, bt C, .string T, K]] w fun e w' => e = .returned (.bool true) ∧ ∃ F' i', Ev w (pr d (dOf X) (mk pb lf) F x X (mk qb lf) i) w' (pr d (dOf { X with Dead := false }) (mk pb lf) F' x { X with Dead := false } (mk qb lf) i') := by
  have HW := hid fun (w1 : World) (l : List Res) (F0 : List Nat) (h : Held w1 (l ++ pr d (dOf X) (mk pb lf) F0 x X (mk qb lf) i)) => creplace_any h
  have HV := hid fun (w1 : World) (l : List Res) (D0 : SD) (p0 : Option (Nat × Nat)) (F0 : List Nat) (h : Held w1 (l ++ pr d D0 p0 F0 x X (mk qb lf) i)) => dreplace_any h
  have HH := hid h
  generalize (if X.Dead then (0 : Int) else 3) = c at *
  generalize ({ X with Dead := false } : XD) = X' at *
  clear h
  go_enter Try.func17, Try.ntmps17
  go_wp2_with (refine wpList_box rfl _ _ rfl [.int .i64 5, .int .i64 I, bt C, .string T, K] rfl ?_; intro w1 f1 hlt1 hb1; have k0 := hb1.cell 0; have k1 := hb1.cell 1; simp only [World.size_alloc, World.size_drew, Act.put, List.setIfInBounds_toArray, List.set_cons_succ, List.set_cons_zero])
  have e1 := boxed HH.out f1 hb1
  clear hb1 f1 hlt1
  go_wp2_with (first
    | (go_at_call 31; refine (HW.out _ _ _ e1.held).mono ?_; rintro e w6 ⟨rfl, v6⟩; have e6 := e1.trans v6)
    | (go_at_call 45; refine (HV.out _ _ _ _ _ e6.held).mono ?_; rintro e w8 ⟨rfl, v8⟩; have e8 := e6.trans v8))
  go_ret
  exact ⟨by simp, F, i, Ev.unbox e8⟩
set_option maxHeartbeats 4000000 in
set_option maxRecDepth 20000 in
theorem does_tamper (h : Held w (pr d (dOf X) (mk pb lf) F x X (mk qb lf) i)) (hX : XGood X) (hl : X.L.length < 1000000) (h1 : -9223372036854775808 ≤ I) (h2 : I ≤ 9223372036854775807) (hT : T.size ≤ 2000) (S : ByteArray) (hS : bytesS ⟨6, I, C, T, K, [], none⟩ = S) :
    Calls Try.prog 17 #[.pointer (some ⟨d, 0, none⟩), .pointer (some ⟨x, 0, none⟩), .agg #[.int .i64 6, .int .i64 I, bt C, .string T, K]] w fun e w' => e = .returned (.bool true) ∧ ∃ F' i', Ev w (pr d (dOf X) (mk pb lf) F x X (mk qb lf) i) w' (pr d (dOf (taX X lf I S)) (mk pb lf) F' x (taX X lf I S) (mk qb lf) i') := by
  have hby := fun w1 : World => bytes_any (w := w1) ⟨6, I, C, T, K, [], none⟩ h1 h2 K
  have hSl := bytesS_le ⟨6, I, C, T, K, [], none⟩ hT
  rw [hS] at hby hSl
  have HH := hid h
  have HX := hid hX
  have HW := hid fun (w1 : World) (l : List Res) (F0 : List Nat) (h : Held w1 (l ++ pr d (dOf X) (mk pb lf) F0 x X (mk qb lf) i)) => ctamper_any h hX hl I h1 h2 S (by omega)
  have HV := hid fun (w1 : World) (l : List Res) (D0 : SD) (p0 : Option (Nat × Nat)) (F0 : List Nat) (h : Held w1 (l ++ pr d D0 p0 F0 x X (mk qb lf) i)) => dtamper_any h hX hl I S (by omega)
  generalize taC X lf I S = c at *
  generalize taX X lf I S = X' at *
  clear h hX hS hSl
  go_enter Try.func17, Try.ntmps17
  go_wp2_with (refine wpList_box rfl _ _ rfl [.int .i64 6, .int .i64 I, bt C, .string T, K] rfl ?_; intro w1 f1 hlt1 hb1; have k0 := hb1.cell 0; simp only [World.size_alloc, World.size_drew, Act.put, List.setIfInBounds_toArray, List.set_cons_succ, List.set_cons_zero])
  have e1 := boxed HH.out f1 hb1
  generalize w.heap.size = b at *
  have e1d := e1.step (Fr.refl [] w1).drew
  have hbd := boxAt e1d.held
  clear k0 e1 f1 hlt1 HH
  refine wp_region_D (fun w' => Blk w' b [.int .i64 6, .int .i64 I, bt C, .string T, K]) false [] (by kernel_rfl) ?_
  refine WD.pure [3] (by kernel_rfl) hbd ?_
  simp only [pick, List.toList_toArray, List.map_cons, List.map_nil, List.getD_cons_succ, List.getD_cons_zero]
  repeat (first | (refine quiet_load_1R (by rfl) _ _ rfl rfl (.int .i64 I) (fun w0 h => h.cell 1) _ Try.underlying3 rfl ?_; simp only [World.size_alloc, World.size_drew, Act.put, List.setIfInBounds_toArray, List.set_cons_succ, List.set_cons_zero]) | (refine quiet_load_ag rfl _ _ rfl rfl [.int .i64 6, .int .i64 I, bt C, .string T, K] hbd stT rfl rfl ?_; simp only [World.size_alloc, World.size_drew, Act.put, List.setIfInBounds_toArray, List.set_cons_succ, List.set_cons_zero]) | (refine quiet_load_agS rfl _ _ rfl rfl [.int .i64 6, .int .i64 I, bt C, .string T, K] (fun w0 h => h) stT rfl rfl ?_; simp only [World.size_alloc, World.size_drew, Act.put, List.setIfInBounds_toArray, List.set_cons_succ, List.set_cons_zero]) | go_big_quiet_step (fail))
  refine wpQuiet_nil ?_
  refine WD.free [0, 1, 6, 7] (by kernel_rfl) hbd ?_
  simp only [pick, List.toList_toArray, List.map_cons, List.map_nil, List.getD_cons_succ, List.getD_cons_zero]
  repeat (first | (refine quiet_load_1R (by rfl) _ _ rfl rfl (.int .i64 I) (fun w0 h => h.cell 1) _ Try.underlying3 rfl ?_; simp only [World.size_alloc, World.size_drew, Act.put, List.setIfInBounds_toArray, List.set_cons_succ, List.set_cons_zero]) | (refine quiet_load_ag rfl _ _ rfl rfl [.int .i64 6, .int .i64 I, bt C, .string T, K] hbd stT rfl rfl ?_; simp only [World.size_alloc, World.size_drew, Act.put, List.setIfInBounds_toArray, List.set_cons_succ, List.set_cons_zero]) | (refine quiet_load_agS rfl _ _ rfl rfl [.int .i64 6, .int .i64 I, bt C, .string T, K] (fun w0 h => h) stT rfl rfl ?_; simp only [World.size_alloc, World.size_drew, Act.put, List.setIfInBounds_toArray, List.set_cons_succ, List.set_cons_zero]) | go_big_quiet_step (fail))
  refine wpQuiet_nil ?_
  refine WD.held [2, 8, 9] (by kernel_rfl) hbd ?_
  simp only [pick, List.toList_toArray, List.map_cons, List.map_nil, List.getD_cons_succ, List.getD_cons_zero]
  repeat (first | (refine quiet_load_1R (by rfl) _ _ rfl rfl (.int .i64 I) (fun w0 h => h.cell 1) _ Try.underlying3 rfl ?_; simp only [World.size_alloc, World.size_drew, Act.put, List.setIfInBounds_toArray, List.set_cons_succ, List.set_cons_zero]) | (refine quiet_load_ag rfl _ _ rfl rfl [.int .i64 6, .int .i64 I, bt C, .string T, K] hbd stT rfl rfl ?_; simp only [World.size_alloc, World.size_drew, Act.put, List.setIfInBounds_toArray, List.set_cons_succ, List.set_cons_zero]) | (refine quiet_load_agS rfl _ _ rfl rfl [.int .i64 6, .int .i64 I, bt C, .string T, K] (fun w0 h => h) stT rfl rfl ?_; simp only [World.size_alloc, World.size_drew, Act.put, List.setIfInBounds_toArray, List.set_cons_succ, List.set_cons_zero]) | go_big_quiet_step (fail))
  refine wpQuiet_nil ?_
  refine WD.eff 4 (by kernel_rfl) ?_
  simp only [pick, List.toList_toArray, List.map_cons, List.map_nil, List.getD_cons_succ, List.getD_cons_zero]
  go_wp2_with (go_at_call 41; refine (hby _).mono ?_; rintro e w5 ⟨rfl, f5⟩)
  have e5 := e1d.step f5
  have b5 := boxAt e5.held
  try refine wpList_nil ?_
  refine AfterD.on b5 (by kernel_rfl) ?_
  try simp only [World.size_alloc, World.size_drew, Act.put, List.setIfInBounds_toArray, List.set_cons_succ, List.set_cons_zero]
  refine WD.eff 5 (by kernel_rfl) ?_
  simp only [pick, List.toList_toArray, List.map_cons, List.map_nil, List.getD_cons_succ, List.getD_cons_zero]
  go_wp2_with (go_at_call 32; refine (HW.out _ _ _ e5.held).mono ?_; rintro e w6 ⟨rfl, v6⟩)
  have e6 := e5.trans v6
  have b6 := boxAt e6.held
  try refine wpList_nil ?_
  refine AfterD.on b6 (by kernel_rfl) ?_
  try simp only [World.size_alloc, World.size_drew, Act.put, List.setIfInBounds_toArray, List.set_cons_succ, List.set_cons_zero]
  refine WD.eff 10 (by kernel_rfl) ?_
  simp only [pick, List.toList_toArray, List.map_cons, List.map_nil, List.getD_cons_succ, List.getD_cons_zero]
  go_wp2_with (go_at_call 41; refine (hby _).mono ?_; rintro e w7 ⟨rfl, f7⟩)
  have e7 := e6.step f7
  have b7 := boxAt e7.held
  try refine wpList_nil ?_
  refine AfterD.on b7 (by kernel_rfl) ?_
  try simp only [World.size_alloc, World.size_drew, Act.put, List.setIfInBounds_toArray, List.set_cons_succ, List.set_cons_zero]
  refine WD.eff 11 (by kernel_rfl) ?_
  simp only [pick, List.toList_toArray, List.map_cons, List.map_nil, List.getD_cons_succ, List.getD_cons_zero]
  go_wp2_with (go_at_call 46; refine (HV.out _ _ _ _ _ e7.held).mono ?_; rintro e w8 ⟨rfl, v8⟩)
  have e8 := e7.trans v8
  have b8 := boxAt e8.held
  try refine wpList_nil ?_
  refine AfterD.on b8 (by kernel_rfl) ?_
  try simp only [World.size_alloc, World.size_drew, Act.put, List.setIfInBounds_toArray, List.set_cons_succ, List.set_cons_zero]
  refine WD.pure [12, 13] (by kernel_rfl) b8 ?_
  simp only [pick, List.toList_toArray, List.map_cons, List.map_nil, List.getD_cons_succ, List.getD_cons_zero]
  repeat (first | (refine quiet_load_1R (by rfl) _ _ rfl rfl (.int .i64 I) (fun w0 h => h.cell 1) _ Try.underlying3 rfl ?_; simp only [World.size_alloc, World.size_drew, Act.put, List.setIfInBounds_toArray, List.set_cons_succ, List.set_cons_zero]) | (refine quiet_load_ag rfl _ _ rfl rfl [.int .i64 6, .int .i64 I, bt C, .string T, K] hbd stT rfl rfl ?_; simp only [World.size_alloc, World.size_drew, Act.put, List.setIfInBounds_toArray, List.set_cons_succ, List.set_cons_zero]) | (refine quiet_load_agS rfl _ _ rfl rfl [.int .i64 6, .int .i64 I, bt C, .string T, K] (fun w0 h => h) stT rfl rfl ?_; simp only [World.size_alloc, World.size_drew, Act.put, List.setIfInBounds_toArray, List.set_cons_succ, List.set_cons_zero]) | go_big_quiet_step (fail))
  refine wpQuiet_nil ?_
  refine WD.done (by kernel_rfl) ?_
  go_wp2_with fail
  go_ret
  exact ⟨by simp, F, i, Ev.unbox e8⟩
set_option maxHeartbeats 4000000 in
theorem does_else (h : Held w (pr d (dOf X) (mk pb lf) F x X (mk qb lf) i)) (hX : XGood X) (hl : X.L.length < 1000000) (ht : X.Trace.length < 1000000) (n : Int) (hn : n ≠ 0 ∧ n ≠ 1 ∧ n ≠ 2 ∧ n ≠ 3 ∧ n ≠ 4 ∧ n ≠ 5 ∧ n ≠ 6 ∧ n ≠ 8) :
    Calls Try.prog 17 #[.pointer (some ⟨d, 0, none⟩), .pointer (some ⟨x, 0, none⟩), .agg #[.int .i64 n, .int .i64 I, bt C, .string T, K]] w fun e w' => e = .returned (.bool true) ∧ Fr [] w w' := by
  have HR := hid fun (w1 : World) (f : Fr [] w w1) => stands_any (l := []) (h.keep0 f) hX hl ht
  obtain ⟨n0, n1, n2, n3, n4, n5, n6, n8⟩ := hn
  have m0 : (n == 0) = false := by simpa using n0
  have m1 : (n == 1) = false := by simpa using n1
  have m2 : (n == 2) = false := by simpa using n2
  have m3 : (n == 3) = false := by simpa using n3
  have m4 : (n == 4) = false := by simpa using n4
  have m5 : (n == 5) = false := by simpa using n5
  have m6 : (n == 6) = false := by simpa using n6
  have m8 : (n == 8) = false := by simpa using n8
  clear h hX hl ht
  go_enter Try.func17, Try.ntmps17
  go_wp2_with (refine wpList_box rfl _ _ rfl [.int .i64 n, .int .i64 I, bt C, .string T, K] rfl ?_; intro w1 f1 hlt1 hb1; have k0 := hb1.cell 0; have k1 := hb1.cell 1; simp only [World.size_alloc, World.size_drew, Act.put, List.setIfInBounds_toArray, List.set_cons_succ, List.set_cons_zero])
  have hr := HR.out _ f1
  go_wp2_with (go_at_call 18; refine hr.mono ?_; rintro e w5 ⟨rfl, f5⟩)
  go_ret
  exact ⟨rfl, f1.trans' f5⟩
end
end Go.Proofs.Ytflapddkeeiieaa
