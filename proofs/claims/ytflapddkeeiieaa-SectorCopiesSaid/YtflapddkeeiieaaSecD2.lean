/- Layer 6, the statements' own function 'does': Crash, Wire. -/
import Derived.Test.YtflapddkeeiieaaSecD1
import Derived.Test.YtflapddkeeiieaaAppR
import Derived.Test.YtflapddkeeiieaaMax
namespace Go.Proofs.Ytflapddkeeiieaa
open Go Go.Xr Go.RowKit
set_option linter.unusedVariables false
set_option linter.unusedSimpArgs false
theorem Ev.perm {w w1 : World} {rs a b : List Res} (e : Ev w rs w1 a) (p : a.Perm b) : Ev w rs w1 b :=
  ⟨e.held.perm p, e.fr, fun x hx => e.low x ((p.flatMap_right _).mem_iff.2 hx)⟩
theorem newPower_int (w : World) (I : Int) (h1 : -9223372036854775808 ≤ I) (h2 : I ≤ 9223372036854775807) : Calls Try.prog 19 #[.int .i64 I] w fun e w' => e = .returned (.pointer (some ⟨w.heap.size, 0, none⟩)) ∧ Blk w' w.heap.size [.int .i64 (I.toNat : Int)] ∧ Fr [] w w' := by
  have e0 : ((I.toNat : Nat) : Int) = max I 0 := by omega
  rw [e0]
  clear e0
  go_enter Try.func19, Try.ntmps19
  go_wp2
  go_ret
  exact ⟨rfl, Blk.alloc w [.int .i64 (max I 0)] _, (Fr.refl _ _).alloc _⟩
section
variable {w : World} {d x pb qb : Nat} {X : XD} {lf : Option Nat} {F : List Nat} {i : XI} {I : Int} {C : UInt8} {T : ByteArray} {K : Value}
set_option maxHeartbeats 4000000 in
set_option maxRecDepth 20000 in
theorem does_crash (h : Held w (pr d (dOf X) (mk pb lf) F x X (mk qb lf) i)) (hX : XGood X) (hl : X.L.length < 1000000) {ks : List Bool} {KB : Option Nat} (hk : Rc w 1 K ks.length (ks.map .bool) KB) (hKB : ∀ b, KB = some b → b ∉ feetOf (pr d (dOf X) (mk pb lf) F x X (mk qb lf) i)) (hkl : ks.length ≤ 140737488351232) :
    Calls Try.prog 17 #[.pointer (some ⟨d, 0, none⟩), .pointer (some ⟨x, 0, none⟩), .agg #[.int .i64 3, .int .i64 I, bt C, .string T, K]] w fun e w' => e = .returned (.bool true) ∧ ∃ F' i', Ev w (pr d (dOf X) (mk pb lf) F x X (mk qb lf) i) w' (pr d (dOf (crX X ks)) none F' x (crX X ks) none i') := by
  obtain ⟨i4, hi4, hz4, hs4, hb4⟩ : ∃ i, Try.prog.info? 4 = some i ∧ i.zero = some (.bool false) ∧ i.size = 1 ∧ i.bytes = 1 := ⟨_, rfl, rfl, rfl, rfl⟩
  have Hi4 := hid hi4
  have Hz4 := hid hz4
  have Hs4 := hid hs4
  have Hb4 := hid hb4
  clear hi4 hz4 hs4 hb4
  obtain ⟨ka, kc, rfl⟩ := hk.isSlice
  have hkb : ∀ b, KB = some b → b < w.heap.size := hk.lt
  have HK := hid fun (w1 : World) (f : Fr (feetOf (pr d (dOf X) (mk pb lf) F x X (mk qb lf) i)) w w1) => hk.keep f hKB
  have HW := hid fun (w1 : World) (l : List Res) (F0 : List Nat) (h : Held w1 (l ++ pr d (dOf X) (mk pb lf) F0 x X (mk qb lf) i)) (v : Value) (B : Option Nat) (hv : Rc w1 1 v ks.length (ks.map .bool) B) (hB : ∀ b, B = some b → b ∉ F0) => ccrash_any h hl hv hB (by unfold maxLen; omega)
  have HV := hid fun (w1 : World) (l : List Res) (D0 : SD) (p0 : Option (Nat × Nat)) (F0 : List Nat) (h : Held w1 (l ++ pr d D0 p0 F0 x X (mk qb lf) i)) (hv : Rc w1 1 (.slice ka ks.length kc) ks.length (ks.map .bool) KB) (hB : ∀ b, KB = some b → b ∉ feetOf (xps x X (mk qb lf) i)) => dcrash_any h hX hl hv hB (by omega)
  have HH := hid h
  have M4 := hid (show ∀ u ∈ ks.map Value.bool, u.oneCell' = true by intro u hu; obtain ⟨s, _, rfl⟩ := List.mem_map.1 hu; rfl)
  have HKB := hid hKB
  generalize (if X.Dead then (60 : Int) else 0) = c at *
  generalize crX X ks = X' at *
  generalize hkn : ks.length = kn at *
  clear h hX hk hKB
  go_enter Try.func17, Try.ntmps17
  go_wp2_with (refine wpList_box rfl _ _ rfl [.int .i64 3, .int .i64 I, bt C, .string T, .slice ka kn kc] rfl ?_; intro w1 f1 hlt1 hb1; have k0 := hb1.cell 0; simp only [World.size_alloc, World.size_drew, Act.put, List.setIfInBounds_toArray, List.set_cons_succ, List.set_cons_zero])
  have e1 := boxed HH.out f1 hb1
  obtain ⟨b, hb⟩ : ∃ b, w.heap.size = b := ⟨_, rfl⟩
  rw [hb] at e1 ⊢
  have e1d := e1.step (Fr.refl [] w1).drew
  have hbd := boxAt e1d.held
  clear k0 e1 f1 hlt1 hb1
  refine wp_region_D (fun w' => Blk w' b [.int .i64 3, .int .i64 I, bt C, .string T, .slice ka kn kc]) false [] (by kernel_rfl) ?_
  refine WD.pure [1, 2] (by kernel_rfl) hbd ?_
  simp only [pick, List.toList_toArray, List.map_cons, List.map_nil, List.getD_cons_succ, List.getD_cons_zero]
  repeat (first | (refine quiet_load_1R (by rfl) _ _ rfl rfl (.slice ka kn kc) (fun w0 h => h.cell 4) _ Try.underlying23 rfl ?_; simp only [World.size_alloc, World.size_drew, Act.put, List.setIfInBounds_toArray, List.set_cons_succ, List.set_cons_zero]) | (refine quiet_load_1R (by rfl) _ _ rfl rfl (.slice ka kn kc) (fun w0 h => by subst h; exact hbd.cell 4) _ Try.underlying23 rfl ?_; simp only [World.size_alloc, World.size_drew, Act.put, List.setIfInBounds_toArray, List.set_cons_succ, List.set_cons_zero]) | go_big_quiet_step (fail))
  refine wpQuiet_nil ?_
  refine WD.free [0, 5, 6] (by kernel_rfl) hbd ?_
  simp only [pick, List.toList_toArray, List.map_cons, List.map_nil, List.getD_cons_succ, List.getD_cons_zero]
  repeat (first | (refine quiet_load_1R (by rfl) _ _ rfl rfl (.slice ka kn kc) (fun w0 h => h.cell 4) _ Try.underlying23 rfl ?_; simp only [World.size_alloc, World.size_drew, Act.put, List.setIfInBounds_toArray, List.set_cons_succ, List.set_cons_zero]) | (refine quiet_load_1R (by rfl) _ _ rfl rfl (.slice ka kn kc) (fun w0 h => by subst h; exact hbd.cell 4) _ Try.underlying23 rfl ?_; simp only [World.size_alloc, World.size_drew, Act.put, List.setIfInBounds_toArray, List.set_cons_succ, List.set_cons_zero]) | go_big_quiet_step (fail))
  refine wpQuiet_nil ?_
  refine WD.held [7] (by kernel_rfl) hbd ?_
  simp only [pick, List.toList_toArray, List.map_cons, List.map_nil, List.getD_cons_succ, List.getD_cons_zero]
  repeat (first | (refine quiet_load_1R (by rfl) _ _ rfl rfl (.slice ka kn kc) (fun w0 h => h.cell 4) _ Try.underlying23 rfl ?_; simp only [World.size_alloc, World.size_drew, Act.put, List.setIfInBounds_toArray, List.set_cons_succ, List.set_cons_zero]) | (refine quiet_load_1R (by rfl) _ _ rfl rfl (.slice ka kn kc) (fun w0 h => by subst h; exact hbd.cell 4) _ Try.underlying23 rfl ?_; simp only [World.size_alloc, World.size_drew, Act.put, List.setIfInBounds_toArray, List.set_cons_succ, List.set_cons_zero]) | go_big_quiet_step (fail))
  refine wpQuiet_nil ?_
  refine WD.eff 3 (by kernel_rfl) ?_
  simp only [pick, List.toList_toArray, List.map_cons, List.map_nil, List.getD_cons_succ, List.getD_cons_zero]
  refine wpList_append_rc rfl _ _ _ rfl 4 _ _ 1 1 Try.underlying23 Hi4.out Hz4.out Hs4.out Hb4.out rfl (by decide) rfl (Xr.Own.nil _ 1) rfl (HK.out _ e1d.fr) M4.out (by unfold maxLen; omega) (by omega) ?_
  intro v5 w5 B5 ho5 f5 hB5
  rw [Nat.zero_add, List.nil_append] at ho5
  have f5' : Fr [] w1.drew w5 := f5
  have e5 := e1d.step f5'
  have b5 := boxAt e5.held
  try refine wpList_nil ?_
  refine AfterD.on b5 (by kernel_rfl) ?_
  try simp only [World.size_alloc, World.size_drew, Act.put, List.setIfInBounds_toArray, List.set_cons_succ, List.set_cons_zero]
  refine WD.eff 4 (by kernel_rfl) ?_
  simp only [pick, List.toList_toArray, List.map_cons, List.map_nil, List.getD_cons_succ, List.getD_cons_zero]
  have hne5 : ∀ y, B5 = some y → y ∉ F := by
    intro y hy hyF
    rcases hB5 with rfl | ⟨b5, rfl, h5⟩
    · cases hy
    · cases hy
      have := e1d.held.lt (Res.disk d (dOf X) (mk pb lf) F) (by simp [pr]) _ hyF
      omega
  go_wp2_with (go_at_call 12; refine (HW.out _ _ _ e5.held _ _ ho5.rd.rc hne5).mono ?_; rintro e w6 ⟨rfl, F6, v6⟩)
  have e6 := e5.trans v6
  have b6 := boxAt e6.held
  try refine wpList_nil ?_
  refine AfterD.on b6 (by kernel_rfl) ?_
  try simp only [World.size_alloc, World.size_drew, Act.put, List.setIfInBounds_toArray, List.set_cons_succ, List.set_cons_zero]
  refine WD.eff 8 (by kernel_rfl) ?_
  simp only [pick, List.toList_toArray, List.map_cons, List.map_nil, List.getD_cons_succ, List.getD_cons_zero]
  go_wp2_with (go_at_call 24; refine (HV.out _ _ _ _ _ e6.held (HK.out _ e6.fr) (fun y hy hyx => HKB.out y hy (by simp only [feetOf, pr, List.flatMap_append, List.flatMap_cons, List.mem_append] at hyx ⊢; exact .inr (.inr hyx)))).mono ?_; rintro e w8 ⟨rfl, i8, v8⟩)
  have e8 := e6.trans v8
  have b8 := boxAt e8.held
  try refine wpList_nil ?_
  refine AfterD.on b8 (by kernel_rfl) ?_
  try simp only [World.size_alloc, World.size_drew, Act.put, List.setIfInBounds_toArray, List.set_cons_succ, List.set_cons_zero]
  refine WD.pure [9, 10] (by kernel_rfl) b8 ?_
  simp only [pick, List.toList_toArray, List.map_cons, List.map_nil, List.getD_cons_succ, List.getD_cons_zero]
  repeat (first | (refine quiet_load_1R (by rfl) _ _ rfl rfl (.slice ka kn kc) (fun w0 h => h.cell 4) _ Try.underlying23 rfl ?_; simp only [World.size_alloc, World.size_drew, Act.put, List.setIfInBounds_toArray, List.set_cons_succ, List.set_cons_zero]) | (refine quiet_load_1R (by rfl) _ _ rfl rfl (.slice ka kn kc) (fun w0 h => by subst h; exact hbd.cell 4) _ Try.underlying23 rfl ?_; simp only [World.size_alloc, World.size_drew, Act.put, List.setIfInBounds_toArray, List.set_cons_succ, List.set_cons_zero]) | go_big_quiet_step (fail))
  refine wpQuiet_nil ?_
  refine WD.done (by kernel_rfl) ?_
  go_wp2_with fail
  go_ret
  exact ⟨by simp, F6, i8, Ev.unbox e8⟩
set_option maxHeartbeats 4000000 in
set_option maxRecDepth 20000 in
theorem does_wire (h : Held w (pr d (dOf X) (mk pb lf) F x X (mk qb lf) i)) (h1 : -9223372036854775808 ≤ I) (h2 : I ≤ 9223372036854775807) :
    Calls Try.prog 17 #[.pointer (some ⟨d, 0, none⟩), .pointer (some ⟨x, 0, none⟩), .agg #[.int .i64 8, .int .i64 I, bt C, .string T, K]] w fun e w' => e = .returned (.bool true) ∧ ∃ p q, Ev w (pr d (dOf X) (mk pb lf) F x X (mk qb lf) i) w' (pr d (dOf X) (mk (wiB X lf pb p) (wiL X lf I.toNat)) F x X (mk (wiB X lf qb q) (wiL X lf I.toNat)) i) := by
  have HW := hid fun (w1 : World) (l : List Res) (p : Nat) (px0 : Option (Nat × Nat)) (h : Held w1 (l ++ Res.pow (some (p, I.toNat)) :: pr d (dOf X) (mk pb lf) F x X px0 i)) => cwire_any h
  have HV := hid fun (w1 : World) (l : List Res) (p : Nat) (pc0 : Option (Nat × Nat)) (h : Held w1 (l ++ Res.pow (some (p, I.toNat)) :: pr d (dOf X) pc0 F x X (mk qb lf) i)) => dwire_any h
  have HP := hid fun w1 : World => newPower_int w1 I h1 h2
  have hmx : max I 0 = (I.toNat : Int) := by omega
  have hmx' : (if (0 : Int) > I then 0 else I) = (I.toNat : Int) := by split <;> omega
  have hIn : I.toNat ≤ 9223372036854775807 := by omega
  have HH := hid h
  generalize wiC X lf = c at *
  generalize wiL X lf I.toNat = lf' at *
  generalize I.toNat = n at *
  clear h h2
  go_enter Try.func17, Try.ntmps17
  go_wp2_with (refine wpList_box rfl _ _ rfl [.int .i64 8, .int .i64 I, bt C, .string T, K] rfl ?_; intro w1 f1 hlt1 hb1; have k0 := hb1.cell 0; simp only [World.size_alloc, World.size_drew, Act.put, List.setIfInBounds_toArray, List.set_cons_succ, List.set_cons_zero])
  have e1 := boxed HH.out f1 hb1
  obtain ⟨b, hb⟩ : ∃ b, w.heap.size = b := ⟨_, rfl⟩
  rw [hb] at e1 ⊢
  have e1d := e1.step (Fr.refl [] w1).drew
  have hbd := boxAt e1d.held
  clear k0 e1 f1 hlt1 hb1
  refine wp_region_D (fun w' => Blk w' b [.int .i64 8, .int .i64 I, bt C, .string T, K]) false [] (by kernel_rfl) ?_
  refine WD.free [0, 1, 5, 6] (by kernel_rfl) hbd ?_
  simp only [pick, List.toList_toArray, List.map_cons, List.map_nil, List.getD_cons_succ, List.getD_cons_zero]
  repeat (first | (refine quiet_load_1R (by rfl) _ _ rfl rfl (.int .i64 I) (fun w0 h => h.cell 1) _ Try.underlying3 rfl ?_; simp only [World.size_alloc, World.size_drew, Act.put, List.setIfInBounds_toArray, List.set_cons_succ, List.set_cons_zero]) | go_big_quiet_step (fail) | (refine quiet_max_v (by rfl) _ _ _ rfl .i64 I 0 (n : Int) rfl rfl hmx' ?_; simp only [World.size_alloc, World.size_drew, Act.put, List.setIfInBounds_toArray, List.set_cons_succ, List.set_cons_zero]))
  refine wpQuiet_nil ?_
  refine WD.held [2, 7, 8] (by kernel_rfl) hbd ?_
  simp only [pick, List.toList_toArray, List.map_cons, List.map_nil, List.getD_cons_succ, List.getD_cons_zero]
  repeat (first | (refine quiet_load_1R (by rfl) _ _ rfl rfl (.int .i64 I) (fun w0 h => h.cell 1) _ Try.underlying3 rfl ?_; simp only [World.size_alloc, World.size_drew, Act.put, List.setIfInBounds_toArray, List.set_cons_succ, List.set_cons_zero]) | go_big_quiet_step (fail) | (refine quiet_max_v (by rfl) _ _ _ rfl .i64 I 0 (n : Int) rfl rfl hmx' ?_; simp only [World.size_alloc, World.size_drew, Act.put, List.setIfInBounds_toArray, List.set_cons_succ, List.set_cons_zero]))
  refine wpQuiet_nil ?_
  refine WD.free [9] (by kernel_rfl) hbd ?_
  simp only [pick, List.toList_toArray, List.map_cons, List.map_nil, List.getD_cons_succ, List.getD_cons_zero]
  repeat (first | (refine quiet_load_1R (by rfl) _ _ rfl rfl (.int .i64 I) (fun w0 h => h.cell 1) _ Try.underlying3 rfl ?_; simp only [World.size_alloc, World.size_drew, Act.put, List.setIfInBounds_toArray, List.set_cons_succ, List.set_cons_zero]) | go_big_quiet_step (fail) | (refine quiet_max_v (by rfl) _ _ _ rfl .i64 I 0 (n : Int) rfl rfl hmx' ?_; simp only [World.size_alloc, World.size_drew, Act.put, List.setIfInBounds_toArray, List.set_cons_succ, List.set_cons_zero]))
  refine wpQuiet_nil ?_
  refine WD.eff2 3 10 (by kernel_rfl) ?_ ?_
  all_goals simp only [pick, List.toList_toArray, List.map_cons, List.map_nil, List.getD_cons_succ, List.getD_cons_zero]
  · skip
    go_wp2_with (go_at_call 19; refine (HP.out _).mono ?_; rintro e w3 ⟨rfl, hb3, f3⟩)
    have e3 := Ev.perm (e1d.new f3 (On.pow (pw := some (_, n)) ⟨hb3, hIn⟩) (fun y hy => by simp [Res.pow, pwF] at hy ⊢; omega)) (List.Perm.swap _ _ _)
    have c3 := boxAt e3.held
    try refine wpList_nil ?_
    refine AfterD.on c3 (by kernel_rfl) ?_
    try simp only [World.size_alloc, World.size_drew, Act.put, List.setIfInBounds_toArray, List.set_cons_succ, List.set_cons_zero]
    refine WD.eff2 4 10 (by kernel_rfl) ?_ ?_
    all_goals simp only [pick, List.toList_toArray, List.map_cons, List.map_nil, List.getD_cons_succ, List.getD_cons_zero]
    · skip
      go_wp2_with (go_at_call 20; refine (HW.out _ [Res.blk b [.int .i64 8, .int .i64 I, bt C, .string T, K]] _ _ e3.held).mono ?_; rintro e w4 ⟨rfl, v4⟩)
      have e4 := e3.trans v4
      have c4 := boxAt e4.held
      try refine wpList_nil ?_
      refine AfterD.on c4 (by kernel_rfl) ?_
      try simp only [World.size_alloc, World.size_drew, Act.put, List.setIfInBounds_toArray, List.set_cons_succ, List.set_cons_zero]
      refine WD.eff 10 (by kernel_rfl) ?_
      simp only [pick, List.toList_toArray, List.map_cons, List.map_nil, List.getD_cons_succ, List.getD_cons_zero]
      refine wpList_box rfl _ _ rfl [.int .i64 (n : Int)] rfl ?_
      intro w5 f5 _ hb5
      have e5 := Ev.perm (e4.new f5 (On.pow (pw := some (_, n)) ⟨hb5, hIn⟩) (fun y hy => by simp [Res.pow, pwF] at hy ⊢; omega)) (List.Perm.swap _ _ _)
      have c5 := boxAt e5.held
      simp only [World.size_alloc, World.size_drew, Act.put, List.setIfInBounds_toArray, List.set_cons_succ, List.set_cons_zero]
      try refine wpList_nil ?_
      refine AfterD.on c5 (by kernel_rfl) ?_
      try simp only [World.size_alloc, World.size_drew, Act.put, List.setIfInBounds_toArray, List.set_cons_succ, List.set_cons_zero]
      refine WD.eff 11 (by kernel_rfl) ?_
      simp only [pick, List.toList_toArray, List.map_cons, List.map_nil, List.getD_cons_succ, List.getD_cons_zero]
      go_wp2_with (go_at_call 21; refine (HV.out _ [Res.blk b [.int .i64 8, .int .i64 I, bt C, .string T, K]] _ _ e5.held).mono ?_; rintro e w6 ⟨rfl, v6⟩)
      have e9 := e5.trans v6
      have c6 := boxAt e9.held
      try refine wpList_nil ?_
      refine AfterD.on c6 (by kernel_rfl) ?_
      try simp only [World.size_alloc, World.size_drew, Act.put, List.setIfInBounds_toArray, List.set_cons_succ, List.set_cons_zero]
      refine WD.pure [12, 13] (by kernel_rfl) c6 ?_
      simp only [pick, List.toList_toArray, List.map_cons, List.map_nil, List.getD_cons_succ, List.getD_cons_zero]
      repeat (first | (refine quiet_load_1R (by rfl) _ _ rfl rfl (.int .i64 I) (fun w0 h => h.cell 1) _ Try.underlying3 rfl ?_; simp only [World.size_alloc, World.size_drew, Act.put, List.setIfInBounds_toArray, List.set_cons_succ, List.set_cons_zero]) | go_big_quiet_step (fail) | (refine quiet_max_v (by rfl) _ _ _ rfl .i64 I 0 (n : Int) rfl rfl hmx' ?_; simp only [World.size_alloc, World.size_drew, Act.put, List.setIfInBounds_toArray, List.set_cons_succ, List.set_cons_zero]))
      refine wpQuiet_nil ?_
      refine WD.done (by kernel_rfl) ?_
      go_wp2_with fail
      go_ret
      exact ⟨by simp, _, _, Ev.unbox e9⟩
    · skip
      skip
      refine wpList_box rfl _ _ rfl [.int .i64 (n : Int)] rfl ?_
      intro w5 f5 _ hb5
      have e5 := Ev.perm (e3.new f5 (On.pow (pw := some (_, n)) ⟨hb5, hIn⟩) (fun y hy => by simp [Res.pow, pwF] at hy ⊢; omega)) (List.Perm.swap _ _ _)
      have c5 := boxAt e5.held
      simp only [World.size_alloc, World.size_drew, Act.put, List.setIfInBounds_toArray, List.set_cons_succ, List.set_cons_zero]
      try refine wpList_nil ?_
      refine AfterD.on c5 (by kernel_rfl) ?_
      try simp only [World.size_alloc, World.size_drew, Act.put, List.setIfInBounds_toArray, List.set_cons_succ, List.set_cons_zero]
      refine WD.eff 4 (by kernel_rfl) ?_
      simp only [pick, List.toList_toArray, List.map_cons, List.map_nil, List.getD_cons_succ, List.getD_cons_zero]
      go_wp2_with (go_at_call 20; refine (HW.out _ [Res.blk b [.int .i64 8, .int .i64 I, bt C, .string T, K], Res.pow (some (_, n))] _ _ e5.held).mono ?_; rintro e w4 ⟨rfl, v4⟩)
      have e4 := e5.trans v4
      have c4 := boxAt e4.held
      try refine wpList_nil ?_
      refine AfterD.on c4 (by kernel_rfl) ?_
      try simp only [World.size_alloc, World.size_drew, Act.put, List.setIfInBounds_toArray, List.set_cons_succ, List.set_cons_zero]
      refine WD.eff 11 (by kernel_rfl) ?_
      simp only [pick, List.toList_toArray, List.map_cons, List.map_nil, List.getD_cons_succ, List.getD_cons_zero]
      go_wp2_with (go_at_call 21; refine (HV.out _ [Res.blk b [.int .i64 8, .int .i64 I, bt C, .string T, K]] _ _ e4.held).mono ?_; rintro e w6 ⟨rfl, v6⟩)
      have e9 := e4.trans v6
      have c6 := boxAt e9.held
      try refine wpList_nil ?_
      refine AfterD.on c6 (by kernel_rfl) ?_
      try simp only [World.size_alloc, World.size_drew, Act.put, List.setIfInBounds_toArray, List.set_cons_succ, List.set_cons_zero]
      refine WD.pure [12, 13] (by kernel_rfl) c6 ?_
      simp only [pick, List.toList_toArray, List.map_cons, List.map_nil, List.getD_cons_succ, List.getD_cons_zero]
      repeat (first | (refine quiet_load_1R (by rfl) _ _ rfl rfl (.int .i64 I) (fun w0 h => h.cell 1) _ Try.underlying3 rfl ?_; simp only [World.size_alloc, World.size_drew, Act.put, List.setIfInBounds_toArray, List.set_cons_succ, List.set_cons_zero]) | go_big_quiet_step (fail) | (refine quiet_max_v (by rfl) _ _ _ rfl .i64 I 0 (n : Int) rfl rfl hmx' ?_; simp only [World.size_alloc, World.size_drew, Act.put, List.setIfInBounds_toArray, List.set_cons_succ, List.set_cons_zero]))
      refine wpQuiet_nil ?_
      refine WD.done (by kernel_rfl) ?_
      go_wp2_with fail
      go_ret
      exact ⟨by simp, _, _, Ev.unbox e9⟩
  · skip
    skip
    refine wpList_box rfl _ _ rfl [.int .i64 (n : Int)] rfl ?_
    intro w5 f5 _ hb5
    have e5 := Ev.perm (e1d.new f5 (On.pow (pw := some (_, n)) ⟨hb5, hIn⟩) (fun y hy => by simp [Res.pow, pwF] at hy ⊢; omega)) (List.Perm.swap _ _ _)
    have c5 := boxAt e5.held
    simp only [World.size_alloc, World.size_drew, Act.put, List.setIfInBounds_toArray, List.set_cons_succ, List.set_cons_zero]
    try refine wpList_nil ?_
    refine AfterD.on c5 (by kernel_rfl) ?_
    try simp only [World.size_alloc, World.size_drew, Act.put, List.setIfInBounds_toArray, List.set_cons_succ, List.set_cons_zero]
    refine WD.eff 3 (by kernel_rfl) ?_
    simp only [pick, List.toList_toArray, List.map_cons, List.map_nil, List.getD_cons_succ, List.getD_cons_zero]
    go_wp2_with (go_at_call 19; refine (HP.out _).mono ?_; rintro e w3 ⟨rfl, hb3, f3⟩)
    have e3 := Ev.perm (e5.new f3 (On.pow (pw := some (_, n)) ⟨hb3, hIn⟩) (fun y hy => by simp [Res.pow, pwF] at hy ⊢; omega)) ((List.Perm.swap _ _ _).trans ((List.Perm.swap _ _ _).cons _))
    have c3 := boxAt e3.held
    try refine wpList_nil ?_
    refine AfterD.on c3 (by kernel_rfl) ?_
    try simp only [World.size_alloc, World.size_drew, Act.put, List.setIfInBounds_toArray, List.set_cons_succ, List.set_cons_zero]
    refine WD.eff 4 (by kernel_rfl) ?_
    simp only [pick, List.toList_toArray, List.map_cons, List.map_nil, List.getD_cons_succ, List.getD_cons_zero]
    go_wp2_with (go_at_call 20; refine (HW.out _ [Res.blk b [.int .i64 8, .int .i64 I, bt C, .string T, K], Res.pow (some (_, n))] _ _ e3.held).mono ?_; rintro e w4 ⟨rfl, v4⟩)
    have e4 := e3.trans v4
    have c4 := boxAt e4.held
    try refine wpList_nil ?_
    refine AfterD.on c4 (by kernel_rfl) ?_
    try simp only [World.size_alloc, World.size_drew, Act.put, List.setIfInBounds_toArray, List.set_cons_succ, List.set_cons_zero]
    refine WD.eff 11 (by kernel_rfl) ?_
    simp only [pick, List.toList_toArray, List.map_cons, List.map_nil, List.getD_cons_succ, List.getD_cons_zero]
    go_wp2_with (go_at_call 21; refine (HV.out _ [Res.blk b [.int .i64 8, .int .i64 I, bt C, .string T, K]] _ _ e4.held).mono ?_; rintro e w6 ⟨rfl, v6⟩)
    have e9 := e4.trans v6
    have c6 := boxAt e9.held
    try refine wpList_nil ?_
    refine AfterD.on c6 (by kernel_rfl) ?_
    try simp only [World.size_alloc, World.size_drew, Act.put, List.setIfInBounds_toArray, List.set_cons_succ, List.set_cons_zero]
    refine WD.pure [12, 13] (by kernel_rfl) c6 ?_
    simp only [pick, List.toList_toArray, List.map_cons, List.map_nil, List.getD_cons_succ, List.getD_cons_zero]
    repeat (first | (refine quiet_load_1R (by rfl) _ _ rfl rfl (.int .i64 I) (fun w0 h => h.cell 1) _ Try.underlying3 rfl ?_; simp only [World.size_alloc, World.size_drew, Act.put, List.setIfInBounds_toArray, List.set_cons_succ, List.set_cons_zero]) | go_big_quiet_step (fail) | (refine quiet_max_v (by rfl) _ _ _ rfl .i64 I 0 (n : Int) rfl rfl hmx' ?_; simp only [World.size_alloc, World.size_drew, Act.put, List.setIfInBounds_toArray, List.set_cons_succ, List.set_cons_zero]))
    refine wpQuiet_nil ?_
    refine WD.done (by kernel_rfl) ?_
    go_wp2_with fail
    go_ret
    exact ⟨by simp, _, _, Ev.unbox e9⟩
end
end Go.Proofs.Ytflapddkeeiieaa
