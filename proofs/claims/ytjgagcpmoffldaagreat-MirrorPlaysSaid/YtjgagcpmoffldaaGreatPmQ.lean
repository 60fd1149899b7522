/- Layer 7 (great seat): two new disks of the document. -/
import Derived.Test.YtjgagcpmoffldaaGreatPmP
namespace Go.Proofs.YtjgagcpmoffldaaGreat
open Go Go.Xr Go.RowKit
set_option linter.unusedVariables false
set_option linter.unusedSimpArgs false
section
variable {P : Program} {ops : Array Oper} {Q : Exit → Act → World → Prop} {a : Act} {w : World} {K : Act → World → Prop} {rest : List Oper} {o : Oper}
theorem wpList_boxP (hg : o.guard = none) (t : TypeId) (x : Operand) (ho : o.op = .box t x) (vs : List Value) (hx : a.eval x = .agg vs.toArray)
    (h : ∀ w', Fr [] w w' → w.heap.size < w'.heap.size → Blk w' w.heap.size vs → Pln w' w.heap.size → wpList P ops Q rest (a.put o.dst (.pointer (some ⟨w.heap.size, 0, none⟩))) w') : wpList P ops Q (o :: rest) a w := by
  refine Great.wpList_boxTo hg t x ho o.dst rfl w.heap.size rfl vs.toArray (by rw [hx]; rfl) ?_
  exact h _ ((Fr.refl [] w).alloc _) (by simp) (Blk.alloc w vs t) (Pln.alloc w vs.toArray t)
end
set_option maxHeartbeats 1000000 in
set_option maxRecDepth 20000 in
theorem xnewp_ok {w : World} (n : Nat) (h1 : 1 ≤ n) (h2 : n ≤ 16384) : Calls Tryz.prog 6 #[.int .i64 (n : Int)] w fun e w' => ∃ x i, e = .returned (.tuple #[.pointer (some ⟨x, 0, none⟩), .int .i64 0]) ∧ Ev w [] w' (xps x (newXD n) none i) ∧ Pln w' x := by
  obtain ⟨i9, hi9, hz9, hs9, hb9⟩ : ∃ i, Tryz.prog.info? 9 = some i ∧ i.zero = some (.string ⟨#[]⟩) ∧ i.size = 1 ∧ i.bytes = 16 := ⟨_, rfl, rfl, rfl, rfl⟩
  have Hi := hid hi9
  have Hz := hid hz9
  have Hs := hid hs9
  have Hb := hid hb9
  clear hi9 hz9 hs9 hb9
  have hd : decide ((n : Int) < 1) = false := by simp; omega
  have hd' : ¬ ((n : Int) < 1) := by omega
  have hd1 : decide (16384 < (n : Int)) = false := by simp; omega
  have hd1' : ¬ (16384 < (n : Int)) := by omega
  go_enter Tryz.func6, Tryz.ntmps6
  go_wp2_with (refine wpList_boxP rfl _ _ rfl [.slice none 0 0, .slice none 0 0, .slice none 0 0, .bool false, .pointer none] rfl ?_; intro w1 f1 hlt1 hb1 hp1; simp only [World.size_alloc, World.size_drew, Act.put, List.setIfInBounds_toArray, List.set_cons_succ, List.set_cons_zero])
  obtain ⟨x, hx⟩ : ∃ x, w.heap.size = x := ⟨_, rfl⟩
  have e1 : Ev w [] w1 (xps x (newXD 0) none ⟨.slice none 0 0, .slice none 0 0, .slice none 0 0, none, none, none⟩) := by
    rw [hx] at hb1
    have a1 := (Ev.start w).new f1 (Res.On.own (Own.nil w1 1)) (by simp [Res.own])
    have a2 := a1.new (Fr.refl [] _) (Res.On.own (Own.nil w1 2)) (by simp [Res.own])
    have a3 := a2.new (Fr.refl [] _) (Res.On.own (Own.nil w1 1)) (by simp [Res.own])
    refine ⟨a3.held.new (Res.On.blk hb1) (by simp [Res.blk, Res.own]), f1, ?_⟩
    intro b hb
    refine .inr ?_
    simp [feetOf, xps, Res.blk, Res.own] at hb
    omega
  have E1 := hid e1
  rw [hx]
  rw [hx] at hp1
  have P1 := hid hp1
  clear e1 hb1 f1 hlt1 hx hp1
  go_loopw [5] (fun kv wr => ∃ (m : Nat) (v : Value) (K : Option Nat), kv = .int .i64 (m : Int) ∧ m ≤ n ∧ Ev w [] wr (xps x (newXD m) none ⟨v, .slice none 0 0, .slice none 0 0, K, none, none⟩) ∧ Hid (Pln wr x)) (fun kv _ => n - (intOf kv).toNat)
  case atStart => exact ⟨0, _, none, rfl, Nat.zero_le _, E1.out, P1⟩
  case round =>
    obtain ⟨m, v, K, rfl, hm, ev, PR⟩ := hrel
    clear E1 P1
    by_cases hmn : m < n
    · have g1 : decide ((m : Int) < (n : Int)) = true := by simp; omega
      have g1' : (m : Int) < (n : Int) := by omega
      have ho : Xr.Own wr 1 v (List.replicate m Zs).length ((List.replicate m Zs).map .string) K := ev.held.ownAt 1 rfl
      rw [List.length_replicate] at ho
      obtain ⟨va, vc, rfl⟩ := ho.isSlice
      have hb : Blk wr x [.slice va m vc, .slice none 0 0, .slice none 0 0, .bool false, .pointer none] := ev.held.blkAt 0 rfl
      have hxK : ∀ b, K = some b → b ≠ x := by
        intro b hb e
        subst hb
        exact ev.held.idx_ne (i := 1) (j := 0) (by decide) rfl rfl b (by simp [Res.own]) (by simp [Res.blk, e])
      have EV := hid ev
      have HO := hid ho
      clear ev ho
      go_wp2_with fail
      refine wp_region_D (fun w' => Blk w' x [.slice va m vc, .slice none 0 0, .slice none 0 0, .bool false, .pointer none]) true [] (by kernel_rfl) ?_
      refine WD.free [0, 1, 2, 3] (by kernel_rfl) hb.drew ?_
      simp only [pick, List.toList_toArray, List.map_cons, List.map_nil, List.getD_cons_succ, List.getD_cons_zero]
      repeat (first | (refine quiet_load_1R (by rfl) _ _ rfl rfl (.slice va m vc) (fun w0 h => h.cell 0) _ Tryz.underlying64 rfl ?_; simp only [World.size_alloc, World.size_drew, Act.put, List.setIfInBounds_toArray, List.set_cons_succ, List.set_cons_zero]) | go_big_quiet_step (fail))
      refine wpQuiet_nil ?_
      refine WD.held [4] (by kernel_rfl) hb.drew ?_
      simp only [pick, List.toList_toArray, List.map_cons, List.map_nil, List.getD_cons_succ, List.getD_cons_zero]
      repeat (first | (refine quiet_load_1R (by rfl) _ _ rfl rfl (.slice va m vc) (fun w0 h => h.cell 0) _ Tryz.underlying64 rfl ?_; simp only [World.size_alloc, World.size_drew, Act.put, List.setIfInBounds_toArray, List.set_cons_succ, List.set_cons_zero]) | go_big_quiet_step (fail))
      refine wpQuiet_nil ?_
      refine WD.eff 5 (by kernel_rfl) ?_
      simp only [pick, List.toList_toArray, List.map_cons, List.map_nil, List.getD_cons_succ, List.getD_cons_zero]
      have f0 : Fr [] wr wr.drew := (Fr.refl [] wr).drew
      go_wp2_with (go_at_call 24; refine xnought_any.mono ?_; rintro e w5 ⟨rfl, f5⟩)
      have b5 := f5.blk hb.drew (by simp)
      try refine wpList_nil ?_
      refine AfterD.on b5 (by kernel_rfl) ?_
      try simp only [World.size_alloc, World.size_drew, Act.put, List.setIfInBounds_toArray, List.set_cons_succ, List.set_cons_zero]
      refine WD.eff 6 (by kernel_rfl) ?_
      simp only [pick, List.toList_toArray, List.map_cons, List.map_nil, List.getD_cons_succ, List.getD_cons_zero]
      go_wp2_with (refine wpList_buildSlice_r rfl _ 1 _ rfl 9 Tryz.underlying64 _ _ Hi.out Hz.out rfl Hs.out (by decide) (by decide) (by decide) [.string Zs] rfl (by intro v hv; simp at hv; rcases hv with rfl; rfl) ?_; intro w6 f6 hlt6 hb6; simp only [World.size_alloc, World.size_drew, Act.put, List.setIfInBounds_toArray, List.set_cons_succ, List.set_cons_zero])
      have b6 := f6.blk b5 (by simp)
      try refine wpList_nil ?_
      refine AfterD.on b6 (by kernel_rfl) ?_
      try simp only [World.size_alloc, World.size_drew, Act.put, List.setIfInBounds_toArray, List.set_cons_succ, List.set_cons_zero]
      refine WD.eff 7 (by kernel_rfl) ?_
      simp only [pick, List.toList_toArray, List.map_cons, List.map_nil, List.getD_cons_succ, List.getD_cons_zero]
      have g6 := (f0.trans' f5).trans' f6
      go_wp2_with (refine wpList_append_rc rfl _ _ _ rfl 9 _ _ 1 16 Tryz.underlying64 Hi.out Hz.out Hs.out Hb.out rfl (by decide) rfl (HO.out.keep g6 (by simp)) rfl (rc_blk hb6 rfl (by decide)) (by intro u hu; simp at hu; subst hu; rfl) (by unfold maxLen; omega) (by omega) ?_; intro v7 w7 B7 ho7 f7 hB7; obtain ⟨wa, wc, rfl⟩ := ho7.isSlice; simp only [World.size_alloc, World.size_drew, Act.put, List.setIfInBounds_toArray, List.set_cons_succ, List.set_cons_zero])
      have b7 := f7.blk b6 (fun hb => hxK x (by simpa using hb) rfl)
      try refine wpList_nil ?_
      refine AfterD.on b7 (by kernel_rfl) ?_
      try simp only [World.size_alloc, World.size_drew, Act.put, List.setIfInBounds_toArray, List.set_cons_succ, List.set_cons_zero]
      refine WD.pure [8, 9] (by kernel_rfl) b7 ?_
      simp only [pick, List.toList_toArray, List.map_cons, List.map_nil, List.getD_cons_succ, List.getD_cons_zero]
      repeat (first | (refine quiet_load_1R (by rfl) _ _ rfl rfl (.slice va m vc) (fun w0 h => h.cell 0) _ Tryz.underlying64 rfl ?_; simp only [World.size_alloc, World.size_drew, Act.put, List.setIfInBounds_toArray, List.set_cons_succ, List.set_cons_zero]) | go_big_quiet_step (fail))
      refine wpQuiet_nil ?_
      refine WD.eff 10 (by kernel_rfl) ?_
      simp only [pick, List.toList_toArray, List.map_cons, List.map_nil, List.getD_cons_succ, List.getD_cons_zero]
      go_wp2_with (refine wpList_put rfl _ _ _ rfl rfl (.slice wa (m + 1) wc) rfl rfl b7 (by simp) (by kernel_rfl) ?_; intro w8 f8 b8 hs8; simp only [World.size_alloc, World.size_drew, Act.put, List.setIfInBounds_toArray, List.set_cons_succ, List.set_cons_zero])
      try refine wpList_nil ?_
      refine AfterD.end rfl (by kernel_rfl) ?_
      try simp only [World.size_alloc, World.size_drew, Act.put, List.setIfInBounds_toArray, List.set_cons_succ, List.set_cons_zero]
      refine WD.done (by kernel_rfl) ?_
      go_wp2_with fail
      go_roundw
      case rel =>
        refine ⟨m + 1, .slice wa (m + 1) wc, B7, by first | rfl | go_num, by omega, ?_, hid (f8.plain _ (f7.plain _ (g6.plain _ PR.out)))⟩
        have e7 := xapp_ev (EV.out.step g6) 1 rfl ho7 f7 hB7
        have e8 := e7.put 0 rfl f8 b8
        have hx : xps x (newXD (m + 1)) none ⟨.slice wa (m + 1) wc, .slice none 0 0, .slice none 0 0, B7, none, none⟩ = [Res.blk x [.slice wa (m + 1) wc, .slice none 0 0, .slice none 0 0, .bool false, .pointer none], Res.own 1 (.slice wa (m + 1) wc) (m + 1) ((List.replicate m Zs).map .string ++ [.string Zs]) B7, Res.own 2 (.slice none 0 0) 0 [] none, Res.own 1 (.slice none 0 0) 0 [] none] := by
          unfold xps newXD
          simp only [List.length_replicate, List.replicate_succ', List.map_append, List.map_cons, List.map_nil, List.length_append, List.length_cons, List.length_nil]
          rfl
        rw [hx]
        exact e8
      case measure => simp [intOf]; omega
    · have g1 : decide ((m : Int) < (n : Int)) = false := by simp; omega
      have g1' : ¬ ((m : Int) < (n : Int)) := by omega
      have hmn2 : m = n := by omega
      rw [hmn2] at ev
      clear hmn2
      go_wp2_with fail
      go_ret2
      exact ⟨x, rfl, ⟨_, ev⟩, PR.out⟩
section
variable {w w1 w2 : World} {rs : List Res} {x0 x1 n0 n1 : Nat} {F0 F1 : List Nat} {i0 i1 : XI}
theorem xdk_new {w : World} {x n : Nat} {i : XI} (h : Held w (xps x (newXD n) none i)) (hp : Pln w x) (pbs : List Nat) : (xdk x (newXD n) pbs none (feetOf (xps x (newXD n) none i))).On w :=
  On.xdk (k := none) (lf := none) h rfl hp
end
end Go.Proofs.YtjgagcpmoffldaaGreat
