/- Layer 6: SectorPowers, the walk. -/
import Derived.Test.YtflapddkeeiieaaGPair
import Derived.Test.YtflapddkeeiieaaRws
namespace Go.Proofs.Ytflapddkeeiieaa
open Go Go.Xr Go.RowKit Go.ChangeShapes Go.WideShapes Go.Deep
set_option linter.unusedVariables false
set_option linter.unusedSimpArgs false
theorem wi_new {X : XD} (hd : X.Dead = false) (pb p n : Nat) : wiC X none = 0 ∧ wiL X none n = some n ∧ wiB X none pb p = p := by
  unfold wiC wiL wiB xdead
  rw [hd]
  exact ⟨rfl, rfl, rfl⟩
theorem po_does {w wr : World} {SL : List Res} {p q n d x d' x' : Nat} {X Y : XD} {F G : List Nat} {i j : XI} (e : Ev w [] wr (SL ++ two p q n d x X F i d' x' Y G j)) (hX : XGood X) (hl : X.L.length < 1000) (ht : X.Trace.length < 1000) (s : StepD) (hs : StWide w s) (hT : s.Text.size ≤ 2000) (h3 : s.Do ≠ 3) (h8 : s.Do ≠ 8) :
    Calls Try.prog 17 #[.pointer (some ⟨d, 0, none⟩), .pointer (some ⟨x, 0, none⟩), .agg #[.int .i64 s.Do, .int .i64 s.I, bt s.C, .string s.Text, s.Keep]] wr fun e w' => e = .returned (.bool true) ∧
      ∃ X' n' F' i', Ev w [] w' (SL ++ two p q n' d x X' F' i' d' x' Y G j) ∧ XGood X' ∧ X'.L.length ≤ X.L.length + 1 ∧ X'.Trace.length ≤ X.Trace.length + 1 ∧ n' + X'.Trace.length = n + X.Trace.length := by
  have hp := two_first e.held
  refine (does_any hp hX (by omega) (by omega) s (hs.keep e.fr) hT (fun b hb hbf => kb_ne hs e b hb (by
    unfold two
    simp only [feetOf, List.flatMap_append, List.mem_append] at hbf ⊢
    exact .inr (.inl hbf)))).mono ?_
  rintro e' w' ⟨rfl, X', lf', pb', qb', F', i', ev5, nx⟩
  obtain ⟨rfl, rfl, hn⟩ := nx.pw h3 h8
  obtain ⟨n', rfl, hn'⟩ := hn n rfl
  exact ⟨rfl, X', n', F', i', two_step e ev5, nx.good, nx.L, nx.T, hn'⟩
theorem flL_none (X : XD) : flL X none = none := by
  unfold flL
  cases xdead X (mk 0 none) <;> rfl
theorem po_swap {w wr : World} {SL : List Res} {p q n d x d' x' : Nat} {X Y : XD} {F G : List Nat} {i j : XI} (e : Ev w [] wr (SL ++ two p q n d x X F i d' x' Y G j)) : Ev w [] wr (SL ++ two p q n d' x' Y G j d x X F i) := Ev.perm e (two_swap.append_left SL)
set_option maxHeartbeats 8000000 in
set_option maxRecDepth 20000 in
theorem powers_walk {w : World} (N : Int) (hN : -9223372036854775808 ≤ N ∧ N ≤ 9223372036854775807) {v u : Value} {l : List StepD} {ks : List Bool} {LB KB : Option Nat} (hl : Rc w 5 v l.length (l.flatMap stc) LB) (hlok : ∀ s ∈ l, StWide w s) (hlm : l.length ≤ 9223372036854775807) (hk : Rc w 1 u ks.length (ks.map .bool) KB) (hkm : ks.length ≤ 9223372036854775807) :
    Calls Try.prog 5 #[.int .i64 N, v, u] w fun e w' => e = .returned (.bool true) ∧ Fr [] w w' := by
  obtain ⟨la, lc, rfl⟩ := hl.isSlice
  obtain ⟨ka, kc, rfl⟩ := hk.isSlice
  obtain ⟨i24, hi24, hz24, hs24, hb24⟩ : ∃ i, Try.prog.info? 24 = some i ∧ i.zero = some (.pointer none) ∧ i.size = 1 ∧ i.bytes = 8 := ⟨_, rfl, rfl, rfl, rfl⟩
  obtain ⟨i43, hi43, hz43, hs43, hb43⟩ : ∃ i, Try.prog.info? 43 = some i ∧ i.zero = some (.pointer none) ∧ i.size = 1 ∧ i.bytes = 8 := ⟨_, rfl, rfl, rfl, rfl⟩
  have Hi24 := hid hi24
  have Hz24 := hid hz24
  have Hs24 := hid hs24
  have Hb24 := hid hb24
  have Hi43 := hid hi43
  have Hz43 := hid hz43
  have Hs43 := hid hs43
  have Hb43 := hid hb43
  clear hi24 hz24 hs24 hb24 hi43 hz43 hs43 hb43
  have HL := hid fun (wr : World) (f : Fr [] w wr) (j : Nat) (hj : j < l.length) => step_here hl hlok rfl f j hj
  have HK := hid hk
  have HP := hid fun w1 : World => newPower_int w1 N hN.1 hN.2
  have hmx : max N 0 = (N.toNat : Int) := by omega
  have hNn : N.toNat ≤ 9223372036854775807 := by omega
  have hgood := newXD_good (n := 4) (by decide) (by decide)
  have hdead : (newXD 4).Dead = false := rfl
  have hnil : (newXD 4).L.length = 0 ∧ (newXD 4).Trace.length = 0 := ⟨rfl, rfl⟩
  generalize l.length = ln at *
  generalize hkn : ks.length = kn at *
  generalize N.toNat = n0 at *
  obtain ⟨X0, hX0⟩ : ∃ X0, newXD 4 = X0 := ⟨_, rfl⟩
  rw [hX0] at hgood hdead hnil
  have HX0 := hid hX0
  have HG := hid hgood
  have HW := wi_new hdead 0
  clear hl hlok hk hX0 hgood
  go_enter Try.func5, Try.ntmps5
  go_wp2_with (first
    | (go_at_call 19; refine (HP.out _).mono ?_; rintro e w1 ⟨rfl, hb1, f1⟩)
    | (refine wpList_box rfl _ _ rfl [.int .i64 (n0 : Int)] (by rw [← hmx]; rfl) ?_; intro w2 f2 hlt2 hb2; simp only [World.size_alloc, World.size_drew, Act.put, List.setIfInBounds_toArray, List.set_cons_succ, List.set_cons_zero]))
  have e1 : Ev w [] w1 [Res.pow (some (w.heap.size, n0))] := (Ev.refl (Held.nil w)).new f1 (On.pow (pw := some (_, n0)) ⟨hb1, hNn⟩) (fun b hb => by simp [Res.pow, pwF] at hb; omega)
  have e2 : Ev w [] w2 [Res.pow (some (w1.heap.size, n0)), Res.pow (some (w.heap.size, n0))] := e1.new f2 (On.pow (pw := some (_, n0)) ⟨hb2, hNn⟩) (fun b hb => by simp [Res.pow, pwF] at hb; omega)
  obtain ⟨p, hp⟩ : ∃ p, w.heap.size = p := ⟨_, rfl⟩
  obtain ⟨q, hq⟩ : ∃ q, w1.heap.size = q := ⟨_, rfl⟩
  rw [hp, hq] at e2 ⊢
  clear hb1 f1 f2 hlt2 hb2 e1 hp hq
  refine wp_loop_rounds 3 ?_
  rw [rounds_succ]
  go_wp2_with (first
    | (go_at_call 8; refine (new_ok 4 (by decide) (by decide)).mono ?_; rintro e w3 ⟨d0, F0, rfl, hr, f3, hF⟩)
    | (go_at_call 16; refine (xnew_ok 4 (by decide) (by decide)).mono ?_; rintro e w4 ⟨x0, i0, rfl, ev4⟩; have e4 := pr_add e2 hr f3 hF ev4; rw [← dOf_new, HX0.out] at e4; have e4' : Ev w [] w4 ([Res.pow (some (q, n0))] ++ Res.pow (some (p, n0)) :: pr d0 (dOf X0) (mk 0 none) F0 x0 X0 (mk 0 none) i0) := Ev.perm e4 List.perm_append_comm; have E4 := hid e4'; have hwi := cwire_any e4'.held; rw [(HW p n0).1, (HW p n0).2.1, (HW p n0).2.2] at hwi; clear hr f3 hF ev4 e4 e4' e2)
    | (go_at_call 20; refine hwi.mono ?_; rintro e w5 ⟨rfl, v5⟩; have E5 := hid (E4.out.trans v5); have hwj := dwire_any (l := []) E5.out.held; rw [(HW q n0).1, (HW q n0).2.1, (HW q n0).2.2] at hwj; clear hwi E4 v5)
    | (go_at_call 21; refine hwj.mono ?_; rintro e w6 ⟨rfl, v6⟩; have E6 := hid (E5.out.trans v6); clear hwj E5 v6)
    | (refine wpList_buildSlice_r rfl _ 1 _ rfl 24 Try.underlying54 _ _ Hi24.out Hz24.out rfl Hs24.out (by decide) (by decide) (by decide) [.pointer (some ⟨d0, 0, none⟩)] rfl (by intro v hv; simp at hv; subst hv; rfl) ?_; intro w7 f7 hlt7 hb7; simp only [World.size_alloc, World.size_drew, Act.put, List.setIfInBounds_toArray, List.set_cons_succ, List.set_cons_zero])
    | (refine wpList_append_rc rfl _ _ _ rfl 24 _ _ 1 8 Try.underlying54 Hi24.out Hz24.out Hs24.out Hb24.out rfl (by decide) rfl (Xr.Own.nil _ 1) rfl (rc_blk hb7 rfl (by decide)) (by intro v hv; simp at hv; subst hv; rfl) (by unfold maxLen; omega) (by omega) ?_; intro v8 w8 B8 ho8 f8 hB8; simp only [World.size_alloc, World.size_drew, Act.put, List.setIfInBounds_toArray, List.set_cons_succ, List.set_cons_zero])
    | (refine wpList_buildSlice_r rfl _ 1 _ rfl 43 Try.underlying55 _ _ Hi43.out Hz43.out rfl Hs43.out (by decide) (by decide) (by decide) [.pointer (some ⟨x0, 0, none⟩)] rfl (by intro v hv; simp at hv; subst hv; rfl) ?_; intro w9 f9 hlt9 hb9; simp only [World.size_alloc, World.size_drew, Act.put, List.setIfInBounds_toArray, List.set_cons_succ, List.set_cons_zero])
    | (refine wpList_append_rc rfl _ _ _ rfl 43 _ _ 1 8 Try.underlying55 Hi43.out Hz43.out Hs43.out Hb43.out rfl (by decide) rfl (Xr.Own.nil _ 1) rfl (rc_blk hb9 rfl (by decide)) (by intro v hv; simp at hv; subst hv; rfl) (by unfold maxLen; omega) (by omega) ?_; intro v10 w10 B10 ho10 f10 hB10; simp only [World.size_alloc, World.size_drew, Act.put, List.setIfInBounds_toArray, List.set_cons_succ, List.set_cons_zero]))
  rw [Nat.zero_add, List.nil_append] at ho8 ho10
  have e7 := E6.out.step f7
  have e8 := e7.new f8 (Res.On.own ho8) (fun b hb => by rcases hB8 with rfl | ⟨b8, rfl, h8⟩; (· cases hb); (· simp [Res.own] at hb; omega))
  have e9 := e8.step f9
  have e10 : Ev w [] w10 ([Res.own 1 v10 1 [.pointer (some ⟨x0, 0, none⟩)] B10, Res.own 1 v8 1 [.pointer (some ⟨d0, 0, none⟩)] B8] ++ pr d0 (dOf X0) (mk p (some n0)) F0 x0 X0 (mk q (some n0)) i0) := e9.new f10 (Res.On.own ho10) (fun b hb => by rcases hB10 with rfl | ⟨b8, rfl, h8⟩; (· cases hb); (· simp [Res.own] at hb; omega))
  have hnd : X0.Dead = false := hdead
  clear E6 e7 e8 e9 f7 hlt7 hb7 ho8 f8 hB8 f9 hlt9 hb9 ho10 f10 hB10 HW
  rw [rounds_succ]
  go_wp2_with (first
    | (go_at_call 8; refine (new_ok 4 (by decide) (by decide)).mono ?_; rintro e w3 ⟨d1, F1, rfl, hr, f3, hF⟩)
    | (go_at_call 16; refine (xnew_ok 4 (by decide) (by decide)).mono ?_; rintro e w4 ⟨x1, i1, rfl, ev4⟩; have e4 := pr_add e10 hr f3 hF ev4; rw [← dOf_new, HX0.out] at e4; have E4 := hid e4; have hwi := wire2_any (p := p) (n := n0) (Held.part [] _ e4.held) hnd; clear hr f3 hF ev4 e4 e10)
    | (go_at_call 20; refine hwi.mono ?_; rintro e w5 ⟨rfl, v5⟩; have E5 := hid (Ev.then [] _ E4.out v5); have hwj := dwire2_any (p := q) (n := n0) (Held.part [] _ E5.out.held) hnd; clear hwi E4 v5)
    | (go_at_call 21; refine hwj.mono ?_; rintro e w6 ⟨rfl, v6⟩; have E6 := hid (Ev.then [] _ E5.out v6); clear hwj E5 v6)
    | (refine wpList_buildSlice_r rfl _ 1 _ rfl 24 Try.underlying54 _ _ Hi24.out Hz24.out rfl Hs24.out (by decide) (by decide) (by decide) [.pointer (some ⟨d1, 0, none⟩)] rfl (by intro v hv; simp at hv; subst hv; rfl) ?_; intro w7 f7 hlt7 hb7; have E7 := hid (E6.out.step f7); clear E6; simp only [World.size_alloc, World.size_drew, Act.put, List.setIfInBounds_toArray, List.set_cons_succ, List.set_cons_zero])
    | (refine wpList_append_rc rfl _ _ _ rfl 24 _ _ 1 8 Try.underlying54 Hi24.out Hz24.out Hs24.out Hb24.out rfl (by decide) rfl (E7.out.held.ownAt 6 rfl) rfl (rc_blk hb7 rfl (by decide)) (by intro v hv; simp at hv; subst hv; rfl) (by unfold maxLen; omega) (by omega) ?_; intro v11 w8 B11 ho11 f8 hB11; have E8 := hid (xapp_ev E7.out 6 rfl ho11 f8 hB11); clear E7 ho11 f8 hB11 f7 hlt7 hb7; simp only [World.size_alloc, World.size_drew, Act.put, List.setIfInBounds_toArray, List.set_cons_succ, List.set_cons_zero])
    | (refine wpList_buildSlice_r rfl _ 1 _ rfl 43 Try.underlying55 _ _ Hi43.out Hz43.out rfl Hs43.out (by decide) (by decide) (by decide) [.pointer (some ⟨x1, 0, none⟩)] rfl (by intro v hv; simp at hv; subst hv; rfl) ?_; intro w9 f9 hlt9 hb9; have E9 := hid (E8.out.step f9); clear E8; simp only [World.size_alloc, World.size_drew, Act.put, List.setIfInBounds_toArray, List.set_cons_succ, List.set_cons_zero])
    | (refine wpList_append_rc rfl _ _ _ rfl 43 _ _ 1 8 Try.underlying55 Hi43.out Hz43.out Hs43.out Hb43.out rfl (by decide) rfl (E9.out.held.ownAt 5 rfl) rfl (rc_blk hb9 rfl (by decide)) (by intro v hv; simp at hv; subst hv; rfl) (by unfold maxLen; omega) (by omega) ?_; intro v12 w12 B12 ho12 f12 hB12; have E12 := hid (xapp_ev E9.out 5 rfl ho12 f12 hB12); clear E9 ho12 f12 hB12 f9 hlt9 hb9; simp only [World.size_alloc, World.size_drew, Act.put, List.setIfInBounds_toArray, List.set_cons_succ, List.set_cons_zero]))
  have e13 : Ev w [] w12 ([Res.own 1 v12 2 [.pointer (some ⟨x0, 0, none⟩), .pointer (some ⟨x1, 0, none⟩)] B12, Res.own 1 v11 2 [.pointer (some ⟨d0, 0, none⟩), .pointer (some ⟨d1, 0, none⟩)] B11] ++ two p q n0 d0 x0 X0 F0 i0 d1 x1 X0 F1 i1) :=
    Ev.perm E12.out (show (dx d1 (dOf X0) (some (p, n0)) F1 x1 X0 (some (q, n0)) i1 ++ ([Res.own 1 v12 2 [.pointer (some ⟨x0, 0, none⟩), .pointer (some ⟨x1, 0, none⟩)] B12, Res.own 1 v11 2 [.pointer (some ⟨d0, 0, none⟩), .pointer (some ⟨d1, 0, none⟩)] B11] ++ pr d0 (dOf X0) (mk p (some n0)) F0 x0 X0 (mk q (some n0)) i0)).Perm _ from by
      unfold two
      rw [← List.append_assoc _ (pr d0 (dOf X0) (mk p (some n0)) F0 x0 X0 (mk q (some n0)) i0)]
      exact List.perm_append_comm)
  clear E12
  rw [rounds_succ]
  go_wp2_with fail
  obtain ⟨db, dc, rfl, rfl, _, _, hdc⟩ := own_open (e13.held.ownAt 1 rfl : Xr.Own w12 1 v11 2 [.pointer (some ⟨d0, 0, none⟩), .pointer (some ⟨d1, 0, none⟩)] B11) (by decide)
  obtain ⟨xb, xc, rfl, rfl, _, _, hxc⟩ := own_open (e13.held.ownAt 0 rfl : Xr.Own w12 1 v12 2 [.pointer (some ⟨x0, 0, none⟩), .pointer (some ⟨x1, 0, none⟩)] B12) (by decide)
  generalize hSL : [Res.own 1 (.slice (some ⟨xb, 0, none⟩) 2 xc) 2 [.pointer (some ⟨x0, 0, none⟩), .pointer (some ⟨x1, 0, none⟩)] (some xb), Res.own 1 (.slice (some ⟨db, 0, none⟩) 2 dc) 2 [.pointer (some ⟨d0, 0, none⟩), .pointer (some ⟨d1, 0, none⟩)] (some db)] = SL at *
  have HC := hid fun (w1 : World) (m : List Res) (h : Held w1 (SL ++ m)) => (show (w1.cell? ⟨db, 0, none⟩ = some (.pointer (some ⟨d0, 0, none⟩)) ∧ w1.cell? ⟨db, 1, none⟩ = some (.pointer (some ⟨d1, 0, none⟩))) ∧ w1.cell? ⟨xb, 0, none⟩ = some (.pointer (some ⟨x0, 0, none⟩)) ∧ w1.cell? ⟨xb, 1, none⟩ = some (.pointer (some ⟨x1, 0, none⟩)) by
    subst hSL
    have a1 : Xr.Own w1 1 (.slice (some ⟨db, 0, none⟩) 2 dc) 2 [.pointer (some ⟨d0, 0, none⟩), .pointer (some ⟨d1, 0, none⟩)] (some db) := h.ownAt 1 rfl
    have a2 : Xr.Own w1 1 (.slice (some ⟨xb, 0, none⟩) 2 xc) 2 [.pointer (some ⟨x0, 0, none⟩), .pointer (some ⟨x1, 0, none⟩)] (some xb) := h.ownAt 0 rfl
    exact ⟨⟨a1.cellAt rfl (j := 0) (by simp), a1.cellAt rfl (j := 1) (by simp)⟩, a2.cellAt rfl (j := 0) (by simp), a2.cellAt rfl (j := 1) (by simp)⟩)
  have HPW := hid fun (w1 : World) (n : Nat) (d x d' x' : Nat) (X Y : XD) (F G : List Nat) (i j : XI) (h : Held w1 (SL ++ two p q n d x X F i d' x' Y G j)) => (show pwOk w1 (some (p, n)) ∧ w1.cell? ⟨q, 0, none⟩ = some (.int .i64 (n : Int)) by
    subst hSL
    have a1 : pwOk w1 (some (p, n)) := h.at 2 rfl
    have a2 : pwOk w1 (some (q, n)) := h.at 4 rfl
    exact ⟨a1, a2.1.cell 0⟩)
  clear hdc hxc hSL
  go_loopw [16] (fun jv wr => ∃ j : Nat, j ≤ ln ∧ j ≤ 60 ∧ jv = .int .i64 (j : Int) ∧ ∃ X Y n F G i i', Ev w [] wr (SL ++ two p q n d0 x0 X F i d1 x1 Y G i') ∧ XGood X ∧ XGood Y ∧ X.L.length ≤ j ∧ Y.L.length ≤ j ∧ X.Trace.length ≤ j ∧ Y.Trace.length ≤ j ∧ X.Trace.length + Y.Trace.length + n = n0) (fun jv _ => 60 - (intOf jv).toNat)
  case atStart => exact ⟨0, Nat.zero_le _, Nat.zero_le _, rfl, X0, X0, n0, F0, F1, i0, i1, e13, HG.out, HG.out, by omega, by omega, by omega, by omega, by omega⟩
  case round =>
    obtain ⟨j, hj, hj60, rfl, X, Y, n, F, G, i, i', ev, hX, hY, hXL, hYL, hXT, hYT, hsum⟩ := hrel
    clear e13
    by_cases hend : j < ln ∧ j < 60
    · obtain ⟨hin, h60⟩ := hend
      have t1 : decide ((j : Int) < (ln : Int)) = true := by simp; omega
      have t1' : (j : Int) < (ln : Int) := by omega
      have t2 : decide ((j : Int) < 60) = true := by simp; omega
      have t2' : (j : Int) < 60 := by omega
      obtain ⟨b, off, s, rfl, _, hs, c0, c1, c2, c3, c4⟩ := HL.out _ ev.fr j hin
      have HS := hid hs
      have EV := hid ev
      obtain ⟨⟨cd0, cd1⟩, cx0, cx1⟩ := HC.out _ _ ev.held
      clear hs ev
      have hw : (∃ kb ko, ka = some ⟨kb, ko, none⟩ ∧ j < kn ∧ wr.cell? ⟨kb, ko + j, none⟩ = some (.bool true)) ∨ (∃ kb ko, ka = some ⟨kb, ko, none⟩ ∧ j < kn ∧ wr.cell? ⟨kb, ko + j, none⟩ = some (.bool false)) ∨ ¬ j < kn := by
        by_cases hjk : j < kn
        · obtain ⟨kb, ko, kcap, hB, hv, _, _, _, hc⟩ := (HK.out.keep EV.out.fr (by simp [feetOf])).some (by omega)
          have hka : ka = some ⟨kb, ko, none⟩ := by injection hv
          have hjl : j < ks.length := by omega
          have := hc j (by simpa using hjl)
          rw [List.getElem?_map, List.getElem?_eq_getElem hjl, Option.map_some] at this
          cases hb : ks[j] with
          | true => rw [hb] at this; exact .inl ⟨kb, ko, hka, hjk, this⟩
          | false => rw [hb] at this; exact .inr (.inl ⟨kb, ko, hka, hjk, this⟩)
        · exact .inr (.inr hjk)
      have HE := hid (And.intro hX (And.intro hY (And.intro hXL (And.intro hYL (And.intro hXT (And.intro hYT hsum))))))
      have a1 : X.L.length < 1000 := by omega
      have a2 : X.Trace.length < 1000 := by omega
      have a3 : Y.L.length < 1000 := by omega
      have a4 : Y.Trace.length < 1000 := by omega
      clear hX hY hXL hYL hXT hYT hsum hnil hdead
      have hsk : (2000 < s.Text.size ∨ (s.Text.size ≤ 2000 ∧ s.Do = 3) ∨ (s.Text.size ≤ 2000 ∧ s.Do ≠ 3 ∧ s.Do = 8)) ∨ (s.Text.size ≤ 2000 ∧ s.Do ≠ 3 ∧ s.Do ≠ 8) := by
        by_cases h1 : s.Text.size ≤ 2000
        · by_cases h3 : s.Do = 3
          · exact .inl (.inr (.inl ⟨h1, h3⟩))
          · by_cases h8 : s.Do = 8
            · exact .inl (.inr (.inr ⟨h1, h3, h8⟩))
            · exact .inr ⟨h1, h3, h8⟩
        · exact .inl (.inl (by omega))
      rcases hw with ⟨kb, ko, rfl, hjk, ck⟩ | ⟨kb, ko, rfl, hjk, ck⟩ | hjk
      · have t5 : decide ((j : Int) < (kn : Int)) = true := by simp; omega
        have t5' : (j : Int) < (kn : Int) := by omega
        rcases hsk with (hsk | ⟨hsk, h3⟩ | ⟨hsk, h3, h8⟩) | ⟨hsk, h3, h8⟩
        · have u1 : decide ((2000 : Int) < (s.Text.size : Int)) = true := by simp; omega
          go_wp2_with fail
          go_roundw
          case rel => exact ⟨j + 1, by omega, by omega, by go_num, X, Y, n, F, G, i, i', EV.out, HE.out.1, HE.out.2.1, by have := HE.out; omega, by have := HE.out; omega, by have := HE.out; omega, by have := HE.out; omega, by have := HE.out; omega⟩
          case measure => simp [intOf]; omega
        · have u1 : decide ((2000 : Int) < (s.Text.size : Int)) = false := by simp; omega
          have u3 : (s.Do == 3) = true := by simpa using h3
          go_wp2_with fail
          go_roundw
          case rel => exact ⟨j + 1, by omega, by omega, by go_num, X, Y, n, F, G, i, i', EV.out, HE.out.1, HE.out.2.1, by have := HE.out; omega, by have := HE.out; omega, by have := HE.out; omega, by have := HE.out; omega, by have := HE.out; omega⟩
          case measure => simp [intOf]; omega
        · have u1 : decide ((2000 : Int) < (s.Text.size : Int)) = false := by simp; omega
          have u3 : (s.Do == 3) = false := by simpa using h3
          have u8 : (s.Do == 8) = true := by simpa using h8
          go_wp2_with fail
          go_roundw
          case rel => exact ⟨j + 1, by omega, by omega, by go_num, X, Y, n, F, G, i, i', EV.out, HE.out.1, HE.out.2.1, by have := HE.out; omega, by have := HE.out; omega, by have := HE.out; omega, by have := HE.out; omega, by have := HE.out; omega⟩
          case measure => simp [intOf]; omega
        · have u1 : decide ((2000 : Int) < (s.Text.size : Int)) = false := by simp; omega
          have u3 : (s.Do == 3) = false := by simpa using h3
          have u8 : (s.Do == 8) = false := by simpa using h8
          go_wp2_with fail
          have hd := po_does (po_swap (EV.out.step (Fr.refl [] _).drew)) HE.out.2.1 a3 a4 s HS.out hsk h3 h8
          have HC5 := hid (show ∀ w', w' = wr.drew → ∀ jj, jj < 5 → w'.cell? ⟨b, off + j * 5 + jj, none⟩ = [Value.int .i64 s.Do, .int .i64 s.I, bt s.C, .string s.Text, s.Keep][jj]? by
            intro w' hw' jj hjj
            subst hw'
            match jj, hjj with
            | 0, _ => exact c0
            | 1, _ => exact c1
            | 2, _ => exact c2
            | 3, _ => exact c3
            | 4, _ => exact c4)
          refine wp_region_D (fun _ => True) false [] (by kernel_rfl) ?_
          refine WD.pure [0, 1, 2, 3, 4, 5, 6, 7, 8, 9, 10, 11] (by kernel_rfl) trivial ?_
          simp only [pick, List.toList_toArray, List.map_cons, List.map_nil, List.getD_cons_succ, List.getD_cons_zero]
          repeat (first | (refine quiet_load_cells (by rfl) _ _ rfl rfl [.int .i64 s.Do, .int .i64 s.I, bt s.C, .string s.Text, s.Keep] stT rfl HC5.out ?_; simp only [World.size_alloc, World.size_drew, Act.put, List.setIfInBounds_toArray, List.set_cons_succ, List.set_cons_zero]) | (refine quiet_load_1R (by rfl) _ _ rfl rfl (.int .i64 (n' : Int)) (fun w0 h => h) _ Try.underlying3 rfl ?_; simp only [World.size_alloc, World.size_drew, Act.put, List.setIfInBounds_toArray, List.set_cons_succ, List.set_cons_zero]) | go_big_quiet_step (fail))
          refine wpQuiet_nil ?_
          refine WD.eff 12 (by kernel_rfl) ?_
          simp only [pick, List.toList_toArray, List.map_cons, List.map_nil, List.getD_cons_succ, List.getD_cons_zero]
          go_wp2_with (go_at_call 17; refine hd.mono ?_; rintro e w5 ⟨rfl, Y', n', G', j', e5, gY, lY, tY, sY⟩)
          have pw5 := HPW.out _ _ _ _ _ _ _ _ _ _ _ _ e5.held
          have lft := left_any pw5.1
          try refine wpList_nil ?_
          refine AfterD.on trivial (by kernel_rfl) ?_
          refine WD.more ((fun w' => w'.cell? ⟨q, 0, none⟩ = some (.int .i64 (n' : Int)))) (fun _ _ => trivial) ?_
          try simp only [World.size_alloc, World.size_drew, Act.put, List.setIfInBounds_toArray, List.set_cons_succ, List.set_cons_zero]
          refine WD.pure [13, 14, 15] (by kernel_rfl) pw5.2 ?_
          simp only [pick, List.toList_toArray, List.map_cons, List.map_nil, List.getD_cons_succ, List.getD_cons_zero]
          repeat (first | (refine quiet_load_cells (by rfl) _ _ rfl rfl [.int .i64 s.Do, .int .i64 s.I, bt s.C, .string s.Text, s.Keep] stT rfl HC5.out ?_; simp only [World.size_alloc, World.size_drew, Act.put, List.setIfInBounds_toArray, List.set_cons_succ, List.set_cons_zero]) | (refine quiet_load_1R (by rfl) _ _ rfl rfl (.int .i64 (n' : Int)) (fun w0 h => h) _ Try.underlying3 rfl ?_; simp only [World.size_alloc, World.size_drew, Act.put, List.setIfInBounds_toArray, List.set_cons_succ, List.set_cons_zero]) | go_big_quiet_step (fail))
          refine wpQuiet_nil ?_
          refine WD.free [17, 18, 19] (by kernel_rfl) pw5.2 ?_
          simp only [pick, List.toList_toArray, List.map_cons, List.map_nil, List.getD_cons_succ, List.getD_cons_zero]
          repeat (first | (refine quiet_load_cells (by rfl) _ _ rfl rfl [.int .i64 s.Do, .int .i64 s.I, bt s.C, .string s.Text, s.Keep] stT rfl HC5.out ?_; simp only [World.size_alloc, World.size_drew, Act.put, List.setIfInBounds_toArray, List.set_cons_succ, List.set_cons_zero]) | (refine quiet_load_1R (by rfl) _ _ rfl rfl (.int .i64 (n' : Int)) (fun w0 h => h) _ Try.underlying3 rfl ?_; simp only [World.size_alloc, World.size_drew, Act.put, List.setIfInBounds_toArray, List.set_cons_succ, List.set_cons_zero]) | go_big_quiet_step (fail))
          refine wpQuiet_nil ?_
          refine WD.held [20] (by kernel_rfl) pw5.2 ?_
          simp only [pick, List.toList_toArray, List.map_cons, List.map_nil, List.getD_cons_succ, List.getD_cons_zero]
          repeat (first | (refine quiet_load_cells (by rfl) _ _ rfl rfl [.int .i64 s.Do, .int .i64 s.I, bt s.C, .string s.Text, s.Keep] stT rfl HC5.out ?_; simp only [World.size_alloc, World.size_drew, Act.put, List.setIfInBounds_toArray, List.set_cons_succ, List.set_cons_zero]) | (refine quiet_load_1R (by rfl) _ _ rfl rfl (.int .i64 (n' : Int)) (fun w0 h => h) _ Try.underlying3 rfl ?_; simp only [World.size_alloc, World.size_drew, Act.put, List.setIfInBounds_toArray, List.set_cons_succ, List.set_cons_zero]) | go_big_quiet_step (fail))
          refine wpQuiet_nil ?_
          refine WD.eff 16 (by kernel_rfl) ?_
          simp only [pick, List.toList_toArray, List.map_cons, List.map_nil, List.getD_cons_succ, List.getD_cons_zero]
          go_wp2_with (go_at_call 22; refine lft.mono ?_; rintro e w6 ⟨rfl, hw⟩; subst hw)
          try refine wpList_nil ?_
          refine AfterD.on pw5.2 (by kernel_rfl) ?_
          try simp only [World.size_alloc, World.size_drew, Act.put, List.setIfInBounds_toArray, List.set_cons_succ, List.set_cons_zero]
          refine WD.pure [21, 22] (by kernel_rfl) pw5.2 ?_
          simp only [pick, List.toList_toArray, List.map_cons, List.map_nil, List.getD_cons_succ, List.getD_cons_zero]
          repeat (first | (refine quiet_load_cells (by rfl) _ _ rfl rfl [.int .i64 s.Do, .int .i64 s.I, bt s.C, .string s.Text, s.Keep] stT rfl HC5.out ?_; simp only [World.size_alloc, World.size_drew, Act.put, List.setIfInBounds_toArray, List.set_cons_succ, List.set_cons_zero]) | (refine quiet_load_1R (by rfl) _ _ rfl rfl (.int .i64 (n' : Int)) (fun w0 h => h) _ Try.underlying3 rfl ?_; simp only [World.size_alloc, World.size_drew, Act.put, List.setIfInBounds_toArray, List.set_cons_succ, List.set_cons_zero]) | go_big_quiet_step (fail))
          refine wpQuiet_nil ?_
          refine WD.done (by kernel_rfl) ?_
          go_wp2_with fail
          go_roundw
          case rel => exact ⟨j + 1, by omega, by omega, by go_num, X, Y', n', F, G', i, j', po_swap e5, HE.out.1, gY, by have := HE.out; omega, by have := HE.out; omega, by have := HE.out; omega, by have := HE.out; omega, by have := HE.out; omega⟩
          case measure => simp [intOf]; omega
      · have t5 : decide ((j : Int) < (kn : Int)) = true := by simp; omega
        have t5' : (j : Int) < (kn : Int) := by omega
        rcases hsk with (hsk | ⟨hsk, h3⟩ | ⟨hsk, h3, h8⟩) | ⟨hsk, h3, h8⟩
        · have u1 : decide ((2000 : Int) < (s.Text.size : Int)) = true := by simp; omega
          go_wp2_with fail
          go_roundw
          case rel => exact ⟨j + 1, by omega, by omega, by go_num, X, Y, n, F, G, i, i', EV.out, HE.out.1, HE.out.2.1, by have := HE.out; omega, by have := HE.out; omega, by have := HE.out; omega, by have := HE.out; omega, by have := HE.out; omega⟩
          case measure => simp [intOf]; omega
        · have u1 : decide ((2000 : Int) < (s.Text.size : Int)) = false := by simp; omega
          have u3 : (s.Do == 3) = true := by simpa using h3
          go_wp2_with fail
          go_roundw
          case rel => exact ⟨j + 1, by omega, by omega, by go_num, X, Y, n, F, G, i, i', EV.out, HE.out.1, HE.out.2.1, by have := HE.out; omega, by have := HE.out; omega, by have := HE.out; omega, by have := HE.out; omega, by have := HE.out; omega⟩
          case measure => simp [intOf]; omega
        · have u1 : decide ((2000 : Int) < (s.Text.size : Int)) = false := by simp; omega
          have u3 : (s.Do == 3) = false := by simpa using h3
          have u8 : (s.Do == 8) = true := by simpa using h8
          go_wp2_with fail
          go_roundw
          case rel => exact ⟨j + 1, by omega, by omega, by go_num, X, Y, n, F, G, i, i', EV.out, HE.out.1, HE.out.2.1, by have := HE.out; omega, by have := HE.out; omega, by have := HE.out; omega, by have := HE.out; omega, by have := HE.out; omega⟩
          case measure => simp [intOf]; omega
        · have u1 : decide ((2000 : Int) < (s.Text.size : Int)) = false := by simp; omega
          have u3 : (s.Do == 3) = false := by simpa using h3
          have u8 : (s.Do == 8) = false := by simpa using h8
          go_wp2_with fail
          have hd := po_does (EV.out.step (Fr.refl [] _).drew) HE.out.1 a1 a2 s HS.out hsk h3 h8
          have HC5 := hid (show ∀ w', w' = wr.drew → ∀ jj, jj < 5 → w'.cell? ⟨b, off + j * 5 + jj, none⟩ = [Value.int .i64 s.Do, .int .i64 s.I, bt s.C, .string s.Text, s.Keep][jj]? by
            intro w' hw' jj hjj
            subst hw'
            match jj, hjj with
            | 0, _ => exact c0
            | 1, _ => exact c1
            | 2, _ => exact c2
            | 3, _ => exact c3
            | 4, _ => exact c4)
          refine wp_region_D (fun _ => True) false [] (by kernel_rfl) ?_
          refine WD.pure [0, 1, 2, 3, 4, 5, 6, 7, 8, 9, 10, 11] (by kernel_rfl) trivial ?_
          simp only [pick, List.toList_toArray, List.map_cons, List.map_nil, List.getD_cons_succ, List.getD_cons_zero]
          repeat (first | (refine quiet_load_cells (by rfl) _ _ rfl rfl [.int .i64 s.Do, .int .i64 s.I, bt s.C, .string s.Text, s.Keep] stT rfl HC5.out ?_; simp only [World.size_alloc, World.size_drew, Act.put, List.setIfInBounds_toArray, List.set_cons_succ, List.set_cons_zero]) | (refine quiet_load_1R (by rfl) _ _ rfl rfl (.int .i64 (n' : Int)) (fun w0 h => h) _ Try.underlying3 rfl ?_; simp only [World.size_alloc, World.size_drew, Act.put, List.setIfInBounds_toArray, List.set_cons_succ, List.set_cons_zero]) | go_big_quiet_step (fail))
          refine wpQuiet_nil ?_
          refine WD.eff 12 (by kernel_rfl) ?_
          simp only [pick, List.toList_toArray, List.map_cons, List.map_nil, List.getD_cons_succ, List.getD_cons_zero]
          go_wp2_with (go_at_call 17; refine hd.mono ?_; rintro e w5 ⟨rfl, Y', n', G', j', e5, gY, lY, tY, sY⟩)
          have pw5 := HPW.out _ _ _ _ _ _ _ _ _ _ _ _ e5.held
          have lft := left_any pw5.1
          try refine wpList_nil ?_
          refine AfterD.on trivial (by kernel_rfl) ?_
          refine WD.more ((fun w' => w'.cell? ⟨q, 0, none⟩ = some (.int .i64 (n' : Int)))) (fun _ _ => trivial) ?_
          try simp only [World.size_alloc, World.size_drew, Act.put, List.setIfInBounds_toArray, List.set_cons_succ, List.set_cons_zero]
          refine WD.pure [13, 14, 15] (by kernel_rfl) pw5.2 ?_
          simp only [pick, List.toList_toArray, List.map_cons, List.map_nil, List.getD_cons_succ, List.getD_cons_zero]
          repeat (first | (refine quiet_load_cells (by rfl) _ _ rfl rfl [.int .i64 s.Do, .int .i64 s.I, bt s.C, .string s.Text, s.Keep] stT rfl HC5.out ?_; simp only [World.size_alloc, World.size_drew, Act.put, List.setIfInBounds_toArray, List.set_cons_succ, List.set_cons_zero]) | (refine quiet_load_1R (by rfl) _ _ rfl rfl (.int .i64 (n' : Int)) (fun w0 h => h) _ Try.underlying3 rfl ?_; simp only [World.size_alloc, World.size_drew, Act.put, List.setIfInBounds_toArray, List.set_cons_succ, List.set_cons_zero]) | go_big_quiet_step (fail))
          refine wpQuiet_nil ?_
          refine WD.free [17, 18, 19] (by kernel_rfl) pw5.2 ?_
          simp only [pick, List.toList_toArray, List.map_cons, List.map_nil, List.getD_cons_succ, List.getD_cons_zero]
          repeat (first | (refine quiet_load_cells (by rfl) _ _ rfl rfl [.int .i64 s.Do, .int .i64 s.I, bt s.C, .string s.Text, s.Keep] stT rfl HC5.out ?_; simp only [World.size_alloc, World.size_drew, Act.put, List.setIfInBounds_toArray, List.set_cons_succ, List.set_cons_zero]) | (refine quiet_load_1R (by rfl) _ _ rfl rfl (.int .i64 (n' : Int)) (fun w0 h => h) _ Try.underlying3 rfl ?_; simp only [World.size_alloc, World.size_drew, Act.put, List.setIfInBounds_toArray, List.set_cons_succ, List.set_cons_zero]) | go_big_quiet_step (fail))
          refine wpQuiet_nil ?_
          refine WD.held [20] (by kernel_rfl) pw5.2 ?_
          simp only [pick, List.toList_toArray, List.map_cons, List.map_nil, List.getD_cons_succ, List.getD_cons_zero]
          repeat (first | (refine quiet_load_cells (by rfl) _ _ rfl rfl [.int .i64 s.Do, .int .i64 s.I, bt s.C, .string s.Text, s.Keep] stT rfl HC5.out ?_; simp only [World.size_alloc, World.size_drew, Act.put, List.setIfInBounds_toArray, List.set_cons_succ, List.set_cons_zero]) | (refine quiet_load_1R (by rfl) _ _ rfl rfl (.int .i64 (n' : Int)) (fun w0 h => h) _ Try.underlying3 rfl ?_; simp only [World.size_alloc, World.size_drew, Act.put, List.setIfInBounds_toArray, List.set_cons_succ, List.set_cons_zero]) | go_big_quiet_step (fail))
          refine wpQuiet_nil ?_
          refine WD.eff 16 (by kernel_rfl) ?_
          simp only [pick, List.toList_toArray, List.map_cons, List.map_nil, List.getD_cons_succ, List.getD_cons_zero]
          go_wp2_with (go_at_call 22; refine lft.mono ?_; rintro e w6 ⟨rfl, hw⟩; subst hw)
          try refine wpList_nil ?_
          refine AfterD.on pw5.2 (by kernel_rfl) ?_
          try simp only [World.size_alloc, World.size_drew, Act.put, List.setIfInBounds_toArray, List.set_cons_succ, List.set_cons_zero]
          refine WD.pure [21, 22] (by kernel_rfl) pw5.2 ?_
          simp only [pick, List.toList_toArray, List.map_cons, List.map_nil, List.getD_cons_succ, List.getD_cons_zero]
          repeat (first | (refine quiet_load_cells (by rfl) _ _ rfl rfl [.int .i64 s.Do, .int .i64 s.I, bt s.C, .string s.Text, s.Keep] stT rfl HC5.out ?_; simp only [World.size_alloc, World.size_drew, Act.put, List.setIfInBounds_toArray, List.set_cons_succ, List.set_cons_zero]) | (refine quiet_load_1R (by rfl) _ _ rfl rfl (.int .i64 (n' : Int)) (fun w0 h => h) _ Try.underlying3 rfl ?_; simp only [World.size_alloc, World.size_drew, Act.put, List.setIfInBounds_toArray, List.set_cons_succ, List.set_cons_zero]) | go_big_quiet_step (fail))
          refine wpQuiet_nil ?_
          refine WD.done (by kernel_rfl) ?_
          go_wp2_with fail
          go_roundw
          case rel => exact ⟨j + 1, by omega, by omega, by go_num, Y', Y, n', G', G, j', i', e5, gY, HE.out.2.1, by have := HE.out; omega, by have := HE.out; omega, by have := HE.out; omega, by have := HE.out; omega, by have := HE.out; omega⟩
          case measure => simp [intOf]; omega
      · have t5 : decide ((j : Int) < (kn : Int)) = false := by simp; omega
        have t5' : ¬ ((j : Int) < (kn : Int)) := by omega
        rcases hsk with (hsk | ⟨hsk, h3⟩ | ⟨hsk, h3, h8⟩) | ⟨hsk, h3, h8⟩
        · have u1 : decide ((2000 : Int) < (s.Text.size : Int)) = true := by simp; omega
          go_wp2_with fail
          go_roundw
          case rel => exact ⟨j + 1, by omega, by omega, by go_num, X, Y, n, F, G, i, i', EV.out, HE.out.1, HE.out.2.1, by have := HE.out; omega, by have := HE.out; omega, by have := HE.out; omega, by have := HE.out; omega, by have := HE.out; omega⟩
          case measure => simp [intOf]; omega
        · have u1 : decide ((2000 : Int) < (s.Text.size : Int)) = false := by simp; omega
          have u3 : (s.Do == 3) = true := by simpa using h3
          go_wp2_with fail
          go_roundw
          case rel => exact ⟨j + 1, by omega, by omega, by go_num, X, Y, n, F, G, i, i', EV.out, HE.out.1, HE.out.2.1, by have := HE.out; omega, by have := HE.out; omega, by have := HE.out; omega, by have := HE.out; omega, by have := HE.out; omega⟩
          case measure => simp [intOf]; omega
        · have u1 : decide ((2000 : Int) < (s.Text.size : Int)) = false := by simp; omega
          have u3 : (s.Do == 3) = false := by simpa using h3
          have u8 : (s.Do == 8) = true := by simpa using h8
          go_wp2_with fail
          go_roundw
          case rel => exact ⟨j + 1, by omega, by omega, by go_num, X, Y, n, F, G, i, i', EV.out, HE.out.1, HE.out.2.1, by have := HE.out; omega, by have := HE.out; omega, by have := HE.out; omega, by have := HE.out; omega, by have := HE.out; omega⟩
          case measure => simp [intOf]; omega
        · have u1 : decide ((2000 : Int) < (s.Text.size : Int)) = false := by simp; omega
          have u3 : (s.Do == 3) = false := by simpa using h3
          have u8 : (s.Do == 8) = false := by simpa using h8
          go_wp2_with fail
          have hd := po_does (EV.out.step (Fr.refl [] _).drew) HE.out.1 a1 a2 s HS.out hsk h3 h8
          have HC5 := hid (show ∀ w', w' = wr.drew → ∀ jj, jj < 5 → w'.cell? ⟨b, off + j * 5 + jj, none⟩ = [Value.int .i64 s.Do, .int .i64 s.I, bt s.C, .string s.Text, s.Keep][jj]? by
            intro w' hw' jj hjj
            subst hw'
            match jj, hjj with
            | 0, _ => exact c0
            | 1, _ => exact c1
            | 2, _ => exact c2
            | 3, _ => exact c3
            | 4, _ => exact c4)
          refine wp_region_D (fun _ => True) false [] (by kernel_rfl) ?_
          refine WD.pure [0, 1, 2, 3, 4, 5, 6, 7, 8, 9, 10, 11] (by kernel_rfl) trivial ?_
          simp only [pick, List.toList_toArray, List.map_cons, List.map_nil, List.getD_cons_succ, List.getD_cons_zero]
          repeat (first | (refine quiet_load_cells (by rfl) _ _ rfl rfl [.int .i64 s.Do, .int .i64 s.I, bt s.C, .string s.Text, s.Keep] stT rfl HC5.out ?_; simp only [World.size_alloc, World.size_drew, Act.put, List.setIfInBounds_toArray, List.set_cons_succ, List.set_cons_zero]) | (refine quiet_load_1R (by rfl) _ _ rfl rfl (.int .i64 (n' : Int)) (fun w0 h => h) _ Try.underlying3 rfl ?_; simp only [World.size_alloc, World.size_drew, Act.put, List.setIfInBounds_toArray, List.set_cons_succ, List.set_cons_zero]) | go_big_quiet_step (fail))
          refine wpQuiet_nil ?_
          refine WD.eff 12 (by kernel_rfl) ?_
          simp only [pick, List.toList_toArray, List.map_cons, List.map_nil, List.getD_cons_succ, List.getD_cons_zero]
          go_wp2_with (go_at_call 17; refine hd.mono ?_; rintro e w5 ⟨rfl, Y', n', G', j', e5, gY, lY, tY, sY⟩)
          have pw5 := HPW.out _ _ _ _ _ _ _ _ _ _ _ _ e5.held
          have lft := left_any pw5.1
          try refine wpList_nil ?_
          refine AfterD.on trivial (by kernel_rfl) ?_
          refine WD.more ((fun w' => w'.cell? ⟨q, 0, none⟩ = some (.int .i64 (n' : Int)))) (fun _ _ => trivial) ?_
          try simp only [World.size_alloc, World.size_drew, Act.put, List.setIfInBounds_toArray, List.set_cons_succ, List.set_cons_zero]
          refine WD.pure [13, 14, 15] (by kernel_rfl) pw5.2 ?_
          simp only [pick, List.toList_toArray, List.map_cons, List.map_nil, List.getD_cons_succ, List.getD_cons_zero]
          repeat (first | (refine quiet_load_cells (by rfl) _ _ rfl rfl [.int .i64 s.Do, .int .i64 s.I, bt s.C, .string s.Text, s.Keep] stT rfl HC5.out ?_; simp only [World.size_alloc, World.size_drew, Act.put, List.setIfInBounds_toArray, List.set_cons_succ, List.set_cons_zero]) | (refine quiet_load_1R (by rfl) _ _ rfl rfl (.int .i64 (n' : Int)) (fun w0 h => h) _ Try.underlying3 rfl ?_; simp only [World.size_alloc, World.size_drew, Act.put, List.setIfInBounds_toArray, List.set_cons_succ, List.set_cons_zero]) | go_big_quiet_step (fail))
          refine wpQuiet_nil ?_
          refine WD.free [17, 18, 19] (by kernel_rfl) pw5.2 ?_
          simp only [pick, List.toList_toArray, List.map_cons, List.map_nil, List.getD_cons_succ, List.getD_cons_zero]
          repeat (first | (refine quiet_load_cells (by rfl) _ _ rfl rfl [.int .i64 s.Do, .int .i64 s.I, bt s.C, .string s.Text, s.Keep] stT rfl HC5.out ?_; simp only [World.size_alloc, World.size_drew, Act.put, List.setIfInBounds_toArray, List.set_cons_succ, List.set_cons_zero]) | (refine quiet_load_1R (by rfl) _ _ rfl rfl (.int .i64 (n' : Int)) (fun w0 h => h) _ Try.underlying3 rfl ?_; simp only [World.size_alloc, World.size_drew, Act.put, List.setIfInBounds_toArray, List.set_cons_succ, List.set_cons_zero]) | go_big_quiet_step (fail))
          refine wpQuiet_nil ?_
          refine WD.held [20] (by kernel_rfl) pw5.2 ?_
          simp only [pick, List.toList_toArray, List.map_cons, List.map_nil, List.getD_cons_succ, List.getD_cons_zero]
          repeat (first | (refine quiet_load_cells (by rfl) _ _ rfl rfl [.int .i64 s.Do, .int .i64 s.I, bt s.C, .string s.Text, s.Keep] stT rfl HC5.out ?_; simp only [World.size_alloc, World.size_drew, Act.put, List.setIfInBounds_toArray, List.set_cons_succ, List.set_cons_zero]) | (refine quiet_load_1R (by rfl) _ _ rfl rfl (.int .i64 (n' : Int)) (fun w0 h => h) _ Try.underlying3 rfl ?_; simp only [World.size_alloc, World.size_drew, Act.put, List.setIfInBounds_toArray, List.set_cons_succ, List.set_cons_zero]) | go_big_quiet_step (fail))
          refine wpQuiet_nil ?_
          refine WD.eff 16 (by kernel_rfl) ?_
          simp only [pick, List.toList_toArray, List.map_cons, List.map_nil, List.getD_cons_succ, List.getD_cons_zero]
          go_wp2_with (go_at_call 22; refine lft.mono ?_; rintro e w6 ⟨rfl, hw⟩; subst hw)
          try refine wpList_nil ?_
          refine AfterD.on pw5.2 (by kernel_rfl) ?_
          try simp only [World.size_alloc, World.size_drew, Act.put, List.setIfInBounds_toArray, List.set_cons_succ, List.set_cons_zero]
          refine WD.pure [21, 22] (by kernel_rfl) pw5.2 ?_
          simp only [pick, List.toList_toArray, List.map_cons, List.map_nil, List.getD_cons_succ, List.getD_cons_zero]
          repeat (first | (refine quiet_load_cells (by rfl) _ _ rfl rfl [.int .i64 s.Do, .int .i64 s.I, bt s.C, .string s.Text, s.Keep] stT rfl HC5.out ?_; simp only [World.size_alloc, World.size_drew, Act.put, List.setIfInBounds_toArray, List.set_cons_succ, List.set_cons_zero]) | (refine quiet_load_1R (by rfl) _ _ rfl rfl (.int .i64 (n' : Int)) (fun w0 h => h) _ Try.underlying3 rfl ?_; simp only [World.size_alloc, World.size_drew, Act.put, List.setIfInBounds_toArray, List.set_cons_succ, List.set_cons_zero]) | go_big_quiet_step (fail))
          refine wpQuiet_nil ?_
          refine WD.done (by kernel_rfl) ?_
          go_wp2_with fail
          go_roundw
          case rel => exact ⟨j + 1, by omega, by omega, by go_num, Y', Y, n', G', G, j', i', e5, gY, HE.out.2.1, by have := HE.out; omega, by have := HE.out; omega, by have := HE.out; omega, by have := HE.out; omega, by have := HE.out; omega⟩
          case measure => simp [intOf]; omega
    · have EV := hid ev
      have HX := hid (And.intro hX hY)
      have KT0 := hid fun (w1 : World) (f : Fr [] wr w1) => (show Calls Try.prog 23 #[.pointer (some ⟨d0, 0, none⟩)] w1 fun e w' => (∃ a c, e = .returned (.slice a X.Trace.length c)) ∧ Fr [] w1 w' by
        refine (trace_any (Held.rep (Held.prC (l := []) (two_first (EV.out.held.keep0 f)))) (by simp only [dOf]; omega)).mono ?_
        rintro e w' ⟨⟨v, B, rfl, hr⟩, f'⟩
        obtain ⟨a, c, rfl⟩ := hr.rc.isSlice
        exact ⟨⟨a, c, rfl⟩, f'⟩)
      have KT1 := hid fun (w1 : World) (f : Fr [] wr w1) => (show Calls Try.prog 23 #[.pointer (some ⟨d1, 0, none⟩)] w1 fun e w' => (∃ a c, e = .returned (.slice a Y.Trace.length c)) ∧ Fr [] w1 w' by
        refine (trace_any (Held.rep (Held.prC (l := []) (two_first (po_swap (EV.out.step f)).held))) (by simp only [dOf]; omega)).mono ?_
        rintro e w' ⟨⟨v, B, rfl, hr⟩, f'⟩
        obtain ⟨a, c, rfl⟩ := hr.rc.isSlice
        exact ⟨⟨a, c, rfl⟩, f'⟩)
      obtain ⟨⟨cd0, cd1⟩, _, _⟩ := HC.out _ _ ev.held
      obtain ⟨tx, htx⟩ : ∃ tx, X.Trace.length = tx := ⟨_, rfl⟩
      obtain ⟨ty, hty⟩ : ∃ ty, Y.Trace.length = ty := ⟨_, rfl⟩
      rw [htx] at KT0 hXT hsum
      rw [hty] at KT1 hYT hsum
      have Htx := hid (And.intro htx hty)
      clear ev hX hY htx hty
      have hne1 : (((tx : Int) + (ty : Int) + (n : Int)) != (n0 : Int)) = false := by simp; omega
      have hne2 : (((tx : Int) + (ty : Int) + (n : Int)) == (n0 : Int)) = true := by simp; omega
      by_cases hin : j < ln
      · have t1 : decide ((j : Int) < (ln : Int)) = true := by simp; omega
        have t1' : (j : Int) < (ln : Int) := by omega
        have t2 : decide ((j : Int) < 60) = false := by simp; omega
        have t2' : ¬ ((j : Int) < 60) := by omega
        go_wp2_with fail
        refine wp_region_D (fun w' => w'.cell? ⟨db, 1, none⟩ = some (.pointer (some ⟨d1, 0, none⟩))) false [] (by kernel_rfl) ?_
        refine WD.pure [0, 1, 2] (by kernel_rfl) cd1 ?_
        simp only [pick, List.toList_toArray, List.map_cons, List.map_nil, List.getD_cons_succ, List.getD_cons_zero]
        repeat (first | (refine quiet_load_1R (by rfl) _ _ rfl rfl (.pointer (some ⟨d1, 0, none⟩)) (fun w0 h => h) _ Try.underlying24 rfl ?_; simp only [World.size_alloc, World.size_drew, Act.put, List.setIfInBounds_toArray, List.set_cons_succ, List.set_cons_zero]) | go_big_quiet_step (fail) | (refine quiet_len_v (by rfl) _ _ rfl Try.underlying37 rfl ?_; simp only [World.size_alloc, World.size_drew, Act.put, List.setIfInBounds_toArray, List.set_cons_succ, List.set_cons_zero]))
        refine wpQuiet_nil ?_
        refine WD.free [5, 6] (by kernel_rfl) cd1 ?_
        simp only [pick, List.toList_toArray, List.map_cons, List.map_nil, List.getD_cons_succ, List.getD_cons_zero]
        repeat (first | (refine quiet_load_1R (by rfl) _ _ rfl rfl (.pointer (some ⟨d1, 0, none⟩)) (fun w0 h => h) _ Try.underlying24 rfl ?_; simp only [World.size_alloc, World.size_drew, Act.put, List.setIfInBounds_toArray, List.set_cons_succ, List.set_cons_zero]) | go_big_quiet_step (fail) | (refine quiet_len_v (by rfl) _ _ rfl Try.underlying37 rfl ?_; simp only [World.size_alloc, World.size_drew, Act.put, List.setIfInBounds_toArray, List.set_cons_succ, List.set_cons_zero]))
        refine wpQuiet_nil ?_
        refine WD.held [7] (by kernel_rfl) cd1 ?_
        simp only [pick, List.toList_toArray, List.map_cons, List.map_nil, List.getD_cons_succ, List.getD_cons_zero]
        repeat (first | (refine quiet_load_1R (by rfl) _ _ rfl rfl (.pointer (some ⟨d1, 0, none⟩)) (fun w0 h => h) _ Try.underlying24 rfl ?_; simp only [World.size_alloc, World.size_drew, Act.put, List.setIfInBounds_toArray, List.set_cons_succ, List.set_cons_zero]) | go_big_quiet_step (fail) | (refine quiet_len_v (by rfl) _ _ rfl Try.underlying37 rfl ?_; simp only [World.size_alloc, World.size_drew, Act.put, List.setIfInBounds_toArray, List.set_cons_succ, List.set_cons_zero]))
        refine wpQuiet_nil ?_
        refine WD.eff 3 (by kernel_rfl) ?_
        simp only [pick, List.toList_toArray, List.map_cons, List.map_nil, List.getD_cons_succ, List.getD_cons_zero]
        go_wp2_with (go_at_call 23; refine (KT0.out _ (Fr.refl _ _).drew).mono ?_; rintro e w5 ⟨⟨ta5, tc5, rfl⟩, f5⟩)
        have g5 := (Fr.refl [] wr).drew.trans' f5
        have cd15 := g5.cell_some cd1
        try refine wpList_nil ?_
        refine AfterD.on cd15 (by kernel_rfl) ?_
        try simp only [World.size_alloc, World.size_drew, Act.put, List.setIfInBounds_toArray, List.set_cons_succ, List.set_cons_zero]
        refine WD.held [4] (by kernel_rfl) cd15 ?_
        simp only [pick, List.toList_toArray, List.map_cons, List.map_nil, List.getD_cons_succ, List.getD_cons_zero]
        repeat (first | (refine quiet_load_1R (by rfl) _ _ rfl rfl (.pointer (some ⟨d1, 0, none⟩)) (fun w0 h => h) _ Try.underlying24 rfl ?_; simp only [World.size_alloc, World.size_drew, Act.put, List.setIfInBounds_toArray, List.set_cons_succ, List.set_cons_zero]) | go_big_quiet_step (fail) | (refine quiet_len_v (by rfl) _ _ rfl Try.underlying37 rfl ?_; simp only [World.size_alloc, World.size_drew, Act.put, List.setIfInBounds_toArray, List.set_cons_succ, List.set_cons_zero]))
        refine wpQuiet_nil ?_
        refine WD.eff 8 (by kernel_rfl) ?_
        simp only [pick, List.toList_toArray, List.map_cons, List.map_nil, List.getD_cons_succ, List.getD_cons_zero]
        go_wp2_with (go_at_call 23; refine (KT1.out _ g5).mono ?_; rintro e w6 ⟨⟨ta6, tc6, rfl⟩, f6⟩)
        have g6 := g5.trans' f6
        have cd16 := g6.cell_some cd1
        try refine wpList_nil ?_
        refine AfterD.on cd16 (by kernel_rfl) ?_
        try simp only [World.size_alloc, World.size_drew, Act.put, List.setIfInBounds_toArray, List.set_cons_succ, List.set_cons_zero]
        refine WD.pure [9, 10, 11] (by kernel_rfl) cd16 ?_
        simp only [pick, List.toList_toArray, List.map_cons, List.map_nil, List.getD_cons_succ, List.getD_cons_zero]
        repeat (first | (refine quiet_load_1R (by rfl) _ _ rfl rfl (.pointer (some ⟨d1, 0, none⟩)) (fun w0 h => h) _ Try.underlying24 rfl ?_; simp only [World.size_alloc, World.size_drew, Act.put, List.setIfInBounds_toArray, List.set_cons_succ, List.set_cons_zero]) | go_big_quiet_step (fail) | (refine quiet_len_v (by rfl) _ _ rfl Try.underlying37 rfl ?_; simp only [World.size_alloc, World.size_drew, Act.put, List.setIfInBounds_toArray, List.set_cons_succ, List.set_cons_zero]))
        refine wpQuiet_nil ?_
        refine WD.done (by kernel_rfl) ?_
        have E6 := hid (EV.out.step g6)
        have lf6 := left_any (HPW.out _ _ _ _ _ _ _ _ _ _ _ _ E6.out.held).1
        clear EV KT0 KT1 cd0 cd1 cd15 cd16 g5 g6 f5 f6
        go_wp2_with (go_at_call 22; refine lf6.mono ?_; rintro e w7 ⟨rfl, hw⟩; subst hw; clear lf6)
        have e7 : Ev w [] w7 ((SL ++ [Res.pow (some (p, n)), Res.pow (some (q, n))]) ++ dx d0 (dOf X) (some (p, n)) F x0 X (some (q, n)) i ++ dx d1 (dOf Y) (some (p, n)) G x1 Y (some (q, n)) i') := by
          have := Ev.perm E6.out (two_perm.append_left SL)
          simpa only [List.append_assoc, List.cons_append, List.nil_append] using this
        have HC2 := hid fun (w1 : World) (m m' : List Res) (h : Held w1 ((SL ++ [Res.pow (some (p, n)), Res.pow (some (q, n))]) ++ m ++ m')) => HC.out w1 ([Res.pow (some (p, n)), Res.pow (some (q, n))] ++ (m ++ m')) (by rw [← List.append_assoc, ← List.append_assoc]; exact h)
        have HPQ := hid fun (w1 : World) (m m' : List Res) (h : Held w1 ((SL ++ [Res.pow (some (p, n)), Res.pow (some (q, n))]) ++ m ++ m')) => (show pwOk w1 (some (p, n)) ∧ w1.cell? ⟨q, 0, none⟩ = some (.int .i64 (n : Int)) by
          have h2 : Held w1 [Res.pow (some (p, n)), Res.pow (some (q, n))] := Held.part SL (m ++ m') (by rw [← List.append_assoc]; exact h)
          have a2 : pwOk w1 (some (q, n)) := h2.at 1 rfl
          exact ⟨h2.at 0 rfl, a2.1.cell 0⟩)
        generalize (SL ++ [Res.pow (some (p, n)), Res.pow (some (q, n))]) = PP at *
        have E7 := hid e7
        clear e7 E6 HPW HC
        refine wp_loop_rounds 3 ?_
        rw [rounds_succ]
        have hcr := ccrash_d (Held.part PP (dx d1 (dOf Y) (some (p, n)) G x1 Y (some (q, n)) i') (E7.out.step (Fr.refl [] _).drew).held) (by omega)
        have hh := HC2.out _ _ _ (E7.out.step (Fr.refl [] _).drew).held
        have cd := hh.1.1
        have cx := hh.2.1
        clear hh
        go_wp2_with fail
        refine wp_region_D (fun w' => w'.cell? ⟨xb, 0, none⟩ = some (.pointer (some ⟨x0, 0, none⟩))) false [] (by kernel_rfl) ?_
        refine WD.pure [0, 1, 2, 3] (by kernel_rfl) cx ?_
        simp only [pick, List.toList_toArray, List.map_cons, List.map_nil, List.getD_cons_succ, List.getD_cons_zero]
        repeat (first | (refine quiet_load_1R (by rfl) _ _ rfl rfl (.pointer (some ⟨x0, 0, none⟩)) (fun w0 h => h) _ Try.underlying43 rfl ?_; simp only [World.size_alloc, World.size_drew, Act.put, List.setIfInBounds_toArray, List.set_cons_succ, List.set_cons_zero]) | go_big_quiet_step (fail))
        refine wpQuiet_nil ?_
        refine WD.free [5, 6, 7] (by kernel_rfl) cx ?_
        simp only [pick, List.toList_toArray, List.map_cons, List.map_nil, List.getD_cons_succ, List.getD_cons_zero]
        repeat (first | (refine quiet_load_1R (by rfl) _ _ rfl rfl (.pointer (some ⟨x0, 0, none⟩)) (fun w0 h => h) _ Try.underlying43 rfl ?_; simp only [World.size_alloc, World.size_drew, Act.put, List.setIfInBounds_toArray, List.set_cons_succ, List.set_cons_zero]) | go_big_quiet_step (fail))
        refine wpQuiet_nil ?_
        refine WD.held [8] (by kernel_rfl) cx ?_
        simp only [pick, List.toList_toArray, List.map_cons, List.map_nil, List.getD_cons_succ, List.getD_cons_zero]
        repeat (first | (refine quiet_load_1R (by rfl) _ _ rfl rfl (.pointer (some ⟨x0, 0, none⟩)) (fun w0 h => h) _ Try.underlying43 rfl ?_; simp only [World.size_alloc, World.size_drew, Act.put, List.setIfInBounds_toArray, List.set_cons_succ, List.set_cons_zero]) | go_big_quiet_step (fail))
        refine wpQuiet_nil ?_
        refine WD.eff 4 (by kernel_rfl) ?_
        simp only [pick, List.toList_toArray, List.map_cons, List.map_nil, List.getD_cons_succ, List.getD_cons_zero]
        obtain ⟨cc, hcc⟩ : ∃ cc, (if X.Dead = true then (60 : Int) else 0) = cc := ⟨_, rfl⟩
        rw [hcc] at hcr
        go_wp2_with (go_at_call 12; refine hcr.mono ?_; rintro e w5 ⟨rfl, Fa, v5⟩)
        have E5 := hid (Ev.then PP (dx d1 (dOf Y) (some (p, n)) G x1 Y (some (q, n)) i') (E7.out.step (Fr.refl [] _).drew) v5)
        have cx5 := (HC2.out _ _ _ E5.out.held).2.1
        have hxc := dcrash_d (Held.part PP (dx d1 (dOf Y) (some (p, n)) G x1 Y (some (q, n)) i') E5.out.held) HX.out.1 (by omega)
        rw [hcc] at hxc
        clear hcr v5 cd cx E7 hcc
        try refine wpList_nil ?_
        refine AfterD.on cx5 (by kernel_rfl) ?_
        try simp only [World.size_alloc, World.size_drew, Act.put, List.setIfInBounds_toArray, List.set_cons_succ, List.set_cons_zero]
        refine WD.eff 9 (by kernel_rfl) ?_
        simp only [pick, List.toList_toArray, List.map_cons, List.map_nil, List.getD_cons_succ, List.getD_cons_zero]
        go_wp2_with (go_at_call 24; refine hxc.mono ?_; rintro e w6 ⟨rfl, ia, v6⟩)
        have E6 := hid (Ev.then PP (dx d1 (dOf Y) (some (p, n)) G x1 Y (some (q, n)) i') E5.out v6)
        have cx6 := (HC2.out _ _ _ E6.out.held).2.1
        have cd6 := (HC2.out _ _ _ E6.out.held).1.1
        have hg := cr_good HX.out.1 []
        have hst := stands_any (l := []) (dx_pr (Held.part PP (dx d1 (dOf Y) (some (p, n)) G x1 Y (some (q, n)) i') E6.out.held)) hg.1 (by omega) (by rw [hg.2.2.2]; have := Htx.out; omega)
        clear hxc v6 cx5 E5
        try refine wpList_nil ?_
        refine AfterD.on cx6 (by kernel_rfl) ?_
        try simp only [World.size_alloc, World.size_drew, Act.put, List.setIfInBounds_toArray, List.set_cons_succ, List.set_cons_zero]
        refine WD.pure [10, 11, 12, 13, 14, 15, 16, 17, 18, 19] (by kernel_rfl) cx6 ?_
        simp only [pick, List.toList_toArray, List.map_cons, List.map_nil, List.getD_cons_succ, List.getD_cons_zero]
        repeat (first | (refine quiet_load_1R (by rfl) _ _ rfl rfl (.pointer (some ⟨x0, 0, none⟩)) (fun w0 h => h) _ Try.underlying43 rfl ?_; simp only [World.size_alloc, World.size_drew, Act.put, List.setIfInBounds_toArray, List.set_cons_succ, List.set_cons_zero]) | go_big_quiet_step (fail))
        refine wpQuiet_nil ?_
        refine WD.eff 20 (by kernel_rfl) ?_
        simp only [pick, List.toList_toArray, List.map_cons, List.map_nil, List.getD_cons_succ, List.getD_cons_zero]
        go_wp2_with (go_at_call 18; refine hst.mono ?_; rintro e w8 ⟨rfl, f8⟩)
        have E8 := hid (E6.out.step f8)
        have cx8 := (HC2.out _ _ _ E8.out.held).2.1
        have cd8 := (HC2.out _ _ _ E8.out.held).1.1
        have hfl := cflush_any (l := []) (lf := none) (dx_pr (Held.part PP (dx d1 (dOf Y) (some (p, n)) G x1 Y (some (q, n)) i') E8.out.held)) hg.1 (by rw [hg.2.2.2]; have := Htx.out; omega)
        rw [flL_none] at hfl
        obtain ⟨fc, hfc⟩ : ∃ fc, flC (crX X []) none = fc := ⟨_, rfl⟩
        rw [hfc] at hfl
        clear hst f8 cx6 cd6 E6
        try refine wpList_nil ?_
        refine AfterD.on cx8 (by kernel_rfl) ?_
        try simp only [World.size_alloc, World.size_drew, Act.put, List.setIfInBounds_toArray, List.set_cons_succ, List.set_cons_zero]
        refine WD.pure [21, 22, 23, 24, 25, 26, 27] (by kernel_rfl) cx8 ?_
        simp only [pick, List.toList_toArray, List.map_cons, List.map_nil, List.getD_cons_succ, List.getD_cons_zero]
        repeat (first | (refine quiet_load_1R (by rfl) _ _ rfl rfl (.pointer (some ⟨x0, 0, none⟩)) (fun w0 h => h) _ Try.underlying43 rfl ?_; simp only [World.size_alloc, World.size_drew, Act.put, List.setIfInBounds_toArray, List.set_cons_succ, List.set_cons_zero]) | go_big_quiet_step (fail))
        refine wpQuiet_nil ?_
        refine WD.free [29, 30, 31] (by kernel_rfl) cx8 ?_
        simp only [pick, List.toList_toArray, List.map_cons, List.map_nil, List.getD_cons_succ, List.getD_cons_zero]
        repeat (first | (refine quiet_load_1R (by rfl) _ _ rfl rfl (.pointer (some ⟨x0, 0, none⟩)) (fun w0 h => h) _ Try.underlying43 rfl ?_; simp only [World.size_alloc, World.size_drew, Act.put, List.setIfInBounds_toArray, List.set_cons_succ, List.set_cons_zero]) | go_big_quiet_step (fail))
        refine wpQuiet_nil ?_
        refine WD.held [32] (by kernel_rfl) cx8 ?_
        simp only [pick, List.toList_toArray, List.map_cons, List.map_nil, List.getD_cons_succ, List.getD_cons_zero]
        repeat (first | (refine quiet_load_1R (by rfl) _ _ rfl rfl (.pointer (some ⟨x0, 0, none⟩)) (fun w0 h => h) _ Try.underlying43 rfl ?_; simp only [World.size_alloc, World.size_drew, Act.put, List.setIfInBounds_toArray, List.set_cons_succ, List.set_cons_zero]) | go_big_quiet_step (fail))
        refine wpQuiet_nil ?_
        refine WD.eff 28 (by kernel_rfl) ?_
        simp only [pick, List.toList_toArray, List.map_cons, List.map_nil, List.getD_cons_succ, List.getD_cons_zero]
        go_wp2_with (go_at_call 9; refine hfl.mono ?_; rintro e w9 ⟨rfl, Fb, v9⟩)
        have E9 := hid (Ev.then PP (dx d1 (dOf Y) (some (p, n)) G x1 Y (some (q, n)) i') E8.out (pr_dx v9))
        have cx9 := (HC2.out _ _ _ E9.out.held).2.1
        have hxf := dflush_any (l := []) (lf := none) (dx_pr (Held.part PP (dx d1 (dOf Y) (some (p, n)) G x1 Y (some (q, n)) i') E9.out.held)) hg.1 (by omega) (by rw [hg.2.2.2]; have := Htx.out; omega)
        rw [flL_none, hfc] at hxf
        clear hfl v9 cx8 cd8 E8 hfc
        try refine wpList_nil ?_
        refine AfterD.on cx9 (by kernel_rfl) ?_
        try simp only [World.size_alloc, World.size_drew, Act.put, List.setIfInBounds_toArray, List.set_cons_succ, List.set_cons_zero]
        refine WD.eff 33 (by kernel_rfl) ?_
        simp only [pick, List.toList_toArray, List.map_cons, List.map_nil, List.getD_cons_succ, List.getD_cons_zero]
        go_wp2_with (go_at_call 25; refine hxf.mono ?_; rintro e w10 ⟨rfl, ib, v10⟩)
        have E11 := hid (Ev.then PP (dx d1 (dOf Y) (some (p, n)) G x1 Y (some (q, n)) i') E9.out (pr_dx v10))
        have cx10 := (HC2.out _ _ _ E11.out.held).2.1
        clear hxf v10 cx9 E9 hg
        try refine wpList_nil ?_
        refine AfterD.on cx10 (by kernel_rfl) ?_
        try simp only [World.size_alloc, World.size_drew, Act.put, List.setIfInBounds_toArray, List.set_cons_succ, List.set_cons_zero]
        refine WD.pure [34, 35] (by kernel_rfl) cx10 ?_
        simp only [pick, List.toList_toArray, List.map_cons, List.map_nil, List.getD_cons_succ, List.getD_cons_zero]
        repeat (first | (refine quiet_load_1R (by rfl) _ _ rfl rfl (.pointer (some ⟨x0, 0, none⟩)) (fun w0 h => h) _ Try.underlying43 rfl ?_; simp only [World.size_alloc, World.size_drew, Act.put, List.setIfInBounds_toArray, List.set_cons_succ, List.set_cons_zero]) | go_big_quiet_step (fail))
        refine wpQuiet_nil ?_
        refine WD.done (by kernel_rfl) ?_
        clear cx10
        generalize flX (crX X []) none = X1 at *
        go_wp2_with fail
        have E12 : Hid (Ev w [] w10 (PP ++ dx d1 (dOf Y) (some (p, n)) G x1 Y (some (q, n)) i' ++ dx d0 (dOf X1) none Fb x0 X1 none ib)) := hid (Ev.perm E11.out (by rw [List.append_assoc, List.append_assoc]; exact List.perm_append_comm.append_left PP))
        clear E11
        rw [rounds_succ]
        have hcr := ccrash_d (Held.part PP (dx d0 (dOf X1) none Fb x0 X1 none ib) (E12.out.step (Fr.refl [] _).drew).held) (by omega)
        have hh := HC2.out _ _ _ (E12.out.step (Fr.refl [] _).drew).held
        have cd := hh.1.2
        have cx := hh.2.2
        clear hh
        go_wp2_with fail
        refine wp_region_D (fun w' => w'.cell? ⟨xb, 1, none⟩ = some (.pointer (some ⟨x1, 0, none⟩))) false [] (by kernel_rfl) ?_
        refine WD.pure [0, 1, 2, 3] (by kernel_rfl) cx ?_
        simp only [pick, List.toList_toArray, List.map_cons, List.map_nil, List.getD_cons_succ, List.getD_cons_zero]
        repeat (first | (refine quiet_load_1R (by rfl) _ _ rfl rfl (.pointer (some ⟨x1, 0, none⟩)) (fun w0 h => h) _ Try.underlying43 rfl ?_; simp only [World.size_alloc, World.size_drew, Act.put, List.setIfInBounds_toArray, List.set_cons_succ, List.set_cons_zero]) | go_big_quiet_step (fail))
        refine wpQuiet_nil ?_
        refine WD.free [5, 6, 7] (by kernel_rfl) cx ?_
        simp only [pick, List.toList_toArray, List.map_cons, List.map_nil, List.getD_cons_succ, List.getD_cons_zero]
        repeat (first | (refine quiet_load_1R (by rfl) _ _ rfl rfl (.pointer (some ⟨x1, 0, none⟩)) (fun w0 h => h) _ Try.underlying43 rfl ?_; simp only [World.size_alloc, World.size_drew, Act.put, List.setIfInBounds_toArray, List.set_cons_succ, List.set_cons_zero]) | go_big_quiet_step (fail))
        refine wpQuiet_nil ?_
        refine WD.held [8] (by kernel_rfl) cx ?_
        simp only [pick, List.toList_toArray, List.map_cons, List.map_nil, List.getD_cons_succ, List.getD_cons_zero]
        repeat (first | (refine quiet_load_1R (by rfl) _ _ rfl rfl (.pointer (some ⟨x1, 0, none⟩)) (fun w0 h => h) _ Try.underlying43 rfl ?_; simp only [World.size_alloc, World.size_drew, Act.put, List.setIfInBounds_toArray, List.set_cons_succ, List.set_cons_zero]) | go_big_quiet_step (fail))
        refine wpQuiet_nil ?_
        refine WD.eff 4 (by kernel_rfl) ?_
        simp only [pick, List.toList_toArray, List.map_cons, List.map_nil, List.getD_cons_succ, List.getD_cons_zero]
        obtain ⟨cc, hcc⟩ : ∃ cc, (if Y.Dead = true then (60 : Int) else 0) = cc := ⟨_, rfl⟩
        rw [hcc] at hcr
        go_wp2_with (go_at_call 12; refine hcr.mono ?_; rintro e w5 ⟨rfl, Fa, v5⟩)
        have E5 := hid (Ev.then PP (dx d0 (dOf X1) none Fb x0 X1 none ib) (E12.out.step (Fr.refl [] _).drew) v5)
        have cx5 := (HC2.out _ _ _ E5.out.held).2.2
        have hxc := dcrash_d (Held.part PP (dx d0 (dOf X1) none Fb x0 X1 none ib) E5.out.held) HX.out.2 (by omega)
        rw [hcc] at hxc
        clear hcr v5 cd cx E12 hcc
        try refine wpList_nil ?_
        refine AfterD.on cx5 (by kernel_rfl) ?_
        try simp only [World.size_alloc, World.size_drew, Act.put, List.setIfInBounds_toArray, List.set_cons_succ, List.set_cons_zero]
        refine WD.eff 9 (by kernel_rfl) ?_
        simp only [pick, List.toList_toArray, List.map_cons, List.map_nil, List.getD_cons_succ, List.getD_cons_zero]
        go_wp2_with (go_at_call 24; refine hxc.mono ?_; rintro e w6 ⟨rfl, ia, v6⟩)
        have E6 := hid (Ev.then PP (dx d0 (dOf X1) none Fb x0 X1 none ib) E5.out v6)
        have cx6 := (HC2.out _ _ _ E6.out.held).2.2
        have cd6 := (HC2.out _ _ _ E6.out.held).1.2
        have hg := cr_good HX.out.2 []
        have hst := stands_any (l := []) (dx_pr (Held.part PP (dx d0 (dOf X1) none Fb x0 X1 none ib) E6.out.held)) hg.1 (by omega) (by rw [hg.2.2.2]; have := Htx.out; omega)
        clear hxc v6 cx5 E5
        try refine wpList_nil ?_
        refine AfterD.on cx6 (by kernel_rfl) ?_
        try simp only [World.size_alloc, World.size_drew, Act.put, List.setIfInBounds_toArray, List.set_cons_succ, List.set_cons_zero]
        refine WD.pure [10, 11, 12, 13, 14, 15, 16, 17, 18, 19] (by kernel_rfl) cx6 ?_
        simp only [pick, List.toList_toArray, List.map_cons, List.map_nil, List.getD_cons_succ, List.getD_cons_zero]
        repeat (first | (refine quiet_load_1R (by rfl) _ _ rfl rfl (.pointer (some ⟨x1, 0, none⟩)) (fun w0 h => h) _ Try.underlying43 rfl ?_; simp only [World.size_alloc, World.size_drew, Act.put, List.setIfInBounds_toArray, List.set_cons_succ, List.set_cons_zero]) | go_big_quiet_step (fail))
        refine wpQuiet_nil ?_
        refine WD.eff 20 (by kernel_rfl) ?_
        simp only [pick, List.toList_toArray, List.map_cons, List.map_nil, List.getD_cons_succ, List.getD_cons_zero]
        go_wp2_with (go_at_call 18; refine hst.mono ?_; rintro e w8 ⟨rfl, f8⟩)
        have E8 := hid (E6.out.step f8)
        have cx8 := (HC2.out _ _ _ E8.out.held).2.2
        have cd8 := (HC2.out _ _ _ E8.out.held).1.2
        have hfl := cflush_any (l := []) (lf := none) (dx_pr (Held.part PP (dx d0 (dOf X1) none Fb x0 X1 none ib) E8.out.held)) hg.1 (by rw [hg.2.2.2]; have := Htx.out; omega)
        rw [flL_none] at hfl
        obtain ⟨fc, hfc⟩ : ∃ fc, flC (crX Y []) none = fc := ⟨_, rfl⟩
        rw [hfc] at hfl
        clear hst f8 cx6 cd6 E6
        try refine wpList_nil ?_
        refine AfterD.on cx8 (by kernel_rfl) ?_
        try simp only [World.size_alloc, World.size_drew, Act.put, List.setIfInBounds_toArray, List.set_cons_succ, List.set_cons_zero]
        refine WD.pure [21, 22, 23, 24, 25, 26, 27] (by kernel_rfl) cx8 ?_
        simp only [pick, List.toList_toArray, List.map_cons, List.map_nil, List.getD_cons_succ, List.getD_cons_zero]
        repeat (first | (refine quiet_load_1R (by rfl) _ _ rfl rfl (.pointer (some ⟨x1, 0, none⟩)) (fun w0 h => h) _ Try.underlying43 rfl ?_; simp only [World.size_alloc, World.size_drew, Act.put, List.setIfInBounds_toArray, List.set_cons_succ, List.set_cons_zero]) | go_big_quiet_step (fail))
        refine wpQuiet_nil ?_
        refine WD.free [29, 30, 31] (by kernel_rfl) cx8 ?_
        simp only [pick, List.toList_toArray, List.map_cons, List.map_nil, List.getD_cons_succ, List.getD_cons_zero]
        repeat (first | (refine quiet_load_1R (by rfl) _ _ rfl rfl (.pointer (some ⟨x1, 0, none⟩)) (fun w0 h => h) _ Try.underlying43 rfl ?_; simp only [World.size_alloc, World.size_drew, Act.put, List.setIfInBounds_toArray, List.set_cons_succ, List.set_cons_zero]) | go_big_quiet_step (fail))
        refine wpQuiet_nil ?_
        refine WD.held [32] (by kernel_rfl) cx8 ?_
        simp only [pick, List.toList_toArray, List.map_cons, List.map_nil, List.getD_cons_succ, List.getD_cons_zero]
        repeat (first | (refine quiet_load_1R (by rfl) _ _ rfl rfl (.pointer (some ⟨x1, 0, none⟩)) (fun w0 h => h) _ Try.underlying43 rfl ?_; simp only [World.size_alloc, World.size_drew, Act.put, List.setIfInBounds_toArray, List.set_cons_succ, List.set_cons_zero]) | go_big_quiet_step (fail))
        refine wpQuiet_nil ?_
        refine WD.eff 28 (by kernel_rfl) ?_
        simp only [pick, List.toList_toArray, List.map_cons, List.map_nil, List.getD_cons_succ, List.getD_cons_zero]
        go_wp2_with (go_at_call 9; refine hfl.mono ?_; rintro e w9 ⟨rfl, Fd, v9⟩)
        have E9 := hid (Ev.then PP (dx d0 (dOf X1) none Fb x0 X1 none ib) E8.out (pr_dx v9))
        have cx9 := (HC2.out _ _ _ E9.out.held).2.2
        have hxf := dflush_any (l := []) (lf := none) (dx_pr (Held.part PP (dx d0 (dOf X1) none Fb x0 X1 none ib) E9.out.held)) hg.1 (by omega) (by rw [hg.2.2.2]; have := Htx.out; omega)
        rw [flL_none, hfc] at hxf
        clear hfl v9 cx8 cd8 E8 hfc
        try refine wpList_nil ?_
        refine AfterD.on cx9 (by kernel_rfl) ?_
        try simp only [World.size_alloc, World.size_drew, Act.put, List.setIfInBounds_toArray, List.set_cons_succ, List.set_cons_zero]
        refine WD.eff 33 (by kernel_rfl) ?_
        simp only [pick, List.toList_toArray, List.map_cons, List.map_nil, List.getD_cons_succ, List.getD_cons_zero]
        go_wp2_with (go_at_call 25; refine hxf.mono ?_; rintro e w10 ⟨rfl, id2, v10⟩)
        have E13 := hid (Ev.then PP (dx d0 (dOf X1) none Fb x0 X1 none ib) E9.out (pr_dx v10))
        have cx10 := (HC2.out _ _ _ E13.out.held).2.2
        clear hxf v10 cx9 E9 hg
        try refine wpList_nil ?_
        refine AfterD.on cx10 (by kernel_rfl) ?_
        try simp only [World.size_alloc, World.size_drew, Act.put, List.setIfInBounds_toArray, List.set_cons_succ, List.set_cons_zero]
        refine WD.pure [34, 35] (by kernel_rfl) cx10 ?_
        simp only [pick, List.toList_toArray, List.map_cons, List.map_nil, List.getD_cons_succ, List.getD_cons_zero]
        repeat (first | (refine quiet_load_1R (by rfl) _ _ rfl rfl (.pointer (some ⟨x1, 0, none⟩)) (fun w0 h => h) _ Try.underlying43 rfl ?_; simp only [World.size_alloc, World.size_drew, Act.put, List.setIfInBounds_toArray, List.set_cons_succ, List.set_cons_zero]) | go_big_quiet_step (fail))
        refine wpQuiet_nil ?_
        refine WD.done (by kernel_rfl) ?_
        clear cx10
        generalize flX (crX Y []) none = X2 at *
        go_wp2_with fail
        rw [rounds_succ]
        have hq13 := HPQ.out _ _ _ (E13.out.step (Fr.refl [] _).drew).held
        have cd13 := (HC2.out _ _ _ E13.out.held).1.1
        have lf13 := left_any hq13.1
        have g13 := (E13.out.step (Fr.refl [] _).drew).fr
        have cq13 := hq13.2
        clear E13 HPQ HC2 hq13
        go_wp2_with fail
        refine wp_region_D (fun w' => w'.cell? ⟨q, 0, none⟩ = some (.int .i64 (n : Int))) false [] (by kernel_rfl) ?_
        refine WD.pure [0] (by kernel_rfl) cq13 ?_
        simp only [pick, List.toList_toArray, List.map_cons, List.map_nil, List.getD_cons_succ, List.getD_cons_zero]
        repeat (first | (refine quiet_load_1R (by rfl) _ _ rfl rfl (.int .i64 (n : Int)) (fun w0 h => h) _ Try.underlying3 rfl ?_; simp only [World.size_alloc, World.size_drew, Act.put, List.setIfInBounds_toArray, List.set_cons_succ, List.set_cons_zero]) | go_big_quiet_step (fail))
        refine wpQuiet_nil ?_
        refine WD.eff 1 (by kernel_rfl) ?_
        simp only [pick, List.toList_toArray, List.map_cons, List.map_nil, List.getD_cons_succ, List.getD_cons_zero]
        go_wp2_with (go_at_call 22; refine left_nil.mono ?_; rintro e w5 ⟨rfl, hw⟩; subst hw)
        try refine wpList_nil ?_
        refine AfterD.on cq13 (by kernel_rfl) ?_
        try simp only [World.size_alloc, World.size_drew, Act.put, List.setIfInBounds_toArray, List.set_cons_succ, List.set_cons_zero]
        refine WD.pure [2, 3, 4, 5, 6] (by kernel_rfl) cq13 ?_
        simp only [pick, List.toList_toArray, List.map_cons, List.map_nil, List.getD_cons_succ, List.getD_cons_zero]
        repeat (first | (refine quiet_load_1R (by rfl) _ _ rfl rfl (.int .i64 (n : Int)) (fun w0 h => h) _ Try.underlying3 rfl ?_; simp only [World.size_alloc, World.size_drew, Act.put, List.setIfInBounds_toArray, List.set_cons_succ, List.set_cons_zero]) | go_big_quiet_step (fail))
        refine wpQuiet_nil ?_
        refine WD.eff 7 (by kernel_rfl) ?_
        simp only [pick, List.toList_toArray, List.map_cons, List.map_nil, List.getD_cons_succ, List.getD_cons_zero]
        go_wp2_with (go_at_call 20; refine (wire_none _).mono ?_; rintro e w6 ⟨rfl, hw⟩; subst hw)
        try refine wpList_nil ?_
        refine AfterD.on cq13 (by kernel_rfl) ?_
        try simp only [World.size_alloc, World.size_drew, Act.put, List.setIfInBounds_toArray, List.set_cons_succ, List.set_cons_zero]
        refine WD.pure [8, 9, 10, 11] (by kernel_rfl) cq13 ?_
        simp only [pick, List.toList_toArray, List.map_cons, List.map_nil, List.getD_cons_succ, List.getD_cons_zero]
        repeat (first | (refine quiet_load_1R (by rfl) _ _ rfl rfl (.int .i64 (n : Int)) (fun w0 h => h) _ Try.underlying3 rfl ?_; simp only [World.size_alloc, World.size_drew, Act.put, List.setIfInBounds_toArray, List.set_cons_succ, List.set_cons_zero]) | go_big_quiet_step (fail))
        refine wpQuiet_nil ?_
        refine WD.free [13, 14, 15] (by kernel_rfl) cq13 ?_
        simp only [pick, List.toList_toArray, List.map_cons, List.map_nil, List.getD_cons_succ, List.getD_cons_zero]
        repeat (first | (refine quiet_load_1R (by rfl) _ _ rfl rfl (.int .i64 (n : Int)) (fun w0 h => h) _ Try.underlying3 rfl ?_; simp only [World.size_alloc, World.size_drew, Act.put, List.setIfInBounds_toArray, List.set_cons_succ, List.set_cons_zero]) | go_big_quiet_step (fail))
        refine wpQuiet_nil ?_
        refine WD.held [16] (by kernel_rfl) cq13 ?_
        simp only [pick, List.toList_toArray, List.map_cons, List.map_nil, List.getD_cons_succ, List.getD_cons_zero]
        repeat (first | (refine quiet_load_1R (by rfl) _ _ rfl rfl (.int .i64 (n : Int)) (fun w0 h => h) _ Try.underlying3 rfl ?_; simp only [World.size_alloc, World.size_drew, Act.put, List.setIfInBounds_toArray, List.set_cons_succ, List.set_cons_zero]) | go_big_quiet_step (fail))
        refine wpQuiet_nil ?_
        refine WD.eff 12 (by kernel_rfl) ?_
        simp only [pick, List.toList_toArray, List.map_cons, List.map_nil, List.getD_cons_succ, List.getD_cons_zero]
        go_wp2_with (go_at_call 22; refine lf13.mono ?_; rintro e w7 ⟨rfl, hw⟩; subst hw)
        try refine wpList_nil ?_
        refine AfterD.on cq13 (by kernel_rfl) ?_
        try simp only [World.size_alloc, World.size_drew, Act.put, List.setIfInBounds_toArray, List.set_cons_succ, List.set_cons_zero]
        refine WD.pure [17, 18, 19] (by kernel_rfl) cq13 ?_
        simp only [pick, List.toList_toArray, List.map_cons, List.map_nil, List.getD_cons_succ, List.getD_cons_zero]
        repeat (first | (refine quiet_load_1R (by rfl) _ _ rfl rfl (.int .i64 (n : Int)) (fun w0 h => h) _ Try.underlying3 rfl ?_; simp only [World.size_alloc, World.size_drew, Act.put, List.setIfInBounds_toArray, List.set_cons_succ, List.set_cons_zero]) | go_big_quiet_step (fail))
        refine wpQuiet_nil ?_
        refine WD.eff 20 (by kernel_rfl) ?_
        simp only [pick, List.toList_toArray, List.map_cons, List.map_nil, List.getD_cons_succ, List.getD_cons_zero]
        go_wp2_with (go_at_call 15; refine alive_any.mono ?_; rintro e w8 ⟨rfl, f8⟩)
        have cq14 := f8.cell_some cq13
        try refine wpList_nil ?_
        refine AfterD.on cq14 (by kernel_rfl) ?_
        try simp only [World.size_alloc, World.size_drew, Act.put, List.setIfInBounds_toArray, List.set_cons_succ, List.set_cons_zero]
        refine WD.pure [21, 22] (by kernel_rfl) cq14 ?_
        simp only [pick, List.toList_toArray, List.map_cons, List.map_nil, List.getD_cons_succ, List.getD_cons_zero]
        repeat (first | (refine quiet_load_1R (by rfl) _ _ rfl rfl (.int .i64 (n : Int)) (fun w0 h => h) _ Try.underlying3 rfl ?_; simp only [World.size_alloc, World.size_drew, Act.put, List.setIfInBounds_toArray, List.set_cons_succ, List.set_cons_zero]) | go_big_quiet_step (fail))
        refine wpQuiet_nil ?_
        refine WD.done (by kernel_rfl) ?_
        go_wp2_with fail
        go_ret
        exact ⟨by simp, g13.trans' f8⟩
      · have t1 : decide ((j : Int) < (ln : Int)) = false := by simp; omega
        have t1' : ¬ ((j : Int) < (ln : Int)) := by omega
        go_wp2_with fail
        refine wp_region_D (fun w' => w'.cell? ⟨db, 1, none⟩ = some (.pointer (some ⟨d1, 0, none⟩))) false [] (by kernel_rfl) ?_
        refine WD.pure [0, 1, 2] (by kernel_rfl) cd1 ?_
        simp only [pick, List.toList_toArray, List.map_cons, List.map_nil, List.getD_cons_succ, List.getD_cons_zero]
        repeat (first | (refine quiet_load_1R (by rfl) _ _ rfl rfl (.pointer (some ⟨d1, 0, none⟩)) (fun w0 h => h) _ Try.underlying24 rfl ?_; simp only [World.size_alloc, World.size_drew, Act.put, List.setIfInBounds_toArray, List.set_cons_succ, List.set_cons_zero]) | go_big_quiet_step (fail) | (refine quiet_len_v (by rfl) _ _ rfl Try.underlying37 rfl ?_; simp only [World.size_alloc, World.size_drew, Act.put, List.setIfInBounds_toArray, List.set_cons_succ, List.set_cons_zero]))
        refine wpQuiet_nil ?_
        refine WD.free [5, 6] (by kernel_rfl) cd1 ?_
        simp only [pick, List.toList_toArray, List.map_cons, List.map_nil, List.getD_cons_succ, List.getD_cons_zero]
        repeat (first | (refine quiet_load_1R (by rfl) _ _ rfl rfl (.pointer (some ⟨d1, 0, none⟩)) (fun w0 h => h) _ Try.underlying24 rfl ?_; simp only [World.size_alloc, World.size_drew, Act.put, List.setIfInBounds_toArray, List.set_cons_succ, List.set_cons_zero]) | go_big_quiet_step (fail) | (refine quiet_len_v (by rfl) _ _ rfl Try.underlying37 rfl ?_; simp only [World.size_alloc, World.size_drew, Act.put, List.setIfInBounds_toArray, List.set_cons_succ, List.set_cons_zero]))
        refine wpQuiet_nil ?_
        refine WD.held [7] (by kernel_rfl) cd1 ?_
        simp only [pick, List.toList_toArray, List.map_cons, List.map_nil, List.getD_cons_succ, List.getD_cons_zero]
        repeat (first | (refine quiet_load_1R (by rfl) _ _ rfl rfl (.pointer (some ⟨d1, 0, none⟩)) (fun w0 h => h) _ Try.underlying24 rfl ?_; simp only [World.size_alloc, World.size_drew, Act.put, List.setIfInBounds_toArray, List.set_cons_succ, List.set_cons_zero]) | go_big_quiet_step (fail) | (refine quiet_len_v (by rfl) _ _ rfl Try.underlying37 rfl ?_; simp only [World.size_alloc, World.size_drew, Act.put, List.setIfInBounds_toArray, List.set_cons_succ, List.set_cons_zero]))
        refine wpQuiet_nil ?_
        refine WD.eff 3 (by kernel_rfl) ?_
        simp only [pick, List.toList_toArray, List.map_cons, List.map_nil, List.getD_cons_succ, List.getD_cons_zero]
        go_wp2_with (go_at_call 23; refine (KT0.out _ (Fr.refl _ _).drew).mono ?_; rintro e w5 ⟨⟨ta5, tc5, rfl⟩, f5⟩)
        have g5 := (Fr.refl [] wr).drew.trans' f5
        have cd15 := g5.cell_some cd1
        try refine wpList_nil ?_
        refine AfterD.on cd15 (by kernel_rfl) ?_
        try simp only [World.size_alloc, World.size_drew, Act.put, List.setIfInBounds_toArray, List.set_cons_succ, List.set_cons_zero]
        refine WD.held [4] (by kernel_rfl) cd15 ?_
        simp only [pick, List.toList_toArray, List.map_cons, List.map_nil, List.getD_cons_succ, List.getD_cons_zero]
        repeat (first | (refine quiet_load_1R (by rfl) _ _ rfl rfl (.pointer (some ⟨d1, 0, none⟩)) (fun w0 h => h) _ Try.underlying24 rfl ?_; simp only [World.size_alloc, World.size_drew, Act.put, List.setIfInBounds_toArray, List.set_cons_succ, List.set_cons_zero]) | go_big_quiet_step (fail) | (refine quiet_len_v (by rfl) _ _ rfl Try.underlying37 rfl ?_; simp only [World.size_alloc, World.size_drew, Act.put, List.setIfInBounds_toArray, List.set_cons_succ, List.set_cons_zero]))
        refine wpQuiet_nil ?_
        refine WD.eff 8 (by kernel_rfl) ?_
        simp only [pick, List.toList_toArray, List.map_cons, List.map_nil, List.getD_cons_succ, List.getD_cons_zero]
        go_wp2_with (go_at_call 23; refine (KT1.out _ g5).mono ?_; rintro e w6 ⟨⟨ta6, tc6, rfl⟩, f6⟩)
        have g6 := g5.trans' f6
        have cd16 := g6.cell_some cd1
        try refine wpList_nil ?_
        refine AfterD.on cd16 (by kernel_rfl) ?_
        try simp only [World.size_alloc, World.size_drew, Act.put, List.setIfInBounds_toArray, List.set_cons_succ, List.set_cons_zero]
        refine WD.pure [9, 10, 11] (by kernel_rfl) cd16 ?_
        simp only [pick, List.toList_toArray, List.map_cons, List.map_nil, List.getD_cons_succ, List.getD_cons_zero]
        repeat (first | (refine quiet_load_1R (by rfl) _ _ rfl rfl (.pointer (some ⟨d1, 0, none⟩)) (fun w0 h => h) _ Try.underlying24 rfl ?_; simp only [World.size_alloc, World.size_drew, Act.put, List.setIfInBounds_toArray, List.set_cons_succ, List.set_cons_zero]) | go_big_quiet_step (fail) | (refine quiet_len_v (by rfl) _ _ rfl Try.underlying37 rfl ?_; simp only [World.size_alloc, World.size_drew, Act.put, List.setIfInBounds_toArray, List.set_cons_succ, List.set_cons_zero]))
        refine wpQuiet_nil ?_
        refine WD.done (by kernel_rfl) ?_
        have E6 := hid (EV.out.step g6)
        have lf6 := left_any (HPW.out _ _ _ _ _ _ _ _ _ _ _ _ E6.out.held).1
        clear EV KT0 KT1 cd0 cd1 cd15 cd16 g5 g6 f5 f6
        go_wp2_with (go_at_call 22; refine lf6.mono ?_; rintro e w7 ⟨rfl, hw⟩; subst hw; clear lf6)
        have e7 : Ev w [] w7 ((SL ++ [Res.pow (some (p, n)), Res.pow (some (q, n))]) ++ dx d0 (dOf X) (some (p, n)) F x0 X (some (q, n)) i ++ dx d1 (dOf Y) (some (p, n)) G x1 Y (some (q, n)) i') := by
          have := Ev.perm E6.out (two_perm.append_left SL)
          simpa only [List.append_assoc, List.cons_append, List.nil_append] using this
        have HC2 := hid fun (w1 : World) (m m' : List Res) (h : Held w1 ((SL ++ [Res.pow (some (p, n)), Res.pow (some (q, n))]) ++ m ++ m')) => HC.out w1 ([Res.pow (some (p, n)), Res.pow (some (q, n))] ++ (m ++ m')) (by rw [← List.append_assoc, ← List.append_assoc]; exact h)
        have HPQ := hid fun (w1 : World) (m m' : List Res) (h : Held w1 ((SL ++ [Res.pow (some (p, n)), Res.pow (some (q, n))]) ++ m ++ m')) => (show pwOk w1 (some (p, n)) ∧ w1.cell? ⟨q, 0, none⟩ = some (.int .i64 (n : Int)) by
          have h2 : Held w1 [Res.pow (some (p, n)), Res.pow (some (q, n))] := Held.part SL (m ++ m') (by rw [← List.append_assoc]; exact h)
          have a2 : pwOk w1 (some (q, n)) := h2.at 1 rfl
          exact ⟨h2.at 0 rfl, a2.1.cell 0⟩)
        generalize (SL ++ [Res.pow (some (p, n)), Res.pow (some (q, n))]) = PP at *
        have E7 := hid e7
        clear e7 E6 HPW HC
        refine wp_loop_rounds 3 ?_
        rw [rounds_succ]
        have hcr := ccrash_d (Held.part PP (dx d1 (dOf Y) (some (p, n)) G x1 Y (some (q, n)) i') (E7.out.step (Fr.refl [] _).drew).held) (by omega)
        have hh := HC2.out _ _ _ (E7.out.step (Fr.refl [] _).drew).held
        have cd := hh.1.1
        have cx := hh.2.1
        clear hh
        go_wp2_with fail
        refine wp_region_D (fun w' => w'.cell? ⟨xb, 0, none⟩ = some (.pointer (some ⟨x0, 0, none⟩))) false [] (by kernel_rfl) ?_
        refine WD.pure [0, 1, 2, 3] (by kernel_rfl) cx ?_
        simp only [pick, List.toList_toArray, List.map_cons, List.map_nil, List.getD_cons_succ, List.getD_cons_zero]
        repeat (first | (refine quiet_load_1R (by rfl) _ _ rfl rfl (.pointer (some ⟨x0, 0, none⟩)) (fun w0 h => h) _ Try.underlying43 rfl ?_; simp only [World.size_alloc, World.size_drew, Act.put, List.setIfInBounds_toArray, List.set_cons_succ, List.set_cons_zero]) | go_big_quiet_step (fail))
        refine wpQuiet_nil ?_
        refine WD.free [5, 6, 7] (by kernel_rfl) cx ?_
        simp only [pick, List.toList_toArray, List.map_cons, List.map_nil, List.getD_cons_succ, List.getD_cons_zero]
        repeat (first | (refine quiet_load_1R (by rfl) _ _ rfl rfl (.pointer (some ⟨x0, 0, none⟩)) (fun w0 h => h) _ Try.underlying43 rfl ?_; simp only [World.size_alloc, World.size_drew, Act.put, List.setIfInBounds_toArray, List.set_cons_succ, List.set_cons_zero]) | go_big_quiet_step (fail))
        refine wpQuiet_nil ?_
        refine WD.held [8] (by kernel_rfl) cx ?_
        simp only [pick, List.toList_toArray, List.map_cons, List.map_nil, List.getD_cons_succ, List.getD_cons_zero]
        repeat (first | (refine quiet_load_1R (by rfl) _ _ rfl rfl (.pointer (some ⟨x0, 0, none⟩)) (fun w0 h => h) _ Try.underlying43 rfl ?_; simp only [World.size_alloc, World.size_drew, Act.put, List.setIfInBounds_toArray, List.set_cons_succ, List.set_cons_zero]) | go_big_quiet_step (fail))
        refine wpQuiet_nil ?_
        refine WD.eff 4 (by kernel_rfl) ?_
        simp only [pick, List.toList_toArray, List.map_cons, List.map_nil, List.getD_cons_succ, List.getD_cons_zero]
        obtain ⟨cc, hcc⟩ : ∃ cc, (if X.Dead = true then (60 : Int) else 0) = cc := ⟨_, rfl⟩
        rw [hcc] at hcr
        go_wp2_with (go_at_call 12; refine hcr.mono ?_; rintro e w5 ⟨rfl, Fa, v5⟩)
        have E5 := hid (Ev.then PP (dx d1 (dOf Y) (some (p, n)) G x1 Y (some (q, n)) i') (E7.out.step (Fr.refl [] _).drew) v5)
        have cx5 := (HC2.out _ _ _ E5.out.held).2.1
        have hxc := dcrash_d (Held.part PP (dx d1 (dOf Y) (some (p, n)) G x1 Y (some (q, n)) i') E5.out.held) HX.out.1 (by omega)
        rw [hcc] at hxc
        clear hcr v5 cd cx E7 hcc
        try refine wpList_nil ?_
        refine AfterD.on cx5 (by kernel_rfl) ?_
        try simp only [World.size_alloc, World.size_drew, Act.put, List.setIfInBounds_toArray, List.set_cons_succ, List.set_cons_zero]
        refine WD.eff 9 (by kernel_rfl) ?_
        simp only [pick, List.toList_toArray, List.map_cons, List.map_nil, List.getD_cons_succ, List.getD_cons_zero]
        go_wp2_with (go_at_call 24; refine hxc.mono ?_; rintro e w6 ⟨rfl, ia, v6⟩)
        have E6 := hid (Ev.then PP (dx d1 (dOf Y) (some (p, n)) G x1 Y (some (q, n)) i') E5.out v6)
        have cx6 := (HC2.out _ _ _ E6.out.held).2.1
        have cd6 := (HC2.out _ _ _ E6.out.held).1.1
        have hg := cr_good HX.out.1 []
        have hst := stands_any (l := []) (dx_pr (Held.part PP (dx d1 (dOf Y) (some (p, n)) G x1 Y (some (q, n)) i') E6.out.held)) hg.1 (by omega) (by rw [hg.2.2.2]; have := Htx.out; omega)
        clear hxc v6 cx5 E5
        try refine wpList_nil ?_
        refine AfterD.on cx6 (by kernel_rfl) ?_
        try simp only [World.size_alloc, World.size_drew, Act.put, List.setIfInBounds_toArray, List.set_cons_succ, List.set_cons_zero]
        refine WD.pure [10, 11, 12, 13, 14, 15, 16, 17, 18, 19] (by kernel_rfl) cx6 ?_
        simp only [pick, List.toList_toArray, List.map_cons, List.map_nil, List.getD_cons_succ, List.getD_cons_zero]
        repeat (first | (refine quiet_load_1R (by rfl) _ _ rfl rfl (.pointer (some ⟨x0, 0, none⟩)) (fun w0 h => h) _ Try.underlying43 rfl ?_; simp only [World.size_alloc, World.size_drew, Act.put, List.setIfInBounds_toArray, List.set_cons_succ, List.set_cons_zero]) | go_big_quiet_step (fail))
        refine wpQuiet_nil ?_
        refine WD.eff 20 (by kernel_rfl) ?_
        simp only [pick, List.toList_toArray, List.map_cons, List.map_nil, List.getD_cons_succ, List.getD_cons_zero]
        go_wp2_with (go_at_call 18; refine hst.mono ?_; rintro e w8 ⟨rfl, f8⟩)
        have E8 := hid (E6.out.step f8)
        have cx8 := (HC2.out _ _ _ E8.out.held).2.1
        have cd8 := (HC2.out _ _ _ E8.out.held).1.1
        have hfl := cflush_any (l := []) (lf := none) (dx_pr (Held.part PP (dx d1 (dOf Y) (some (p, n)) G x1 Y (some (q, n)) i') E8.out.held)) hg.1 (by rw [hg.2.2.2]; have := Htx.out; omega)
        rw [flL_none] at hfl
        obtain ⟨fc, hfc⟩ : ∃ fc, flC (crX X []) none = fc := ⟨_, rfl⟩
        rw [hfc] at hfl
        clear hst f8 cx6 cd6 E6
        try refine wpList_nil ?_
        refine AfterD.on cx8 (by kernel_rfl) ?_
        try simp only [World.size_alloc, World.size_drew, Act.put, List.setIfInBounds_toArray, List.set_cons_succ, List.set_cons_zero]
        refine WD.pure [21, 22, 23, 24, 25, 26, 27] (by kernel_rfl) cx8 ?_
        simp only [pick, List.toList_toArray, List.map_cons, List.map_nil, List.getD_cons_succ, List.getD_cons_zero]
        repeat (first | (refine quiet_load_1R (by rfl) _ _ rfl rfl (.pointer (some ⟨x0, 0, none⟩)) (fun w0 h => h) _ Try.underlying43 rfl ?_; simp only [World.size_alloc, World.size_drew, Act.put, List.setIfInBounds_toArray, List.set_cons_succ, List.set_cons_zero]) | go_big_quiet_step (fail))
        refine wpQuiet_nil ?_
        refine WD.free [29, 30, 31] (by kernel_rfl) cx8 ?_
        simp only [pick, List.toList_toArray, List.map_cons, List.map_nil, List.getD_cons_succ, List.getD_cons_zero]
        repeat (first | (refine quiet_load_1R (by rfl) _ _ rfl rfl (.pointer (some ⟨x0, 0, none⟩)) (fun w0 h => h) _ Try.underlying43 rfl ?_; simp only [World.size_alloc, World.size_drew, Act.put, List.setIfInBounds_toArray, List.set_cons_succ, List.set_cons_zero]) | go_big_quiet_step (fail))
        refine wpQuiet_nil ?_
        refine WD.held [32] (by kernel_rfl) cx8 ?_
        simp only [pick, List.toList_toArray, List.map_cons, List.map_nil, List.getD_cons_succ, List.getD_cons_zero]
        repeat (first | (refine quiet_load_1R (by rfl) _ _ rfl rfl (.pointer (some ⟨x0, 0, none⟩)) (fun w0 h => h) _ Try.underlying43 rfl ?_; simp only [World.size_alloc, World.size_drew, Act.put, List.setIfInBounds_toArray, List.set_cons_succ, List.set_cons_zero]) | go_big_quiet_step (fail))
        refine wpQuiet_nil ?_
        refine WD.eff 28 (by kernel_rfl) ?_
        simp only [pick, List.toList_toArray, List.map_cons, List.map_nil, List.getD_cons_succ, List.getD_cons_zero]
        go_wp2_with (go_at_call 9; refine hfl.mono ?_; rintro e w9 ⟨rfl, Fb, v9⟩)
        have E9 := hid (Ev.then PP (dx d1 (dOf Y) (some (p, n)) G x1 Y (some (q, n)) i') E8.out (pr_dx v9))
        have cx9 := (HC2.out _ _ _ E9.out.held).2.1
        have hxf := dflush_any (l := []) (lf := none) (dx_pr (Held.part PP (dx d1 (dOf Y) (some (p, n)) G x1 Y (some (q, n)) i') E9.out.held)) hg.1 (by omega) (by rw [hg.2.2.2]; have := Htx.out; omega)
        rw [flL_none, hfc] at hxf
        clear hfl v9 cx8 cd8 E8 hfc
        try refine wpList_nil ?_
        refine AfterD.on cx9 (by kernel_rfl) ?_
        try simp only [World.size_alloc, World.size_drew, Act.put, List.setIfInBounds_toArray, List.set_cons_succ, List.set_cons_zero]
        refine WD.eff 33 (by kernel_rfl) ?_
        simp only [pick, List.toList_toArray, List.map_cons, List.map_nil, List.getD_cons_succ, List.getD_cons_zero]
        go_wp2_with (go_at_call 25; refine hxf.mono ?_; rintro e w10 ⟨rfl, ib, v10⟩)
        have E11 := hid (Ev.then PP (dx d1 (dOf Y) (some (p, n)) G x1 Y (some (q, n)) i') E9.out (pr_dx v10))
        have cx10 := (HC2.out _ _ _ E11.out.held).2.1
        clear hxf v10 cx9 E9 hg
        try refine wpList_nil ?_
        refine AfterD.on cx10 (by kernel_rfl) ?_
        try simp only [World.size_alloc, World.size_drew, Act.put, List.setIfInBounds_toArray, List.set_cons_succ, List.set_cons_zero]
        refine WD.pure [34, 35] (by kernel_rfl) cx10 ?_
        simp only [pick, List.toList_toArray, List.map_cons, List.map_nil, List.getD_cons_succ, List.getD_cons_zero]
        repeat (first | (refine quiet_load_1R (by rfl) _ _ rfl rfl (.pointer (some ⟨x0, 0, none⟩)) (fun w0 h => h) _ Try.underlying43 rfl ?_; simp only [World.size_alloc, World.size_drew, Act.put, List.setIfInBounds_toArray, List.set_cons_succ, List.set_cons_zero]) | go_big_quiet_step (fail))
        refine wpQuiet_nil ?_
        refine WD.done (by kernel_rfl) ?_
        clear cx10
        generalize flX (crX X []) none = X1 at *
        go_wp2_with fail
        have E12 : Hid (Ev w [] w10 (PP ++ dx d1 (dOf Y) (some (p, n)) G x1 Y (some (q, n)) i' ++ dx d0 (dOf X1) none Fb x0 X1 none ib)) := hid (Ev.perm E11.out (by rw [List.append_assoc, List.append_assoc]; exact List.perm_append_comm.append_left PP))
        clear E11
        rw [rounds_succ]
        have hcr := ccrash_d (Held.part PP (dx d0 (dOf X1) none Fb x0 X1 none ib) (E12.out.step (Fr.refl [] _).drew).held) (by omega)
        have hh := HC2.out _ _ _ (E12.out.step (Fr.refl [] _).drew).held
        have cd := hh.1.2
        have cx := hh.2.2
        clear hh
        go_wp2_with fail
        refine wp_region_D (fun w' => w'.cell? ⟨xb, 1, none⟩ = some (.pointer (some ⟨x1, 0, none⟩))) false [] (by kernel_rfl) ?_
        refine WD.pure [0, 1, 2, 3] (by kernel_rfl) cx ?_
        simp only [pick, List.toList_toArray, List.map_cons, List.map_nil, List.getD_cons_succ, List.getD_cons_zero]
        repeat (first | (refine quiet_load_1R (by rfl) _ _ rfl rfl (.pointer (some ⟨x1, 0, none⟩)) (fun w0 h => h) _ Try.underlying43 rfl ?_; simp only [World.size_alloc, World.size_drew, Act.put, List.setIfInBounds_toArray, List.set_cons_succ, List.set_cons_zero]) | go_big_quiet_step (fail))
        refine wpQuiet_nil ?_
        refine WD.free [5, 6, 7] (by kernel_rfl) cx ?_
        simp only [pick, List.toList_toArray, List.map_cons, List.map_nil, List.getD_cons_succ, List.getD_cons_zero]
        repeat (first | (refine quiet_load_1R (by rfl) _ _ rfl rfl (.pointer (some ⟨x1, 0, none⟩)) (fun w0 h => h) _ Try.underlying43 rfl ?_; simp only [World.size_alloc, World.size_drew, Act.put, List.setIfInBounds_toArray, List.set_cons_succ, List.set_cons_zero]) | go_big_quiet_step (fail))
        refine wpQuiet_nil ?_
        refine WD.held [8] (by kernel_rfl) cx ?_
        simp only [pick, List.toList_toArray, List.map_cons, List.map_nil, List.getD_cons_succ, List.getD_cons_zero]
        repeat (first | (refine quiet_load_1R (by rfl) _ _ rfl rfl (.pointer (some ⟨x1, 0, none⟩)) (fun w0 h => h) _ Try.underlying43 rfl ?_; simp only [World.size_alloc, World.size_drew, Act.put, List.setIfInBounds_toArray, List.set_cons_succ, List.set_cons_zero]) | go_big_quiet_step (fail))
        refine wpQuiet_nil ?_
        refine WD.eff 4 (by kernel_rfl) ?_
        simp only [pick, List.toList_toArray, List.map_cons, List.map_nil, List.getD_cons_succ, List.getD_cons_zero]
        obtain ⟨cc, hcc⟩ : ∃ cc, (if Y.Dead = true then (60 : Int) else 0) = cc := ⟨_, rfl⟩
        rw [hcc] at hcr
        go_wp2_with (go_at_call 12; refine hcr.mono ?_; rintro e w5 ⟨rfl, Fa, v5⟩)
        have E5 := hid (Ev.then PP (dx d0 (dOf X1) none Fb x0 X1 none ib) (E12.out.step (Fr.refl [] _).drew) v5)
        have cx5 := (HC2.out _ _ _ E5.out.held).2.2
        have hxc := dcrash_d (Held.part PP (dx d0 (dOf X1) none Fb x0 X1 none ib) E5.out.held) HX.out.2 (by omega)
        rw [hcc] at hxc
        clear hcr v5 cd cx E12 hcc
        try refine wpList_nil ?_
        refine AfterD.on cx5 (by kernel_rfl) ?_
        try simp only [World.size_alloc, World.size_drew, Act.put, List.setIfInBounds_toArray, List.set_cons_succ, List.set_cons_zero]
        refine WD.eff 9 (by kernel_rfl) ?_
        simp only [pick, List.toList_toArray, List.map_cons, List.map_nil, List.getD_cons_succ, List.getD_cons_zero]
        go_wp2_with (go_at_call 24; refine hxc.mono ?_; rintro e w6 ⟨rfl, ia, v6⟩)
        have E6 := hid (Ev.then PP (dx d0 (dOf X1) none Fb x0 X1 none ib) E5.out v6)
        have cx6 := (HC2.out _ _ _ E6.out.held).2.2
        have cd6 := (HC2.out _ _ _ E6.out.held).1.2
        have hg := cr_good HX.out.2 []
        have hst := stands_any (l := []) (dx_pr (Held.part PP (dx d0 (dOf X1) none Fb x0 X1 none ib) E6.out.held)) hg.1 (by omega) (by rw [hg.2.2.2]; have := Htx.out; omega)
        clear hxc v6 cx5 E5
        try refine wpList_nil ?_
        refine AfterD.on cx6 (by kernel_rfl) ?_
        try simp only [World.size_alloc, World.size_drew, Act.put, List.setIfInBounds_toArray, List.set_cons_succ, List.set_cons_zero]
        refine WD.pure [10, 11, 12, 13, 14, 15, 16, 17, 18, 19] (by kernel_rfl) cx6 ?_
        simp only [pick, List.toList_toArray, List.map_cons, List.map_nil, List.getD_cons_succ, List.getD_cons_zero]
        repeat (first | (refine quiet_load_1R (by rfl) _ _ rfl rfl (.pointer (some ⟨x1, 0, none⟩)) (fun w0 h => h) _ Try.underlying43 rfl ?_; simp only [World.size_alloc, World.size_drew, Act.put, List.setIfInBounds_toArray, List.set_cons_succ, List.set_cons_zero]) | go_big_quiet_step (fail))
        refine wpQuiet_nil ?_
        refine WD.eff 20 (by kernel_rfl) ?_
        simp only [pick, List.toList_toArray, List.map_cons, List.map_nil, List.getD_cons_succ, List.getD_cons_zero]
        go_wp2_with (go_at_call 18; refine hst.mono ?_; rintro e w8 ⟨rfl, f8⟩)
        have E8 := hid (E6.out.step f8)
        have cx8 := (HC2.out _ _ _ E8.out.held).2.2
        have cd8 := (HC2.out _ _ _ E8.out.held).1.2
        have hfl := cflush_any (l := []) (lf := none) (dx_pr (Held.part PP (dx d0 (dOf X1) none Fb x0 X1 none ib) E8.out.held)) hg.1 (by rw [hg.2.2.2]; have := Htx.out; omega)
        rw [flL_none] at hfl
        obtain ⟨fc, hfc⟩ : ∃ fc, flC (crX Y []) none = fc := ⟨_, rfl⟩
        rw [hfc] at hfl
        clear hst f8 cx6 cd6 E6
        try refine wpList_nil ?_
        refine AfterD.on cx8 (by kernel_rfl) ?_
        try simp only [World.size_alloc, World.size_drew, Act.put, List.setIfInBounds_toArray, List.set_cons_succ, List.set_cons_zero]
        refine WD.pure [21, 22, 23, 24, 25, 26, 27] (by kernel_rfl) cx8 ?_
        simp only [pick, List.toList_toArray, List.map_cons, List.map_nil, List.getD_cons_succ, List.getD_cons_zero]
        repeat (first | (refine quiet_load_1R (by rfl) _ _ rfl rfl (.pointer (some ⟨x1, 0, none⟩)) (fun w0 h => h) _ Try.underlying43 rfl ?_; simp only [World.size_alloc, World.size_drew, Act.put, List.setIfInBounds_toArray, List.set_cons_succ, List.set_cons_zero]) | go_big_quiet_step (fail))
        refine wpQuiet_nil ?_
        refine WD.free [29, 30, 31] (by kernel_rfl) cx8 ?_
        simp only [pick, List.toList_toArray, List.map_cons, List.map_nil, List.getD_cons_succ, List.getD_cons_zero]
        repeat (first | (refine quiet_load_1R (by rfl) _ _ rfl rfl (.pointer (some ⟨x1, 0, none⟩)) (fun w0 h => h) _ Try.underlying43 rfl ?_; simp only [World.size_alloc, World.size_drew, Act.put, List.setIfInBounds_toArray, List.set_cons_succ, List.set_cons_zero]) | go_big_quiet_step (fail))
        refine wpQuiet_nil ?_
        refine WD.held [32] (by kernel_rfl) cx8 ?_
        simp only [pick, List.toList_toArray, List.map_cons, List.map_nil, List.getD_cons_succ, List.getD_cons_zero]
        repeat (first | (refine quiet_load_1R (by rfl) _ _ rfl rfl (.pointer (some ⟨x1, 0, none⟩)) (fun w0 h => h) _ Try.underlying43 rfl ?_; simp only [World.size_alloc, World.size_drew, Act.put, List.setIfInBounds_toArray, List.set_cons_succ, List.set_cons_zero]) | go_big_quiet_step (fail))
        refine wpQuiet_nil ?_
        refine WD.eff 28 (by kernel_rfl) ?_
        simp only [pick, List.toList_toArray, List.map_cons, List.map_nil, List.getD_cons_succ, List.getD_cons_zero]
        go_wp2_with (go_at_call 9; refine hfl.mono ?_; rintro e w9 ⟨rfl, Fd, v9⟩)
        have E9 := hid (Ev.then PP (dx d0 (dOf X1) none Fb x0 X1 none ib) E8.out (pr_dx v9))
        have cx9 := (HC2.out _ _ _ E9.out.held).2.2
        have hxf := dflush_any (l := []) (lf := none) (dx_pr (Held.part PP (dx d0 (dOf X1) none Fb x0 X1 none ib) E9.out.held)) hg.1 (by omega) (by rw [hg.2.2.2]; have := Htx.out; omega)
        rw [flL_none, hfc] at hxf
        clear hfl v9 cx8 cd8 E8 hfc
        try refine wpList_nil ?_
        refine AfterD.on cx9 (by kernel_rfl) ?_
        try simp only [World.size_alloc, World.size_drew, Act.put, List.setIfInBounds_toArray, List.set_cons_succ, List.set_cons_zero]
        refine WD.eff 33 (by kernel_rfl) ?_
        simp only [pick, List.toList_toArray, List.map_cons, List.map_nil, List.getD_cons_succ, List.getD_cons_zero]
        go_wp2_with (go_at_call 25; refine hxf.mono ?_; rintro e w10 ⟨rfl, id2, v10⟩)
        have E13 := hid (Ev.then PP (dx d0 (dOf X1) none Fb x0 X1 none ib) E9.out (pr_dx v10))
        have cx10 := (HC2.out _ _ _ E13.out.held).2.2
        clear hxf v10 cx9 E9 hg
        try refine wpList_nil ?_
        refine AfterD.on cx10 (by kernel_rfl) ?_
        try simp only [World.size_alloc, World.size_drew, Act.put, List.setIfInBounds_toArray, List.set_cons_succ, List.set_cons_zero]
        refine WD.pure [34, 35] (by kernel_rfl) cx10 ?_
        simp only [pick, List.toList_toArray, List.map_cons, List.map_nil, List.getD_cons_succ, List.getD_cons_zero]
        repeat (first | (refine quiet_load_1R (by rfl) _ _ rfl rfl (.pointer (some ⟨x1, 0, none⟩)) (fun w0 h => h) _ Try.underlying43 rfl ?_; simp only [World.size_alloc, World.size_drew, Act.put, List.setIfInBounds_toArray, List.set_cons_succ, List.set_cons_zero]) | go_big_quiet_step (fail))
        refine wpQuiet_nil ?_
        refine WD.done (by kernel_rfl) ?_
        clear cx10
        generalize flX (crX Y []) none = X2 at *
        go_wp2_with fail
        rw [rounds_succ]
        have hq13 := HPQ.out _ _ _ (E13.out.step (Fr.refl [] _).drew).held
        have cd13 := (HC2.out _ _ _ E13.out.held).1.1
        have lf13 := left_any hq13.1
        have g13 := (E13.out.step (Fr.refl [] _).drew).fr
        have cq13 := hq13.2
        clear E13 HPQ HC2 hq13
        go_wp2_with fail
        refine wp_region_D (fun w' => w'.cell? ⟨q, 0, none⟩ = some (.int .i64 (n : Int))) false [] (by kernel_rfl) ?_
        refine WD.pure [0] (by kernel_rfl) cq13 ?_
        simp only [pick, List.toList_toArray, List.map_cons, List.map_nil, List.getD_cons_succ, List.getD_cons_zero]
        repeat (first | (refine quiet_load_1R (by rfl) _ _ rfl rfl (.int .i64 (n : Int)) (fun w0 h => h) _ Try.underlying3 rfl ?_; simp only [World.size_alloc, World.size_drew, Act.put, List.setIfInBounds_toArray, List.set_cons_succ, List.set_cons_zero]) | go_big_quiet_step (fail))
        refine wpQuiet_nil ?_
        refine WD.eff 1 (by kernel_rfl) ?_
        simp only [pick, List.toList_toArray, List.map_cons, List.map_nil, List.getD_cons_succ, List.getD_cons_zero]
        go_wp2_with (go_at_call 22; refine left_nil.mono ?_; rintro e w5 ⟨rfl, hw⟩; subst hw)
        try refine wpList_nil ?_
        refine AfterD.on cq13 (by kernel_rfl) ?_
        try simp only [World.size_alloc, World.size_drew, Act.put, List.setIfInBounds_toArray, List.set_cons_succ, List.set_cons_zero]
        refine WD.pure [2, 3, 4, 5, 6] (by kernel_rfl) cq13 ?_
        simp only [pick, List.toList_toArray, List.map_cons, List.map_nil, List.getD_cons_succ, List.getD_cons_zero]
        repeat (first | (refine quiet_load_1R (by rfl) _ _ rfl rfl (.int .i64 (n : Int)) (fun w0 h => h) _ Try.underlying3 rfl ?_; simp only [World.size_alloc, World.size_drew, Act.put, List.setIfInBounds_toArray, List.set_cons_succ, List.set_cons_zero]) | go_big_quiet_step (fail))
        refine wpQuiet_nil ?_
        refine WD.eff 7 (by kernel_rfl) ?_
        simp only [pick, List.toList_toArray, List.map_cons, List.map_nil, List.getD_cons_succ, List.getD_cons_zero]
        go_wp2_with (go_at_call 20; refine (wire_none _).mono ?_; rintro e w6 ⟨rfl, hw⟩; subst hw)
        try refine wpList_nil ?_
        refine AfterD.on cq13 (by kernel_rfl) ?_
        try simp only [World.size_alloc, World.size_drew, Act.put, List.setIfInBounds_toArray, List.set_cons_succ, List.set_cons_zero]
        refine WD.pure [8, 9, 10, 11] (by kernel_rfl) cq13 ?_
        simp only [pick, List.toList_toArray, List.map_cons, List.map_nil, List.getD_cons_succ, List.getD_cons_zero]
        repeat (first | (refine quiet_load_1R (by rfl) _ _ rfl rfl (.int .i64 (n : Int)) (fun w0 h => h) _ Try.underlying3 rfl ?_; simp only [World.size_alloc, World.size_drew, Act.put, List.setIfInBounds_toArray, List.set_cons_succ, List.set_cons_zero]) | go_big_quiet_step (fail))
        refine wpQuiet_nil ?_
        refine WD.free [13, 14, 15] (by kernel_rfl) cq13 ?_
        simp only [pick, List.toList_toArray, List.map_cons, List.map_nil, List.getD_cons_succ, List.getD_cons_zero]
        repeat (first | (refine quiet_load_1R (by rfl) _ _ rfl rfl (.int .i64 (n : Int)) (fun w0 h => h) _ Try.underlying3 rfl ?_; simp only [World.size_alloc, World.size_drew, Act.put, List.setIfInBounds_toArray, List.set_cons_succ, List.set_cons_zero]) | go_big_quiet_step (fail))
        refine wpQuiet_nil ?_
        refine WD.held [16] (by kernel_rfl) cq13 ?_
        simp only [pick, List.toList_toArray, List.map_cons, List.map_nil, List.getD_cons_succ, List.getD_cons_zero]
        repeat (first | (refine quiet_load_1R (by rfl) _ _ rfl rfl (.int .i64 (n : Int)) (fun w0 h => h) _ Try.underlying3 rfl ?_; simp only [World.size_alloc, World.size_drew, Act.put, List.setIfInBounds_toArray, List.set_cons_succ, List.set_cons_zero]) | go_big_quiet_step (fail))
        refine wpQuiet_nil ?_
        refine WD.eff 12 (by kernel_rfl) ?_
        simp only [pick, List.toList_toArray, List.map_cons, List.map_nil, List.getD_cons_succ, List.getD_cons_zero]
        go_wp2_with (go_at_call 22; refine lf13.mono ?_; rintro e w7 ⟨rfl, hw⟩; subst hw)
        try refine wpList_nil ?_
        refine AfterD.on cq13 (by kernel_rfl) ?_
        try simp only [World.size_alloc, World.size_drew, Act.put, List.setIfInBounds_toArray, List.set_cons_succ, List.set_cons_zero]
        refine WD.pure [17, 18, 19] (by kernel_rfl) cq13 ?_
        simp only [pick, List.toList_toArray, List.map_cons, List.map_nil, List.getD_cons_succ, List.getD_cons_zero]
        repeat (first | (refine quiet_load_1R (by rfl) _ _ rfl rfl (.int .i64 (n : Int)) (fun w0 h => h) _ Try.underlying3 rfl ?_; simp only [World.size_alloc, World.size_drew, Act.put, List.setIfInBounds_toArray, List.set_cons_succ, List.set_cons_zero]) | go_big_quiet_step (fail))
        refine wpQuiet_nil ?_
        refine WD.eff 20 (by kernel_rfl) ?_
        simp only [pick, List.toList_toArray, List.map_cons, List.map_nil, List.getD_cons_succ, List.getD_cons_zero]
        go_wp2_with (go_at_call 15; refine alive_any.mono ?_; rintro e w8 ⟨rfl, f8⟩)
        have cq14 := f8.cell_some cq13
        try refine wpList_nil ?_
        refine AfterD.on cq14 (by kernel_rfl) ?_
        try simp only [World.size_alloc, World.size_drew, Act.put, List.setIfInBounds_toArray, List.set_cons_succ, List.set_cons_zero]
        refine WD.pure [21, 22] (by kernel_rfl) cq14 ?_
        simp only [pick, List.toList_toArray, List.map_cons, List.map_nil, List.getD_cons_succ, List.getD_cons_zero]
        repeat (first | (refine quiet_load_1R (by rfl) _ _ rfl rfl (.int .i64 (n : Int)) (fun w0 h => h) _ Try.underlying3 rfl ?_; simp only [World.size_alloc, World.size_drew, Act.put, List.setIfInBounds_toArray, List.set_cons_succ, List.set_cons_zero]) | go_big_quiet_step (fail))
        refine wpQuiet_nil ?_
        refine WD.done (by kernel_rfl) ?_
        go_wp2_with fail
        go_ret
        exact ⟨by simp, g13.trans' f8⟩
end Go.Proofs.Ytflapddkeeiieaa
