/- Layer 7 (great seat): MirrorPlays, the walk. -/
import Derived.Test.YtjgagcpmoffldaaGreatPmT
namespace Go.Proofs.YtjgagcpmoffldaaGreat
open Go Go.Xr Go.RowKit
set_option linter.unusedVariables false
set_option linter.unusedSimpArgs false
section
variable {w w0 : World} {lb rs : List Res} {pbs qbs : List Nat} {m y db ib : Nat} {s s2 : Sys} {d x : Bool → Nat} {FF GG : Bool → List Nat} {N N2 : MO}
theorem drop_mir (e : Ev w0 rs w (lb ++ (hC m d N ++ sysC pbs s d FF) ++ (hX y db ib x N2 ++ sysX qbs s2 x GG))) : Ev w0 rs w (lb ++ sysC pbs s d FF ++ sysX qbs s2 x GG) := drop_both (hc := hC m d N) (hx := hX y db ib x N2) e
end
section
variable {w : World}
set_option maxRecDepth 20000 in
set_option maxHeartbeats 16000000 in
theorem mirrorPlays_walk {p q : Int} {v0 : Value} {l : List Step7} {LB : Option Nat} (hl : Rc w 6 v0 l.length (l.flatMap stc7) LB) (hlok : ∀ s ∈ l, StWide7 w s) (hlm : l.length ≤ maxLen) :
    Calls Tryz.prog 3 #[.int .i64 p, .int .i64 q, v0] w fun e w' => e = .returned (.bool true) ∧ Fr [] w w' := by
  have HA := hid malive_any
  obtain ⟨la, lc, rfl⟩ := hl.isSlice
  by_cases hp1 : p < 1
  · have g1 : decide (p < 1) = true := by simpa using hp1
    clear hl hlok hlm
    go_enter Tryz.func3, Tryz.ntmps3
    go_wp2_with (go_at_call 4; refine (HA.out _).mono ?_; rintro e w1 ⟨rfl, f1⟩)
    go_ret
    exact ⟨rfl, f1⟩
  have g1 : decide (p < 1) = false := by simpa using hp1
  by_cases hp2 : 9 < p
  · have g2 : decide (9 < p) = true := by simpa using hp2
    clear hl hlok hlm hp1
    go_enter Tryz.func3, Tryz.ntmps3
    go_wp2_with (go_at_call 4; refine (HA.out _).mono ?_; rintro e w1 ⟨rfl, f1⟩)
    go_ret
    exact ⟨rfl, f1⟩
  have g2 : decide (9 < p) = false := by simpa using hp2
  by_cases hq1 : q < 1
  · have g3 : decide (q < 1) = true := by simpa using hq1
    clear hl hlok hlm hp1 hp2
    go_enter Tryz.func3, Tryz.ntmps3
    go_wp2_with (go_at_call 4; refine (HA.out _).mono ?_; rintro e w1 ⟨rfl, f1⟩)
    go_ret
    exact ⟨rfl, f1⟩
  have g3 : decide (q < 1) = false := by simpa using hq1
  by_cases hq2 : 9 < q
  · have g4 : decide (9 < q) = true := by simpa using hq2
    clear hl hlok hlm hp1 hp2 hq1
    go_enter Tryz.func3, Tryz.ntmps3
    go_wp2_with (go_at_call 4; refine (HA.out _).mono ?_; rintro e w1 ⟨rfl, f1⟩)
    go_ret
    exact ⟨rfl, f1⟩
  have g4 : decide (9 < q) = false := by simpa using hq2
  obtain ⟨pn, hpn⟩ : ∃ n : Nat, p = n := ⟨p.toNat, by omega⟩
  obtain ⟨qn, hqn⟩ : ∃ n : Nat, q = n := ⟨q.toNat, by omega⟩
  have hp9 : 1 ≤ pn ∧ pn ≤ 9 := by omega
  have hq9 : 1 ≤ qn ∧ qn ≤ 9 := by omega
  have HNp := hid fun w1 : World => (show Calls Tryz.prog 5 #[.int .i64 p] w1 fun e w' => ∃ d F, e = .returned (.tuple #[.pointer (some ⟨d, 0, none⟩), .int .i64 0]) ∧ Rep w' d (newSD pn) none F ∧ Pln w' d ∧ Fr [] w1 w' ∧ ∀ x ∈ F, w1.heap.size ≤ x from by rw [hpn]; exact newp_ok pn hp9.1 (by omega))
  have HNq := hid fun w1 : World => (show Calls Tryz.prog 5 #[.int .i64 q] w1 fun e w' => ∃ d F, e = .returned (.tuple #[.pointer (some ⟨d, 0, none⟩), .int .i64 0]) ∧ Rep w' d (newSD qn) none F ∧ Pln w' d ∧ Fr [] w1 w' ∧ ∀ x ∈ F, w1.heap.size ≤ x from by rw [hqn]; exact newp_ok qn hq9.1 (by omega))
  have HXp := hid fun w1 : World => (show Calls Tryz.prog 6 #[.int .i64 p] w1 fun e w' => ∃ x i, e = .returned (.tuple #[.pointer (some ⟨x, 0, none⟩), .int .i64 0]) ∧ Ev w1 [] w' (xps x (newXD pn) none i) ∧ Pln w' x from by rw [hpn]; exact xnewp_ok pn hp9.1 (by omega))
  have HXq := hid fun w1 : World => (show Calls Tryz.prog 6 #[.int .i64 q] w1 fun e w' => ∃ x i, e = .returned (.tuple #[.pointer (some ⟨x, 0, none⟩), .int .i64 0]) ∧ Ev w1 [] w' (xps x (newXD qn) none i) ∧ Pln w' x from by rw [hqn]; exact xnewp_ok qn hq9.1 (by omega))
  have hs0 : SysOk (sy (newXD pn) (newXD qn) []) := sy_ok (mt_newXD_good hp9.1 (by omega)) (mt_newXD_good hq9.1 (by omega)) []
  have OK0 := hid hs0
  have T0 : Hid ((sy (newXD pn) (newXD qn) []).T = 0) := hid (sy_T pn qn [])
  have L0 : Hid (∀ b, (sy (newXD pn) (newXD qn) []).len b ≤ 9) := hid (by
    have := sy_len pn qn []
    intro b
    cases b
    · rw [this.1]; omega
    · rw [this.2]; omega)
  have HL := hid hl
  have HLK := hid hlok
  have hlm2 := hlm
  unfold maxLen at hlm2
  clear hp1 hp2 hq1 hq2 hpn hqn hp9 hq9 hs0 hl hlok hlm
  go_enter Tryz.func3, Tryz.ntmps3
  go_wp2_with fail
  go_loopw [9] (fun kv wr => ∃ k : Nat, k ≤ 2 ∧ kv = .int .i64 (k : Int) ∧ Hid (NewSt w w.heap.size (w.heap.size + 1) pn qn k wr)) (fun kv _ => 2 - (intOf kv).toNat)
  case atStart =>
    refine ⟨0, by decide, rfl, hid ?_⟩
    have a1 := (Ev.start w).new ((Fr.refl [] w).alloc _) (Res.On.blk (Blk.allocArr w #[Value.pointer none, Value.pointer none] 25)) (fun b hb => by simp [Res.blk] at hb; omega)
    have a2 := a1.new ((Fr.refl [] _).alloc _) (Res.On.blk (Blk.allocArr _ #[Value.pointer none, Value.pointer none] 27)) (fun b hb => by simp [Res.blk] at hb; rw [hb]; simp)
    rw [World.size_alloc] at a2
    exact Ev.perm a2 (List.Perm.swap _ _ _)
  case round =>
    obtain ⟨k, hk, rfl, ST⟩ := hrel
    have hk3 : k = 0 ∨ k = 1 ∨ k = 2 := by omega
    obtain ⟨ad, had⟩ : ∃ v, w.heap.size = v := ⟨_, rfl⟩
    obtain ⟨ax, hax⟩ : ∃ v, ad + 1 = v := ⟨_, rfl⟩
    rw [had, hax] at ST
    rw [had, hax]
    rcases hk3 with rfl | rfl | rfl
    · rw [show ((0 : Nat) : Int) = 0 from rfl]
      have E := hid (show Ev w [] wr [Res.blk ad [.pointer none, .pointer none], Res.blk ax [.pointer none, .pointer none]] from ST.out)
      clear ST
      go_wp2_with (first
        | (go_at_call 5; refine (HNp.out _).mono ?_; rintro e w1 ⟨d1, F1, rfl, r1, p1, f1, n1⟩; have E1 := hid (E.out.new f1 (dk_new r1 p1 []) n1); clear r1 p1 f1 n1 E)
        | (go_at_call 6; refine (HXp.out _).mono ?_; rintro e w2 ⟨x1, i1, rfl, v2, p2⟩; obtain ⟨G1, E2⟩ := xdk_add2 E1.out v2 p2; have E2 := hid E2; have b2 := E2.out.held.blkAt 2 rfl; clear v2 p2 E1)
        | (refine wpList_put rfl _ _ _ rfl rfl (.pointer (some ⟨d1, 0, none⟩)) rfl rfl b2 (by simp) (by kernel_rfl) ?_; intro w3 f3 b3 hs3; have E3 : Hid (Ev w [] w3 [xdk x1 (newXD pn) [] none G1, dk d1 (newXD pn) [] none F1, Res.blk ad [ptr0 d1, .pointer none], Res.blk ax [.pointer none, .pointer none]]) := hid (E2.out.at 2 rfl f3 (fun b hb => .inl hb) (Res.On.blk b3) (fun b hb => .inl hb)); have b3x := E3.out.held.blkAt 3 rfl; clear f3 b3 hs3 b2 E2; simp only [World.size_alloc, World.size_drew, Act.put, List.setIfInBounds_toArray, List.set_cons_succ, List.set_cons_zero])
        | (refine wpList_put rfl _ _ _ rfl rfl (.pointer (some ⟨x1, 0, none⟩)) rfl rfl b3x (by simp) (by kernel_rfl) ?_; intro w4 f4 b4 hs4; have E4 : Hid (Ev w [] w4 [xdk x1 (newXD pn) [] none G1, dk d1 (newXD pn) [] none F1, Res.blk ad [ptr0 d1, .pointer none], Res.blk ax [ptr0 x1, .pointer none]]) := hid (E3.out.at 3 rfl f4 (fun b hb => .inl hb) (Res.On.blk b4) (fun b hb => .inl hb)); clear f4 b4 hs4 b3x E3; simp only [World.size_alloc, World.size_drew, Act.put, List.setIfInBounds_toArray, List.set_cons_succ, List.set_cons_zero]))
      go_roundw
      case rel => exact ⟨1, by decide, by first | rfl | go_num, hid ⟨_, _, _, _, E4.out⟩⟩
      case measure => simp [intOf]
    · rw [show ((1 : Nat) : Int) = 1 from rfl]
      obtain ⟨d0, F0, x0, G0, E0⟩ := ST.out
      have E := hid E0
      clear E0
      clear ST
      go_wp2_with (first
        | (go_at_call 5; refine (HNq.out _).mono ?_; rintro e w1 ⟨d1, F1, rfl, r1, p1, f1, n1⟩; have E1 := hid (E.out.new f1 (dk_new r1 p1 []) n1); clear r1 p1 f1 n1 E)
        | (go_at_call 6; refine (HXq.out _).mono ?_; rintro e w2 ⟨x1, i1, rfl, v2, p2⟩; obtain ⟨G1, E2⟩ := xdk_add2 E1.out v2 p2; have E2 := hid E2; have b2 := E2.out.held.blkAt 4 rfl; clear v2 p2 E1)
        | (refine wpList_put rfl _ _ _ rfl rfl (.pointer (some ⟨d1, 0, none⟩)) rfl rfl b2 (by simp) (by kernel_rfl) ?_; intro w3 f3 b3 hs3; have E3 : Hid (Ev w [] w3 [xdk x1 (newXD qn) [] none G1, dk d1 (newXD qn) [] none F1, xdk x0 (newXD pn) [] none G0, dk d0 (newXD pn) [] none F0, Res.blk ad [ptr0 d0, ptr0 d1], Res.blk ax [ptr0 x0, .pointer none]]) := hid (E2.out.at 4 rfl f3 (fun b hb => .inl hb) (Res.On.blk b3) (fun b hb => .inl hb)); have b3x := E3.out.held.blkAt 5 rfl; clear f3 b3 hs3 b2 E2; simp only [World.size_alloc, World.size_drew, Act.put, List.setIfInBounds_toArray, List.set_cons_succ, List.set_cons_zero])
        | (refine wpList_put rfl _ _ _ rfl rfl (.pointer (some ⟨x1, 0, none⟩)) rfl rfl b3x (by simp) (by kernel_rfl) ?_; intro w4 f4 b4 hs4; have E4 : Hid (Ev w [] w4 [xdk x1 (newXD qn) [] none G1, dk d1 (newXD qn) [] none F1, xdk x0 (newXD pn) [] none G0, dk d0 (newXD pn) [] none F0, Res.blk ad [ptr0 d0, ptr0 d1], Res.blk ax [ptr0 x0, ptr0 x1]]) := hid (E3.out.at 5 rfl f4 (fun b hb => .inl hb) (Res.On.blk b4) (fun b hb => .inl hb)); clear f4 b4 hs4 b3x E3; simp only [World.size_alloc, World.size_drew, Act.put, List.setIfInBounds_toArray, List.set_cons_succ, List.set_cons_zero]))
      go_roundw
      case rel => exact ⟨2, by decide, by first | rfl | go_num, hid (new_end E4.out)⟩
      case measure => simp [intOf]
    · rw [show ((2 : Nat) : Int) = 2 from rfl]
      obtain ⟨d, x, FF, GG, E0⟩ := ST.out
      have E := hid E0
      clear E0 ST HNp HXp HNq HXq
      obtain ⟨s, hs⟩ : ∃ s, sy (newXD pn) (newXD qn) [] = s := ⟨_, rfl⟩
      rw [hs] at E OK0 T0 L0
      clear hs
      have T1 := hid (show s.T < 998900 by have := T0.out; omega)
      have HJ := hid fun (w1 : World) (C D : List Res) (h : Held w1 ([Res.blk ad (dbL d), Res.blk ax (dbL x)] ++ C ++ D)) => And.intro (show w1.cell? ⟨ad, 0, none⟩ = some (.pointer (some ⟨d false, 0, none⟩)) from (h.blkAt 0 rfl).cell 0) (And.intro (show w1.cell? ⟨ad, 1, none⟩ = some (.pointer (some ⟨d true, 0, none⟩)) from (h.blkAt 0 rfl).cell 1) (And.intro (show w1.cell? ⟨ax, 0, none⟩ = some (.pointer (some ⟨x false, 0, none⟩)) from (h.blkAt 1 rfl).cell 0) (show w1.cell? ⟨ax, 1, none⟩ = some (.pointer (some ⟨x true, 0, none⟩)) from (h.blkAt 1 rfl).cell 1)))
      have HO1 := hid fun (w1 : World) (FF1 : Bool → List Nat) (h1 : Held w1 ([] ++ sysC [] s d FF1)) => copen_any (l := []) h1 OK0.out
      have HO2 := hid fun (w1 : World) (GG1 : Bool → List Nat) (h1 : Held w1 ([] ++ sysX [] s x GG1)) => xopen_any (l := []) h1 OK0.out T1.out
      have HM1 := hid fun (w1 : World) (FF1 : Bool → List Nat) (h1 : Held w1 ([] ++ sysC [] s d FF1)) => cmake_any (l := []) h1 OK0.out T1.out
      have HM2 := hid fun (w1 : World) (GG1 : Bool → List Nat) (h1 : Held w1 ([] ++ sysX [] s x GG1)) => xmake_any (l := []) h1 OK0.out T1.out
      have HS := hid fun (w1 : World) (m y db ib : Nat) (h1 : Held w1 ([Res.blk ad (dbL d), Res.blk ax (dbL x)] ++ (hC m d s.opn.1 ++ sysC [] s d FF) ++ (hX y db ib x s.opn.1 ++ sysX [] s x GG))) => cstands_any h1 OK0.out
      obtain ⟨hk1, hk2, hk3⟩ := mak_out OK0.out
      have OK := hid hk1
      have TT : Hid (s.mak.1.T ≤ 100 + 100 * 0) := hid (by have := T0.out; omega)
      have LL : Hid (∀ b, s.mak.1.len b ≤ 9) := hid fun b => by rw [hk3]; exact L0.out b
      obtain ⟨a0, a1, b0, b1⟩ := HJ.out _ _ _ E.out.held
      generalize s.opn.2 = c0 at *
      generalize s.opn.1 = N0 at *
      generalize s.mak.2.2 = c1 at *
      generalize s.mak.2.1 = N1 at *
      generalize s.mak.1 = s1 at *
      clear hk1 hk2 hk3 OK0 T0 L0 T1
      go_wp2_with (first
        | (go_at_call 7; refine (HO1.out _ _ (thr_hc E.out.held)).mono ?_; rintro e w1 ⟨m1, rfl, v1⟩; have E1 := hid (thr_c E.out v1); obtain ⟨a2, a3, b2, b3⟩ := HJ.out _ _ _ E1.out.held; clear v1 HO1 E a0 a1 b0 b1)
        | (go_at_call 8; refine (HO2.out _ _ (thr_hd E1.out.held)).mono ?_; rintro e w2 ⟨y1, db1, ib1, rfl, v2⟩; have E2 := hid (thr_d E1.out v2); clear v2 HO2 E1 a2 a3 b2 b3)
        | (go_at_call 9; refine (HS.out _ _ _ _ _ E2.out.held).mono ?_; rintro e w3 ⟨rfl, f3⟩; have E3 := hid (drop_mir (E2.out.step f3)); obtain ⟨a4, a5, b4, b5⟩ := HJ.out _ _ _ E3.out.held; clear f3 HS E2)
        | (go_at_call 10; refine (HM1.out _ _ (thr_hc E3.out.held)).mono ?_; rintro e w4 ⟨m4, FF4, rfl, v4⟩; have E4 := hid (thr_c E3.out v4); obtain ⟨a6, a7, b6, b7⟩ := HJ.out _ _ _ E4.out.held; clear v4 HM1 E3 a4 a5 b4 b5)
        | (go_at_call 11; refine (HM2.out _ _ (thr_hd E4.out.held)).mono ?_; rintro e w5 ⟨y5, db5, ib5, GG5, rfl, v5⟩; have E5 := hid (thr_d E4.out v5); clear v5 HM2 E4 a6 a7 b6 b7))
      go_loopw [19, 15, 16, 17, 18] (fun iv mv ev yv fv wr => ∃ (i : Nat) (s : Sys) (N : MO) (c : Int) (m y db ib : Nat) (pbs qbs : List Nat) (d x : Bool → Nat) (FF GG : Bool → List Nat), i ≤ 50 ∧ i ≤ l.length ∧ iv = .int .i64 (i : Int) ∧ mv = pv m N ∧ ev = .int .i64 c ∧ yv = pv y N ∧ fv = .int .i64 c ∧ Hid (SysOk s) ∧ Hid (∀ b, s.len b ≤ 9) ∧ Hid (s.T ≤ 100 + 100 * i) ∧ Hid (Ev w [] wr ([Res.blk ad (dbL d), Res.blk ax (dbL x)] ++ (hC m d N ++ sysC pbs s d FF) ++ (hX y db ib x N ++ sysX qbs s x GG)))) (fun iv _ _ _ _ _ => 51 - (intOf iv).toNat)
      case atStart => exact ⟨0, s1, N1, c1, m4, y5, db5, ib5, [], [], d, x, FF4, GG5, by decide, Nat.zero_le _, rfl, rfl, rfl, rfl, rfl, OK, LL, TT, E5⟩
      case round =>
        clear E5 HJ OK LL TT
        obtain ⟨i, s, N, c, m, y, db, ib, pbs, qbs, d, x, FF, GG, hi, hil, rfl, rfl, rfl, rfl, rfl, OK, LL, TT, E⟩ := hrel
        have HS := hid (cstands_any E.out.held OK.out)
        have HD := hid fun (w1 : World) (f : Fr [] wr w1) => cdisks_any (E.out.held.keep0 f) OK.out (by have := TT.out; omega)
        have HB := hid fun (w1 : World) (f : Fr [] wr w1) => And.intro (show Blk w1 ad (dbL d) from (E.out.held.keep0 f).blkAt 0 rfl) (show Blk w1 ax (dbL x) from (E.out.held.keep0 f).blkAt 1 rfl)
        have t1 : decide ((i : Int) ≤ (l.length : Int)) = true := by simp; omega
        have t1n : decide (i ≤ l.length) = true := by simp; omega
        have t2 : decide ((i : Int) ≤ 50) = true := by simp; omega
        have t2n : decide (i ≤ 50) = true := by simp; omega
        by_cases hlt : i < l.length ∧ i < 50
        · obtain ⟨hlt1, hlt2⟩ := hlt
          have t3 : ((i : Int) == (l.length : Int)) = false := by simp; omega
          have t3n : (i == l.length) = false := by simp; omega
          have t4 : ((i : Int) == 50) = false := by simp; omega
          have t4n : (i == 50) = false := by simp; omega
          obtain ⟨b, off, cap, hv, hB, hblt, hcs⟩ := step_cell7 (HL.out.keep E.out.nil (by simp)) i hlt1
          obtain ⟨rfl, rfl⟩ : la = some ⟨b, off, none⟩ ∧ lc = cap := by simpa using hv
          have c0 : wr.cell? ⟨b, off + i * 6, none⟩ = some (.int .i64 l[i].Do) := by simpa [stc7] using hcs 0 (by decide)
          have c1 : wr.cell? ⟨b, off + i * 6 + 1, none⟩ = some (.int .i64 l[i].I) := by simpa [stc7] using hcs 1 (by decide)
          have c2 : wr.cell? ⟨b, off + i * 6 + 2, none⟩ = some (.int .i64 l[i].D) := by simpa [stc7] using hcs 2 (by decide)
          have c3 : wr.cell? ⟨b, off + i * 6 + 3, none⟩ = some (bt l[i].C) := by simpa [stc7] using hcs 3 (by decide)
          have c4 : wr.cell? ⟨b, off + i * 6 + 4, none⟩ = some (.string l[i].Text) := by simpa [stc7] using hcs 4 (by decide)
          have c5 : wr.cell? ⟨b, off + i * 6 + 5, none⟩ = some l[i].Keep := by simpa [stc7] using hcs 5 (by decide)
          have HC := hid fun (w1 : World) (f : Fr [] wr w1) => And.intro (f.cell_some c0) (And.intro (f.cell_some c1) (And.intro (f.cell_some c2) (And.intro (f.cell_some c3) (And.intro (f.cell_some c4) (f.cell_some c5)))))
          have Hst := hid (HLK.out l[i] (List.getElem_mem hlt1))
          generalize l[i] = a at *
          clear hcs c0 c1 c2 c3 c4 c5 hv hB hblt HLK
          have Hone : Hid (∀ u ∈ stc7 a, u.oneCell' = true) := hid (by
            obtain ⟨ka, kc, hk⟩ := Hst.out.ok.k.isSlice
            unfold stc7
            rw [hk]
            simp [Value.oneCell', bt])
          go_wp2_with (first
            | (go_at_call 9; refine HS.out.mono ?_; rintro e w1 ⟨rfl, f1⟩; have F1 := hid f1; obtain ⟨bA, bX⟩ := HB.out _ f1; clear f1 HS)
            | (refine wpList_load_agW (by rfl) _ _ rfl rfl (dbL d) bA arrD rfl rfl ?_; simp only [World.size_alloc, World.size_drew, Act.put, List.setIfInBounds_toArray, List.set_cons_succ, List.set_cons_zero])
            | (refine wpList_load_agW (by rfl) _ _ rfl rfl (dbL x) bX arrX rfl rfl ?_; simp only [World.size_alloc, World.size_drew, Act.put, List.setIfInBounds_toArray, List.set_cons_succ, List.set_cons_zero])
            | (go_at_call 12; refine (HD.out _ F1.out).mono ?_; rintro e w2 ⟨rfl, f2⟩; have E2 := hid (E.out.step (F1.out.trans' f2)); obtain ⟨c0, c1, c2, c3, c4, c5⟩ := HC.out _ (F1.out.trans' f2); clear f2 HD bA bX E F1 HB HC)
            | (refine wpList_store_ag rfl _ _ _ rfl rfl (stc7 a) rfl (Blk.alloc w2 [.int .i64 0, .int .i64 0, .int .i64 0, .int .u8 0, .string ⟨#[]⟩, .slice none 0 0] _) stepQ7 rfl (by simp) Hone.out ?_; intro w7 f7 b7 hs7; have b7' : Blk w7 w2.heap.size (stc7 a) := b7; have E7 : Hid (Ev w [] w7 ([Res.blk w2.heap.size (stc7 a), Res.blk ad (dbL d), Res.blk ax (dbL x)] ++ (hC m d N ++ sysC pbs s d FF) ++ (hX y db ib x N ++ sysX qbs s x GG))) := hid (E2.out.new (((Fr.refl [] w2).alloc _).trans f7 (fun x hx => .inr (by simp at hx; omega))) (Res.On.blk b7') (fun b hb => by simp [Res.blk] at hb; omega)); clear f7 b7 b7' hs7 E2 c0 c1 c2 c3 c4 c5; simp only [World.size_alloc, World.size_drew, Act.put, List.setIfInBounds_toArray, List.set_cons_succ, List.set_cons_zero]; have nst := hid trivial; revert nst))
          intro _
          generalize w2.heap.size = sb at *
          clear t1 t1n t2 t2n t3 t3n t4 t4n Hone
          have bS : Blk w7 sb (stc7 a) := E7.out.held.blkAt 0 rfl
          have k0 : w7.cell? ⟨sb, 0, none⟩ = some (.int .i64 a.Do) := bS.cell 0
          have hst7 := hid (Hst.out.ok.keep E7.out.nil)
          by_cases h5 : a.Do = 5
          · have u5 : (a.Do == 5) = true := by simpa using h5
            clear h5
            as_aux_lemma =>
              have hout := hid (pouter_any (lb := [Res.blk sb (stc7 a), Res.blk ad (dbL d), Res.blk ax (dbL x)]) (hc := hC m d N) (hx := hX y db ib x N) E7.out.held OK.out (by have := TT.out; omega) a hst7.out)
              have ho := outS_out OK.out a
              have OKt := hid ho.ok
              have TTt : Hid ((s.outS a).T ≤ 100 + 100 * (i + 1)) := hid (by have := ho.T; have := TT.out; omega)
              have LLt : Hid (∀ b, (s.outS a).len b ≤ 9) := hid fun b => by rw [ho.len]; exact LL.out b
              have bA : Blk w7 ad (dbL d) := E7.out.held.blkAt 1 rfl
              have bX : Blk w7 ax (dbL x) := E7.out.held.blkAt 2 rfl
              generalize s.outS a = st at *
              clear ho OK TT LL
              go_wp2_with (first
                | (refine wpList_load_ag rfl _ _ rfl rfl (dbL d) bA arrD rfl rfl ?_; simp only [World.size_alloc, World.size_drew, Act.put, List.setIfInBounds_toArray, List.set_cons_succ, List.set_cons_zero])
                | (refine wpList_load_ag rfl _ _ rfl rfl (dbL x) bX arrX rfl rfl ?_; simp only [World.size_alloc, World.size_drew, Act.put, List.setIfInBounds_toArray, List.set_cons_succ, List.set_cons_zero])
                | (refine wpList_load_ag rfl _ _ rfl rfl (stc7 a) bS stepQ7 rfl rfl ?_; simp only [World.size_alloc, World.size_drew, Act.put, List.setIfInBounds_toArray, List.set_cons_succ, List.set_cons_zero])
                | (go_at_call 13; refine hout.out.mono ?_; rintro e w8 ⟨ct, rfl, pbt, qbt, FFt, GGt, vt⟩; have Et := hid (E7.out.trans vt); clear vt hout E7 bA bX bS k0))
              go_roundw
              case rel => exact ⟨i + 1, st, N, ct, m, y, db, ib, pbt, qbt, d, x, FFt, GGt, by omega, by omega, by go_num, rfl, rfl, rfl, rfl, OKt, LLt, TTt, hid (Ev.less [] _ Et.out)⟩
              case measure => simp [intOf]; omega
          have u5 : (a.Do == 5) = false := by simpa using h5
          by_cases h6 : a.Do = 6
          · have u6 : (a.Do == 6) = true := by simpa using h6
            clear h5 h6
            as_aux_lemma =>
              have hout := hid (pouter_any (lb := [Res.blk sb (stc7 a), Res.blk ad (dbL d), Res.blk ax (dbL x)]) (hc := hC m d N) (hx := hX y db ib x N) E7.out.held OK.out (by have := TT.out; omega) a hst7.out)
              have ho := outS_out OK.out a
              have OKt := hid ho.ok
              have TTt : Hid ((s.outS a).T ≤ 100 + 100 * (i + 1)) := hid (by have := ho.T; have := TT.out; omega)
              have LLt : Hid (∀ b, (s.outS a).len b ≤ 9) := hid fun b => by rw [ho.len]; exact LL.out b
              have bA : Blk w7 ad (dbL d) := E7.out.held.blkAt 1 rfl
              have bX : Blk w7 ax (dbL x) := E7.out.held.blkAt 2 rfl
              generalize s.outS a = st at *
              clear ho OK TT LL
              go_wp2_with (first
                | (refine wpList_load_ag rfl _ _ rfl rfl (dbL d) bA arrD rfl rfl ?_; simp only [World.size_alloc, World.size_drew, Act.put, List.setIfInBounds_toArray, List.set_cons_succ, List.set_cons_zero])
                | (refine wpList_load_ag rfl _ _ rfl rfl (dbL x) bX arrX rfl rfl ?_; simp only [World.size_alloc, World.size_drew, Act.put, List.setIfInBounds_toArray, List.set_cons_succ, List.set_cons_zero])
                | (refine wpList_load_ag rfl _ _ rfl rfl (stc7 a) bS stepQ7 rfl rfl ?_; simp only [World.size_alloc, World.size_drew, Act.put, List.setIfInBounds_toArray, List.set_cons_succ, List.set_cons_zero])
                | (go_at_call 13; refine hout.out.mono ?_; rintro e w8 ⟨ct, rfl, pbt, qbt, FFt, GGt, vt⟩; have Et := hid (E7.out.trans vt); clear vt hout E7 bA bX bS k0))
              go_roundw
              case rel => exact ⟨i + 1, st, N, ct, m, y, db, ib, pbt, qbt, d, x, FFt, GGt, by omega, by omega, by go_num, rfl, rfl, rfl, rfl, OKt, LLt, TTt, hid (Ev.less [] _ Et.out)⟩
              case measure => simp [intOf]; omega
          have u6 : (a.Do == 6) = false := by simpa using h6
          by_cases h9 : a.Do = 9
          · have u9 : (a.Do == 9) = true := by simpa using h9
            clear h5 h6 h9
            as_aux_lemma =>
              have hout := hid (pouter_any (lb := [Res.blk sb (stc7 a), Res.blk ad (dbL d), Res.blk ax (dbL x)]) (hc := hC m d N) (hx := hX y db ib x N) E7.out.held OK.out (by have := TT.out; omega) a hst7.out)
              have ho := outS_out OK.out a
              have OKt := hid ho.ok
              have TTt : Hid ((s.outS a).T ≤ 100 + 100 * (i + 1)) := hid (by have := ho.T; have := TT.out; omega)
              have LLt : Hid (∀ b, (s.outS a).len b ≤ 9) := hid fun b => by rw [ho.len]; exact LL.out b
              have bA : Blk w7 ad (dbL d) := E7.out.held.blkAt 1 rfl
              have bX : Blk w7 ax (dbL x) := E7.out.held.blkAt 2 rfl
              generalize s.outS a = st at *
              clear ho OK TT LL
              go_wp2_with (first
                | (refine wpList_load_ag rfl _ _ rfl rfl (dbL d) bA arrD rfl rfl ?_; simp only [World.size_alloc, World.size_drew, Act.put, List.setIfInBounds_toArray, List.set_cons_succ, List.set_cons_zero])
                | (refine wpList_load_ag rfl _ _ rfl rfl (dbL x) bX arrX rfl rfl ?_; simp only [World.size_alloc, World.size_drew, Act.put, List.setIfInBounds_toArray, List.set_cons_succ, List.set_cons_zero])
                | (refine wpList_load_ag rfl _ _ rfl rfl (stc7 a) bS stepQ7 rfl rfl ?_; simp only [World.size_alloc, World.size_drew, Act.put, List.setIfInBounds_toArray, List.set_cons_succ, List.set_cons_zero])
                | (go_at_call 13; refine hout.out.mono ?_; rintro e w8 ⟨ct, rfl, pbt, qbt, FFt, GGt, vt⟩; have Et := hid (E7.out.trans vt); clear vt hout E7 bA bX bS k0))
              go_roundw
              case rel => exact ⟨i + 1, st, N, ct, m, y, db, ib, pbt, qbt, d, x, FFt, GGt, by omega, by omega, by go_num, rfl, rfl, rfl, rfl, OKt, LLt, TTt, hid (Ev.less [] _ Et.out)⟩
              case measure => simp [intOf]; omega
          have u9 : (a.Do == 9) = false := by simpa using h9
          by_cases h11 : a.Do = 11
          · have u11 : (a.Do == 11) = true := by simpa using h11
            clear h5 h6 h9 h11
            as_aux_lemma =>
              have hout := hid (pouter_any (lb := [Res.blk sb (stc7 a), Res.blk ad (dbL d), Res.blk ax (dbL x)]) (hc := hC m d N) (hx := hX y db ib x N) E7.out.held OK.out (by have := TT.out; omega) a hst7.out)
              have ho := outS_out OK.out a
              have OKt := hid ho.ok
              have TTt : Hid ((s.outS a).T ≤ 100 + 100 * (i + 1)) := hid (by have := ho.T; have := TT.out; omega)
              have LLt : Hid (∀ b, (s.outS a).len b ≤ 9) := hid fun b => by rw [ho.len]; exact LL.out b
              have bA : Blk w7 ad (dbL d) := E7.out.held.blkAt 1 rfl
              have bX : Blk w7 ax (dbL x) := E7.out.held.blkAt 2 rfl
              generalize s.outS a = st at *
              clear ho OK TT LL
              go_wp2_with (first
                | (refine wpList_load_ag rfl _ _ rfl rfl (dbL d) bA arrD rfl rfl ?_; simp only [World.size_alloc, World.size_drew, Act.put, List.setIfInBounds_toArray, List.set_cons_succ, List.set_cons_zero])
                | (refine wpList_load_ag rfl _ _ rfl rfl (dbL x) bX arrX rfl rfl ?_; simp only [World.size_alloc, World.size_drew, Act.put, List.setIfInBounds_toArray, List.set_cons_succ, List.set_cons_zero])
                | (refine wpList_load_ag rfl _ _ rfl rfl (stc7 a) bS stepQ7 rfl rfl ?_; simp only [World.size_alloc, World.size_drew, Act.put, List.setIfInBounds_toArray, List.set_cons_succ, List.set_cons_zero])
                | (go_at_call 13; refine hout.out.mono ?_; rintro e w8 ⟨ct, rfl, pbt, qbt, FFt, GGt, vt⟩; have Et := hid (E7.out.trans vt); clear vt hout E7 bA bX bS k0))
              go_roundw
              case rel => exact ⟨i + 1, st, N, ct, m, y, db, ib, pbt, qbt, d, x, FFt, GGt, by omega, by omega, by go_num, rfl, rfl, rfl, rfl, OKt, LLt, TTt, hid (Ev.less [] _ Et.out)⟩
              case measure => simp [intOf]; omega
          have u11 : (a.Do == 11) = false := by simpa using h11
          by_cases h7 : a.Do = 7
          · have u7 : (a.Do == 7) = true := by simpa using h7
            clear h5 h6 h9 h11 h7
            as_aux_lemma =>
              obtain ⟨ka, kc, hk⟩ := Hst.out.ok.k.isSlice
              have HKE := hid fun (w1 : World) (f : Fr [] w w1) => (show Rc w1 1 (.slice ka a.ks.length kc) a.ks.length (a.ks.map .bool) a.KB from hk ▸ Hst.out.ok.k.keep f (by simp))
              have HKB := hid fun (z : Nat) (hz : a.KB = some z) => (show z < w.heap.size from Hst.out.ok.k.lt z hz)
              have hkw := Hst.out.kw
              have HK5 := hid fun (w1 : World) (C D : List Res) (h : Held w1 ([Res.blk sb (stc7 a), Res.blk ad (dbL d), Res.blk ax (dbL x)] ++ C ++ D)) => (show w1.cell? ⟨sb, 5, none⟩ = some (.slice ka a.ks.length kc) from hk ▸ (h.blkAt 0 rfl).cell 5)
              have HK6 := hid fun (w1 : World) (r : Res) (C D : List Res) (h : Held w1 ((r :: [Res.blk sb (stc7 a), Res.blk ad (dbL d), Res.blk ax (dbL x)]) ++ C ++ D)) => (show w1.cell? ⟨sb, 5, none⟩ = some (.slice ka a.ks.length kc) from hk ▸ (h.blkAt 1 rfl).cell 5)
              have HJ := hid fun (w1 : World) (r : Res) (C D : List Res) (h : Held w1 ((r :: [Res.blk sb (stc7 a), Res.blk ad (dbL d), Res.blk ax (dbL x)]) ++ C ++ D)) => And.intro (show w1.cell? ⟨ad, 0, none⟩ = some (.pointer (some ⟨d false, 0, none⟩)) from (h.blkAt 2 rfl).cell 0) (And.intro (show w1.cell? ⟨ad, 1, none⟩ = some (.pointer (some ⟨d true, 0, none⟩)) from (h.blkAt 2 rfl).cell 1) (And.intro (show w1.cell? ⟨ax, 0, none⟩ = some (.pointer (some ⟨x false, 0, none⟩)) from (h.blkAt 3 rfl).cell 0) (show w1.cell? ⟨ax, 1, none⟩ = some (.pointer (some ⟨x true, 0, none⟩)) from (h.blkAt 3 rfl).cell 1)))
              generalize stc7 a = sc at *
              generalize a.KB = KB at *
              generalize a.ks = ks at *
              obtain ⟨n, hn⟩ : ∃ n, ks.length = n := ⟨_, rfl⟩
              rw [hn] at HKE HK5 HK6 hkw
              have hks : ks.length = n := hn
              obtain ⟨kt, hkt⟩ : ∃ kt, ks.map (fun b => !b) = kt := ⟨_, rfl⟩
              have hktl : kt.length = n := by rw [← hkt, List.length_map, hks]
              obtain ⟨i4, hi4, hz4, hs4, hb4⟩ := pinf4
              have Hi4 := hid hi4
              have Hz4 := hid hz4
              have Hs4 := hid hs4
              have Hb4 := hid hb4
              -- what crashes
              have ok1 := crash_out OK.out false ks
              have ok2 := crash_out ok1.ok true kt
              have hT := TT.out
              have T1 : (s.crash false ks).T < 1000000 := by have := ok1.T; omega
              have T2 : ((s.crash false ks).crash true kt).T < 998900 := by have := ok1.T; have := ok2.T; omega
              have hkl1 : ks.length ≤ maxLen := by unfold maxLen; omega
              have hkl2 : kt.length ≤ maxLen := by unfold maxLen; omega
              have HC1 := hid fun (w1 : World) (lb D : List Res) (FF1 : Bool → List Nat) (e : Ev w [] w1 (lb ++ (hC m d N ++ sysC pbs s d FF1) ++ D)) => (show Calls Tryz.prog 14 #[.pointer (some ⟨d false, 0, none⟩), .slice ka n kc] w1 fun e w' => e = .returned (.int .i64 (if (s.X false).Dead then 60 else 0)) ∧ ∃ FF', Ev w1 (hC m d N ++ sysC pbs s d FF1) w' (hC m d N ++ sysC pbs (s.crash false ks) d FF') from
                sCrash false (l := hC m d N) (thr_hc e.held) OK.out (by omega) (by rw [hks]; exact HKE.out _ e.nil) (fun z hz hz2 => low_new e (feet_mid (ffC_mem false hz2)) (HKB.out z hz) rfl) hkl1)
              have HX1 := hid fun (w1 : World) (lb C : List Res) (GG1 : Bool → List Nat) (e : Ev w [] w1 (lb ++ C ++ (hX y db ib x N ++ sysX qbs s x GG1))) => (show Calls Tryz.prog 15 #[.pointer (some ⟨x false, 0, none⟩), .slice ka n kc] w1 fun e w' => e = .returned (.int .i64 (if (s.X false).Dead then 60 else 0)) ∧ ∃ FF', Ev w1 (hX y db ib x N ++ sysX qbs s x GG1) w' (hX y db ib x N ++ sysX qbs (s.crash false ks) x FF') from
                xCrash false (l := hX y db ib x N) (thr_hd e.held) OK.out (by omega) (by rw [hks]; exact HKE.out _ e.nil) (fun z hz hz2 => low_new e (feet_end (ffX_mem false hz2)) (HKB.out z hz) rfl) (by omega))
              have HC2 := hid fun (w1 : World) (tv : Value) (TB : Option Nat) (lb D : List Res) (FF1 : Bool → List Nat) (e : Ev w [] w1 ((Res.own 1 tv n (kt.map .bool) TB :: lb) ++ (hC m d N ++ sysC pbs (s.crash false ks) d FF1) ++ D)) => (show Calls Tryz.prog 14 #[.pointer (some ⟨d true, 0, none⟩), tv] w1 fun e w' => e = .returned (.int .i64 (if ((s.crash false ks).X true).Dead then 60 else 0)) ∧ ∃ FF', Ev w1 (hC m d N ++ sysC pbs (s.crash false ks) d FF1) w' (hC m d N ++ sysC pbs ((s.crash false ks).crash true kt) d FF') from
                sCrash true (l := hC m d N) (thr_hc e.held) ok1.ok T1 (KB := TB) (by rw [hktl]; exact (e.held.ownAt 0 rfl).rd.rc) (fun z hz hz2 => head_ne (rs := lb ++ (hC m d N ++ sysC pbs (s.crash false ks) d FF1) ++ D) e.held (show z ∈ TB.toList by rw [hz]; simp) (feet_mid (ffC_mem true hz2))) hkl2)
              have HX2 := hid fun (w1 : World) (tv : Value) (TB : Option Nat) (lb C : List Res) (GG1 : Bool → List Nat) (e : Ev w [] w1 ((Res.own 1 tv n (kt.map .bool) TB :: lb) ++ C ++ (hX y db ib x N ++ sysX qbs (s.crash false ks) x GG1))) => (show Calls Tryz.prog 15 #[.pointer (some ⟨x true, 0, none⟩), tv] w1 fun e w' => e = .returned (.int .i64 (if ((s.crash false ks).X true).Dead then 60 else 0)) ∧ ∃ FF', Ev w1 (hX y db ib x N ++ sysX qbs (s.crash false ks) x GG1) w' (hX y db ib x N ++ sysX qbs ((s.crash false ks).crash true kt) x FF') from
                xCrash true (l := hX y db ib x N) (thr_hd e.held) ok1.ok T1 (KB := TB) (by rw [hktl]; exact (e.held.ownAt 0 rfl).rd.rc) (fun z hz hz2 => head_ne (rs := lb ++ C ++ (hX y db ib x N ++ sysX qbs (s.crash false ks) x GG1)) e.held (show z ∈ TB.toList by rw [hz]; simp) (feet_end (ffX_mem true hz2))) (by omega))
              have OKt := hid ok2.ok
              have TTt : Hid (((s.crash false ks).crash true kt).T ≤ 100 + 100 * (i + 1)) := hid (by have := ok1.T; have := ok2.T; omega)
              have LLt : Hid (∀ b, ((s.crash false ks).crash true kt).len b ≤ 9) := hid fun b => by rw [ok2.len, ok1.len]; exact LL.out b
              have HO1 := hid fun (w1 : World) (FF1 : Bool → List Nat) (h1 : Held w1 ([] ++ sysC pbs ((s.crash false ks).crash true kt) d FF1)) => copen_any (l := []) h1 ok2.ok
              have HO2 := hid fun (w1 : World) (GG1 : Bool → List Nat) (h1 : Held w1 ([] ++ sysX qbs ((s.crash false ks).crash true kt) x GG1)) => xopen_any (l := []) h1 ok2.ok T2
              generalize (s.crash false ks).crash true kt = st at *
              generalize s.crash false ks = sm at *
              generalize st.opn.2 = ct at *
              generalize st.opn.1 = Nt at *
              generalize (if (s.X false).Dead then (60 : Int) else 0) = r0 at *
              generalize (if (sm.X true).Dead then (60 : Int) else 0) = r1 at *
              have HGE := hid fun (j : Nat) (hj : j < n) => (show kt[j]? = some (!(ks[j]'(hks.symm ▸ hj))) from by rw [← hkt, List.getElem?_map, List.getElem?_eq_getElem (by omega)]; rfl)
              have k5 := HK5.out _ _ _ E7.out.held
              clear ok1 ok2 hT T1 T2 hkl1 hkl2 OK TT LL hi4 hz4 hs4 hb4 hkt hst7 Hst hk
              go_wp2_with fail
              go_loopw [22, 21] (fun jv tv wq => ∃ (j : Nat) (TB : Option Nat) (ta : Option Addr) (tc : Nat), j ≤ n ∧ jv = .int .i64 (j : Int) ∧ tv = .slice ta j tc ∧ Hid (Ev w [] wq ((Res.own 1 (.slice ta j tc) j ((kt.take j).map .bool) TB :: [Res.blk sb sc, Res.blk ad (dbL d), Res.blk ax (dbL x)]) ++ (hC m d N ++ sysC pbs s d FF) ++ (hX y db ib x N ++ sysX qbs s x GG)))) (fun jv _ _ => n - (intOf jv).toNat)
              case atStart => exact ⟨0, none, none, 0, Nat.zero_le _, rfl, rfl, hid (E7.out.new (Fr.refl [] _) (Res.On.own (Own.nil w7 1)) (by simp [Res.own]))⟩
              case round =>
                obtain ⟨j, TB, ta, tc, hj, rfl, rfl, E⟩ := hrel
                clear E7 k5 k0 bS
                have k5 := HK6.out _ _ _ _ E.out.held
                by_cases hjn : j < n
                · have hd : decide ((j : Int) < (n : Int)) = true := by simp; omega
                  have hdn : decide (j < n) = true := by simp; omega
                  have hown : Xr.Own wr 1 (.slice ta j tc) j ((kt.take j).map .bool) TB := E.out.held.ownAt 0 rfl
                  have HOW := hid hown
                  obtain ⟨kb, ko, kcap, hKB, hkv, _, _, _, hkc⟩ := (HKE.out wr E.out.nil).some (by omega)
                  obtain ⟨rfl, rfl⟩ : ka = some ⟨kb, ko, none⟩ ∧ kc = kcap := by simpa using hkv
                  obtain ⟨kj, hkj⟩ : ∃ v, ks[j]'(by omega) = v := ⟨_, rfl⟩
                  have kcell : wr.cell? ⟨kb, ko + j, none⟩ = some (.bool kj) := by
                    have := hkc j (by rw [List.length_map]; omega)
                    rw [List.getElem?_map, List.getElem?_eq_getElem (by omega), hkj] at this
                    exact this
                  have hge := HGE.out j hjn
                  rw [hkj] at hge
                  have htk : kt.take (j + 1) = kt.take j ++ [!kj] := by rw [List.take_add_one, hge]; rfl
                  have HTK := hid htk
                  have HBD := hid (show j + 1 ≤ 140737488351232 by omega)
                  clear hkc hkv hkj hge htk hown HGE
                  go_wp2_with (first
                    | (refine wpList_buildSlice_r rfl _ 1 _ rfl 4 Tryz.underlying41 _ _ Hi4.out Hz4.out rfl Hs4.out (by decide) (by decide) (by decide) [.bool (!kj)] rfl (by intro v hv; simp at hv; rcases hv with rfl; rfl) ?_; intro w8 f8 hlt8 hb8; simp only [World.size_alloc, World.size_drew, Act.put, List.setIfInBounds_toArray, List.set_cons_succ, List.set_cons_zero])
                    | (refine wpList_append_rc rfl _ _ _ rfl 4 _ _ 1 1 Tryz.underlying41 Hi4.out Hz4.out Hs4.out Hb4.out rfl (by decide) rfl (HOW.out.keep f8 (by simp)) rfl (rc_blk hb8 rfl (by decide)) (by intro u hu; simp at hu; subst hu; rfl) (by have := HBD.out; unfold maxLen; omega) (by have := HBD.out; omega) ?_; intro v9 w9 B9 ho9 f9 hB9; obtain ⟨wa, wc, rfl⟩ := ho9.isSlice; have e9 := xapp_ev (E.out.step f8) 0 rfl ho9 f9 hB9; have E9 := hid e9; clear e9 ho9 f9 hB9 f8 hlt8 hb8 E HOW k5; simp only [World.size_alloc, World.size_drew, Act.put, List.setIfInBounds_toArray, List.set_cons_succ, List.set_cons_zero]))
                  go_roundw
                  case rel =>
                    refine ⟨j + 1, B9, wa, wc, by omega, by go_num, rfl, hid ?_⟩
                    rw [HTK.out, List.map_append]
                    exact E9.out
                  case measure => simp [intOf]; omega
                · have hd : decide ((j : Int) < (n : Int)) = false := by simp; omega
                  have hdn : decide (j < n) = false := by simp; omega
                  obtain rfl : j = n := by omega
                  rw [List.take_of_length_le (by omega)] at E
                  obtain ⟨a0, a1, b0, b1⟩ := HJ.out _ _ _ _ E.out.held
                  clear hjn HGE Hi4 Hz4 Hs4 Hb4 hktl hks hn
                  go_wp2_with (first
                    | (go_at_call 14; refine (HC1.out _ _ _ _ E.out).mono ?_; rintro e w8 ⟨rfl, FF8, v8⟩; have E8 := hid (thr_c E.out v8); have k5_8 := HK6.out _ _ _ _ E8.out.held; obtain ⟨a2, a3, b2, b3⟩ := HJ.out _ _ _ _ E8.out.held; clear v8 HC1 E a0 a1 b0 b1 k5)
                    | (go_at_call 15; refine (HX1.out _ _ _ _ E8.out).mono ?_; rintro e w9 ⟨rfl, GG9, v9⟩; have E9 := hid (thr_d E8.out v9); obtain ⟨a4, a5, b4, b5⟩ := HJ.out _ _ _ _ E9.out.held; clear v9 HX1 E8 a2 a3 b2 b3 k5_8)
                    | (go_at_call 14; refine (HC2.out _ _ _ _ _ _ E9.out).mono ?_; rintro e w10 ⟨rfl, FF10, v10⟩; have E10 := hid (thr_c E9.out v10); obtain ⟨a6, a7, b6, b7⟩ := HJ.out _ _ _ _ E10.out.held; clear v10 HC2 E9 a4 a5 b4 b5)
                    | (go_at_call 15; refine (HX2.out _ _ _ _ _ _ E10.out).mono ?_; rintro e w11 ⟨rfl, GG11, v11⟩; have E11 := hid (drop_mir (thr_d E10.out v11)); obtain ⟨a8, a9, b8, b9⟩ := HJ.out _ _ _ _ E11.out.held; clear v11 HX2 E10 a6 a7 b6 b7)
                    | (go_at_call 7; refine (HO1.out _ _ (thr_hc E11.out.held)).mono ?_; rintro e w12 ⟨mt, rfl, v12⟩; have E12 := hid (thr_c E11.out v12); obtain ⟨e4, e5, e6, e7⟩ := HJ.out _ _ _ _ E12.out.held; clear v12 HO1 E11 a8 a9 b8 b9)
                    | (go_at_call 8; refine (HO2.out _ _ (thr_hd E12.out.held)).mono ?_; rintro e w13 ⟨yt, dbt, ibt, rfl, v13⟩; have Et := hid (thr_d E12.out v13); clear v13 HO2 E12 e4 e5 e6 e7 HJ))
                  go_roundw
                  case rel => exact ⟨i + 1, st, Nt, ct, mt, yt, dbt, ibt, pbs, qbs, d, x, FF10, GG11, by omega, by omega, by go_num, rfl, rfl, rfl, rfl, OKt, LLt, TTt, hid (Ev.less [] _ (Ev.less [] _ Et.out))⟩
                  case measure => simp [intOf]; omega
          have u7 : (a.Do == 7) = false := by simpa using h7
          by_cases h8 : a.Do = 8
          · have u8 : (a.Do == 8) = true := by simpa using h8
            clear h5 h6 h9 h11 h7 h8
            as_aux_lemma =>
              have HO1 := hid fun (w1 : World) (d1 : Bool → Nat) (FF1 : Bool → List Nat) (h1 : Held w1 ([] ++ sysC pbs s.swp d1 FF1)) => copen_any (l := []) h1 (swp_ok OK.out)
              have HO2 := hid fun (w1 : World) (d1 : Bool → Nat) (GG1 : Bool → List Nat) (h1 : Held w1 ([] ++ sysX qbs s.swp d1 GG1)) => xopen_any (l := []) h1 (swp_ok OK.out) (by have := TT.out; have := swp_T s; omega)
              have OKt := hid (swp_ok OK.out)
              have TTt : Hid (s.swp.T ≤ 100 + 100 * (i + 1)) := hid (by have := swp_T s; have := TT.out; omega)
              have LLt : Hid (∀ b, s.swp.len b ≤ 9) := hid fun b => by rw [swp_len]; exact LL.out _
              have bA : Blk w7 ad (dbL d) := E7.out.held.blkAt 1 rfl
              have bX : Blk w7 ax (dbL x) := E7.out.held.blkAt 2 rfl
              have a0 : w7.cell? ⟨ad, 0, none⟩ = some (.pointer (some ⟨d false, 0, none⟩)) := bA.cell 0
              have a1 : w7.cell? ⟨ad, 1, none⟩ = some (.pointer (some ⟨d true, 0, none⟩)) := bA.cell 1
              have b0 : w7.cell? ⟨ax, 0, none⟩ = some (.pointer (some ⟨x false, 0, none⟩)) := bX.cell 0
              have HSW := hid fun (w1 : World) (e : Ev w [] w1 ([Res.blk sb (stc7 a), Res.blk ad [ptr0 (d true), ptr0 (d false)], Res.blk ax [ptr0 (x true), ptr0 (x false)]] ++ (hC m d N ++ sysC pbs s d FF) ++ (hX y db ib x N ++ sysX qbs s x GG))) => (show ∃ (d' x' : Bool → Nat) (FF' GG' : Bool → List Nat), Ev w [] w1 ([Res.blk sb (stc7 a), Res.blk ad (dbL d'), Res.blk ax (dbL x')] ++ sysC pbs s.swp d' FF' ++ sysX qbs s.swp x' GG') from by
                obtain ⟨d', x', FF', GG', hd0, hd1, hx0, hx1, es⟩ := swap_ev (drop_mir e)
                have ed : [ptr0 (d true), ptr0 (d false)] = dbL d' := by unfold dbL; rw [hd0, hd1]; rfl
                have ex : [ptr0 (x true), ptr0 (x false)] = dbL x' := by unfold dbL; rw [hx0, hx1]; rfl
                rw [ed, ex] at es
                exact ⟨d', x', FF', GG', es⟩)
              have HJ := hid fun (w1 : World) (d1 x1 : Bool → Nat) (C D : List Res) (h : Held w1 ([Res.blk sb (stc7 a), Res.blk ad (dbL d1), Res.blk ax (dbL x1)] ++ C ++ D)) => And.intro (show w1.cell? ⟨ad, 0, none⟩ = some (.pointer (some ⟨d1 false, 0, none⟩)) from (h.blkAt 1 rfl).cell 0) (And.intro (show w1.cell? ⟨ad, 1, none⟩ = some (.pointer (some ⟨d1 true, 0, none⟩)) from (h.blkAt 1 rfl).cell 1) (And.intro (show w1.cell? ⟨ax, 0, none⟩ = some (.pointer (some ⟨x1 false, 0, none⟩)) from (h.blkAt 2 rfl).cell 0) (show w1.cell? ⟨ax, 1, none⟩ = some (.pointer (some ⟨x1 true, 0, none⟩)) from (h.blkAt 2 rfl).cell 1)))
              generalize s.swp = st at *
              generalize st.opn.2 = ct at *
              generalize st.opn.1 = Nt at *
              clear OK TT LL bX
              go_wp2_with (first
                | (refine wpList_put rfl _ _ _ rfl rfl (.pointer (some ⟨d true, 0, none⟩)) rfl rfl bA (by simp [dbL]) (by kernel_rfl) ?_; intro w8 f8 n8 hs8; have E8 : Hid (Ev w [] w8 ([Res.blk sb (stc7 a), Res.blk ad [ptr0 (d true), ptr0 (d true)], Res.blk ax (dbL x)] ++ (hC m d N ++ sysC pbs s d FF) ++ (hX y db ib x N ++ sysX qbs s x GG))) := hid (E7.out.at 1 rfl f8 (fun b hb => .inl hb) (Res.On.blk n8) (fun b hb => .inl hb)); have bX8 : Blk w8 ax (dbL x) := E8.out.held.blkAt 2 rfl; have b1 : w8.cell? ⟨ax, 1, none⟩ = some (.pointer (some ⟨x true, 0, none⟩)) := bX8.cell 1; clear f8 n8 hs8 bA E7 a0 a1 b0 bS k0; simp only [World.size_alloc, World.size_drew, Act.put, List.setIfInBounds_toArray, List.set_cons_succ, List.set_cons_zero])
                | (refine wpList_put rfl _ _ _ rfl rfl (.pointer (some ⟨x true, 0, none⟩)) rfl rfl bX8 (by simp [dbL]) (by kernel_rfl) ?_; intro w9 f9 n9 hs9; have E9 : Hid (Ev w [] w9 ([Res.blk sb (stc7 a), Res.blk ad [ptr0 (d true), ptr0 (d true)], Res.blk ax [ptr0 (x true), ptr0 (x true)]] ++ (hC m d N ++ sysC pbs s d FF) ++ (hX y db ib x N ++ sysX qbs s x GG))) := hid (E8.out.at 2 rfl f9 (fun b hb => .inl hb) (Res.On.blk n9) (fun b hb => .inl hb)); have bA9 : Blk w9 ad [ptr0 (d true), ptr0 (d true)] := E9.out.held.blkAt 1 rfl; clear f9 n9 hs9 bX8 b1 E8; simp only [World.size_alloc, World.size_drew, Act.put, List.setIfInBounds_toArray, List.set_cons_succ, List.set_cons_zero])
                | (refine wpList_put rfl _ _ _ rfl rfl (.pointer (some ⟨d false, 0, none⟩)) rfl rfl bA9 (by simp [dbL]) (by kernel_rfl) ?_; intro w10 f10 n10 hs10; have E10 : Hid (Ev w [] w10 ([Res.blk sb (stc7 a), Res.blk ad [ptr0 (d true), ptr0 (d false)], Res.blk ax [ptr0 (x true), ptr0 (x true)]] ++ (hC m d N ++ sysC pbs s d FF) ++ (hX y db ib x N ++ sysX qbs s x GG))) := hid (E9.out.at 1 rfl f10 (fun b hb => .inl hb) (Res.On.blk n10) (fun b hb => .inl hb)); have bX10 : Blk w10 ax [ptr0 (x true), ptr0 (x true)] := E10.out.held.blkAt 2 rfl; clear f10 n10 hs10 bA9 E9; simp only [World.size_alloc, World.size_drew, Act.put, List.setIfInBounds_toArray, List.set_cons_succ, List.set_cons_zero])
                | (refine wpList_put rfl _ _ _ rfl rfl (.pointer (some ⟨x false, 0, none⟩)) rfl rfl bX10 (by simp [dbL]) (by kernel_rfl) ?_; intro w11 f11 n11 hs11; have E11 : Hid (Ev w [] w11 ([Res.blk sb (stc7 a), Res.blk ad [ptr0 (d true), ptr0 (d false)], Res.blk ax [ptr0 (x true), ptr0 (x false)]] ++ (hC m d N ++ sysC pbs s d FF) ++ (hX y db ib x N ++ sysX qbs s x GG))) := hid (E10.out.at 2 rfl f11 (fun b hb => .inl hb) (Res.On.blk n11) (fun b hb => .inl hb)); obtain ⟨dt, xt, FFq, GGq, ES⟩ := HSW.out _ E11.out; have E12 := hid ES; obtain ⟨e0, e1, e2, e3⟩ := HJ.out _ _ _ _ _ ES.held; clear f11 n11 hs11 bX10 E10 E11 HSW ES; simp only [World.size_alloc, World.size_drew, Act.put, List.setIfInBounds_toArray, List.set_cons_succ, List.set_cons_zero])
                | (go_at_call 7; refine (HO1.out _ _ _ (thr_hc E12.out.held)).mono ?_; rintro e w13 ⟨mt, rfl, v13⟩; have E13 := hid (thr_c E12.out v13); obtain ⟨e4, e5, e6, e7⟩ := HJ.out _ _ _ _ _ E13.out.held; clear v13 HO1 E12 e0 e1 e2 e3)
                | (go_at_call 8; refine (HO2.out _ _ _ (thr_hd E13.out.held)).mono ?_; rintro e w14 ⟨yt, dbt, ibt, rfl, v14⟩; have Et := hid (thr_d E13.out v14); clear v14 HO2 E13 e4 e5 e6 e7 HJ))
              go_roundw
              case rel => exact ⟨i + 1, st, Nt, ct, mt, yt, dbt, ibt, pbs, qbs, dt, xt, FFq, GGq, by omega, by omega, by go_num, rfl, rfl, rfl, rfl, OKt, LLt, TTt, hid (Ev.less [] _ Et.out)⟩
              case measure => simp [intOf]; omega
          have u8 : (a.Do == 8) = false := by simpa using h8
          by_cases h10 : a.Do = 10
          · have u10 : (a.Do == 10) = true := by simpa using h10
            clear h5 h6 h9 h11 h7 h8 h10
            as_aux_lemma =>
              have HM1 := hid fun (w1 : World) (FF1 : Bool → List Nat) (h1 : Held w1 ([] ++ sysC pbs s d FF1)) => cmake_any (l := []) h1 OK.out (by have := TT.out; omega)
              have HM2 := hid fun (w1 : World) (GG1 : Bool → List Nat) (h1 : Held w1 ([] ++ sysX qbs s x GG1)) => xmake_any (l := []) h1 OK.out (by have := TT.out; omega)
              obtain ⟨hk1, hk2, hk3⟩ := mak_out OK.out
              have OKt := hid hk1
              have TTt : Hid (s.mak.1.T ≤ 100 + 100 * (i + 1)) := hid (by have := TT.out; omega)
              have LLt : Hid (∀ b, s.mak.1.len b ≤ 9) := hid fun b => by rw [hk3]; exact LL.out b
              have HJ := hid fun (w1 : World) (C D : List Res) (h : Held w1 ([Res.blk sb (stc7 a), Res.blk ad (dbL d), Res.blk ax (dbL x)] ++ C ++ D)) => And.intro (show w1.cell? ⟨ad, 0, none⟩ = some (.pointer (some ⟨d false, 0, none⟩)) from (h.blkAt 1 rfl).cell 0) (And.intro (show w1.cell? ⟨ad, 1, none⟩ = some (.pointer (some ⟨d true, 0, none⟩)) from (h.blkAt 1 rfl).cell 1) (And.intro (show w1.cell? ⟨ax, 0, none⟩ = some (.pointer (some ⟨x false, 0, none⟩)) from (h.blkAt 2 rfl).cell 0) (show w1.cell? ⟨ax, 1, none⟩ = some (.pointer (some ⟨x true, 0, none⟩)) from (h.blkAt 2 rfl).cell 1)))
              have E8 := hid (drop_mir E7.out)
              obtain ⟨a0, a1, b0, b1⟩ := HJ.out _ _ _ E8.out.held
              generalize s.mak.2.2 = ct at *
              generalize s.mak.2.1 = Nt at *
              generalize s.mak.1 = st at *
              clear hk1 hk2 hk3 OK TT LL E7
              go_wp2_with (first
                | (go_at_call 10; refine (HM1.out _ _ (thr_hc E8.out.held)).mono ?_; rintro e w9 ⟨mt, FFt, rfl, v9⟩; have E9 := hid (thr_c E8.out v9); obtain ⟨a2, a3, b2, b3⟩ := HJ.out _ _ _ E9.out.held; clear v9 HM1 E8 a0 a1 b0 b1 k0 bS)
                | (go_at_call 11; refine (HM2.out _ _ (thr_hd E9.out.held)).mono ?_; rintro e w10 ⟨yt, dbt, ibt, GGt, rfl, v10⟩; have Et := hid (thr_d E9.out v10); clear v10 HM2 E9 a2 a3 b2 b3 HJ))
              go_roundw
              case rel => exact ⟨i + 1, st, Nt, ct, mt, yt, dbt, ibt, pbs, qbs, d, x, FFt, GGt, by omega, by omega, by go_num, rfl, rfl, rfl, rfl, OKt, LLt, TTt, hid (Ev.less [] _ Et.out)⟩
              case measure => simp [intOf]; omega
          have u10 : (a.Do == 10) = false := by simpa using h10
          clear h5 h6 h9 h11 h7 h8 h10
          as_aux_lemma =>
            cases N with
            | none =>
              rw [show pv m none = .pointer none from rfl, show pv y none = .pointer none from rfl]
              have TTt : Hid (s.T ≤ 100 + 100 * (i + 1)) := hid (by have := TT.out; omega)
              have Et := hid (Ev.less [] _ E7.out)
              clear TT E7 bS
              go_wp2_with fail
              go_roundw
              case rel => exact ⟨i + 1, s, none, 0, m, y, db, ib, pbs, qbs, d, x, FF, GG, by omega, by omega, by go_num, rfl, rfl, rfl, rfl, OK, LL, TTt, Et⟩
              case measure => simp [intOf]; omega
            | some Nq =>
              rw [show pv m (some Nq) = .pointer (some ⟨m, 0, none⟩) from rfl, show pv y (some Nq) = .pointer (some ⟨y, 0, none⟩) from rfl]
              have hdo := hid (cdoes_any (lb := [Res.blk sb (stc7 a), Res.blk ad (dbL d), Res.blk ax (dbL x)]) E7.out.held OK.out (by have := TT.out; have := LL.out (!Nq.1); omega) a hst7.out)
              have TTt : Hid (∀ t : Nat, t ≤ s.T + 2 * s.len (!Nq.1) + 12 → t ≤ 100 + 100 * (i + 1)) := hid (fun t ht => by have := TT.out; have := LL.out (!Nq.1); omega)
              have LLt : Hid (∀ st : Sys, (∀ b, st.len b = s.len b) → ∀ b, st.len b ≤ 9) := hid fun st h b => by rw [h]; exact LL.out b
              clear TT LL OK
              go_wp2_with (first
                | (refine wpList_load_agW (by rfl) _ _ rfl rfl (stc7 a) bS stepQ7 rfl rfl ?_; simp only [World.size_alloc, World.size_drew, Act.put, List.setIfInBounds_toArray, List.set_cons_succ, List.set_cons_zero])
                | (go_at_call 16; refine hdo.out.mono ?_; rintro e w8 ⟨rfl, st, Nt, FFt, GGt, OKs, TTs, LLs, vt⟩; have Et := hid (E7.out.trans vt); have OKt := hid OKs; have TTu := hid (TTt.out _ TTs); have LLu := hid (LLt.out _ LLs); clear vt hdo E7 bS k0 OKs TTs LLs TTt LLt))
              go_roundw
              case rel => exact ⟨i + 1, st, some Nt, 0, m, y, db, ib, pbs, qbs, d, x, FFt, GGt, by omega, by omega, by go_num, rfl, rfl, rfl, rfl, OKt, LLu, TTu, hid (Ev.less [] _ Et.out)⟩
              case measure => simp [intOf]; omega
        · have HF := hid fun (w1 : World) (f : Fr [] wr w1) => E.out.nil.trans' f
          by_cases he : i = l.length
          · have t3 : ((i : Int) == (l.length : Int)) = true := by simp; omega
            have t3n : (i == l.length) = true := by simp; omega
            clear E OK LL TT
            go_wp2_with (first
              | (go_at_call 9; refine HS.out.mono ?_; rintro e w1 ⟨rfl, f1⟩; have F1 := hid f1; obtain ⟨bA, bX⟩ := HB.out _ f1; clear f1 HS)
              | (refine wpList_load_agW (by rfl) _ _ rfl rfl (dbL d) bA arrD rfl rfl ?_; simp only [World.size_alloc, World.size_drew, Act.put, List.setIfInBounds_toArray, List.set_cons_succ, List.set_cons_zero])
              | (refine wpList_load_agW (by rfl) _ _ rfl rfl (dbL x) bX arrX rfl rfl ?_; simp only [World.size_alloc, World.size_drew, Act.put, List.setIfInBounds_toArray, List.set_cons_succ, List.set_cons_zero])
              | (go_at_call 12; refine (HD.out _ F1.out).mono ?_; rintro e w2 ⟨rfl, f2⟩; have F2 := hid (HF.out _ (F1.out.trans' f2)); clear f2 HD bA bX F1 HB HF)
              | (go_at_call 4; refine (HA.out _).mono ?_; rintro e w3 ⟨rfl, f3⟩))
            go_ret
            exact ⟨rfl, F2.out.trans' f3⟩
          · have t3 : ((i : Int) == (l.length : Int)) = false := by simp; omega
            have t3n : (i == l.length) = false := by simp; omega
            have t4 : ((i : Int) == 50) = true := by simp; omega
            have t4n : (i == 50) = true := by simp; omega
            clear E OK LL TT
            go_wp2_with (first
              | (go_at_call 9; refine HS.out.mono ?_; rintro e w1 ⟨rfl, f1⟩; have F1 := hid f1; obtain ⟨bA, bX⟩ := HB.out _ f1; clear f1 HS)
              | (refine wpList_load_agW (by rfl) _ _ rfl rfl (dbL d) bA arrD rfl rfl ?_; simp only [World.size_alloc, World.size_drew, Act.put, List.setIfInBounds_toArray, List.set_cons_succ, List.set_cons_zero])
              | (refine wpList_load_agW (by rfl) _ _ rfl rfl (dbL x) bX arrX rfl rfl ?_; simp only [World.size_alloc, World.size_drew, Act.put, List.setIfInBounds_toArray, List.set_cons_succ, List.set_cons_zero])
              | (go_at_call 12; refine (HD.out _ F1.out).mono ?_; rintro e w2 ⟨rfl, f2⟩; have F2 := hid (HF.out _ (F1.out.trans' f2)); clear f2 HD bA bX F1 HB HF)
              | (go_at_call 4; refine (HA.out _).mono ?_; rintro e w3 ⟨rfl, f3⟩))
            go_ret
            exact ⟨rfl, F2.out.trans' f3⟩
end
end Go.Proofs.YtjgagcpmoffldaaGreat
