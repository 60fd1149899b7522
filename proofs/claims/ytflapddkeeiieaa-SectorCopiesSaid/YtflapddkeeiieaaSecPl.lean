/- Layer 6: SectorPlays, the walk. -/
import Derived.Test.YtflapddkeeiieaaSecD3
namespace Go.Proofs.Ytflapddkeeiieaa
open Go Go.Xr Go.RowKit Go.ChangeShapes Go.WideShapes Go.Deep
set_option linter.unusedVariables false
set_option linter.unusedSimpArgs false
theorem dOf_new (n : Nat) : dOf (newXD n) = newSD n := by
  unfold newXD newSD dOf
  rw [nowL_nil]
  simp only [List.map_replicate, List.map_nil]
  rfl
theorem newXD_good {n : Nat} (h1 : 1 ≤ n) (h2 : n ≤ 16384) : XGood (newXD n) := ⟨by simp [newXD]; omega, by simp [newXD]; omega, fun s hs => by
  simp only [newXD] at hs
  rw [List.eq_of_mem_replicate hs]
  show zsec.toArray.size = 512
  rw [List.size_toArray]
  exact zs_len, fun p hp => by simp [newXD] at hp⟩
/-- Two new disks. -/
theorem pr_new {w w1 w2 : World} {rs : List Res} {d x n : Nat} {F : List Nat} {i : XI} (e : Ev w rs w1 rs) (h : Rep w2 d (newSD n) none F) (f : Fr [] w1 w2) (hF : ∀ y ∈ F, w1.heap.size ≤ y) {w3 : World} (ev : Ev w2 [] w3 (xps x (newXD n) none i)) :
    Ev w rs w3 (pr d (dOf (newXD n)) (mk 0 none) F x (newXD n) (mk 0 none) i ++ rs) := by
  rw [dOf_new]
  have e2 : Ev w rs w2 (Res.disk d (newSD n) none F :: rs) := e.new f (On.disk h) hF
  have e3 : Ev w rs w3 (xps x (newXD n) none i ++ (Res.disk d (newSD n) none F :: rs)) := by
    have := Ev.then [] (Res.disk d (newSD n) none F :: rs) (by simpa using e2) ev
    simpa using this
  have e4 : Ev w rs w3 (Res.pow none :: (xps x (newXD n) none i ++ (Res.disk d (newSD n) none F :: rs))) := e3.new (Fr.refl _ _) (pow0 w3) (fun b hb => by simp [Res.pow, pwF] at hb)
  have e5 : Ev w rs w3 (Res.pow none :: Res.pow none :: (xps x (newXD n) none i ++ (Res.disk d (newSD n) none F :: rs))) := e4.new (Fr.refl _ _) (pow0 w3) (fun b hb => by simp [Res.pow, pwF] at hb)
  refine Ev.perm e5 ?_
  show (Res.pow none :: Res.pow none :: (xps x (newXD n) none i ++ (Res.disk d (newSD n) none F :: rs))).Perm (Res.pow none :: Res.disk d (newSD n) none F :: Res.pow none :: (xps x (newXD n) none i ++ rs))
  refine List.Perm.cons _ ?_
  exact (List.Perm.cons _ List.perm_middle).trans (List.Perm.swap _ _ _)
theorem StWide.keep {w w' : World} {s : StepD} (h : StWide w s) (f : Fr [] w w') : StWide w' s := ⟨⟨h.1.d1, h.1.d2, h.1.i1, h.1.i2, h.1.t, h.1.k.keep f (by simp), h.1.kl⟩, h.2⟩
/-- What came in lies on none of the blocks made since. -/
theorem kb_ne {w w1 : World} {s : StepD} (h : StWide w s) {rs : List Res} (e : Ev w [] w1 rs) : ∀ b, s.KB = some b → b ∉ feetOf rs := by
  intro b hb hbr
  have := h.1.k.lt b hb
  rcases e.low b hbr with h1 | h1
  · cases h1
  · omega
set_option maxHeartbeats 4000000 in
set_option maxRecDepth 20000 in
theorem plays_walk {w : World} (n : Int) (hn : -9223372036854775808 ≤ n ∧ n ≤ 9223372036854775807) {v : Value} {l : List StepD} {LB : Option Nat} (hl : Rc w 5 v l.length (l.flatMap stc) LB) (hlok : ∀ s ∈ l, StWide w s) (hlm : l.length ≤ 9223372036854775807) :
    Calls Try.prog 4 #[.int .i64 n, v] w fun e w' => e = .returned (.bool true) ∧ Fr [] w w' := by
  obtain ⟨la, lc, rfl⟩ := hl.isSlice
  have HL := hid hl
  have HO := hid hlok
  have hLB : ∀ b, LB = some b → b < w.heap.size := hl.lt
  obtain ⟨ln, hln⟩ : ∃ ln, l.length = ln := ⟨_, rfl⟩
  have Hln := hid hln
  rw [hln] at hlm ⊢
  clear hl hlok hln
  by_cases h40 : 40 < n ∧ n ≤ 16384
  · obtain ⟨h1, h2⟩ := h40
    go_enter Try.func4, Try.ntmps4
    go_wp2_with (go_at_call 15; refine alive_any.mono ?_; rintro e w5 ⟨rfl, f5⟩)
    go_ret
    exact ⟨rfl, f5⟩
  · have d1 : (decide (40 < n) && decide (n ≤ 16384)) = false := by
      rw [Bool.and_eq_false_iff, decide_eq_false_iff_not, decide_eq_false_iff_not]
      omega
    by_cases hb : n < 1 ∨ 16384 < n
    · have hc := fun w1 : World => new_bad (w := w1) n hb hn.1 hn.2
      have hx := fun w1 : World => xnew_bad (w := w1) n (by omega)
      by_cases hb1 : n < 1
      · have g1 : ¬ (40 < n) := by omega
        go_enter Try.func4, Try.ntmps4
        go_wp2_with (first
          | (go_at_call 8; refine (hc _).mono ?_; rintro e w5 ⟨rfl, hw⟩; subst hw)
          | (go_at_call 16; refine (hx _).mono ?_; rintro e w5 ⟨rfl, hw⟩; subst hw)
          | (go_at_call 15; refine alive_any.mono ?_; rintro e w5 ⟨rfl, f5⟩))
        go_ret
        exact ⟨rfl, f5⟩
      · have g1 : 40 < n := by omega
        have g2 : ¬ (n ≤ 16384) := by omega
        go_enter Try.func4, Try.ntmps4
        go_wp2_with (first
          | (go_at_call 8; refine (hc _).mono ?_; rintro e w5 ⟨rfl, hw⟩; subst hw)
          | (go_at_call 16; refine (hx _).mono ?_; rintro e w5 ⟨rfl, hw⟩; subst hw)
          | (go_at_call 15; refine alive_any.mono ?_; rintro e w5 ⟨rfl, f5⟩))
        go_ret
        exact ⟨rfl, f5⟩
    · have g1 : ¬ (40 < n) := by omega
      obtain ⟨m, rfl⟩ : ∃ m : Nat, n = m := ⟨n.toNat, by omega⟩
      have hm1 : 1 ≤ m := by omega
      have hm2 : m ≤ 16384 := by omega
      go_enter Try.func4, Try.ntmps4
      go_wp2_with (first
        | (go_at_call 8; refine (new_ok m hm1 hm2).mono ?_; rintro e w1 ⟨d, F, rfl, hr, f1, hF⟩)
        | (go_at_call 16; refine (xnew_ok m hm1 hm2).mono ?_; rintro e w2 ⟨x, i, rfl, ev⟩))
      have e2 := pr_new (Ev.refl (Held.nil w)) hr f1 hF ev
      rw [List.append_nil] at e2
      have hX := newXD_good hm1 hm2
      have hXL : (newXD m).L.length = 0 ∧ (newXD m).Trace.length = 0 := ⟨rfl, rfl⟩
      clear hr f1 hF ev d1 hb h40
      generalize newXD m = X0 at *
      go_loopw [9] (fun jv wr => ∃ j : Nat, j ≤ ln ∧ j ≤ 80 ∧ jv = .int .i64 (j : Int) ∧ ∃ X lf pb qb F i, Ev w [] wr (pr d (dOf X) (mk pb lf) F x X (mk qb lf) i) ∧ XGood X ∧ X.L.length ≤ j ∧ X.Trace.length ≤ j) (fun jv _ => 80 - (intOf jv).toNat)
      case atStart => exact ⟨0, Nat.zero_le _, Nat.zero_le _, rfl, X0, none, 0, 0, F, i, e2, hX, by omega, by omega⟩
      case round =>
        obtain ⟨j, hj, hj80, rfl, X, lf, pb, qb, F, i, ev, hX, hXL, hXT⟩ := hrel
        clear e2
        by_cases hin : j < ln
        · have d1 : decide ((j : Int) < (ln : Int)) = true := by simp; omega
          have d1' : (j : Int) < (ln : Int) := by omega
          by_cases h80 : j < 80
          · have d2 : decide ((j : Int) < 80) = true := by simp; omega
            have d2' : (j : Int) < 80 := by omega
            have hil : j < l.length := by rw [Hln.out]; exact hin
            obtain ⟨b, off, cap, hv, hB, hblt, hcs⟩ := step_cell (HL.out.keep ev.fr (by simp [feetOf])) j hil
            have hcap : la = some ⟨b, off, none⟩ ∧ lc = cap := by rw [Hln.out] at hv; simpa using hv
            obtain ⟨rfl, rfl⟩ := hcap
            have c0 : wr.cell? ⟨b, off + j * 5, none⟩ = some (.int .i64 l[j].Do) := by simpa [stc] using hcs 0 (by decide)
            have c1 : wr.cell? ⟨b, off + j * 5 + 1, none⟩ = some (.int .i64 l[j].I) := by simpa [stc] using hcs 1 (by decide)
            have c2 : wr.cell? ⟨b, off + j * 5 + 2, none⟩ = some (bt l[j].C) := by simpa [stc] using hcs 2 (by decide)
            have c3 : wr.cell? ⟨b, off + j * 5 + 3, none⟩ = some (.string l[j].Text) := by simpa [stc] using hcs 3 (by decide)
            have c4 : wr.cell? ⟨b, off + j * 5 + 4, none⟩ = some l[j].Keep := by simpa [stc] using hcs 4 (by decide)
            have hs := HO.out l[j] (List.getElem_mem hil)
            generalize l[j] = s at *
            have HS := hid hs
            have EV := hid ev
            clear hcs hv hB hs ev
            by_cases hT : s.Text.size ≤ 2000
            · have d3 : decide ((s.Text.size : Int) ≤ 2000) = true := by simp; omega
              have hd := does_any EV.out.held hX (by omega) (by omega) s (HS.out.keep EV.out.fr) hT (kb_ne HS.out EV.out)
              go_wp2_with (go_at_call 17; refine hd.mono ?_; rintro e w5 ⟨rfl, X', lf', pb', qb', F', i', ev5, nx⟩)
              go_roundw
              case rel => exact ⟨j + 1, by omega, by omega, by go_num, X', lf', pb', qb', F', i', EV.out.trans ev5, nx.good, by have := nx.L; omega, by have := nx.T; omega⟩
              case measure => simp [intOf]; omega
            · have d3 : decide ((s.Text.size : Int) ≤ 2000) = false := by simp; omega
              go_wp2_with fail
              go_roundw
              case rel => exact ⟨j + 1, by omega, by omega, by go_num, X, lf, pb, qb, F, i, EV.out, hX, by omega, by omega⟩
              case measure => simp [intOf]; omega
          · have d2 : decide ((j : Int) < 80) = false := by simp; omega
            have d2' : ¬ ((j : Int) < 80) := by omega
            have hst := stands_any (l := []) ev.held hX (by omega) (by omega)
            have f := ev.fr
            clear ev
            go_wp2_with (first
              | (go_at_call 18; refine hst.mono ?_; rintro e w5 ⟨rfl, f5⟩)
              | (go_at_call 15; refine alive_any.mono ?_; rintro e w6 ⟨rfl, f6⟩))
            go_ret
            exact ⟨rfl, (f.trans' f5).trans' f6⟩
        · have d1 : decide ((j : Int) < (ln : Int)) = false := by simp; omega
          have d1' : ¬ ((j : Int) < (ln : Int)) := by omega
          have hst := stands_any (l := []) ev.held hX (by omega) (by omega)
          have f := ev.fr
          clear ev
          go_wp2_with (first
            | (go_at_call 18; refine hst.mono ?_; rintro e w5 ⟨rfl, f5⟩)
            | (go_at_call 15; refine alive_any.mono ?_; rintro e w6 ⟨rfl, f6⟩))
          go_ret
          exact ⟨rfl, (f.trans' f5).trans' f6⟩
end Go.Proofs.Ytflapddkeeiieaa
