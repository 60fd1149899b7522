/- Layer 6: SectorCopies, the walk. -/
import Derived.Test.YtflapddkeeiieaaSecPl
namespace Go.Proofs.Ytflapddkeeiieaa
open Go Go.Xr Go.RowKit Go.ChangeShapes Go.WideShapes Go.Deep
set_option linter.unusedVariables false
set_option linter.unusedSimpArgs false
/-- Two more disks, beside what there is. -/
theorem pr_add {w w1 w2 : World} {rs r0 : List Res} {d x : Nat} {D : SD} {X : XD} {F : List Nat} {i : XI} (e : Ev w r0 w1 rs) (h : Rep w2 d D none F) (f : Fr [] w1 w2) (hF : ∀ y ∈ F, w1.heap.size ≤ y) {w3 : World} (ev : Ev w2 [] w3 (xps x X none i)) :
    Ev w r0 w3 (pr d D (mk 0 none) F x X (mk 0 none) i ++ rs) := by
  have e2 : Ev w r0 w2 (Res.disk d D none F :: rs) := e.new f (On.disk h) hF
  have e3 : Ev w r0 w3 (xps x X none i ++ (Res.disk d D none F :: rs)) := by
    have := Ev.then [] (Res.disk d D none F :: rs) (by simpa using e2) ev
    simpa using this
  have e4 : Ev w r0 w3 (Res.pow none :: (xps x X none i ++ (Res.disk d D none F :: rs))) := e3.new (Fr.refl _ _) (pow0 w3) (fun b hb => by simp [Res.pow, pwF] at hb)
  have e5 : Ev w r0 w3 (Res.pow none :: Res.pow none :: (xps x X none i ++ (Res.disk d D none F :: rs))) := e4.new (Fr.refl _ _) (pow0 w3) (fun b hb => by simp [Res.pow, pwF] at hb)
  refine Ev.perm e5 ?_
  show (Res.pow none :: Res.pow none :: (xps x X none i ++ (Res.disk d D none F :: rs))).Perm (Res.pow none :: Res.disk d D none F :: Res.pow none :: (xps x X none i ++ rs))
  refine List.Perm.cons _ ?_
  exact (List.Perm.cons _ List.perm_middle).trans (List.Perm.swap _ _ _)
/-- A step that came in, at its place. -/
theorem step_here {w wr : World} {la : Option Addr} {ln lc : Nat} {l : List StepD} {LB : Option Nat} (hl : Rc w 5 (.slice la ln lc) l.length (l.flatMap stc) LB) (hlok : ∀ s ∈ l, StWide w s) (hn : l.length = ln) (f : Fr [] w wr) (j : Nat) (hj : j < ln) :
    ∃ b off s, la = some ⟨b, off, none⟩ ∧ s ∈ l ∧ StWide w s ∧ wr.cell? ⟨b, off + j * 5, none⟩ = some (.int .i64 s.Do) ∧ wr.cell? ⟨b, off + j * 5 + 1, none⟩ = some (.int .i64 s.I) ∧ wr.cell? ⟨b, off + j * 5 + 2, none⟩ = some (bt s.C) ∧ wr.cell? ⟨b, off + j * 5 + 3, none⟩ = some (.string s.Text) ∧ wr.cell? ⟨b, off + j * 5 + 4, none⟩ = some s.Keep := by
  have hil : j < l.length := by omega
  obtain ⟨b, off, cap, hv, hB, hblt, hcs⟩ := step_cell (hl.keep f (by simp)) j hil
  have hcap : la = some ⟨b, off, none⟩ := by injection hv
  exact ⟨b, off, l[j], hcap, List.getElem_mem hil, hlok _ (List.getElem_mem hil), by simpa [stc] using hcs 0 (by decide), by simpa [stc] using hcs 1 (by decide), by simpa [stc] using hcs 2 (by decide), by simpa [stc] using hcs 3 (by decide), by simpa [stc] using hcs 4 (by decide)⟩
set_option maxHeartbeats 8000000 in
set_option maxRecDepth 20000 in
theorem copies_walk {w : World} {v u : Value} {l k : List StepD} {LB KB : Option Nat} (hl : Rc w 5 v l.length (l.flatMap stc) LB) (hlok : ∀ s ∈ l, StWide w s) (hlm : l.length ≤ 9223372036854775807) (hk : Rc w 5 u k.length (k.flatMap stc) KB) (hkok : ∀ s ∈ k, StWide w s) (hkm : k.length ≤ 9223372036854775807) :
    Calls Try.prog 6 #[v, u] w fun e w' => e = .returned (.bool true) ∧ Fr [] w w' := by
  obtain ⟨la, lc, rfl⟩ := hl.isSlice
  obtain ⟨ka, kc, rfl⟩ := hk.isSlice
  have HL := hid fun (wr : World) (f : Fr [] w wr) (j : Nat) (hj : j < l.length) => step_here hl hlok rfl f j hj
  have HK := hid fun (wr : World) (f : Fr [] w wr) (j : Nat) (hj : j < k.length) => step_here hk hkok rfl f j hj
  generalize l.length = ln at *
  generalize k.length = kn at *
  clear hl hlok hk hkok
  go_enter Try.func6, Try.ntmps6
  go_wp2_with (first
    | (go_at_call 8; refine (new_ok 6 (by decide) (by decide)).mono ?_; rintro e w1 ⟨d, F, rfl, hr, f1, hF⟩)
    | (go_at_call 16; refine (xnew_ok 6 (by decide) (by decide)).mono ?_; rintro e w2 ⟨x, i, rfl, ev⟩))
  have e2 := pr_new (Ev.refl (Held.nil w)) hr f1 hF ev
  rw [List.append_nil] at e2
  have hX := newXD_good (n := 6) (by decide) (by decide)
  have hXL : (newXD 6).L.length = 0 ∧ (newXD 6).Trace.length = 0 := ⟨rfl, rfl⟩
  clear hr f1 hF ev
  generalize newXD 6 = X0 at *
  go_loopw [9] (fun jv wr => ∃ j : Nat, j ≤ ln ∧ j ≤ 40 ∧ jv = .int .i64 (j : Int) ∧ ∃ X lf pb qb F i, Ev w [] wr (pr d (dOf X) (mk pb lf) F x X (mk qb lf) i) ∧ XGood X ∧ X.L.length ≤ j ∧ X.Trace.length ≤ j) (fun jv _ => 40 - (intOf jv).toNat)
  case atStart => exact ⟨0, Nat.zero_le _, Nat.zero_le _, rfl, X0, none, 0, 0, F, i, e2, hX, by omega, by omega⟩
  case round =>
    obtain ⟨j, hj, hj80, rfl, X, lf, pb, qb, F, i, ev, hX, hXL, hXT⟩ := hrel
    clear e2
    have go_on : (j < ln ∧ j < 40) ∨ ¬ (j < ln ∧ j < 40) := Classical.em _
    rcases go_on with ⟨hin, h80⟩ | hend
    · have d1 : decide ((j : Int) < (ln : Int)) = true := by simp; omega
      have d1' : (j : Int) < (ln : Int) := by omega
      have d2 : decide ((j : Int) < 40) = true := by simp; omega
      have d2' : (j : Int) < 40 := by omega
      obtain ⟨b, off, s, rfl, _, hs, c0, c1, c2, c3, c4⟩ := HL.out _ ev.fr j hin
      have HS := hid hs
      have EV := hid ev
      clear hs ev
      by_cases hT : s.Text.size ≤ 2000
      · have d3 : decide ((s.Text.size : Int) ≤ 2000) = true := by simp; omega
        have hd := does_any EV.out.held hX (by omega) (by omega) s (HS.out.keep EV.out.fr) hT (kb_ne HS.out EV.out)
        go_wp2_with (go_at_call 17; refine hd.mono ?_; rintro e w5 ⟨rfl, X', lf', pb', qb', F', i', ev5, nx⟩)
        go_roundw
        case rel => exact ⟨j + 1, by omega, by omega, by go_num, X', lf', pb', qb', F', i', EV.out.trans ev5, nx.good, by have := nx.L; omega, by have := nx.T; omega⟩
        case measure => simp [intOf]; omega
      · have d3 : decide ((s.Text.size : Int) ≤ 2000) = false := by simp; omega
        go_wp2_with fail
        go_roundw
        case rel => exact ⟨j + 1, by omega, by omega, by go_num, X, lf, pb, qb, F, i, EV.out, hX, by omega, by omega⟩
        case measure => simp [intOf]; omega
    · by_cases hin : j < ln
      · have d1 : decide ((j : Int) < (ln : Int)) = true := by simp; omega
        have d1' : (j : Int) < (ln : Int) := by omega
        have d2 : decide ((j : Int) < 40) = false := by simp; omega
        have d2' : ¬ ((j : Int) < 40) := by omega
        have EV := hid ev
        have HX := hid hX
        have hcp := copy_any (Held.rep (Held.prC (l := []) ev.held)) (by simp only [dOf, List.length_map]; omega) (by simp only [dOf]; omega)
        clear ev
        go_wp2_with (first
          | (go_at_call 26; refine hcp.mono ?_; rintro e w3 ⟨c, Fc, rfl, hrc, f3, hFc⟩; have hxc := xcopy_any (Held.xpsOf (Held.prX (l := []) (EV.out.step f3).held)) HX.out (by omega) (by omega); clear hcp)
          | (go_at_call 27; refine hxc.mono ?_; rintro e w4 ⟨y, iy, rfl, ev4⟩; clear hxc))
        have e4 := pr_add EV.out hrc f3 hFc ev4
        have hsm := same_any (Held.rep (Held.prC (l := []) (Held.part [] _ (by simpa using e4.held)))) (Held.rep (Held.prC e4.held))
        rw [beq_self_eq_true, beq_self_eq_true, beq_self_eq_true] at hsm
        have E4 := hid e4
        clear hrc f3 hFc ev4 e4 EV
        go_wp2_with (go_at_call 28; refine hsm.mono ?_; rintro e w5 ⟨rfl, f5⟩; clear hsm)
        have e5 := E4.out.step f5
        clear f5
        go_loopw [12] (fun jv wr => ∃ g : Nat, g ≤ kn ∧ g ≤ 40 ∧ jv = .int .i64 (g : Int) ∧ ∃ Y lg pb' qb' G iy, Ev w [] wr (pr c (dOf Y) (mk pb' lg) G y Y (mk qb' lg) iy ++ pr d (dOf X) (mk pb lf) F x X (mk qb lf) i) ∧ XGood Y ∧ Y.L.length ≤ 40 + g ∧ Y.Trace.length ≤ 40 + g) (fun jv _ => 40 - (intOf jv).toNat)
        case atStart => exact ⟨0, Nat.zero_le _, Nat.zero_le _, rfl, X, none, 0, 0, Fc, iy, e5, HX.out, by omega, by omega⟩
        case round =>
          obtain ⟨g, hg, hg40, rfl, Y, lg, pb', qb', G, iy', ev, hY, hYL, hYT⟩ := hrel
          clear e5 E4
          by_cases hgk : g < kn ∧ g < 40
          · obtain ⟨hgk1, hgk2⟩ := hgk
            have d5 : decide ((g : Int) < (kn : Int)) = true := by simp; omega
            have d5' : (g : Int) < (kn : Int) := by omega
            have d6 : decide ((g : Int) < 40) = true := by simp; omega
            have d6' : (g : Int) < 40 := by omega
            obtain ⟨b, off, s, rfl, _, hs, c0, c1, c2, c3, c4⟩ := HK.out _ ev.fr g hgk1
            have HS := hid hs
            have EW := hid ev
            clear hs ev
            by_cases hT : s.Text.size ≤ 2000
            · have d7 : decide ((s.Text.size : Int) ≤ 2000) = true := by simp; omega
              have hpt := Held.part [] (pr d (dOf X) (mk pb lf) F x X (mk qb lf) i) (by simpa using EW.out.held)
              have hd := does_any hpt hY (by omega) (by omega) s (HS.out.keep EW.out.fr) hT (fun b hb hbf => kb_ne HS.out EW.out b hb (by simp only [feetOf, List.flatMap_append, List.mem_append] at hbf ⊢; exact .inl hbf))
              clear hpt
              go_wp2_with (go_at_call 17; refine hd.mono ?_; rintro e w6 ⟨rfl, X', lf', pb'', qb'', F', i', ev5, nx⟩)
              go_roundw
              case rel => exact ⟨g + 1, by omega, by omega, by go_num, X', lf', pb'', qb'', F', i', Ev.then [] _ EW.out ev5, nx.good, by have := nx.L; omega, by have := nx.T; omega⟩
              case measure => simp [intOf]; omega
            · have d7 : decide ((s.Text.size : Int) ≤ 2000) = false := by simp; omega
              go_wp2_with fail
              go_roundw
              case rel => exact ⟨g + 1, by omega, by omega, by go_num, Y, lg, pb', qb', G, iy', EW.out, hY, by omega, by omega⟩
              case measure => simp [intOf]; omega
          · have EW := hid ev
            have hpt := Held.part [] (pr d (dOf X) (mk pb lf) F x X (mk qb lf) i) (by simpa using ev.held)
            have HP := hid hpt
            clear ev hpt
            have HS1 := hid fun (w1 : World) (f : Fr [] wr w1) => stands_any (EW.out.held.keep0 f) HX.out (by omega) (by omega)
            have HS2 := hid fun (w1 : World) (f : Fr [] wr w1) => stands_any (l := []) (HP.out.keep0 f) hY (by omega) (by omega)
            have HS3 := hid fun (w1 : World) (f : Fr [] wr w1) => same_any (Held.rep (Held.prC (l := []) (HP.out.keep0 f))) (Held.rep (Held.prC (EW.out.held.keep0 f)))
            have HS4 := hid fun (w1 : World) (f : Fr [] wr w1) => xsame_any (Held.prX (l := []) (HP.out.keep0 f)) (Held.prX (EW.out.held.keep0 f)) hY HX.out (by omega) (by omega)
            have hsb : sameX Y X = (((dOf Y).dead == (dOf X).dead && (dOf Y).kept == (dOf X).kept) && (dOf Y).now == (dOf X).now) := rfl
            rw [← hsb] at HS3
            generalize sameX Y X = sb at *
            have hf := EW.out.fr
            clear hsb
            by_cases hgk2 : g < kn
            · have d5 : decide ((g : Int) < (kn : Int)) = true := by simp; omega
              have d5' : (g : Int) < (kn : Int) := by omega
              have d6 : decide ((g : Int) < 40) = false := by simp; omega
              have d6' : ¬ ((g : Int) < 40) := by omega
              cases sb
              · skip
                go_wp2_with (first
                  | (go_at_call 18; refine (HS1.out _ (Fr.refl _ _)).mono ?_; rintro e w7 ⟨rfl, f7⟩; clear HS1)
                  | (go_at_call 18; refine (HS2.out _ f7).mono ?_; rintro e w8 ⟨rfl, f8⟩; have g8 := f7.trans' f8)
                  | (go_at_call 28; refine (HS3.out _ g8).mono ?_; rintro e w9 ⟨rfl, f9⟩; have g9 := g8.trans' f9)
                  | (go_at_call 29; refine (HS4.out _ g9).mono ?_; rintro e w10 ⟨rfl, f10⟩; have g10 := g9.trans' f10)
                  | (go_at_call 15; refine alive_any.mono ?_; rintro e w11 ⟨rfl, f11⟩))
                go_ret
                exact ⟨rfl, hf.trans' (g10.trans' f11)⟩
              · skip
                go_wp2_with (first
                  | (go_at_call 18; refine (HS1.out _ (Fr.refl _ _)).mono ?_; rintro e w7 ⟨rfl, f7⟩; clear HS1)
                  | (go_at_call 18; refine (HS2.out _ f7).mono ?_; rintro e w8 ⟨rfl, f8⟩; have g8 := f7.trans' f8)
                  | (go_at_call 28; refine (HS3.out _ g8).mono ?_; rintro e w9 ⟨rfl, f9⟩; have g9 := g8.trans' f9)
                  | (go_at_call 29; refine (HS4.out _ g9).mono ?_; rintro e w10 ⟨rfl, f10⟩; have g10 := g9.trans' f10)
                  | (go_at_call 15; refine alive_any.mono ?_; rintro e w11 ⟨rfl, f11⟩))
                go_ret
                exact ⟨rfl, hf.trans' (g10.trans' f11)⟩
            · have d5 : decide ((g : Int) < (kn : Int)) = false := by simp; omega
              have d5' : ¬ ((g : Int) < (kn : Int)) := by omega
              cases sb
              · skip
                go_wp2_with (first
                  | (go_at_call 18; refine (HS1.out _ (Fr.refl _ _)).mono ?_; rintro e w7 ⟨rfl, f7⟩; clear HS1)
                  | (go_at_call 18; refine (HS2.out _ f7).mono ?_; rintro e w8 ⟨rfl, f8⟩; have g8 := f7.trans' f8)
                  | (go_at_call 28; refine (HS3.out _ g8).mono ?_; rintro e w9 ⟨rfl, f9⟩; have g9 := g8.trans' f9)
                  | (go_at_call 29; refine (HS4.out _ g9).mono ?_; rintro e w10 ⟨rfl, f10⟩; have g10 := g9.trans' f10)
                  | (go_at_call 15; refine alive_any.mono ?_; rintro e w11 ⟨rfl, f11⟩))
                go_ret
                exact ⟨rfl, hf.trans' (g10.trans' f11)⟩
              · skip
                go_wp2_with (first
                  | (go_at_call 18; refine (HS1.out _ (Fr.refl _ _)).mono ?_; rintro e w7 ⟨rfl, f7⟩; clear HS1)
                  | (go_at_call 18; refine (HS2.out _ f7).mono ?_; rintro e w8 ⟨rfl, f8⟩; have g8 := f7.trans' f8)
                  | (go_at_call 28; refine (HS3.out _ g8).mono ?_; rintro e w9 ⟨rfl, f9⟩; have g9 := g8.trans' f9)
                  | (go_at_call 29; refine (HS4.out _ g9).mono ?_; rintro e w10 ⟨rfl, f10⟩; have g10 := g9.trans' f10)
                  | (go_at_call 15; refine alive_any.mono ?_; rintro e w11 ⟨rfl, f11⟩))
                go_ret
                exact ⟨rfl, hf.trans' (g10.trans' f11)⟩
      · have d1 : decide ((j : Int) < (ln : Int)) = false := by simp; omega
        have d1' : ¬ ((j : Int) < (ln : Int)) := by omega
        have EV := hid ev
        have HX := hid hX
        have hcp := copy_any (Held.rep (Held.prC (l := []) ev.held)) (by simp only [dOf, List.length_map]; omega) (by simp only [dOf]; omega)
        clear ev
        go_wp2_with (first
          | (go_at_call 26; refine hcp.mono ?_; rintro e w3 ⟨c, Fc, rfl, hrc, f3, hFc⟩; have hxc := xcopy_any (Held.xpsOf (Held.prX (l := []) (EV.out.step f3).held)) HX.out (by omega) (by omega); clear hcp)
          | (go_at_call 27; refine hxc.mono ?_; rintro e w4 ⟨y, iy, rfl, ev4⟩; clear hxc))
        have e4 := pr_add EV.out hrc f3 hFc ev4
        have hsm := same_any (Held.rep (Held.prC (l := []) (Held.part [] _ (by simpa using e4.held)))) (Held.rep (Held.prC e4.held))
        rw [beq_self_eq_true, beq_self_eq_true, beq_self_eq_true] at hsm
        have E4 := hid e4
        clear hrc f3 hFc ev4 e4 EV
        go_wp2_with (go_at_call 28; refine hsm.mono ?_; rintro e w5 ⟨rfl, f5⟩; clear hsm)
        have e5 := E4.out.step f5
        clear f5
        go_loopw [12] (fun jv wr => ∃ g : Nat, g ≤ kn ∧ g ≤ 40 ∧ jv = .int .i64 (g : Int) ∧ ∃ Y lg pb' qb' G iy, Ev w [] wr (pr c (dOf Y) (mk pb' lg) G y Y (mk qb' lg) iy ++ pr d (dOf X) (mk pb lf) F x X (mk qb lf) i) ∧ XGood Y ∧ Y.L.length ≤ 40 + g ∧ Y.Trace.length ≤ 40 + g) (fun jv _ => 40 - (intOf jv).toNat)
        case atStart => exact ⟨0, Nat.zero_le _, Nat.zero_le _, rfl, X, none, 0, 0, Fc, iy, e5, HX.out, by omega, by omega⟩
        case round =>
          obtain ⟨g, hg, hg40, rfl, Y, lg, pb', qb', G, iy', ev, hY, hYL, hYT⟩ := hrel
          clear e5 E4
          by_cases hgk : g < kn ∧ g < 40
          · obtain ⟨hgk1, hgk2⟩ := hgk
            have d5 : decide ((g : Int) < (kn : Int)) = true := by simp; omega
            have d5' : (g : Int) < (kn : Int) := by omega
            have d6 : decide ((g : Int) < 40) = true := by simp; omega
            have d6' : (g : Int) < 40 := by omega
            obtain ⟨b, off, s, rfl, _, hs, c0, c1, c2, c3, c4⟩ := HK.out _ ev.fr g hgk1
            have HS := hid hs
            have EW := hid ev
            clear hs ev
            by_cases hT : s.Text.size ≤ 2000
            · have d7 : decide ((s.Text.size : Int) ≤ 2000) = true := by simp; omega
              have hpt := Held.part [] (pr d (dOf X) (mk pb lf) F x X (mk qb lf) i) (by simpa using EW.out.held)
              have hd := does_any hpt hY (by omega) (by omega) s (HS.out.keep EW.out.fr) hT (fun b hb hbf => kb_ne HS.out EW.out b hb (by simp only [feetOf, List.flatMap_append, List.mem_append] at hbf ⊢; exact .inl hbf))
              clear hpt
              go_wp2_with (go_at_call 17; refine hd.mono ?_; rintro e w6 ⟨rfl, X', lf', pb'', qb'', F', i', ev5, nx⟩)
              go_roundw
              case rel => exact ⟨g + 1, by omega, by omega, by go_num, X', lf', pb'', qb'', F', i', Ev.then [] _ EW.out ev5, nx.good, by have := nx.L; omega, by have := nx.T; omega⟩
              case measure => simp [intOf]; omega
            · have d7 : decide ((s.Text.size : Int) ≤ 2000) = false := by simp; omega
              go_wp2_with fail
              go_roundw
              case rel => exact ⟨g + 1, by omega, by omega, by go_num, Y, lg, pb', qb', G, iy', EW.out, hY, by omega, by omega⟩
              case measure => simp [intOf]; omega
          · have EW := hid ev
            have hpt := Held.part [] (pr d (dOf X) (mk pb lf) F x X (mk qb lf) i) (by simpa using ev.held)
            have HP := hid hpt
            clear ev hpt
            have HS1 := hid fun (w1 : World) (f : Fr [] wr w1) => stands_any (EW.out.held.keep0 f) HX.out (by omega) (by omega)
            have HS2 := hid fun (w1 : World) (f : Fr [] wr w1) => stands_any (l := []) (HP.out.keep0 f) hY (by omega) (by omega)
            have HS3 := hid fun (w1 : World) (f : Fr [] wr w1) => same_any (Held.rep (Held.prC (l := []) (HP.out.keep0 f))) (Held.rep (Held.prC (EW.out.held.keep0 f)))
            have HS4 := hid fun (w1 : World) (f : Fr [] wr w1) => xsame_any (Held.prX (l := []) (HP.out.keep0 f)) (Held.prX (EW.out.held.keep0 f)) hY HX.out (by omega) (by omega)
            have hsb : sameX Y X = (((dOf Y).dead == (dOf X).dead && (dOf Y).kept == (dOf X).kept) && (dOf Y).now == (dOf X).now) := rfl
            rw [← hsb] at HS3
            generalize sameX Y X = sb at *
            have hf := EW.out.fr
            clear hsb
            by_cases hgk2 : g < kn
            · have d5 : decide ((g : Int) < (kn : Int)) = true := by simp; omega
              have d5' : (g : Int) < (kn : Int) := by omega
              have d6 : decide ((g : Int) < 40) = false := by simp; omega
              have d6' : ¬ ((g : Int) < 40) := by omega
              cases sb
              · skip
                go_wp2_with (first
                  | (go_at_call 18; refine (HS1.out _ (Fr.refl _ _)).mono ?_; rintro e w7 ⟨rfl, f7⟩; clear HS1)
                  | (go_at_call 18; refine (HS2.out _ f7).mono ?_; rintro e w8 ⟨rfl, f8⟩; have g8 := f7.trans' f8)
                  | (go_at_call 28; refine (HS3.out _ g8).mono ?_; rintro e w9 ⟨rfl, f9⟩; have g9 := g8.trans' f9)
                  | (go_at_call 29; refine (HS4.out _ g9).mono ?_; rintro e w10 ⟨rfl, f10⟩; have g10 := g9.trans' f10)
                  | (go_at_call 15; refine alive_any.mono ?_; rintro e w11 ⟨rfl, f11⟩))
                go_ret
                exact ⟨rfl, hf.trans' (g10.trans' f11)⟩
              · skip
                go_wp2_with (first
                  | (go_at_call 18; refine (HS1.out _ (Fr.refl _ _)).mono ?_; rintro e w7 ⟨rfl, f7⟩; clear HS1)
                  | (go_at_call 18; refine (HS2.out _ f7).mono ?_; rintro e w8 ⟨rfl, f8⟩; have g8 := f7.trans' f8)
                  | (go_at_call 28; refine (HS3.out _ g8).mono ?_; rintro e w9 ⟨rfl, f9⟩; have g9 := g8.trans' f9)
                  | (go_at_call 29; refine (HS4.out _ g9).mono ?_; rintro e w10 ⟨rfl, f10⟩; have g10 := g9.trans' f10)
                  | (go_at_call 15; refine alive_any.mono ?_; rintro e w11 ⟨rfl, f11⟩))
                go_ret
                exact ⟨rfl, hf.trans' (g10.trans' f11)⟩
            · have d5 : decide ((g : Int) < (kn : Int)) = false := by simp; omega
              have d5' : ¬ ((g : Int) < (kn : Int)) := by omega
              cases sb
              · skip
                go_wp2_with (first
                  | (go_at_call 18; refine (HS1.out _ (Fr.refl _ _)).mono ?_; rintro e w7 ⟨rfl, f7⟩; clear HS1)
                  | (go_at_call 18; refine (HS2.out _ f7).mono ?_; rintro e w8 ⟨rfl, f8⟩; have g8 := f7.trans' f8)
                  | (go_at_call 28; refine (HS3.out _ g8).mono ?_; rintro e w9 ⟨rfl, f9⟩; have g9 := g8.trans' f9)
                  | (go_at_call 29; refine (HS4.out _ g9).mono ?_; rintro e w10 ⟨rfl, f10⟩; have g10 := g9.trans' f10)
                  | (go_at_call 15; refine alive_any.mono ?_; rintro e w11 ⟨rfl, f11⟩))
                go_ret
                exact ⟨rfl, hf.trans' (g10.trans' f11)⟩
              · skip
                go_wp2_with (first
                  | (go_at_call 18; refine (HS1.out _ (Fr.refl _ _)).mono ?_; rintro e w7 ⟨rfl, f7⟩; clear HS1)
                  | (go_at_call 18; refine (HS2.out _ f7).mono ?_; rintro e w8 ⟨rfl, f8⟩; have g8 := f7.trans' f8)
                  | (go_at_call 28; refine (HS3.out _ g8).mono ?_; rintro e w9 ⟨rfl, f9⟩; have g9 := g8.trans' f9)
                  | (go_at_call 29; refine (HS4.out _ g9).mono ?_; rintro e w10 ⟨rfl, f10⟩; have g10 := g9.trans' f10)
                  | (go_at_call 15; refine alive_any.mono ?_; rintro e w11 ⟨rfl, f11⟩))
                go_ret
                exact ⟨rfl, hf.trans' (g10.trans' f11)⟩
end Go.Proofs.Ytflapddkeeiieaa
