/- Layer 6, the document's disk: Same. -/
import Derived.Test.YtflapddkeeiieaaRefE
import Derived.Test.YtflapddkeeiieaaThree
import Derived.Test.YtflapddkeeiieaaSecU
namespace Go.Proofs.Ytflapddkeeiieaa
open Go Go.Xr Go.RowKit
set_option linter.unusedVariables false
set_option linter.unusedSimpArgs false
def sameX (X Y : XD) : Bool := (X.Dead == Y.Dead && X.Kept.map (·.data.toList) == Y.Kept.map (·.data.toList)) && nowL X == nowL Y
theorem kept_at {w : World} {x : Nat} {X : XD} {pw : Option (Nat × Nat)} {i : XI} (h : Held w (xps x X pw i)) (q : Nat) (hq : q < X.Kept.length) : ∃ b c, i.kv = .slice (some ⟨b, 0, none⟩) X.Kept.length c ∧ w.cell? ⟨b, q, none⟩ = some (.string X.Kept[q]) := by
  have hko := (h.ownAt 1 rfl : Xr.Own w 1 i.kv X.Kept.length (X.Kept.map .string) i.K)
  obtain ⟨kb, kc, _, hkv, _, _, hkc⟩ := own_open hko (by omega)
  have hkq := (hkc q (by simpa using hq)).1
  rw [List.getElem?_map, List.getElem?_eq_getElem hq, Option.map_some] at hkq
  exact ⟨kb, kc, hkv, hkq⟩
set_option maxHeartbeats 6000000 in
set_option maxRecDepth 20000 in
theorem xsame_any {w : World} {x y : Nat} {X Y : XD} {pw pw' : Option (Nat × Nat)} {i i' : XI} (h : Held w (Res.pow pw :: xps x X pw i)) (h' : Held w (Res.pow pw' :: xps y Y pw' i')) (hX : XGood X) (hY : XGood Y) (hl : X.L.length < 1000000) (hl' : Y.L.length < 1000000) :
    Calls Try.prog 29 #[.pointer (some ⟨x, 0, none⟩), .pointer (some ⟨y, 0, none⟩)] w fun e w' => e = .returned (.bool (sameX X Y)) ∧ Fr [] w w' := by
  have hc := (h.blkAt 1 rfl)
  have hc' := (h'.blkAt 1 rfl)
  have k3 := hc.cell 3
  have k3' := hc'.cell 3
  have hk : Xr.Own w 1 i.kv X.Kept.length (X.Kept.map .string) i.K := h.ownAt 2 rfl
  have hk' : Xr.Own w 1 i'.kv Y.Kept.length (Y.Kept.map .string) i'.K := h'.ownAt 2 rfl
  obtain ⟨kb, kc, _, hkv, _, _, hkc⟩ := own_open hk hX.pos
  obtain ⟨kb', kc', _, hkv', _, _, hkc'⟩ := own_open hk' hY.pos
  have k0 := hc.cell 0
  have k0' := hc'.cell 0
  rw [hkv] at k0
  rw [hkv'] at k0'
  have HN := hid fun (q : Nat) (hq : q < X.Kept.length) (w1 : World) (f : Fr [] w w1) => now_any (h.keep0 f) q hq hX.le hl
  have HN' := hid fun (q : Nat) (hq : q < Y.Kept.length) (w1 : World) (f : Fr [] w w1) => now_any (h'.keep0 f) q hq hY.le hl'
  have HG := hid hX
  have HG' := hid hY
  have HC := hid fun q (hq : q < X.Kept.length) => (show w.cell? ⟨kb, q, none⟩ = some (.string X.Kept[q]) by rw [(hkc q (by simpa using hq)).1, List.getElem?_map, List.getElem?_eq_getElem hq]; rfl)
  have HC' := hid fun q (hq : q < Y.Kept.length) => (show w.cell? ⟨kb', q, none⟩ = some (.string Y.Kept[q]) by rw [(hkc' q (by simpa using hq)).1, List.getElem?_map, List.getElem?_eq_getElem hq]; rfl)
  obtain ⟨n, hn⟩ : ∃ n, X.Kept.length = n := ⟨_, rfl⟩
  obtain ⟨n', hn'⟩ : ∃ n, Y.Kept.length = n := ⟨_, rfl⟩
  have hle := hX.le
  have hle' := hY.le
  rw [hn] at k0 hle
  rw [hn'] at k0' hle'
  have Hn := hid hn
  have Hn' := hid hn'
  have HS : Hid (X.Dead ≠ Y.Dead ∨ n ≠ n' → sameX X Y = false) := hid fun h => by
    unfold sameX
    rcases h with h | h
    · simp [h]
    · have e : (X.Kept.map (·.data.toList) == Y.Kept.map (·.data.toList)) = false := by
        rw [beq_eq_false_iff_ne]
        intro e
        have := congrArg List.length e
        rw [List.length_map, List.length_map] at this
        omega
      rw [e]
      simp
  clear h h' hX hY hc hc' hk hk' hkv hkv' hkc hkc' hn hn'
  by_cases hnn : n = n'
  · obtain ⟨dx, hdx⟩ : ∃ d, X.Dead = d := ⟨_, rfl⟩
    obtain ⟨dy, hdy⟩ : ∃ d, Y.Dead = d := ⟨_, rfl⟩
    rw [hdx] at k3
    rw [hdy] at k3'
    have HD := hid (And.intro hdx hdy)
    by_cases hdd : dx = dy
    · subst hdd
      subst hnn
      clear hdx hdy
      cases dx
      · go_enter Try.func29, Try.ntmps29
        go_wp2_with fail
        refine wp_region_D (fun _ => True) false [] (by kernel_rfl) ?_
        refine WD.pure [0, 1, 2, 3, 4, 5, 6, 7, 8, 9, 10, 11, 12, 13, 14, 15, 16, 17, 18, 19, 20, 21] (by kernel_rfl) trivial ?_
        simp only [pick, List.toList_toArray, List.map_cons, List.map_nil, List.getD_cons_succ, List.getD_cons_zero]
        repeat (first | go_big_quiet_step (fail) | (refine quiet_len_v (by rfl) _ _ rfl Try.underlying30 rfl ?_; simp only [World.size_alloc, World.size_drew, Act.put, List.setIfInBounds_toArray, List.set_cons_succ, List.set_cons_zero]))
        refine wpQuiet_nil ?_
        refine WD.done (by kernel_rfl) ?_
        go_wp2_with fail
        go_loopw [5] (fun jv wr => ∃ m : Nat, m ≤ n ∧ jv = .int .i64 (m : Int) ∧ X.Kept.take m = Y.Kept.take m ∧ (nowL X).take m = (nowL Y).take m ∧ Fr [] w wr) (fun jv _ => n - (intOf jv).toNat)
        case atStart => exact ⟨0, Nat.zero_le _, rfl, by simp, by simp, (Fr.refl _ _).drew⟩
        case round =>
          obtain ⟨m, hm, rfl, hK, hN, f⟩ := hrel
          have c3 := f.cell_some (show w.cell? ⟨x, 0, none⟩ = some (.slice (some ⟨kb, 0, none⟩) n kc) from k0)
          have c4 := f.cell_some (show w.cell? ⟨y, 0, none⟩ = some (.slice (some ⟨kb', 0, none⟩) n kc') from k0')
          by_cases hmn : m < n
          · have hd : decide (m < n) = true := by simp; omega
            have hmx : m < X.Kept.length := by rw [Hn.out]; exact hmn
            have hmy : m < Y.Kept.length := by rw [Hn'.out]; exact hmn
            have c1 := f.cell_some (HC.out m hmx)
            have c2 := f.cell_some (HC'.out m hmy)
            have hn1 := HN.out m hmx wr.drew f.drew
            have hn2 := HN'.out m hmy wr.drew f.drew
            have HNG := hid (And.intro (nowL_get X m hmx) (nowL_get Y m hmy))
            have HT := hid (And.intro hK hN)
            have HM := hid (And.intro hmx hmy)
            generalize hnx : nowX X.L m X.Kept[m] = nx at *
            generalize hny : nowX Y.L m Y.Kept[m] = ny at *
            generalize hkx : X.Kept[m] = kx at *
            generalize hky : Y.Kept[m] = ky at *
            have HX := hid (And.intro hkx hky)
            clear hnx hny hkx hky hK hN
            by_cases hkk : kx = ky
            · by_cases hnn : nx = ny
              · subst hkk
                subst hnn
                go_wp2_with fail
                refine wp_region_D (fun _ => True) false [] (by kernel_rfl) ?_
                refine WD.pure [0, 1, 2, 3, 4, 5, 6, 7, 8, 9, 10, 11, 12, 13, 14, 15, 16, 17] (by kernel_rfl) trivial ?_
                simp only [pick, List.toList_toArray, List.map_cons, List.map_nil, List.getD_cons_succ, List.getD_cons_zero]
                repeat (first | go_big_quiet_step (fail))
                refine wpQuiet_nil ?_
                refine WD.free [19, 20] (by kernel_rfl) trivial ?_
                simp only [pick, List.toList_toArray, List.map_cons, List.map_nil, List.getD_cons_succ, List.getD_cons_zero]
                repeat (first | go_big_quiet_step (fail))
                refine wpQuiet_nil ?_
                refine WD.eff 18 (by kernel_rfl) ?_
                simp only [pick, List.toList_toArray, List.map_cons, List.map_nil, List.getD_cons_succ, List.getD_cons_zero]
                go_wp2_with (go_at_call 54; refine hn1.mono ?_; rintro e w5 ⟨rfl, hw⟩; subst hw)
                try refine wpList_nil ?_
                refine AfterD.on trivial (by kernel_rfl) ?_
                try simp only [World.size_alloc, World.size_drew, Act.put, List.setIfInBounds_toArray, List.set_cons_succ, List.set_cons_zero]
                refine WD.eff 21 (by kernel_rfl) ?_
                simp only [pick, List.toList_toArray, List.map_cons, List.map_nil, List.getD_cons_succ, List.getD_cons_zero]
                go_wp2_with (go_at_call 54; refine hn2.mono ?_; rintro e w5 ⟨rfl, hw⟩; subst hw)
                try refine wpList_nil ?_
                refine AfterD.on trivial (by kernel_rfl) ?_
                try simp only [World.size_alloc, World.size_drew, Act.put, List.setIfInBounds_toArray, List.set_cons_succ, List.set_cons_zero]
                refine WD.pure [22, 23] (by kernel_rfl) trivial ?_
                simp only [pick, List.toList_toArray, List.map_cons, List.map_nil, List.getD_cons_succ, List.getD_cons_zero]
                repeat (first | go_big_quiet_step (fail))
                refine wpQuiet_nil ?_
                refine WD.done (by kernel_rfl) ?_
                go_wp2_with fail
                go_roundw
                case rel => exact ⟨m + 1, by omega, by go_num, by rw [List.take_succ_eq_append_getElem hmx, List.take_succ_eq_append_getElem hmy, HT.out.1, HX.out.1, HX.out.2], by rw [List.take_succ_eq_append_getElem (by rw [nowL_len]; exact hmx), List.take_succ_eq_append_getElem (by rw [nowL_len]; exact hmy), HT.out.2, HNG.out.1, HNG.out.2], f.drew⟩
                case measure => simp [intOf]; omega
              · have hs : sameX X Y = false := by
                  have e : nowL X ≠ nowL Y := fun e => by
                    have h1 := HNG.out.1
                    have h2 := HNG.out.2
                    have e2 : (nowL X)[m]? = (nowL Y)[m]? := by rw [e]
                    rw [List.getElem?_eq_getElem (by rw [nowL_len]; exact hmx), List.getElem?_eq_getElem (by rw [nowL_len]; exact hmy), h1, h2] at e2
                    exact hnn (ByteArray.ext (Array.toList_inj.1 (Option.some.inj e2)))
                  unfold sameX
                  simp [e]
                have HSS := hid hs
                subst hkk
                clear hs HNG HN HN' HC HC' HS
                have hnb : (nx.toList == ny.toList) = false := by rw [beqS]; exact decide_eq_false hnn
                go_wp2_with fail
                refine wp_region_D (fun _ => True) false [] (by kernel_rfl) ?_
                refine WD.pure [0, 1, 2, 3, 4, 5, 6, 7, 8, 9, 10, 11, 12, 13, 14, 15, 16, 17] (by kernel_rfl) trivial ?_
                simp only [pick, List.toList_toArray, List.map_cons, List.map_nil, List.getD_cons_succ, List.getD_cons_zero]
                repeat (first | go_big_quiet_step (fail))
                refine wpQuiet_nil ?_
                refine WD.free [19, 20] (by kernel_rfl) trivial ?_
                simp only [pick, List.toList_toArray, List.map_cons, List.map_nil, List.getD_cons_succ, List.getD_cons_zero]
                repeat (first | go_big_quiet_step (fail))
                refine wpQuiet_nil ?_
                refine WD.eff 18 (by kernel_rfl) ?_
                simp only [pick, List.toList_toArray, List.map_cons, List.map_nil, List.getD_cons_succ, List.getD_cons_zero]
                go_wp2_with (go_at_call 54; refine hn1.mono ?_; rintro e w5 ⟨rfl, hw⟩; subst hw)
                try refine wpList_nil ?_
                refine AfterD.on trivial (by kernel_rfl) ?_
                try simp only [World.size_alloc, World.size_drew, Act.put, List.setIfInBounds_toArray, List.set_cons_succ, List.set_cons_zero]
                refine WD.eff 21 (by kernel_rfl) ?_
                simp only [pick, List.toList_toArray, List.map_cons, List.map_nil, List.getD_cons_succ, List.getD_cons_zero]
                go_wp2_with (go_at_call 54; refine hn2.mono ?_; rintro e w5 ⟨rfl, hw⟩; subst hw)
                try refine wpList_nil ?_
                refine AfterD.on trivial (by kernel_rfl) ?_
                try simp only [World.size_alloc, World.size_drew, Act.put, List.setIfInBounds_toArray, List.set_cons_succ, List.set_cons_zero]
                refine WD.pure [22, 23] (by kernel_rfl) trivial ?_
                simp only [pick, List.toList_toArray, List.map_cons, List.map_nil, List.getD_cons_succ, List.getD_cons_zero]
                repeat (first | go_big_quiet_step (fail))
                refine wpQuiet_nil ?_
                refine WD.done (by kernel_rfl) ?_
                go_wp2_with fail
                go_ret
                rw [HSS.out]
                exact ⟨rfl, f.drew⟩
            · have hs : sameX X Y = false := by
                have e : X.Kept.map (·.data.toList) ≠ Y.Kept.map (·.data.toList) := fun e => by
                  have h1 := HX.out.1
                  have h2 := HX.out.2
                  have e2 : (X.Kept.map (·.data.toList))[m]? = (Y.Kept.map (·.data.toList))[m]? := by rw [e]
                  rw [List.getElem?_map, List.getElem?_map, List.getElem?_eq_getElem hmx, List.getElem?_eq_getElem hmy, h1, h2] at e2
                  exact hkk (ByteArray.ext (Array.toList_inj.1 (Option.some.inj e2)))
                unfold sameX
                simp [e]
              have HSS := hid hs
              clear hs HNG HN HN' HC HC' HS
              have hkb : (kx.toList == ky.toList) = false := by rw [beqS]; exact decide_eq_false hkk
              go_wp2_with fail
              refine wp_region_D (fun _ => True) false [] (by kernel_rfl) ?_
              refine WD.pure [0, 1, 2, 3, 4, 5, 6, 7, 8, 9, 10, 11, 12, 13, 14, 15, 16, 17] (by kernel_rfl) trivial ?_
              simp only [pick, List.toList_toArray, List.map_cons, List.map_nil, List.getD_cons_succ, List.getD_cons_zero]
              repeat (first | go_big_quiet_step (fail))
              refine wpQuiet_nil ?_
              refine WD.free [19, 20] (by kernel_rfl) trivial ?_
              simp only [pick, List.toList_toArray, List.map_cons, List.map_nil, List.getD_cons_succ, List.getD_cons_zero]
              repeat (first | go_big_quiet_step (fail))
              refine wpQuiet_nil ?_
              refine WD.eff 18 (by kernel_rfl) ?_
              simp only [pick, List.toList_toArray, List.map_cons, List.map_nil, List.getD_cons_succ, List.getD_cons_zero]
              go_wp2_with fail
              try refine wpList_nil ?_
              refine AfterD.on trivial (by kernel_rfl) ?_
              try simp only [World.size_alloc, World.size_drew, Act.put, List.setIfInBounds_toArray, List.set_cons_succ, List.set_cons_zero]
              refine WD.eff 21 (by kernel_rfl) ?_
              simp only [pick, List.toList_toArray, List.map_cons, List.map_nil, List.getD_cons_succ, List.getD_cons_zero]
              go_wp2_with fail
              try refine wpList_nil ?_
              refine AfterD.on trivial (by kernel_rfl) ?_
              try simp only [World.size_alloc, World.size_drew, Act.put, List.setIfInBounds_toArray, List.set_cons_succ, List.set_cons_zero]
              refine WD.pure [22, 23] (by kernel_rfl) trivial ?_
              simp only [pick, List.toList_toArray, List.map_cons, List.map_nil, List.getD_cons_succ, List.getD_cons_zero]
              repeat (first | go_big_quiet_step (fail))
              refine wpQuiet_nil ?_
              refine WD.done (by kernel_rfl) ?_
              go_wp2_with fail
              go_ret
              rw [HSS.out]
              exact ⟨rfl, f.drew⟩
          · have hd : decide (m < n) = false := by simp; omega
            have hs : sameX X Y = true := by
              obtain rfl : m = n := by omega
              have e1 : X.Kept = Y.Kept := by rw [← List.take_length (l := X.Kept), ← List.take_length (l := Y.Kept), Hn.out, Hn'.out, hK]
              have e2 : nowL X = nowL Y := by rw [← List.take_length (l := nowL X), ← List.take_length (l := nowL Y), nowL_len, nowL_len, Hn.out, Hn'.out, hN]
              unfold sameX
              rw [e1, e2, HD.out.1, HD.out.2]
              simp
            have HSS := hid hs
            clear hs hK hN
            go_wp2_with fail
            go_ret
            rw [HSS.out]
            exact ⟨rfl, f⟩
      · go_enter Try.func29, Try.ntmps29
        go_wp2_with fail
        refine wp_region_D (fun _ => True) false [] (by kernel_rfl) ?_
        refine WD.pure [0, 1, 2, 3, 4, 5, 6, 7, 8, 9, 10, 11, 12, 13, 14, 15, 16, 17, 18, 19, 20, 21] (by kernel_rfl) trivial ?_
        simp only [pick, List.toList_toArray, List.map_cons, List.map_nil, List.getD_cons_succ, List.getD_cons_zero]
        repeat (first | go_big_quiet_step (fail) | (refine quiet_len_v (by rfl) _ _ rfl Try.underlying30 rfl ?_; simp only [World.size_alloc, World.size_drew, Act.put, List.setIfInBounds_toArray, List.set_cons_succ, List.set_cons_zero]))
        refine wpQuiet_nil ?_
        refine WD.done (by kernel_rfl) ?_
        go_wp2_with fail
        go_loopw [5] (fun jv wr => ∃ m : Nat, m ≤ n ∧ jv = .int .i64 (m : Int) ∧ X.Kept.take m = Y.Kept.take m ∧ (nowL X).take m = (nowL Y).take m ∧ Fr [] w wr) (fun jv _ => n - (intOf jv).toNat)
        case atStart => exact ⟨0, Nat.zero_le _, rfl, by simp, by simp, (Fr.refl _ _).drew⟩
        case round =>
          obtain ⟨m, hm, rfl, hK, hN, f⟩ := hrel
          have c3 := f.cell_some (show w.cell? ⟨x, 0, none⟩ = some (.slice (some ⟨kb, 0, none⟩) n kc) from k0)
          have c4 := f.cell_some (show w.cell? ⟨y, 0, none⟩ = some (.slice (some ⟨kb', 0, none⟩) n kc') from k0')
          by_cases hmn : m < n
          · have hd : decide (m < n) = true := by simp; omega
            have hmx : m < X.Kept.length := by rw [Hn.out]; exact hmn
            have hmy : m < Y.Kept.length := by rw [Hn'.out]; exact hmn
            have c1 := f.cell_some (HC.out m hmx)
            have c2 := f.cell_some (HC'.out m hmy)
            have hn1 := HN.out m hmx wr.drew f.drew
            have hn2 := HN'.out m hmy wr.drew f.drew
            have HNG := hid (And.intro (nowL_get X m hmx) (nowL_get Y m hmy))
            have HT := hid (And.intro hK hN)
            have HM := hid (And.intro hmx hmy)
            generalize hnx : nowX X.L m X.Kept[m] = nx at *
            generalize hny : nowX Y.L m Y.Kept[m] = ny at *
            generalize hkx : X.Kept[m] = kx at *
            generalize hky : Y.Kept[m] = ky at *
            have HX := hid (And.intro hkx hky)
            clear hnx hny hkx hky hK hN
            by_cases hkk : kx = ky
            · by_cases hnn : nx = ny
              · subst hkk
                subst hnn
                go_wp2_with fail
                refine wp_region_D (fun _ => True) false [] (by kernel_rfl) ?_
                refine WD.pure [0, 1, 2, 3, 4, 5, 6, 7, 8, 9, 10, 11, 12, 13, 14, 15, 16, 17] (by kernel_rfl) trivial ?_
                simp only [pick, List.toList_toArray, List.map_cons, List.map_nil, List.getD_cons_succ, List.getD_cons_zero]
                repeat (first | go_big_quiet_step (fail))
                refine wpQuiet_nil ?_
                refine WD.free [19, 20] (by kernel_rfl) trivial ?_
                simp only [pick, List.toList_toArray, List.map_cons, List.map_nil, List.getD_cons_succ, List.getD_cons_zero]
                repeat (first | go_big_quiet_step (fail))
                refine wpQuiet_nil ?_
                refine WD.eff 18 (by kernel_rfl) ?_
                simp only [pick, List.toList_toArray, List.map_cons, List.map_nil, List.getD_cons_succ, List.getD_cons_zero]
                go_wp2_with (go_at_call 54; refine hn1.mono ?_; rintro e w5 ⟨rfl, hw⟩; subst hw)
                try refine wpList_nil ?_
                refine AfterD.on trivial (by kernel_rfl) ?_
                try simp only [World.size_alloc, World.size_drew, Act.put, List.setIfInBounds_toArray, List.set_cons_succ, List.set_cons_zero]
                refine WD.eff 21 (by kernel_rfl) ?_
                simp only [pick, List.toList_toArray, List.map_cons, List.map_nil, List.getD_cons_succ, List.getD_cons_zero]
                go_wp2_with (go_at_call 54; refine hn2.mono ?_; rintro e w5 ⟨rfl, hw⟩; subst hw)
                try refine wpList_nil ?_
                refine AfterD.on trivial (by kernel_rfl) ?_
                try simp only [World.size_alloc, World.size_drew, Act.put, List.setIfInBounds_toArray, List.set_cons_succ, List.set_cons_zero]
                refine WD.pure [22, 23] (by kernel_rfl) trivial ?_
                simp only [pick, List.toList_toArray, List.map_cons, List.map_nil, List.getD_cons_succ, List.getD_cons_zero]
                repeat (first | go_big_quiet_step (fail))
                refine wpQuiet_nil ?_
                refine WD.done (by kernel_rfl) ?_
                go_wp2_with fail
                go_roundw
                case rel => exact ⟨m + 1, by omega, by go_num, by rw [List.take_succ_eq_append_getElem hmx, List.take_succ_eq_append_getElem hmy, HT.out.1, HX.out.1, HX.out.2], by rw [List.take_succ_eq_append_getElem (by rw [nowL_len]; exact hmx), List.take_succ_eq_append_getElem (by rw [nowL_len]; exact hmy), HT.out.2, HNG.out.1, HNG.out.2], f.drew⟩
                case measure => simp [intOf]; omega
              · have hs : sameX X Y = false := by
                  have e : nowL X ≠ nowL Y := fun e => by
                    have h1 := HNG.out.1
                    have h2 := HNG.out.2
                    have e2 : (nowL X)[m]? = (nowL Y)[m]? := by rw [e]
                    rw [List.getElem?_eq_getElem (by rw [nowL_len]; exact hmx), List.getElem?_eq_getElem (by rw [nowL_len]; exact hmy), h1, h2] at e2
                    exact hnn (ByteArray.ext (Array.toList_inj.1 (Option.some.inj e2)))
                  unfold sameX
                  simp [e]
                have HSS := hid hs
                subst hkk
                clear hs HNG HN HN' HC HC' HS
                have hnb : (nx.toList == ny.toList) = false := by rw [beqS]; exact decide_eq_false hnn
                go_wp2_with fail
                refine wp_region_D (fun _ => True) false [] (by kernel_rfl) ?_
                refine WD.pure [0, 1, 2, 3, 4, 5, 6, 7, 8, 9, 10, 11, 12, 13, 14, 15, 16, 17] (by kernel_rfl) trivial ?_
                simp only [pick, List.toList_toArray, List.map_cons, List.map_nil, List.getD_cons_succ, List.getD_cons_zero]
                repeat (first | go_big_quiet_step (fail))
                refine wpQuiet_nil ?_
                refine WD.free [19, 20] (by kernel_rfl) trivial ?_
                simp only [pick, List.toList_toArray, List.map_cons, List.map_nil, List.getD_cons_succ, List.getD_cons_zero]
                repeat (first | go_big_quiet_step (fail))
                refine wpQuiet_nil ?_
                refine WD.eff 18 (by kernel_rfl) ?_
                simp only [pick, List.toList_toArray, List.map_cons, List.map_nil, List.getD_cons_succ, List.getD_cons_zero]
                go_wp2_with (go_at_call 54; refine hn1.mono ?_; rintro e w5 ⟨rfl, hw⟩; subst hw)
                try refine wpList_nil ?_
                refine AfterD.on trivial (by kernel_rfl) ?_
                try simp only [World.size_alloc, World.size_drew, Act.put, List.setIfInBounds_toArray, List.set_cons_succ, List.set_cons_zero]
                refine WD.eff 21 (by kernel_rfl) ?_
                simp only [pick, List.toList_toArray, List.map_cons, List.map_nil, List.getD_cons_succ, List.getD_cons_zero]
                go_wp2_with (go_at_call 54; refine hn2.mono ?_; rintro e w5 ⟨rfl, hw⟩; subst hw)
                try refine wpList_nil ?_
                refine AfterD.on trivial (by kernel_rfl) ?_
                try simp only [World.size_alloc, World.size_drew, Act.put, List.setIfInBounds_toArray, List.set_cons_succ, List.set_cons_zero]
                refine WD.pure [22, 23] (by kernel_rfl) trivial ?_
                simp only [pick, List.toList_toArray, List.map_cons, List.map_nil, List.getD_cons_succ, List.getD_cons_zero]
                repeat (first | go_big_quiet_step (fail))
                refine wpQuiet_nil ?_
                refine WD.done (by kernel_rfl) ?_
                go_wp2_with fail
                go_ret
                rw [HSS.out]
                exact ⟨rfl, f.drew⟩
            · have hs : sameX X Y = false := by
                have e : X.Kept.map (·.data.toList) ≠ Y.Kept.map (·.data.toList) := fun e => by
                  have h1 := HX.out.1
                  have h2 := HX.out.2
                  have e2 : (X.Kept.map (·.data.toList))[m]? = (Y.Kept.map (·.data.toList))[m]? := by rw [e]
                  rw [List.getElem?_map, List.getElem?_map, List.getElem?_eq_getElem hmx, List.getElem?_eq_getElem hmy, h1, h2] at e2
                  exact hkk (ByteArray.ext (Array.toList_inj.1 (Option.some.inj e2)))
                unfold sameX
                simp [e]
              have HSS := hid hs
              clear hs HNG HN HN' HC HC' HS
              have hkb : (kx.toList == ky.toList) = false := by rw [beqS]; exact decide_eq_false hkk
              go_wp2_with fail
              refine wp_region_D (fun _ => True) false [] (by kernel_rfl) ?_
              refine WD.pure [0, 1, 2, 3, 4, 5, 6, 7, 8, 9, 10, 11, 12, 13, 14, 15, 16, 17] (by kernel_rfl) trivial ?_
              simp only [pick, List.toList_toArray, List.map_cons, List.map_nil, List.getD_cons_succ, List.getD_cons_zero]
              repeat (first | go_big_quiet_step (fail))
              refine wpQuiet_nil ?_
              refine WD.free [19, 20] (by kernel_rfl) trivial ?_
              simp only [pick, List.toList_toArray, List.map_cons, List.map_nil, List.getD_cons_succ, List.getD_cons_zero]
              repeat (first | go_big_quiet_step (fail))
              refine wpQuiet_nil ?_
              refine WD.eff 18 (by kernel_rfl) ?_
              simp only [pick, List.toList_toArray, List.map_cons, List.map_nil, List.getD_cons_succ, List.getD_cons_zero]
              go_wp2_with fail
              try refine wpList_nil ?_
              refine AfterD.on trivial (by kernel_rfl) ?_
              try simp only [World.size_alloc, World.size_drew, Act.put, List.setIfInBounds_toArray, List.set_cons_succ, List.set_cons_zero]
              refine WD.eff 21 (by kernel_rfl) ?_
              simp only [pick, List.toList_toArray, List.map_cons, List.map_nil, List.getD_cons_succ, List.getD_cons_zero]
              go_wp2_with fail
              try refine wpList_nil ?_
              refine AfterD.on trivial (by kernel_rfl) ?_
              try simp only [World.size_alloc, World.size_drew, Act.put, List.setIfInBounds_toArray, List.set_cons_succ, List.set_cons_zero]
              refine WD.pure [22, 23] (by kernel_rfl) trivial ?_
              simp only [pick, List.toList_toArray, List.map_cons, List.map_nil, List.getD_cons_succ, List.getD_cons_zero]
              repeat (first | go_big_quiet_step (fail))
              refine wpQuiet_nil ?_
              refine WD.done (by kernel_rfl) ?_
              go_wp2_with fail
              go_ret
              rw [HSS.out]
              exact ⟨rfl, f.drew⟩
          · have hd : decide (m < n) = false := by simp; omega
            have hs : sameX X Y = true := by
              obtain rfl : m = n := by omega
              have e1 : X.Kept = Y.Kept := by rw [← List.take_length (l := X.Kept), ← List.take_length (l := Y.Kept), Hn.out, Hn'.out, hK]
              have e2 : nowL X = nowL Y := by rw [← List.take_length (l := nowL X), ← List.take_length (l := nowL Y), nowL_len, nowL_len, Hn.out, Hn'.out, hN]
              unfold sameX
              rw [e1, e2, HD.out.1, HD.out.2]
              simp
            have HSS := hid hs
            clear hs hK hN
            go_wp2_with fail
            go_ret
            rw [HSS.out]
            exact ⟨rfl, f⟩
    · have hs := HS.out (.inl (by rw [hdx, hdy]; exact hdd))
      clear hdx hdy
      cases dx <;> cases dy <;> try (exact absurd rfl hdd)
      all_goals skip

      all_goals
        rw [hs]
        clear hs
        go_enter Try.func29, Try.ntmps29
        go_wp2_with fail
        refine wp_region_D (fun _ => True) false [] (by kernel_rfl) ?_
        refine WD.pure [0, 1, 2, 3, 4, 5, 6, 7, 8, 9, 10, 11, 12, 13, 14, 15, 16, 17, 18, 19, 20, 21] (by kernel_rfl) trivial ?_
        simp only [pick, List.toList_toArray, List.map_cons, List.map_nil, List.getD_cons_succ, List.getD_cons_zero]
        repeat (first | go_big_quiet_step (fail) | (refine quiet_len_v (by rfl) _ _ rfl Try.underlying30 rfl ?_; simp only [World.size_alloc, World.size_drew, Act.put, List.setIfInBounds_toArray, List.set_cons_succ, List.set_cons_zero]))
        refine wpQuiet_nil ?_
        refine WD.done (by kernel_rfl) ?_
        go_wp2
        go_ret
        exact ⟨rfl, (Fr.refl _ _).drew⟩
  · have hs := HS.out (.inr hnn)
    have hd : ((n : Int) != (n' : Int)) = true := by simp; omega
    have hd2 : ((n : Int) == (n' : Int)) = false := by simp; omega
    rw [hs]
    clear hs
    cases hX : X.Dead <;> cases hY : Y.Dead <;> rw [hX] at k3 <;> rw [hY] at k3' <;> clear hX hY
    all_goals
      go_enter Try.func29, Try.ntmps29
      go_wp2_with fail
      refine wp_region_D (fun _ => True) false [] (by kernel_rfl) ?_
      refine WD.pure [0, 1, 2, 3, 4, 5, 6, 7, 8, 9, 10, 11, 12, 13, 14, 15, 16, 17, 18, 19, 20, 21] (by kernel_rfl) trivial ?_
      simp only [pick, List.toList_toArray, List.map_cons, List.map_nil, List.getD_cons_succ, List.getD_cons_zero]
      repeat (first | go_big_quiet_step (fail) | (refine quiet_len_v (by rfl) _ _ rfl Try.underlying30 rfl ?_; simp only [World.size_alloc, World.size_drew, Act.put, List.setIfInBounds_toArray, List.set_cons_succ, List.set_cons_zero]))
      refine wpQuiet_nil ?_
      refine WD.done (by kernel_rfl) ?_
      go_wp2
      go_ret
      exact ⟨rfl, (Fr.refl _ _).drew⟩
end Go.Proofs.Ytflapddkeeiieaa
