/- Layer 22: the records of what is held, one after the other. -/
import Derived.Test.YtneoagelcjfanaaGreatDoorChF
import Derived.RangeFuncSeq
namespace Go.Proofs.YtneoagelcjfanaaGreatDoor.chn
open Go Go.Xr Go.RowKit Go.Proofs.YtneoagelcjfanaaGreatDoor Go.Proofs.YtneoagelcjfanaaGreatDoor.rcd
set_option linter.unusedVariables false
set_option linter.unusedSimpArgs false
/-- How taking gives up. -/
def refV (c : Int) : Value := .iface 80 (.agg #[.int .i64 c])
/-- How long what lies in a cell is. -/
def cellSz (v : Option Value) : Nat := match v with | some (.string x) => x.size | _ => 0
/-- What the iterator leaves. -/
def recEnd (J : UInt64 → ByteArray → ByteArray → World → Prop) (Jp : UInt64 → ByteArray → ByteArray → World → Prop) (T : TK) (e : Ending) (W : World) : Prop :=
  (T.c = 0 ∧ (∃ v, e = .returned v) ∧ J T.no T.H T.out W) ∨ (T.c = 51 ∧ e = .panicked [{ v := refV 51, recovered := false }] ∧ J T.no T.H T.out W) ∨ (T.c = 7 ∧ e = .panicked [{ v := refV 7, recovered := false }] ∧ Jp T.no T.H T.out W)
theorem fault_any {w : World} {p pos : Nat} {c : Int} {s : ByteArray} (h : Blk w p (rdrL s pos c)) : Calls Tryz.prog 56 #[.pointer (some ⟨p, 0, none⟩)] w fun e w' => e = .returned (.int .i64 c) ∧ w' = w := by
  have k2 : w.cell? ⟨p, 2, none⟩ = some (.int .i64 c) := h.cell 2
  have k3 : w.cell? ⟨p, 3, none⟩ = some (.bool true) := h.cell 3
  clear h
  go_enter Tryz.func56, Tryz.ntmps56
  go_wp2_with fail
  go_ret
  exact ⟨rfl, rfl⟩
section
variable {w W : World} {cb s o xb : Nat} {K : CH}
set_option maxRecDepth 20000 in
set_option maxHeartbeats 4000000 in
theorem records_any (l : Nat) (J Jp : UInt64 → ByteArray → ByteArray → World → Prop) (J1 : UInt64 → ByteArray → ByteArray → ByteArray → World → Prop) (T : TK)
    (hblk : ∀ no H out A, J no H out A → Blk A cb (chL s o H false)) (hbox : ∀ no H out A, J no H out A → A.cell? ⟨xb, 0, none⟩ = some (.pointer (some ⟨cb, 0, none⟩)))
    (hfr : ∀ no H out A B, J no H out A → Fr [] A B → J no H out B)
    (hput : ∀ no H H' R out A B, J no H out A → Fr [cb] A B → Blk B cb (chL s o H' false) → H'.size + R.size ≤ H.size → J1 no H' R out B)
    (hsz : ∀ no H out A, J no H out A → H.size ≤ 1099511627776)
    (hy : ∀ no H' out R A, J1 no H' R out A → R.size ≤ 16424 → YieldAt Fence.wide 1 Tryz.prog l #[.string R] A fun e B =>
      if recOk K.ci K.mi K.li no R then e = .returned (.bool true) ∧ J (no + 1) H' (out ++ recT K.ci K.mi K.li R) B else e = .panicked [{ v := refV 7, recovered := false }] ∧ Jp no H' out B)
    (no : UInt64) (H out : ByteArray) (f : Nat) (hf : H.size < f) (hT : takeL K f no H out = T) (h0 : J no H out W) :
    Calls Tryz.prog 53 #[.func (.yield l) #[] #[], .pointer (some ⟨xb, 0, none⟩)] W fun e W' => recEnd J Jp T e W' := by
  have HB := hid hblk
  have HX := hid hbox
  have HF := hid hfr
  have HP := hid hput
  have HS := hid hsz
  have HY := hid hy
  clear hblk hbox hfr hput hsz hy
  go_enter Tryz.func53, Tryz.ntmps53
  go_wp2_with fail
  go_loopw [] (fun wr => ∃ (f : Nat) (no : UInt64) (H out : ByteArray), Hid (H.size < f ∧ takeL K f no H out = T) ∧ Hid (J no H out wr)) (fun wr => cellSz (wr.cell? ⟨cb, 2, none⟩))
  case atStart => exact ⟨f, no, H, out, hid ⟨hf, hT⟩, hid h0⟩
  case round =>
    obtain ⟨f, no, H, out, HT, HJ⟩ := hrel
    clear hf hT h0
    have x0 := HX.out _ _ _ _ HJ.out
    have c0 : wr.cell? ⟨cb, 2, none⟩ = some (.string H) := (HB.out _ _ _ _ HJ.out).cell 2
    obtain ⟨f, rfl⟩ : ∃ f', f = f' + 1 := ⟨f - 1, by have := HT.out.1; omega⟩
    have hms := HS.out _ _ _ _ HJ.out
    have hw := hid fun (hA : ¬ H.size < 4) => HT.out.2
    clear hw
    by_cases h4 : H.size < 4
    · have hTT : T = ⟨no, H, out, 0⟩ := by
        rw [← HT.out.2]
        show (if H.size < 4 then _ else _) = _
        rw [if_pos h4]
      go_wp2_with (first
        | (go_at_call 54; refine (rnew_any H).mono ?_; rintro e w1 ⟨rfl, b1, hlt1, f1⟩)
        | (go_at_call 55; refine (ru32_short H b1 h4).mono ?_; rintro e w2 ⟨rfl, b2, f2⟩)
        | (go_at_call 56; refine (fault_any b2).mono ?_; rintro e w2' ⟨rfl, hw⟩; subst hw))
      refine bodyPost_ret (results_none rfl _ _ _) rfl ?_
      have hJ2 := HF.out _ _ _ _ _ HJ.out (f1.trans f2 (fun x hx => by simp at hx; omega))
      rw [hTT]
      exact .inl ⟨rfl, ⟨_, rfl⟩, hJ2⟩
    · obtain ⟨n, hn⟩ : ∃ n, tellN H = n := ⟨_, rfl⟩
      have hnl : n < 4294967296 := by rw [← hn]; exact tellN_lt H
      have hcv : ∀ w0 : World, (convert 75 3 (W32 (UInt32.ofNat n))).run Tryz.prog w0 = .ok (.int .i64 (n : Int)) w0 := fun w0 => cv32_i w0 n hnl
      have hu := hid fun (w0 : World) (p : Nat) (h : Blk w0 p (rdrL H 0 0)) => ru32_any (w := w0) H h (by omega) (by omega)
      rw [hn] at hu
      have hwh := hid fun w0 : World => whole_any w0 n (by omega)
      have hstep : takeL K (f + 1) no H out = (if wholeB n = false then ⟨no, H, out, 51⟩ else if H.size < 4 + n then ⟨no, H, out, 0⟩ else if recOk K.ci K.mi K.li no (H.extract 4 (4 + n)) then takeL K f (no + 1) (H.extract (4 + n) H.size) (out ++ recT K.ci K.mi K.li (H.extract 4 (4 + n))) else ⟨no, H.extract (4 + n) H.size, out, 7⟩) := by
        show (if H.size < 4 then _ else _) = _
        rw [if_neg h4, hn]
      have HS2 := hid hstep
      clear hstep hn
      cases hwb : wholeB n with
      | false =>
        have hTT : T = ⟨no, H, out, 51⟩ := by
          rw [← HT.out.2, HS2.out, if_pos hwb]
        rw [hwb] at hwh
        go_wp2_with (first
          | (go_at_call 54; refine (rnew_any H).mono ?_; rintro e w1 ⟨rfl, b1, hlt1, f1⟩)
          | (go_at_call 55; refine (hu.out _ _ b1).mono ?_; rintro e w2 ⟨rfl, b2, f2⟩)
          | (go_at_call 56; refine (fault_any b2).mono ?_; rintro e w2' ⟨rfl, hw⟩; subst hw)
          | (go_at_call 57; refine (hwh.out _).mono ?_; rintro e w3 ⟨rfl, hw⟩; subst hw))
        have hJ2 := HF.out _ _ _ _ _ HJ.out (f1.trans f2 (fun x hx => by simp at hx; omega))
        refine ⟨rfl, ?_⟩
        rw [hTT]
        exact .inr (.inl ⟨rfl, rfl, hJ2⟩)
      | true =>
        rw [hwb] at hwh
        by_cases hlen : H.size < 4 + n
        · have hTT : T = ⟨no, H, out, 0⟩ := by
            rw [← HT.out.2, HS2.out, if_neg (by rw [hwb]; decide), if_pos hlen]
          have u1 : decide ((H.size : Int) < 4 + (n : Int)) = true := by simp; omega
          go_wp2_with (first
            | (go_at_call 54; refine (rnew_any H).mono ?_; rintro e w1 ⟨rfl, b1, hlt1, f1⟩)
            | (go_at_call 55; refine (hu.out _ _ b1).mono ?_; rintro e w2 ⟨rfl, b2, f2⟩)
            | (go_at_call 56; refine (fault_any b2).mono ?_; rintro e w2' ⟨rfl, hw⟩; subst hw)
            | (go_at_call 57; refine (hwh.out _).mono ?_; rintro e w3 ⟨rfl, hw⟩; subst hw; have hJ2 := HF.out _ _ _ _ _ HJ.out (f1.trans f2 (fun x hx => by simp at hx; omega)); have x2 := HX.out _ _ _ _ hJ2; have c2 : World.cell? _ ⟨cb, 2, none⟩ = some (.string H) := (HB.out _ _ _ _ hJ2).cell 2))
          refine bodyPost_ret (results_none rfl _ _ _) rfl ?_
          rw [hTT]
          exact .inl ⟨rfl, ⟨_, rfl⟩, hJ2⟩
        · have u1 : decide ((H.size : Int) < 4 + (n : Int)) = false := by simp; omega
          have hn16 := (wholeB_le hwb).2
          obtain ⟨k, hk⟩ : ∃ k, 4 + n = k := ⟨_, rfl⟩
          have hk2 : (4 : Int) + (n : Int) = (k : Int) := by omega
          have hkH : k ≤ H.size := by omega
          have u2 : decide (H.size < k) = false := by simp; omega
          have u3 : decide ((H.size : Int) < (k : Int)) = false := by simp; omega
          obtain ⟨R, hR⟩ : ∃ R, H.extract 4 k = R := ⟨_, rfl⟩
          obtain ⟨H2, hH2⟩ : ∃ H2, H.extract k H.size = H2 := ⟨_, rfl⟩
          have hRs : R.size ≤ 16424 := by rw [← hR, ByteArray.size_extract]; omega
          have HRk := hid (show R.size + 4 ≤ k by rw [← hR, ByteArray.size_extract]; omega)
          have hH2s : H2.size = H.size - k := by rw [← hH2, ByteArray.size_extract]; omega
          have hTT := hid (show T = if recOk K.ci K.mi K.li no R then takeL K f (no + 1) H2 (out ++ recT K.ci K.mi K.li R) else ⟨no, H2, out, 7⟩ by
            rw [← HT.out.2, HS2.out, if_neg (by rw [hwb]; decide), if_neg hlen, hk, hR, hH2])
          have HR := hid hR
          have HH2 := hid hH2
          have HRs := hid hRs
          have HH2s := hid hH2s
          have Hk := hid hk
          clear hR hH2 hRs hH2s hk
          go_wp2_with (first
            | (go_at_call 54; refine (rnew_any H).mono ?_; rintro e w1 ⟨rfl, b1, hlt1, f1⟩)
            | (go_at_call 55; refine (hu.out _ _ b1).mono ?_; rintro e w2 ⟨rfl, b2, f2⟩)
            | (go_at_call 56; refine (fault_any b2).mono ?_; rintro e w2' ⟨rfl, hw⟩; subst hw)
            | (go_at_call 57; refine (hwh.out _).mono ?_; rintro e w3 ⟨rfl, hw⟩; subst hw; have hJ2 := HF.out _ _ _ _ _ HJ.out (f1.trans f2 (fun x hx => by simp at hx; omega)); have HJ2 := hid hJ2; have x2 := HX.out _ _ _ _ hJ2; have c2 : World.cell? _ ⟨cb, 2, none⟩ = some (.string H) := (HB.out _ _ _ _ hJ2).cell 2; clear b1 f1 b2 f2 hlt1 hJ2 x0 c0 hu hwh))
          have JD := hid (HF.out _ _ _ _ _ HJ2.out ((Fr.refl [] w3).drew))
          have hs3 : w3.drew.cell? ⟨xb, 0, none⟩ = some (.pointer (some ⟨cb, 0, none⟩)) ∧ w3.drew.cell? ⟨cb, 2, none⟩ = some (.string H) := ⟨x2, c2⟩
          have hb3 : Blk w3.drew cb (chL s o H false) := HB.out _ _ _ _ JD.out
          rw [HR.out]
          clear x2 c2 HJ2
          refine wp_region_D (fun w' => w'.cell? ⟨xb, 0, none⟩ = some (.pointer (some ⟨cb, 0, none⟩)) ∧ w'.cell? ⟨cb, 2, none⟩ = some (.string H)) true [] (by kernel_rfl) ?_
          refine WD.pure [0, 1, 2, 3, 4, 5, 6, 7, 8, 9] (by kernel_rfl) hs3 ?_
          simp only [pick, List.toList_toArray, List.map_cons, List.map_nil, List.getD_cons_succ, List.getD_cons_zero]
          repeat (first | (refine quiet_load_1R (by rfl) _ _ rfl rfl (.pointer (some ⟨cb, 0, none⟩)) (fun w0 h => h.1) _ Tryz.underlying26 rfl ?_; simp only [World.size_alloc, World.size_drew, Act.put, List.setIfInBounds_toArray, List.set_cons_succ, List.set_cons_zero]) | (refine quiet_load_1R (by rfl) _ _ rfl rfl (.string H) (fun w0 h => h.2) _ Tryz.underlying9 rfl ?_; simp only [World.size_alloc, World.size_drew, Act.put, List.setIfInBounds_toArray, List.set_cons_succ, List.set_cons_zero]) | go_big_quiet_step (fail))
          refine wpQuiet_nil ?_
          refine WD.eff 10 (by kernel_rfl) ?_
          simp only [pick, List.toList_toArray, List.map_cons, List.map_nil, List.getD_cons_succ, List.getD_cons_zero]
          go_wp2_with (refine wpList_put rfl _ _ _ rfl rfl (.string H2) (by rw [← HH2.out]; rfl) rfl hb3 (by simp [chL]) (by kernel_rfl) ?_; intro w4 f4 b4 hs4; have J4 := hid (HP.out _ _ H2 R _ _ _ JD.out f4 b4 (by have := HRk.out; rw [HH2s.out]; omega)); simp only [World.size_alloc, World.size_drew, Act.put, List.setIfInBounds_toArray, List.set_cons_succ, List.set_cons_zero])
          try refine wpList_nil ?_
          refine AfterD.end rfl (by kernel_rfl) ?_
          try simp only [World.size_alloc, World.size_drew, Act.put, List.setIfInBounds_toArray, List.set_cons_succ, List.set_cons_zero]
          refine WD.done (by kernel_rfl) ?_
          rename_i hnext
          refine hnext _ _ ((wpIn_wide (n := 2)).1 ?_)
          clear hnext
          obtain ⟨fn, tmps, assign, body, hyl, hRd⟩ := HY.out no H2 out R w4 J4.out HRs.out
          gi_wp2
          refine hRd.mono ?_
          rintro e W2 hif
          have HD := hid (show H2.size < f by have := HT.out.1; have := HH2s.out; have := Hk.out; omega)
          have HH2d := hid (show H2.size < H.size by have := HH2s.out; have := Hk.out; omega)
          cases hok : recOk K.ci K.mi K.li no R with
          | false =>
            rw [hok, if_neg (by decide)] at hif
            obtain ⟨rfl, hjp⟩ := hif
            refine ⟨rfl, ?_⟩
            rw [hTT.out, if_neg (by rw [hok]; decide)]
            exact .inr (.inr ⟨rfl, rfl, hjp⟩)
          | true =>
            rw [hok, if_pos rfl] at hif
            obtain ⟨rfl, hj5⟩ := hif
            have J5 := hid hj5
            have HT5 := hid (show takeL K f (no + 1) H2 (out ++ recT K.ci K.mi K.li R) = T by rw [hTT.out, if_pos hok])
            have cw := hid (show wr.cell? ⟨cb, 2, none⟩ = some (.string H) from (HB.out _ _ _ _ HJ.out).cell 2)
            clear hyl hRd hj5 J4 f4 b4 hb3 hs3 JD HJ
            gi_wp2
            refine ⟨⟨f, no + 1, H2, _, hid ⟨HD.out, HT5.out⟩, J5⟩, ?_⟩
            have e1 : W2.cell? ⟨cb, 2, none⟩ = some (.string H2) := (HB.out _ _ _ _ J5.out).cell 2
            rw [e1, cw.out]
            exact HH2d.out
end
end Go.Proofs.YtneoagelcjfanaaGreatDoor.chn
