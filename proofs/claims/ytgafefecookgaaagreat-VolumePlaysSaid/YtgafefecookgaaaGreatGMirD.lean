/- Several texts put together: MirX, MirY, MirZ, MirAa, MirAb, MirAc, MirAd. What each shows stands ahead of it. -/
import Derived.Test.YtgafefecookgaaaGreatGMirC
import Derived.Test.YtgafefecookgaaaGreatGMirB
open Go.World renaming size_alloc → aA,size_drew → aB
open List renaming setIfInBounds_toArray → aC,set_cons_succ → aD,set_cons_zero → aE,toList_toArray → aF,map_cons → aG,map_nil → aI,getD_cons_succ → aJ,getD_cons_zero → aK
set_option linter.unusedVariables false
set_option linter.unusedSimpArgs false
set_option maxRecDepth 20000
set_option maxHeartbeats 16000000
namespace Go.Proofs.YtgafefecookgaaaGreat
open Go Go.Xr Go.RowKit
section
variable {w w' w0 : World} {l rs : List Res} {pbs : List Nat} {m : Nat} {s : Sys} {M M' : MS} {d : Bool → Nat} {FF FF' : Bool → List Nat}
theorem mresync_main (f : Bool) (h : Held w (l ++ mirC pbs m d FF M)) (ok : SysOk M.s) (ht : M.s.T + 2 * M.s.len f < 998800) (hf : M.c0 = !f) (hc : M.c f = true) (hd : (M.s.X (!f)).Dead = false) :
 Calls Tryz.prog 74 #[.pointer (some ⟨m,0,none⟩)] w fun e w' => e = .returned (.tuple #[.int .i64 ((M.rsF f).2.1 : Int),.int .i64 (M.rsF f).2.2]) ∧ ∃ FF',Ev w (l ++ mirC pbs m d FF M) w' (l ++ mirC pbs m d FF' (M.rsF f).1):=by
 have HH:=hid h
 have hb:=mir_blk h
 have hF:=hid (mleft_any h)
 have ha : M.leftC = 0:=by
  unfold MS.leftC MS.any
  cases f
  · rw [show M.c0 = true from hc];rfl
  · rw [show M.c1 = true from hc];cases M.c0 <;> rfl
 rw [ha] at hF
 have k0 : w.cell? ⟨m,0,none⟩ = some (.pointer (some ⟨d false,0,none⟩)):=hb.cell 0
 have k1 : w.cell? ⟨m,1,none⟩ = some (.pointer (some ⟨d true,0,none⟩)):=hb.cell 1
 have k2 : w.cell? ⟨m,2,none⟩ = some (.bool M.c0):=hb.cell 2
 have HS:=hid (show (w.drew.cell? ⟨m,0,none⟩ = some (.pointer (some ⟨d false,0,none⟩))) ∧ (w.drew.cell? ⟨m,1,none⟩ = some (.pointer (some ⟨d true,0,none⟩))) from ⟨k0,k1⟩)
 have E0:=hid (show Ev w (l ++ mirC pbs m d FF M) w.drew (l ++ mirC pbs m d FF M) from (Ev.refl h).step (Fr.refl [] w).drew)
 have hD:=hid (sDead (!f) (mir_sys E0.out.held) ok)
 rw [hd] at hD
 have hRS : M.rsF f = M.rsMain f (RS.run f (M.s.len f - 1) 1 ⟨M.s,0⟩):=by unfold MS.rsF;rw [if_neg (by rw [hd];decide)]
 rw [hRS]
 have OK:=hid ok
 have HT:=hid ht
 have HLp:=hid (len_pos ok f)
 obtain ⟨L,hL⟩ : ∃ L,M.s.len f = L:=⟨_,rfl⟩
 rw [hL] at HT HLp ⊢
 have HL:=hid hL
 have HF:=hid hf
 have HC:=hid hc
 have HA:=hid ha
 clear h hb ok ht hd ha hL hRS hc
 cases f with
 | false =>
   have e0 : M.c0 = true:=hf
   rw [e0] at k2
   clear e0 hf
   go_enter Tryz.func74,Tryz.ntmps74
   go_wp2_with (go_at_call 105;refine hF.out.mono ?_;rintro e w5 ⟨rfl,hw⟩;subst hw)
   refine wp_region_D (fun w' => w'.cell? ⟨m,0,none⟩ = some (.pointer (some ⟨d false,0,none⟩)) ∧ w'.cell? ⟨m,1,none⟩ = some (.pointer (some ⟨d true,0,none⟩))) false [] (by kernel_rfl) ?_
   refine WD.pure [0,1,2,3,4,5,6,7,8,9,10,11,12,13,14] (by kernel_rfl) HS.out ?_
   simp only [pick,aF,aG,aI,aJ,aK]
   repeat (first | (refine quiet_load_1R (by rfl) _ _ rfl rfl (.pointer (some ⟨d false,0,none⟩)) (fun w0 h => h.1) _ Tryz.underlying37 rfl ?_;simp only [aA,aB,Act.put,aC,aD,aE]) | (refine quiet_load_1R (by rfl) _ _ rfl rfl (.pointer (some ⟨d true,0,none⟩)) (fun w0 h => h.2) _ Tryz.underlying37 rfl ?_;simp only [aA,aB,Act.put,aC,aD,aE]) | go_big_quiet_step (fail))
   refine wpQuiet_nil ?_
   refine WD.done (by kernel_rfl) ?_
   go_wp2_with (go_at_call 16;refine hD.out.mono ?_;rintro e w6 ⟨rfl,hw⟩;subst hw)
   clear k0 k1 k2 HS hD hF
   go_loopw [9,8] (fun iv nv wr => ∃ (i k : Nat) (r : RS) (FF' : Bool → List Nat),iv = .int .i64 (i : Int) ∧ nv = .int .i64 (r.n : Int) ∧ 1 ≤ i ∧ Hid (i + k = L) ∧ Hid (RS.run false (L - 1) 1 ⟨M.s,0⟩ = RS.run false k i r) ∧ Hid (SysOk r.s) ∧ Hid (r.s.T + 2 * k < 998850) ∧ r.n ≤ i ∧ Hid (r.s.len false = L) ∧ Hid (Ev w5 (l ++ mirC pbs m d FF M) wr (l ++ mirC pbs m d FF' { M with s:=r.s }))) (fun iv _ _ => L - (intOf iv).toNat)
   case atStart => exact ⟨1,L - 1,⟨M.s,0⟩,FF,rfl,rfl,Nat.le_refl _,hid (by have:=HLp.out;omega),hid rfl,OK,hid (by have:=HT.out;show M.s.T + 2 * (L - 1) < 998850;omega),Nat.zero_le _,HL,E0⟩
   case round =>
    obtain ⟨i,k,r,FF1,rfl,rfl,h1,Hik,Hrun,OKr,Tr,hn,Hlr,EV⟩:=hrel
    have hLe:=HLp.out.2
    have hik:=Hik.out
    have hlen:=hid (sLen false (mir_sys EV.out.held) OKr.out)
    rw [show (MS.mk r.s M.c0 M.c1 M.g).s.len false = r.s.len false from rfl,Hlr.out] at hlen
    cases k with
    | zero =>
      have hd : decide ((i : Int) < (L : Int)) = false:=by simp;omega
      have hdn : decide (i < L) = false:=by simp;omega
      have hadd : ∀ t,binOp .add t (W64 M.g) (.int .u64 1) = pure (W64 (M.g + 1)):=fun t => add_u64 t M.g 1
      have HM:=hid (show M.rsMain false (RS.run false (L - 1) 1 ⟨M.s,0⟩) = ((MS.rsEnd ⟨r.s,M.c0,M.c1,M.g⟩ false).1,r.n,(MS.rsEnd ⟨r.s,M.c0,M.c1,M.g⟩ false).2) by rw [Hrun.out];rfl)
      have HE : Hid (MS.rsEnd ⟨r.s,M.c0,M.c1,M.g⟩ false = if (r.s.fl true).wrC false 0 (supS (M.g + 1) ((r.s.fl true).len false)) = 0 then (⟨((((r.s.fl true).wr false 0 (supS (M.g + 1) ((r.s.fl true).len false))).wr true 0 (supS (M.g + 1) ((r.s.fl true).len false))).fl false).fl true,true,true,M.g + 1⟩,0) else (MS.lose ⟨(r.s.fl true).wr false 0 (supS (M.g + 1) ((r.s.fl true).len false)),M.c0,M.c1,M.g + 1⟩ false,(MS.lose ⟨(r.s.fl true).wr false 0 (supS (M.g + 1) ((r.s.fl true).len false)),M.c0,M.c1,M.g + 1⟩ false).leftC)):=hid rfl
      have OK2:=hid ((fl_stp r.s true).ok OKr.out)
      have T2 : Hid ((r.s.fl true).T < 998900):=hid (by have:=(fl_stp r.s true).T OKr.out;have:=Tr.out;omega)
      have hf1:=hid (mF true EV.out.held OKr.out (by have:=Tr.out;show r.s.T < 1000000;omega))
      rw [show (MS.mk r.s M.c0 M.c1 M.g).s = r.s from rfl] at hf1
      generalize r.s.fl true = S2 at *
      have HL2:=hid fun (w1 : World) (FF2 : Bool → List Nat) (h1 : Held w1 (l ++ mirC pbs m d FF2 ⟨S2,M.c0,M.c1,M.g + 1⟩)) => sLen false (mir_sys h1) OK2.out
      have HU:=hid fun w1 : World => super_any (w:=w1) (M.g + 1) (S2.len false) (slen_le OK2.out false)
      have HW2:=hid fun (w1 : World) (FF2 : Bool → List Nat) (h1 : Held w1 (l ++ mirC pbs m d FF2 ⟨S2,M.c0,M.c1,M.g + 1⟩)) => mW false h1 OK2.out (Nat.lt_of_lt_of_le T2.out (by decide)) 0 (by decide) (by decide) (supS (M.g + 1) (S2.len false)) (by rw [supS_size];decide)
      have OK3:=hid ((wr_stp S2 false 0 (supS (M.g + 1) (S2.len false))).ok OK2.out)
      have T3 : Hid ((S2.wr false 0 (supS (M.g + 1) (S2.len false))).T < 998910):=hid (by have:=(wr_stp S2 false 0 (supS (M.g + 1) (S2.len false))).T OK2.out;have:=T2.out;omega)
      have hsz:=supS_size (M.g + 1) (S2.len false)
      generalize supS (M.g + 1) (S2.len false) = Z at *
      generalize S2.len false = n2 at *
      have HC4 : Hid (∀ (w1 : World) (FF2 : Bool → List Nat) (S : Sys),Held w1 (l ++ mirC pbs m d FF2 ⟨S,M.c0,M.c1,M.g + 1⟩) → w1.cell? ⟨m,4,none⟩ = some (W64 (M.g + 1))):=hid fun w1 FF2 S h1 => (mir_blk h1).cell 4
      clear hik Hlr Hrun
      go_wp2_with (first
       | (go_at_call 55;(with_reducible refine hlen.out.mono ?_);rintro e w6 ⟨rfl,hw⟩;subst hw)
       | (go_at_call 56;(with_reducible refine hf1.out.mono ?_);rintro e w7 ⟨rfl,FF7,v7⟩;have E7:=hid (EV.out.trans v7);have b7:=mir_blk E7.out.held;have k7 : w7.cell? ⟨m,4,none⟩ = some (W64 M.g):=b7.cell 4;clear v7)
       | (refine wpList_put rfl _ _ _ rfl rfl (W64 (M.g + 1)) rfl rfl b7 (by simp [mirL]) (by kernel_rfl) ?_;intro w8 f8 b8 hs8;have E8:=hid (mir_put (M':=⟨S2,M.c0,M.c1,M.g + 1⟩) E7.out f8 b8 rfl);clear b7 k7 b8;simp only [aA,aB,Act.put,aC,aD,aE]))
      have E9:=hid (show Ev w5 (l ++ mirC pbs m d FF M) w8.drew (l ++ mirC pbs m d FF7 ⟨S2,M.c0,M.c1,M.g + 1⟩) from E8.out.step (Fr.refl [] w8).drew)
      have hs9:=HC4.out w8.drew FF7 S2 E9.out.held
      have hl9:=hid (HL2.out _ _ E9.out.held)
      clear hf1 hlen HL2 hd hdn
      refine wp_region_D (fun w' => w'.cell? ⟨m,4,none⟩ = some (W64 (M.g + 1))) false [] (by kernel_rfl) ?_
      refine WD.pure [4] (by kernel_rfl) hs9 ?_
      simp only [pick,aF,aG,aI,aJ,aK]
      repeat (first | go_big_quiet_step (fail))
      refine wpQuiet_nil ?_
      refine WD.free [0,1,2] (by kernel_rfl) hs9 ?_
      simp only [pick,aF,aG,aI,aJ,aK]
      repeat (first | go_big_quiet_step (fail))
      refine wpQuiet_nil ?_
      refine WD.held [3] (by kernel_rfl) hs9 ?_
      simp only [pick,aF,aG,aI,aJ,aK]
      repeat (first | (refine quiet_load_1R (by rfl) _ _ rfl rfl (W64 (M.g + 1)) (fun w0 h => h) _ Tryz.underlying109 rfl ?_;simp only [aA,aB,Act.put,aC,aD,aE]) | go_big_quiet_step (fail))
      refine wpQuiet_nil ?_
      refine WD.eff 5 (by kernel_rfl) ?_
      simp only [pick,aF,aG,aI,aJ,aK]
      go_wp2_with (go_at_call 55;(with_reducible refine hl9.out.mono ?_);rintro e w10 ⟨rfl,hw⟩;subst hw)
      try refine wpList_nil ?_
      refine AfterD.on hs9 (by kernel_rfl) ?_
      try simp only [aA,aB,Act.put,aC,aD,aE]
      refine WD.eff 6 (by kernel_rfl) ?_
      simp only [pick,aF,aG,aI,aJ,aK]
      go_wp2_with (go_at_call 54;refine (HU.out _).mono ?_;rintro e w11 ⟨rfl,f11⟩)
      have E11:=hid (E9.out.step f11)
      have hs11:=HC4.out w11 FF7 S2 E11.out.held
      try refine wpList_nil ?_
      refine AfterD.on hs11 (by kernel_rfl) ?_
      try simp only [aA,aB,Act.put,aC,aD,aE]
      refine WD.pure [7] (by kernel_rfl) hs11 ?_
      simp only [pick,aF,aG,aI,aJ,aK]
      repeat (first | go_big_quiet_step (fail))
      refine wpQuiet_nil ?_
      refine WD.done (by kernel_rfl) ?_
      have hW2:=hid (HW2.out _ _ E11.out.held)
      clear HW2 HU hs9 hl9
      by_cases he : S2.wrC false 0 Z = 0
      · have HX:=hid (HM.out.trans (by rw [HE.out.trans (if_pos he)]))
        have OK4:=hid ((wr_stp (S2.wr false 0 Z) true 0 Z).ok OK3.out)
        have T4 : Hid (((S2.wr false 0 Z).wr true 0 Z).T < 998920):=hid (by have:=(wr_stp (S2.wr false 0 Z) true 0 Z).T OK3.out;have:=T3.out;omega)
        have OK5:=hid ((fl_stp ((S2.wr false 0 Z).wr true 0 Z) false).ok OK4.out)
        have T5 : Hid ((((S2.wr false 0 Z).wr true 0 Z).fl false).T < 998930):=hid (by have:=(fl_stp ((S2.wr false 0 Z).wr true 0 Z) false).T OK4.out;have:=T4.out;omega)
        have HW3:=hid fun (w1 : World) (FF2 : Bool → List Nat) (h1 : Held w1 (l ++ mirC pbs m d FF2 ⟨S2.wr false 0 Z,M.c0,M.c1,M.g + 1⟩)) => mW true h1 OK3.out (Nat.lt_of_lt_of_le T3.out (by decide)) 0 (by decide) (by decide) Z (by rw [hsz];decide)
        have HF4:=hid fun (w1 : World) (FF2 : Bool → List Nat) (h1 : Held w1 (l ++ mirC pbs m d FF2 ⟨(S2.wr false 0 Z).wr true 0 Z,M.c0,M.c1,M.g + 1⟩)) => mF false h1 OK4.out (Nat.lt_of_lt_of_le T4.out (by decide))
        have HF5:=hid fun (w1 : World) (FF2 : Bool → List Nat) (h1 : Held w1 (l ++ mirC pbs m d FF2 ⟨((S2.wr false 0 Z).wr true 0 Z).fl false,M.c0,M.c1,M.g + 1⟩)) => mF true h1 OK5.out (Nat.lt_of_lt_of_le T5.out (by decide))
        rw [he] at hW2
        clear HE he HM hsz
        go_wp2_with (first
         | (go_at_call 53;(with_reducible refine hW2.out.mono ?_);rintro e w12 ⟨rfl,FF12,v12⟩;have E12:=hid (E11.out.trans v12);have hW3:=hid (HW3.out _ _ E12.out.held);clear hW2 v12)
         | (go_at_call 53;(with_reducible refine hW3.out.mono ?_);rintro e w13 ⟨rfl,FF13,v13⟩;have E13:=hid (E12.out.trans v13);have hF4:=hid (HF4.out _ _ E13.out.held);clear hW3 v13)
         | (go_at_call 56;(with_reducible refine hF4.out.mono ?_);rintro e w14 ⟨rfl,FF14,v14⟩;have E14:=hid (E13.out.trans v14);have hF5:=hid (HF5.out _ _ E14.out.held);clear hF4 v14)
         | (go_at_call 56;(with_reducible refine hF5.out.mono ?_);rintro e w15 ⟨rfl,FF15,v15⟩;have E15:=hid (E14.out.trans v15);have b15:=mir_blk E15.out.held;clear hF5 v15)
         | (refine wpList_store_ag rfl _ _ _ rfl rfl [.bool true,.bool true] rfl b15 boolsT rfl (by simp [mirL]) (by simp [Value.oneCell']) ?_;intro w16 f16 b16 hs16;have E16:=hid (mir_put (M':=⟨(((S2.wr false 0 Z).wr true 0 Z).fl false).fl true,true,true,M.g + 1⟩) E15.out f16 b16 rfl);clear b15 b16;simp only [aA,aB,Act.put,aC,aD,aE]))
        go_ret2
        rw [HX.out]
        exact ⟨rfl,FF15,E16.out⟩
      · have u0 : (S2.wrC false 0 Z != 0) = true:=by simpa using he
        have HX:=hid (HM.out.trans (by rw [HE.out.trans (if_neg he)]))
        have HLo:=hid fun (w1 : World) (FF2 : Bool → List Nat) (h1 : Held w1 (l ++ mirC pbs m d FF2 ⟨S2.wr false 0 Z,M.c0,M.c1,M.g + 1⟩)) => loseOk1 (l:=l) (pbs:=pbs) (m:=m) (d:=d) (B:=999000) (Nat.le_refl _) w1 false ⟨S2.wr false 0 Z,M.c0,M.c1,M.g + 1⟩ FF2 h1 OK3.out (Nat.lt_of_lt_of_le T3.out (by decide)) (fun h => by cases h)
        have HLf:=hid fun (w1 : World) (FF2 : Bool → List Nat) (h1 : Held w1 (l ++ mirC pbs m d FF2 (MS.lose ⟨S2.wr false 0 Z,M.c0,M.c1,M.g + 1⟩ false))) => mleft_any h1
        clear HE he HM
        generalize MS.lose ⟨S2.wr false 0 Z,M.c0,M.c1,M.g + 1⟩ false = ML at *
        generalize S2.wrC false 0 Z = c at *
        go_wp2_with (first
         | (go_at_call 53;(with_reducible refine hW2.out.mono ?_);rintro e w12 ⟨rfl,FF12,v12⟩;have E12:=hid (E11.out.trans v12);have hlo:=hid (HLo.out _ _ E12.out.held);clear hW2 v12)
         | (go_at_call 104;refine hlo.out.mono ?_;rintro e w13 ⟨rfl,FF13,v13⟩;have E13:=hid (E12.out.trans v13);have hlf:=hid (HLf.out _ _ E13.out.held);clear hlo v13)
         | (go_at_call 105;refine hlf.out.mono ?_;rintro e w14 ⟨rfl,hw⟩;subst hw))
        go_ret2
        rw [HX.out]
        exact ⟨rfl,FF13,E13.out⟩
    | succ k =>
      have hd : decide ((i : Int) < (L : Int)) = true:=by simp;omega
      have hdn : decide (i < L) = true:=by simp;omega
      have hR:=hid (sR false (mir_sys EV.out.held) OKr.out (i : Int) (by omega) (by omega))
      have hi4 : (i : Int) ≤ 16384:=by omega
      have hn4 : (r.n : Int) ≤ 16384:=by omega
      by_cases hz : r.s.rdC false i = 0
      · have hT:=hid (sR true (mir_sys EV.out.held) OKr.out (i : Int) (by omega) (by omega))
        have HRN:=hid (show RS.run false (L - 1) 1 ⟨M.s,0⟩ = RS.run false k (i + 1) (r.step false i) by rw [Hrun.out,RS.run,if_pos hz])
        have OK2:=hid ((step_stp r false i).ok OKr.out)
        have T2 : Hid ((r.step false i).s.T + 2 * k < 998850):=hid (by have:=(step_stp r false i).T OKr.out;have:=Tr.out;omega)
        have L2 : Hid ((r.step false i).s.len false = L):=hid (((step_stp r false i).len OKr.out false).trans Hlr.out)
        have hW:=hid (mW true EV.out.held OKr.out (by have:=Tr.out;show r.s.T < 1000000;omega) (i : Int) (by omega) (by omega) (r.s.rdS false i) (Nat.le_trans (Nat.le_of_eq (mt_rd_size (OKr.out.g false) _ _ hz)) (by decide)))
        have hst : RS.step r false i = if r.s.rdS false i = r.s.rdS true i then r else ⟨r.s.wr true i (r.s.rdS false i),r.n + 1⟩:=rfl
        rw [show (MS.mk r.s M.c0 M.c1 M.g).s = r.s from rfl] at hR hT hW
        rw [hz] at hR
        by_cases he : r.s.rdS false i = r.s.rdS true i
        · have hne : ((r.s.rdS false i).toList == (r.s.rdS true i).toList) = true:=by rw [mt_beq];exact decide_eq_true he
          rw [if_pos he] at hst
          rw [hst] at HRN OK2 T2 L2
          generalize r.s.rdS false i = S1 at *
          generalize r.s.rdS true i = S2 at *
          clear hW hz he hst hik
          go_wp2_with (first
           | (go_at_call 55;(with_reducible refine hlen.out.mono ?_);rintro e w6 ⟨rfl,hw⟩;subst hw)
           | (go_at_call 95;(with_reducible refine hR.out.mono ?_);rintro e w7 ⟨rfl,hw⟩;subst hw)
           | (go_at_call 95;(with_reducible refine hT.out.mono ?_);rintro e w7 ⟨rfl,hw⟩;subst hw))
          go_roundw
          case rel => exact ⟨i + 1,k,r,FF1,by go_num,rfl,by omega,hid (by have:=Hik.out;omega),HRN,OK2,T2,by omega,L2,EV⟩
          case measure => have:=Hik.out;simp [intOf];omega
        · have hne : ((r.s.rdS false i).toList == (r.s.rdS true i).toList) = false:=by rw [mt_beq];exact decide_eq_false he
          rw [if_neg he] at hst
          rw [hst] at HRN OK2 T2 L2
          generalize r.s.rdS false i = S1 at *
          generalize r.s.rdS true i = S2 at *
          clear hz he hst hik
          go_wp2_with (first
           | (go_at_call 55;(with_reducible refine hlen.out.mono ?_);rintro e w6 ⟨rfl,hw⟩;subst hw)
           | (go_at_call 95;(with_reducible refine hR.out.mono ?_);rintro e w7 ⟨rfl,hw⟩;subst hw)
           | (go_at_call 95;(with_reducible refine hT.out.mono ?_);rintro e w7 ⟨rfl,hw⟩;subst hw)
           | (go_at_call 53;(with_reducible refine hW.out.mono ?_);rintro e w8 ⟨rfl,FF8,v8⟩))
          go_roundw
          case rel => exact ⟨i + 1,k,_,FF8,by go_num,by go_num,by omega,hid (by have:=Hik.out;omega),HRN,OK2,T2,by show r.n + 1 ≤ i + 1;omega,L2,hid (EV.out.trans v8)⟩
          case measure => have:=Hik.out;simp [intOf];omega
      · have u0 : (r.s.rdC false i != 0) = true:=by simpa using hz
        have hlo:=hid (loseOk1 (l:=l) (pbs:=pbs) (m:=m) (d:=d) (B:=999000) (Nat.le_refl _) wr false ⟨r.s,M.c0,M.c1,M.g⟩ FF1 EV.out.held OKr.out (by have:=Tr.out;show r.s.T < 999000;omega) (fun h => by cases h))
        have HLf:=hid fun (w1 : World) (FF2 : Bool → List Nat) (h1 : Held w1 (l ++ mirC pbs m d FF2 (MS.lose ⟨r.s,M.c0,M.c1,M.g⟩ false))) => mleft_any h1
        have HM:=hid (show M.rsMain false (RS.run false (L - 1) 1 ⟨M.s,0⟩) = (MS.lose ⟨r.s,M.c0,M.c1,M.g⟩ false,r.n,(MS.lose ⟨r.s,M.c0,M.c1,M.g⟩ false).leftC) by rw [Hrun.out,RS.run,if_neg hz];rfl)
        rw [show (MS.mk r.s M.c0 M.c1 M.g).s = r.s from rfl] at hR
        generalize MS.lose ⟨r.s,M.c0,M.c1,M.g⟩ false = ML at *
        generalize r.s.rdC false i = c at *
        generalize r.s.rdS false i = S1 at *
        clear hz hik
        go_wp2_with (first
         | (go_at_call 55;(with_reducible refine hlen.out.mono ?_);rintro e w6 ⟨rfl,hw⟩;subst hw)
         | (go_at_call 95;(with_reducible refine hR.out.mono ?_);rintro e w7 ⟨rfl,hw⟩;subst hw)
         | (go_at_call 104;refine hlo.out.mono ?_;rintro e w8 ⟨rfl,FF8,v8⟩;have E8:=hid (EV.out.trans v8);have hlf:=HLf.out _ _ E8.out.held;clear HLf v8)
         | (go_at_call 105;refine hlf.mono ?_;rintro e w9 ⟨rfl,hw⟩;subst hw))
        go_ret2
        rw [HM.out]
        exact ⟨rfl,FF8,E8.out⟩
 | true =>
   have e0 : M.c0 = false:=hf
   rw [e0] at k2
   clear e0 hf
   go_enter Tryz.func74,Tryz.ntmps74
   go_wp2_with (go_at_call 105;refine hF.out.mono ?_;rintro e w5 ⟨rfl,hw⟩;subst hw)
   refine wp_region_D (fun w' => w'.cell? ⟨m,0,none⟩ = some (.pointer (some ⟨d false,0,none⟩)) ∧ w'.cell? ⟨m,1,none⟩ = some (.pointer (some ⟨d true,0,none⟩))) false [] (by kernel_rfl) ?_
   refine WD.pure [0,1,2,3,4,5,6,7,8,9,10,11,12,13,14] (by kernel_rfl) HS.out ?_
   simp only [pick,aF,aG,aI,aJ,aK]
   repeat (first | (refine quiet_load_1R (by rfl) _ _ rfl rfl (.pointer (some ⟨d false,0,none⟩)) (fun w0 h => h.1) _ Tryz.underlying37 rfl ?_;simp only [aA,aB,Act.put,aC,aD,aE]) | (refine quiet_load_1R (by rfl) _ _ rfl rfl (.pointer (some ⟨d true,0,none⟩)) (fun w0 h => h.2) _ Tryz.underlying37 rfl ?_;simp only [aA,aB,Act.put,aC,aD,aE]) | go_big_quiet_step (fail))
   refine wpQuiet_nil ?_
   refine WD.done (by kernel_rfl) ?_
   go_wp2_with (go_at_call 16;refine hD.out.mono ?_;rintro e w6 ⟨rfl,hw⟩;subst hw)
   clear k0 k1 k2 HS hD hF
   go_loopw [9,8] (fun iv nv wr => ∃ (i k : Nat) (r : RS) (FF' : Bool → List Nat),iv = .int .i64 (i : Int) ∧ nv = .int .i64 (r.n : Int) ∧ 1 ≤ i ∧ Hid (i + k = L) ∧ Hid (RS.run true (L - 1) 1 ⟨M.s,0⟩ = RS.run true k i r) ∧ Hid (SysOk r.s) ∧ Hid (r.s.T + 2 * k < 998850) ∧ r.n ≤ i ∧ Hid (r.s.len true = L) ∧ Hid (Ev w5 (l ++ mirC pbs m d FF M) wr (l ++ mirC pbs m d FF' { M with s:=r.s }))) (fun iv _ _ => L - (intOf iv).toNat)
   case atStart => exact ⟨1,L - 1,⟨M.s,0⟩,FF,rfl,rfl,Nat.le_refl _,hid (by have:=HLp.out;omega),hid rfl,OK,hid (by have:=HT.out;show M.s.T + 2 * (L - 1) < 998850;omega),Nat.zero_le _,HL,E0⟩
   case round =>
    obtain ⟨i,k,r,FF1,rfl,rfl,h1,Hik,Hrun,OKr,Tr,hn,Hlr,EV⟩:=hrel
    have hLe:=HLp.out.2
    have hik:=Hik.out
    have hlen:=hid (sLen true (mir_sys EV.out.held) OKr.out)
    rw [show (MS.mk r.s M.c0 M.c1 M.g).s.len true = r.s.len true from rfl,Hlr.out] at hlen
    cases k with
    | zero =>
      have hd : decide ((i : Int) < (L : Int)) = false:=by simp;omega
      have hdn : decide (i < L) = false:=by simp;omega
      have hadd : ∀ t,binOp .add t (W64 M.g) (.int .u64 1) = pure (W64 (M.g + 1)):=fun t => add_u64 t M.g 1
      have HM:=hid (show M.rsMain true (RS.run true (L - 1) 1 ⟨M.s,0⟩) = ((MS.rsEnd ⟨r.s,M.c0,M.c1,M.g⟩ true).1,r.n,(MS.rsEnd ⟨r.s,M.c0,M.c1,M.g⟩ true).2) by rw [Hrun.out];rfl)
      have HE : Hid (MS.rsEnd ⟨r.s,M.c0,M.c1,M.g⟩ true = if (r.s.fl false).wrC true 0 (supS (M.g + 1) ((r.s.fl false).len true)) = 0 then (⟨((((r.s.fl false).wr true 0 (supS (M.g + 1) ((r.s.fl false).len true))).wr false 0 (supS (M.g + 1) ((r.s.fl false).len true))).fl true).fl false,true,true,M.g + 1⟩,0) else (MS.lose ⟨(r.s.fl false).wr true 0 (supS (M.g + 1) ((r.s.fl false).len true)),M.c0,M.c1,M.g + 1⟩ true,(MS.lose ⟨(r.s.fl false).wr true 0 (supS (M.g + 1) ((r.s.fl false).len true)),M.c0,M.c1,M.g + 1⟩ true).leftC)):=hid rfl
      have OK2:=hid ((fl_stp r.s false).ok OKr.out)
      have T2 : Hid ((r.s.fl false).T < 998900):=hid (by have:=(fl_stp r.s false).T OKr.out;have:=Tr.out;omega)
      have hf1:=hid (mF false EV.out.held OKr.out (by have:=Tr.out;show r.s.T < 1000000;omega))
      rw [show (MS.mk r.s M.c0 M.c1 M.g).s = r.s from rfl] at hf1
      generalize r.s.fl false = S2 at *
      have HL2:=hid fun (w1 : World) (FF2 : Bool → List Nat) (h1 : Held w1 (l ++ mirC pbs m d FF2 ⟨S2,M.c0,M.c1,M.g + 1⟩)) => sLen true (mir_sys h1) OK2.out
      have HU:=hid fun w1 : World => super_any (w:=w1) (M.g + 1) (S2.len true) (slen_le OK2.out true)
      have HW2:=hid fun (w1 : World) (FF2 : Bool → List Nat) (h1 : Held w1 (l ++ mirC pbs m d FF2 ⟨S2,M.c0,M.c1,M.g + 1⟩)) => mW true h1 OK2.out (Nat.lt_of_lt_of_le T2.out (by decide)) 0 (by decide) (by decide) (supS (M.g + 1) (S2.len true)) (by rw [supS_size];decide)
      have OK3:=hid ((wr_stp S2 true 0 (supS (M.g + 1) (S2.len true))).ok OK2.out)
      have T3 : Hid ((S2.wr true 0 (supS (M.g + 1) (S2.len true))).T < 998910):=hid (by have:=(wr_stp S2 true 0 (supS (M.g + 1) (S2.len true))).T OK2.out;have:=T2.out;omega)
      have hsz:=supS_size (M.g + 1) (S2.len true)
      generalize supS (M.g + 1) (S2.len true) = Z at *
      generalize S2.len true = n2 at *
      have HC4 : Hid (∀ (w1 : World) (FF2 : Bool → List Nat) (S : Sys),Held w1 (l ++ mirC pbs m d FF2 ⟨S,M.c0,M.c1,M.g + 1⟩) → w1.cell? ⟨m,4,none⟩ = some (W64 (M.g + 1))):=hid fun w1 FF2 S h1 => (mir_blk h1).cell 4
      clear hik Hlr Hrun
      go_wp2_with (first
       | (go_at_call 55;(with_reducible refine hlen.out.mono ?_);rintro e w6 ⟨rfl,hw⟩;subst hw)
       | (go_at_call 56;(with_reducible refine hf1.out.mono ?_);rintro e w7 ⟨rfl,FF7,v7⟩;have E7:=hid (EV.out.trans v7);have b7:=mir_blk E7.out.held;have k7 : w7.cell? ⟨m,4,none⟩ = some (W64 M.g):=b7.cell 4;clear v7)
       | (refine wpList_put rfl _ _ _ rfl rfl (W64 (M.g + 1)) rfl rfl b7 (by simp [mirL]) (by kernel_rfl) ?_;intro w8 f8 b8 hs8;have E8:=hid (mir_put (M':=⟨S2,M.c0,M.c1,M.g + 1⟩) E7.out f8 b8 rfl);clear b7 k7 b8;simp only [aA,aB,Act.put,aC,aD,aE]))
      have E9:=hid (show Ev w5 (l ++ mirC pbs m d FF M) w8.drew (l ++ mirC pbs m d FF7 ⟨S2,M.c0,M.c1,M.g + 1⟩) from E8.out.step (Fr.refl [] w8).drew)
      have hs9:=HC4.out w8.drew FF7 S2 E9.out.held
      have hl9:=hid (HL2.out _ _ E9.out.held)
      clear hf1 hlen HL2 hd hdn
      refine wp_region_D (fun w' => w'.cell? ⟨m,4,none⟩ = some (W64 (M.g + 1))) false [] (by kernel_rfl) ?_
      refine WD.pure [4] (by kernel_rfl) hs9 ?_
      simp only [pick,aF,aG,aI,aJ,aK]
      repeat (first | go_big_quiet_step (fail))
      refine wpQuiet_nil ?_
      refine WD.free [0,1,2] (by kernel_rfl) hs9 ?_
      simp only [pick,aF,aG,aI,aJ,aK]
      repeat (first | go_big_quiet_step (fail))
      refine wpQuiet_nil ?_
      refine WD.held [3] (by kernel_rfl) hs9 ?_
      simp only [pick,aF,aG,aI,aJ,aK]
      repeat (first | (refine quiet_load_1R (by rfl) _ _ rfl rfl (W64 (M.g + 1)) (fun w0 h => h) _ Tryz.underlying109 rfl ?_;simp only [aA,aB,Act.put,aC,aD,aE]) | go_big_quiet_step (fail))
      refine wpQuiet_nil ?_
      refine WD.eff 5 (by kernel_rfl) ?_
      simp only [pick,aF,aG,aI,aJ,aK]
      go_wp2_with (go_at_call 55;(with_reducible refine hl9.out.mono ?_);rintro e w10 ⟨rfl,hw⟩;subst hw)
      try refine wpList_nil ?_
      refine AfterD.on hs9 (by kernel_rfl) ?_
      try simp only [aA,aB,Act.put,aC,aD,aE]
      refine WD.eff 6 (by kernel_rfl) ?_
      simp only [pick,aF,aG,aI,aJ,aK]
      go_wp2_with (go_at_call 54;refine (HU.out _).mono ?_;rintro e w11 ⟨rfl,f11⟩)
      have E11:=hid (E9.out.step f11)
      have hs11:=HC4.out w11 FF7 S2 E11.out.held
      try refine wpList_nil ?_
      refine AfterD.on hs11 (by kernel_rfl) ?_
      try simp only [aA,aB,Act.put,aC,aD,aE]
      refine WD.pure [7] (by kernel_rfl) hs11 ?_
      simp only [pick,aF,aG,aI,aJ,aK]
      repeat (first | go_big_quiet_step (fail))
      refine wpQuiet_nil ?_
      refine WD.done (by kernel_rfl) ?_
      have hW2:=hid (HW2.out _ _ E11.out.held)
      clear HW2 HU hs9 hl9
      by_cases he : S2.wrC true 0 Z = 0
      · have HX:=hid (HM.out.trans (by rw [HE.out.trans (if_pos he)]))
        have OK4:=hid ((wr_stp (S2.wr true 0 Z) false 0 Z).ok OK3.out)
        have T4 : Hid (((S2.wr true 0 Z).wr false 0 Z).T < 998920):=hid (by have:=(wr_stp (S2.wr true 0 Z) false 0 Z).T OK3.out;have:=T3.out;omega)
        have OK5:=hid ((fl_stp ((S2.wr true 0 Z).wr false 0 Z) true).ok OK4.out)
        have T5 : Hid ((((S2.wr true 0 Z).wr false 0 Z).fl true).T < 998930):=hid (by have:=(fl_stp ((S2.wr true 0 Z).wr false 0 Z) true).T OK4.out;have:=T4.out;omega)
        have HW3:=hid fun (w1 : World) (FF2 : Bool → List Nat) (h1 : Held w1 (l ++ mirC pbs m d FF2 ⟨S2.wr true 0 Z,M.c0,M.c1,M.g + 1⟩)) => mW false h1 OK3.out (Nat.lt_of_lt_of_le T3.out (by decide)) 0 (by decide) (by decide) Z (by rw [hsz];decide)
        have HF4:=hid fun (w1 : World) (FF2 : Bool → List Nat) (h1 : Held w1 (l ++ mirC pbs m d FF2 ⟨(S2.wr true 0 Z).wr false 0 Z,M.c0,M.c1,M.g + 1⟩)) => mF true h1 OK4.out (Nat.lt_of_lt_of_le T4.out (by decide))
        have HF5:=hid fun (w1 : World) (FF2 : Bool → List Nat) (h1 : Held w1 (l ++ mirC pbs m d FF2 ⟨((S2.wr true 0 Z).wr false 0 Z).fl true,M.c0,M.c1,M.g + 1⟩)) => mF false h1 OK5.out (Nat.lt_of_lt_of_le T5.out (by decide))
        rw [he] at hW2
        clear HE he HM hsz
        go_wp2_with (first
         | (go_at_call 53;(with_reducible refine hW2.out.mono ?_);rintro e w12 ⟨rfl,FF12,v12⟩;have E12:=hid (E11.out.trans v12);have hW3:=hid (HW3.out _ _ E12.out.held);clear hW2 v12)
         | (go_at_call 53;(with_reducible refine hW3.out.mono ?_);rintro e w13 ⟨rfl,FF13,v13⟩;have E13:=hid (E12.out.trans v13);have hF4:=hid (HF4.out _ _ E13.out.held);clear hW3 v13)
         | (go_at_call 56;(with_reducible refine hF4.out.mono ?_);rintro e w14 ⟨rfl,FF14,v14⟩;have E14:=hid (E13.out.trans v14);have hF5:=hid (HF5.out _ _ E14.out.held);clear hF4 v14)
         | (go_at_call 56;(with_reducible refine hF5.out.mono ?_);rintro e w15 ⟨rfl,FF15,v15⟩;have E15:=hid (E14.out.trans v15);have b15:=mir_blk E15.out.held;clear hF5 v15)
         | (refine wpList_store_ag rfl _ _ _ rfl rfl [.bool true,.bool true] rfl b15 boolsT rfl (by simp [mirL]) (by simp [Value.oneCell']) ?_;intro w16 f16 b16 hs16;have E16:=hid (mir_put (M':=⟨(((S2.wr true 0 Z).wr false 0 Z).fl true).fl false,true,true,M.g + 1⟩) E15.out f16 b16 rfl);clear b15 b16;simp only [aA,aB,Act.put,aC,aD,aE]))
        go_ret2
        rw [HX.out]
        exact ⟨rfl,FF15,E16.out⟩
      · have u0 : (S2.wrC true 0 Z != 0) = true:=by simpa using he
        have HX:=hid (HM.out.trans (by rw [HE.out.trans (if_neg he)]))
        have HLo:=hid fun (w1 : World) (FF2 : Bool → List Nat) (h1 : Held w1 (l ++ mirC pbs m d FF2 ⟨S2.wr true 0 Z,M.c0,M.c1,M.g + 1⟩)) => loseOk1 (l:=l) (pbs:=pbs) (m:=m) (d:=d) (B:=999000) (Nat.le_refl _) w1 true ⟨S2.wr true 0 Z,M.c0,M.c1,M.g + 1⟩ FF2 h1 OK3.out (Nat.lt_of_lt_of_le T3.out (by decide)) (fun h => by cases h)
        have HLf:=hid fun (w1 : World) (FF2 : Bool → List Nat) (h1 : Held w1 (l ++ mirC pbs m d FF2 (MS.lose ⟨S2.wr true 0 Z,M.c0,M.c1,M.g + 1⟩ true))) => mleft_any h1
        clear HE he HM
        generalize MS.lose ⟨S2.wr true 0 Z,M.c0,M.c1,M.g + 1⟩ true = ML at *
        generalize S2.wrC true 0 Z = c at *
        go_wp2_with (first
         | (go_at_call 53;(with_reducible refine hW2.out.mono ?_);rintro e w12 ⟨rfl,FF12,v12⟩;have E12:=hid (E11.out.trans v12);have hlo:=hid (HLo.out _ _ E12.out.held);clear hW2 v12)
         | (go_at_call 104;refine hlo.out.mono ?_;rintro e w13 ⟨rfl,FF13,v13⟩;have E13:=hid (E12.out.trans v13);have hlf:=hid (HLf.out _ _ E13.out.held);clear hlo v13)
         | (go_at_call 105;refine hlf.out.mono ?_;rintro e w14 ⟨rfl,hw⟩;subst hw))
        go_ret2
        rw [HX.out]
        exact ⟨rfl,FF13,E13.out⟩
    | succ k =>
      have hd : decide ((i : Int) < (L : Int)) = true:=by simp;omega
      have hdn : decide (i < L) = true:=by simp;omega
      have hR:=hid (sR true (mir_sys EV.out.held) OKr.out (i : Int) (by omega) (by omega))
      have hi4 : (i : Int) ≤ 16384:=by omega
      have hn4 : (r.n : Int) ≤ 16384:=by omega
      by_cases hz : r.s.rdC true i = 0
      · have hT:=hid (sR false (mir_sys EV.out.held) OKr.out (i : Int) (by omega) (by omega))
        have HRN:=hid (show RS.run true (L - 1) 1 ⟨M.s,0⟩ = RS.run true k (i + 1) (r.step true i) by rw [Hrun.out,RS.run,if_pos hz])
        have OK2:=hid ((step_stp r true i).ok OKr.out)
        have T2 : Hid ((r.step true i).s.T + 2 * k < 998850):=hid (by have:=(step_stp r true i).T OKr.out;have:=Tr.out;omega)
        have L2 : Hid ((r.step true i).s.len true = L):=hid (((step_stp r true i).len OKr.out true).trans Hlr.out)
        have hW:=hid (mW false EV.out.held OKr.out (by have:=Tr.out;show r.s.T < 1000000;omega) (i : Int) (by omega) (by omega) (r.s.rdS true i) (Nat.le_trans (Nat.le_of_eq (mt_rd_size (OKr.out.g true) _ _ hz)) (by decide)))
        have hst : RS.step r true i = if r.s.rdS true i = r.s.rdS false i then r else ⟨r.s.wr false i (r.s.rdS true i),r.n + 1⟩:=rfl
        rw [show (MS.mk r.s M.c0 M.c1 M.g).s = r.s from rfl] at hR hT hW
        rw [hz] at hR
        by_cases he : r.s.rdS true i = r.s.rdS false i
        · have hne : ((r.s.rdS true i).toList == (r.s.rdS false i).toList) = true:=by rw [mt_beq];exact decide_eq_true he
          rw [if_pos he] at hst
          rw [hst] at HRN OK2 T2 L2
          generalize r.s.rdS true i = S1 at *
          generalize r.s.rdS false i = S2 at *
          clear hW hz he hst hik
          go_wp2_with (first
           | (go_at_call 55;(with_reducible refine hlen.out.mono ?_);rintro e w6 ⟨rfl,hw⟩;subst hw)
           | (go_at_call 95;(with_reducible refine hR.out.mono ?_);rintro e w7 ⟨rfl,hw⟩;subst hw)
           | (go_at_call 95;(with_reducible refine hT.out.mono ?_);rintro e w7 ⟨rfl,hw⟩;subst hw))
          go_roundw
          case rel => exact ⟨i + 1,k,r,FF1,by go_num,rfl,by omega,hid (by have:=Hik.out;omega),HRN,OK2,T2,by omega,L2,EV⟩
          case measure => have:=Hik.out;simp [intOf];omega
        · have hne : ((r.s.rdS true i).toList == (r.s.rdS false i).toList) = false:=by rw [mt_beq];exact decide_eq_false he
          rw [if_neg he] at hst
          rw [hst] at HRN OK2 T2 L2
          generalize r.s.rdS true i = S1 at *
          generalize r.s.rdS false i = S2 at *
          clear hz he hst hik
          go_wp2_with (first
           | (go_at_call 55;(with_reducible refine hlen.out.mono ?_);rintro e w6 ⟨rfl,hw⟩;subst hw)
           | (go_at_call 95;(with_reducible refine hR.out.mono ?_);rintro e w7 ⟨rfl,hw⟩;subst hw)
           | (go_at_call 95;(with_reducible refine hT.out.mono ?_);rintro e w7 ⟨rfl,hw⟩;subst hw)
           | (go_at_call 53;(with_reducible refine hW.out.mono ?_);rintro e w8 ⟨rfl,FF8,v8⟩))
          go_roundw
          case rel => exact ⟨i + 1,k,_,FF8,by go_num,by go_num,by omega,hid (by have:=Hik.out;omega),HRN,OK2,T2,by show r.n + 1 ≤ i + 1;omega,L2,hid (EV.out.trans v8)⟩
          case measure => have:=Hik.out;simp [intOf];omega
      · have u0 : (r.s.rdC true i != 0) = true:=by simpa using hz
        have hlo:=hid (loseOk1 (l:=l) (pbs:=pbs) (m:=m) (d:=d) (B:=999000) (Nat.le_refl _) wr true ⟨r.s,M.c0,M.c1,M.g⟩ FF1 EV.out.held OKr.out (by have:=Tr.out;show r.s.T < 999000;omega) (fun h => by cases h))
        have HLf:=hid fun (w1 : World) (FF2 : Bool → List Nat) (h1 : Held w1 (l ++ mirC pbs m d FF2 (MS.lose ⟨r.s,M.c0,M.c1,M.g⟩ true))) => mleft_any h1
        have HM:=hid (show M.rsMain true (RS.run true (L - 1) 1 ⟨M.s,0⟩) = (MS.lose ⟨r.s,M.c0,M.c1,M.g⟩ true,r.n,(MS.lose ⟨r.s,M.c0,M.c1,M.g⟩ true).leftC) by rw [Hrun.out,RS.run,if_neg hz];rfl)
        rw [show (MS.mk r.s M.c0 M.c1 M.g).s = r.s from rfl] at hR
        generalize MS.lose ⟨r.s,M.c0,M.c1,M.g⟩ true = ML at *
        generalize r.s.rdC true i = c at *
        generalize r.s.rdS true i = S1 at *
        clear hz hik
        go_wp2_with (first
         | (go_at_call 55;(with_reducible refine hlen.out.mono ?_);rintro e w6 ⟨rfl,hw⟩;subst hw)
         | (go_at_call 95;(with_reducible refine hR.out.mono ?_);rintro e w7 ⟨rfl,hw⟩;subst hw)
         | (go_at_call 104;refine hlo.out.mono ?_;rintro e w8 ⟨rfl,FF8,v8⟩;have E8:=hid (EV.out.trans v8);have hlf:=HLf.out _ _ E8.out.held;clear HLf v8)
         | (go_at_call 105;refine hlf.mono ?_;rintro e w9 ⟨rfl,hw⟩;subst hw))
        go_ret2
        rw [HM.out]
        exact ⟨rfl,FF8,E8.out⟩
theorem mresync_any (h : Held w (l ++ mirC pbs m d FF M)) (ok : SysOk M.s) (ht : M.s.T + 2 * M.s.len (!M.c0) < 998800) :
 Calls Tryz.prog 74 #[.pointer (some ⟨m,0,none⟩)] w fun e w' => e = .returned (.tuple #[.int .i64 (M.rs.2.1 : Int),.int .i64 M.rs.2.2]) ∧ ∃ FF',Ev w (l ++ mirC pbs m d FF M) w' (l ++ mirC pbs m d FF' M.rs.1):=by
 cases ha : M.any with
 | false =>
   have e1 : M.rs = (M,0,70):=by unfold MS.rs;rw [if_neg (by rw [ha];decide)]
   rw [e1]
   refine (mresync_lost h ha).mono ?_
   rintro e w' ⟨rfl,rfl⟩
   exact ⟨rfl,FF,Ev.refl h⟩
 | true =>
   have hc : M.c (!M.c0) = true:=by
    unfold MS.any at ha
    cases h0 : M.c0
    · rw [h0] at ha;exact ha
    · exact h0
   have e1 : M.rs = M.rsF (!M.c0):=by unfold MS.rs;rw [if_pos ha]
   rw [e1]
   cases hd : (M.s.X (!(!M.c0))).Dead with
   | true =>
     have e2 : M.rsF (!M.c0) = (M.rsDead (!M.c0),0,(M.rsDead (!M.c0)).leftC):=by unfold MS.rsF;rw [if_pos hd]
     rw [e2]
     exact mresync_dead (!M.c0) h ok (by omega) (by cases M.c0 <;> rfl) hc hd
   | false => exact mresync_main (!M.c0) h ok ht (by cases M.c0 <;> rfl) hc hd
end
variable {K K0 K1 : List ByteArray} {l l0 l1 : List (Nat × ByteArray)} {T T0 T1 : List Int} {L : List Nat} {g : UInt64} {q : Nat} {S : ByteArray} {c0 c1 dd : Bool}
theorem wrC_al (hq : q < K.length) (hS : S.size = 512) : wrC ⟨K,l,T,false⟩ none (q : Int) S = 0:=by
 have h1 : decide ((q : Int) < 0) = false:=by simp
 have h2 : decide ((K.length : Int) ≤ (q : Int)) = false:=by simp;omega
 show (if (false || offB (mk 0 none)) = true then (60 : Int) else if (decide ((q : Int) < 0) || decide ((K.length : Int) ≤ (q : Int))) || (true && !decide (S.size = 512)) then 2 else 0) = 0
 rw [h1,h2,hS]
 rfl
theorem wrX_al (hq : q < K.length) (hS : S.size = 512) : wrX ⟨K,l,T,false⟩ none (q : Int) S = ⟨K,l ++ [(q,S)],T ++ [(q : Int)],false⟩:=by
 unfold wrX
 rw [if_pos (wrC_al hq hS)]
 rfl
theorem rdC_al (hq : q < K.length) : rdC ⟨K,l,T,false⟩ none (q : Int) = 0:=by
 have h1 : decide ((q : Int) < 0) = false:=by simp
 have h2 : decide ((K.length : Int) ≤ (q : Int)) = false:=by simp;omega
 show (if (false || offB (mk 0 none)) = true then (60 : Int) else if (decide ((q : Int) < 0) || decide ((K.length : Int) ≤ (q : Int))) || (false && !decide ((⟨#[]⟩ : ByteArray).size = 512)) then 2 else 0) = 0
 rw [h1,h2]
 rfl
theorem rdS_al (hq : q < K.length) : rdS ⟨K,l,T,false⟩ none (q : Int) = nowX l q K[q]:=by
 unfold rdS
 rw [if_pos (show mayN ⟨K,l,T,false⟩ (mk 0 none) (q : Int) ⟨#[]⟩ false = 0 from rdC_al hq),Int.toNat_natCast]
 simp [hq]
theorem stamp1_0 (hK : 0 < K0.length) : MS.stamp1 ⟨⟨⟨K0,l0,T0,false⟩,⟨K1,l1,T1,dd⟩,none,none,L⟩,true,c1,g⟩ false = ⟨⟨⟨setX K0 (l0 ++ [(0,supS (g + 1) K0.length)]),[],(T0 ++ [0]) ++ [-1],false⟩,⟨K1,l1,T1,dd⟩,none,none,L⟩,true,c1,g + 1⟩:=by
 have h1 : wrC ⟨K0,l0,T0,false⟩ none ((0 : Nat) : Int) (supS (g + 1) K0.length) = 0:=wrC_al hK (supS_size _ _)
 have h2:=wrX_al (l:=l0) (T:=T0) hK (supS_size (g + 1) K0.length)
 have hw : MS.stampW ⟨⟨⟨K0,l0,T0,false⟩,⟨K1,l1,T1,dd⟩,none,none,L⟩,true,c1,g + 1⟩ false = ⟨⟨⟨K0,l0 ++ [(0,supS (g + 1) K0.length)],T0 ++ [0],false⟩,⟨K1,l1,T1,dd⟩,none,none,L⟩,true,c1,g + 1⟩:=by
  show MS.after _ _ (wrC ⟨K0,l0,T0,false⟩ none ((0 : Nat) : Int) (supS (g + 1) K0.length)) (Sys.put _ false (wrX ⟨K0,l0,T0,false⟩ none ((0 : Nat) : Int) (supS (g + 1) K0.length)) (wrL ⟨K0,l0,T0,false⟩ none ((0 : Nat) : Int) (supS (g + 1) K0.length))) _ = _
  rw [h1,h2]
  unfold wrL
  rw [if_pos h1]
  rfl
 unfold MS.stamp1
 rw [show (MS.mk (⟨⟨K0,l0,T0,false⟩,⟨K1,l1,T1,dd⟩,none,none,L⟩ : Sys) true c1 g).g = g from rfl]
 rw [hw]
 rfl
theorem stamp1_1 (hK : 0 < K1.length) : MS.stamp1 ⟨⟨⟨K0,l0,T0,dd⟩,⟨K1,l1,T1,false⟩,none,none,L⟩,c0,true,g⟩ true = ⟨⟨⟨K0,l0,T0,dd⟩,⟨setX K1 (l1 ++ [(0,supS (g + 1) K1.length)]),[],(T1 ++ [0]) ++ [-1],false⟩,none,none,L⟩,c0,true,g + 1⟩:=by
 have h1 : wrC ⟨K1,l1,T1,false⟩ none ((0 : Nat) : Int) (supS (g + 1) K1.length) = 0:=wrC_al hK (supS_size _ _)
 have h2:=wrX_al (l:=l1) (T:=T1) hK (supS_size (g + 1) K1.length)
 have hw : MS.stampW ⟨⟨⟨K0,l0,T0,dd⟩,⟨K1,l1,T1,false⟩,none,none,L⟩,c0,true,g + 1⟩ true = ⟨⟨⟨K0,l0,T0,dd⟩,⟨K1,l1 ++ [(0,supS (g + 1) K1.length)],T1 ++ [0],false⟩,none,none,L⟩,c0,true,g + 1⟩:=by
  show MS.after _ _ (wrC ⟨K1,l1,T1,false⟩ none ((0 : Nat) : Int) (supS (g + 1) K1.length)) (Sys.put _ true (wrX ⟨K1,l1,T1,false⟩ none ((0 : Nat) : Int) (supS (g + 1) K1.length)) (wrL ⟨K1,l1,T1,false⟩ none ((0 : Nat) : Int) (supS (g + 1) K1.length))) _ = _
  rw [h1,h2]
  unfold wrL
  rw [if_pos h1]
  rfl
 unfold MS.stamp1
 rw [show (MS.mk (⟨⟨K0,l0,T0,dd⟩,⟨K1,l1,T1,false⟩,none,none,L⟩ : Sys) c0 true g).g = g from rfl]
 rw [hw]
 rfl
theorem lose_0 (hK : 0 < K1.length) : MS.lose ⟨⟨⟨K0,l0,T0,dd⟩,⟨K1,l1,T1,false⟩,none,none,L⟩,c0,true,g⟩ false = ⟨⟨⟨K0,l0,T0,dd⟩,⟨setX K1 (l1 ++ [(0,supS (g + 1) K1.length)]),[],(T1 ++ [0]) ++ [-1],false⟩,none,none,L⟩,false,true,g + 1⟩ :=
 stamp1_1 (c0:=false) hK
theorem lose_1 (hK : 0 < K0.length) : MS.lose ⟨⟨⟨K0,l0,T0,false⟩,⟨K1,l1,T1,dd⟩,none,none,L⟩,true,c1,g⟩ true = ⟨⟨⟨setX K0 (l0 ++ [(0,supS (g + 1) K0.length)]),[],(T0 ++ [0]) ++ [-1],false⟩,⟨K1,l1,T1,dd⟩,none,none,L⟩,true,false,g + 1⟩ :=
 stamp1_0 (c1:=false) hK
theorem flushC_both : MS.flushC ⟨⟨⟨K0,l0,T0,false⟩,⟨K1,l1,T1,false⟩,none,none,L⟩,true,true,g⟩ = 0:=rfl
theorem flushC_0 : MS.flushC ⟨⟨⟨K0,l0,T0,false⟩,⟨K1,l1,T1,dd⟩,none,none,L⟩,true,false,g⟩ = 0:=rfl
theorem flushC_1 : MS.flushC ⟨⟨⟨K0,l0,T0,dd⟩,⟨K1,l1,T1,false⟩,none,none,L⟩,false,true,g⟩ = 0:=rfl
theorem eachF_d0 (hK : 0 < K1.length) : MS.eachF ⟨⟨⟨K0,l0,T0,true⟩,⟨K1,l1,T1,false⟩,none,none,L⟩,true,true,g⟩ = ⟨⟨⟨K0,l0,T0,true⟩,⟨setX K1 (l1 ++ [(0,supS (g + 1) K1.length)]),[],((T1 ++ [0]) ++ [-1]) ++ [-1],false⟩,none,none,L⟩,false,true,g + 1⟩:=by
 have h:=lose_0 (K0:=K0) (l0:=l0) (T0:=T0) (dd:=true) (l1:=l1) (T1:=T1) (L:=L) (c0:=true) (g:=g) hK
 unfold MS.eachF
 rw [show MS.doF ⟨⟨⟨K0,l0,T0,true⟩,⟨K1,l1,T1,false⟩,none,none,L⟩,true,true,g⟩ false = MS.lose ⟨⟨⟨K0,l0,T0,true⟩,⟨K1,l1,T1,false⟩,none,none,L⟩,true,true,g⟩ false from rfl,h]
 rfl
theorem eachF_d1 (hK : 0 < K0.length) : MS.eachF ⟨⟨⟨K0,l0,T0,false⟩,⟨K1,l1,T1,true⟩,none,none,L⟩,true,true,g⟩ = ⟨⟨⟨(setX K0 l0).set 0 (supS (g + 1) K0.length),[],((T0 ++ [-1]) ++ [0]) ++ [-1],false⟩,⟨K1,l1,T1,true⟩,none,none,L⟩,true,false,g + 1⟩:=by
 have h:=lose_1 (K0:=setX K0 l0) (l0:=[]) (T0:=T0 ++ [-1]) (dd:=true) (K1:=K1) (l1:=l1) (T1:=T1) (L:=L) (c1:=true) (g:=g) (by rw [setX_len];exact hK)
 rw [setX_len] at h
 unfold MS.eachF
 rw [show MS.doF ⟨⟨⟨K0,l0,T0,false⟩,⟨K1,l1,T1,true⟩,none,none,L⟩,true,true,g⟩ false = ⟨⟨⟨setX K0 l0,[],T0 ++ [-1],false⟩,⟨K1,l1,T1,true⟩,none,none,L⟩,true,true,g⟩ from rfl]
 exact h
def curX (g : UInt64) (N : List ByteArray) (T : List Int) : XD:=⟨supS g (N.length + 1) :: N,[],T,false⟩
def nonX (K : List ByteArray) (T : List Int) (dd : Bool) : XD:=⟨Zs :: K,[],T,dd⟩
def sy (X0 X1 : XD) (L : List Nat) : Sys:=⟨X0,X1,none,none,L⟩
inductive Snd (N : List ByteArray) : MS → Prop where
 | both (T0 T1 : List Int) (L : List Nat) (g : UInt64) : Snd N ⟨sy (curX g N T0) (curX g N T1) L,true,true,g⟩
 | one0 (T0 T1 : List Int) (K : List ByteArray) (dd : Bool) (L : List Nat) (g : UInt64) (hK : K.length = N.length) : Snd N ⟨sy (curX g N T0) (nonX K T1 dd) L,true,false,g⟩
 | one1 (T0 T1 : List Int) (K : List ByteArray) (dd : Bool) (L : List Nat) (g : UInt64) (hK : K.length = N.length) : Snd N ⟨sy (nonX K T0 dd) (curX g N T1) L,false,true,g⟩
section
variable {N K : List ByteArray} {M : MS} {g : UInt64} {T T0 T1 : List Int} {L : List Nat} {dd : Bool} {k : Nat} {S : ByteArray}
theorem snd_len (h : Snd N M) : M.s.len false = N.length + 1 ∧ M.s.len true = N.length + 1:=by
 cases h with
 | both T0 T1 L g => exact ⟨rfl,rfl⟩
 | one0 T0 T1 K dd L g hK => exact ⟨rfl,congrArg (· + 1) hK⟩
 | one1 T0 T1 K dd L g hK => exact ⟨congrArg (· + 1) hK,rfl⟩
theorem snd_any (h : Snd N M) : M.any = true:=by cases h <;> rfl
theorem snd_atC (h : Snd N M) (hk : k < N.length) : M.atC (k : Int) = 0:=by
 unfold MS.atC
 rw [if_neg (by rw [(snd_len h).1];omega)]
 unfold MS.leftC
 rw [if_pos (snd_any h)]
def Alv (M : MS) : Prop:=∀ b,M.c b = !(M.s.X b).Dead
theorem snd_flush (h : Snd N M) : M.flushC = 0 ∧ Snd N M.flushM:=by
 cases h with
 | both T0 T1 L g => exact ⟨flushC_both,.both _ _ _ _⟩
 | one0 T0 T1 K dd L g hK => exact ⟨flushC_0,.one0 _ _ K dd _ _ hK⟩
 | one1 T0 T1 K dd L g hK => exact ⟨flushC_1,.one1 _ _ K dd _ _ hK⟩
theorem alv_flush (h : Snd N M) (a : Alv M) : Alv M.flushM:=by
 cases h with
 | both T0 T1 L g => exact fun b => by cases b <;> rfl
 | one0 T0 T1 K dd L g hK => exact fun b => by cases b;rfl;exact a true
 | one1 T0 T1 K dd L g hK => exact fun b => by cases b;exact a false;rfl
theorem flush_some {M : MS} (h : M.any = true) : M.flushC = M.eachF.leftC ∧ M.flushM = M.eachF:=⟨if_pos h,if_pos h⟩
def MS.failB (M : MS) (b : Bool) : MS:={ M with s:=M.s.put b (faX (M.s.X b)) none }
theorem fa_cur (g : UInt64) (N : List ByteArray) (T : List Int) : faX (curX g N T) = nonX (List.replicate N.length Zs) T true:=by
 show (⟨List.replicate (N.length + 1) Zs,[],T,true⟩ : XD) = _
 rw [List.replicate_succ]
 rfl
theorem fa_non (K : List ByteArray) (T : List Int) (dd : Bool) : faX (nonX K T dd) = nonX (List.replicate K.length Zs) T true:=by
 show (⟨List.replicate (K.length + 1) Zs,[],T,true⟩ : XD) = _
 rw [List.replicate_succ]
 rfl
theorem snd_fail (h : Snd N M) (b : Bool) (hb : M.c (!b) = true) : (M.failB b).flushC = 0 ∧ Snd N (M.failB b).flushM ∧ (Alv M → Alv (M.failB b).flushM):=by
 cases h with
 | both T0 T1 L g =>
   cases b with
   | false =>
     have e : MS.failB ⟨sy (curX g N T0) (curX g N T1) L,true,true,g⟩ false = ⟨⟨nonX (List.replicate N.length Zs) T0 true,curX g N T1,none,none,L⟩,true,true,g⟩:=by
      rw [← fa_cur g N T0];rfl
     have e2:=eachF_d0 (K0:=Zs :: List.replicate N.length Zs) (l0:=[]) (T0:=T0) (K1:=supS g (N.length + 1) :: N) (l1:=[]) (T1:=T1) (L:=L) (g:=g) (Nat.succ_pos _)
     have e3:=flush_some (M:=⟨⟨nonX (List.replicate N.length Zs) T0 true,curX g N T1,none,none,L⟩,true,true,g⟩) rfl
     rw [e,e3.1,e3.2]
     unfold nonX curX
     rw [e2]
     exact ⟨rfl,.one1 _ _ _ true _ _ (by simp),fun _ b => by cases b <;> rfl⟩
   | true =>
     have e : MS.failB ⟨sy (curX g N T0) (curX g N T1) L,true,true,g⟩ true = ⟨⟨curX g N T0,nonX (List.replicate N.length Zs) T1 true,none,none,L⟩,true,true,g⟩:=by
      rw [← fa_cur g N T1];rfl
     have e2:=eachF_d1 (K0:=supS g (N.length + 1) :: N) (l0:=[]) (T0:=T0) (K1:=Zs :: List.replicate N.length Zs) (l1:=[]) (T1:=T1) (L:=L) (g:=g) (Nat.succ_pos _)
     have e3:=flush_some (M:=⟨⟨curX g N T0,nonX (List.replicate N.length Zs) T1 true,none,none,L⟩,true,true,g⟩) rfl
     rw [e,e3.1,e3.2]
     unfold nonX curX
     rw [e2]
     exact ⟨rfl,.one0 _ _ _ true _ _ (by simp),fun _ b => by cases b <;> rfl⟩
 | one0 T0 T1 K dd L g hK =>
   cases b with
   | false => cases hb
   | true =>
     have e : MS.failB ⟨sy (curX g N T0) (nonX K T1 dd) L,true,false,g⟩ true = ⟨⟨curX g N T0,nonX (List.replicate K.length Zs) T1 true,none,none,L⟩,true,false,g⟩:=by
      rw [← fa_non K T1 dd];rfl
     rw [e]
     exact ⟨flushC_0,.one0 _ _ _ true _ _ (by simpa using hK),fun _ b => by cases b <;> rfl⟩
 | one1 T0 T1 K dd L g hK =>
   cases b with
   | true => cases hb
   | false =>
     have e : MS.failB ⟨sy (nonX K T0 dd) (curX g N T1) L,false,true,g⟩ false = ⟨⟨nonX (List.replicate K.length Zs) T0 true,curX g N T1,none,none,L⟩,false,true,g⟩:=by
      rw [← fa_non K T0 dd];rfl
     rw [e]
     exact ⟨flushC_1,.one1 _ _ _ true _ _ (by simpa using hK),fun _ b => by cases b <;> rfl⟩
end
section
variable {N K K0 K1 KF KT : List ByteArray} {l l0 l1 : List (Nat × ByteArray)} {M : MS} {g : UInt64} {T T0 T1 TF TT : List Int} {L : List Nat} {dd c0 c1 : Bool} {k q : Nat} {S z : ByteArray} {X0 X1 : XD}
theorem wrL_none (X : XD) (I : Int) (S : ByteArray) : wrL X none I S = none:=by unfold wrL;split <;> rfl
theorem wr_false (hq : q < K.length) (hS : S.size = 512) : (sy ⟨K,l,T,false⟩ X1 L).wrC false (q : Int) S = 0 ∧ (sy ⟨K,l,T,false⟩ X1 L).wr false (q : Int) S = (sy ⟨K,l,T,false⟩ X1 L).put false ⟨K,l ++ [(q,S)],T ++ [(q : Int)],false⟩ none:=by
 refine ⟨wrC_al hq hS,?_⟩
 show (sy ⟨K,l,T,false⟩ X1 L).put false (wrX ⟨K,l,T,false⟩ none (q : Int) S) (wrL ⟨K,l,T,false⟩ none (q : Int) S) = _
 rw [wrX_al hq hS,wrL_none]
theorem wr_true (hq : q < K.length) (hS : S.size = 512) : (sy X0 ⟨K,l,T,false⟩ L).wrC true (q : Int) S = 0 ∧ (sy X0 ⟨K,l,T,false⟩ L).wr true (q : Int) S = (sy X0 ⟨K,l,T,false⟩ L).put true ⟨K,l ++ [(q,S)],T ++ [(q : Int)],false⟩ none:=by
 refine ⟨wrC_al hq hS,?_⟩
 show (sy X0 ⟨K,l,T,false⟩ L).put true (wrX ⟨K,l,T,false⟩ none (q : Int) S) (wrL ⟨K,l,T,false⟩ none (q : Int) S) = _
 rw [wrX_al hq hS,wrL_none]
theorem doW_0 (hq : q < K.length) (hS : S.size = 512) : MS.doW ⟨sy ⟨K,l,T,false⟩ X1 L,true,c1,g⟩ (q : Int) S false = ⟨sy ⟨K,l ++ [(q,S)],T ++ [(q : Int)],false⟩ X1 L,true,c1,g⟩:=by
 obtain ⟨h1,h2⟩:=wr_false (X1:=X1) (l:=l) (T:=T) (L:=L) hq hS
 refine (if_pos (show true = true from rfl)).trans ?_
 refine (if_pos h1).trans ?_
 show MS.mk ((sy ⟨K,l,T,false⟩ X1 L).wr false (q : Int) S) _ _ _ = _
 rw [h2]
 rfl
theorem doW_1 (hq : q < K.length) (hS : S.size = 512) : MS.doW ⟨sy X0 ⟨K,l,T,false⟩ L,c0,true,g⟩ (q : Int) S true = ⟨sy X0 ⟨K,l ++ [(q,S)],T ++ [(q : Int)],false⟩ L,c0,true,g⟩:=by
 obtain ⟨h1,h2⟩:=wr_true (X0:=X0) (l:=l) (T:=T) (L:=L) hq hS
 refine (if_pos (show true = true from rfl)).trans ?_
 refine (if_pos h1).trans ?_
 show MS.mk ((sy X0 ⟨K,l,T,false⟩ L).wr true (q : Int) S) _ _ _ = _
 rw [h2]
 rfl
theorem cur_set (g : UInt64) (N : List ByteArray) (T : List Int) (k : Nat) (S : ByteArray) : curX g (N.set k S) T = ⟨supS g (N.length + 1) :: N.set k S,[],T,false⟩:=by
 unfold curX
 rw [List.length_set]
theorem snd_wr (h : Snd N M) (hk : k < N.length) (hS : S.size = 512) : M.wrE (k : Int) S = 0 ∧ (M.wrM (k : Int) S).flushC = 0 ∧ Snd (N.set k S) (M.wrM (k : Int) S).flushM ∧ (Alv M → Alv (M.wrM (k : Int) S).flushM):=by
 have ha:=snd_atC h hk
 have e1 : M.wrM (k : Int) S = M.eachW ((k + 1 : Nat) : Int) S:=by unfold MS.wrM;rw [if_pos hS,if_pos ha];rfl
 have e2 : M.wrE (k : Int) S = (M.eachW ((k + 1 : Nat) : Int) S).leftC:=by unfold MS.wrE;rw [if_pos hS,if_pos ha];rfl
 rw [e1,e2]
 have hq : ∀ g,k + 1 < (supS g (N.length + 1) :: N).length:=fun g => by simp;exact hk
 cases h with
 | both T0 T1 L g =>
   have e3 : MS.eachW ⟨sy (curX g N T0) (curX g N T1) L,true,true,g⟩ ((k + 1 : Nat) : Int) S = ⟨sy ⟨supS g (N.length + 1) :: N,[] ++ [(k + 1,S)],T0 ++ [((k + 1 : Nat) : Int)],false⟩ ⟨supS g (N.length + 1) :: N,[] ++ [(k + 1,S)],T1 ++ [((k + 1 : Nat) : Int)],false⟩ L,true,true,g⟩:=by
    unfold MS.eachW curX
    rw [doW_0 (hq g) hS,doW_1 (hq g) hS]
   rw [e3]
   refine ⟨rfl,flushC_both,?_,fun _ b => by cases b <;> rfl⟩
   have:=Snd.both (N:=N.set k S) ((T0 ++ [((k + 1 : Nat) : Int)]) ++ [-1]) ((T1 ++ [((k + 1 : Nat) : Int)]) ++ [-1]) L g
   rw [cur_set,cur_set] at this
   exact this
 | one0 T0 T1 K dd L g hK =>
   have e3 : MS.eachW ⟨sy (curX g N T0) (nonX K T1 dd) L,true,false,g⟩ ((k + 1 : Nat) : Int) S = ⟨sy ⟨supS g (N.length + 1) :: N,[] ++ [(k + 1,S)],T0 ++ [((k + 1 : Nat) : Int)],false⟩ (nonX K T1 dd) L,true,false,g⟩:=by
    unfold MS.eachW curX
    rw [doW_0 (hq g) hS]
    rfl
   rw [e3]
   refine ⟨rfl,flushC_0,?_,fun a b => by cases b;rfl;exact a true⟩
   have:=Snd.one0 (N:=N.set k S) ((T0 ++ [((k + 1 : Nat) : Int)]) ++ [-1]) T1 K dd L g (by rw [List.length_set];exact hK)
   rw [cur_set] at this
   exact this
 | one1 T0 T1 K dd L g hK =>
   have e3 : MS.eachW ⟨sy (nonX K T0 dd) (curX g N T1) L,false,true,g⟩ ((k + 1 : Nat) : Int) S = ⟨sy (nonX K T0 dd) ⟨supS g (N.length + 1) :: N,[] ++ [(k + 1,S)],T1 ++ [((k + 1 : Nat) : Int)],false⟩ L,false,true,g⟩:=by
    unfold MS.eachW curX
    rw [show MS.doW ⟨sy (nonX K T0 dd) ⟨supS g (N.length + 1) :: N,[],T1,false⟩ L,false,true,g⟩ ((k + 1 : Nat) : Int) S false = ⟨sy (nonX K T0 dd) ⟨supS g (N.length + 1) :: N,[],T1,false⟩ L,false,true,g⟩ from rfl,doW_1 (hq g) hS]
   rw [e3]
   refine ⟨rfl,flushC_1,?_,fun a b => by cases b;exact a false;rfl⟩
   have:=Snd.one1 (N:=N.set k S) T0 ((T1 ++ [((k + 1 : Nat) : Int)]) ++ [-1]) K dd L g (by rw [List.length_set];exact hK)
   rw [cur_set] at this
   exact this
theorem rdK (hq : q < K.length) : (∀ X1,(sy ⟨K,l,T,false⟩ X1 L).rdC false (q : Int) = 0 ∧ (sy ⟨K,l,T,false⟩ X1 L).rdS false (q : Int) = nowX l q K[q]) ∧ (∀ X0,(sy X0 ⟨K,l,T,false⟩ L).rdC true (q : Int) = 0 ∧ (sy X0 ⟨K,l,T,false⟩ L).rdS true (q : Int) = nowX l q K[q]) :=
 ⟨fun _ => ⟨rdC_al hq,rdS_al hq⟩,fun _ => ⟨rdC_al hq,rdS_al hq⟩⟩
theorem now_snoc_ne {j : Nat} (z : ByteArray) (h : q ≠ j) : nowX (l ++ [(q,S)]) j z = nowX l j z:=by rw [nowX_snoc,if_neg h]
theorem now_snoc_eq (z : ByteArray) : nowX (l ++ [(q,S)]) q z = S:=by rw [nowX_snoc,if_pos rfl]
theorem run_false : ∀ (k i n : Nat) (l : List (Nat × ByteArray)) (TT : List Int),i + k = KF.length → KT.length = KF.length → (∀ x ∈ KF,x.size = 512) →
 ∃ l' TT' n',RS.run false k i ⟨(if false then sy ⟨KT,l,TT,false⟩ ⟨KF,[],TF,false⟩ L else sy ⟨KF,[],TF,false⟩ ⟨KT,l,TT,false⟩ L),n⟩ = (⟨(if false then sy ⟨KT,l',TT',false⟩ ⟨KF,[],TF,false⟩ L else sy ⟨KF,[],TF,false⟩ ⟨KT,l',TT',false⟩ L),n'⟩,true) ∧
   ∀ (j : Nat) (h1 : j < KF.length) (h2 : j < KT.length),nowX l' j KT[j] = if i ≤ j then KF[j] else nowX l j KT[j]
 | 0,i,n,l,TT,hi,hT,hz => ⟨l,TT,n,rfl,fun j h1 h2 => by rw [if_neg (by omega)]⟩
 | k + 1,i,n,l,TT,hi,hT,hz => by
   have hq : i < KF.length:=by omega
   have hq2 : i < KT.length:=by omega
   have hf : (sy ⟨KF,[],TF,false⟩ ⟨KT,l,TT,false⟩ L).rdC false (i : Int) = 0 ∧ (sy ⟨KF,[],TF,false⟩ ⟨KT,l,TT,false⟩ L).rdS false (i : Int) = nowX [] i KF[i]:=(rdK (T:=TF) (L:=L) (l:=[]) hq).1 _
   have hf' : (sy ⟨KT,l,TT,false⟩ ⟨KF,[],TF,false⟩ L).rdC true (i : Int) = 0 ∧ (sy ⟨KT,l,TT,false⟩ ⟨KF,[],TF,false⟩ L).rdS true (i : Int) = nowX [] i KF[i]:=(rdK (T:=TF) (L:=L) (l:=[]) hq).2 _
   have ht : (sy ⟨KF,[],TF,false⟩ ⟨KT,l,TT,false⟩ L).rdS true (i : Int) = nowX l i KT[i]:=((rdK (T:=TT) (L:=L) (l:=l) hq2).2 _).2
   have ht' : (sy ⟨KT,l,TT,false⟩ ⟨KF,[],TF,false⟩ L).rdS false (i : Int) = nowX l i KT[i]:=((rdK (T:=TT) (L:=L) (l:=l) hq2).1 _).2
   have hw : (sy ⟨KF,[],TF,false⟩ ⟨KT,l,TT,false⟩ L).wr true (i : Int) KF[i] = sy ⟨KF,[],TF,false⟩ ⟨KT,l ++ [(i,KF[i])],TT ++ [(i : Int)],false⟩ L:=(wr_true (X0:=⟨KF,[],TF,false⟩) (l:=l) (T:=TT) (L:=L) hq2 (hz _ (List.getElem_mem hq))).2
   have hw' : (sy ⟨KT,l,TT,false⟩ ⟨KF,[],TF,false⟩ L).wr false (i : Int) KF[i] = sy ⟨KT,l ++ [(i,KF[i])],TT ++ [(i : Int)],false⟩ ⟨KF,[],TF,false⟩ L:=(wr_false (X1:=⟨KF,[],TF,false⟩) (l:=l) (T:=TT) (L:=L) hq2 (hz _ (List.getElem_mem hq))).2
   rw [RS.run]
   by_cases he : KF[i] = nowX l i KT[i]
   · obtain ⟨l',TT',n',h1,h2⟩:=run_false k (i + 1) n l TT (by omega) hT hz
     refine ⟨l',TT',n',?_,fun j g1 g2 => ?_⟩
     · rw [if_pos (by first | exact hf.1 | exact hf'.1)]
       refine Eq.trans (congrArg (RS.run false k (i + 1)) ?_) h1
       refine if_pos ?_
       first
        | exact hf.2.trans (he.trans ht.symm)
        | exact hf'.2.trans (he.trans ht'.symm)
     · rw [h2 j g1 g2]
       by_cases hj : i ≤ j
       · rw [if_pos hj]
         by_cases hj2 : i + 1 ≤ j
         · rw [if_pos hj2]
         · rw [if_neg hj2]
           obtain rfl : i = j:=by omega
           exact he.symm
       · rw [if_neg hj,if_neg (by omega)]
   · obtain ⟨l',TT',n',h1,h2⟩:=run_false k (i + 1) (n + 1) (l ++ [(i,KF[i])]) (TT ++ [(i : Int)]) (by omega) hT hz
     refine ⟨l',TT',n',?_,fun j g1 g2 => ?_⟩
     · rw [if_pos (by first | exact hf.1 | exact hf'.1)]
       refine Eq.trans (congrArg (RS.run false k (i + 1)) ?_) h1
       refine (if_neg ?_).trans ?_
       · first
          | exact fun h => he (hf.2.symm.trans (h.trans ht))
          | exact fun h => he (hf'.2.symm.trans (h.trans ht'))
       · first
          | (refine congrArg (RS.mk · (n + 1)) ?_;refine Eq.trans (congrArg ((sy ⟨KF,[],TF,false⟩ ⟨KT,l,TT,false⟩ L).wr true (i : Int)) hf.2) hw)
          | (refine congrArg (RS.mk · (n + 1)) ?_;refine Eq.trans (congrArg ((sy ⟨KT,l,TT,false⟩ ⟨KF,[],TF,false⟩ L).wr false (i : Int)) hf'.2) hw')
     · rw [h2 j g1 g2]
       by_cases hj : i ≤ j
       · rw [if_pos hj]
         by_cases hj2 : i + 1 ≤ j
         · rw [if_pos hj2]
         · rw [if_neg hj2]
           obtain rfl : i = j:=by omega
           exact now_snoc_eq _
       · rw [if_neg hj,if_neg (by omega)]
         exact now_snoc_ne _ (by omega)
theorem run_true : ∀ (k i n : Nat) (l : List (Nat × ByteArray)) (TT : List Int),i + k = KF.length → KT.length = KF.length → (∀ x ∈ KF,x.size = 512) →
 ∃ l' TT' n',RS.run true k i ⟨(if true then sy ⟨KT,l,TT,false⟩ ⟨KF,[],TF,false⟩ L else sy ⟨KF,[],TF,false⟩ ⟨KT,l,TT,false⟩ L),n⟩ = (⟨(if true then sy ⟨KT,l',TT',false⟩ ⟨KF,[],TF,false⟩ L else sy ⟨KF,[],TF,false⟩ ⟨KT,l',TT',false⟩ L),n'⟩,true) ∧
   ∀ (j : Nat) (h1 : j < KF.length) (h2 : j < KT.length),nowX l' j KT[j] = if i ≤ j then KF[j] else nowX l j KT[j]
 | 0,i,n,l,TT,hi,hT,hz => ⟨l,TT,n,rfl,fun j h1 h2 => by rw [if_neg (by omega)]⟩
 | k + 1,i,n,l,TT,hi,hT,hz => by
   have hq : i < KF.length:=by omega
   have hq2 : i < KT.length:=by omega
   have hf : (sy ⟨KF,[],TF,false⟩ ⟨KT,l,TT,false⟩ L).rdC false (i : Int) = 0 ∧ (sy ⟨KF,[],TF,false⟩ ⟨KT,l,TT,false⟩ L).rdS false (i : Int) = nowX [] i KF[i]:=(rdK (T:=TF) (L:=L) (l:=[]) hq).1 _
   have hf' : (sy ⟨KT,l,TT,false⟩ ⟨KF,[],TF,false⟩ L).rdC true (i : Int) = 0 ∧ (sy ⟨KT,l,TT,false⟩ ⟨KF,[],TF,false⟩ L).rdS true (i : Int) = nowX [] i KF[i]:=(rdK (T:=TF) (L:=L) (l:=[]) hq).2 _
   have ht : (sy ⟨KF,[],TF,false⟩ ⟨KT,l,TT,false⟩ L).rdS true (i : Int) = nowX l i KT[i]:=((rdK (T:=TT) (L:=L) (l:=l) hq2).2 _).2
   have ht' : (sy ⟨KT,l,TT,false⟩ ⟨KF,[],TF,false⟩ L).rdS false (i : Int) = nowX l i KT[i]:=((rdK (T:=TT) (L:=L) (l:=l) hq2).1 _).2
   have hw : (sy ⟨KF,[],TF,false⟩ ⟨KT,l,TT,false⟩ L).wr true (i : Int) KF[i] = sy ⟨KF,[],TF,false⟩ ⟨KT,l ++ [(i,KF[i])],TT ++ [(i : Int)],false⟩ L:=(wr_true (X0:=⟨KF,[],TF,false⟩) (l:=l) (T:=TT) (L:=L) hq2 (hz _ (List.getElem_mem hq))).2
   have hw' : (sy ⟨KT,l,TT,false⟩ ⟨KF,[],TF,false⟩ L).wr false (i : Int) KF[i] = sy ⟨KT,l ++ [(i,KF[i])],TT ++ [(i : Int)],false⟩ ⟨KF,[],TF,false⟩ L:=(wr_false (X1:=⟨KF,[],TF,false⟩) (l:=l) (T:=TT) (L:=L) hq2 (hz _ (List.getElem_mem hq))).2
   rw [RS.run]
   by_cases he : KF[i] = nowX l i KT[i]
   · obtain ⟨l',TT',n',h1,h2⟩:=run_true k (i + 1) n l TT (by omega) hT hz
     refine ⟨l',TT',n',?_,fun j g1 g2 => ?_⟩
     · rw [if_pos (by first | exact hf.1 | exact hf'.1)]
       refine Eq.trans (congrArg (RS.run true k (i + 1)) ?_) h1
       refine if_pos ?_
       first
        | exact hf.2.trans (he.trans ht.symm)
        | exact hf'.2.trans (he.trans ht'.symm)
     · rw [h2 j g1 g2]
       by_cases hj : i ≤ j
       · rw [if_pos hj]
         by_cases hj2 : i + 1 ≤ j
         · rw [if_pos hj2]
         · rw [if_neg hj2]
           obtain rfl : i = j:=by omega
           exact he.symm
       · rw [if_neg hj,if_neg (by omega)]
   · obtain ⟨l',TT',n',h1,h2⟩:=run_true k (i + 1) (n + 1) (l ++ [(i,KF[i])]) (TT ++ [(i : Int)]) (by omega) hT hz
     refine ⟨l',TT',n',?_,fun j g1 g2 => ?_⟩
     · rw [if_pos (by first | exact hf.1 | exact hf'.1)]
       refine Eq.trans (congrArg (RS.run true k (i + 1)) ?_) h1
       refine (if_neg ?_).trans ?_
       · first
          | exact fun h => he (hf.2.symm.trans (h.trans ht))
          | exact fun h => he (hf'.2.symm.trans (h.trans ht'))
       · first
          | (refine congrArg (RS.mk · (n + 1)) ?_;refine Eq.trans (congrArg ((sy ⟨KF,[],TF,false⟩ ⟨KT,l,TT,false⟩ L).wr true (i : Int)) hf.2) hw)
          | (refine congrArg (RS.mk · (n + 1)) ?_;refine Eq.trans (congrArg ((sy ⟨KT,l,TT,false⟩ ⟨KF,[],TF,false⟩ L).wr false (i : Int)) hf'.2) hw')
     · rw [h2 j g1 g2]
       by_cases hj : i ≤ j
       · rw [if_pos hj]
         by_cases hj2 : i + 1 ≤ j
         · rw [if_pos hj2]
         · rw [if_neg hj2]
           obtain rfl : i = j:=by omega
           exact now_snoc_eq _
       · rw [if_neg hj,if_neg (by omega)]
         exact now_snoc_ne _ (by omega)
theorem set_end {a : ByteArray} (h : ∀ (j : Nat) (h1 : j < (a :: N).length) (h2 : j < (z :: K).length),nowX l j (z :: K)[j] = if 1 ≤ j then (a :: N)[j] else nowX [] j (z :: K)[j]) (hK : K.length = N.length) : setX (z :: K) l = z :: N:=by
 refine List.ext_getElem (by rw [setX_len];simp [hK]) fun j h1 h2 => ?_
 have h3 : j < (z :: K).length:=by rw [setX_len] at h1;exact h1
 refine (setX_get l (z :: K) j h3 h1).trans ?_
 rw [h j (by simpa using h2) h3]
 cases j with
 | zero => rfl
 | succ j => rw [if_pos (by omega)];rfl
theorem rsEnd_false (h : setX KT l = z :: N) : (MS.rsEnd ⟨sy (curX g N TF) ⟨KT,l,TT,false⟩ L,c0,c1,g⟩ false).2 = 0 ∧ Snd N (MS.rsEnd ⟨sy (curX g N TF) ⟨KT,l,TT,false⟩ L,c0,c1,g⟩ false).1 ∧ (MS.rsEnd ⟨sy (curX g N TF) ⟨KT,l,TT,false⟩ L,c0,c1,g⟩ false).1.c0 = true ∧ (MS.rsEnd ⟨sy (curX g N TF) ⟨KT,l,TT,false⟩ L,c0,c1,g⟩ false).1.c1 = true:=by
 have e1 : (sy (curX g N TF) ⟨KT,l,TT,false⟩ L).fl true = sy (curX g N TF) ⟨z :: N,[],TT ++ [-1],false⟩ L:=by rw [← h];rfl
 have hq : 0 < (supS g (N.length + 1) :: N).length:=Nat.succ_pos _
 have hq2 : 0 < (z :: N).length:=Nat.succ_pos _
 obtain ⟨a1,a2⟩:=wr_false (X1:=⟨z :: N,[],TT ++ [-1],false⟩) (l:=[]) (T:=TF) (L:=L) hq (supS_size (g + 1) (N.length + 1))
 obtain ⟨b1,b2⟩:=wr_true (X0:=⟨supS g (N.length + 1) :: N,[] ++ [(0,supS (g + 1) (N.length + 1))],TF ++ [((0 : Nat) : Int)],false⟩) (l:=[]) (T:=TT ++ [-1]) (L:=L) hq2 (supS_size (g + 1) (N.length + 1))
 have e2 : MS.rsEnd ⟨sy (curX g N TF) ⟨KT,l,TT,false⟩ L,c0,c1,g⟩ false = (⟨sy (curX (g + 1) N ((TF ++ [0]) ++ [-1])) (curX (g + 1) N (((TT ++ [-1]) ++ [0]) ++ [-1])) L,true,true,g + 1⟩,0):=by
  unfold MS.rsEnd
  show (if ((sy (curX g N TF) ⟨KT,l,TT,false⟩ L).fl true).wrC false ((0 : Nat) : Int) (supS (g + 1) (((sy (curX g N TF) ⟨KT,l,TT,false⟩ L).fl true).len false)) = 0 then (MS.mk (((((((sy (curX g N TF) ⟨KT,l,TT,false⟩ L).fl true)).wr false ((0 : Nat) : Int) (supS (g + 1) (((sy (curX g N TF) ⟨KT,l,TT,false⟩ L).fl true).len false))).wr true ((0 : Nat) : Int) (supS (g + 1) (((sy (curX g N TF) ⟨KT,l,TT,false⟩ L).fl true).len false))).fl false).fl true) true true (g + 1),(0 : Int)) else _) = _
  rw [e1,show (sy (curX g N TF) ⟨z :: N,[],TT ++ [-1],false⟩ L).len false = N.length + 1 from rfl]
  refine (if_pos a1).trans ?_
  rw [show (sy (curX g N TF) ⟨z :: N,[],TT ++ [-1],false⟩ L).wr false ((0 : Nat) : Int) (supS (g + 1) (N.length + 1)) = sy ⟨supS g (N.length + 1) :: N,[] ++ [(0,supS (g + 1) (N.length + 1))],TF ++ [((0 : Nat) : Int)],false⟩ ⟨z :: N,[],TT ++ [-1],false⟩ L from a2]
  rw [show (sy ⟨supS g (N.length + 1) :: N,[] ++ [(0,supS (g + 1) (N.length + 1))],TF ++ [((0 : Nat) : Int)],false⟩ ⟨z :: N,[],TT ++ [-1],false⟩ L).wr true ((0 : Nat) : Int) (supS (g + 1) (N.length + 1)) = sy ⟨supS g (N.length + 1) :: N,[] ++ [(0,supS (g + 1) (N.length + 1))],TF ++ [((0 : Nat) : Int)],false⟩ ⟨z :: N,[] ++ [(0,supS (g + 1) (N.length + 1))],(TT ++ [-1]) ++ [((0 : Nat) : Int)],false⟩ L from b2]
  rfl
 rw [e2]
 exact ⟨rfl,.both _ _ _ _,rfl,rfl⟩
theorem rsEnd_true (h : setX KT l = z :: N) : (MS.rsEnd ⟨sy ⟨KT,l,TT,false⟩ (curX g N TF) L,c0,c1,g⟩ true).2 = 0 ∧ Snd N (MS.rsEnd ⟨sy ⟨KT,l,TT,false⟩ (curX g N TF) L,c0,c1,g⟩ true).1 ∧ (MS.rsEnd ⟨sy ⟨KT,l,TT,false⟩ (curX g N TF) L,c0,c1,g⟩ true).1.c0 = true ∧ (MS.rsEnd ⟨sy ⟨KT,l,TT,false⟩ (curX g N TF) L,c0,c1,g⟩ true).1.c1 = true:=by
 have e1 : (sy ⟨KT,l,TT,false⟩ (curX g N TF) L).fl false = sy ⟨z :: N,[],TT ++ [-1],false⟩ (curX g N TF) L:=by rw [← h];rfl
 have hq : 0 < (supS g (N.length + 1) :: N).length:=Nat.succ_pos _
 have hq2 : 0 < (z :: N).length:=Nat.succ_pos _
 obtain ⟨a1,a2⟩:=wr_true (X0:=⟨z :: N,[],TT ++ [-1],false⟩) (l:=[]) (T:=TF) (L:=L) hq (supS_size (g + 1) (N.length + 1))
 obtain ⟨b1,b2⟩:=wr_false (X1:=⟨supS g (N.length + 1) :: N,[] ++ [(0,supS (g + 1) (N.length + 1))],TF ++ [((0 : Nat) : Int)],false⟩) (l:=[]) (T:=TT ++ [-1]) (L:=L) hq2 (supS_size (g + 1) (N.length + 1))
 have e2 : MS.rsEnd ⟨sy ⟨KT,l,TT,false⟩ (curX g N TF) L,c0,c1,g⟩ true = (⟨sy (curX (g + 1) N (((TT ++ [-1]) ++ [0]) ++ [-1])) (curX (g + 1) N ((TF ++ [0]) ++ [-1])) L,true,true,g + 1⟩,0):=by
  unfold MS.rsEnd
  show (if ((sy ⟨KT,l,TT,false⟩ (curX g N TF) L).fl false).wrC true ((0 : Nat) : Int) (supS (g + 1) (((sy ⟨KT,l,TT,false⟩ (curX g N TF) L).fl false).len true)) = 0 then (MS.mk (((((((sy ⟨KT,l,TT,false⟩ (curX g N TF) L).fl false)).wr true ((0 : Nat) : Int) (supS (g + 1) (((sy ⟨KT,l,TT,false⟩ (curX g N TF) L).fl false).len true))).wr false ((0 : Nat) : Int) (supS (g + 1) (((sy ⟨KT,l,TT,false⟩ (curX g N TF) L).fl false).len true))).fl true).fl false) true true (g + 1),(0 : Int)) else _) = _
  rw [e1,show (sy ⟨z :: N,[],TT ++ [-1],false⟩ (curX g N TF) L).len true = N.length + 1 from rfl]
  refine (if_pos a1).trans ?_
  rw [show (sy ⟨z :: N,[],TT ++ [-1],false⟩ (curX g N TF) L).wr true ((0 : Nat) : Int) (supS (g + 1) (N.length + 1)) = sy ⟨z :: N,[],TT ++ [-1],false⟩ ⟨supS g (N.length + 1) :: N,[] ++ [(0,supS (g + 1) (N.length + 1))],TF ++ [((0 : Nat) : Int)],false⟩ L from a2]
  rw [show (sy ⟨z :: N,[],TT ++ [-1],false⟩ ⟨supS g (N.length + 1) :: N,[] ++ [(0,supS (g + 1) (N.length + 1))],TF ++ [((0 : Nat) : Int)],false⟩ L).wr false ((0 : Nat) : Int) (supS (g + 1) (N.length + 1)) = sy ⟨z :: N,[] ++ [(0,supS (g + 1) (N.length + 1))],(TT ++ [-1]) ++ [((0 : Nat) : Int)],false⟩ ⟨supS g (N.length + 1) :: N,[] ++ [(0,supS (g + 1) (N.length + 1))],TF ++ [((0 : Nat) : Int)],false⟩ L from b2]
  rfl
 rw [e2]
 exact ⟨rfl,.both _ _ _ _,rfl,rfl⟩
theorem rsF_false (hN : ∀ x ∈ N,x.size = 512) (hK : K.length = N.length) : (MS.rsF ⟨sy (curX g N TF) ⟨z :: K,[],TT,false⟩ L,c0,c1,g⟩ false).2.2 = 0 ∧ Snd N (MS.rsF ⟨sy (curX g N TF) ⟨z :: K,[],TT,false⟩ L,c0,c1,g⟩ false).1 ∧ (MS.rsF ⟨sy (curX g N TF) ⟨z :: K,[],TT,false⟩ L,c0,c1,g⟩ false).1.c0 = true ∧ (MS.rsF ⟨sy (curX g N TF) ⟨z :: K,[],TT,false⟩ L,c0,c1,g⟩ false).1.c1 = true:=by
 have hz : ∀ x ∈ supS g (N.length + 1) :: N,x.size = 512:=fun x hx => by
  rcases List.mem_cons.1 hx with rfl | hx
  · exact supS_size _ _
  · exact hN x hx
 obtain ⟨l',TT',n',h1,h2⟩:=run_false (KF:=supS g (N.length + 1) :: N) (KT:=z :: K) (TF:=TF) (L:=L) N.length 1 0 [] TT (by simp;omega) (by simp [hK]) hz
 have hs:=set_end h2 hK
 have e : MS.rsF ⟨sy (curX g N TF) ⟨z :: K,[],TT,false⟩ L,c0,c1,g⟩ false = ((MS.rsEnd ⟨sy (curX g N TF) ⟨z :: K,l',TT',false⟩ L,c0,c1,g⟩ false).1,n',(MS.rsEnd ⟨sy (curX g N TF) ⟨z :: K,l',TT',false⟩ L,c0,c1,g⟩ false).2):=by
  refine (if_neg (show ¬ (false = true) by decide)).trans ?_
  have h3 : RS.run false ((MS.mk (sy (curX g N TF) ⟨z :: K,[],TT,false⟩ L) c0 c1 g).s.len false - 1) 1 ⟨sy (curX g N TF) ⟨z :: K,[],TT,false⟩ L,0⟩ = (⟨sy (curX g N TF) ⟨z :: K,l',TT',false⟩ L,n'⟩,true):=h1
  show MS.rsMain _ false (RS.run false ((MS.mk (sy (curX g N TF) ⟨z :: K,[],TT,false⟩ L) c0 c1 g).s.len false - 1) 1 ⟨sy (curX g N TF) ⟨z :: K,[],TT,false⟩ L,0⟩) = _
  rw [h3]
  rfl
 rw [e]
 generalize hR : MS.rsEnd _ false = R at *
 have h9:=rsEnd_false (g:=g) (TF:=TF) (L:=L) (c0:=c0) (c1:=c1) hs (TT:=TT')
 rw [hR] at h9
 exact h9
theorem rsF_true (hN : ∀ x ∈ N,x.size = 512) (hK : K.length = N.length) : (MS.rsF ⟨sy ⟨z :: K,[],TT,false⟩ (curX g N TF) L,c0,c1,g⟩ true).2.2 = 0 ∧ Snd N (MS.rsF ⟨sy ⟨z :: K,[],TT,false⟩ (curX g N TF) L,c0,c1,g⟩ true).1 ∧ (MS.rsF ⟨sy ⟨z :: K,[],TT,false⟩ (curX g N TF) L,c0,c1,g⟩ true).1.c0 = true ∧ (MS.rsF ⟨sy ⟨z :: K,[],TT,false⟩ (curX g N TF) L,c0,c1,g⟩ true).1.c1 = true:=by
 have hz : ∀ x ∈ supS g (N.length + 1) :: N,x.size = 512:=fun x hx => by
  rcases List.mem_cons.1 hx with rfl | hx
  · exact supS_size _ _
  · exact hN x hx
 obtain ⟨l',TT',n',h1,h2⟩:=run_true (KF:=supS g (N.length + 1) :: N) (KT:=z :: K) (TF:=TF) (L:=L) N.length 1 0 [] TT (by simp;omega) (by simp [hK]) hz
 have hs:=set_end h2 hK
 have e : MS.rsF ⟨sy ⟨z :: K,[],TT,false⟩ (curX g N TF) L,c0,c1,g⟩ true = ((MS.rsEnd ⟨sy ⟨z :: K,l',TT',false⟩ (curX g N TF) L,c0,c1,g⟩ true).1,n',(MS.rsEnd ⟨sy ⟨z :: K,l',TT',false⟩ (curX g N TF) L,c0,c1,g⟩ true).2):=by
  refine (if_neg (show ¬ (false = true) by decide)).trans ?_
  have h3 : RS.run true ((MS.mk (sy ⟨z :: K,[],TT,false⟩ (curX g N TF) L) c0 c1 g).s.len true - 1) 1 ⟨sy ⟨z :: K,[],TT,false⟩ (curX g N TF) L,0⟩ = (⟨sy ⟨z :: K,l',TT',false⟩ (curX g N TF) L,n'⟩,true):=h1
  show MS.rsMain _ true (RS.run true ((MS.mk (sy ⟨z :: K,[],TT,false⟩ (curX g N TF) L) c0 c1 g).s.len true - 1) 1 ⟨sy ⟨z :: K,[],TT,false⟩ (curX g N TF) L,0⟩) = _
  rw [h3]
  rfl
 rw [e]
 generalize hR : MS.rsEnd _ true = R at *
 have h9:=rsEnd_true (g:=g) (TF:=TF) (L:=L) (c0:=c0) (c1:=c1) hs (TT:=TT')
 rw [hR] at h9
 exact h9
theorem alv_both (h : Snd N M) (h0 : M.c0 = true) (h1 : M.c1 = true) : Alv M:=by
 cases h with
 | both T0 T1 L g => exact fun b => by cases b <;> rfl
 | one0 T0 T1 K dd L g hK => cases h1
 | one1 T0 T1 K dd L g hK => cases h0
theorem snd_rs (hN : ∀ x ∈ N,x.size = 512) (h : Snd N M) : M.rs.2.2 = 0 ∧ Snd N M.rs.1 ∧ Alv M.rs.1:=by
 have ha:=snd_any h
 have e : M.rs = M.rsF (!M.c0):=if_pos ha
 rw [e]
 cases h with
 | both T0 T1 L g =>
   obtain ⟨a,b,c,d⟩:=rsF_false (TF:=T0) (TT:=T1) (L:=L) (c0:=true) (c1:=true) (z:=supS g (N.length + 1)) (g:=g) hN rfl
   exact ⟨a,b,alv_both b c d⟩
 | one0 T0 T1 K dd L g hK =>
   cases dd with
   | false =>
     obtain ⟨a,b,c,d⟩:=rsF_false (TF:=T0) (TT:=T1) (L:=L) (c0:=true) (c1:=false) (z:=Zs) (g:=g) hN hK
     exact ⟨a,b,alv_both b c d⟩
   | true =>
     have e2 : MS.rsF ⟨sy (curX g N T0) (nonX K T1 true) L,true,false,g⟩ false = (⟨sy (curX g N T0) (nonX K T1 true) L,true,false,g⟩,0,0):=if_pos (show true = true from rfl)
     rw [show (!(MS.mk (sy (curX g N T0) (nonX K T1 true) L) true false g).c0) = false from rfl,e2]
     exact ⟨rfl,.one0 _ _ K true _ _ hK,fun b => by cases b <;> rfl⟩
 | one1 T0 T1 K dd L g hK =>
   cases dd with
   | false =>
     obtain ⟨a,b,c,d⟩:=rsF_true (TF:=T1) (TT:=T0) (L:=L) (c0:=false) (c1:=true) (z:=Zs) (g:=g) hN hK
     exact ⟨a,b,alv_both b c d⟩
   | true =>
     have e2 : MS.rsF ⟨sy (nonX K T0 true) (curX g N T1) L,false,true,g⟩ true = (⟨sy (nonX K T0 true) (curX g N T1) L,false,true,g⟩,0,0):=if_pos (show true = true from rfl)
     rw [show (!(MS.mk (sy (nonX K T0 true) (curX g N T1) L) false true g).c0) = true from rfl,e2]
     exact ⟨rfl,.one1 _ _ K true _ _ hK,fun b => by cases b <;> rfl⟩
theorem snd_made (n : Nat) (L : List Nat) : Snd (List.replicate n Zs) ⟨(sy (newXD (n + 1)) (newXD (n + 1)) L).made,true,true,1⟩:=by
 have hq : 0 < (List.replicate (n + 1) Zs).length:=by simp
 have el : (List.replicate (n + 1) Zs).length = n + 1:=by simp
 obtain ⟨_,a2⟩:=wr_false (X1:=newXD (n + 1)) (l:=[]) (T:=[]) (L:=L) hq (supS_size 1 (n + 1))
 obtain ⟨_,b2⟩:=wr_true (X0:=⟨List.replicate (n + 1) Zs,[] ++ [(0,supS 1 (n + 1))],[] ++ [((0 : Nat) : Int)],false⟩) (l:=[]) (T:=[]) (L:=L) hq (supS_size 1 (n + 1))
 have e : (sy (newXD (n + 1)) (newXD (n + 1)) L).made = sy (curX 1 (List.replicate n Zs) (([] ++ [0]) ++ [-1])) (curX 1 (List.replicate n Zs) (([] ++ [0]) ++ [-1])) L:=by
  have e1 : (sy (newXD (n + 1)) (newXD (n + 1)) L).st false 1 = sy ⟨List.replicate (n + 1) Zs,[] ++ [(0,supS 1 (n + 1))],[] ++ [((0 : Nat) : Int)],false⟩ (newXD (n + 1)) L:=by
   unfold Sys.st
   rw [show (sy (newXD (n + 1)) (newXD (n + 1)) L).len false = n + 1 from el]
   exact a2
  have e2 : (sy ⟨List.replicate (n + 1) Zs,[] ++ [(0,supS 1 (n + 1))],[] ++ [((0 : Nat) : Int)],false⟩ (newXD (n + 1)) L).st true 1 = sy ⟨List.replicate (n + 1) Zs,[] ++ [(0,supS 1 (n + 1))],[] ++ [((0 : Nat) : Int)],false⟩ ⟨List.replicate (n + 1) Zs,[] ++ [(0,supS 1 (n + 1))],[] ++ [((0 : Nat) : Int)],false⟩ L:=by
   unfold Sys.st
   rw [show (sy ⟨List.replicate (n + 1) Zs,[] ++ [(0,supS 1 (n + 1))],[] ++ [((0 : Nat) : Int)],false⟩ (newXD (n + 1)) L).len true = n + 1 from el]
   exact b2
  unfold Sys.made
  rw [e1,e2]
  unfold curX
  rw [List.length_replicate]
  rfl
 rw [e]
 exact .both _ _ _ _
end
theorem mt_dOf_new (n : Nat) : dOf (newXD n) = newSD n:=by
 unfold newXD newSD dOf
 rw [nowL_nil]
 simp only [List.map_replicate,List.map_nil]
 rfl
theorem mt_newXD_good {n : Nat} (h1 : 1 ≤ n) (h2 : n ≤ 16384) : XGood (newXD n):=⟨by simp [newXD];omega,by simp [newXD];omega,fun s hs => by
 simp only [newXD] at hs
 rw [List.eq_of_mem_replicate hs]
 show zsec.toArray.size = 512
 rw [List.size_toArray]
 exact List.length_replicate,fun p hp => by simp [newXD] at hp⟩
theorem newp_ok {w : World} (n : Nat) (h1 : 1 ≤ n) (h2 : n ≤ 16384) :
 Calls Tryz.prog 21 #[.int .i64 n] w fun e w' => ∃ d F,e = .returned (.tuple #[.pointer (some ⟨d,0,none⟩),.int .i64 0]) ∧ Rep w' d (newSD n) none F ∧ Pln w' d ∧ Fr [] w w' ∧ ∀ x ∈ F,w.heap.size ≤ x:=by
 obtain ⟨i73,z73,hi73,hz73,hs73,hb73,hzc73⟩:=inf73
 have Hi:=hid hi73
 have Hz:=hid hz73
 have Hs:=hid hs73
 have Hb:=hid hb73
 have Hzc:=hid hzc73
 clear hi73 hz73 hs73 hb73 hzc73
 go_enter Tryz.func21,Tryz.ntmps21
 go_wp2_with fail
 obtain ⟨ι,W,hι,hW1,hW2,hW0⟩:=family (fun w' => True) (w:=w.drew) trivial
 have HW1:=hid hW1
 have HW2:=hid hW2
 have HW0:=hid hW0
 clear hW1 hW2 hW0
 refine wp_region_X (fun w' => ∃ j,w' = W j) true (by kernel_rfl) ?_
 refine WX.pure [0,2] (by kernel_rfl) HW0.out ?_
 simp only [pick,aF,aG,aI,aJ,aK]
 repeat (go_big_quiet_step (fail))
 refine wpQuiet_nil ?_
 refine WX.eff2 1 3 (by kernel_rfl) ?_ ?_
 · simp only [pick,aF,aG,aI,aJ,aK]
   refine wpList_make rfl _ _ _ rfl n n .i64 .i64 rfl rfl 74 _ _ _ 512 512 Tryz.underlying67 Hi.out Hz.out Hs.out Hb.out Hzc.out (by decide) (Nat.le_refl _) (by omega) (by omega) ?_
   intro hb1
   refine wpList_nil ?_
   simp only [aA,aB,Act.put,aC,aD,aE]
   refine After.on (HW2.out _ trivial) ?_
   refine WX.eff 3 (by kernel_rfl) ?_
   simp only [pick,aF,aG,aI,aJ,aK]
   refine wpList_make rfl _ _ _ rfl n n .i64 .i64 rfl rfl 74 _ _ _ 512 512 Tryz.underlying67 Hi.out Hz.out Hs.out Hb.out Hzc.out (by decide) (Nat.le_refl _) (by omega) (by omega) ?_
   intro hb2
   refine wpList_nil ?_
   simp only [aA,aB,Act.put,aC,aD,aE]
   refine After.on (HW2.out _ trivial) ?_
   refine WX.pure [4] (by kernel_rfl) (HW2.out _ trivial) ?_
   simp only [pick,aF,aG,aI,aJ,aK]
   repeat (go_big_quiet_step (fail))
   refine wpQuiet_nil ?_
   refine WX.eff 5 (by kernel_rfl) ?_
   simp only [pick,aF,aG,aI,aJ,aK]
   go_wp2_with fail
   refine After.on (HW2.out _ trivial) ?_
   refine WX.pure [6,7] (by kernel_rfl) (HW2.out _ trivial) ?_
   simp only [pick,aF,aG,aI,aJ,aK]
   repeat (go_big_quiet_step (fail))
   refine wpQuiet_nil ?_
   refine WX.done (by kernel_rfl) ?_
   go_wp2_with fail
   refine bodyPost_ret (results_tmp2 rfl _ _ _) rfl ?_
   have e1 : Blk (w.alloc (.cells (Array.replicate (n * 512) (bt 0)) 74)) w.heap.size (List.replicate (n * 512) (bt 0)):=by
    have:=Blk.allocArr w (Array.replicate (n * 512) (bt 0)) 74
    rwa [Array.toList_replicate] at this
   have e2:=Blk.allocArr (w.alloc (.cells (Array.replicate (n * 512) (bt 0)) 74)) (Array.replicate (n * 512) (bt 0)) 74
   rw [Array.toList_replicate,World.size_alloc] at e2
   have e3:=Blk.allocArr ((w.alloc (.cells (Array.replicate (n * 512) (bt 0)) 74)).alloc (.cells (Array.replicate (n * 512) (bt 0)) 74)) #[Value.slice (some ⟨w.heap.size,0,none⟩) n n,.slice (some ⟨w.heap.size + 1,0,none⟩) n n,.slice none 0 0,.slice none 0 0,.bool false,.pointer none] 71
   have e4:=Pln.alloc ((w.alloc (.cells (Array.replicate (n * 512) (bt 0)) 74)).alloc (.cells (Array.replicate (n * 512) (bt 0)) 74)) #[Value.slice (some ⟨w.heap.size,0,none⟩) n n,.slice (some ⟨w.heap.size + 1,0,none⟩) n n,.slice none 0 0,.slice none 0 0,.bool false,.pointer none] 71
   rw [World.size_alloc,World.size_alloc] at e3
   rw [World.size_alloc,World.size_alloc] at e4
   refine ⟨w.heap.size + 1 + 1,_,rfl,new_fin h1 h2 ((e1.old _).old _).drew (e2.old _).drew e3.drew (by omega) (by omega) (by omega),e4,((((Fr.refl [] w).alloc _).alloc _).alloc _).drew,fun x hx => by simp at hx;omega⟩
 · simp only [pick,aF,aG,aI,aJ,aK]
   refine wpList_make rfl _ _ _ rfl n n .i64 .i64 rfl rfl 74 _ _ _ 512 512 Tryz.underlying67 Hi.out Hz.out Hs.out Hb.out Hzc.out (by decide) (Nat.le_refl _) (by omega) (by omega) ?_
   intro hb1
   refine wpList_nil ?_
   simp only [aA,aB,Act.put,aC,aD,aE]
   refine After.on (HW2.out _ trivial) ?_
   refine WX.eff 1 (by kernel_rfl) ?_
   simp only [pick,aF,aG,aI,aJ,aK]
   refine wpList_make rfl _ _ _ rfl n n .i64 .i64 rfl rfl 74 _ _ _ 512 512 Tryz.underlying67 Hi.out Hz.out Hs.out Hb.out Hzc.out (by decide) (Nat.le_refl _) (by omega) (by omega) ?_
   intro hb2
   refine wpList_nil ?_
   simp only [aA,aB,Act.put,aC,aD,aE]
   refine After.on (HW2.out _ trivial) ?_
   refine WX.pure [4] (by kernel_rfl) (HW2.out _ trivial) ?_
   simp only [pick,aF,aG,aI,aJ,aK]
   repeat (go_big_quiet_step (fail))
   refine wpQuiet_nil ?_
   refine WX.eff 5 (by kernel_rfl) ?_
   simp only [pick,aF,aG,aI,aJ,aK]
   go_wp2_with fail
   refine After.on (HW2.out _ trivial) ?_
   refine WX.pure [6,7] (by kernel_rfl) (HW2.out _ trivial) ?_
   simp only [pick,aF,aG,aI,aJ,aK]
   repeat (go_big_quiet_step (fail))
   refine wpQuiet_nil ?_
   refine WX.done (by kernel_rfl) ?_
   go_wp2_with fail
   refine bodyPost_ret (results_tmp2 rfl _ _ _) rfl ?_
   have e1 : Blk (w.alloc (.cells (Array.replicate (n * 512) (bt 0)) 74)) w.heap.size (List.replicate (n * 512) (bt 0)):=by
    have:=Blk.allocArr w (Array.replicate (n * 512) (bt 0)) 74
    rwa [Array.toList_replicate] at this
   have e2:=Blk.allocArr (w.alloc (.cells (Array.replicate (n * 512) (bt 0)) 74)) (Array.replicate (n * 512) (bt 0)) 74
   rw [Array.toList_replicate,World.size_alloc] at e2
   have e3:=Blk.allocArr ((w.alloc (.cells (Array.replicate (n * 512) (bt 0)) 74)).alloc (.cells (Array.replicate (n * 512) (bt 0)) 74)) #[Value.slice (some ⟨w.heap.size + 1,0,none⟩) n n,.slice (some ⟨w.heap.size,0,none⟩) n n,.slice none 0 0,.slice none 0 0,.bool false,.pointer none] 71
   have e4:=Pln.alloc ((w.alloc (.cells (Array.replicate (n * 512) (bt 0)) 74)).alloc (.cells (Array.replicate (n * 512) (bt 0)) 74)) #[Value.slice (some ⟨w.heap.size + 1,0,none⟩) n n,.slice (some ⟨w.heap.size,0,none⟩) n n,.slice none 0 0,.slice none 0 0,.bool false,.pointer none] 71
   rw [World.size_alloc,World.size_alloc] at e3
   rw [World.size_alloc,World.size_alloc] at e4
   refine ⟨w.heap.size + 1 + 1,_,rfl,new_fin h1 h2 (e2.old _).drew ((e1.old _).old _).drew e3.drew (by omega) (by omega) (by omega),e4,((((Fr.refl [] w).alloc _).alloc _).alloc _).drew,fun x hx => by simp at hx;omega⟩
def dd2 (d0 d1 : Nat) (b : Bool) : Nat:=if b then d1 else d0
def ff2 (F0 F1 : List Nat) (b : Bool) : List Nat:=if b then F1 else F0
theorem sy_ok {X0 X1 : XD} (h0 : XGood X0) (h1 : XGood X1) (L : List Nat) : SysOk (sy X0 X1 L):=⟨fun b => by cases b;exact h0;exact h1,fun b j hj => by cases b <;> cases hj⟩
theorem pows0 (w : World) : (Res.pows [] []).On w:=⟨fun w w' hs h => pows_loc hs h,⟨rfl,fun j b n hb hn => by simp at hb⟩,fun b hb => by simp [Res.pows] at hb,List.nodup_nil⟩
theorem dk_new {w : World} {d n : Nat} {F : List Nat} (h : Rep w d (newSD n) none F) (hp : Pln w d) (pbs : List Nat) : (dk d (newXD n) pbs none F).On w:=by
 rw [← mt_dOf_new] at h
 exact On.dk (k:=none) (lf:=none) h rfl hp
def Sys.fa (s : Sys) (b : Bool) : Sys:=s.put b (faX (s.X b)) (s.lf b)
def Sys.rp (s : Sys) (b : Bool) : Sys:=s.put b { s.X b with Dead:=false } (s.lf b)
theorem fa_stp (s : Sys) (b : Bool) : Stp 0 s (s.fa b):=put_stp (fun g => faX_good g) (fun g => by simp [faX]) (fun g => by simp [faX])
theorem rp_stp (s : Sys) (b : Bool) : Stp 0 s (s.rp b):=put_stp (fun g => g.dead false) (fun g => rfl) (fun g => Nat.le_refl _)
section
variable {w w' w0 : World} {l rs : List Res} {pbs : List Nat} {m : Nat} {s : Sys} {M M' : MS} {d : Bool → Nat} {FF FF' : Bool → List Nat}
theorem sFail (b : Bool) (h : Held w (l ++ sysC pbs s d FF)) (ok : SysOk s) :
 Calls Tryz.prog 7 #[.pointer (some ⟨d b,0,none⟩)] w fun e w' => e = .returned (.int .i64 0) ∧ ∃ FF',Ev w (l ++ sysC pbs s d FF) w' (l ++ sysC pbs (s.fa b) d FF'):=by
 have hp:=sys_part b h
 refine (cfail_c (one_op hp (ok.k b))).mono ?_
 rintro e w' ⟨rfl,F',ev⟩
 exact ⟨rfl,_,sys_lift b (Ev.refl h) (one_put hp (ok.k b) (lf_some s b) ev)⟩
theorem sReplace (b : Bool) (h : Held w (l ++ sysC pbs s d FF)) (ok : SysOk s) :
 Calls Tryz.prog 9 #[.pointer (some ⟨d b,0,none⟩)] w fun e w' => e = .returned (.int .i64 (if (s.X b).Dead then 0 else 3)) ∧ ∃ FF',Ev w (l ++ sysC pbs s d FF) w' (l ++ sysC pbs (s.rp b) d FF'):=by
 have hp:=sys_part b h
 refine (creplace_c (one_op hp (ok.k b))).mono ?_
 rintro e w' ⟨rfl,ev⟩
 exact ⟨rfl,_,sys_lift b (Ev.refl h) (one_put hp (ok.k b) (lf_some s b) ev)⟩
end
def fill7 (c : UInt8) : ByteArray:=⟨(List.replicate 512 c).toArray⟩
theorem fill7_size (c : UInt8) : (fill7 c).size = 512:=by unfold fill7;rw [size_mk',List.length_replicate]
section
variable {N K : List ByteArray} {M : MS} {g : UInt64} {T T0 T1 : List Int} {L : List Nat} {dd : Bool} {k : Nat} {S : ByteArray}
end
theorem flushM_stp (M : MS) : Stp 12 M.s M.flushM.s:=by
 unfold MS.flushM
 split
 · exact eachF_stp M
 · exact (Stp.refl _).mono (by omega)
theorem wrM_stp (M : MS) (i : Int) (S : ByteArray) : Stp 12 M.s (M.wrM i S).s:=by
 unfold MS.wrM
 split
 · split
   · exact eachW_stp M _ _
   · exact (Stp.refl _).mono (by omega)
 · exact (Stp.refl _).mono (by omega)
theorem rd1_stp (M : MS) (i : Int) : Stp 4 M.s (M.rd1 i).1.s:=by
 unfold MS.rd1
 split
 · split
   · exact (Stp.refl _).mono (by omega)
   · exact lose_stp M true
 · exact (Stp.refl _).mono (by omega)
theorem rd_stp (M : MS) (i : Int) : Stp 8 M.s (M.rd i).1.s:=by
 unfold MS.rd
 split
 · unfold MS.rd0
   split
   · split
     · exact (Stp.refl _).mono (by omega)
     · exact (lose_stp M false).trans (rd1_stp _ i)
   · exact (rd1_stp M i).mono (by omega)
 · exact (Stp.refl _).mono (by omega)
theorem ot_stp (M : MS) (i : Int) : Stp 4 M.s (M.ot i).1.s:=by
 unfold MS.ot
 split
 · split
   · unfold MS.ot1
     split
     · exact (Stp.refl _).mono (by omega)
     · exact lose_stp M true
   · exact (Stp.refl _).mono (by omega)
 · exact (Stp.refl _).mono (by omega)
theorem sy_T (n0 n1 : Nat) (L : List Nat) : (sy (newXD n0) (newXD n1) L).T = 0:=rfl
theorem sy_len (n0 n1 : Nat) (L : List Nat) : (sy (newXD n0) (newXD n1) L).len false = n0 ∧ (sy (newXD n0) (newXD n1) L).len true = n1:=⟨List.length_replicate,List.length_replicate⟩
end Go.Proofs.YtgafefecookgaaaGreat
