/- Layer 8 (great seat): VolumePlays, the walk (printed by vop/gen_plays.py). -/
import Derived.Test.YtgafefecookgaaaGreatGVpB
open Go.World renaming size_alloc → aA,size_drew → aB
open Go.Xr renaming quiet_load_1R → qL
open Go renaming wpQuiet_nil → qN
open List renaming setIfInBounds_toArray → aC,set_cons_succ → aD,set_cons_zero → aE,toList_toArray → aF,map_cons → aG,map_nil → aI,getD_cons_succ → aJ,getD_cons_zero → aK
set_option linter.unusedVariables false
set_option linter.unusedSimpArgs false
set_option maxRecDepth 20000
set_option maxHeartbeats 16000000
namespace Go.Proofs.YtgafefecookgaaaGreat
open Go Go.Xr Go.RowKit
section
variable {w : World}
theorem volumePlays_walk (pairs sectors : Int) {v0 : Value} {l : List Step8} {LB : Option Nat} (hl : Rc w 5 v0 l.length (l.flatMap stc8) LB) (hlok : ∀ s ∈ l,StOk8 w s) (hlm : l.length ≤ maxLen) :
 Calls Tryz.prog 3 #[.int .i64 pairs,.int .i64 sectors,v0] w fun e w' => e = .returned (.bool true) ∧ Fr [] w w':=by
 obtain ⟨la,lc,rfl⟩:=hl.isSlice
 unfold maxLen at hlm
 have HA:=hid valive_any
 obtain ⟨q4,hq4,hqe⟩:=v_and16 pairs
 obtain ⟨k',hk'⟩ : ∃ k',q4 % 4 = k':=⟨_,rfl⟩
 have hk4 : k' < 4:=by omega
 obtain ⟨k,hn⟩ : ∃ k,1 + k' = k:=⟨_,rfl⟩
 obtain ⟨K,hK⟩ : ∃ K,2 * k = K:=⟨_,rfl⟩
 obtain ⟨q5,hq5,hqf⟩:=v_and16 sectors
 obtain ⟨l',hl'⟩ : ∃ l',q5 % 4 = l':=⟨_,rfl⟩
 have hl4 : l' < 4:=by omega
 obtain ⟨L,hL⟩ : ∃ L,1 + l' = L:=⟨_,rfl⟩
 have hrem1:=fun ty => vrem ty q4 4 (by omega) (by decide)
 rw [hk',show ((4 : Nat) : Int) = 4 from rfl] at hrem1
 have hrem2:=fun ty => vrem ty q5 4 (by omega) (by decide)
 rw [hl',show ((4 : Nat) : Int) = 4 from rfl] at hrem2
 have had1:=fun ty => v_add ty 1 k' k hn (by omega)
 have hmu1:=fun ty => v_mul ty 2 k K hK (by omega)
 have had2:=fun ty => v_add ty 2 l' (L + 1) (by omega) (by omega)
 rw [show ((1 : Nat) : Int) = 1 from rfl] at had1
 rw [show ((2 : Nat) : Int) = 2 from rfl] at hmu1
 rw [show ((2 : Nat) : Int) = 2 from rfl] at had2
 have HD:=hid fun (w1 : World) => jdisks_any (w:=w1) (k:=k) (n:=L + 1) (by omega) (by omega) (by omega) (by omega)
 rw [hK] at HD
 have HKK:=hid hK
 have HK1:=hid (show 1 ≤ k ∧ k ≤ 4 by omega)
 have HL1:=hid (show 1 ≤ L ∧ L ≤ 4 by omega)
 obtain ⟨L1,hL1⟩ : ∃ L1 : Nat,L + 1 = L1:=⟨_,rfl⟩
 rw [hL1] at had2
 have HDn : Hid (Calls Tryz.prog 4 #[.int .i64 (K : Int),.int .i64 (L1 : Int)] w fun e w' => ∃ (B1 c1 B2 c2 : Nat) (D0 E0 : List (Bool → Nat)),e = .returned (.tuple #[.slice (some ⟨B1,0,none⟩) K c1,.slice (some ⟨B2,0,none⟩) K c2]) ∧ D0.length = k ∧ E0.length = k ∧
  JJ w w' [Res.own 1 (.slice (some ⟨B1,0,none⟩) K c1) K (rowD D0) (some B1),Res.own 1 (.slice (some ⟨B2,0,none⟩) K c2) K (rowD E0) (some B2)] D0 E0 none none (List.replicate k (ms0 (L + 1))) 0 (List.replicate k (ms0 (L + 1))) 0):=hid (by rw [← hL1];exact HD.out w)
 have hK8 : K ≤ 8:=by omega
 clear hk' hk4 hn hK hq4 hl' hl4 hL hq5 HD hL1
 go_enter Tryz.func3,Tryz.ntmps3
 go_wp2_with (first
  | (go_at_call 4;refine HDn.out.mono ?_;rintro e w1 ⟨B1,cb1,B2,cb2,D0,E0,rfl,hD,hE,j1⟩;have HDl:=hid hD;have HEl:=hid hE;have J1:=hid j1;clear hD hE j1 HDn;have nst:=hid trivial;revert nst))
 intro _
 have HMc:=hid (jmake_c (i0:=0) (v:=.slice (some ⟨B1,0,none⟩) K cb1) (B:=B1) J1.out (by rw [HKK.out];rfl) HK1.out.1 (by have:=HK1.out;omega) HL1.out.1 (by have:=HL1.out;omega))
 obtain ⟨l0,hl0⟩ : ∃ l0,l0 = [Res.own 1 (.slice (some ⟨B1,0,none⟩) K cb1) K (rowD D0) (some B1),Res.own 1 (.slice (some ⟨B2,0,none⟩) K cb2) K (rowD E0) (some B2)]:=⟨_,rfl⟩
 rw [← hl0] at HMc J1
 have HL0:=hid hl0
 clear hl0 J1
 have HMd:=hid fun (w1 : World) (X : VX) (h : JJ w w1 l0 D0 E0 (some X) none (List.replicate k (newM L)) 0 (List.replicate k (ms0 (L + 1))) 0) => jmake_d (i0:=1) (v:=.slice (some ⟨B2,0,none⟩) K cb2) (B:=B2) h (by rw [HL0.out,HKK.out];rfl) HK1.out.1 (by have:=HK1.out;omega) HL1.out.1 (by have:=HL1.out;omega)
 have M0 : Hid (MsOk k (L + 1) (100 + 100 * 0) (List.replicate k (newM L))):=hid ⟨List.length_replicate,fun M hM => by
  obtain rfl:=List.eq_of_mem_replicate hM
  obtain ⟨n1,n2,n3,n4⟩:=newM_ok L (by have:=HL1.out;omega)
  refine ⟨n1,fun b => ?_,by omega⟩
  have h1:=snd_len n4
  rw [List.length_replicate] at h1
  cases b
  · exact h1.1
  · exact h1.2⟩
 go_wp2_with (first
  | (go_at_call 5;refine HMc.out.mono ?_;rintro e w2 ⟨X1,rfl,ox,x1,x2,j2⟩;have J2:=hid j2;have OX:=hid (And.intro ox (And.intro x1 x2));have hmd:=hid (HMd.out _ _ j2);clear j2 ox x1 x2 HMc HMd)
  | (go_at_call 6;refine hmd.out.mono ?_;rintro e w3 ⟨Y1,rfl,oy,y1,j3⟩;have J3:=hid j3;have TT0 : Hid (Two k L X1 Y1):=hid ⟨OX.out.1,oy,OX.out.2.1,y1,OX.out.2.2⟩;clear j3 oy y1 hmd J2 OX))
 generalize List.replicate k (newM L) = Ms0 at *
 have HRowG : Hid (∀ (w1 : World) (r1 : Res) (X : Option VX) (Y : Option YX) (Na Oa : List MS) (na oa : Int),JJ w w1 (r1 :: l0) D0 E0 X Y Na na Oa oa → ∀ (p : Nat) (b : Bool) (d x : Bool → Nat),D0[p]? = some d → E0[p]? = some x → p < k → w1.cell? ⟨B1,2 * p + b.toNat,none⟩ = some (.pointer (some ⟨d b,0,none⟩)) ∧ w1.cell? ⟨B2,2 * p + b.toNat,none⟩ = some (.pointer (some ⟨x b,0,none⟩))):=hid fun w1 r1 X Y Na Oa na oa h p b d x hd hx hp => by
  rw [HL0.out,← HKK.out] at h
  have hk0 : 0 < k:=by have:=HK1.out;omega
  exact ⟨rowD_cell (h.held.ownAt 1 rfl) hk0 hd b hp,rowD_cell (h.held.ownAt 2 rfl) hk0 hx b hp⟩
 go_loopw [14,10,11,12,13] (fun iv vv ev yv fv wr => ∃ (i : Nat) (X : Option VX) (Y : Option YX) (Ms : List MS) (wt c : Int),i ≤ 50 ∧ i ≤ l.length ∧ iv = .int .i64 (i : Int) ∧ vv = vpX X ∧ ev = .int .i64 c ∧ yv = vpY Y ∧ fv = .int .i64 c ∧ Hid (MsOk k (L + 1) (100 + 100 * i) Ms) ∧ Hid (XYOk k L X Y) ∧ Hid (0 ≤ wt ∧ wt ≤ i) ∧ Hid (JJ w wr l0 D0 E0 X Y Ms wt Ms wt)) (fun iv _ _ _ _ _ => 50 - (intOf iv).toNat)
 case atStart => exact ⟨0,some X1,some Y1,Ms0,0,0,by omega,by omega,rfl,rfl,rfl,rfl,rfl,M0,TT0,hid (by omega),J3⟩
 case round =>
  clear J3 M0 TT0
  obtain ⟨i,X,Y,Ms,wt,c,hi,hil,rfl,rfl,rfl,rfl,rfl,AO,XY,WT,V⟩:=hrel
  by_cases hlt : i < 50 ∧ i < l.length
  · obtain ⟨hlt1,hlt2⟩:=hlt
    have g1 : decide ((i : Int) < 50) = true:=by simp;omega
    have g2 : decide (i < 50) = true:=by simp;omega
    have g3 : decide ((i : Int) < (l.length : Int)) = true:=by simp;omega
    have g4 : decide (i < l.length) = true:=by simp;omega
    have hfr : Fr [] w wr:=V.out.fr
    obtain ⟨b,off,cap,hv,hB,hblt,hcs⟩:=step_cell8 (hl.keep hfr (by simp)) i hlt2
    obtain ⟨rfl,rfl⟩ : la = some ⟨b,off,none⟩ ∧ lc = cap:=by simpa using hv
    have c0 : wr.cell? ⟨b,off + i * 5,none⟩ = some (.int .i64 l[i].Do):=by simpa [stc8] using hcs 0 (by decide)
    have c1 : wr.cell? ⟨b,off + i * 5 + 1,none⟩ = some (.int .i64 l[i].I):=by simpa [stc8] using hcs 1 (by decide)
    have c2 : wr.cell? ⟨b,off + i * 5 + 2,none⟩ = some (.int .i64 l[i].D):=by simpa [stc8] using hcs 2 (by decide)
    have c3 : wr.cell? ⟨b,off + i * 5 + 3,none⟩ = some (bt l[i].C):=by simpa [stc8] using hcs 3 (by decide)
    have c4 : wr.cell? ⟨b,off + i * 5 + 4,none⟩ = some l[i].Keep:=by simpa [stc8] using hcs 4 (by decide)
    have Hst:=hid (hlok l[i] (List.getElem_mem hlt2))
    generalize l[i] = s at *
    clear hcs hlok
    have Hone : Hid (∀ u ∈ stc8 s,u.oneCell' = true):=hid (by
     obtain ⟨ka,kc,hk⟩:=Hst.out.k.isSlice
     unfold stc8
     rw [hk]
     simp [Value.oneCell',bt])
    have HI50:=hid (And.intro hlt1 hlt2)
    obtain ⟨qd,hqd,hqde⟩:=v_and16 s.D
    obtain ⟨kd,hkd⟩ : ∃ kd,qd % K = kd:=⟨_,rfl⟩
    have hK0 : 0 < K:=by have:=HKK.out;have:=HK1.out;omega
    have hremD:=fun ty => vrem ty qd K (by omega) hK0
    have hkK : kd < K:=by rw [← hkd];exact Nat.mod_lt _ hK0
    rw [hkd] at hremD
    obtain ⟨p,bb,hp,hkp⟩:=half kd k (by rw [HKK.out];exact hkK)
    obtain ⟨d,hd'⟩ : ∃ d,D0[p]? = some d:=⟨_,List.getElem?_eq_getElem (by rw [HDl.out];exact hp)⟩
    obtain ⟨x,hx'⟩ : ∃ d,E0[p]? = some d:=⟨_,List.getElem?_eq_getElem (by rw [HEl.out];exact hp)⟩
    obtain ⟨M,hM'⟩ : ∃ M,Ms[p]? = some M:=⟨_,List.getElem?_eq_getElem (by rw [AO.out.1];exact hp)⟩
    have hd:=hid hd'
    have hx:=hid hx'
    have HMs:=hid hM'
    have hkd8 : (kd : Int) ≤ 8:=by omega
    have HKP:=hid hkp
    clear hkp hd' hx' hM' hkd hqd hfr hblt
    by_cases h5 : s.Do = 5
    · have u5 : (s.Do == 5) = true:=by simpa using h5
      clear h5
      have OKM:=AO.out.at HMs.out
      have hfc:=hid fun (w1 : World) (r1 : Res) (h : JJ w w1 (r1 :: l0) D0 E0 X Y Ms wt Ms wt) => jfail_c h HMs.out hd.out OKM.1 bb
      have hfd:=hid fun (w1 : World) (r1 : Res) (h : JJ w w1 (r1 :: l0) D0 E0 X Y (Ms.set p { M with s:=M.s.fa bb }) wt Ms wt) => jfail_d h HMs.out hx.out OKM.1 bb
      have AT : Hid (MsOk k (L + 1) (100 + 100 * i + 60) (Ms.set p { M with s:=M.s.fa bb })):=hid (AO.out.stp HMs.out (fa_stp M.s bb) (by omega))
      have WTt : Hid (0 ≤ wt ∧ wt ≤ (i : Int) + 1):=hid (by have:=WT.out;omega)
      generalize Ms.set p { M with s:=M.s.fa bb } = Ms2 at *
      clear OKM
      go_wp2_with (first
       | (refine wpList_store_ag rfl _ _ _ rfl rfl (stc8 s) rfl (Blk.alloc wr [.int .i64 0,.int .i64 0,.int .i64 0,.int .u8 0,.slice none 0 0] _) stepT8 rfl (by simp) Hone.out ?_;intro w7 f7 b7 hs7;have b7' : Blk w7 wr.heap.size (stc8 s):=b7;have V7:=hid (V.out.new (((Fr.refl [] wr).alloc _).trans f7 (fun x hx => .inr (by simp at hx;omega))) (Res.On.blk b7') (fun b hb => by simp [Res.blk] at hb;omega));have kb:=V7.out.held.blkAt 0 rfl;have k0 : w7.cell? ⟨wr.heap.size,0,none⟩ = some (.int .i64 s.Do):=kb.cell 0;have k2 : w7.cell? ⟨wr.heap.size,2,none⟩ = some (.int .i64 s.D):=kb.cell 2;have hr7:=HRowG.out _ _ _ _ _ _ _ _ V7.out p bb d x hd.out hx.out hp;rw [← HKP.out] at hr7;obtain ⟨r0,r1⟩:=hr7;clear kb f7 b7 b7' hs7 c0 c1 c2 c3 c4;simp only [aA,aB,Act.put,aC,aD,aE])
       | (go_at_call 7;refine (hfc.out _ _ V7.out).mono ?_;rintro e w8 ⟨c8,rfl,v8⟩;have V8:=hid v8;have hr8:=HRowG.out _ _ _ _ _ _ _ _ v8 p bb d x hd.out hx.out hp;rw [← HKP.out] at hr8;obtain ⟨r0,r1⟩:=hr8;clear hfc v8 V7 k0 k2)
       | (go_at_call 8;refine (hfd.out _ _ V8.out).mono ?_;rintro e w9 ⟨c9,rfl,v9⟩;have Vt:=hid v9;clear hfd v9 V8 r0 r1))
      generalize wr.heap.size = sb at *
      clear V AO WT HMs
      as_aux_lemma =>
       go_loopw [18] (fun jv wr => ∃ j : Nat,j ≤ K ∧ jv = .int .i64 (j : Int) ∧ Hid (JJ w wr (Res.blk sb (stc8 s) :: l0) D0 E0 X Y Ms2 (wt) Ms2 (wt))) (fun jv _ => K - (intOf jv).toNat)
       case atStart => exact ⟨0,by omega,rfl,Vt⟩
       case round =>
        obtain ⟨j,hj,rfl,VJ⟩:=hrel
        clear Vt
        by_cases hjk : j < K
        · have b1 : decide ((j : Int) < (K : Int)) = true:=by simp;omega
          have b1n : decide (j < K) = true:=by simp;omega
          have hj8 : (j : Int) ≤ 8:=by omega
          obtain ⟨p2,b2,hp2,hj2⟩:=half j k (by rw [HKK.out];exact hjk)
          obtain ⟨d2,hd2⟩ : ∃ d,D0[p2]? = some d:=⟨_,List.getElem?_eq_getElem (by rw [HDl.out];exact hp2)⟩
          obtain ⟨x2,hx2⟩ : ∃ d,E0[p2]? = some d:=⟨_,List.getElem?_eq_getElem (by rw [HEl.out];exact hp2)⟩
          obtain ⟨M2,hM2⟩ : ∃ M,Ms2[p2]? = some M:=⟨_,List.getElem?_eq_getElem (by rw [AT.out.1];exact hp2)⟩
          have G2:=AT.out.at hM2
          have hrow:=HRowG.out _ _ _ _ _ _ _ _ VJ.out p2 b2 d2 x2 hd2 hx2 hp2
          rw [← hj2] at hrow
          obtain ⟨r0,r1⟩:=hrow
          have htr:=hid (jtrace_c VJ.out hM2 hd2 G2.1 (by have:=G2.2.2;have:=HI50.out;omega) b2)
          obtain ⟨ta,tc,TB,y2,y3,ytr⟩:=jsee_d VJ.out hM2 hx2 G2.1 b2
          have HY:=hid fun (w1 : World) (f : Fr [] wr w1) => And.intro (f.cell_some y2) (And.intro (f.cell_some y3) (And.intro (ytr.keep f (by simp)) (And.intro (f.cell_some r0) (f.cell_some r1))))
          have HD:=hid fun (w1 : World) (f : Fr [] wr w1) => jdead_c (VJ.out.step f) hM2 hd2 G2.1 b2
          have htb : (M2.s.X b2).Trace.length ≤ 1000000:=by have:=T_le M2.s b2;have:=G2.2.2;have:=HI50.out;omega
          generalize (M2.s.X b2).Dead = dd at *
          generalize (M2.s.X b2).Trace = tr at *
          generalize d2 b2 = da at *
          generalize x2 b2 = xa at *
          obtain ⟨tn,htn⟩ : ∃ v,tr.length = v:=⟨_,rfl⟩
          rw [htn] at htr HY htb
          have htn':=hid htn
          clear y2 y3 ytr hd2 hx2 hM2 G2 hj2 hp2 htn r1
          go_wp2_with (go_at_call 15;refine htr.out.mono ?_;rintro e w4 ⟨⟨a,c4,TB2,rfl,hr⟩,f4⟩;have F4:=hid f4;have HR:=hid hr;clear f4 hr htr r0)
          have G0:=hid F4.out.drew
          obtain ⟨z2,z3,_,zr0,zr1⟩:=HY.out _ G0.out
          refine wp_region_D (fun w' => w'.cell? ⟨B1,j,none⟩ = some (.pointer (some ⟨da,0,none⟩)) ∧ w'.cell? ⟨B2,j,none⟩ = some (.pointer (some ⟨xa,0,none⟩)) ∧ w'.cell? ⟨xa,2,none⟩ = some (.slice ta tn tc) ∧ w'.cell? ⟨xa,3,none⟩ = some (.bool dd)) false [] (by kernel_rfl) ?_
          refine WD.pure [0,1,2,3,4,5,6,7,8,9,10,11,12,13,14,15] (by kernel_rfl) ⟨zr0,zr1,z2,z3⟩ ?_
          simp only [pick,aF,aG,aI,aJ,aK]
          repeat (first | (refine qL (by rfl) _ _ rfl rfl (.pointer (some ⟨da,0,none⟩)) (fun wq h => by first|exact h.1|(rw [h];exact zr0)) _ Tryz.underlying37 rfl ?_;simp only [aA,aB,Act.put,aC,aD,aE]) | (refine qL (by rfl) _ _ rfl rfl (.pointer (some ⟨xa,0,none⟩)) (fun wq h => by first|exact h.2.1|(rw [h];exact zr1)) _ Tryz.underlying39 rfl ?_;simp only [aA,aB,Act.put,aC,aD,aE]) | (refine qL (by rfl) _ _ rfl rfl (.slice ta tn tc) (fun wq h => by first|exact h.2.2.1|(rw [h];exact z2)) _ Tryz.underlying44 rfl ?_;simp only [aA,aB,Act.put,aC,aD,aE]) | (refine qL (by rfl) _ _ rfl rfl (.bool dd) (fun wq h => by first|exact h.2.2.2|(rw [h];exact z3)) _ Tryz.underlying4 rfl ?_;simp only [aA,aB,Act.put,aC,aD,aE]) | go_big_quiet_step (fail) | (refine quiet_len_v (by rfl) _ _ rfl Tryz.underlying44 rfl ?_;simp only [aA,aB,Act.put,aC,aD,aE]))
          refine qN ?_
          refine WD.free [17,18,19] (by kernel_rfl) ⟨zr0,zr1,z2,z3⟩ ?_
          simp only [pick,aF,aG,aI,aJ,aK]
          repeat (first | go_big_quiet_step (fail))
          refine qN ?_
          refine WD.held [20] (by kernel_rfl) ⟨zr0,zr1,z2,z3⟩ ?_
          simp only [pick,aF,aG,aI,aJ,aK]
          repeat (first | (refine qL (by rfl) _ _ rfl rfl (.pointer (some ⟨da,0,none⟩)) (fun wq h => by first|exact h.1|(rw [h];exact zr0)) _ Tryz.underlying37 rfl ?_;simp only [aA,aB,Act.put,aC,aD,aE]) | (refine qL (by rfl) _ _ rfl rfl (.pointer (some ⟨xa,0,none⟩)) (fun wq h => by first|exact h.2.1|(rw [h];exact zr1)) _ Tryz.underlying39 rfl ?_;simp only [aA,aB,Act.put,aC,aD,aE]) | (refine qL (by rfl) _ _ rfl rfl (.slice ta tn tc) (fun wq h => by first|exact h.2.2.1|(rw [h];exact z2)) _ Tryz.underlying44 rfl ?_;simp only [aA,aB,Act.put,aC,aD,aE]) | (refine qL (by rfl) _ _ rfl rfl (.bool dd) (fun wq h => by first|exact h.2.2.2|(rw [h];exact z3)) _ Tryz.underlying4 rfl ?_;simp only [aA,aB,Act.put,aC,aD,aE]) | go_big_quiet_step (fail))
          refine qN ?_
          refine WD.free [21,22] (by kernel_rfl) ⟨zr0,zr1,z2,z3⟩ ?_
          simp only [pick,aF,aG,aI,aJ,aK]
          repeat (first | go_big_quiet_step (fail))
          refine qN ?_
          refine WD.held [23] (by kernel_rfl) ⟨zr0,zr1,z2,z3⟩ ?_
          simp only [pick,aF,aG,aI,aJ,aK]
          repeat (first | (refine qL (by rfl) _ _ rfl rfl (.pointer (some ⟨da,0,none⟩)) (fun wq h => by first|exact h.1|(rw [h];exact zr0)) _ Tryz.underlying37 rfl ?_;simp only [aA,aB,Act.put,aC,aD,aE]) | (refine qL (by rfl) _ _ rfl rfl (.pointer (some ⟨xa,0,none⟩)) (fun wq h => by first|exact h.2.1|(rw [h];exact zr1)) _ Tryz.underlying39 rfl ?_;simp only [aA,aB,Act.put,aC,aD,aE]) | (refine qL (by rfl) _ _ rfl rfl (.slice ta tn tc) (fun wq h => by first|exact h.2.2.1|(rw [h];exact z2)) _ Tryz.underlying44 rfl ?_;simp only [aA,aB,Act.put,aC,aD,aE]) | (refine qL (by rfl) _ _ rfl rfl (.bool dd) (fun wq h => by first|exact h.2.2.2|(rw [h];exact z3)) _ Tryz.underlying4 rfl ?_;simp only [aA,aB,Act.put,aC,aD,aE]) | go_big_quiet_step (fail))
          refine qN ?_
          refine WD.eff 16 (by kernel_rfl) ?_
          simp only [pick,aF,aG,aI,aJ,aK]
          go_wp2_with (go_at_call 16;refine (HD.out _ G0.out).mono ?_;rintro e w5 ⟨rfl,hw⟩;have e5:=hid hw;clear hw;rw [e5.out])
          try refine wpList_nil ?_
          refine AfterD.on ⟨zr0,zr1,z2,z3⟩ (by kernel_rfl) ?_
          try simp only [aA,aB,Act.put,aC,aD,aE]
          refine WD.pure [24,25] (by kernel_rfl) ⟨zr0,zr1,z2,z3⟩ ?_
          simp only [pick,aF,aG,aI,aJ,aK]
          repeat (first | go_big_quiet_step (fail))
          refine qN ?_
          refine WD.done (by kernel_rfl) ?_
          go_wp2_with fail
          clear z2 z3 zr0 zr1 HD e5
          go_loopw [20] (fun iv wr => ∃ i2 : Nat,i2 ≤ tn ∧ iv = .int .i64 (i2 : Int) ∧ Hid (Fr [] w4 wr)) (fun iv _ => tn - (intOf iv).toNat)
          case atStart => exact ⟨0,Nat.zero_le _,rfl,hid ((Fr.refl [] w4).drew)⟩
          case round =>
           obtain ⟨i2,hi2,rfl,g⟩:=hrel
           by_cases hlt : i2 < tn
           · have hd1 : decide (i2 < tn) = true:=by simpa using hlt
             have hd2 : decide ((i2 : Int) < (tn : Int)) = true:=by simp;omega
             have g1:=hid g.out.drew
             have F5:=hid (F4.out.trans' g1.out)
             have htl : tr.length = tn:=htn'.out
             obtain ⟨b,o,c',hB,hv,_,_,_,hcell⟩:=(HR.out.keep g1.out (by simp)).some (by omega)
             obtain ⟨rfl,rfl⟩ : a = some ⟨b,o,none⟩ ∧ c4 = c':=by simpa using hv
             obtain ⟨z2,_,zr,_,hb⟩:=HY.out _ F5.out
             obtain ⟨b3,o2,c2,hB2,hv2,_,_,_,hcell2⟩:=zr.some (by omega)
             obtain ⟨rfl,rfl⟩ : ta = some ⟨b3,o2,none⟩ ∧ tc = c2:=by simpa using hv2
             obtain ⟨zz,hzz⟩ : ∃ v,tr[i2]'(by omega) = v:=⟨_,rfl⟩
             have e0 : (tr.map (Value.int .i64))[i2]? = some (.int .i64 zz):=by rw [List.getElem?_map,List.getElem?_eq_getElem (by omega),hzz];rfl
             have k1 : wr.drew.cell? ⟨b,o + i2,none⟩ = some (.int .i64 zz):=(hcell i2 (by simp;omega)).trans e0
             have k2 : wr.drew.cell? ⟨b3,o2 + i2,none⟩ = some (.int .i64 zz):=(hcell2 i2 (by simp;omega)).trans e0
             clear hcell hcell2 hv hv2 hB hB2 zr hzz e0
             go_wp2_with fail
             refine wp_region_D (fun _ => True) false [] (by kernel_rfl) ?_
             refine WD.pure [0,1,2,3,4,5,6,7,8,9,10,11,12,13,14] (by kernel_rfl) trivial ?_
             simp only [pick,aF,aG,aI,aJ,aK]
             repeat (first | go_big_quiet_step (fail))
             refine qN ?_
             refine WD.done (by kernel_rfl) ?_
             go_wp2_with fail
             go_roundw
             case rel => exact ⟨i2 + 1,by omega,by go_num,g1⟩
             case measure => simp [intOf];omega
           · have hd1 : decide (i2 < tn) = false:=by simpa using hlt
             have hd2 : decide ((i2 : Int) < (tn : Int)) = false:=by simp;omega
             have VJ2:=hid (VJ.out.step (F4.out.trans' g.out))
             clear hlt
             go_wp2_with fail
             go_roundw
             case rel => exact ⟨j + 1,by omega,by go_num,VJ2⟩
             case measure => simp [intOf];omega
        · have b1 : decide ((j : Int) < (K : Int)) = false:=by simp;omega
          have b1n : decide (j < K) = false:=by simp;omega
          clear hjk hj
          cases X with
          | none =>
            cases Y with
            | some Y1 => exact (show False from XY.out).elim
            | none =>
              rw [vpX_none,vpY_none]
              clear XY
              have VD:=hid (VJ.out.step (Fr.refl [] _).drew)
              clear VJ
              go_wp2_with fail
              refine wp_region_D (fun _ => True) false [] (by kernel_rfl) ?_
              refine WD.pure [0,1,2,3] (by kernel_rfl) trivial ?_
              simp only [pick,aF,aG,aI,aJ,aK]
              repeat (first | go_big_quiet_step (fail))
              refine qN ?_
              refine WD.free [5] (by kernel_rfl) trivial ?_
              simp only [pick,aF,aG,aI,aJ,aK]
              repeat (first | go_big_quiet_step (fail))
              refine qN ?_
              refine WD.eff 4 (by kernel_rfl) ?_
              simp only [pick,aF,aG,aI,aJ,aK]
              go_wp2_with fail
              try refine wpList_nil ?_
              refine AfterD.on trivial (by kernel_rfl) ?_
              try simp only [aA,aB,Act.put,aC,aD,aE]
              refine WD.eff 6 (by kernel_rfl) ?_
              simp only [pick,aF,aG,aI,aJ,aK]
              go_wp2_with fail
              try refine wpList_nil ?_
              refine AfterD.on trivial (by kernel_rfl) ?_
              try simp only [aA,aB,Act.put,aC,aD,aE]
              refine WD.pure [7,8,9] (by kernel_rfl) trivial ?_
              simp only [pick,aF,aG,aI,aJ,aK]
              repeat (first | go_big_quiet_step (fail))
              refine qN ?_
              refine WD.free [11,12,13] (by kernel_rfl) trivial ?_
              simp only [pick,aF,aG,aI,aJ,aK]
              repeat (first | go_big_quiet_step (fail))
              refine qN ?_
              refine WD.held [14] (by kernel_rfl) trivial ?_
              simp only [pick,aF,aG,aI,aJ,aK]
              repeat (first | go_big_quiet_step (fail))
              refine qN ?_
              refine WD.eff 10 (by kernel_rfl) ?_
              simp only [pick,aF,aG,aI,aJ,aK]
              go_wp2_with fail
              try refine wpList_nil ?_
              refine AfterD.on trivial (by kernel_rfl) ?_
              try simp only [aA,aB,Act.put,aC,aD,aE]
              refine WD.pure [15,16,17] (by kernel_rfl) trivial ?_
              simp only [pick,aF,aG,aI,aJ,aK]
              repeat (first | go_big_quiet_step (fail))
              refine qN ?_
              refine WD.done (by kernel_rfl) ?_
              go_wp2_with fail
              go_roundw
              case rel => exact ⟨i + 1,none,none,Ms2,wt,c,by have:=HI50.out;omega,by have:=HI50.out;omega,by go_num,rfl,rfl,rfl,rfl,hid (AT.out.mono (by omega)),hid trivial,hid (by have:=WTt.out;omega),hid VD.out.less⟩
              case measure => simp [intOf];have:=HI50.out;omega
          | some X1 =>
            cases Y with
            | none => exact (show False from XY.out).elim
            | some Y1 =>
              rw [vpX_some,vpY_some]
              have TT : Hid (Two k L X1 Y1):=hid XY.out
              clear XY
              have VD:=hid (VJ.out.step (Fr.refl [] _).drew)
              have hs:=jwr_d VD.out
              have HL1:=hid (jlen_c TT.out VD.out)
              have HL2:=hid fun (w1 : World) (h1 : JJ w w1 (Res.blk sb (stc8 s) :: l0) D0 E0 (some X1) (some Y1) Ms2 wt Ms2 wt) => jlen_d TT.out AT.out h1
              have HW1:=hid fun (w1 : World) (h1 : JJ w w1 (Res.blk sb (stc8 s) :: l0) D0 E0 (some X1) (some Y1) Ms2 wt Ms2 wt) => And.intro (jwr_c TT.out h1) (jwr_d h1)
              generalize L * k = lk at *
              clear VJ
              go_wp2_with fail
              refine wp_region_D (fun w' => w'.cell? ⟨Y1.yb,1,none⟩ = some (.int .i64 (wt))) false [] (by kernel_rfl) ?_
              refine WD.pure [0,1,2,3] (by kernel_rfl) hs ?_
              simp only [pick,aF,aG,aI,aJ,aK]
              repeat (first | go_big_quiet_step (fail))
              refine qN ?_
              refine WD.free [5] (by kernel_rfl) hs ?_
              simp only [pick,aF,aG,aI,aJ,aK]
              repeat (first | go_big_quiet_step (fail))
              refine qN ?_
              refine WD.eff 4 (by kernel_rfl) ?_
              simp only [pick,aF,aG,aI,aJ,aK]
              go_wp2_with (go_at_call 17;refine HL1.out.mono ?_;rintro e w11 ⟨rfl,f11⟩;have V11:=hid (VD.out.step f11);have hs11:=jwr_d V11.out;clear f11 VD HL1)
              try refine wpList_nil ?_
              refine AfterD.on hs11 (by kernel_rfl) ?_
              try simp only [aA,aB,Act.put,aC,aD,aE]
              refine WD.eff 6 (by kernel_rfl) ?_
              simp only [pick,aF,aG,aI,aJ,aK]
              go_wp2_with (go_at_call 18;refine (HL2.out _ V11.out).mono ?_;rintro e w12 ⟨rfl,hw⟩;have e12:=hid hw;clear hw;rw [e12.out])
              try refine wpList_nil ?_
              refine AfterD.on hs11 (by kernel_rfl) ?_
              try simp only [aA,aB,Act.put,aC,aD,aE]
              refine WD.pure [7,8,9] (by kernel_rfl) hs11 ?_
              simp only [pick,aF,aG,aI,aJ,aK]
              repeat (first | go_big_quiet_step (fail))
              refine qN ?_
              refine WD.free [11,12,13] (by kernel_rfl) hs11 ?_
              simp only [pick,aF,aG,aI,aJ,aK]
              repeat (first | go_big_quiet_step (fail))
              refine qN ?_
              refine WD.held [14] (by kernel_rfl) hs11 ?_
              simp only [pick,aF,aG,aI,aJ,aK]
              repeat (first | (refine qL (by rfl) _ _ rfl rfl (.int .i64 (wt)) (fun wq h => by first|exact h|(rw [h];exact hs)) _ Tryz.underlying3 rfl ?_;simp only [aA,aB,Act.put,aC,aD,aE]) | go_big_quiet_step (fail))
              refine qN ?_
              refine WD.eff 10 (by kernel_rfl) ?_
              simp only [pick,aF,aG,aI,aJ,aK]
              go_wp2_with (go_at_call 19;refine (HW1.out _ V11.out).1.mono ?_;rintro e w13 ⟨rfl,hw⟩;have e13:=hid hw;clear hw;rw [e13.out])
              try refine wpList_nil ?_
              refine AfterD.on hs11 (by kernel_rfl) ?_
              try simp only [aA,aB,Act.put,aC,aD,aE]
              refine WD.pure [15,16,17] (by kernel_rfl) hs11 ?_
              simp only [pick,aF,aG,aI,aJ,aK]
              repeat (first | go_big_quiet_step (fail))
              refine qN ?_
              refine WD.done (by kernel_rfl) ?_
              go_wp2_with fail
              go_roundw
              case rel => exact ⟨i + 1,(some X1),(some Y1),Ms2,wt,c,by have:=HI50.out;omega,by have:=HI50.out;omega,by go_num,rfl,rfl,rfl,rfl,hid (AT.out.mono (by omega)),hid TT.out,hid (by have:=WTt.out;omega),hid V11.out.less⟩
              case measure => simp [intOf];have:=HI50.out;omega
    · have u5 : (s.Do == 5) = false:=by simpa using h5
      clear h5
      by_cases h6 : s.Do = 6
      · have u6 : (s.Do == 6) = true:=by simpa using h6
        clear h6
        have OKM:=AO.out.at HMs.out
        have hfc:=hid fun (w1 : World) (r1 : Res) (h : JJ w w1 (r1 :: l0) D0 E0 X Y Ms wt Ms wt) => jreplace_c h HMs.out hd.out OKM.1 bb
        have hfd:=hid fun (w1 : World) (r1 : Res) (h : JJ w w1 (r1 :: l0) D0 E0 X Y (Ms.set p { M with s:=M.s.rp bb }) wt Ms wt) => jreplace_d h HMs.out hx.out OKM.1 bb
        have AT : Hid (MsOk k (L + 1) (100 + 100 * i + 60) (Ms.set p { M with s:=M.s.rp bb })):=hid (AO.out.stp HMs.out (rp_stp M.s bb) (by omega))
        have WTt : Hid (0 ≤ wt ∧ wt ≤ (i : Int) + 1):=hid (by have:=WT.out;omega)
        generalize Ms.set p { M with s:=M.s.rp bb } = Ms2 at *
        clear OKM
        go_wp2_with (first
         | (refine wpList_store_ag rfl _ _ _ rfl rfl (stc8 s) rfl (Blk.alloc wr [.int .i64 0,.int .i64 0,.int .i64 0,.int .u8 0,.slice none 0 0] _) stepT8 rfl (by simp) Hone.out ?_;intro w7 f7 b7 hs7;have b7' : Blk w7 wr.heap.size (stc8 s):=b7;have V7:=hid (V.out.new (((Fr.refl [] wr).alloc _).trans f7 (fun x hx => .inr (by simp at hx;omega))) (Res.On.blk b7') (fun b hb => by simp [Res.blk] at hb;omega));have kb:=V7.out.held.blkAt 0 rfl;have k0 : w7.cell? ⟨wr.heap.size,0,none⟩ = some (.int .i64 s.Do):=kb.cell 0;have k2 : w7.cell? ⟨wr.heap.size,2,none⟩ = some (.int .i64 s.D):=kb.cell 2;have hr7:=HRowG.out _ _ _ _ _ _ _ _ V7.out p bb d x hd.out hx.out hp;rw [← HKP.out] at hr7;obtain ⟨r0,r1⟩:=hr7;clear kb f7 b7 b7' hs7 c0 c1 c2 c3 c4;simp only [aA,aB,Act.put,aC,aD,aE])
         | (go_at_call 9;refine (hfc.out _ _ V7.out).mono ?_;rintro e w8 ⟨c8,rfl,v8⟩;have V8:=hid v8;have hr8:=HRowG.out _ _ _ _ _ _ _ _ v8 p bb d x hd.out hx.out hp;rw [← HKP.out] at hr8;obtain ⟨r0,r1⟩:=hr8;clear hfc v8 V7 k0 k2)
         | (go_at_call 10;refine (hfd.out _ _ V8.out).mono ?_;rintro e w9 ⟨c9,rfl,v9⟩;have Vt:=hid v9;clear hfd v9 V8 r0 r1))
        generalize wr.heap.size = sb at *
        clear V AO WT HMs
        as_aux_lemma =>
         go_loopw [18] (fun jv wr => ∃ j : Nat,j ≤ K ∧ jv = .int .i64 (j : Int) ∧ Hid (JJ w wr (Res.blk sb (stc8 s) :: l0) D0 E0 X Y Ms2 (wt) Ms2 (wt))) (fun jv _ => K - (intOf jv).toNat)
         case atStart => exact ⟨0,by omega,rfl,Vt⟩
         case round =>
          obtain ⟨j,hj,rfl,VJ⟩:=hrel
          clear Vt
          by_cases hjk : j < K
          · have b1 : decide ((j : Int) < (K : Int)) = true:=by simp;omega
            have b1n : decide (j < K) = true:=by simp;omega
            have hj8 : (j : Int) ≤ 8:=by omega
            obtain ⟨p2,b2,hp2,hj2⟩:=half j k (by rw [HKK.out];exact hjk)
            obtain ⟨d2,hd2⟩ : ∃ d,D0[p2]? = some d:=⟨_,List.getElem?_eq_getElem (by rw [HDl.out];exact hp2)⟩
            obtain ⟨x2,hx2⟩ : ∃ d,E0[p2]? = some d:=⟨_,List.getElem?_eq_getElem (by rw [HEl.out];exact hp2)⟩
            obtain ⟨M2,hM2⟩ : ∃ M,Ms2[p2]? = some M:=⟨_,List.getElem?_eq_getElem (by rw [AT.out.1];exact hp2)⟩
            have G2:=AT.out.at hM2
            have hrow:=HRowG.out _ _ _ _ _ _ _ _ VJ.out p2 b2 d2 x2 hd2 hx2 hp2
            rw [← hj2] at hrow
            obtain ⟨r0,r1⟩:=hrow
            have htr:=hid (jtrace_c VJ.out hM2 hd2 G2.1 (by have:=G2.2.2;have:=HI50.out;omega) b2)
            obtain ⟨ta,tc,TB,y2,y3,ytr⟩:=jsee_d VJ.out hM2 hx2 G2.1 b2
            have HY:=hid fun (w1 : World) (f : Fr [] wr w1) => And.intro (f.cell_some y2) (And.intro (f.cell_some y3) (And.intro (ytr.keep f (by simp)) (And.intro (f.cell_some r0) (f.cell_some r1))))
            have HD:=hid fun (w1 : World) (f : Fr [] wr w1) => jdead_c (VJ.out.step f) hM2 hd2 G2.1 b2
            have htb : (M2.s.X b2).Trace.length ≤ 1000000:=by have:=T_le M2.s b2;have:=G2.2.2;have:=HI50.out;omega
            generalize (M2.s.X b2).Dead = dd at *
            generalize (M2.s.X b2).Trace = tr at *
            generalize d2 b2 = da at *
            generalize x2 b2 = xa at *
            obtain ⟨tn,htn⟩ : ∃ v,tr.length = v:=⟨_,rfl⟩
            rw [htn] at htr HY htb
            have htn':=hid htn
            clear y2 y3 ytr hd2 hx2 hM2 G2 hj2 hp2 htn r1
            go_wp2_with (go_at_call 15;refine htr.out.mono ?_;rintro e w4 ⟨⟨a,c4,TB2,rfl,hr⟩,f4⟩;have F4:=hid f4;have HR:=hid hr;clear f4 hr htr r0)
            have G0:=hid F4.out.drew
            obtain ⟨z2,z3,_,zr0,zr1⟩:=HY.out _ G0.out
            refine wp_region_D (fun w' => w'.cell? ⟨B1,j,none⟩ = some (.pointer (some ⟨da,0,none⟩)) ∧ w'.cell? ⟨B2,j,none⟩ = some (.pointer (some ⟨xa,0,none⟩)) ∧ w'.cell? ⟨xa,2,none⟩ = some (.slice ta tn tc) ∧ w'.cell? ⟨xa,3,none⟩ = some (.bool dd)) false [] (by kernel_rfl) ?_
            refine WD.pure [0,1,2,3,4,5,6,7,8,9,10,11,12,13,14,15] (by kernel_rfl) ⟨zr0,zr1,z2,z3⟩ ?_
            simp only [pick,aF,aG,aI,aJ,aK]
            repeat (first | (refine qL (by rfl) _ _ rfl rfl (.pointer (some ⟨da,0,none⟩)) (fun wq h => by first|exact h.1|(rw [h];exact zr0)) _ Tryz.underlying37 rfl ?_;simp only [aA,aB,Act.put,aC,aD,aE]) | (refine qL (by rfl) _ _ rfl rfl (.pointer (some ⟨xa,0,none⟩)) (fun wq h => by first|exact h.2.1|(rw [h];exact zr1)) _ Tryz.underlying39 rfl ?_;simp only [aA,aB,Act.put,aC,aD,aE]) | (refine qL (by rfl) _ _ rfl rfl (.slice ta tn tc) (fun wq h => by first|exact h.2.2.1|(rw [h];exact z2)) _ Tryz.underlying44 rfl ?_;simp only [aA,aB,Act.put,aC,aD,aE]) | (refine qL (by rfl) _ _ rfl rfl (.bool dd) (fun wq h => by first|exact h.2.2.2|(rw [h];exact z3)) _ Tryz.underlying4 rfl ?_;simp only [aA,aB,Act.put,aC,aD,aE]) | go_big_quiet_step (fail) | (refine quiet_len_v (by rfl) _ _ rfl Tryz.underlying44 rfl ?_;simp only [aA,aB,Act.put,aC,aD,aE]))
            refine qN ?_
            refine WD.free [17,18,19] (by kernel_rfl) ⟨zr0,zr1,z2,z3⟩ ?_
            simp only [pick,aF,aG,aI,aJ,aK]
            repeat (first | go_big_quiet_step (fail))
            refine qN ?_
            refine WD.held [20] (by kernel_rfl) ⟨zr0,zr1,z2,z3⟩ ?_
            simp only [pick,aF,aG,aI,aJ,aK]
            repeat (first | (refine qL (by rfl) _ _ rfl rfl (.pointer (some ⟨da,0,none⟩)) (fun wq h => by first|exact h.1|(rw [h];exact zr0)) _ Tryz.underlying37 rfl ?_;simp only [aA,aB,Act.put,aC,aD,aE]) | (refine qL (by rfl) _ _ rfl rfl (.pointer (some ⟨xa,0,none⟩)) (fun wq h => by first|exact h.2.1|(rw [h];exact zr1)) _ Tryz.underlying39 rfl ?_;simp only [aA,aB,Act.put,aC,aD,aE]) | (refine qL (by rfl) _ _ rfl rfl (.slice ta tn tc) (fun wq h => by first|exact h.2.2.1|(rw [h];exact z2)) _ Tryz.underlying44 rfl ?_;simp only [aA,aB,Act.put,aC,aD,aE]) | (refine qL (by rfl) _ _ rfl rfl (.bool dd) (fun wq h => by first|exact h.2.2.2|(rw [h];exact z3)) _ Tryz.underlying4 rfl ?_;simp only [aA,aB,Act.put,aC,aD,aE]) | go_big_quiet_step (fail))
            refine qN ?_
            refine WD.free [21,22] (by kernel_rfl) ⟨zr0,zr1,z2,z3⟩ ?_
            simp only [pick,aF,aG,aI,aJ,aK]
            repeat (first | go_big_quiet_step (fail))
            refine qN ?_
            refine WD.held [23] (by kernel_rfl) ⟨zr0,zr1,z2,z3⟩ ?_
            simp only [pick,aF,aG,aI,aJ,aK]
            repeat (first | (refine qL (by rfl) _ _ rfl rfl (.pointer (some ⟨da,0,none⟩)) (fun wq h => by first|exact h.1|(rw [h];exact zr0)) _ Tryz.underlying37 rfl ?_;simp only [aA,aB,Act.put,aC,aD,aE]) | (refine qL (by rfl) _ _ rfl rfl (.pointer (some ⟨xa,0,none⟩)) (fun wq h => by first|exact h.2.1|(rw [h];exact zr1)) _ Tryz.underlying39 rfl ?_;simp only [aA,aB,Act.put,aC,aD,aE]) | (refine qL (by rfl) _ _ rfl rfl (.slice ta tn tc) (fun wq h => by first|exact h.2.2.1|(rw [h];exact z2)) _ Tryz.underlying44 rfl ?_;simp only [aA,aB,Act.put,aC,aD,aE]) | (refine qL (by rfl) _ _ rfl rfl (.bool dd) (fun wq h => by first|exact h.2.2.2|(rw [h];exact z3)) _ Tryz.underlying4 rfl ?_;simp only [aA,aB,Act.put,aC,aD,aE]) | go_big_quiet_step (fail))
            refine qN ?_
            refine WD.eff 16 (by kernel_rfl) ?_
            simp only [pick,aF,aG,aI,aJ,aK]
            go_wp2_with (go_at_call 16;refine (HD.out _ G0.out).mono ?_;rintro e w5 ⟨rfl,hw⟩;have e5:=hid hw;clear hw;rw [e5.out])
            try refine wpList_nil ?_
            refine AfterD.on ⟨zr0,zr1,z2,z3⟩ (by kernel_rfl) ?_
            try simp only [aA,aB,Act.put,aC,aD,aE]
            refine WD.pure [24,25] (by kernel_rfl) ⟨zr0,zr1,z2,z3⟩ ?_
            simp only [pick,aF,aG,aI,aJ,aK]
            repeat (first | go_big_quiet_step (fail))
            refine qN ?_
            refine WD.done (by kernel_rfl) ?_
            go_wp2_with fail
            clear z2 z3 zr0 zr1 HD e5
            go_loopw [20] (fun iv wr => ∃ i2 : Nat,i2 ≤ tn ∧ iv = .int .i64 (i2 : Int) ∧ Hid (Fr [] w4 wr)) (fun iv _ => tn - (intOf iv).toNat)
            case atStart => exact ⟨0,Nat.zero_le _,rfl,hid ((Fr.refl [] w4).drew)⟩
            case round =>
             obtain ⟨i2,hi2,rfl,g⟩:=hrel
             by_cases hlt : i2 < tn
             · have hd1 : decide (i2 < tn) = true:=by simpa using hlt
               have hd2 : decide ((i2 : Int) < (tn : Int)) = true:=by simp;omega
               have g1:=hid g.out.drew
               have F5:=hid (F4.out.trans' g1.out)
               have htl : tr.length = tn:=htn'.out
               obtain ⟨b,o,c',hB,hv,_,_,_,hcell⟩:=(HR.out.keep g1.out (by simp)).some (by omega)
               obtain ⟨rfl,rfl⟩ : a = some ⟨b,o,none⟩ ∧ c4 = c':=by simpa using hv
               obtain ⟨z2,_,zr,_,hb⟩:=HY.out _ F5.out
               obtain ⟨b3,o2,c2,hB2,hv2,_,_,_,hcell2⟩:=zr.some (by omega)
               obtain ⟨rfl,rfl⟩ : ta = some ⟨b3,o2,none⟩ ∧ tc = c2:=by simpa using hv2
               obtain ⟨zz,hzz⟩ : ∃ v,tr[i2]'(by omega) = v:=⟨_,rfl⟩
               have e0 : (tr.map (Value.int .i64))[i2]? = some (.int .i64 zz):=by rw [List.getElem?_map,List.getElem?_eq_getElem (by omega),hzz];rfl
               have k1 : wr.drew.cell? ⟨b,o + i2,none⟩ = some (.int .i64 zz):=(hcell i2 (by simp;omega)).trans e0
               have k2 : wr.drew.cell? ⟨b3,o2 + i2,none⟩ = some (.int .i64 zz):=(hcell2 i2 (by simp;omega)).trans e0
               clear hcell hcell2 hv hv2 hB hB2 zr hzz e0
               go_wp2_with fail
               refine wp_region_D (fun _ => True) false [] (by kernel_rfl) ?_
               refine WD.pure [0,1,2,3,4,5,6,7,8,9,10,11,12,13,14] (by kernel_rfl) trivial ?_
               simp only [pick,aF,aG,aI,aJ,aK]
               repeat (first | go_big_quiet_step (fail))
               refine qN ?_
               refine WD.done (by kernel_rfl) ?_
               go_wp2_with fail
               go_roundw
               case rel => exact ⟨i2 + 1,by omega,by go_num,g1⟩
               case measure => simp [intOf];omega
             · have hd1 : decide (i2 < tn) = false:=by simpa using hlt
               have hd2 : decide ((i2 : Int) < (tn : Int)) = false:=by simp;omega
               have VJ2:=hid (VJ.out.step (F4.out.trans' g.out))
               clear hlt
               go_wp2_with fail
               go_roundw
               case rel => exact ⟨j + 1,by omega,by go_num,VJ2⟩
               case measure => simp [intOf];omega
          · have b1 : decide ((j : Int) < (K : Int)) = false:=by simp;omega
            have b1n : decide (j < K) = false:=by simp;omega
            clear hjk hj
            cases X with
            | none =>
              cases Y with
              | some Y1 => exact (show False from XY.out).elim
              | none =>
                rw [vpX_none,vpY_none]
                clear XY
                have VD:=hid (VJ.out.step (Fr.refl [] _).drew)
                clear VJ
                go_wp2_with fail
                refine wp_region_D (fun _ => True) false [] (by kernel_rfl) ?_
                refine WD.pure [0,1,2,3] (by kernel_rfl) trivial ?_
                simp only [pick,aF,aG,aI,aJ,aK]
                repeat (first | go_big_quiet_step (fail))
                refine qN ?_
                refine WD.free [5] (by kernel_rfl) trivial ?_
                simp only [pick,aF,aG,aI,aJ,aK]
                repeat (first | go_big_quiet_step (fail))
                refine qN ?_
                refine WD.eff 4 (by kernel_rfl) ?_
                simp only [pick,aF,aG,aI,aJ,aK]
                go_wp2_with fail
                try refine wpList_nil ?_
                refine AfterD.on trivial (by kernel_rfl) ?_
                try simp only [aA,aB,Act.put,aC,aD,aE]
                refine WD.eff 6 (by kernel_rfl) ?_
                simp only [pick,aF,aG,aI,aJ,aK]
                go_wp2_with fail
                try refine wpList_nil ?_
                refine AfterD.on trivial (by kernel_rfl) ?_
                try simp only [aA,aB,Act.put,aC,aD,aE]
                refine WD.pure [7,8,9] (by kernel_rfl) trivial ?_
                simp only [pick,aF,aG,aI,aJ,aK]
                repeat (first | go_big_quiet_step (fail))
                refine qN ?_
                refine WD.free [11,12,13] (by kernel_rfl) trivial ?_
                simp only [pick,aF,aG,aI,aJ,aK]
                repeat (first | go_big_quiet_step (fail))
                refine qN ?_
                refine WD.held [14] (by kernel_rfl) trivial ?_
                simp only [pick,aF,aG,aI,aJ,aK]
                repeat (first | go_big_quiet_step (fail))
                refine qN ?_
                refine WD.eff 10 (by kernel_rfl) ?_
                simp only [pick,aF,aG,aI,aJ,aK]
                go_wp2_with fail
                try refine wpList_nil ?_
                refine AfterD.on trivial (by kernel_rfl) ?_
                try simp only [aA,aB,Act.put,aC,aD,aE]
                refine WD.pure [15,16,17] (by kernel_rfl) trivial ?_
                simp only [pick,aF,aG,aI,aJ,aK]
                repeat (first | go_big_quiet_step (fail))
                refine qN ?_
                refine WD.done (by kernel_rfl) ?_
                go_wp2_with fail
                go_roundw
                case rel => exact ⟨i + 1,none,none,Ms2,wt,c,by have:=HI50.out;omega,by have:=HI50.out;omega,by go_num,rfl,rfl,rfl,rfl,hid (AT.out.mono (by omega)),hid trivial,hid (by have:=WTt.out;omega),hid VD.out.less⟩
                case measure => simp [intOf];have:=HI50.out;omega
            | some X1 =>
              cases Y with
              | none => exact (show False from XY.out).elim
              | some Y1 =>
                rw [vpX_some,vpY_some]
                have TT : Hid (Two k L X1 Y1):=hid XY.out
                clear XY
                have VD:=hid (VJ.out.step (Fr.refl [] _).drew)
                have hs:=jwr_d VD.out
                have HL1:=hid (jlen_c TT.out VD.out)
                have HL2:=hid fun (w1 : World) (h1 : JJ w w1 (Res.blk sb (stc8 s) :: l0) D0 E0 (some X1) (some Y1) Ms2 wt Ms2 wt) => jlen_d TT.out AT.out h1
                have HW1:=hid fun (w1 : World) (h1 : JJ w w1 (Res.blk sb (stc8 s) :: l0) D0 E0 (some X1) (some Y1) Ms2 wt Ms2 wt) => And.intro (jwr_c TT.out h1) (jwr_d h1)
                generalize L * k = lk at *
                clear VJ
                go_wp2_with fail
                refine wp_region_D (fun w' => w'.cell? ⟨Y1.yb,1,none⟩ = some (.int .i64 (wt))) false [] (by kernel_rfl) ?_
                refine WD.pure [0,1,2,3] (by kernel_rfl) hs ?_
                simp only [pick,aF,aG,aI,aJ,aK]
                repeat (first | go_big_quiet_step (fail))
                refine qN ?_
                refine WD.free [5] (by kernel_rfl) hs ?_
                simp only [pick,aF,aG,aI,aJ,aK]
                repeat (first | go_big_quiet_step (fail))
                refine qN ?_
                refine WD.eff 4 (by kernel_rfl) ?_
                simp only [pick,aF,aG,aI,aJ,aK]
                go_wp2_with (go_at_call 17;refine HL1.out.mono ?_;rintro e w11 ⟨rfl,f11⟩;have V11:=hid (VD.out.step f11);have hs11:=jwr_d V11.out;clear f11 VD HL1)
                try refine wpList_nil ?_
                refine AfterD.on hs11 (by kernel_rfl) ?_
                try simp only [aA,aB,Act.put,aC,aD,aE]
                refine WD.eff 6 (by kernel_rfl) ?_
                simp only [pick,aF,aG,aI,aJ,aK]
                go_wp2_with (go_at_call 18;refine (HL2.out _ V11.out).mono ?_;rintro e w12 ⟨rfl,hw⟩;have e12:=hid hw;clear hw;rw [e12.out])
                try refine wpList_nil ?_
                refine AfterD.on hs11 (by kernel_rfl) ?_
                try simp only [aA,aB,Act.put,aC,aD,aE]
                refine WD.pure [7,8,9] (by kernel_rfl) hs11 ?_
                simp only [pick,aF,aG,aI,aJ,aK]
                repeat (first | go_big_quiet_step (fail))
                refine qN ?_
                refine WD.free [11,12,13] (by kernel_rfl) hs11 ?_
                simp only [pick,aF,aG,aI,aJ,aK]
                repeat (first | go_big_quiet_step (fail))
                refine qN ?_
                refine WD.held [14] (by kernel_rfl) hs11 ?_
                simp only [pick,aF,aG,aI,aJ,aK]
                repeat (first | (refine qL (by rfl) _ _ rfl rfl (.int .i64 (wt)) (fun wq h => by first|exact h|(rw [h];exact hs)) _ Tryz.underlying3 rfl ?_;simp only [aA,aB,Act.put,aC,aD,aE]) | go_big_quiet_step (fail))
                refine qN ?_
                refine WD.eff 10 (by kernel_rfl) ?_
                simp only [pick,aF,aG,aI,aJ,aK]
                go_wp2_with (go_at_call 19;refine (HW1.out _ V11.out).1.mono ?_;rintro e w13 ⟨rfl,hw⟩;have e13:=hid hw;clear hw;rw [e13.out])
                try refine wpList_nil ?_
                refine AfterD.on hs11 (by kernel_rfl) ?_
                try simp only [aA,aB,Act.put,aC,aD,aE]
                refine WD.pure [15,16,17] (by kernel_rfl) hs11 ?_
                simp only [pick,aF,aG,aI,aJ,aK]
                repeat (first | go_big_quiet_step (fail))
                refine qN ?_
                refine WD.done (by kernel_rfl) ?_
                go_wp2_with fail
                go_roundw
                case rel => exact ⟨i + 1,(some X1),(some Y1),Ms2,wt,c,by have:=HI50.out;omega,by have:=HI50.out;omega,by go_num,rfl,rfl,rfl,rfl,hid (AT.out.mono (by omega)),hid TT.out,hid (by have:=WTt.out;omega),hid V11.out.less⟩
                case measure => simp [intOf];have:=HI50.out;omega
      · have u6 : (s.Do == 6) = false:=by simpa using h6
        clear h6
        by_cases h7 : s.Do = 7
        · have u7 : (s.Do == 7) = true:=by simpa using h7
          clear h7
          obtain ⟨ka,kc,hke⟩:=Hst.out.k.isSlice
          have HK4:=hid fun (w1 : World) (b : Nat) (Xa : Option VX) (Ya : Option YX) (Na Oa : List MS) (na oa : Int) (h : JJ w w1 (Res.blk b (stc8 s) :: l0) D0 E0 Xa Ya Na na Oa oa) => (show w1.cell? ⟨b,4,none⟩ = some (.slice ka s.ks.length kc) from hke ▸ (h.held.blkAt 0 rfl).cell 4)
          have HKC:=hid (show Rc w 1 (.slice ka s.ks.length kc) s.ks.length (s.ks.map .bool) s.KB from hke ▸ Hst.out.k)
          have HKL:=hid Hst.out.kl
          generalize s.ks = ks at *
          generalize s.KB = KB at *
          clear hke Hst
          go_wp2_with (first
           | (refine wpList_store_ag rfl _ _ _ rfl rfl (stc8 s) rfl (Blk.alloc wr [.int .i64 0,.int .i64 0,.int .i64 0,.int .u8 0,.slice none 0 0] _) stepT8 rfl (by simp) Hone.out ?_;intro w7 f7 b7 hs7;have b7' : Blk w7 wr.heap.size (stc8 s):=b7;have V7:=hid (V.out.new (((Fr.refl [] wr).alloc _).trans f7 (fun x hx => .inr (by simp at hx;omega))) (Res.On.blk b7') (fun b hb => by simp [Res.blk] at hb;omega));have kb:=V7.out.held.blkAt 0 rfl;have k0 : w7.cell? ⟨wr.heap.size,0,none⟩ = some (.int .i64 s.Do):=kb.cell 0;have k2 : w7.cell? ⟨wr.heap.size,2,none⟩ = some (.int .i64 s.D):=kb.cell 2;have hr7:=HRowG.out _ _ _ _ _ _ _ _ V7.out p bb d x hd.out hx.out hp;rw [← HKP.out] at hr7;obtain ⟨r0,r1⟩:=hr7;clear kb f7 b7 b7' hs7 c0 c1 c2 c3 c4;simp only [aA,aB,Act.put,aC,aD,aE])
           | fail)
          generalize wr.heap.size = sb at *
          clear k0 k2 r0 r1
          go_loopw [17] (fun jv wr => ∃ (j : Nat) (Mj : List MS),j ≤ K ∧ jv = .int .i64 (j : Int) ∧ Hid (MsOk k (L + 1) (100 + 100 * i) Mj) ∧ Hid (JJ w wr (Res.blk sb (stc8 s) :: l0) D0 E0 X Y Mj wt Mj wt)) (fun jv _ => K - (intOf jv).toNat)
          case atStart => exact ⟨0,Ms,by omega,rfl,AO,V7⟩
          case round =>
           obtain ⟨j,Mj,hj,rfl,AJ,VJ⟩:=hrel
           clear V7 AO HMs V
           by_cases hjk : j < K
           · have b1 : decide ((j : Int) < (K : Int)) = true:=by simp;omega
             have b1n : decide (j < K) = true:=by simp;omega
             have hj8 : (j : Int) ≤ 8:=by omega
             obtain ⟨p2,b2,hp2,hj2⟩:=half j k (by rw [HKK.out];exact hjk)
             obtain ⟨d2,hd2⟩ : ∃ d,D0[p2]? = some d:=⟨_,List.getElem?_eq_getElem (by rw [HDl.out];exact hp2)⟩
             obtain ⟨x2,hx2⟩ : ∃ d,E0[p2]? = some d:=⟨_,List.getElem?_eq_getElem (by rw [HEl.out];exact hp2)⟩
             obtain ⟨M2,hM2⟩ : ∃ M,Mj[p2]? = some M:=⟨_,List.getElem?_eq_getElem (by rw [AJ.out.1];exact hp2)⟩
             have G2:=AJ.out.at hM2
             have HRJ:=hid fun (w1 : World) (Na Oa : List MS) (h : JJ w w1 (Res.blk sb (stc8 s) :: l0) D0 E0 X Y Na wt Oa wt) => (show w1.cell? ⟨B1,j,none⟩ = some (.pointer (some ⟨d2 b2,0,none⟩)) ∧ w1.cell? ⟨B2,j,none⟩ = some (.pointer (some ⟨x2 b2,0,none⟩)) ∧ w1.cell? ⟨sb,4,none⟩ = some (.slice ka ks.length kc) from by
              have hr:=HRowG.out _ _ _ _ _ _ _ _ h p2 b2 d2 x2 hd2 hx2 hp2
              rw [← hj2] at hr
              exact ⟨hr.1,hr.2,HK4.out _ _ _ _ _ _ _ _ h⟩)
             have VD:=hid (VJ.out.step ((Fr.refl [] _).drew))
             have co:=crash_out G2.1 b2 ks
             have AJ2 : Hid (MsOk k (L + 1) (100 + 100 * i) (Mj.set p2 { M2 with s:=M2.s.crash b2 ks })):=hid (AJ.out.set (Nat.le_refl _) co.ok (fun b => by rw [co.len];exact G2.2.1 b) (by have:=co.T;have:=G2.2.2;show (M2.s.crash b2 ks).T ≤ _;omega))
             have hc1:=hid (jcrash_c VD.out hM2 hd2 G2.1 b2 (by have:=G2.2.2;have:=HI50.out;omega) HKC.out HKL.out)
             have hc2:=hid fun (w1 : World) (h : JJ w w1 (Res.blk sb (stc8 s) :: l0) D0 E0 X Y (Mj.set p2 { M2 with s:=M2.s.crash b2 ks }) wt Mj wt) => jcrash_d h hM2 hx2 G2.1 b2 (by have:=G2.2.2;have:=HI50.out;omega) HKC.out HKL.out
             obtain ⟨s1,s2,s3⟩:=HRJ.out _ _ _ VD.out
             generalize Mj.set p2 { M2 with s:=M2.s.crash b2 ks } = Mk at *
             generalize d2 b2 = da at *
             generalize x2 b2 = xa at *
             obtain ⟨kn,hkn⟩ : ∃ kn,ks.length = kn:=⟨_,rfl⟩
             rw [hkn] at s3 hc1 hc2 HRJ
             clear co hd2 hx2 hM2 hp2 hj2 G2 hkn
             go_wp2_with fail
             refine wp_region_D (fun w' => w'.cell? ⟨B1,j,none⟩ = some (.pointer (some ⟨da,0,none⟩)) ∧ w'.cell? ⟨sb,4,none⟩ = some (.slice ka kn kc)) true [] (by kernel_rfl) ?_
             refine WD.pure [0,1,2,3,4,5] (by kernel_rfl) ⟨s1,s3⟩ ?_
             simp only [pick,aF,aG,aI,aJ,aK]
             repeat (first | (refine qL (by rfl) _ _ rfl rfl (.pointer (some ⟨da,0,none⟩)) (fun w0 h => h.1) _ Tryz.underlying37 rfl ?_;simp only [aA,aB,Act.put,aC,aD,aE]) | (refine qL (by rfl) _ _ rfl rfl (.slice ka kn kc) (fun w0 h => h.2) _ Tryz.underlying34 rfl ?_;simp only [aA,aB,Act.put,aC,aD,aE]) | go_big_quiet_step (fail))
             refine qN ?_
             refine WD.eff 6 (by kernel_rfl) ?_
             simp only [pick,aF,aG,aI,aJ,aK]
             go_wp2_with (go_at_call 11;refine hc1.out.mono ?_;rintro e w10 ⟨cc,rfl,v10⟩;have V10:=hid (v10.step (Fr.refl [] w10).drew);have hc3:=hid (hc2.out _ V10.out);obtain ⟨t1,t2,t3⟩:=HRJ.out _ _ _ V10.out;clear v10 hc1 hc2 VD s1 s2 s3)
             try refine wpList_nil ?_
             refine AfterD.end rfl (by kernel_rfl) ?_
             try simp only [aA,aB,Act.put,aC,aD,aE]
             refine WD.done (by kernel_rfl) ?_
             go_wp2_with fail
             refine wp_region_D (fun w' => w'.cell? ⟨B2,j,none⟩ = some (.pointer (some ⟨xa,0,none⟩)) ∧ w'.cell? ⟨sb,4,none⟩ = some (.slice ka kn kc)) true [] (by kernel_rfl) ?_
             refine WD.pure [0,1,2,3,4,5] (by kernel_rfl) ⟨t2,t3⟩ ?_
             simp only [pick,aF,aG,aI,aJ,aK]
             repeat (first | (refine qL (by rfl) _ _ rfl rfl (.pointer (some ⟨xa,0,none⟩)) (fun w0 h => h.1) _ Tryz.underlying39 rfl ?_;simp only [aA,aB,Act.put,aC,aD,aE]) | (refine qL (by rfl) _ _ rfl rfl (.slice ka kn kc) (fun w0 h => h.2) _ Tryz.underlying34 rfl ?_;simp only [aA,aB,Act.put,aC,aD,aE]) | go_big_quiet_step (fail))
             refine qN ?_
             refine WD.eff 6 (by kernel_rfl) ?_
             simp only [pick,aF,aG,aI,aJ,aK]
             go_wp2_with (go_at_call 12;refine hc3.out.mono ?_;rintro e w12 ⟨cd,rfl,v12⟩;have V12:=hid v12;clear v12 hc3 V10 t1 t2 t3)
             try refine wpList_nil ?_
             refine AfterD.end rfl (by kernel_rfl) ?_
             try simp only [aA,aB,Act.put,aC,aD,aE]
             refine WD.done (by kernel_rfl) ?_
             go_wp2_with fail
             go_roundw
             case rel => exact ⟨j + 1,Mk,by omega,by go_num,AJ2,V12⟩
             case measure => simp [intOf];omega
           · have b1 : decide ((j : Int) < (K : Int)) = false:=by simp;omega
             have b1n : decide (j < K) = false:=by simp;omega
             have VDR:=hid VJ.out.drop
             have AM:=hid (opMs_ok AJ.out)
             have WTt : Hid (0 ≤ (0 : Int) ∧ (0 : Int) ≤ (i : Int) + 1):=hid (by omega)
             by_cases hz : opC Mj = 0
             · have ho1:=hid (jopen_c0 (i0:=1) (v:=.slice (some ⟨B1,0,none⟩) K cb1) (B:=B1) VDR.out AJ.out (by rw [HL0.out,HKK.out];rfl) HK1.out.1 (by have:=HK1.out;omega) HL1.out.1 (by have:=HL1.out;omega) hz)
               have ho2:=hid fun (w1 : World) (Xn : Option VX) (h : JJ w w1 (Res.blk sb (stc8 s) :: l0) D0 E0 Xn none (opMs Mj) 0 Mj 0) => jopen_d0 (i0:=2) (v:=.slice (some ⟨B2,0,none⟩) K cb2) (B:=B2) h AJ.out (by have:=HI50.out;omega) (by rw [HL0.out,HKK.out];rfl) HK1.out.1 (by have:=HK1.out;omega) hz
               generalize opMs Mj = Mo at *
               have AT : Hid (MsOk k (L + 1) (100 + 100 * i + 60) Mo):=hid (AM.out.mono (by omega))
               clear hjk hj VJ AJ AM WT HK4 HKC HKL VDR hz XY
               go_wp2_with (first
                | (go_at_call 13;refine ho1.out.mono ?_;rintro e w10 ⟨X1,rfl,x1,v10⟩;have X1':=hid x1;have ho3:=hid (ho2.out _ _ v10);clear v10 ho1 ho2 x1)
                | (go_at_call 6;refine ho3.out.mono ?_;rintro e w11 ⟨Y1,rfl,y1,v11⟩;have Vt:=hid v11;have TT : Hid (Two k L X1 Y1):=hid ⟨X1'.out.1,y1.1,X1'.out.2.1,y1.2,X1'.out.2.2⟩;clear v11 ho3 y1 X1'))
               as_aux_lemma =>
                go_loopw [18] (fun jv wr => ∃ j : Nat,j ≤ K ∧ jv = .int .i64 (j : Int) ∧ Hid (JJ w wr (Res.blk sb (stc8 s) :: l0) D0 E0 (some X1) (some Y1) Mo (0) Mo (0))) (fun jv _ => K - (intOf jv).toNat)
                case atStart => exact ⟨0,by omega,rfl,Vt⟩
                case round =>
                 obtain ⟨j,hj,rfl,VJ⟩:=hrel
                 clear Vt
                 by_cases hjk : j < K
                 · have b1 : decide ((j : Int) < (K : Int)) = true:=by simp;omega
                   have b1n : decide (j < K) = true:=by simp;omega
                   have hj8 : (j : Int) ≤ 8:=by omega
                   obtain ⟨p2,b2,hp2,hj2⟩:=half j k (by rw [HKK.out];exact hjk)
                   obtain ⟨d2,hd2⟩ : ∃ d,D0[p2]? = some d:=⟨_,List.getElem?_eq_getElem (by rw [HDl.out];exact hp2)⟩
                   obtain ⟨x2,hx2⟩ : ∃ d,E0[p2]? = some d:=⟨_,List.getElem?_eq_getElem (by rw [HEl.out];exact hp2)⟩
                   obtain ⟨M2,hM2⟩ : ∃ M,Mo[p2]? = some M:=⟨_,List.getElem?_eq_getElem (by rw [AT.out.1];exact hp2)⟩
                   have G2:=AT.out.at hM2
                   have hrow:=HRowG.out _ _ _ _ _ _ _ _ VJ.out p2 b2 d2 x2 hd2 hx2 hp2
                   rw [← hj2] at hrow
                   obtain ⟨r0,r1⟩:=hrow
                   have htr:=hid (jtrace_c VJ.out hM2 hd2 G2.1 (by have:=G2.2.2;have:=HI50.out;omega) b2)
                   obtain ⟨ta,tc,TB,y2,y3,ytr⟩:=jsee_d VJ.out hM2 hx2 G2.1 b2
                   have HY:=hid fun (w1 : World) (f : Fr [] wr w1) => And.intro (f.cell_some y2) (And.intro (f.cell_some y3) (And.intro (ytr.keep f (by simp)) (And.intro (f.cell_some r0) (f.cell_some r1))))
                   have HD:=hid fun (w1 : World) (f : Fr [] wr w1) => jdead_c (VJ.out.step f) hM2 hd2 G2.1 b2
                   have htb : (M2.s.X b2).Trace.length ≤ 1000000:=by have:=T_le M2.s b2;have:=G2.2.2;have:=HI50.out;omega
                   generalize (M2.s.X b2).Dead = dd at *
                   generalize (M2.s.X b2).Trace = tr at *
                   generalize d2 b2 = da at *
                   generalize x2 b2 = xa at *
                   obtain ⟨tn,htn⟩ : ∃ v,tr.length = v:=⟨_,rfl⟩
                   rw [htn] at htr HY htb
                   have htn':=hid htn
                   clear y2 y3 ytr hd2 hx2 hM2 G2 hj2 hp2 htn r1
                   go_wp2_with (go_at_call 15;refine htr.out.mono ?_;rintro e w4 ⟨⟨a,c4,TB2,rfl,hr⟩,f4⟩;have F4:=hid f4;have HR:=hid hr;clear f4 hr htr r0)
                   have G0:=hid F4.out.drew
                   obtain ⟨z2,z3,_,zr0,zr1⟩:=HY.out _ G0.out
                   refine wp_region_D (fun w' => w'.cell? ⟨B1,j,none⟩ = some (.pointer (some ⟨da,0,none⟩)) ∧ w'.cell? ⟨B2,j,none⟩ = some (.pointer (some ⟨xa,0,none⟩)) ∧ w'.cell? ⟨xa,2,none⟩ = some (.slice ta tn tc) ∧ w'.cell? ⟨xa,3,none⟩ = some (.bool dd)) false [] (by kernel_rfl) ?_
                   refine WD.pure [0,1,2,3,4,5,6,7,8,9,10,11,12,13,14,15] (by kernel_rfl) ⟨zr0,zr1,z2,z3⟩ ?_
                   simp only [pick,aF,aG,aI,aJ,aK]
                   repeat (first | (refine qL (by rfl) _ _ rfl rfl (.pointer (some ⟨da,0,none⟩)) (fun wq h => by first|exact h.1|(rw [h];exact zr0)) _ Tryz.underlying37 rfl ?_;simp only [aA,aB,Act.put,aC,aD,aE]) | (refine qL (by rfl) _ _ rfl rfl (.pointer (some ⟨xa,0,none⟩)) (fun wq h => by first|exact h.2.1|(rw [h];exact zr1)) _ Tryz.underlying39 rfl ?_;simp only [aA,aB,Act.put,aC,aD,aE]) | (refine qL (by rfl) _ _ rfl rfl (.slice ta tn tc) (fun wq h => by first|exact h.2.2.1|(rw [h];exact z2)) _ Tryz.underlying44 rfl ?_;simp only [aA,aB,Act.put,aC,aD,aE]) | (refine qL (by rfl) _ _ rfl rfl (.bool dd) (fun wq h => by first|exact h.2.2.2|(rw [h];exact z3)) _ Tryz.underlying4 rfl ?_;simp only [aA,aB,Act.put,aC,aD,aE]) | go_big_quiet_step (fail) | (refine quiet_len_v (by rfl) _ _ rfl Tryz.underlying44 rfl ?_;simp only [aA,aB,Act.put,aC,aD,aE]))
                   refine qN ?_
                   refine WD.free [17,18,19] (by kernel_rfl) ⟨zr0,zr1,z2,z3⟩ ?_
                   simp only [pick,aF,aG,aI,aJ,aK]
                   repeat (first | go_big_quiet_step (fail))
                   refine qN ?_
                   refine WD.held [20] (by kernel_rfl) ⟨zr0,zr1,z2,z3⟩ ?_
                   simp only [pick,aF,aG,aI,aJ,aK]
                   repeat (first | (refine qL (by rfl) _ _ rfl rfl (.pointer (some ⟨da,0,none⟩)) (fun wq h => by first|exact h.1|(rw [h];exact zr0)) _ Tryz.underlying37 rfl ?_;simp only [aA,aB,Act.put,aC,aD,aE]) | (refine qL (by rfl) _ _ rfl rfl (.pointer (some ⟨xa,0,none⟩)) (fun wq h => by first|exact h.2.1|(rw [h];exact zr1)) _ Tryz.underlying39 rfl ?_;simp only [aA,aB,Act.put,aC,aD,aE]) | (refine qL (by rfl) _ _ rfl rfl (.slice ta tn tc) (fun wq h => by first|exact h.2.2.1|(rw [h];exact z2)) _ Tryz.underlying44 rfl ?_;simp only [aA,aB,Act.put,aC,aD,aE]) | (refine qL (by rfl) _ _ rfl rfl (.bool dd) (fun wq h => by first|exact h.2.2.2|(rw [h];exact z3)) _ Tryz.underlying4 rfl ?_;simp only [aA,aB,Act.put,aC,aD,aE]) | go_big_quiet_step (fail))
                   refine qN ?_
                   refine WD.free [21,22] (by kernel_rfl) ⟨zr0,zr1,z2,z3⟩ ?_
                   simp only [pick,aF,aG,aI,aJ,aK]
                   repeat (first | go_big_quiet_step (fail))
                   refine qN ?_
                   refine WD.held [23] (by kernel_rfl) ⟨zr0,zr1,z2,z3⟩ ?_
                   simp only [pick,aF,aG,aI,aJ,aK]
                   repeat (first | (refine qL (by rfl) _ _ rfl rfl (.pointer (some ⟨da,0,none⟩)) (fun wq h => by first|exact h.1|(rw [h];exact zr0)) _ Tryz.underlying37 rfl ?_;simp only [aA,aB,Act.put,aC,aD,aE]) | (refine qL (by rfl) _ _ rfl rfl (.pointer (some ⟨xa,0,none⟩)) (fun wq h => by first|exact h.2.1|(rw [h];exact zr1)) _ Tryz.underlying39 rfl ?_;simp only [aA,aB,Act.put,aC,aD,aE]) | (refine qL (by rfl) _ _ rfl rfl (.slice ta tn tc) (fun wq h => by first|exact h.2.2.1|(rw [h];exact z2)) _ Tryz.underlying44 rfl ?_;simp only [aA,aB,Act.put,aC,aD,aE]) | (refine qL (by rfl) _ _ rfl rfl (.bool dd) (fun wq h => by first|exact h.2.2.2|(rw [h];exact z3)) _ Tryz.underlying4 rfl ?_;simp only [aA,aB,Act.put,aC,aD,aE]) | go_big_quiet_step (fail))
                   refine qN ?_
                   refine WD.eff 16 (by kernel_rfl) ?_
                   simp only [pick,aF,aG,aI,aJ,aK]
                   go_wp2_with (go_at_call 16;refine (HD.out _ G0.out).mono ?_;rintro e w5 ⟨rfl,hw⟩;have e5:=hid hw;clear hw;rw [e5.out])
                   try refine wpList_nil ?_
                   refine AfterD.on ⟨zr0,zr1,z2,z3⟩ (by kernel_rfl) ?_
                   try simp only [aA,aB,Act.put,aC,aD,aE]
                   refine WD.pure [24,25] (by kernel_rfl) ⟨zr0,zr1,z2,z3⟩ ?_
                   simp only [pick,aF,aG,aI,aJ,aK]
                   repeat (first | go_big_quiet_step (fail))
                   refine qN ?_
                   refine WD.done (by kernel_rfl) ?_
                   go_wp2_with fail
                   clear z2 z3 zr0 zr1 HD e5
                   go_loopw [20] (fun iv wr => ∃ i2 : Nat,i2 ≤ tn ∧ iv = .int .i64 (i2 : Int) ∧ Hid (Fr [] w4 wr)) (fun iv _ => tn - (intOf iv).toNat)
                   case atStart => exact ⟨0,Nat.zero_le _,rfl,hid ((Fr.refl [] w4).drew)⟩
                   case round =>
                    obtain ⟨i2,hi2,rfl,g⟩:=hrel
                    by_cases hlt : i2 < tn
                    · have hd1 : decide (i2 < tn) = true:=by simpa using hlt
                      have hd2 : decide ((i2 : Int) < (tn : Int)) = true:=by simp;omega
                      have g1:=hid g.out.drew
                      have F5:=hid (F4.out.trans' g1.out)
                      have htl : tr.length = tn:=htn'.out
                      obtain ⟨b,o,c',hB,hv,_,_,_,hcell⟩:=(HR.out.keep g1.out (by simp)).some (by omega)
                      obtain ⟨rfl,rfl⟩ : a = some ⟨b,o,none⟩ ∧ c4 = c':=by simpa using hv
                      obtain ⟨z2,_,zr,_,hb⟩:=HY.out _ F5.out
                      obtain ⟨b3,o2,c2,hB2,hv2,_,_,_,hcell2⟩:=zr.some (by omega)
                      obtain ⟨rfl,rfl⟩ : ta = some ⟨b3,o2,none⟩ ∧ tc = c2:=by simpa using hv2
                      obtain ⟨zz,hzz⟩ : ∃ v,tr[i2]'(by omega) = v:=⟨_,rfl⟩
                      have e0 : (tr.map (Value.int .i64))[i2]? = some (.int .i64 zz):=by rw [List.getElem?_map,List.getElem?_eq_getElem (by omega),hzz];rfl
                      have k1 : wr.drew.cell? ⟨b,o + i2,none⟩ = some (.int .i64 zz):=(hcell i2 (by simp;omega)).trans e0
                      have k2 : wr.drew.cell? ⟨b3,o2 + i2,none⟩ = some (.int .i64 zz):=(hcell2 i2 (by simp;omega)).trans e0
                      clear hcell hcell2 hv hv2 hB hB2 zr hzz e0
                      go_wp2_with fail
                      refine wp_region_D (fun _ => True) false [] (by kernel_rfl) ?_
                      refine WD.pure [0,1,2,3,4,5,6,7,8,9,10,11,12,13,14] (by kernel_rfl) trivial ?_
                      simp only [pick,aF,aG,aI,aJ,aK]
                      repeat (first | go_big_quiet_step (fail))
                      refine qN ?_
                      refine WD.done (by kernel_rfl) ?_
                      go_wp2_with fail
                      go_roundw
                      case rel => exact ⟨i2 + 1,by omega,by go_num,g1⟩
                      case measure => simp [intOf];omega
                    · have hd1 : decide (i2 < tn) = false:=by simpa using hlt
                      have hd2 : decide ((i2 : Int) < (tn : Int)) = false:=by simp;omega
                      have VJ2:=hid (VJ.out.step (F4.out.trans' g.out))
                      clear hlt
                      go_wp2_with fail
                      go_roundw
                      case rel => exact ⟨j + 1,by omega,by go_num,VJ2⟩
                      case measure => simp [intOf];omega
                 · have b1 : decide ((j : Int) < (K : Int)) = false:=by simp;omega
                   have b1n : decide (j < K) = false:=by simp;omega
                   clear hjk hj
                   have VD:=hid (VJ.out.step (Fr.refl [] _).drew)
                   have hs:=jwr_d VD.out
                   have HL1:=hid (jlen_c TT.out VD.out)
                   have HL2:=hid fun (w1 : World) (h1 : JJ w w1 (Res.blk sb (stc8 s) :: l0) D0 E0 (some X1) (some Y1) Mo 0 Mo 0) => jlen_d TT.out AT.out h1
                   have HW1:=hid fun (w1 : World) (h1 : JJ w w1 (Res.blk sb (stc8 s) :: l0) D0 E0 (some X1) (some Y1) Mo 0 Mo 0) => And.intro (jwr_c TT.out h1) (jwr_d h1)
                   generalize L * k = lk at *
                   clear VJ
                   go_wp2_with fail
                   refine wp_region_D (fun w' => w'.cell? ⟨Y1.yb,1,none⟩ = some (.int .i64 (0))) false [] (by kernel_rfl) ?_
                   refine WD.pure [0,1,2,3] (by kernel_rfl) hs ?_
                   simp only [pick,aF,aG,aI,aJ,aK]
                   repeat (first | go_big_quiet_step (fail))
                   refine qN ?_
                   refine WD.free [5] (by kernel_rfl) hs ?_
                   simp only [pick,aF,aG,aI,aJ,aK]
                   repeat (first | go_big_quiet_step (fail))
                   refine qN ?_
                   refine WD.eff 4 (by kernel_rfl) ?_
                   simp only [pick,aF,aG,aI,aJ,aK]
                   go_wp2_with (go_at_call 17;refine HL1.out.mono ?_;rintro e w11 ⟨rfl,f11⟩;have V11:=hid (VD.out.step f11);have hs11:=jwr_d V11.out;clear f11 VD HL1)
                   try refine wpList_nil ?_
                   refine AfterD.on hs11 (by kernel_rfl) ?_
                   try simp only [aA,aB,Act.put,aC,aD,aE]
                   refine WD.eff 6 (by kernel_rfl) ?_
                   simp only [pick,aF,aG,aI,aJ,aK]
                   go_wp2_with (go_at_call 18;refine (HL2.out _ V11.out).mono ?_;rintro e w12 ⟨rfl,hw⟩;have e12:=hid hw;clear hw;rw [e12.out])
                   try refine wpList_nil ?_
                   refine AfterD.on hs11 (by kernel_rfl) ?_
                   try simp only [aA,aB,Act.put,aC,aD,aE]
                   refine WD.pure [7,8,9] (by kernel_rfl) hs11 ?_
                   simp only [pick,aF,aG,aI,aJ,aK]
                   repeat (first | go_big_quiet_step (fail))
                   refine qN ?_
                   refine WD.free [11,12,13] (by kernel_rfl) hs11 ?_
                   simp only [pick,aF,aG,aI,aJ,aK]
                   repeat (first | go_big_quiet_step (fail))
                   refine qN ?_
                   refine WD.held [14] (by kernel_rfl) hs11 ?_
                   simp only [pick,aF,aG,aI,aJ,aK]
                   repeat (first | (refine qL (by rfl) _ _ rfl rfl (.int .i64 (0)) (fun wq h => by first|exact h|(rw [h];exact hs)) _ Tryz.underlying3 rfl ?_;simp only [aA,aB,Act.put,aC,aD,aE]) | go_big_quiet_step (fail))
                   refine qN ?_
                   refine WD.eff 10 (by kernel_rfl) ?_
                   simp only [pick,aF,aG,aI,aJ,aK]
                   go_wp2_with (go_at_call 19;refine (HW1.out _ V11.out).1.mono ?_;rintro e w13 ⟨rfl,hw⟩;have e13:=hid hw;clear hw;rw [e13.out])
                   try refine wpList_nil ?_
                   refine AfterD.on hs11 (by kernel_rfl) ?_
                   try simp only [aA,aB,Act.put,aC,aD,aE]
                   refine WD.pure [15,16,17] (by kernel_rfl) hs11 ?_
                   simp only [pick,aF,aG,aI,aJ,aK]
                   repeat (first | go_big_quiet_step (fail))
                   refine qN ?_
                   refine WD.done (by kernel_rfl) ?_
                   go_wp2_with fail
                   go_roundw
                   case rel => exact ⟨i + 1,(some X1),(some Y1),Mo,0,0,by have:=HI50.out;omega,by have:=HI50.out;omega,by go_num,rfl,rfl,rfl,rfl,hid (AT.out.mono (by omega)),hid TT.out,hid (by have:=WTt.out;omega),hid V11.out.less⟩
                   case measure => simp [intOf];have:=HI50.out;omega
             · have ho1:=hid (jopen_c1 (i0:=1) (v:=.slice (some ⟨B1,0,none⟩) K cb1) (B:=B1) VDR.out AJ.out (by rw [HL0.out,HKK.out];rfl) HK1.out.1 (by have:=HK1.out;omega) HL1.out.1 (by have:=HL1.out;omega) hz)
               have ho2:=hid fun (w1 : World) (Xn : Option VX) (h : JJ w w1 (Res.blk sb (stc8 s) :: l0) D0 E0 Xn none (opMs Mj) 0 Mj 0) => jopen_d1 (i0:=2) (v:=.slice (some ⟨B2,0,none⟩) K cb2) (B:=B2) h AJ.out (by have:=HI50.out;omega) (by rw [HL0.out,HKK.out];rfl) HK1.out.1 (by have:=HK1.out;omega) hz
               generalize opMs Mj = Mo at *
               generalize opC Mj = co at *
               have AT : Hid (MsOk k (L + 1) (100 + 100 * i + 60) Mo):=hid (AM.out.mono (by omega))
               clear hjk hj VJ AJ AM WT HK4 HKC HKL VDR hz XY
               go_wp2_with (first
                | (go_at_call 13;refine ho1.out.mono ?_;rintro e w10 ⟨rfl,v10⟩;have ho3:=hid (ho2.out _ _ v10);clear v10 ho1 ho2)
                | (go_at_call 6;refine ho3.out.mono ?_;rintro e w11 ⟨rfl,v11⟩;have Vt:=hid v11;clear v11 ho3))
               as_aux_lemma =>
                go_loopw [18] (fun jv wr => ∃ j : Nat,j ≤ K ∧ jv = .int .i64 (j : Int) ∧ Hid (JJ w wr (Res.blk sb (stc8 s) :: l0) D0 E0 none none Mo (0) Mo (0))) (fun jv _ => K - (intOf jv).toNat)
                case atStart => exact ⟨0,by omega,rfl,Vt⟩
                case round =>
                 obtain ⟨j,hj,rfl,VJ⟩:=hrel
                 clear Vt
                 by_cases hjk : j < K
                 · have b1 : decide ((j : Int) < (K : Int)) = true:=by simp;omega
                   have b1n : decide (j < K) = true:=by simp;omega
                   have hj8 : (j : Int) ≤ 8:=by omega
                   obtain ⟨p2,b2,hp2,hj2⟩:=half j k (by rw [HKK.out];exact hjk)
                   obtain ⟨d2,hd2⟩ : ∃ d,D0[p2]? = some d:=⟨_,List.getElem?_eq_getElem (by rw [HDl.out];exact hp2)⟩
                   obtain ⟨x2,hx2⟩ : ∃ d,E0[p2]? = some d:=⟨_,List.getElem?_eq_getElem (by rw [HEl.out];exact hp2)⟩
                   obtain ⟨M2,hM2⟩ : ∃ M,Mo[p2]? = some M:=⟨_,List.getElem?_eq_getElem (by rw [AT.out.1];exact hp2)⟩
                   have G2:=AT.out.at hM2
                   have hrow:=HRowG.out _ _ _ _ _ _ _ _ VJ.out p2 b2 d2 x2 hd2 hx2 hp2
                   rw [← hj2] at hrow
                   obtain ⟨r0,r1⟩:=hrow
                   have htr:=hid (jtrace_c VJ.out hM2 hd2 G2.1 (by have:=G2.2.2;have:=HI50.out;omega) b2)
                   obtain ⟨ta,tc,TB,y2,y3,ytr⟩:=jsee_d VJ.out hM2 hx2 G2.1 b2
                   have HY:=hid fun (w1 : World) (f : Fr [] wr w1) => And.intro (f.cell_some y2) (And.intro (f.cell_some y3) (And.intro (ytr.keep f (by simp)) (And.intro (f.cell_some r0) (f.cell_some r1))))
                   have HD:=hid fun (w1 : World) (f : Fr [] wr w1) => jdead_c (VJ.out.step f) hM2 hd2 G2.1 b2
                   have htb : (M2.s.X b2).Trace.length ≤ 1000000:=by have:=T_le M2.s b2;have:=G2.2.2;have:=HI50.out;omega
                   generalize (M2.s.X b2).Dead = dd at *
                   generalize (M2.s.X b2).Trace = tr at *
                   generalize d2 b2 = da at *
                   generalize x2 b2 = xa at *
                   obtain ⟨tn,htn⟩ : ∃ v,tr.length = v:=⟨_,rfl⟩
                   rw [htn] at htr HY htb
                   have htn':=hid htn
                   clear y2 y3 ytr hd2 hx2 hM2 G2 hj2 hp2 htn r1
                   go_wp2_with (go_at_call 15;refine htr.out.mono ?_;rintro e w4 ⟨⟨a,c4,TB2,rfl,hr⟩,f4⟩;have F4:=hid f4;have HR:=hid hr;clear f4 hr htr r0)
                   have G0:=hid F4.out.drew
                   obtain ⟨z2,z3,_,zr0,zr1⟩:=HY.out _ G0.out
                   refine wp_region_D (fun w' => w'.cell? ⟨B1,j,none⟩ = some (.pointer (some ⟨da,0,none⟩)) ∧ w'.cell? ⟨B2,j,none⟩ = some (.pointer (some ⟨xa,0,none⟩)) ∧ w'.cell? ⟨xa,2,none⟩ = some (.slice ta tn tc) ∧ w'.cell? ⟨xa,3,none⟩ = some (.bool dd)) false [] (by kernel_rfl) ?_
                   refine WD.pure [0,1,2,3,4,5,6,7,8,9,10,11,12,13,14,15] (by kernel_rfl) ⟨zr0,zr1,z2,z3⟩ ?_
                   simp only [pick,aF,aG,aI,aJ,aK]
                   repeat (first | (refine qL (by rfl) _ _ rfl rfl (.pointer (some ⟨da,0,none⟩)) (fun wq h => by first|exact h.1|(rw [h];exact zr0)) _ Tryz.underlying37 rfl ?_;simp only [aA,aB,Act.put,aC,aD,aE]) | (refine qL (by rfl) _ _ rfl rfl (.pointer (some ⟨xa,0,none⟩)) (fun wq h => by first|exact h.2.1|(rw [h];exact zr1)) _ Tryz.underlying39 rfl ?_;simp only [aA,aB,Act.put,aC,aD,aE]) | (refine qL (by rfl) _ _ rfl rfl (.slice ta tn tc) (fun wq h => by first|exact h.2.2.1|(rw [h];exact z2)) _ Tryz.underlying44 rfl ?_;simp only [aA,aB,Act.put,aC,aD,aE]) | (refine qL (by rfl) _ _ rfl rfl (.bool dd) (fun wq h => by first|exact h.2.2.2|(rw [h];exact z3)) _ Tryz.underlying4 rfl ?_;simp only [aA,aB,Act.put,aC,aD,aE]) | go_big_quiet_step (fail) | (refine quiet_len_v (by rfl) _ _ rfl Tryz.underlying44 rfl ?_;simp only [aA,aB,Act.put,aC,aD,aE]))
                   refine qN ?_
                   refine WD.free [17,18,19] (by kernel_rfl) ⟨zr0,zr1,z2,z3⟩ ?_
                   simp only [pick,aF,aG,aI,aJ,aK]
                   repeat (first | go_big_quiet_step (fail))
                   refine qN ?_
                   refine WD.held [20] (by kernel_rfl) ⟨zr0,zr1,z2,z3⟩ ?_
                   simp only [pick,aF,aG,aI,aJ,aK]
                   repeat (first | (refine qL (by rfl) _ _ rfl rfl (.pointer (some ⟨da,0,none⟩)) (fun wq h => by first|exact h.1|(rw [h];exact zr0)) _ Tryz.underlying37 rfl ?_;simp only [aA,aB,Act.put,aC,aD,aE]) | (refine qL (by rfl) _ _ rfl rfl (.pointer (some ⟨xa,0,none⟩)) (fun wq h => by first|exact h.2.1|(rw [h];exact zr1)) _ Tryz.underlying39 rfl ?_;simp only [aA,aB,Act.put,aC,aD,aE]) | (refine qL (by rfl) _ _ rfl rfl (.slice ta tn tc) (fun wq h => by first|exact h.2.2.1|(rw [h];exact z2)) _ Tryz.underlying44 rfl ?_;simp only [aA,aB,Act.put,aC,aD,aE]) | (refine qL (by rfl) _ _ rfl rfl (.bool dd) (fun wq h => by first|exact h.2.2.2|(rw [h];exact z3)) _ Tryz.underlying4 rfl ?_;simp only [aA,aB,Act.put,aC,aD,aE]) | go_big_quiet_step (fail))
                   refine qN ?_
                   refine WD.free [21,22] (by kernel_rfl) ⟨zr0,zr1,z2,z3⟩ ?_
                   simp only [pick,aF,aG,aI,aJ,aK]
                   repeat (first | go_big_quiet_step (fail))
                   refine qN ?_
                   refine WD.held [23] (by kernel_rfl) ⟨zr0,zr1,z2,z3⟩ ?_
                   simp only [pick,aF,aG,aI,aJ,aK]
                   repeat (first | (refine qL (by rfl) _ _ rfl rfl (.pointer (some ⟨da,0,none⟩)) (fun wq h => by first|exact h.1|(rw [h];exact zr0)) _ Tryz.underlying37 rfl ?_;simp only [aA,aB,Act.put,aC,aD,aE]) | (refine qL (by rfl) _ _ rfl rfl (.pointer (some ⟨xa,0,none⟩)) (fun wq h => by first|exact h.2.1|(rw [h];exact zr1)) _ Tryz.underlying39 rfl ?_;simp only [aA,aB,Act.put,aC,aD,aE]) | (refine qL (by rfl) _ _ rfl rfl (.slice ta tn tc) (fun wq h => by first|exact h.2.2.1|(rw [h];exact z2)) _ Tryz.underlying44 rfl ?_;simp only [aA,aB,Act.put,aC,aD,aE]) | (refine qL (by rfl) _ _ rfl rfl (.bool dd) (fun wq h => by first|exact h.2.2.2|(rw [h];exact z3)) _ Tryz.underlying4 rfl ?_;simp only [aA,aB,Act.put,aC,aD,aE]) | go_big_quiet_step (fail))
                   refine qN ?_
                   refine WD.eff 16 (by kernel_rfl) ?_
                   simp only [pick,aF,aG,aI,aJ,aK]
                   go_wp2_with (go_at_call 16;refine (HD.out _ G0.out).mono ?_;rintro e w5 ⟨rfl,hw⟩;have e5:=hid hw;clear hw;rw [e5.out])
                   try refine wpList_nil ?_
                   refine AfterD.on ⟨zr0,zr1,z2,z3⟩ (by kernel_rfl) ?_
                   try simp only [aA,aB,Act.put,aC,aD,aE]
                   refine WD.pure [24,25] (by kernel_rfl) ⟨zr0,zr1,z2,z3⟩ ?_
                   simp only [pick,aF,aG,aI,aJ,aK]
                   repeat (first | go_big_quiet_step (fail))
                   refine qN ?_
                   refine WD.done (by kernel_rfl) ?_
                   go_wp2_with fail
                   clear z2 z3 zr0 zr1 HD e5
                   go_loopw [20] (fun iv wr => ∃ i2 : Nat,i2 ≤ tn ∧ iv = .int .i64 (i2 : Int) ∧ Hid (Fr [] w4 wr)) (fun iv _ => tn - (intOf iv).toNat)
                   case atStart => exact ⟨0,Nat.zero_le _,rfl,hid ((Fr.refl [] w4).drew)⟩
                   case round =>
                    obtain ⟨i2,hi2,rfl,g⟩:=hrel
                    by_cases hlt : i2 < tn
                    · have hd1 : decide (i2 < tn) = true:=by simpa using hlt
                      have hd2 : decide ((i2 : Int) < (tn : Int)) = true:=by simp;omega
                      have g1:=hid g.out.drew
                      have F5:=hid (F4.out.trans' g1.out)
                      have htl : tr.length = tn:=htn'.out
                      obtain ⟨b,o,c',hB,hv,_,_,_,hcell⟩:=(HR.out.keep g1.out (by simp)).some (by omega)
                      obtain ⟨rfl,rfl⟩ : a = some ⟨b,o,none⟩ ∧ c4 = c':=by simpa using hv
                      obtain ⟨z2,_,zr,_,hb⟩:=HY.out _ F5.out
                      obtain ⟨b3,o2,c2,hB2,hv2,_,_,_,hcell2⟩:=zr.some (by omega)
                      obtain ⟨rfl,rfl⟩ : ta = some ⟨b3,o2,none⟩ ∧ tc = c2:=by simpa using hv2
                      obtain ⟨zz,hzz⟩ : ∃ v,tr[i2]'(by omega) = v:=⟨_,rfl⟩
                      have e0 : (tr.map (Value.int .i64))[i2]? = some (.int .i64 zz):=by rw [List.getElem?_map,List.getElem?_eq_getElem (by omega),hzz];rfl
                      have k1 : wr.drew.cell? ⟨b,o + i2,none⟩ = some (.int .i64 zz):=(hcell i2 (by simp;omega)).trans e0
                      have k2 : wr.drew.cell? ⟨b3,o2 + i2,none⟩ = some (.int .i64 zz):=(hcell2 i2 (by simp;omega)).trans e0
                      clear hcell hcell2 hv hv2 hB hB2 zr hzz e0
                      go_wp2_with fail
                      refine wp_region_D (fun _ => True) false [] (by kernel_rfl) ?_
                      refine WD.pure [0,1,2,3,4,5,6,7,8,9,10,11,12,13,14] (by kernel_rfl) trivial ?_
                      simp only [pick,aF,aG,aI,aJ,aK]
                      repeat (first | go_big_quiet_step (fail))
                      refine qN ?_
                      refine WD.done (by kernel_rfl) ?_
                      go_wp2_with fail
                      go_roundw
                      case rel => exact ⟨i2 + 1,by omega,by go_num,g1⟩
                      case measure => simp [intOf];omega
                    · have hd1 : decide (i2 < tn) = false:=by simpa using hlt
                      have hd2 : decide ((i2 : Int) < (tn : Int)) = false:=by simp;omega
                      have VJ2:=hid (VJ.out.step (F4.out.trans' g.out))
                      clear hlt
                      go_wp2_with fail
                      go_roundw
                      case rel => exact ⟨j + 1,by omega,by go_num,VJ2⟩
                      case measure => simp [intOf];omega
                 · have b1 : decide ((j : Int) < (K : Int)) = false:=by simp;omega
                   have b1n : decide (j < K) = false:=by simp;omega
                   clear hjk hj
                   have VD:=hid (VJ.out.step (Fr.refl [] _).drew)
                   clear VJ
                   go_wp2_with fail
                   refine wp_region_D (fun _ => True) false [] (by kernel_rfl) ?_
                   refine WD.pure [0,1,2,3] (by kernel_rfl) trivial ?_
                   simp only [pick,aF,aG,aI,aJ,aK]
                   repeat (first | go_big_quiet_step (fail))
                   refine qN ?_
                   refine WD.free [5] (by kernel_rfl) trivial ?_
                   simp only [pick,aF,aG,aI,aJ,aK]
                   repeat (first | go_big_quiet_step (fail))
                   refine qN ?_
                   refine WD.eff 4 (by kernel_rfl) ?_
                   simp only [pick,aF,aG,aI,aJ,aK]
                   go_wp2_with fail
                   try refine wpList_nil ?_
                   refine AfterD.on trivial (by kernel_rfl) ?_
                   try simp only [aA,aB,Act.put,aC,aD,aE]
                   refine WD.eff 6 (by kernel_rfl) ?_
                   simp only [pick,aF,aG,aI,aJ,aK]
                   go_wp2_with fail
                   try refine wpList_nil ?_
                   refine AfterD.on trivial (by kernel_rfl) ?_
                   try simp only [aA,aB,Act.put,aC,aD,aE]
                   refine WD.pure [7,8,9] (by kernel_rfl) trivial ?_
                   simp only [pick,aF,aG,aI,aJ,aK]
                   repeat (first | go_big_quiet_step (fail))
                   refine qN ?_
                   refine WD.free [11,12,13] (by kernel_rfl) trivial ?_
                   simp only [pick,aF,aG,aI,aJ,aK]
                   repeat (first | go_big_quiet_step (fail))
                   refine qN ?_
                   refine WD.held [14] (by kernel_rfl) trivial ?_
                   simp only [pick,aF,aG,aI,aJ,aK]
                   repeat (first | go_big_quiet_step (fail))
                   refine qN ?_
                   refine WD.eff 10 (by kernel_rfl) ?_
                   simp only [pick,aF,aG,aI,aJ,aK]
                   go_wp2_with fail
                   try refine wpList_nil ?_
                   refine AfterD.on trivial (by kernel_rfl) ?_
                   try simp only [aA,aB,Act.put,aC,aD,aE]
                   refine WD.pure [15,16,17] (by kernel_rfl) trivial ?_
                   simp only [pick,aF,aG,aI,aJ,aK]
                   repeat (first | go_big_quiet_step (fail))
                   refine qN ?_
                   refine WD.done (by kernel_rfl) ?_
                   go_wp2_with fail
                   go_roundw
                   case rel => exact ⟨i + 1,none,none,Mo,0,co,by have:=HI50.out;omega,by have:=HI50.out;omega,by go_num,rfl,rfl,rfl,rfl,hid (AT.out.mono (by omega)),hid trivial,hid (by have:=WTt.out;omega),hid VD.out.less⟩
                   case measure => simp [intOf];have:=HI50.out;omega
        · have u7 : (s.Do == 7) = false:=by simpa using h7
          clear h7
          have xy:=XY.out
          cases X with
          | none =>
            cases Y with
            | some Y1 => exact xy.elim
            | none =>
              rw [vpX_none,vpY_none]
              clear xy XY
              have AT : Hid (MsOk k (L + 1) (100 + 100 * i + 60) Ms):=hid (AO.out.mono (by omega))
              have WTt : Hid (0 ≤ wt ∧ wt ≤ (i : Int) + 1):=hid (by have:=WT.out;omega)
              go_wp2_with (first
               | (refine wpList_store_ag rfl _ _ _ rfl rfl (stc8 s) rfl (Blk.alloc wr [.int .i64 0,.int .i64 0,.int .i64 0,.int .u8 0,.slice none 0 0] _) stepT8 rfl (by simp) Hone.out ?_;intro w7 f7 b7 hs7;have b7' : Blk w7 wr.heap.size (stc8 s):=b7;have V7:=hid (V.out.new (((Fr.refl [] wr).alloc _).trans f7 (fun x hx => .inr (by simp at hx;omega))) (Res.On.blk b7') (fun b hb => by simp [Res.blk] at hb;omega));have kb:=V7.out.held.blkAt 0 rfl;have k0 : w7.cell? ⟨wr.heap.size,0,none⟩ = some (.int .i64 s.Do):=kb.cell 0;have k2 : w7.cell? ⟨wr.heap.size,2,none⟩ = some (.int .i64 s.D):=kb.cell 2;have hr7:=HRowG.out _ _ _ _ _ _ _ _ V7.out p bb d x hd.out hx.out hp;rw [← HKP.out] at hr7;obtain ⟨r0,r1⟩:=hr7;clear kb f7 b7 b7' hs7 c0 c1 c2 c3 c4;simp only [aA,aB,Act.put,aC,aD,aE])
               | fail)
              generalize wr.heap.size = sb at *
              have Vt:=V7
              clear k0 k2 r0 r1 V7 V AO WT HMs
              as_aux_lemma =>
               go_loopw [18] (fun jv wr => ∃ j : Nat,j ≤ K ∧ jv = .int .i64 (j : Int) ∧ Hid (JJ w wr (Res.blk sb (stc8 s) :: l0) D0 E0 none none Ms (wt) Ms (wt))) (fun jv _ => K - (intOf jv).toNat)
               case atStart => exact ⟨0,by omega,rfl,Vt⟩
               case round =>
                obtain ⟨j,hj,rfl,VJ⟩:=hrel
                clear Vt
                by_cases hjk : j < K
                · have b1 : decide ((j : Int) < (K : Int)) = true:=by simp;omega
                  have b1n : decide (j < K) = true:=by simp;omega
                  have hj8 : (j : Int) ≤ 8:=by omega
                  obtain ⟨p2,b2,hp2,hj2⟩:=half j k (by rw [HKK.out];exact hjk)
                  obtain ⟨d2,hd2⟩ : ∃ d,D0[p2]? = some d:=⟨_,List.getElem?_eq_getElem (by rw [HDl.out];exact hp2)⟩
                  obtain ⟨x2,hx2⟩ : ∃ d,E0[p2]? = some d:=⟨_,List.getElem?_eq_getElem (by rw [HEl.out];exact hp2)⟩
                  obtain ⟨M2,hM2⟩ : ∃ M,Ms[p2]? = some M:=⟨_,List.getElem?_eq_getElem (by rw [AT.out.1];exact hp2)⟩
                  have G2:=AT.out.at hM2
                  have hrow:=HRowG.out _ _ _ _ _ _ _ _ VJ.out p2 b2 d2 x2 hd2 hx2 hp2
                  rw [← hj2] at hrow
                  obtain ⟨r0,r1⟩:=hrow
                  have htr:=hid (jtrace_c VJ.out hM2 hd2 G2.1 (by have:=G2.2.2;have:=HI50.out;omega) b2)
                  obtain ⟨ta,tc,TB,y2,y3,ytr⟩:=jsee_d VJ.out hM2 hx2 G2.1 b2
                  have HY:=hid fun (w1 : World) (f : Fr [] wr w1) => And.intro (f.cell_some y2) (And.intro (f.cell_some y3) (And.intro (ytr.keep f (by simp)) (And.intro (f.cell_some r0) (f.cell_some r1))))
                  have HD:=hid fun (w1 : World) (f : Fr [] wr w1) => jdead_c (VJ.out.step f) hM2 hd2 G2.1 b2
                  have htb : (M2.s.X b2).Trace.length ≤ 1000000:=by have:=T_le M2.s b2;have:=G2.2.2;have:=HI50.out;omega
                  generalize (M2.s.X b2).Dead = dd at *
                  generalize (M2.s.X b2).Trace = tr at *
                  generalize d2 b2 = da at *
                  generalize x2 b2 = xa at *
                  obtain ⟨tn,htn⟩ : ∃ v,tr.length = v:=⟨_,rfl⟩
                  rw [htn] at htr HY htb
                  have htn':=hid htn
                  clear y2 y3 ytr hd2 hx2 hM2 G2 hj2 hp2 htn r1
                  go_wp2_with (go_at_call 15;refine htr.out.mono ?_;rintro e w4 ⟨⟨a,c4,TB2,rfl,hr⟩,f4⟩;have F4:=hid f4;have HR:=hid hr;clear f4 hr htr r0)
                  have G0:=hid F4.out.drew
                  obtain ⟨z2,z3,_,zr0,zr1⟩:=HY.out _ G0.out
                  refine wp_region_D (fun w' => w'.cell? ⟨B1,j,none⟩ = some (.pointer (some ⟨da,0,none⟩)) ∧ w'.cell? ⟨B2,j,none⟩ = some (.pointer (some ⟨xa,0,none⟩)) ∧ w'.cell? ⟨xa,2,none⟩ = some (.slice ta tn tc) ∧ w'.cell? ⟨xa,3,none⟩ = some (.bool dd)) false [] (by kernel_rfl) ?_
                  refine WD.pure [0,1,2,3,4,5,6,7,8,9,10,11,12,13,14,15] (by kernel_rfl) ⟨zr0,zr1,z2,z3⟩ ?_
                  simp only [pick,aF,aG,aI,aJ,aK]
                  repeat (first | (refine qL (by rfl) _ _ rfl rfl (.pointer (some ⟨da,0,none⟩)) (fun wq h => by first|exact h.1|(rw [h];exact zr0)) _ Tryz.underlying37 rfl ?_;simp only [aA,aB,Act.put,aC,aD,aE]) | (refine qL (by rfl) _ _ rfl rfl (.pointer (some ⟨xa,0,none⟩)) (fun wq h => by first|exact h.2.1|(rw [h];exact zr1)) _ Tryz.underlying39 rfl ?_;simp only [aA,aB,Act.put,aC,aD,aE]) | (refine qL (by rfl) _ _ rfl rfl (.slice ta tn tc) (fun wq h => by first|exact h.2.2.1|(rw [h];exact z2)) _ Tryz.underlying44 rfl ?_;simp only [aA,aB,Act.put,aC,aD,aE]) | (refine qL (by rfl) _ _ rfl rfl (.bool dd) (fun wq h => by first|exact h.2.2.2|(rw [h];exact z3)) _ Tryz.underlying4 rfl ?_;simp only [aA,aB,Act.put,aC,aD,aE]) | go_big_quiet_step (fail) | (refine quiet_len_v (by rfl) _ _ rfl Tryz.underlying44 rfl ?_;simp only [aA,aB,Act.put,aC,aD,aE]))
                  refine qN ?_
                  refine WD.free [17,18,19] (by kernel_rfl) ⟨zr0,zr1,z2,z3⟩ ?_
                  simp only [pick,aF,aG,aI,aJ,aK]
                  repeat (first | go_big_quiet_step (fail))
                  refine qN ?_
                  refine WD.held [20] (by kernel_rfl) ⟨zr0,zr1,z2,z3⟩ ?_
                  simp only [pick,aF,aG,aI,aJ,aK]
                  repeat (first | (refine qL (by rfl) _ _ rfl rfl (.pointer (some ⟨da,0,none⟩)) (fun wq h => by first|exact h.1|(rw [h];exact zr0)) _ Tryz.underlying37 rfl ?_;simp only [aA,aB,Act.put,aC,aD,aE]) | (refine qL (by rfl) _ _ rfl rfl (.pointer (some ⟨xa,0,none⟩)) (fun wq h => by first|exact h.2.1|(rw [h];exact zr1)) _ Tryz.underlying39 rfl ?_;simp only [aA,aB,Act.put,aC,aD,aE]) | (refine qL (by rfl) _ _ rfl rfl (.slice ta tn tc) (fun wq h => by first|exact h.2.2.1|(rw [h];exact z2)) _ Tryz.underlying44 rfl ?_;simp only [aA,aB,Act.put,aC,aD,aE]) | (refine qL (by rfl) _ _ rfl rfl (.bool dd) (fun wq h => by first|exact h.2.2.2|(rw [h];exact z3)) _ Tryz.underlying4 rfl ?_;simp only [aA,aB,Act.put,aC,aD,aE]) | go_big_quiet_step (fail))
                  refine qN ?_
                  refine WD.free [21,22] (by kernel_rfl) ⟨zr0,zr1,z2,z3⟩ ?_
                  simp only [pick,aF,aG,aI,aJ,aK]
                  repeat (first | go_big_quiet_step (fail))
                  refine qN ?_
                  refine WD.held [23] (by kernel_rfl) ⟨zr0,zr1,z2,z3⟩ ?_
                  simp only [pick,aF,aG,aI,aJ,aK]
                  repeat (first | (refine qL (by rfl) _ _ rfl rfl (.pointer (some ⟨da,0,none⟩)) (fun wq h => by first|exact h.1|(rw [h];exact zr0)) _ Tryz.underlying37 rfl ?_;simp only [aA,aB,Act.put,aC,aD,aE]) | (refine qL (by rfl) _ _ rfl rfl (.pointer (some ⟨xa,0,none⟩)) (fun wq h => by first|exact h.2.1|(rw [h];exact zr1)) _ Tryz.underlying39 rfl ?_;simp only [aA,aB,Act.put,aC,aD,aE]) | (refine qL (by rfl) _ _ rfl rfl (.slice ta tn tc) (fun wq h => by first|exact h.2.2.1|(rw [h];exact z2)) _ Tryz.underlying44 rfl ?_;simp only [aA,aB,Act.put,aC,aD,aE]) | (refine qL (by rfl) _ _ rfl rfl (.bool dd) (fun wq h => by first|exact h.2.2.2|(rw [h];exact z3)) _ Tryz.underlying4 rfl ?_;simp only [aA,aB,Act.put,aC,aD,aE]) | go_big_quiet_step (fail))
                  refine qN ?_
                  refine WD.eff 16 (by kernel_rfl) ?_
                  simp only [pick,aF,aG,aI,aJ,aK]
                  go_wp2_with (go_at_call 16;refine (HD.out _ G0.out).mono ?_;rintro e w5 ⟨rfl,hw⟩;have e5:=hid hw;clear hw;rw [e5.out])
                  try refine wpList_nil ?_
                  refine AfterD.on ⟨zr0,zr1,z2,z3⟩ (by kernel_rfl) ?_
                  try simp only [aA,aB,Act.put,aC,aD,aE]
                  refine WD.pure [24,25] (by kernel_rfl) ⟨zr0,zr1,z2,z3⟩ ?_
                  simp only [pick,aF,aG,aI,aJ,aK]
                  repeat (first | go_big_quiet_step (fail))
                  refine qN ?_
                  refine WD.done (by kernel_rfl) ?_
                  go_wp2_with fail
                  clear z2 z3 zr0 zr1 HD e5
                  go_loopw [20] (fun iv wr => ∃ i2 : Nat,i2 ≤ tn ∧ iv = .int .i64 (i2 : Int) ∧ Hid (Fr [] w4 wr)) (fun iv _ => tn - (intOf iv).toNat)
                  case atStart => exact ⟨0,Nat.zero_le _,rfl,hid ((Fr.refl [] w4).drew)⟩
                  case round =>
                   obtain ⟨i2,hi2,rfl,g⟩:=hrel
                   by_cases hlt : i2 < tn
                   · have hd1 : decide (i2 < tn) = true:=by simpa using hlt
                     have hd2 : decide ((i2 : Int) < (tn : Int)) = true:=by simp;omega
                     have g1:=hid g.out.drew
                     have F5:=hid (F4.out.trans' g1.out)
                     have htl : tr.length = tn:=htn'.out
                     obtain ⟨b,o,c',hB,hv,_,_,_,hcell⟩:=(HR.out.keep g1.out (by simp)).some (by omega)
                     obtain ⟨rfl,rfl⟩ : a = some ⟨b,o,none⟩ ∧ c4 = c':=by simpa using hv
                     obtain ⟨z2,_,zr,_,hb⟩:=HY.out _ F5.out
                     obtain ⟨b3,o2,c2,hB2,hv2,_,_,_,hcell2⟩:=zr.some (by omega)
                     obtain ⟨rfl,rfl⟩ : ta = some ⟨b3,o2,none⟩ ∧ tc = c2:=by simpa using hv2
                     obtain ⟨zz,hzz⟩ : ∃ v,tr[i2]'(by omega) = v:=⟨_,rfl⟩
                     have e0 : (tr.map (Value.int .i64))[i2]? = some (.int .i64 zz):=by rw [List.getElem?_map,List.getElem?_eq_getElem (by omega),hzz];rfl
                     have k1 : wr.drew.cell? ⟨b,o + i2,none⟩ = some (.int .i64 zz):=(hcell i2 (by simp;omega)).trans e0
                     have k2 : wr.drew.cell? ⟨b3,o2 + i2,none⟩ = some (.int .i64 zz):=(hcell2 i2 (by simp;omega)).trans e0
                     clear hcell hcell2 hv hv2 hB hB2 zr hzz e0
                     go_wp2_with fail
                     refine wp_region_D (fun _ => True) false [] (by kernel_rfl) ?_
                     refine WD.pure [0,1,2,3,4,5,6,7,8,9,10,11,12,13,14] (by kernel_rfl) trivial ?_
                     simp only [pick,aF,aG,aI,aJ,aK]
                     repeat (first | go_big_quiet_step (fail))
                     refine qN ?_
                     refine WD.done (by kernel_rfl) ?_
                     go_wp2_with fail
                     go_roundw
                     case rel => exact ⟨i2 + 1,by omega,by go_num,g1⟩
                     case measure => simp [intOf];omega
                   · have hd1 : decide (i2 < tn) = false:=by simpa using hlt
                     have hd2 : decide ((i2 : Int) < (tn : Int)) = false:=by simp;omega
                     have VJ2:=hid (VJ.out.step (F4.out.trans' g.out))
                     clear hlt
                     go_wp2_with fail
                     go_roundw
                     case rel => exact ⟨j + 1,by omega,by go_num,VJ2⟩
                     case measure => simp [intOf];omega
                · have b1 : decide ((j : Int) < (K : Int)) = false:=by simp;omega
                  have b1n : decide (j < K) = false:=by simp;omega
                  clear hjk hj
                  have VD:=hid (VJ.out.step (Fr.refl [] _).drew)
                  clear VJ
                  go_wp2_with fail
                  refine wp_region_D (fun _ => True) false [] (by kernel_rfl) ?_
                  refine WD.pure [0,1,2,3] (by kernel_rfl) trivial ?_
                  simp only [pick,aF,aG,aI,aJ,aK]
                  repeat (first | go_big_quiet_step (fail))
                  refine qN ?_
                  refine WD.free [5] (by kernel_rfl) trivial ?_
                  simp only [pick,aF,aG,aI,aJ,aK]
                  repeat (first | go_big_quiet_step (fail))
                  refine qN ?_
                  refine WD.eff 4 (by kernel_rfl) ?_
                  simp only [pick,aF,aG,aI,aJ,aK]
                  go_wp2_with fail
                  try refine wpList_nil ?_
                  refine AfterD.on trivial (by kernel_rfl) ?_
                  try simp only [aA,aB,Act.put,aC,aD,aE]
                  refine WD.eff 6 (by kernel_rfl) ?_
                  simp only [pick,aF,aG,aI,aJ,aK]
                  go_wp2_with fail
                  try refine wpList_nil ?_
                  refine AfterD.on trivial (by kernel_rfl) ?_
                  try simp only [aA,aB,Act.put,aC,aD,aE]
                  refine WD.pure [7,8,9] (by kernel_rfl) trivial ?_
                  simp only [pick,aF,aG,aI,aJ,aK]
                  repeat (first | go_big_quiet_step (fail))
                  refine qN ?_
                  refine WD.free [11,12,13] (by kernel_rfl) trivial ?_
                  simp only [pick,aF,aG,aI,aJ,aK]
                  repeat (first | go_big_quiet_step (fail))
                  refine qN ?_
                  refine WD.held [14] (by kernel_rfl) trivial ?_
                  simp only [pick,aF,aG,aI,aJ,aK]
                  repeat (first | go_big_quiet_step (fail))
                  refine qN ?_
                  refine WD.eff 10 (by kernel_rfl) ?_
                  simp only [pick,aF,aG,aI,aJ,aK]
                  go_wp2_with fail
                  try refine wpList_nil ?_
                  refine AfterD.on trivial (by kernel_rfl) ?_
                  try simp only [aA,aB,Act.put,aC,aD,aE]
                  refine WD.pure [15,16,17] (by kernel_rfl) trivial ?_
                  simp only [pick,aF,aG,aI,aJ,aK]
                  repeat (first | go_big_quiet_step (fail))
                  refine qN ?_
                  refine WD.done (by kernel_rfl) ?_
                  go_wp2_with fail
                  go_roundw
                  case rel => exact ⟨i + 1,none,none,Ms,wt,c,by have:=HI50.out;omega,by have:=HI50.out;omega,by go_num,rfl,rfl,rfl,rfl,hid (AT.out.mono (by omega)),hid trivial,hid (by have:=WTt.out;omega),hid VD.out.less⟩
                  case measure => simp [intOf];have:=HI50.out;omega
          | some X1 =>
            cases Y with
            | none => exact xy.elim
            | some Y1 =>
              rw [vpX_some,vpY_some]
              have TT:=hid xy
              clear xy XY
              have hdo:=hid fun (w1 : World) (r1 : Res) (h : JJ w w1 (r1 :: l0) D0 E0 (some X1) (some Y1) Ms wt Ms wt) => jdoes TT.out AO.out (by have:=HI50.out;have:=HL1.out;omega) WT.out.1 (by have:=WT.out;have:=HI50.out;omega) h s
              have HSB:=hid fun (w1 : World) (b : Nat) (Na Oa : List MS) (na oa : Int) (h : JJ w w1 (Res.blk b (stc8 s) :: l0) D0 E0 (some X1) (some Y1) Na na Oa oa) => (show Blk w1 b (stc8 s) from h.held.blkAt 0 rfl)
              go_wp2_with (first
               | (refine wpList_store_ag rfl _ _ _ rfl rfl (stc8 s) rfl (Blk.alloc wr [.int .i64 0,.int .i64 0,.int .i64 0,.int .u8 0,.slice none 0 0] _) stepT8 rfl (by simp) Hone.out ?_;intro w7 f7 b7 hs7;have b7' : Blk w7 wr.heap.size (stc8 s):=b7;have V7:=hid (V.out.new (((Fr.refl [] wr).alloc _).trans f7 (fun x hx => .inr (by simp at hx;omega))) (Res.On.blk b7') (fun b hb => by simp [Res.blk] at hb;omega));have kb:=V7.out.held.blkAt 0 rfl;have k0 : w7.cell? ⟨wr.heap.size,0,none⟩ = some (.int .i64 s.Do):=kb.cell 0;have k2 : w7.cell? ⟨wr.heap.size,2,none⟩ = some (.int .i64 s.D):=kb.cell 2;have hr7:=HRowG.out _ _ _ _ _ _ _ _ V7.out p bb d x hd.out hx.out hp;rw [← HKP.out] at hr7;obtain ⟨r0,r1⟩:=hr7;clear kb f7 b7 b7' hs7 c0 c1 c2 c3 c4;simp only [aA,aB,Act.put,aC,aD,aE])
               | (refine wpList_load_agW (by rfl) _ _ rfl rfl (stc8 s) (HSB.out _ _ _ _ _ _ V7.out) stepT8 rfl rfl ?_;simp only [aA,aB,Act.put,aC,aD,aE])
               | (go_at_call 14;refine (hdo.out _ _ V7.out).mono ?_;rintro e w8 ⟨rfl,Ms2,wt2,m1,m2,m3,v8⟩;have Vt:=hid v8;have AT:=hid (m1.mono (show 100 + 100 * i + (2 * (L + 1) + 12) ≤ 100 + 100 * i + 60 by have:=HL1.out;omega));have WTt : Hid (0 ≤ wt2 ∧ wt2 ≤ (i : Int) + 1):=hid (by have:=WT.out;omega);clear hdo v8 V7 k0 k2 r0 r1 m1 m2 m3))
              generalize wr.heap.size = sb at *
              clear V AO WT HMs HSB
              as_aux_lemma =>
               go_loopw [18] (fun jv wr => ∃ j : Nat,j ≤ K ∧ jv = .int .i64 (j : Int) ∧ Hid (JJ w wr (Res.blk sb (stc8 s) :: l0) D0 E0 (some X1) (some Y1) Ms2 (wt2) Ms2 (wt2))) (fun jv _ => K - (intOf jv).toNat)
               case atStart => exact ⟨0,by omega,rfl,Vt⟩
               case round =>
                obtain ⟨j,hj,rfl,VJ⟩:=hrel
                clear Vt
                by_cases hjk : j < K
                · have b1 : decide ((j : Int) < (K : Int)) = true:=by simp;omega
                  have b1n : decide (j < K) = true:=by simp;omega
                  have hj8 : (j : Int) ≤ 8:=by omega
                  obtain ⟨p2,b2,hp2,hj2⟩:=half j k (by rw [HKK.out];exact hjk)
                  obtain ⟨d2,hd2⟩ : ∃ d,D0[p2]? = some d:=⟨_,List.getElem?_eq_getElem (by rw [HDl.out];exact hp2)⟩
                  obtain ⟨x2,hx2⟩ : ∃ d,E0[p2]? = some d:=⟨_,List.getElem?_eq_getElem (by rw [HEl.out];exact hp2)⟩
                  obtain ⟨M2,hM2⟩ : ∃ M,Ms2[p2]? = some M:=⟨_,List.getElem?_eq_getElem (by rw [AT.out.1];exact hp2)⟩
                  have G2:=AT.out.at hM2
                  have hrow:=HRowG.out _ _ _ _ _ _ _ _ VJ.out p2 b2 d2 x2 hd2 hx2 hp2
                  rw [← hj2] at hrow
                  obtain ⟨r0,r1⟩:=hrow
                  have htr:=hid (jtrace_c VJ.out hM2 hd2 G2.1 (by have:=G2.2.2;have:=HI50.out;omega) b2)
                  obtain ⟨ta,tc,TB,y2,y3,ytr⟩:=jsee_d VJ.out hM2 hx2 G2.1 b2
                  have HY:=hid fun (w1 : World) (f : Fr [] wr w1) => And.intro (f.cell_some y2) (And.intro (f.cell_some y3) (And.intro (ytr.keep f (by simp)) (And.intro (f.cell_some r0) (f.cell_some r1))))
                  have HD:=hid fun (w1 : World) (f : Fr [] wr w1) => jdead_c (VJ.out.step f) hM2 hd2 G2.1 b2
                  have htb : (M2.s.X b2).Trace.length ≤ 1000000:=by have:=T_le M2.s b2;have:=G2.2.2;have:=HI50.out;omega
                  generalize (M2.s.X b2).Dead = dd at *
                  generalize (M2.s.X b2).Trace = tr at *
                  generalize d2 b2 = da at *
                  generalize x2 b2 = xa at *
                  obtain ⟨tn,htn⟩ : ∃ v,tr.length = v:=⟨_,rfl⟩
                  rw [htn] at htr HY htb
                  have htn':=hid htn
                  clear y2 y3 ytr hd2 hx2 hM2 G2 hj2 hp2 htn r1
                  go_wp2_with (go_at_call 15;refine htr.out.mono ?_;rintro e w4 ⟨⟨a,c4,TB2,rfl,hr⟩,f4⟩;have F4:=hid f4;have HR:=hid hr;clear f4 hr htr r0)
                  have G0:=hid F4.out.drew
                  obtain ⟨z2,z3,_,zr0,zr1⟩:=HY.out _ G0.out
                  refine wp_region_D (fun w' => w'.cell? ⟨B1,j,none⟩ = some (.pointer (some ⟨da,0,none⟩)) ∧ w'.cell? ⟨B2,j,none⟩ = some (.pointer (some ⟨xa,0,none⟩)) ∧ w'.cell? ⟨xa,2,none⟩ = some (.slice ta tn tc) ∧ w'.cell? ⟨xa,3,none⟩ = some (.bool dd)) false [] (by kernel_rfl) ?_
                  refine WD.pure [0,1,2,3,4,5,6,7,8,9,10,11,12,13,14,15] (by kernel_rfl) ⟨zr0,zr1,z2,z3⟩ ?_
                  simp only [pick,aF,aG,aI,aJ,aK]
                  repeat (first | (refine qL (by rfl) _ _ rfl rfl (.pointer (some ⟨da,0,none⟩)) (fun wq h => by first|exact h.1|(rw [h];exact zr0)) _ Tryz.underlying37 rfl ?_;simp only [aA,aB,Act.put,aC,aD,aE]) | (refine qL (by rfl) _ _ rfl rfl (.pointer (some ⟨xa,0,none⟩)) (fun wq h => by first|exact h.2.1|(rw [h];exact zr1)) _ Tryz.underlying39 rfl ?_;simp only [aA,aB,Act.put,aC,aD,aE]) | (refine qL (by rfl) _ _ rfl rfl (.slice ta tn tc) (fun wq h => by first|exact h.2.2.1|(rw [h];exact z2)) _ Tryz.underlying44 rfl ?_;simp only [aA,aB,Act.put,aC,aD,aE]) | (refine qL (by rfl) _ _ rfl rfl (.bool dd) (fun wq h => by first|exact h.2.2.2|(rw [h];exact z3)) _ Tryz.underlying4 rfl ?_;simp only [aA,aB,Act.put,aC,aD,aE]) | go_big_quiet_step (fail) | (refine quiet_len_v (by rfl) _ _ rfl Tryz.underlying44 rfl ?_;simp only [aA,aB,Act.put,aC,aD,aE]))
                  refine qN ?_
                  refine WD.free [17,18,19] (by kernel_rfl) ⟨zr0,zr1,z2,z3⟩ ?_
                  simp only [pick,aF,aG,aI,aJ,aK]
                  repeat (first | go_big_quiet_step (fail))
                  refine qN ?_
                  refine WD.held [20] (by kernel_rfl) ⟨zr0,zr1,z2,z3⟩ ?_
                  simp only [pick,aF,aG,aI,aJ,aK]
                  repeat (first | (refine qL (by rfl) _ _ rfl rfl (.pointer (some ⟨da,0,none⟩)) (fun wq h => by first|exact h.1|(rw [h];exact zr0)) _ Tryz.underlying37 rfl ?_;simp only [aA,aB,Act.put,aC,aD,aE]) | (refine qL (by rfl) _ _ rfl rfl (.pointer (some ⟨xa,0,none⟩)) (fun wq h => by first|exact h.2.1|(rw [h];exact zr1)) _ Tryz.underlying39 rfl ?_;simp only [aA,aB,Act.put,aC,aD,aE]) | (refine qL (by rfl) _ _ rfl rfl (.slice ta tn tc) (fun wq h => by first|exact h.2.2.1|(rw [h];exact z2)) _ Tryz.underlying44 rfl ?_;simp only [aA,aB,Act.put,aC,aD,aE]) | (refine qL (by rfl) _ _ rfl rfl (.bool dd) (fun wq h => by first|exact h.2.2.2|(rw [h];exact z3)) _ Tryz.underlying4 rfl ?_;simp only [aA,aB,Act.put,aC,aD,aE]) | go_big_quiet_step (fail))
                  refine qN ?_
                  refine WD.free [21,22] (by kernel_rfl) ⟨zr0,zr1,z2,z3⟩ ?_
                  simp only [pick,aF,aG,aI,aJ,aK]
                  repeat (first | go_big_quiet_step (fail))
                  refine qN ?_
                  refine WD.held [23] (by kernel_rfl) ⟨zr0,zr1,z2,z3⟩ ?_
                  simp only [pick,aF,aG,aI,aJ,aK]
                  repeat (first | (refine qL (by rfl) _ _ rfl rfl (.pointer (some ⟨da,0,none⟩)) (fun wq h => by first|exact h.1|(rw [h];exact zr0)) _ Tryz.underlying37 rfl ?_;simp only [aA,aB,Act.put,aC,aD,aE]) | (refine qL (by rfl) _ _ rfl rfl (.pointer (some ⟨xa,0,none⟩)) (fun wq h => by first|exact h.2.1|(rw [h];exact zr1)) _ Tryz.underlying39 rfl ?_;simp only [aA,aB,Act.put,aC,aD,aE]) | (refine qL (by rfl) _ _ rfl rfl (.slice ta tn tc) (fun wq h => by first|exact h.2.2.1|(rw [h];exact z2)) _ Tryz.underlying44 rfl ?_;simp only [aA,aB,Act.put,aC,aD,aE]) | (refine qL (by rfl) _ _ rfl rfl (.bool dd) (fun wq h => by first|exact h.2.2.2|(rw [h];exact z3)) _ Tryz.underlying4 rfl ?_;simp only [aA,aB,Act.put,aC,aD,aE]) | go_big_quiet_step (fail))
                  refine qN ?_
                  refine WD.eff 16 (by kernel_rfl) ?_
                  simp only [pick,aF,aG,aI,aJ,aK]
                  go_wp2_with (go_at_call 16;refine (HD.out _ G0.out).mono ?_;rintro e w5 ⟨rfl,hw⟩;have e5:=hid hw;clear hw;rw [e5.out])
                  try refine wpList_nil ?_
                  refine AfterD.on ⟨zr0,zr1,z2,z3⟩ (by kernel_rfl) ?_
                  try simp only [aA,aB,Act.put,aC,aD,aE]
                  refine WD.pure [24,25] (by kernel_rfl) ⟨zr0,zr1,z2,z3⟩ ?_
                  simp only [pick,aF,aG,aI,aJ,aK]
                  repeat (first | go_big_quiet_step (fail))
                  refine qN ?_
                  refine WD.done (by kernel_rfl) ?_
                  go_wp2_with fail
                  clear z2 z3 zr0 zr1 HD e5
                  go_loopw [20] (fun iv wr => ∃ i2 : Nat,i2 ≤ tn ∧ iv = .int .i64 (i2 : Int) ∧ Hid (Fr [] w4 wr)) (fun iv _ => tn - (intOf iv).toNat)
                  case atStart => exact ⟨0,Nat.zero_le _,rfl,hid ((Fr.refl [] w4).drew)⟩
                  case round =>
                   obtain ⟨i2,hi2,rfl,g⟩:=hrel
                   by_cases hlt : i2 < tn
                   · have hd1 : decide (i2 < tn) = true:=by simpa using hlt
                     have hd2 : decide ((i2 : Int) < (tn : Int)) = true:=by simp;omega
                     have g1:=hid g.out.drew
                     have F5:=hid (F4.out.trans' g1.out)
                     have htl : tr.length = tn:=htn'.out
                     obtain ⟨b,o,c',hB,hv,_,_,_,hcell⟩:=(HR.out.keep g1.out (by simp)).some (by omega)
                     obtain ⟨rfl,rfl⟩ : a = some ⟨b,o,none⟩ ∧ c4 = c':=by simpa using hv
                     obtain ⟨z2,_,zr,_,hb⟩:=HY.out _ F5.out
                     obtain ⟨b3,o2,c2,hB2,hv2,_,_,_,hcell2⟩:=zr.some (by omega)
                     obtain ⟨rfl,rfl⟩ : ta = some ⟨b3,o2,none⟩ ∧ tc = c2:=by simpa using hv2
                     obtain ⟨zz,hzz⟩ : ∃ v,tr[i2]'(by omega) = v:=⟨_,rfl⟩
                     have e0 : (tr.map (Value.int .i64))[i2]? = some (.int .i64 zz):=by rw [List.getElem?_map,List.getElem?_eq_getElem (by omega),hzz];rfl
                     have k1 : wr.drew.cell? ⟨b,o + i2,none⟩ = some (.int .i64 zz):=(hcell i2 (by simp;omega)).trans e0
                     have k2 : wr.drew.cell? ⟨b3,o2 + i2,none⟩ = some (.int .i64 zz):=(hcell2 i2 (by simp;omega)).trans e0
                     clear hcell hcell2 hv hv2 hB hB2 zr hzz e0
                     go_wp2_with fail
                     refine wp_region_D (fun _ => True) false [] (by kernel_rfl) ?_
                     refine WD.pure [0,1,2,3,4,5,6,7,8,9,10,11,12,13,14] (by kernel_rfl) trivial ?_
                     simp only [pick,aF,aG,aI,aJ,aK]
                     repeat (first | go_big_quiet_step (fail))
                     refine qN ?_
                     refine WD.done (by kernel_rfl) ?_
                     go_wp2_with fail
                     go_roundw
                     case rel => exact ⟨i2 + 1,by omega,by go_num,g1⟩
                     case measure => simp [intOf];omega
                   · have hd1 : decide (i2 < tn) = false:=by simpa using hlt
                     have hd2 : decide ((i2 : Int) < (tn : Int)) = false:=by simp;omega
                     have VJ2:=hid (VJ.out.step (F4.out.trans' g.out))
                     clear hlt
                     go_wp2_with fail
                     go_roundw
                     case rel => exact ⟨j + 1,by omega,by go_num,VJ2⟩
                     case measure => simp [intOf];omega
                · have b1 : decide ((j : Int) < (K : Int)) = false:=by simp;omega
                  have b1n : decide (j < K) = false:=by simp;omega
                  clear hjk hj
                  have VD:=hid (VJ.out.step (Fr.refl [] _).drew)
                  have hs:=jwr_d VD.out
                  have HL1:=hid (jlen_c TT.out VD.out)
                  have HL2:=hid fun (w1 : World) (h1 : JJ w w1 (Res.blk sb (stc8 s) :: l0) D0 E0 (some X1) (some Y1) Ms2 wt2 Ms2 wt2) => jlen_d TT.out AT.out h1
                  have HW1:=hid fun (w1 : World) (h1 : JJ w w1 (Res.blk sb (stc8 s) :: l0) D0 E0 (some X1) (some Y1) Ms2 wt2 Ms2 wt2) => And.intro (jwr_c TT.out h1) (jwr_d h1)
                  generalize L * k = lk at *
                  clear VJ
                  go_wp2_with fail
                  refine wp_region_D (fun w' => w'.cell? ⟨Y1.yb,1,none⟩ = some (.int .i64 (wt2))) false [] (by kernel_rfl) ?_
                  refine WD.pure [0,1,2,3] (by kernel_rfl) hs ?_
                  simp only [pick,aF,aG,aI,aJ,aK]
                  repeat (first | go_big_quiet_step (fail))
                  refine qN ?_
                  refine WD.free [5] (by kernel_rfl) hs ?_
                  simp only [pick,aF,aG,aI,aJ,aK]
                  repeat (first | go_big_quiet_step (fail))
                  refine qN ?_
                  refine WD.eff 4 (by kernel_rfl) ?_
                  simp only [pick,aF,aG,aI,aJ,aK]
                  go_wp2_with (go_at_call 17;refine HL1.out.mono ?_;rintro e w11 ⟨rfl,f11⟩;have V11:=hid (VD.out.step f11);have hs11:=jwr_d V11.out;clear f11 VD HL1)
                  try refine wpList_nil ?_
                  refine AfterD.on hs11 (by kernel_rfl) ?_
                  try simp only [aA,aB,Act.put,aC,aD,aE]
                  refine WD.eff 6 (by kernel_rfl) ?_
                  simp only [pick,aF,aG,aI,aJ,aK]
                  go_wp2_with (go_at_call 18;refine (HL2.out _ V11.out).mono ?_;rintro e w12 ⟨rfl,hw⟩;have e12:=hid hw;clear hw;rw [e12.out])
                  try refine wpList_nil ?_
                  refine AfterD.on hs11 (by kernel_rfl) ?_
                  try simp only [aA,aB,Act.put,aC,aD,aE]
                  refine WD.pure [7,8,9] (by kernel_rfl) hs11 ?_
                  simp only [pick,aF,aG,aI,aJ,aK]
                  repeat (first | go_big_quiet_step (fail))
                  refine qN ?_
                  refine WD.free [11,12,13] (by kernel_rfl) hs11 ?_
                  simp only [pick,aF,aG,aI,aJ,aK]
                  repeat (first | go_big_quiet_step (fail))
                  refine qN ?_
                  refine WD.held [14] (by kernel_rfl) hs11 ?_
                  simp only [pick,aF,aG,aI,aJ,aK]
                  repeat (first | (refine qL (by rfl) _ _ rfl rfl (.int .i64 (wt2)) (fun wq h => by first|exact h|(rw [h];exact hs)) _ Tryz.underlying3 rfl ?_;simp only [aA,aB,Act.put,aC,aD,aE]) | go_big_quiet_step (fail))
                  refine qN ?_
                  refine WD.eff 10 (by kernel_rfl) ?_
                  simp only [pick,aF,aG,aI,aJ,aK]
                  go_wp2_with (go_at_call 19;refine (HW1.out _ V11.out).1.mono ?_;rintro e w13 ⟨rfl,hw⟩;have e13:=hid hw;clear hw;rw [e13.out])
                  try refine wpList_nil ?_
                  refine AfterD.on hs11 (by kernel_rfl) ?_
                  try simp only [aA,aB,Act.put,aC,aD,aE]
                  refine WD.pure [15,16,17] (by kernel_rfl) hs11 ?_
                  simp only [pick,aF,aG,aI,aJ,aK]
                  repeat (first | go_big_quiet_step (fail))
                  refine qN ?_
                  refine WD.done (by kernel_rfl) ?_
                  go_wp2_with fail
                  go_roundw
                  case rel => exact ⟨i + 1,(some X1),(some Y1),Ms2,wt2,c,by have:=HI50.out;omega,by have:=HI50.out;omega,by go_num,rfl,rfl,rfl,rfl,hid (AT.out.mono (by omega)),hid TT.out,hid (by have:=WTt.out;omega),hid V11.out.less⟩
                  case measure => simp [intOf];have:=HI50.out;omega
  · have hfr:=hid V.out.fr
    clear V AO XY WT
    by_cases hx : i < l.length
    · have hx2 : ¬ i < 50:=fun h => hlt ⟨h,hx⟩
      have a1 : decide ((i : Int) < (l.length : Int)) = true:=by simp;omega
      have a1n : decide (i < l.length) = true:=by simp;omega
      have a2 : decide ((i : Int) < 50) = false:=by simp;omega
      have a2n : decide (i < 50) = false:=by simp;omega
      clear hlt hi hil
      go_wp2_with (go_at_call 20;refine (HA.out _).mono ?_;rintro e w5 ⟨rfl,f5⟩)
      go_ret
      exact ⟨rfl,hfr.out.trans' f5⟩
    · have a1 : decide ((i : Int) < (l.length : Int)) = false:=by simp;omega
      have a1n : decide (i < l.length) = false:=by simp;omega
      clear hlt hi hil
      go_wp2_with (go_at_call 20;refine (HA.out _).mono ?_;rintro e w5 ⟨rfl,f5⟩)
      go_ret
      exact ⟨rfl,hfr.out.trans' f5⟩
end
end Go.Proofs.YtgafefecookgaaaGreat
