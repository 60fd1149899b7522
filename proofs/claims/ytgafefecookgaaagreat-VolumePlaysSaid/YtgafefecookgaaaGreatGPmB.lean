/- Several texts put together: PmH, PmI, PmJ, PmK, PmL, PmM, PmN, PmO, PmP, PmQ, PmR, PmS. What each shows stands ahead of it. -/
import Derived.Test.YtgafefecookgaaaGreatGPmA
import Derived.Test.YtgafefecookgaaaGreatGMirB
import Derived.Test.YtgafefecookgaaaGreatGMirC
import Derived.Test.YtgafefecookgaaaGreatGMirD
import Derived.Test.YtgafefecookgaaaGreatGVolB
open Go.World renaming size_alloc → aA,size_drew → aB
open List renaming setIfInBounds_toArray → aC,set_cons_succ → aD,set_cons_zero → aE,toList_toArray → aF,map_cons → aG,map_nil → aI,getD_cons_succ → aJ,getD_cons_zero → aK
set_option linter.unusedVariables false
set_option linter.unusedSimpArgs false
set_option maxRecDepth 20000
set_option maxHeartbeats 16000000
namespace Go.Proofs.YtgafefecookgaaaGreat
open Go Go.Xr Go.RowKit
section
variable {P : Program} {ops : Array Oper} {Q : Exit → Act → World → Prop} {a : Act} {w : World} {K : Act → World → Prop} {rest : List Oper} {o : Oper}
theorem pbuild_any (hg : o.guard = none) (t : TypeId) (n : Nat) (ps : Array (Nat × Operand)) (ho : o.op = .buildSlice t n ps) (e : TypeId) (hu : P.underlying t = some (.slice e)) (i : TypeInfo) (z : Value) (hi : P.info? e = some i) (hz : i.zero = some z) (hzs : z.cells.size = 1)
 (hs : i.size = 1) (hn : n ≤ 16777216) (hn0 : 0 < n) (hidx : ps.toList.map (·.1) = List.range n) (vs : List Value) (hvs : ps.toList.map (fun p => a.eval p.2) = vs) (h1 : ∀ v ∈ vs,v.oneCell' = true)
 (h : ∀ w',Fr [] w w' → w.heap.size < w'.heap.size → Blk w' w.heap.size vs → wpList P ops Q rest (a.put o.dst (.slice (some ⟨w.heap.size,0,none⟩) n n)) w') : wpList P ops Q (o :: rest) a w :=
 wpList_buildSlice_ones hg t n ps ho e hu i z hi hz hzs hs hn hn0 hidx vs hvs h1 fun hb => h _ ((Fr.refl [] w).alloc _) (by simp) hb
end
def Sys.mayC (s : Sys) : Int:=if s.len false = s.len true ∧ 2 ≤ s.len false then 0 else 2
section
variable {w w' w0 : World} {l rs : List Res} {pbs : List Nat} {m db ib : Nat} {s : Sys} {M M' : MS} {d : Bool → Nat} {FF FF' : Bool → List Nat}
theorem xdk_mem {x : Nat} {X : XD} {k : Option Nat} {F : List Nat} (h : (xdk x X pbs k F).P w) : x ∈ F:=by
 obtain ⟨⟨i,hF,_⟩,_⟩:=h
 rw [hF]
 exact xps_mem x X _ i
theorem xdisks_ne (h : Held w (l ++ sysX pbs s d FF)) : d false ≠ d true:=by
 have h2 : Held w (sysX pbs s d FF):=Held.part l [] (by simpa using h)
 have hne:=h2.idx_ne (i:=1) (j:=2) (by decide) rfl rfl (d false) (xdk_mem (h2.at 1 rfl))
 have hm : d true ∈ (xdk (d true) (s.X true) pbs (s.k true) (FF true)).F:=xdk_mem (h2.at 2 rfl)
 intro e
 rw [← e] at hm
 exact hne hm
theorem xptrs_ne (h : Held w (l ++ sysX pbs s d FF)) (ok : SysOk s) : (binOp .eql 39 (.pointer (some ⟨d false,0,none⟩)) (.pointer (some ⟨d true,0,none⟩))).run Tryz.prog w = .ok (.bool false) w:=by
 obtain ⟨_,_,_,_,_,_,p0⟩:=xsee false h ok
 obtain ⟨_,_,_,_,_,_,p1⟩:=xsee true h ok
 exact run_ptr_ne p0 p1 (xdisks_ne h) Tryz.underlying39 rfl (by decide)
theorem xsee2 (b : Bool) (h : Held w (l ++ sysX pbs s d FF)) (ok : SysOk s) : ∃ (kb c : Nat),w.cell? ⟨d b,0,none⟩ = some (.slice (some ⟨kb,0,none⟩) (s.len b) c) ∧ w.cell? ⟨d b,3,none⟩ = some (.bool (s.X b).Dead):=by
 obtain ⟨kb,c,lv,tv,pv,hb,_⟩:=xsee b h ok
 exact ⟨kb,c,hb.cell 0,hb.cell 3⟩
theorem pmay2_any (h : Held w (l ++ sysX pbs s d FF)) (ok : SysOk s) :
 Calls Tryz.prog 57 #[.pointer (some ⟨d false,0,none⟩),.pointer (some ⟨d true,0,none⟩)] w fun e w' => e = .returned (.int .i64 s.mayC) ∧ Fr [] w w':=by
 have hne:=xptrs_ne h ok
 obtain ⟨ka,ca,a0,_⟩:=xsee2 false h ok
 obtain ⟨kb,cb,b0,_⟩:=xsee2 true h ok
 have a1 : w.drew.cell? ⟨d false,0,none⟩ = some (.slice (some ⟨ka,0,none⟩) (s.len false) ca):=a0
 have b1 : w.drew.cell? ⟨d true,0,none⟩ = some (.slice (some ⟨kb,0,none⟩) (s.len true) cb):=b0
 unfold Sys.mayC
 generalize s.len false = n at *
 generalize s.len true = q at *
 clear h ok a0 b0
 by_cases e1 : n = q
 · subst e1
   by_cases e2 : 2 ≤ n
   · rw [if_pos ⟨rfl,e2⟩]
     have hd : decide (n < 2) = false:=by simp;omega
     have hd' : decide ((n : Int) < 2) = false:=by simp;omega
     clear e2
     go_enter Tryz.func57,Tryz.ntmps57
     go_wp2_with fail
     refine wp_region_D (fun _ => True) false [] (by kernel_rfl) ?_
     refine WD.pure [0,1,2,3,4,5,6,7,8,9,10,11,12,13,14,15,16,17,18] (by kernel_rfl) trivial ?_
     simp only [pick,aF,aG,aI,aJ,aK]
     repeat (first | go_big_quiet_step (fail))
     refine wpQuiet_nil ?_
     refine WD.done (by kernel_rfl) ?_
     go_wp2_with fail
     go_ret
     exact ⟨rfl,(Fr.refl [] w).drew⟩
   · rw [if_neg (fun h => e2 h.2)]
     have hd : decide (n < 2) = true:=by simp;omega
     have hd' : decide ((n : Int) < 2) = true:=by simp;omega
     clear e2
     go_enter Tryz.func57,Tryz.ntmps57
     go_wp2_with fail
     refine wp_region_D (fun _ => True) false [] (by kernel_rfl) ?_
     refine WD.pure [0,1,2,3,4,5,6,7,8,9,10,11,12,13,14,15,16,17,18] (by kernel_rfl) trivial ?_
     simp only [pick,aF,aG,aI,aJ,aK]
     repeat (first | go_big_quiet_step (fail))
     refine wpQuiet_nil ?_
     refine WD.done (by kernel_rfl) ?_
     go_wp2_with fail
     go_ret
     exact ⟨rfl,(Fr.refl [] w).drew⟩
 · rw [if_neg (fun h => e1 h.1)]
   have hd : ((n : Int) != (q : Int)) = true:=by simp;omega
   clear e1
   go_enter Tryz.func57,Tryz.ntmps57
   go_wp2_with fail
   refine wp_region_D (fun _ => True) false [] (by kernel_rfl) ?_
   refine WD.pure [0,1,2,3,4,5,6,7,8,9,10,11,12,13,14,15,16,17,18] (by kernel_rfl) trivial ?_
   simp only [pick,aF,aG,aI,aJ,aK]
   repeat (first | go_big_quiet_step (fail))
   refine wpQuiet_nil ?_
   refine WD.done (by kernel_rfl) ?_
   go_wp2_with fail
   go_ret
   exact ⟨rfl,(Fr.refl [] w).drew⟩
theorem Ev.three {r1 r2 r3 : Res} {S : List Res} (e : Ev w rs w' (r1 :: r3 :: r2 :: (l ++ S))) : Ev w rs w' (l ++ ([r1,r2,r3] ++ S)):=by
 refine Ev.perm e ?_
 have p1 : (r1 :: r3 :: r2 :: (l ++ S)).Perm (r1 :: r2 :: r3 :: (l ++ S)):=List.Perm.cons _ (List.Perm.swap _ _ _)
 refine p1.trans ?_
 have p2 : (([r1,r2,r3] ++ l) ++ S).Perm ((l ++ [r1,r2,r3]) ++ S):=(List.perm_append_comm).append_right S
 rw [List.append_assoc,List.append_assoc] at p2
 exact p2
theorem pinf26 : ∃ i,Tryz.prog.info? 39 = some i ∧ i.zero = some (.pointer none) ∧ i.size = 1:=⟨_,rfl,rfl,rfl⟩
theorem pinf3 : ∃ i,Tryz.prog.info? 3 = some i ∧ i.zero = some (.int .i64 0) ∧ i.size = 1:=⟨_,rfl,rfl,rfl⟩
theorem pmake_ok (h : Held w (l ++ sysX pbs s d FF)) (ok : SysOk s) (ht : s.T < 998900) (hc : s.mayC = 0) (h0 : (s.X false).Dead = false) (h1 : (s.X true).Dead = false) :
 Calls Tryz.prog 25 #[.pointer (some ⟨d false,0,none⟩),.pointer (some ⟨d true,0,none⟩)] w fun e w' => ∃ m db ib FF',e = .returned (.tuple #[.pointer (some ⟨m,0,none⟩),.int .i64 0]) ∧ Ev w (l ++ sysX pbs s d FF) w' (l ++ mirX pbs m db ib d FF' ⟨s.made,true,true,1⟩):=by
 have HY:=hid (pmay2_any h ok)
 rw [hc] at HY
 obtain ⟨i26,hi26,hz26,hs26⟩:=pinf26
 obtain ⟨i3,hi3,hz3,hs3⟩:=pinf3
 have Hi:=hid hi26
 have Hz:=hid hz26
 have Hs:=hid hs26
 have Ji:=hid hi3
 have Jz:=hid hz3
 have Js:=hid hs3
 have hln : s.len false = s.len true:=by unfold Sys.mayC at hc;split at hc;rename_i hh;exact hh.1;cases hc
 have HA:=hid fun (w1 : World) (f : Fr [] w w1) => (xsee2 false (h.keep0 f) ok).choose_spec.choose_spec.2
 have HB:=hid fun (w1 : World) (f : Fr [] w w1) => (xsee2 true (h.keep0 f) ok).choose_spec.choose_spec.2
 have HKb:=hid fun (w1 : World) (f : Fr [] w w1) => xsee2 false (h.keep0 f) ok
 rw [h0] at HA
 rw [h1] at HB
 have hn:=(len_pos ok false).2
 obtain ⟨Z,hZ⟩ : ∃ Z,supS 1 (s.len false) = Z:=⟨_,rfl⟩
 have HSu:=hid fun w1 : World => rsuper_any (w:=w1) 1 (s.len false) hn
 rw [show W64 1 = Value.int .u64 1 from rfl,hZ] at HSu
 have hZs : Z.size = 512:=by rw [← hZ];exact supS_size _ _
 have e1 : s.st false 1 = s.wr false 0 Z:=by unfold Sys.st;rw [hZ]
 have e2 : (s.st false 1).st true 1 = (s.wr false 0 Z).wr true 0 Z:=by
  rw [e1]
  unfold Sys.st
  have : (s.wr false 0 Z).len true = s.len true:=(wr_stp s false 0 Z).len ok true
  rw [this,← hln,hZ]
 have eM : s.made = (((s.wr false 0 Z).wr true 0 Z).fl false).fl true:=by unfold Sys.made;rw [e2]
 obtain ⟨s1,hs1⟩ : ∃ s1,s.wr false 0 Z = s1:=⟨_,rfl⟩
 obtain ⟨s2,hs2⟩ : ∃ s2,s1.wr true 0 Z = s2:=⟨_,rfl⟩
 obtain ⟨s3,hs3'⟩ : ∃ s3,s2.fl false = s3:=⟨_,rfl⟩
 obtain ⟨s4,hs4⟩ : ∃ s4,s3.fl true = s4:=⟨_,rfl⟩
 rw [hs1,hs2,hs3',hs4] at eM
 have ok1 : SysOk s1:=hs1 ▸ (wr_stp s false 0 Z).ok ok
 have ok2 : SysOk s2:=hs2 ▸ (wr_stp s1 true 0 Z).ok ok1
 have ok3 : SysOk s3:=hs3' ▸ (fl_stp s2 false).ok ok2
 have t1 : s1.T ≤ s.T + 2:=hs1 ▸ (wr_stp s false 0 Z).T ok
 have t2 : s2.T ≤ s1.T + 2:=hs2 ▸ (wr_stp s1 true 0 Z).T ok1
 have t3 : s3.T ≤ s2.T + 2:=hs3' ▸ (fl_stp s2 false).T ok2
 have HW1:=hid fun (w1 : World) (FF1 : Bool → List Nat) (h1 : Held w1 (l ++ sysX pbs s d FF1)) => xW false h1 ok (by omega) 0 Z (by rw [hZs];decide)
 have HW2:=hid fun (w1 : World) (FF1 : Bool → List Nat) (h1 : Held w1 (l ++ sysX pbs s1 d FF1)) => xW true h1 ok1 (by omega) 0 Z (by rw [hZs];decide)
 have HF1:=hid fun (w1 : World) (FF1 : Bool → List Nat) (h1 : Held w1 (l ++ sysX pbs s2 d FF1)) => xF false h1 ok2 (by omega)
 have HF2:=hid fun (w1 : World) (FF1 : Bool → List Nat) (h1 : Held w1 (l ++ sysX pbs s3 d FF1)) => xF true h1 ok3 (by omega)
 rw [hs1] at HW1
 rw [hs2] at HW2
 rw [hs3'] at HF1
 rw [hs4] at HF2
 rw [eM]
 generalize s.wrC false 0 Z = q1 at *
 generalize s1.wrC true 0 Z = q2 at *
 generalize s2.flC false = q3 at *
 generalize s3.flC true = q4 at *
 generalize s.len false = n at *
 have E0:=hid (Ev.refl h)
 clear h ok hc h0 h1 hln hn hZ hZs e1 e2 eM hs1 hs2 hs3' hs4 ok1 ok2 ok3 t1 t2 t3 ht hi26 hz26 hs26 hi3 hz3 hs3
 go_enter Tryz.func25,Tryz.ntmps25
 go_wp2_with (first
  | (go_at_call 57;refine HY.out.mono ?_;rintro e w1 ⟨rfl,f1⟩;have a1:=HA.out _ f1;have b1:=HB.out _ f1;obtain ⟨kb,kc,k1,_⟩:=HKb.out _ f1;have E1:=hid (E0.out.step f1);clear f1 HY E0 HA HB HKb)
  | (go_at_call 58;refine (HSu.out _).mono ?_;rintro e w2 ⟨rfl,f2⟩;have E2:=hid (E1.out.step f2);clear f2 HSu E1)
  | (go_at_call 59;refine (HW1.out _ _ E2.out.held).mono ?_;rintro e w3 ⟨rfl,F3,v3⟩;have E3:=hid (E2.out.trans v3);clear v3 HW1 E2)
  | (go_at_call 59;refine (HW2.out _ _ E3.out.held).mono ?_;rintro e w4 ⟨rfl,F4,v4⟩;have E4:=hid (E3.out.trans v4);clear v4 HW2 E3)
  | (go_at_call 60;refine (HF1.out _ _ E4.out.held).mono ?_;rintro e w5 ⟨rfl,F5,v5⟩;have E5:=hid (E4.out.trans v5);clear v5 HF1 E4)
  | (go_at_call 60;refine (HF2.out _ _ E5.out.held).mono ?_;rintro e w6 ⟨rfl,F6,v6⟩;have E6:=hid (E5.out.trans v6);clear v6 HF2 E5)
  | (refine pbuild_any rfl _ 2 _ rfl 39 Tryz.underlying24 _ _ Hi.out Hz.out rfl Hs.out (by decide) (by decide) rfl (dbL d) rfl (by simp [dbL,Value.oneCell']) ?_;intro w7 f7 hlt7 hb7;have E7:=hid (E6.out.new f7 (Res.On.blk hb7) (fun b hb => by simp [Res.blk] at hb;omega));clear f7 hlt7 hb7 E6;simp only [aA,aB,Act.put,aC,aD,aE])
  | (refine pbuild_any rfl _ 2 _ rfl 3 Tryz.underlying44 _ _ Ji.out Jz.out rfl Js.out (by decide) (by decide) rfl [.int .i64 0,.int .i64 0] rfl (by simp [Value.oneCell']) ?_;intro w8 f8 hlt8 hb8;have E8:=hid (E7.out.new f8 (isR_on (M:=⟨s4,true,true,1⟩) hb8 rfl rfl) (fun b hb => by simp [isR] at hb;omega));clear f8 hlt8 hb8 E7;simp only [aA,aB,Act.put,aC,aD,aE])
  | (refine wpList_box rfl _ _ rfl (gmL w6.heap.size w7.heap.size 1) rfl ?_;intro w9 f9 hlt9 hb9;have E9:=hid (E8.out.new f9 (Res.On.blk hb9) (fun b hb => by simp [Res.blk] at hb;omega));clear f9 hlt9 hb9 E8;simp only [aA,aB,Act.put,aC,aD,aE]))
 go_ret2
 exact ⟨_,_,_,F6,rfl,Ev.three E9.out⟩
end
attribute [local go_sem] gtr_u64 eql_u64 mt_eqg
def Sys.opA (s : Sys) : UInt64 × Bool:=if s.stO false then (s.stG false,true) else (0,false)
def Sys.opB (s : Sys) : UInt64 × Bool:=if s.stO true && (!s.opA.2 || decide (s.opA.1 < s.stG true)) then (s.stG true,true) else s.opA
def Sys.cur (s : Sys) (b : Bool) : Bool:=s.stO b && decide (s.stG b = s.opB.1)
theorem op1_any (s : Sys) : s.op1.2 = s.opB.2:=by
 unfold Sys.op1 Sys.op0 Sys.opB Sys.opA MS.opR
 cases h0 : s.stO false <;> cases h1 : s.stO true <;> simp [h0,h1]
 by_cases e1 : s.stG false < s.stG true
 · simp [e1]
 · by_cases e2 : s.stG true = s.stG false
   · simp [e1,e2]
   · simp [e1,e2]
theorem op1_cur (s : Sys) (h : s.opB.2 = true) : s.op1.1 = ⟨s,s.cur false,s.cur true,s.opB.1⟩:=by
 unfold Sys.op1 Sys.op0 Sys.cur
 unfold Sys.opB Sys.opA at h ⊢
 unfold MS.opR
 cases h0 : s.stO false <;> cases h1 : s.stO true <;> simp [h0,h1] at h ⊢
 by_cases e1 : s.stG false < s.stG true
 · have e2 : ¬ s.stG false = s.stG true:=fun e => by rw [e] at e1;exact absurd e1 (by simp [UInt64.lt_irrefl])
   simp [e1,e2]
 · by_cases e2 : s.stG true = s.stG false
   · simp [e1,e2]
   · have e3 : ¬ s.stG false = s.stG true:=fun e => e2 e.symm
     simp [e1,e2,e3]
theorem sto_dead {s : Sys} {b : Bool} (h : (s.X b).Dead = true) : s.stO b = false:=by
 unfold Sys.stO
 rw [if_neg]
 intro e
 have e2 : mayN (s.X b) (mk 0 (s.lf b)) 0 ⟨#[]⟩ false = 0:=e
 obtain ⟨hd,_⟩:=mayN_ok e2
 unfold xdead at hd
 rw [h] at hd
 simp at hd
section
variable {w w' w0 : World} {l rs : List Res} {pbs : List Nat} {m db ib : Nat} {s : Sys} {M M' : MS} {d : Bool → Nat} {FF FF' : Bool → List Nat}
theorem popen_bad (h : Held w (l ++ sysX pbs s d FF)) (ok : SysOk s) (hc : s.mayC ≠ 0) :
 Calls Tryz.prog 27 #[.pointer (some ⟨d false,0,none⟩),.pointer (some ⟨d true,0,none⟩)] w fun e w' => e = .returned (.tuple #[.pointer none,.int .i64 2]) ∧ Fr [] w w':=by
 have HY:=hid (pmay2_any h ok)
 have e2 : s.mayC = 2:=by unfold Sys.mayC at hc ⊢;split at hc;exact absurd rfl hc;rename_i hh;exact if_neg hh
 rw [e2] at HY
 clear h ok hc e2
 go_enter Tryz.func27,Tryz.ntmps27
 go_wp2_with (go_at_call 57;refine HY.out.mono ?_;rintro e w1 ⟨rfl,f1⟩)
 go_ret2
 exact ⟨rfl,f1⟩
theorem popen_lost (h : Held w (l ++ sysX pbs s d FF)) (ok : SysOk s) (hc : s.mayC = 0) (h0 : (s.X false).Dead = true) (h1 : (s.X true).Dead = true) :
 Calls Tryz.prog 27 #[.pointer (some ⟨d false,0,none⟩),.pointer (some ⟨d true,0,none⟩)] w fun e w' => e = .returned (.tuple #[.pointer none,.int .i64 70]) ∧ Fr [] w w':=by
 have HY:=hid (pmay2_any h ok)
 rw [hc] at HY
 have HA:=hid fun (w1 : World) (f : Fr [] w w1) => (xsee2 false (h.keep0 f) ok).choose_spec.choose_spec.2
 have HB:=hid fun (w1 : World) (f : Fr [] w w1) => (xsee2 true (h.keep0 f) ok).choose_spec.choose_spec.2
 rw [h0] at HA
 rw [h1] at HB
 clear h ok hc h0 h1
 go_enter Tryz.func27,Tryz.ntmps27
 go_wp2_with (go_at_call 57;refine HY.out.mono ?_;rintro e w1 ⟨rfl,f1⟩;have a1:=HA.out _ f1;have b1:=HB.out _ f1)
 go_ret2
 exact ⟨rfl,f1⟩
def opK (s : Sys) : Nat → UInt64 × Bool
 | 0 => (0,false)
 | 1 => s.opA
 | _ => s.opB
def opM (s : Sys) : Nat → MS
 | 0 => ⟨s,false,false,s.opB.1⟩
 | 1 => ⟨s,s.cur false,false,s.opB.1⟩
 | _ => ⟨s,s.cur false,s.cur true,s.opB.1⟩
theorem popen_no (h : Held w (l ++ sysX pbs s d FF)) (ok : SysOk s) (ht : s.T < 998900) (hc : s.mayC = 0) (hd : (s.X false).Dead = false ∨ (s.X true).Dead = false) (hB : s.opB.2 = false) :
 Calls Tryz.prog 27 #[.pointer (some ⟨d false,0,none⟩),.pointer (some ⟨d true,0,none⟩)] w fun e w' => e = .returned (.tuple #[.pointer none,.int .i64 71]) ∧ Ev w (l ++ sysX pbs s d FF) w' (l ++ sysX pbs s d FF):=by
 have HY:=hid (pmay2_any h ok)
 rw [hc] at HY
 obtain ⟨i26,hi26,hz26,hs26⟩:=pinf26
 obtain ⟨i3,hi3,hz3,hs3⟩:=pinf3
 have Hi:=hid hi26
 have Hz:=hid hz26
 have Hs:=hid hs26
 have Ji:=hid hi3
 have Jz:=hid hz3
 have Js:=hid hs3
 have HA:=hid fun (w1 : World) (f : Fr [] w w1) => (xsee2 false (h.keep0 f) ok).choose_spec.choose_spec.2
 have HB:=hid fun (w1 : World) (f : Fr [] w w1) => (xsee2 true (h.keep0 f) ok).choose_spec.choose_spec.2
 have E0:=hid (Ev.refl h)
 have OK:=hid ok
 have TX:=hid (show s.T < 1000000 by omega)
 have hdd : ((s.X false).Dead && (s.X true).Dead) = false:=by rcases hd with hd | hd <;> simp [hd]
 obtain ⟨x0,hx0⟩ : ∃ v,(s.X false).Dead = v:=⟨_,rfl⟩
 obtain ⟨x1,hx1⟩ : ∃ v,(s.X true).Dead = v:=⟨_,rfl⟩
 have HX0:=hid hx0
 have HX1:=hid hx1
 rw [hx0] at HA hdd
 rw [hx1] at HB hdd
 clear h ok hc ht hi26 hz26 hs26 hi3 hz3 hs3 hd hx0 hx1
 go_enter Tryz.func27,Tryz.ntmps27
 cases x0 with
 | true =>
   have hx1 : x1 = false:=by simpa using hdd
   subst hx1
   clear hdd
   go_wp2_with (first
    | (go_at_call 57;refine HY.out.mono ?_;rintro e w1 ⟨rfl,f1⟩;have a1:=HA.out _ f1;have b1:=HB.out _ f1;have E1:=hid (E0.out.step f1);clear f1 HY E0 HA HB)
    | (refine pbuild_any rfl _ 2 _ rfl 39 Tryz.underlying24 _ _ Hi.out Hz.out rfl Hs.out (by decide) (by decide) rfl (dbL d) rfl (by simp [dbL,Value.oneCell']) ?_;intro w7 f7 hlt7 hb7;have E7:=hid (E1.out.new f7 (Res.On.blk hb7) (fun b hb => by simp [Res.blk] at hb;omega));clear f7 hlt7 hb7 E1;simp only [aA,aB,Act.put,aC,aD,aE])
    | (refine pbuild_any rfl _ 2 _ rfl 3 Tryz.underlying44 _ _ Ji.out Jz.out rfl Js.out (by decide) (by decide) rfl [.int .i64 1,.int .i64 1] rfl (by simp [Value.oneCell']) ?_;intro w8 f8 hlt8 hb8;have E8:=hid (E7.out.new f8 (isR_on (M:=⟨s,false,false,0⟩) hb8 rfl rfl) (fun b hb => by simp [isR] at hb;omega));clear f8 hlt8 hb8 E7;simp only [aA,aB,Act.put,aC,aD,aE])
    | (refine wpList_box rfl _ _ rfl (gmL w1.heap.size w7.heap.size 0) rfl ?_;intro w9 f9 hlt9 hb9;have E9:=hid (Ev.three (E8.out.new f9 (Res.On.blk hb9) (fun b hb => by simp [Res.blk] at hb;omega)));clear f9 hlt9 hb9 E8;simp only [aA,aB,Act.put,aC,aD,aE]))
   obtain ⟨m,hm⟩ : ∃ m,w8.heap.size = m:=⟨_,rfl⟩
   obtain ⟨db,hdb⟩ : ∃ m,w1.heap.size = m:=⟨_,rfl⟩
   obtain ⟨ib,hib⟩ : ∃ m,w7.heap.size = m:=⟨_,rfl⟩
   rw [hm] at E9 ⊢
   rw [hdb,hib] at E9
   clear hm hdb hib a1 b1
   go_loopw [8,9] (fun av iv wr => ∃ q : Nat,q ≤ 2 ∧ iv = .int .i64 (q : Int) ∧ av = .bool (opK s q).2 ∧ Hid (Ev w (l ++ sysX pbs s d FF) wr (l ++ mirX pbs m db ib d FF ⟨s,false,false,(opK s q).1⟩))) (fun _ iv _ => 2 - (intOf iv).toNat)
   case atStart => exact ⟨0,by decide,rfl,rfl,E9⟩
   case round =>
    obtain ⟨q,hq,rfl,rfl,E⟩:=hrel
    clear E9
    have hq3 : q = 0 ∨ q = 1 ∨ q = 2:=by omega
    rcases hq3 with rfl | rfl | rfl
    · rw [show (opK s 0).1 = 0 from rfl] at E
      rw [show (opK s 0).2 = false from rfl,show ((0 : Nat) : Int) = 0 from rfl]
      have bm:=xir_blk E.out.held
      have k0 : wr.cell? ⟨m,0,none⟩ = some (.slice (some ⟨db,0,none⟩) 2 2):=bm.cell 0
      have d0 : wr.cell? ⟨db,0,none⟩ = some (.pointer (some ⟨d false,0,none⟩)):=(xir_dbl E.out.held).cell 0
      have HS:=hid (pstamp_any false (xir_sys E.out.held) OK.out TX.out)
      have HQ : Hid (opK s (0 + 1) = if s.stO false then (s.stG false,true) else (0,false)):=hid rfl
      generalize s.stG false = g at *
      cases ho : s.stO false with
      | false =>
        rw [ho] at HS HQ
        clear bm
        go_wp2_with (go_at_call 61;refine HS.out.mono ?_;rintro e w2 ⟨rfl,f2⟩;have E2:=hid (E.out.step f2);clear f2 E HS)
        go_roundw
        case rel => exact ⟨0 + 1,by decide,by first | rfl | go_num,by rw [HQ.out];rfl,by rw [HQ.out];exact E2⟩
        case measure => simp [intOf]
      | true =>
        rw [ho] at HS HQ
        clear bm
        go_wp2_with (first
         | (go_at_call 61;refine HS.out.mono ?_;rintro e w2 ⟨rfl,f2⟩;have E2:=hid (E.out.step f2);have b2:=xir_blk E2.out.held;clear f2 E HS)
         | (refine wpList_put rfl _ _ _ rfl rfl (W64 g) rfl rfl b2 (by simp [gmL]) (by kernel_rfl) ?_;intro w3 f3 b3 hs3;have E3:=hid (xir_gen E2.out f3 (g:=g) b3);clear f3 b3 b2 E2 hs3;simp only [aA,aB,Act.put,aC,aD,aE]))
        go_roundw
        case rel => exact ⟨0 + 1,by decide,by first | rfl | go_num,by rw [HQ.out];rfl,by rw [HQ.out];exact E3⟩
        case measure => simp [intOf]
    · rw [show opK s 1 = s.opA from rfl] at E
      rw [show opK s 1 = s.opA from rfl,show ((1 : Nat) : Int) = 1 from rfl]
      have bm:=xir_blk E.out.held
      have k0 : wr.cell? ⟨m,0,none⟩ = some (.slice (some ⟨db,0,none⟩) 2 2):=bm.cell 0
      have d0 : wr.cell? ⟨db,1,none⟩ = some (.pointer (some ⟨d true,0,none⟩)):=(xir_dbl E.out.held).cell 1
      have HS:=hid (pstamp_any true (xir_sys E.out.held) OK.out TX.out)
      have HQ : Hid (opK s (1 + 1) = if s.stO true && (!s.opA.2 || decide (s.opA.1 < s.stG true)) then (s.stG true,true) else s.opA):=hid rfl
      have HPr:=hid (show s.opA = (s.opA.1,s.opA.2) from rfl)
      have k2 : wr.cell? ⟨m,2,none⟩ = some (W64 s.opA.1):=bm.cell 2
      have HK2:=hid fun (w2 : World) (f : Fr [] wr w2) => f.cell_some k2
      generalize s.stG true = g at *
      obtain ⟨G1,hG1⟩ : ∃ v,s.opA.1 = v:=⟨_,rfl⟩
      rw [hG1] at E HQ HPr HK2
      clear k2 bm hG1
      cases ha : s.opA.2 with
      | false =>
        rw [ha] at HQ HPr
        cases ho : s.stO true with
        | false =>
          rw [ho] at HS HQ
          go_wp2_with (go_at_call 61;refine HS.out.mono ?_;rintro e w2 ⟨rfl,f2⟩;have E2:=hid (E.out.step f2);clear f2 E HS)
          go_roundw
          case rel => exact ⟨1 + 1,by decide,by first | rfl | go_num,by rw [HQ.out];simp [ha],by rw [HQ.out];simp only [Bool.false_and,Bool.false_eq_true,if_false];rw [HPr.out];exact E2⟩
          case measure => simp [intOf]
        | true =>
          rw [ho] at HS HQ
          go_wp2_with (first
           | (go_at_call 61;refine HS.out.mono ?_;rintro e w2 ⟨rfl,f2⟩;have E2:=hid (E.out.step f2);have b2:=xir_blk E2.out.held;clear f2 E HS)
           | (refine wpList_put rfl _ _ _ rfl rfl (W64 g) rfl rfl b2 (by simp [gmL]) (by kernel_rfl) ?_;intro w3 f3 b3 hs3;have E3:=hid (xir_gen E2.out f3 (g:=g) b3);clear f3 b3 b2 E2 hs3;simp only [aA,aB,Act.put,aC,aD,aE]))
          go_roundw
          case rel => exact ⟨1 + 1,by decide,by first | rfl | go_num,by rw [HQ.out];rfl,by rw [HQ.out];exact E3⟩
          case measure => simp [intOf]
      | true =>
        rw [ha] at HQ HPr
        cases ho : s.stO true with
        | false =>
          rw [ho] at HS HQ
          go_wp2_with (go_at_call 61;refine HS.out.mono ?_;rintro e w2 ⟨rfl,f2⟩;have E2:=hid (E.out.step f2);clear f2 E HS)
          go_roundw
          case rel => exact ⟨1 + 1,by decide,by first | rfl | go_num,by rw [HQ.out];simp [ha],by rw [HQ.out];simp only [Bool.false_and,Bool.false_eq_true,if_false];rw [HPr.out];exact E2⟩
          case measure => simp [intOf]
        | true =>
          rw [ho] at HS HQ
          cases hlt : decide (G1 < g) with
          | false =>
            rw [hlt] at HQ
            go_wp2_with (go_at_call 61;refine HS.out.mono ?_;rintro e w2 ⟨rfl,f2⟩;have E2:=hid (E.out.step f2);have kk:=HK2.out _ f2;clear f2 E HS)
            go_roundw
            case rel => exact ⟨1 + 1,by decide,by first | rfl | go_num,by rw [HQ.out];simp [ha],by rw [HQ.out];simp only [Bool.not_true,Bool.or_self,Bool.and_false,Bool.false_eq_true,if_false];rw [HPr.out];exact E2⟩
            case measure => simp [intOf]
          | true =>
            rw [hlt] at HQ
            go_wp2_with (first
             | (go_at_call 61;refine HS.out.mono ?_;rintro e w2 ⟨rfl,f2⟩;have E2:=hid (E.out.step f2);have kk:=HK2.out _ f2;have b2:=xir_blk E2.out.held;clear f2 E HS)
             | (refine wpList_put rfl _ _ _ rfl rfl (W64 g) rfl rfl b2 (by simp [gmL]) (by kernel_rfl) ?_;intro w3 f3 b3 hs3;have E3:=hid (xir_gen E2.out f3 (g:=g) b3);clear f3 b3 b2 E2 hs3;simp only [aA,aB,Act.put,aC,aD,aE]))
            go_roundw
            case rel => exact ⟨1 + 1,by decide,by first | rfl | go_num,by rw [HQ.out];rfl,by rw [HQ.out];exact E3⟩
            case measure => simp [intOf]
    · rw [show opK s 2 = s.opB from rfl] at E
      rw [show opK s 2 = s.opB from rfl,hB]
      go_wp2_with fail
      go_ret2
      exact ⟨rfl,Ev.less l _ (Ev.less l _ (Ev.less l _ E.out))⟩
 | false =>
   go_wp2_with (first
    | (go_at_call 57;refine HY.out.mono ?_;rintro e w1 ⟨rfl,f1⟩;have a1:=HA.out _ f1;have b1:=HB.out _ f1;have E1:=hid (E0.out.step f1);clear f1 HY E0 HA HB)
    | (refine pbuild_any rfl _ 2 _ rfl 39 Tryz.underlying24 _ _ Hi.out Hz.out rfl Hs.out (by decide) (by decide) rfl (dbL d) rfl (by simp [dbL,Value.oneCell']) ?_;intro w7 f7 hlt7 hb7;have E7:=hid (E1.out.new f7 (Res.On.blk hb7) (fun b hb => by simp [Res.blk] at hb;omega));clear f7 hlt7 hb7 E1;simp only [aA,aB,Act.put,aC,aD,aE])
    | (refine pbuild_any rfl _ 2 _ rfl 3 Tryz.underlying44 _ _ Ji.out Jz.out rfl Js.out (by decide) (by decide) rfl [.int .i64 1,.int .i64 1] rfl (by simp [Value.oneCell']) ?_;intro w8 f8 hlt8 hb8;have E8:=hid (E7.out.new f8 (isR_on (M:=⟨s,false,false,0⟩) hb8 rfl rfl) (fun b hb => by simp [isR] at hb;omega));clear f8 hlt8 hb8 E7;simp only [aA,aB,Act.put,aC,aD,aE])
    | (refine wpList_box rfl _ _ rfl (gmL w1.heap.size w7.heap.size 0) rfl ?_;intro w9 f9 hlt9 hb9;have E9:=hid (Ev.three (E8.out.new f9 (Res.On.blk hb9) (fun b hb => by simp [Res.blk] at hb;omega)));clear f9 hlt9 hb9 E8;simp only [aA,aB,Act.put,aC,aD,aE]))
   obtain ⟨m,hm⟩ : ∃ m,w8.heap.size = m:=⟨_,rfl⟩
   obtain ⟨db,hdb⟩ : ∃ m,w1.heap.size = m:=⟨_,rfl⟩
   obtain ⟨ib,hib⟩ : ∃ m,w7.heap.size = m:=⟨_,rfl⟩
   rw [hm] at E9 ⊢
   rw [hdb,hib] at E9
   clear hm hdb hib a1 b1
   go_loopw [8,9] (fun av iv wr => ∃ q : Nat,q ≤ 2 ∧ iv = .int .i64 (q : Int) ∧ av = .bool (opK s q).2 ∧ Hid (Ev w (l ++ sysX pbs s d FF) wr (l ++ mirX pbs m db ib d FF ⟨s,false,false,(opK s q).1⟩))) (fun _ iv _ => 2 - (intOf iv).toNat)
   case atStart => exact ⟨0,by decide,rfl,rfl,E9⟩
   case round =>
    obtain ⟨q,hq,rfl,rfl,E⟩:=hrel
    clear E9
    have hq3 : q = 0 ∨ q = 1 ∨ q = 2:=by omega
    rcases hq3 with rfl | rfl | rfl
    · rw [show (opK s 0).1 = 0 from rfl] at E
      rw [show (opK s 0).2 = false from rfl,show ((0 : Nat) : Int) = 0 from rfl]
      have bm:=xir_blk E.out.held
      have k0 : wr.cell? ⟨m,0,none⟩ = some (.slice (some ⟨db,0,none⟩) 2 2):=bm.cell 0
      have d0 : wr.cell? ⟨db,0,none⟩ = some (.pointer (some ⟨d false,0,none⟩)):=(xir_dbl E.out.held).cell 0
      have HS:=hid (pstamp_any false (xir_sys E.out.held) OK.out TX.out)
      have HQ : Hid (opK s (0 + 1) = if s.stO false then (s.stG false,true) else (0,false)):=hid rfl
      generalize s.stG false = g at *
      cases ho : s.stO false with
      | false =>
        rw [ho] at HS HQ
        clear bm
        go_wp2_with (go_at_call 61;refine HS.out.mono ?_;rintro e w2 ⟨rfl,f2⟩;have E2:=hid (E.out.step f2);clear f2 E HS)
        go_roundw
        case rel => exact ⟨0 + 1,by decide,by first | rfl | go_num,by rw [HQ.out];rfl,by rw [HQ.out];exact E2⟩
        case measure => simp [intOf]
      | true =>
        rw [ho] at HS HQ
        clear bm
        go_wp2_with (first
         | (go_at_call 61;refine HS.out.mono ?_;rintro e w2 ⟨rfl,f2⟩;have E2:=hid (E.out.step f2);have b2:=xir_blk E2.out.held;clear f2 E HS)
         | (refine wpList_put rfl _ _ _ rfl rfl (W64 g) rfl rfl b2 (by simp [gmL]) (by kernel_rfl) ?_;intro w3 f3 b3 hs3;have E3:=hid (xir_gen E2.out f3 (g:=g) b3);clear f3 b3 b2 E2 hs3;simp only [aA,aB,Act.put,aC,aD,aE]))
        go_roundw
        case rel => exact ⟨0 + 1,by decide,by first | rfl | go_num,by rw [HQ.out];rfl,by rw [HQ.out];exact E3⟩
        case measure => simp [intOf]
    · rw [show opK s 1 = s.opA from rfl] at E
      rw [show opK s 1 = s.opA from rfl,show ((1 : Nat) : Int) = 1 from rfl]
      have bm:=xir_blk E.out.held
      have k0 : wr.cell? ⟨m,0,none⟩ = some (.slice (some ⟨db,0,none⟩) 2 2):=bm.cell 0
      have d0 : wr.cell? ⟨db,1,none⟩ = some (.pointer (some ⟨d true,0,none⟩)):=(xir_dbl E.out.held).cell 1
      have HS:=hid (pstamp_any true (xir_sys E.out.held) OK.out TX.out)
      have HQ : Hid (opK s (1 + 1) = if s.stO true && (!s.opA.2 || decide (s.opA.1 < s.stG true)) then (s.stG true,true) else s.opA):=hid rfl
      have HPr:=hid (show s.opA = (s.opA.1,s.opA.2) from rfl)
      have k2 : wr.cell? ⟨m,2,none⟩ = some (W64 s.opA.1):=bm.cell 2
      have HK2:=hid fun (w2 : World) (f : Fr [] wr w2) => f.cell_some k2
      generalize s.stG true = g at *
      obtain ⟨G1,hG1⟩ : ∃ v,s.opA.1 = v:=⟨_,rfl⟩
      rw [hG1] at E HQ HPr HK2
      clear k2 bm hG1
      cases ha : s.opA.2 with
      | false =>
        rw [ha] at HQ HPr
        cases ho : s.stO true with
        | false =>
          rw [ho] at HS HQ
          go_wp2_with (go_at_call 61;refine HS.out.mono ?_;rintro e w2 ⟨rfl,f2⟩;have E2:=hid (E.out.step f2);clear f2 E HS)
          go_roundw
          case rel => exact ⟨1 + 1,by decide,by first | rfl | go_num,by rw [HQ.out];simp [ha],by rw [HQ.out];simp only [Bool.false_and,Bool.false_eq_true,if_false];rw [HPr.out];exact E2⟩
          case measure => simp [intOf]
        | true =>
          rw [ho] at HS HQ
          go_wp2_with (first
           | (go_at_call 61;refine HS.out.mono ?_;rintro e w2 ⟨rfl,f2⟩;have E2:=hid (E.out.step f2);have b2:=xir_blk E2.out.held;clear f2 E HS)
           | (refine wpList_put rfl _ _ _ rfl rfl (W64 g) rfl rfl b2 (by simp [gmL]) (by kernel_rfl) ?_;intro w3 f3 b3 hs3;have E3:=hid (xir_gen E2.out f3 (g:=g) b3);clear f3 b3 b2 E2 hs3;simp only [aA,aB,Act.put,aC,aD,aE]))
          go_roundw
          case rel => exact ⟨1 + 1,by decide,by first | rfl | go_num,by rw [HQ.out];rfl,by rw [HQ.out];exact E3⟩
          case measure => simp [intOf]
      | true =>
        rw [ha] at HQ HPr
        cases ho : s.stO true with
        | false =>
          rw [ho] at HS HQ
          go_wp2_with (go_at_call 61;refine HS.out.mono ?_;rintro e w2 ⟨rfl,f2⟩;have E2:=hid (E.out.step f2);clear f2 E HS)
          go_roundw
          case rel => exact ⟨1 + 1,by decide,by first | rfl | go_num,by rw [HQ.out];simp [ha],by rw [HQ.out];simp only [Bool.false_and,Bool.false_eq_true,if_false];rw [HPr.out];exact E2⟩
          case measure => simp [intOf]
        | true =>
          rw [ho] at HS HQ
          cases hlt : decide (G1 < g) with
          | false =>
            rw [hlt] at HQ
            go_wp2_with (go_at_call 61;refine HS.out.mono ?_;rintro e w2 ⟨rfl,f2⟩;have E2:=hid (E.out.step f2);have kk:=HK2.out _ f2;clear f2 E HS)
            go_roundw
            case rel => exact ⟨1 + 1,by decide,by first | rfl | go_num,by rw [HQ.out];simp [ha],by rw [HQ.out];simp only [Bool.not_true,Bool.or_self,Bool.and_false,Bool.false_eq_true,if_false];rw [HPr.out];exact E2⟩
            case measure => simp [intOf]
          | true =>
            rw [hlt] at HQ
            go_wp2_with (first
             | (go_at_call 61;refine HS.out.mono ?_;rintro e w2 ⟨rfl,f2⟩;have E2:=hid (E.out.step f2);have kk:=HK2.out _ f2;have b2:=xir_blk E2.out.held;clear f2 E HS)
             | (refine wpList_put rfl _ _ _ rfl rfl (W64 g) rfl rfl b2 (by simp [gmL]) (by kernel_rfl) ?_;intro w3 f3 b3 hs3;have E3:=hid (xir_gen E2.out f3 (g:=g) b3);clear f3 b3 b2 E2 hs3;simp only [aA,aB,Act.put,aC,aD,aE]))
            go_roundw
            case rel => exact ⟨1 + 1,by decide,by first | rfl | go_num,by rw [HQ.out];rfl,by rw [HQ.out];exact E3⟩
            case measure => simp [intOf]
    · rw [show opK s 2 = s.opB from rfl] at E
      rw [show opK s 2 = s.opB from rfl,hB]
      go_wp2_with fail
      go_ret2
      exact ⟨rfl,Ev.less l _ (Ev.less l _ (Ev.less l _ E.out))⟩
theorem popen_yes (h : Held w (l ++ sysX pbs s d FF)) (ok : SysOk s) (ht : s.T < 998900) (hc : s.mayC = 0) (hd : (s.X false).Dead = false ∨ (s.X true).Dead = false) (hB : s.opB.2 = true) :
 Calls Tryz.prog 27 #[.pointer (some ⟨d false,0,none⟩),.pointer (some ⟨d true,0,none⟩)] w fun e w' => ∃ m db ib,e = .returned (.tuple #[.pointer (some ⟨m,0,none⟩),.int .i64 0]) ∧ Ev w (l ++ sysX pbs s d FF) w' (l ++ mirX pbs m db ib d FF ⟨s,s.cur false,s.cur true,s.opB.1⟩):=by
 have HY:=hid (pmay2_any h ok)
 rw [hc] at HY
 obtain ⟨i26,hi26,hz26,hs26⟩:=pinf26
 obtain ⟨i3,hi3,hz3,hs3⟩:=pinf3
 have Hi:=hid hi26
 have Hz:=hid hz26
 have Hs:=hid hs26
 have Ji:=hid hi3
 have Jz:=hid hz3
 have Js:=hid hs3
 have HA:=hid fun (w1 : World) (f : Fr [] w w1) => (xsee2 false (h.keep0 f) ok).choose_spec.choose_spec.2
 have HB:=hid fun (w1 : World) (f : Fr [] w w1) => (xsee2 true (h.keep0 f) ok).choose_spec.choose_spec.2
 have E0:=hid (Ev.refl h)
 have OK:=hid ok
 have TX:=hid (show s.T < 1000000 by omega)
 have hdd : ((s.X false).Dead && (s.X true).Dead) = false:=by rcases hd with hd | hd <;> simp [hd]
 obtain ⟨x0,hx0⟩ : ∃ v,(s.X false).Dead = v:=⟨_,rfl⟩
 obtain ⟨x1,hx1⟩ : ∃ v,(s.X true).Dead = v:=⟨_,rfl⟩
 have HX0:=hid hx0
 have HX1:=hid hx1
 rw [hx0] at HA hdd
 rw [hx1] at HB hdd
 clear h ok hc ht hi26 hz26 hs26 hi3 hz3 hs3 hd hx0 hx1
 go_enter Tryz.func27,Tryz.ntmps27
 cases x0 with
 | true =>
   have hx1 : x1 = false:=by simpa using hdd
   subst hx1
   clear hdd
   go_wp2_with (first
    | (go_at_call 57;refine HY.out.mono ?_;rintro e w1 ⟨rfl,f1⟩;have a1:=HA.out _ f1;have b1:=HB.out _ f1;have E1:=hid (E0.out.step f1);clear f1 HY E0 HA HB)
    | (refine pbuild_any rfl _ 2 _ rfl 39 Tryz.underlying24 _ _ Hi.out Hz.out rfl Hs.out (by decide) (by decide) rfl (dbL d) rfl (by simp [dbL,Value.oneCell']) ?_;intro w7 f7 hlt7 hb7;have E7:=hid (E1.out.new f7 (Res.On.blk hb7) (fun b hb => by simp [Res.blk] at hb;omega));clear f7 hlt7 hb7 E1;simp only [aA,aB,Act.put,aC,aD,aE])
    | (refine pbuild_any rfl _ 2 _ rfl 3 Tryz.underlying44 _ _ Ji.out Jz.out rfl Js.out (by decide) (by decide) rfl [.int .i64 1,.int .i64 1] rfl (by simp [Value.oneCell']) ?_;intro w8 f8 hlt8 hb8;have E8:=hid (E7.out.new f8 (isR_on (M:=⟨s,false,false,0⟩) hb8 rfl rfl) (fun b hb => by simp [isR] at hb;omega));clear f8 hlt8 hb8 E7;simp only [aA,aB,Act.put,aC,aD,aE])
    | (refine wpList_box rfl _ _ rfl (gmL w1.heap.size w7.heap.size 0) rfl ?_;intro w9 f9 hlt9 hb9;have E9:=hid (Ev.three (E8.out.new f9 (Res.On.blk hb9) (fun b hb => by simp [Res.blk] at hb;omega)));clear f9 hlt9 hb9 E8;simp only [aA,aB,Act.put,aC,aD,aE]))
   obtain ⟨m,hm⟩ : ∃ m,w8.heap.size = m:=⟨_,rfl⟩
   obtain ⟨db,hdb⟩ : ∃ m,w1.heap.size = m:=⟨_,rfl⟩
   obtain ⟨ib,hib⟩ : ∃ m,w7.heap.size = m:=⟨_,rfl⟩
   rw [hm] at E9 ⊢
   rw [hdb,hib] at E9
   clear hm hdb hib a1 b1
   go_loopw [8,9] (fun av iv wr => ∃ q : Nat,q ≤ 2 ∧ iv = .int .i64 (q : Int) ∧ av = .bool (opK s q).2 ∧ Hid (Ev w (l ++ sysX pbs s d FF) wr (l ++ mirX pbs m db ib d FF ⟨s,false,false,(opK s q).1⟩))) (fun _ iv _ => 2 - (intOf iv).toNat)
   case atStart => exact ⟨0,by decide,rfl,rfl,E9⟩
   case round =>
    obtain ⟨q,hq,rfl,rfl,E⟩:=hrel
    clear E9
    have hq3 : q = 0 ∨ q = 1 ∨ q = 2:=by omega
    rcases hq3 with rfl | rfl | rfl
    · rw [show (opK s 0).1 = 0 from rfl] at E
      rw [show (opK s 0).2 = false from rfl,show ((0 : Nat) : Int) = 0 from rfl]
      have bm:=xir_blk E.out.held
      have k0 : wr.cell? ⟨m,0,none⟩ = some (.slice (some ⟨db,0,none⟩) 2 2):=bm.cell 0
      have d0 : wr.cell? ⟨db,0,none⟩ = some (.pointer (some ⟨d false,0,none⟩)):=(xir_dbl E.out.held).cell 0
      have HS:=hid (pstamp_any false (xir_sys E.out.held) OK.out TX.out)
      have HQ : Hid (opK s (0 + 1) = if s.stO false then (s.stG false,true) else (0,false)):=hid rfl
      generalize s.stG false = g at *
      cases ho : s.stO false with
      | false =>
        rw [ho] at HS HQ
        clear bm
        go_wp2_with (go_at_call 61;refine HS.out.mono ?_;rintro e w2 ⟨rfl,f2⟩;have E2:=hid (E.out.step f2);clear f2 E HS)
        go_roundw
        case rel => exact ⟨0 + 1,by decide,by first | rfl | go_num,by rw [HQ.out];rfl,by rw [HQ.out];exact E2⟩
        case measure => simp [intOf]
      | true =>
        rw [ho] at HS HQ
        clear bm
        go_wp2_with (first
         | (go_at_call 61;refine HS.out.mono ?_;rintro e w2 ⟨rfl,f2⟩;have E2:=hid (E.out.step f2);have b2:=xir_blk E2.out.held;clear f2 E HS)
         | (refine wpList_put rfl _ _ _ rfl rfl (W64 g) rfl rfl b2 (by simp [gmL]) (by kernel_rfl) ?_;intro w3 f3 b3 hs3;have E3:=hid (xir_gen E2.out f3 (g:=g) b3);clear f3 b3 b2 E2 hs3;simp only [aA,aB,Act.put,aC,aD,aE]))
        go_roundw
        case rel => exact ⟨0 + 1,by decide,by first | rfl | go_num,by rw [HQ.out];rfl,by rw [HQ.out];exact E3⟩
        case measure => simp [intOf]
    · rw [show opK s 1 = s.opA from rfl] at E
      rw [show opK s 1 = s.opA from rfl,show ((1 : Nat) : Int) = 1 from rfl]
      have bm:=xir_blk E.out.held
      have k0 : wr.cell? ⟨m,0,none⟩ = some (.slice (some ⟨db,0,none⟩) 2 2):=bm.cell 0
      have d0 : wr.cell? ⟨db,1,none⟩ = some (.pointer (some ⟨d true,0,none⟩)):=(xir_dbl E.out.held).cell 1
      have HS:=hid (pstamp_any true (xir_sys E.out.held) OK.out TX.out)
      have HQ : Hid (opK s (1 + 1) = if s.stO true && (!s.opA.2 || decide (s.opA.1 < s.stG true)) then (s.stG true,true) else s.opA):=hid rfl
      have HPr:=hid (show s.opA = (s.opA.1,s.opA.2) from rfl)
      have k2 : wr.cell? ⟨m,2,none⟩ = some (W64 s.opA.1):=bm.cell 2
      have HK2:=hid fun (w2 : World) (f : Fr [] wr w2) => f.cell_some k2
      generalize s.stG true = g at *
      obtain ⟨G1,hG1⟩ : ∃ v,s.opA.1 = v:=⟨_,rfl⟩
      rw [hG1] at E HQ HPr HK2
      clear k2 bm hG1
      cases ha : s.opA.2 with
      | false =>
        rw [ha] at HQ HPr
        cases ho : s.stO true with
        | false =>
          rw [ho] at HS HQ
          go_wp2_with (go_at_call 61;refine HS.out.mono ?_;rintro e w2 ⟨rfl,f2⟩;have E2:=hid (E.out.step f2);clear f2 E HS)
          go_roundw
          case rel => exact ⟨1 + 1,by decide,by first | rfl | go_num,by rw [HQ.out];simp [ha],by rw [HQ.out];simp only [Bool.false_and,Bool.false_eq_true,if_false];rw [HPr.out];exact E2⟩
          case measure => simp [intOf]
        | true =>
          rw [ho] at HS HQ
          go_wp2_with (first
           | (go_at_call 61;refine HS.out.mono ?_;rintro e w2 ⟨rfl,f2⟩;have E2:=hid (E.out.step f2);have b2:=xir_blk E2.out.held;clear f2 E HS)
           | (refine wpList_put rfl _ _ _ rfl rfl (W64 g) rfl rfl b2 (by simp [gmL]) (by kernel_rfl) ?_;intro w3 f3 b3 hs3;have E3:=hid (xir_gen E2.out f3 (g:=g) b3);clear f3 b3 b2 E2 hs3;simp only [aA,aB,Act.put,aC,aD,aE]))
          go_roundw
          case rel => exact ⟨1 + 1,by decide,by first | rfl | go_num,by rw [HQ.out];rfl,by rw [HQ.out];exact E3⟩
          case measure => simp [intOf]
      | true =>
        rw [ha] at HQ HPr
        cases ho : s.stO true with
        | false =>
          rw [ho] at HS HQ
          go_wp2_with (go_at_call 61;refine HS.out.mono ?_;rintro e w2 ⟨rfl,f2⟩;have E2:=hid (E.out.step f2);clear f2 E HS)
          go_roundw
          case rel => exact ⟨1 + 1,by decide,by first | rfl | go_num,by rw [HQ.out];simp [ha],by rw [HQ.out];simp only [Bool.false_and,Bool.false_eq_true,if_false];rw [HPr.out];exact E2⟩
          case measure => simp [intOf]
        | true =>
          rw [ho] at HS HQ
          cases hlt : decide (G1 < g) with
          | false =>
            rw [hlt] at HQ
            go_wp2_with (go_at_call 61;refine HS.out.mono ?_;rintro e w2 ⟨rfl,f2⟩;have E2:=hid (E.out.step f2);have kk:=HK2.out _ f2;clear f2 E HS)
            go_roundw
            case rel => exact ⟨1 + 1,by decide,by first | rfl | go_num,by rw [HQ.out];simp [ha],by rw [HQ.out];simp only [Bool.not_true,Bool.or_self,Bool.and_false,Bool.false_eq_true,if_false];rw [HPr.out];exact E2⟩
            case measure => simp [intOf]
          | true =>
            rw [hlt] at HQ
            go_wp2_with (first
             | (go_at_call 61;refine HS.out.mono ?_;rintro e w2 ⟨rfl,f2⟩;have E2:=hid (E.out.step f2);have kk:=HK2.out _ f2;have b2:=xir_blk E2.out.held;clear f2 E HS)
             | (refine wpList_put rfl _ _ _ rfl rfl (W64 g) rfl rfl b2 (by simp [gmL]) (by kernel_rfl) ?_;intro w3 f3 b3 hs3;have E3:=hid (xir_gen E2.out f3 (g:=g) b3);clear f3 b3 b2 E2 hs3;simp only [aA,aB,Act.put,aC,aD,aE]))
            go_roundw
            case rel => exact ⟨1 + 1,by decide,by first | rfl | go_num,by rw [HQ.out];rfl,by rw [HQ.out];exact E3⟩
            case measure => simp [intOf]
    · rw [show opK s 2 = s.opB from rfl] at E
      rw [show opK s 2 = s.opB from rfl,hB,show ((2 : Nat) : Int) = 2 from rfl]
      go_wp2_with fail
      go_loopw [12] (fun iv wq => ∃ q : Nat,q ≤ 2 ∧ iv = .int .i64 (q : Int) ∧ Hid (Ev w (l ++ sysX pbs s d FF) wq (l ++ mirX pbs m db ib d FF (opM s q)))) (fun iv _ => 2 - (intOf iv).toNat)
      case atStart => exact ⟨0,by decide,rfl,E⟩
      case round =>
       obtain ⟨q,hq,rfl,E2⟩:=hrel
       clear E
       have hq3 : q = 0 ∨ q = 1 ∨ q = 2:=by omega
       rcases hq3 with rfl | rfl | rfl
       · rw [show ((0 : Nat) : Int) = 0 from rfl]
         have bm:=xir_blk E2.out.held
         obtain ⟨b0,b1,hib,hb0,hb1⟩:=xir_is E2.out.held
         have k0 : wr.cell? ⟨m,0,none⟩ = some (.slice (some ⟨db,0,none⟩) 2 2):=bm.cell 0
         have k1 : wr.cell? ⟨m,1,none⟩ = some (.slice (some ⟨ib,0,none⟩) 2 2):=bm.cell 1
         have k2 : wr.cell? ⟨m,2,none⟩ = some (W64 s.opB.1):=bm.cell 2
         have d0 : wr.cell? ⟨db,0,none⟩ = some (.pointer (some ⟨d false,0,none⟩)):=(xir_dbl E2.out.held).cell 0
         have HSS:=pstamp_any false (xir_sys E2.out.held) (show SysOk (opM s 0).s from OK.out) (show (opM s 0).s.T < 1000000 from TX.out)
         have HS : Hid (Calls Tryz.prog 61 #[.pointer (some ⟨d false,0,none⟩)] wr fun e w' => e = .returned (.tuple #[W64 (s.stG false),.bool (s.stO false)]) ∧ Fr [] wr w'):=hid HSS
         obtain ⟨kb,kc,_,y3⟩:=psee false E2.out.held (show SysOk (opM s 0).s from OK.out)
         have y3' : wr.cell? ⟨d false,3,none⟩ = some (.bool (s.X false).Dead):=y3
         have KC:=hid (show s.cur false = (s.stO false && decide (s.stG false = s.opB.1)) from rfl)
         have DD:=hid fun h : (s.X false).Dead = true => sto_dead h
         have SK:=hid fun h : s.cur false = false => (show opM s (0 + 1) = opM s 0 from by unfold opM;simp only;rw [h])
         have HF:=hid fun (w2 : World) (f : Fr [] wr w2) => And.intro (f.cell_some k0) (And.intro (f.cell_some d0) (And.intro (f.cell_some y3') (And.intro (f.blk hib (by simp)) (And.intro (f.cell_some k1) (f.cell_some k2)))))
         have PUT:=hid fun (v : Int) (hv : s.cur false = decide (v = 0)) (w2 w3 : World) (e2 : Ev w (l ++ sysX pbs s d FF) w2 (l ++ mirX pbs m db ib d FF (opM s 0))) (f : Fr [ib] w2 w3) (hb : Blk w3 ib [.int .i64 v,.int .i64 b1]) => (show Ev w (l ++ sysX pbs s d FF) w3 (l ++ mirX pbs m db ib d FF (opM s (0 + 1))) from xir_put (M':=opM s (0 + 1)) e2 f hb rfl rfl hv hb1)
         obtain ⟨xb,hxb⟩ : ∃ v,(s.X false).Dead = v:=⟨_,rfl⟩
         rw [hxb] at HF DD
         generalize s.stG false = g at *
         generalize s.opB.1 = G at *
         clear y3 y3' HSS k1 k2 bm hib hb0 hb1 hxb
         cases xb with
         | true =>
           have ho:=DD.out rfl
           rw [ho] at HS KC
           have hv : s.cur false = decide ((2 : Int) = 0):=by rw [KC.out];rfl
           have HV:=hid hv
           clear ho hv DD SK
           go_wp2_with (first
            | (go_at_call 61;refine HS.out.mono ?_;rintro e w4 ⟨rfl,f4⟩;obtain ⟨j0,j1,j3,j4,j5,j6⟩:=HF.out _ f4;have E4:=hid (E2.out.step f4);clear f4 E2 HS HF)
            | (refine wpList_put rfl _ _ _ rfl rfl (.int .i64 2) rfl rfl j4 (by simp) (by kernel_rfl) ?_;intro w5 f5 b5 hs5;have E5:=hid (PUT.out 2 HV.out _ _ E4.out f5 b5);clear f5 b5 j4 E4 hs5;simp only [aA,aB,Act.put,aC,aD,aE]))
           go_roundw
           case rel => exact ⟨0 + 1,by decide,by first | rfl | go_num,E5⟩
           case measure => simp [intOf]
         | false =>
           cases ho : s.stO false with
           | false =>
             rw [ho] at HS KC
             have HV:=hid (SK.out (by rw [KC.out];rfl))
             clear ho DD SK PUT
             go_wp2_with (go_at_call 61;refine HS.out.mono ?_;rintro e w4 ⟨rfl,f4⟩;obtain ⟨j0,j1,j3,j4,j5,j6⟩:=HF.out _ f4;have E4:=hid (E2.out.step f4);clear f4 E2 HS HF)
             go_roundw
             case rel => exact ⟨0 + 1,by decide,by first | rfl | go_num,by rw [HV.out];exact E4⟩
             case measure => simp [intOf]
           | true =>
             rw [ho] at HS KC
             by_cases hg : g = G
             · have hv : s.cur false = decide ((0 : Int) = 0):=by rw [KC.out];simp [hg]
               have HV:=hid hv
               have hq : (g == G) = true:=by simpa using hg
               clear ho hv hg DD SK
               go_wp2_with (first
                | (go_at_call 61;refine HS.out.mono ?_;rintro e w4 ⟨rfl,f4⟩;obtain ⟨j0,j1,j3,j4,j5,j6⟩:=HF.out _ f4;have E4:=hid (E2.out.step f4);clear f4 E2 HS HF)
                | (refine wpList_put rfl _ _ _ rfl rfl (.int .i64 0) rfl rfl j4 (by simp) (by kernel_rfl) ?_;intro w5 f5 b5 hs5;have E5:=hid (PUT.out 0 HV.out _ _ E4.out f5 b5);clear f5 b5 j4 E4 hs5;simp only [aA,aB,Act.put,aC,aD,aE]))
               go_roundw
               case rel => exact ⟨0 + 1,by decide,by first | rfl | go_num,E5⟩
               case measure => simp [intOf]
             · have HV:=hid (SK.out (by rw [KC.out];simp [hg]))
               have hq : (g == G) = false:=by simpa using hg
               clear ho hg DD SK PUT
               go_wp2_with (go_at_call 61;refine HS.out.mono ?_;rintro e w4 ⟨rfl,f4⟩;obtain ⟨j0,j1,j3,j4,j5,j6⟩:=HF.out _ f4;have E4:=hid (E2.out.step f4);clear f4 E2 HS HF)
               go_roundw
               case rel => exact ⟨0 + 1,by decide,by first | rfl | go_num,by rw [HV.out];exact E4⟩
               case measure => simp [intOf]
       · rw [show ((1 : Nat) : Int) = 1 from rfl]
         have bm:=xir_blk E2.out.held
         obtain ⟨b0,b1,hib,hb0,hb1⟩:=xir_is E2.out.held
         have k0 : wr.cell? ⟨m,0,none⟩ = some (.slice (some ⟨db,0,none⟩) 2 2):=bm.cell 0
         have k1 : wr.cell? ⟨m,1,none⟩ = some (.slice (some ⟨ib,0,none⟩) 2 2):=bm.cell 1
         have k2 : wr.cell? ⟨m,2,none⟩ = some (W64 s.opB.1):=bm.cell 2
         have d0 : wr.cell? ⟨db,1,none⟩ = some (.pointer (some ⟨d true,0,none⟩)):=(xir_dbl E2.out.held).cell 1
         have HSS:=pstamp_any true (xir_sys E2.out.held) (show SysOk (opM s 1).s from OK.out) (show (opM s 1).s.T < 1000000 from TX.out)
         have HS : Hid (Calls Tryz.prog 61 #[.pointer (some ⟨d true,0,none⟩)] wr fun e w' => e = .returned (.tuple #[W64 (s.stG true),.bool (s.stO true)]) ∧ Fr [] wr w'):=hid HSS
         obtain ⟨kb,kc,_,y3⟩:=psee true E2.out.held (show SysOk (opM s 1).s from OK.out)
         have y3' : wr.cell? ⟨d true,3,none⟩ = some (.bool (s.X true).Dead):=y3
         have KC:=hid (show s.cur true = (s.stO true && decide (s.stG true = s.opB.1)) from rfl)
         have DD:=hid fun h : (s.X true).Dead = true => sto_dead h
         have SK:=hid fun h : s.cur true = false => (show opM s (1 + 1) = opM s 1 from by unfold opM;simp only;rw [h])
         have HF:=hid fun (w2 : World) (f : Fr [] wr w2) => And.intro (f.cell_some k0) (And.intro (f.cell_some d0) (And.intro (f.cell_some y3') (And.intro (f.blk hib (by simp)) (And.intro (f.cell_some k1) (f.cell_some k2)))))
         have PUT:=hid fun (v : Int) (hv : s.cur true = decide (v = 0)) (w2 w3 : World) (e2 : Ev w (l ++ sysX pbs s d FF) w2 (l ++ mirX pbs m db ib d FF (opM s 1))) (f : Fr [ib] w2 w3) (hb : Blk w3 ib [.int .i64 b0,.int .i64 v]) => (show Ev w (l ++ sysX pbs s d FF) w3 (l ++ mirX pbs m db ib d FF (opM s (1 + 1))) from xir_put (M':=opM s (1 + 1)) e2 f hb rfl rfl hb0 hv)
         obtain ⟨xb,hxb⟩ : ∃ v,(s.X true).Dead = v:=⟨_,rfl⟩
         rw [hxb] at HF DD
         generalize s.stG true = g at *
         generalize s.opB.1 = G at *
         clear y3 y3' HSS k1 k2 bm hib hb0 hb1 hxb
         cases xb with
         | true =>
           have ho:=DD.out rfl
           rw [ho] at HS KC
           have hv : s.cur true = decide ((2 : Int) = 0):=by rw [KC.out];rfl
           have HV:=hid hv
           clear ho hv DD SK
           go_wp2_with (first
            | (go_at_call 61;refine HS.out.mono ?_;rintro e w4 ⟨rfl,f4⟩;obtain ⟨j0,j1,j3,j4,j5,j6⟩:=HF.out _ f4;have E4:=hid (E2.out.step f4);clear f4 E2 HS HF)
            | (refine wpList_put rfl _ _ _ rfl rfl (.int .i64 2) rfl rfl j4 (by simp) (by kernel_rfl) ?_;intro w5 f5 b5 hs5;have E5:=hid (PUT.out 2 HV.out _ _ E4.out f5 b5);clear f5 b5 j4 E4 hs5;simp only [aA,aB,Act.put,aC,aD,aE]))
           go_roundw
           case rel => exact ⟨1 + 1,by decide,by first | rfl | go_num,E5⟩
           case measure => simp [intOf]
         | false =>
           cases ho : s.stO true with
           | false =>
             rw [ho] at HS KC
             have HV:=hid (SK.out (by rw [KC.out];rfl))
             clear ho DD SK PUT
             go_wp2_with (go_at_call 61;refine HS.out.mono ?_;rintro e w4 ⟨rfl,f4⟩;obtain ⟨j0,j1,j3,j4,j5,j6⟩:=HF.out _ f4;have E4:=hid (E2.out.step f4);clear f4 E2 HS HF)
             go_roundw
             case rel => exact ⟨1 + 1,by decide,by first | rfl | go_num,by rw [HV.out];exact E4⟩
             case measure => simp [intOf]
           | true =>
             rw [ho] at HS KC
             by_cases hg : g = G
             · have hv : s.cur true = decide ((0 : Int) = 0):=by rw [KC.out];simp [hg]
               have HV:=hid hv
               have hq : (g == G) = true:=by simpa using hg
               clear ho hv hg DD SK
               go_wp2_with (first
                | (go_at_call 61;refine HS.out.mono ?_;rintro e w4 ⟨rfl,f4⟩;obtain ⟨j0,j1,j3,j4,j5,j6⟩:=HF.out _ f4;have E4:=hid (E2.out.step f4);clear f4 E2 HS HF)
                | (refine wpList_put rfl _ _ _ rfl rfl (.int .i64 0) rfl rfl j4 (by simp) (by kernel_rfl) ?_;intro w5 f5 b5 hs5;have E5:=hid (PUT.out 0 HV.out _ _ E4.out f5 b5);clear f5 b5 j4 E4 hs5;simp only [aA,aB,Act.put,aC,aD,aE]))
               go_roundw
               case rel => exact ⟨1 + 1,by decide,by first | rfl | go_num,E5⟩
               case measure => simp [intOf]
             · have HV:=hid (SK.out (by rw [KC.out];simp [hg]))
               have hq : (g == G) = false:=by simpa using hg
               clear ho hg DD SK PUT
               go_wp2_with (go_at_call 61;refine HS.out.mono ?_;rintro e w4 ⟨rfl,f4⟩;obtain ⟨j0,j1,j3,j4,j5,j6⟩:=HF.out _ f4;have E4:=hid (E2.out.step f4);clear f4 E2 HS HF)
               go_roundw
               case rel => exact ⟨1 + 1,by decide,by first | rfl | go_num,by rw [HV.out];exact E4⟩
               case measure => simp [intOf]
       · go_wp2_with fail
         go_ret2
         exact ⟨m,db,ib,rfl,E2.out⟩
 | false =>
   go_wp2_with (first
    | (go_at_call 57;refine HY.out.mono ?_;rintro e w1 ⟨rfl,f1⟩;have a1:=HA.out _ f1;have b1:=HB.out _ f1;have E1:=hid (E0.out.step f1);clear f1 HY E0 HA HB)
    | (refine pbuild_any rfl _ 2 _ rfl 39 Tryz.underlying24 _ _ Hi.out Hz.out rfl Hs.out (by decide) (by decide) rfl (dbL d) rfl (by simp [dbL,Value.oneCell']) ?_;intro w7 f7 hlt7 hb7;have E7:=hid (E1.out.new f7 (Res.On.blk hb7) (fun b hb => by simp [Res.blk] at hb;omega));clear f7 hlt7 hb7 E1;simp only [aA,aB,Act.put,aC,aD,aE])
    | (refine pbuild_any rfl _ 2 _ rfl 3 Tryz.underlying44 _ _ Ji.out Jz.out rfl Js.out (by decide) (by decide) rfl [.int .i64 1,.int .i64 1] rfl (by simp [Value.oneCell']) ?_;intro w8 f8 hlt8 hb8;have E8:=hid (E7.out.new f8 (isR_on (M:=⟨s,false,false,0⟩) hb8 rfl rfl) (fun b hb => by simp [isR] at hb;omega));clear f8 hlt8 hb8 E7;simp only [aA,aB,Act.put,aC,aD,aE])
    | (refine wpList_box rfl _ _ rfl (gmL w1.heap.size w7.heap.size 0) rfl ?_;intro w9 f9 hlt9 hb9;have E9:=hid (Ev.three (E8.out.new f9 (Res.On.blk hb9) (fun b hb => by simp [Res.blk] at hb;omega)));clear f9 hlt9 hb9 E8;simp only [aA,aB,Act.put,aC,aD,aE]))
   obtain ⟨m,hm⟩ : ∃ m,w8.heap.size = m:=⟨_,rfl⟩
   obtain ⟨db,hdb⟩ : ∃ m,w1.heap.size = m:=⟨_,rfl⟩
   obtain ⟨ib,hib⟩ : ∃ m,w7.heap.size = m:=⟨_,rfl⟩
   rw [hm] at E9 ⊢
   rw [hdb,hib] at E9
   clear hm hdb hib a1 b1
   go_loopw [8,9] (fun av iv wr => ∃ q : Nat,q ≤ 2 ∧ iv = .int .i64 (q : Int) ∧ av = .bool (opK s q).2 ∧ Hid (Ev w (l ++ sysX pbs s d FF) wr (l ++ mirX pbs m db ib d FF ⟨s,false,false,(opK s q).1⟩))) (fun _ iv _ => 2 - (intOf iv).toNat)
   case atStart => exact ⟨0,by decide,rfl,rfl,E9⟩
   case round =>
    obtain ⟨q,hq,rfl,rfl,E⟩:=hrel
    clear E9
    have hq3 : q = 0 ∨ q = 1 ∨ q = 2:=by omega
    rcases hq3 with rfl | rfl | rfl
    · rw [show (opK s 0).1 = 0 from rfl] at E
      rw [show (opK s 0).2 = false from rfl,show ((0 : Nat) : Int) = 0 from rfl]
      have bm:=xir_blk E.out.held
      have k0 : wr.cell? ⟨m,0,none⟩ = some (.slice (some ⟨db,0,none⟩) 2 2):=bm.cell 0
      have d0 : wr.cell? ⟨db,0,none⟩ = some (.pointer (some ⟨d false,0,none⟩)):=(xir_dbl E.out.held).cell 0
      have HS:=hid (pstamp_any false (xir_sys E.out.held) OK.out TX.out)
      have HQ : Hid (opK s (0 + 1) = if s.stO false then (s.stG false,true) else (0,false)):=hid rfl
      generalize s.stG false = g at *
      cases ho : s.stO false with
      | false =>
        rw [ho] at HS HQ
        clear bm
        go_wp2_with (go_at_call 61;refine HS.out.mono ?_;rintro e w2 ⟨rfl,f2⟩;have E2:=hid (E.out.step f2);clear f2 E HS)
        go_roundw
        case rel => exact ⟨0 + 1,by decide,by first | rfl | go_num,by rw [HQ.out];rfl,by rw [HQ.out];exact E2⟩
        case measure => simp [intOf]
      | true =>
        rw [ho] at HS HQ
        clear bm
        go_wp2_with (first
         | (go_at_call 61;refine HS.out.mono ?_;rintro e w2 ⟨rfl,f2⟩;have E2:=hid (E.out.step f2);have b2:=xir_blk E2.out.held;clear f2 E HS)
         | (refine wpList_put rfl _ _ _ rfl rfl (W64 g) rfl rfl b2 (by simp [gmL]) (by kernel_rfl) ?_;intro w3 f3 b3 hs3;have E3:=hid (xir_gen E2.out f3 (g:=g) b3);clear f3 b3 b2 E2 hs3;simp only [aA,aB,Act.put,aC,aD,aE]))
        go_roundw
        case rel => exact ⟨0 + 1,by decide,by first | rfl | go_num,by rw [HQ.out];rfl,by rw [HQ.out];exact E3⟩
        case measure => simp [intOf]
    · rw [show opK s 1 = s.opA from rfl] at E
      rw [show opK s 1 = s.opA from rfl,show ((1 : Nat) : Int) = 1 from rfl]
      have bm:=xir_blk E.out.held
      have k0 : wr.cell? ⟨m,0,none⟩ = some (.slice (some ⟨db,0,none⟩) 2 2):=bm.cell 0
      have d0 : wr.cell? ⟨db,1,none⟩ = some (.pointer (some ⟨d true,0,none⟩)):=(xir_dbl E.out.held).cell 1
      have HS:=hid (pstamp_any true (xir_sys E.out.held) OK.out TX.out)
      have HQ : Hid (opK s (1 + 1) = if s.stO true && (!s.opA.2 || decide (s.opA.1 < s.stG true)) then (s.stG true,true) else s.opA):=hid rfl
      have HPr:=hid (show s.opA = (s.opA.1,s.opA.2) from rfl)
      have k2 : wr.cell? ⟨m,2,none⟩ = some (W64 s.opA.1):=bm.cell 2
      have HK2:=hid fun (w2 : World) (f : Fr [] wr w2) => f.cell_some k2
      generalize s.stG true = g at *
      obtain ⟨G1,hG1⟩ : ∃ v,s.opA.1 = v:=⟨_,rfl⟩
      rw [hG1] at E HQ HPr HK2
      clear k2 bm hG1
      cases ha : s.opA.2 with
      | false =>
        rw [ha] at HQ HPr
        cases ho : s.stO true with
        | false =>
          rw [ho] at HS HQ
          go_wp2_with (go_at_call 61;refine HS.out.mono ?_;rintro e w2 ⟨rfl,f2⟩;have E2:=hid (E.out.step f2);clear f2 E HS)
          go_roundw
          case rel => exact ⟨1 + 1,by decide,by first | rfl | go_num,by rw [HQ.out];simp [ha],by rw [HQ.out];simp only [Bool.false_and,Bool.false_eq_true,if_false];rw [HPr.out];exact E2⟩
          case measure => simp [intOf]
        | true =>
          rw [ho] at HS HQ
          go_wp2_with (first
           | (go_at_call 61;refine HS.out.mono ?_;rintro e w2 ⟨rfl,f2⟩;have E2:=hid (E.out.step f2);have b2:=xir_blk E2.out.held;clear f2 E HS)
           | (refine wpList_put rfl _ _ _ rfl rfl (W64 g) rfl rfl b2 (by simp [gmL]) (by kernel_rfl) ?_;intro w3 f3 b3 hs3;have E3:=hid (xir_gen E2.out f3 (g:=g) b3);clear f3 b3 b2 E2 hs3;simp only [aA,aB,Act.put,aC,aD,aE]))
          go_roundw
          case rel => exact ⟨1 + 1,by decide,by first | rfl | go_num,by rw [HQ.out];rfl,by rw [HQ.out];exact E3⟩
          case measure => simp [intOf]
      | true =>
        rw [ha] at HQ HPr
        cases ho : s.stO true with
        | false =>
          rw [ho] at HS HQ
          go_wp2_with (go_at_call 61;refine HS.out.mono ?_;rintro e w2 ⟨rfl,f2⟩;have E2:=hid (E.out.step f2);clear f2 E HS)
          go_roundw
          case rel => exact ⟨1 + 1,by decide,by first | rfl | go_num,by rw [HQ.out];simp [ha],by rw [HQ.out];simp only [Bool.false_and,Bool.false_eq_true,if_false];rw [HPr.out];exact E2⟩
          case measure => simp [intOf]
        | true =>
          rw [ho] at HS HQ
          cases hlt : decide (G1 < g) with
          | false =>
            rw [hlt] at HQ
            go_wp2_with (go_at_call 61;refine HS.out.mono ?_;rintro e w2 ⟨rfl,f2⟩;have E2:=hid (E.out.step f2);have kk:=HK2.out _ f2;clear f2 E HS)
            go_roundw
            case rel => exact ⟨1 + 1,by decide,by first | rfl | go_num,by rw [HQ.out];simp [ha],by rw [HQ.out];simp only [Bool.not_true,Bool.or_self,Bool.and_false,Bool.false_eq_true,if_false];rw [HPr.out];exact E2⟩
            case measure => simp [intOf]
          | true =>
            rw [hlt] at HQ
            go_wp2_with (first
             | (go_at_call 61;refine HS.out.mono ?_;rintro e w2 ⟨rfl,f2⟩;have E2:=hid (E.out.step f2);have kk:=HK2.out _ f2;have b2:=xir_blk E2.out.held;clear f2 E HS)
             | (refine wpList_put rfl _ _ _ rfl rfl (W64 g) rfl rfl b2 (by simp [gmL]) (by kernel_rfl) ?_;intro w3 f3 b3 hs3;have E3:=hid (xir_gen E2.out f3 (g:=g) b3);clear f3 b3 b2 E2 hs3;simp only [aA,aB,Act.put,aC,aD,aE]))
            go_roundw
            case rel => exact ⟨1 + 1,by decide,by first | rfl | go_num,by rw [HQ.out];rfl,by rw [HQ.out];exact E3⟩
            case measure => simp [intOf]
    · rw [show opK s 2 = s.opB from rfl] at E
      rw [show opK s 2 = s.opB from rfl,hB,show ((2 : Nat) : Int) = 2 from rfl]
      go_wp2_with fail
      go_loopw [12] (fun iv wq => ∃ q : Nat,q ≤ 2 ∧ iv = .int .i64 (q : Int) ∧ Hid (Ev w (l ++ sysX pbs s d FF) wq (l ++ mirX pbs m db ib d FF (opM s q)))) (fun iv _ => 2 - (intOf iv).toNat)
      case atStart => exact ⟨0,by decide,rfl,E⟩
      case round =>
       obtain ⟨q,hq,rfl,E2⟩:=hrel
       clear E
       have hq3 : q = 0 ∨ q = 1 ∨ q = 2:=by omega
       rcases hq3 with rfl | rfl | rfl
       · rw [show ((0 : Nat) : Int) = 0 from rfl]
         have bm:=xir_blk E2.out.held
         obtain ⟨b0,b1,hib,hb0,hb1⟩:=xir_is E2.out.held
         have k0 : wr.cell? ⟨m,0,none⟩ = some (.slice (some ⟨db,0,none⟩) 2 2):=bm.cell 0
         have k1 : wr.cell? ⟨m,1,none⟩ = some (.slice (some ⟨ib,0,none⟩) 2 2):=bm.cell 1
         have k2 : wr.cell? ⟨m,2,none⟩ = some (W64 s.opB.1):=bm.cell 2
         have d0 : wr.cell? ⟨db,0,none⟩ = some (.pointer (some ⟨d false,0,none⟩)):=(xir_dbl E2.out.held).cell 0
         have HSS:=pstamp_any false (xir_sys E2.out.held) (show SysOk (opM s 0).s from OK.out) (show (opM s 0).s.T < 1000000 from TX.out)
         have HS : Hid (Calls Tryz.prog 61 #[.pointer (some ⟨d false,0,none⟩)] wr fun e w' => e = .returned (.tuple #[W64 (s.stG false),.bool (s.stO false)]) ∧ Fr [] wr w'):=hid HSS
         obtain ⟨kb,kc,_,y3⟩:=psee false E2.out.held (show SysOk (opM s 0).s from OK.out)
         have y3' : wr.cell? ⟨d false,3,none⟩ = some (.bool (s.X false).Dead):=y3
         have KC:=hid (show s.cur false = (s.stO false && decide (s.stG false = s.opB.1)) from rfl)
         have DD:=hid fun h : (s.X false).Dead = true => sto_dead h
         have SK:=hid fun h : s.cur false = false => (show opM s (0 + 1) = opM s 0 from by unfold opM;simp only;rw [h])
         have HF:=hid fun (w2 : World) (f : Fr [] wr w2) => And.intro (f.cell_some k0) (And.intro (f.cell_some d0) (And.intro (f.cell_some y3') (And.intro (f.blk hib (by simp)) (And.intro (f.cell_some k1) (f.cell_some k2)))))
         have PUT:=hid fun (v : Int) (hv : s.cur false = decide (v = 0)) (w2 w3 : World) (e2 : Ev w (l ++ sysX pbs s d FF) w2 (l ++ mirX pbs m db ib d FF (opM s 0))) (f : Fr [ib] w2 w3) (hb : Blk w3 ib [.int .i64 v,.int .i64 b1]) => (show Ev w (l ++ sysX pbs s d FF) w3 (l ++ mirX pbs m db ib d FF (opM s (0 + 1))) from xir_put (M':=opM s (0 + 1)) e2 f hb rfl rfl hv hb1)
         obtain ⟨xb,hxb⟩ : ∃ v,(s.X false).Dead = v:=⟨_,rfl⟩
         rw [hxb] at HF DD
         generalize s.stG false = g at *
         generalize s.opB.1 = G at *
         clear y3 y3' HSS k1 k2 bm hib hb0 hb1 hxb
         cases xb with
         | true =>
           have ho:=DD.out rfl
           rw [ho] at HS KC
           have hv : s.cur false = decide ((2 : Int) = 0):=by rw [KC.out];rfl
           have HV:=hid hv
           clear ho hv DD SK
           go_wp2_with (first
            | (go_at_call 61;refine HS.out.mono ?_;rintro e w4 ⟨rfl,f4⟩;obtain ⟨j0,j1,j3,j4,j5,j6⟩:=HF.out _ f4;have E4:=hid (E2.out.step f4);clear f4 E2 HS HF)
            | (refine wpList_put rfl _ _ _ rfl rfl (.int .i64 2) rfl rfl j4 (by simp) (by kernel_rfl) ?_;intro w5 f5 b5 hs5;have E5:=hid (PUT.out 2 HV.out _ _ E4.out f5 b5);clear f5 b5 j4 E4 hs5;simp only [aA,aB,Act.put,aC,aD,aE]))
           go_roundw
           case rel => exact ⟨0 + 1,by decide,by first | rfl | go_num,E5⟩
           case measure => simp [intOf]
         | false =>
           cases ho : s.stO false with
           | false =>
             rw [ho] at HS KC
             have HV:=hid (SK.out (by rw [KC.out];rfl))
             clear ho DD SK PUT
             go_wp2_with (go_at_call 61;refine HS.out.mono ?_;rintro e w4 ⟨rfl,f4⟩;obtain ⟨j0,j1,j3,j4,j5,j6⟩:=HF.out _ f4;have E4:=hid (E2.out.step f4);clear f4 E2 HS HF)
             go_roundw
             case rel => exact ⟨0 + 1,by decide,by first | rfl | go_num,by rw [HV.out];exact E4⟩
             case measure => simp [intOf]
           | true =>
             rw [ho] at HS KC
             by_cases hg : g = G
             · have hv : s.cur false = decide ((0 : Int) = 0):=by rw [KC.out];simp [hg]
               have HV:=hid hv
               have hq : (g == G) = true:=by simpa using hg
               clear ho hv hg DD SK
               go_wp2_with (first
                | (go_at_call 61;refine HS.out.mono ?_;rintro e w4 ⟨rfl,f4⟩;obtain ⟨j0,j1,j3,j4,j5,j6⟩:=HF.out _ f4;have E4:=hid (E2.out.step f4);clear f4 E2 HS HF)
                | (refine wpList_put rfl _ _ _ rfl rfl (.int .i64 0) rfl rfl j4 (by simp) (by kernel_rfl) ?_;intro w5 f5 b5 hs5;have E5:=hid (PUT.out 0 HV.out _ _ E4.out f5 b5);clear f5 b5 j4 E4 hs5;simp only [aA,aB,Act.put,aC,aD,aE]))
               go_roundw
               case rel => exact ⟨0 + 1,by decide,by first | rfl | go_num,E5⟩
               case measure => simp [intOf]
             · have HV:=hid (SK.out (by rw [KC.out];simp [hg]))
               have hq : (g == G) = false:=by simpa using hg
               clear ho hg DD SK PUT
               go_wp2_with (go_at_call 61;refine HS.out.mono ?_;rintro e w4 ⟨rfl,f4⟩;obtain ⟨j0,j1,j3,j4,j5,j6⟩:=HF.out _ f4;have E4:=hid (E2.out.step f4);clear f4 E2 HS HF)
               go_roundw
               case rel => exact ⟨0 + 1,by decide,by first | rfl | go_num,by rw [HV.out];exact E4⟩
               case measure => simp [intOf]
       · rw [show ((1 : Nat) : Int) = 1 from rfl]
         have bm:=xir_blk E2.out.held
         obtain ⟨b0,b1,hib,hb0,hb1⟩:=xir_is E2.out.held
         have k0 : wr.cell? ⟨m,0,none⟩ = some (.slice (some ⟨db,0,none⟩) 2 2):=bm.cell 0
         have k1 : wr.cell? ⟨m,1,none⟩ = some (.slice (some ⟨ib,0,none⟩) 2 2):=bm.cell 1
         have k2 : wr.cell? ⟨m,2,none⟩ = some (W64 s.opB.1):=bm.cell 2
         have d0 : wr.cell? ⟨db,1,none⟩ = some (.pointer (some ⟨d true,0,none⟩)):=(xir_dbl E2.out.held).cell 1
         have HSS:=pstamp_any true (xir_sys E2.out.held) (show SysOk (opM s 1).s from OK.out) (show (opM s 1).s.T < 1000000 from TX.out)
         have HS : Hid (Calls Tryz.prog 61 #[.pointer (some ⟨d true,0,none⟩)] wr fun e w' => e = .returned (.tuple #[W64 (s.stG true),.bool (s.stO true)]) ∧ Fr [] wr w'):=hid HSS
         obtain ⟨kb,kc,_,y3⟩:=psee true E2.out.held (show SysOk (opM s 1).s from OK.out)
         have y3' : wr.cell? ⟨d true,3,none⟩ = some (.bool (s.X true).Dead):=y3
         have KC:=hid (show s.cur true = (s.stO true && decide (s.stG true = s.opB.1)) from rfl)
         have DD:=hid fun h : (s.X true).Dead = true => sto_dead h
         have SK:=hid fun h : s.cur true = false => (show opM s (1 + 1) = opM s 1 from by unfold opM;simp only;rw [h])
         have HF:=hid fun (w2 : World) (f : Fr [] wr w2) => And.intro (f.cell_some k0) (And.intro (f.cell_some d0) (And.intro (f.cell_some y3') (And.intro (f.blk hib (by simp)) (And.intro (f.cell_some k1) (f.cell_some k2)))))
         have PUT:=hid fun (v : Int) (hv : s.cur true = decide (v = 0)) (w2 w3 : World) (e2 : Ev w (l ++ sysX pbs s d FF) w2 (l ++ mirX pbs m db ib d FF (opM s 1))) (f : Fr [ib] w2 w3) (hb : Blk w3 ib [.int .i64 b0,.int .i64 v]) => (show Ev w (l ++ sysX pbs s d FF) w3 (l ++ mirX pbs m db ib d FF (opM s (1 + 1))) from xir_put (M':=opM s (1 + 1)) e2 f hb rfl rfl hb0 hv)
         obtain ⟨xb,hxb⟩ : ∃ v,(s.X true).Dead = v:=⟨_,rfl⟩
         rw [hxb] at HF DD
         generalize s.stG true = g at *
         generalize s.opB.1 = G at *
         clear y3 y3' HSS k1 k2 bm hib hb0 hb1 hxb
         cases xb with
         | true =>
           have ho:=DD.out rfl
           rw [ho] at HS KC
           have hv : s.cur true = decide ((2 : Int) = 0):=by rw [KC.out];rfl
           have HV:=hid hv
           clear ho hv DD SK
           go_wp2_with (first
            | (go_at_call 61;refine HS.out.mono ?_;rintro e w4 ⟨rfl,f4⟩;obtain ⟨j0,j1,j3,j4,j5,j6⟩:=HF.out _ f4;have E4:=hid (E2.out.step f4);clear f4 E2 HS HF)
            | (refine wpList_put rfl _ _ _ rfl rfl (.int .i64 2) rfl rfl j4 (by simp) (by kernel_rfl) ?_;intro w5 f5 b5 hs5;have E5:=hid (PUT.out 2 HV.out _ _ E4.out f5 b5);clear f5 b5 j4 E4 hs5;simp only [aA,aB,Act.put,aC,aD,aE]))
           go_roundw
           case rel => exact ⟨1 + 1,by decide,by first | rfl | go_num,E5⟩
           case measure => simp [intOf]
         | false =>
           cases ho : s.stO true with
           | false =>
             rw [ho] at HS KC
             have HV:=hid (SK.out (by rw [KC.out];rfl))
             clear ho DD SK PUT
             go_wp2_with (go_at_call 61;refine HS.out.mono ?_;rintro e w4 ⟨rfl,f4⟩;obtain ⟨j0,j1,j3,j4,j5,j6⟩:=HF.out _ f4;have E4:=hid (E2.out.step f4);clear f4 E2 HS HF)
             go_roundw
             case rel => exact ⟨1 + 1,by decide,by first | rfl | go_num,by rw [HV.out];exact E4⟩
             case measure => simp [intOf]
           | true =>
             rw [ho] at HS KC
             by_cases hg : g = G
             · have hv : s.cur true = decide ((0 : Int) = 0):=by rw [KC.out];simp [hg]
               have HV:=hid hv
               have hq : (g == G) = true:=by simpa using hg
               clear ho hv hg DD SK
               go_wp2_with (first
                | (go_at_call 61;refine HS.out.mono ?_;rintro e w4 ⟨rfl,f4⟩;obtain ⟨j0,j1,j3,j4,j5,j6⟩:=HF.out _ f4;have E4:=hid (E2.out.step f4);clear f4 E2 HS HF)
                | (refine wpList_put rfl _ _ _ rfl rfl (.int .i64 0) rfl rfl j4 (by simp) (by kernel_rfl) ?_;intro w5 f5 b5 hs5;have E5:=hid (PUT.out 0 HV.out _ _ E4.out f5 b5);clear f5 b5 j4 E4 hs5;simp only [aA,aB,Act.put,aC,aD,aE]))
               go_roundw
               case rel => exact ⟨1 + 1,by decide,by first | rfl | go_num,E5⟩
               case measure => simp [intOf]
             · have HV:=hid (SK.out (by rw [KC.out];simp [hg]))
               have hq : (g == G) = false:=by simpa using hg
               clear ho hg DD SK PUT
               go_wp2_with (go_at_call 61;refine HS.out.mono ?_;rintro e w4 ⟨rfl,f4⟩;obtain ⟨j0,j1,j3,j4,j5,j6⟩:=HF.out _ f4;have E4:=hid (E2.out.step f4);clear f4 E2 HS HF)
               go_roundw
               case rel => exact ⟨1 + 1,by decide,by first | rfl | go_num,by rw [HV.out];exact E4⟩
               case measure => simp [intOf]
       · go_wp2_with fail
         go_ret2
         exact ⟨m,db,ib,rfl,E2.out⟩
end
end Go.Proofs.YtgafefecookgaaaGreat
namespace Go.Proofs.YtgafefecookgaaaGreat
open Go Go.Xr Go.RowKit
section
variable {w w' w0 : World} {l rs : List Res} {pbs : List Nat} {m db ib : Nat} {s : Sys} {M M' : MS} {d : Bool → Nat} {FF FF' : Bool → List Nat}
theorem pfacts (F : Bool) (h : Held w (l ++ mirX pbs m db ib d FF M)) (ok : SysOk M.s) : ∃ kb c : Nat,w.cell? ⟨m,0,none⟩ = some (.slice (some ⟨db,0,none⟩) 2 2) ∧ w.cell? ⟨db,0,none⟩ = some (.pointer (some ⟨d false,0,none⟩)) ∧ w.cell? ⟨db,1,none⟩ = some (.pointer (some ⟨d true,0,none⟩)) ∧ w.cell? ⟨d F,0,none⟩ = some (.slice (some ⟨kb,0,none⟩) (M.s.len F) c):=by
 obtain ⟨kb,c,h0,_⟩:=psee F h ok
 exact ⟨kb,c,(xir_blk h).cell 0,(xir_dbl h).cell 0,(xir_dbl h).cell 1,h0⟩
theorem pis (h : Held w (l ++ mirX pbs m db ib d FF M)) : ∃ b0 b1 : Int,w.cell? ⟨m,1,none⟩ = some (.slice (some ⟨ib,0,none⟩) 2 2) ∧ w.cell? ⟨ib,0,none⟩ = some (.int .i64 b0) ∧ w.cell? ⟨ib,1,none⟩ = some (.int .i64 b1) ∧ (b0 != 0) = !M.c0 ∧ (b1 != 0) = !M.c1 ∧ (b0 == 0) = M.c0 ∧ (b1 == 0) = M.c1:=by
 obtain ⟨b0,b1,hb,h0,h1⟩:=xir_is h
 refine ⟨b0,b1,(xir_blk h).cell 1,hb.cell 0,hb.cell 1,?_,?_,?_,?_⟩
 · rw [h0];by_cases e : b0 = 0 <;> simp [e]
 · rw [h1];by_cases e : b1 = 0 <;> simp [e]
 · rw [h0];by_cases e : b0 = 0 <;> simp [e]
 · rw [h1];by_cases e : b1 = 0 <;> simp [e]
theorem presync_lost (h : Held w (l ++ mirX pbs m db ib d FF M)) (ha : M.any = false) :
 Calls Tryz.prog 75 #[.pointer (some ⟨m,0,none⟩)] w fun e w' => e = .returned (.tuple #[.int .i64 0,.int .i64 70]) ∧ w' = w:=by
 have HL:=hid (plost_any h)
 rw [ha] at HL
 clear h ha
 go_enter Tryz.func75,Tryz.ntmps75
 go_wp2_with (go_at_call 102;refine HL.out.mono ?_;rintro e w1 ⟨rfl,e1⟩;have e1':=hid e1;rw [e1'.out];clear e1)
 go_ret2
 exact ⟨rfl,rfl⟩
theorem presync_dead_false (h : Held w (l ++ mirX pbs m db ib d FF M)) (ok : SysOk M.s) (ht : M.s.T < 998800) (h0 : M.c0 = true) (hc : M.c false = true) (hd : (M.s.X true).Dead = true) :
 Calls Tryz.prog 75 #[.pointer (some ⟨m,0,none⟩)] w fun e w' => e = .returned (.tuple #[.int .i64 0,.int .i64 (M.rsDead false).leftC]) ∧ ∃ FF',Ev w (l ++ mirX pbs m db ib d FF M) w' (l ++ mirX pbs m db ib d FF' (M.rsDead false)):=by
 have HL:=hid (plost_any h)
 have ha : M.any = true:=by
  have hc':=hc
  unfold MS.c at hc'
  simp at hc'
  unfold MS.any
  simp [hc']
 rw [ha] at HL
 obtain ⟨b0,b1,i1,i2,i3,n0,n1,q0,q1⟩:=pis h
 obtain ⟨ka,ca,p0,p1,p2,p3⟩:=pfacts true h ok
 obtain ⟨kb,kc,_,y3⟩:=psee true h ok
 rw [hd] at y3
 rw [h0] at n0
 have E0:=hid (Ev.refl h)
 have HLo:=hid (plose_true h ok (by omega))
 unfold MS.rsDead
 rw [show (!false) = true from rfl]
 have HL2:=hid fun (w1 : World) (FF2 : Bool → List Nat) (h1 : Held w1 (l ++ mirX pbs m db ib d FF2 (M.lose true))) => plost_any h1
 have qo : (b1 == 0) = M.c true:=by first | exact q0 | exact q1
 simp only [Bool.not_true,Bool.not_false] at n0
 cases hcn : M.c true with
 | false =>
   rw [hcn] at qo
   simp only [Bool.false_eq_true,if_false]
   have HC:=hid (show M.leftC = 0 by unfold MS.leftC;rw [ha];rfl)
   clear h ok ht h0 hc hd ha n1 q0 q1 hcn HLo HL2
   go_enter Tryz.func75,Tryz.ntmps75
   go_wp2_with (go_at_call 102;refine HL.out.mono ?_;rintro e w1 ⟨rfl,e1⟩;have e1':=hid e1;rw [e1'.out];clear e1)
   go_ret2
   rw [HC.out]
   exact ⟨rfl,FF,E0.out⟩
 | true =>
   rw [hcn] at qo
   simp only [if_true]
   cases ha2 : (M.lose true).any with
   | false =>
     rw [ha2] at HL2
     have HC:=hid (show (M.lose true).leftC = 70 by unfold MS.leftC;rw [ha2];rfl)
     clear h ok ht h0 hc hd ha n1 q0 q1 hcn ha2
     go_enter Tryz.func75,Tryz.ntmps75
     go_wp2_with (first
      | (go_at_call 102;refine HL.out.mono ?_;rintro e w1 ⟨rfl,e1⟩;have e1':=hid e1;rw [e1'.out];clear e1 HL)
      | (go_at_call 103;refine HLo.out.mono ?_;rintro e w6 ⟨rfl,FF6,v6⟩;have E6:=hid (E0.out.trans v6);clear v6 HLo)
      | (go_at_call 102;refine (HL2.out _ _ E6.out.held).mono ?_;rintro e w7 ⟨rfl,e7⟩;have e7':=hid e7;rw [e7'.out];clear e7 HL2))
     go_ret2
     rw [HC.out]
     exact ⟨rfl,FF6,E6.out⟩
   | true =>
     rw [ha2] at HL2
     have HC:=hid (show (M.lose true).leftC = 0 by unfold MS.leftC;rw [ha2];rfl)
     clear h ok ht h0 hc hd ha n1 q0 q1 hcn ha2
     go_enter Tryz.func75,Tryz.ntmps75
     go_wp2_with (first
      | (go_at_call 102;refine HL.out.mono ?_;rintro e w1 ⟨rfl,e1⟩;have e1':=hid e1;rw [e1'.out];clear e1 HL)
      | (go_at_call 103;refine HLo.out.mono ?_;rintro e w6 ⟨rfl,FF6,v6⟩;have E6:=hid (E0.out.trans v6);clear v6 HLo)
      | (go_at_call 102;refine (HL2.out _ _ E6.out.held).mono ?_;rintro e w7 ⟨rfl,e7⟩;have e7':=hid e7;rw [e7'.out];clear e7 HL2))
     go_ret2
     rw [HC.out]
     exact ⟨rfl,FF6,E6.out⟩
theorem presync_dead_true (h : Held w (l ++ mirX pbs m db ib d FF M)) (ok : SysOk M.s) (ht : M.s.T < 998800) (h0 : M.c0 = false) (hc : M.c true = true) (hd : (M.s.X false).Dead = true) :
 Calls Tryz.prog 75 #[.pointer (some ⟨m,0,none⟩)] w fun e w' => e = .returned (.tuple #[.int .i64 0,.int .i64 (M.rsDead true).leftC]) ∧ ∃ FF',Ev w (l ++ mirX pbs m db ib d FF M) w' (l ++ mirX pbs m db ib d FF' (M.rsDead true)):=by
 have HL:=hid (plost_any h)
 have ha : M.any = true:=by
  have hc':=hc
  unfold MS.c at hc'
  simp at hc'
  unfold MS.any
  simp [hc']
 rw [ha] at HL
 obtain ⟨b0,b1,i1,i2,i3,n0,n1,q0,q1⟩:=pis h
 obtain ⟨ka,ca,p0,p1,p2,p3⟩:=pfacts false h ok
 obtain ⟨kb,kc,_,y3⟩:=psee false h ok
 rw [hd] at y3
 rw [h0] at n0
 have E0:=hid (Ev.refl h)
 have HLo:=hid (plose_false h ok (by omega))
 unfold MS.rsDead
 rw [show (!true) = false from rfl]
 have HL2:=hid fun (w1 : World) (FF2 : Bool → List Nat) (h1 : Held w1 (l ++ mirX pbs m db ib d FF2 (M.lose false))) => plost_any h1
 have qo : (b0 == 0) = M.c false:=by first | exact q0 | exact q1
 simp only [Bool.not_true,Bool.not_false] at n0
 cases hcn : M.c false with
 | false =>
   rw [hcn] at qo
   simp only [Bool.false_eq_true,if_false]
   have HC:=hid (show M.leftC = 0 by unfold MS.leftC;rw [ha];rfl)
   clear h ok ht h0 hc hd ha n1 q0 q1 hcn HLo HL2
   go_enter Tryz.func75,Tryz.ntmps75
   go_wp2_with (go_at_call 102;refine HL.out.mono ?_;rintro e w1 ⟨rfl,e1⟩;have e1':=hid e1;rw [e1'.out];clear e1)
   go_ret2
   rw [HC.out]
   exact ⟨rfl,FF,E0.out⟩
 | true =>
   rw [hcn] at qo
   simp only [if_true]
   cases ha2 : (M.lose false).any with
   | false =>
     rw [ha2] at HL2
     have HC:=hid (show (M.lose false).leftC = 70 by unfold MS.leftC;rw [ha2];rfl)
     clear h ok ht h0 hc hd ha n1 q0 q1 hcn ha2
     go_enter Tryz.func75,Tryz.ntmps75
     go_wp2_with (first
      | (go_at_call 102;refine HL.out.mono ?_;rintro e w1 ⟨rfl,e1⟩;have e1':=hid e1;rw [e1'.out];clear e1 HL)
      | (go_at_call 103;refine HLo.out.mono ?_;rintro e w6 ⟨rfl,FF6,v6⟩;have E6:=hid (E0.out.trans v6);clear v6 HLo)
      | (go_at_call 102;refine (HL2.out _ _ E6.out.held).mono ?_;rintro e w7 ⟨rfl,e7⟩;have e7':=hid e7;rw [e7'.out];clear e7 HL2))
     go_ret2
     rw [HC.out]
     exact ⟨rfl,FF6,E6.out⟩
   | true =>
     rw [ha2] at HL2
     have HC:=hid (show (M.lose false).leftC = 0 by unfold MS.leftC;rw [ha2];rfl)
     clear h ok ht h0 hc hd ha n1 q0 q1 hcn ha2
     go_enter Tryz.func75,Tryz.ntmps75
     go_wp2_with (first
      | (go_at_call 102;refine HL.out.mono ?_;rintro e w1 ⟨rfl,e1⟩;have e1':=hid e1;rw [e1'.out];clear e1 HL)
      | (go_at_call 103;refine HLo.out.mono ?_;rintro e w6 ⟨rfl,FF6,v6⟩;have E6:=hid (E0.out.trans v6);clear v6 HLo)
      | (go_at_call 102;refine (HL2.out _ _ E6.out.held).mono ?_;rintro e w7 ⟨rfl,e7⟩;have e7':=hid e7;rw [e7'.out];clear e7 HL2))
     go_ret2
     rw [HC.out]
     exact ⟨rfl,FF6,E6.out⟩
theorem presync_main_false (h : Held w (l ++ mirX pbs m db ib d FF M)) (ok : SysOk M.s) (ht : M.s.T + 2 * M.s.len false < 998800) (h0 : M.c0 = true) (hc : M.c false = true) (hd : (M.s.X true).Dead = false) :
 Calls Tryz.prog 75 #[.pointer (some ⟨m,0,none⟩)] w fun e w' => e = .returned (.tuple #[.int .i64 ((M.rsF false).2.1 : Int),.int .i64 (M.rsF false).2.2]) ∧ ∃ FF',Ev w (l ++ mirX pbs m db ib d FF M) w' (l ++ mirX pbs m db ib d FF' (M.rsF false).1):=by
 have HL:=hid (plost_any h)
 have ha : M.any = true:=by
  have hc':=hc
  unfold MS.c at hc'
  simp at hc'
  unfold MS.any
  simp [hc']
 rw [ha] at HL
 obtain ⟨b0,b1,i1,i2,i3,n0,n1,q0,q1⟩:=pis h
 obtain ⟨ka,ca,p0,p1,p2,p3⟩:=pfacts true h ok
 obtain ⟨kb,kc,_,y3⟩:=psee true h ok
 rw [hd] at y3
 rw [h0] at n0
 simp only [Bool.not_true,Bool.not_false] at n0
 have E0:=hid (Ev.refl h)
 have hRS : M.rsF false = M.rsMain false (RS.run false (M.s.len false - 1) 1 ⟨M.s,0⟩):=by unfold MS.rsF;rw [show (!false) = true from rfl,if_neg (by rw [hd];decide)]
 rw [hRS]
 have OK:=hid ok
 have HT:=hid ht
 have HLp:=hid (len_pos ok false)
 obtain ⟨L,hL⟩ : ∃ L,M.s.len false = L:=⟨_,rfl⟩
 rw [hL] at HT HLp ⊢
 have HLe:=hid hL
 clear h ok ht h0 hc hd ha n1 q0 q1 hL hRS p3
 go_enter Tryz.func75,Tryz.ntmps75
 go_wp2_with (go_at_call 102;refine HL.out.mono ?_;rintro e w1 ⟨rfl,e1⟩;have e1':=hid e1;rw [e1'.out];clear e1 HL)
 clear i1 i2 i3 p0 p1 p2 y3 n0
 go_loopw [6,7] (fun nv iv wr => ∃ (i k : Nat) (r : RS) (FF' : Bool → List Nat),iv = .int .i64 (i : Int) ∧ nv = .int .i64 (r.n : Int) ∧ 1 ≤ i ∧ Hid (i + k = L) ∧ Hid (RS.run false (L - 1) 1 ⟨M.s,0⟩ = RS.run false k i r) ∧ Hid (SysOk r.s) ∧ Hid (r.s.T + 2 * k < 998850) ∧ r.n ≤ i ∧ Hid (r.s.len false = L) ∧ Hid (Ev w (l ++ mirX pbs m db ib d FF M) wr (l ++ mirX pbs m db ib d FF' { M with s:=r.s }))) (fun _ iv _ => L - (intOf iv).toNat)
 case atStart => exact ⟨1,L - 1,⟨M.s,0⟩,FF,rfl,rfl,Nat.le_refl _,hid (by have:=HLp.out;omega),hid rfl,OK,hid (by have:=HT.out;show M.s.T + 2 * (L - 1) < 998850;omega),Nat.zero_le _,HLe,E0⟩
 case round =>
  obtain ⟨i,k,r,FF1,rfl,rfl,h1,Hik,Hrun,OKr,Tr,hn,Hlr,EV⟩:=hrel
  have hLe:=HLp.out.2
  have hik:=Hik.out
  obtain ⟨ka,ca,p0,p1,p2,p3⟩:=pfacts false EV.out.held OKr.out
  rw [show (MS.mk r.s M.c0 M.c1 M.g).s.len false = r.s.len false from rfl,Hlr.out] at p3
  clear E0
  cases k with
  | zero =>
    have hd : decide ((i : Int) < (L : Int)) = false:=by simp;omega
    have hdn : decide (i < L) = false:=by simp;omega
    have hadd : ∀ t,binOp .add t (W64 M.g) (.int .u64 1) = pure (W64 (M.g + 1)):=fun t => add_u64 t M.g 1
    have HM:=hid (show M.rsMain false (RS.run false (L - 1) 1 ⟨M.s,0⟩) = ((MS.rsEnd ⟨r.s,M.c0,M.c1,M.g⟩ false).1,r.n,(MS.rsEnd ⟨r.s,M.c0,M.c1,M.g⟩ false).2) by rw [Hrun.out];rfl)
    have HE : Hid (MS.rsEnd ⟨r.s,M.c0,M.c1,M.g⟩ false = if (r.s.fl true).wrC false 0 (supS (M.g + 1) ((r.s.fl true).len false)) = 0 then (⟨((((r.s.fl true).wr false 0 (supS (M.g + 1) ((r.s.fl true).len false))).wr true 0 (supS (M.g + 1) ((r.s.fl true).len false))).fl false).fl true,true,true,M.g + 1⟩,0) else (MS.lose ⟨(r.s.fl true).wr false 0 (supS (M.g + 1) ((r.s.fl true).len false)),M.c0,M.c1,M.g + 1⟩ false,(MS.lose ⟨(r.s.fl true).wr false 0 (supS (M.g + 1) ((r.s.fl true).len false)),M.c0,M.c1,M.g + 1⟩ false).leftC)):=hid rfl
    have OK2:=hid ((fl_stp r.s true).ok OKr.out)
    have T2 : Hid ((r.s.fl true).T < 998900):=hid (by have:=(fl_stp r.s true).T OKr.out;have:=Tr.out;omega)
    have hf1:=hid (pF true EV.out.held OKr.out (by have:=Tr.out;show r.s.T < 1000000;omega))
    rw [show (MS.mk r.s M.c0 M.c1 M.g).s = r.s from rfl] at hf1
    generalize r.s.fl true = S2 at *
    have HU:=hid fun w1 : World => rsuper_any (w:=w1) (M.g + 1) (S2.len false) (len_pos OK2.out false).2
    have HPF:=hid fun (w1 : World) (FF2 : Bool → List Nat) (h1 : Held w1 (l ++ mirX pbs m db ib d FF2 ⟨S2,M.c0,M.c1,M.g + 1⟩)) => pfacts false h1 OK2.out
    have HW2:=hid fun (w1 : World) (FF2 : Bool → List Nat) (h1 : Held w1 (l ++ mirX pbs m db ib d FF2 ⟨S2,M.c0,M.c1,M.g + 1⟩)) => pW false h1 OK2.out (Nat.lt_of_lt_of_le T2.out (by decide)) 0 (supS (M.g + 1) (S2.len false)) (by rw [supS_size];decide)
    have OK3:=hid ((wr_stp S2 false 0 (supS (M.g + 1) (S2.len false))).ok OK2.out)
    have T3 : Hid ((S2.wr false 0 (supS (M.g + 1) (S2.len false))).T < 998910):=hid (by have:=(wr_stp S2 false 0 (supS (M.g + 1) (S2.len false))).T OK2.out;have:=T2.out;omega)
    have hsz:=supS_size (M.g + 1) (S2.len false)
    rw [show (MS.mk S2 M.c0 M.c1 (M.g + 1)).s.len false = S2.len false from rfl] at HPF
    generalize supS (M.g + 1) (S2.len false) = Z at *
    generalize S2.len false = n2 at *
    have HKD:=hid fun (w1 : World) (FF2 : Bool → List Nat) (S : Sys) (g : UInt64) (h1 : Held w1 (l ++ mirX pbs m db ib d FF2 ⟨S,M.c0,M.c1,g⟩)) => And.intro ((xir_blk h1).cell 0) (And.intro ((xir_dbl h1).cell 0) ((xir_dbl h1).cell 1))
    clear hik Hlr Hrun
    go_wp2_with (first
     | (go_at_call 60;(with_reducible refine hf1.out.mono ?_);rintro e w7 ⟨rfl,FF7,v7⟩;have E7:=hid (EV.out.trans v7);have b7:=xir_blk E7.out.held;have k7 : w7.cell? ⟨m,2,none⟩ = some (W64 M.g):=b7.cell 2;clear v7)
     | (refine wpList_put rfl _ _ _ rfl rfl (W64 (M.g + 1)) rfl rfl b7 (by simp [gmL]) (by kernel_rfl) ?_;intro w8 f8 b8 hs8;have E8:=hid (xir_gen E7.out f8 (g:=M.g + 1) b8);clear b7 k7 b8 f8;simp only [aA,aB,Act.put,aC,aD,aE]))
    have E9:=hid (show Ev w (l ++ mirX pbs m db ib d FF M) w8.drew (l ++ mirX pbs m db ib d FF7 ⟨S2,M.c0,M.c1,M.g + 1⟩) from E8.out.step (Fr.refl [] w8).drew)
    obtain ⟨ja,jc,j0,j1,j2,j3⟩:=HPF.out _ _ E9.out.held
    have j4 : w8.drew.cell? ⟨m,2,none⟩ = some (W64 (M.g + 1)):=(xir_blk E9.out.held).cell 2
    clear hf1 hd hdn p0 p1 p2 p3
    refine wp_region_D (fun _ => True) false [] (by kernel_rfl) ?_
    refine WD.pure [0,1,2,3,4,5,6,7,8,9,10,11,12,13,14] (by kernel_rfl) trivial ?_
    simp only [pick,aF,aG,aI,aJ,aK]
    repeat (first | go_big_quiet_step (fail))
    refine wpQuiet_nil ?_
    refine WD.eff 15 (by kernel_rfl) ?_
    simp only [pick,aF,aG,aI,aJ,aK]
    go_wp2_with (go_at_call 58;refine (HU.out _).mono ?_;rintro e w11 ⟨rfl,f11⟩)
    have E11:=hid (E9.out.step f11)
    obtain ⟨z0,z1,z2⟩:=HKD.out _ _ _ _ E11.out.held
    clear j0 j1 j2 j3 j4
    have z0' : w11.cell? ⟨m,0,none⟩ = some (.slice (some ⟨db,0,none⟩) 2 2):=z0
    have z1' : w11.cell? ⟨db,0,none⟩ = some (.pointer (some ⟨d false,0,none⟩)):=z1
    have z2' : w11.cell? ⟨db,1,none⟩ = some (.pointer (some ⟨d true,0,none⟩)):=z2
    clear z0 z1 z2
    try refine wpList_nil ?_
    refine AfterD.on trivial (by kernel_rfl) ?_
    try simp only [aA,aB,Act.put,aC,aD,aE]
    refine WD.pure [16] (by kernel_rfl) trivial ?_
    simp only [pick,aF,aG,aI,aJ,aK]
    repeat (first | go_big_quiet_step (fail))
    refine wpQuiet_nil ?_
    refine WD.done (by kernel_rfl) ?_
    have hW2:=hid (HW2.out _ _ E11.out.held)
    clear HW2 HU
    by_cases he : S2.wrC false 0 Z = 0
    · have HX:=hid (HM.out.trans (by rw [HE.out.trans (if_pos he)]))
      have OK4:=hid ((wr_stp (S2.wr false 0 Z) true 0 Z).ok OK3.out)
      have T4 : Hid (((S2.wr false 0 Z).wr true 0 Z).T < 998920):=hid (by have:=(wr_stp (S2.wr false 0 Z) true 0 Z).T OK3.out;have:=T3.out;omega)
      have OK5:=hid ((fl_stp ((S2.wr false 0 Z).wr true 0 Z) false).ok OK4.out)
      have T5 : Hid ((((S2.wr false 0 Z).wr true 0 Z).fl false).T < 998930):=hid (by have:=(fl_stp ((S2.wr false 0 Z).wr true 0 Z) false).T OK4.out;have:=T4.out;omega)
      have HW3:=hid fun (w1 : World) (FF2 : Bool → List Nat) (h1 : Held w1 (l ++ mirX pbs m db ib d FF2 ⟨S2.wr false 0 Z,M.c0,M.c1,M.g + 1⟩)) => pW true h1 OK3.out (Nat.lt_of_lt_of_le T3.out (by decide)) 0 Z (by rw [hsz];decide)
      have HF4:=hid fun (w1 : World) (FF2 : Bool → List Nat) (h1 : Held w1 (l ++ mirX pbs m db ib d FF2 ⟨(S2.wr false 0 Z).wr true 0 Z,M.c0,M.c1,M.g + 1⟩)) => pF false h1 OK4.out (Nat.lt_of_lt_of_le T4.out (by decide))
      have HF5:=hid fun (w1 : World) (FF2 : Bool → List Nat) (h1 : Held w1 (l ++ mirX pbs m db ib d FF2 ⟨((S2.wr false 0 Z).wr true 0 Z).fl false,M.c0,M.c1,M.g + 1⟩)) => pF true h1 OK5.out (Nat.lt_of_lt_of_le T5.out (by decide))
      rw [he] at hW2
      clear HE he HM hsz
      go_wp2_with (first
       | (go_at_call 59;(with_reducible refine hW2.out.mono ?_);rintro e w12 ⟨rfl,FF12,v12⟩;have E12:=hid (E11.out.trans v12);have hW3:=hid (HW3.out _ _ E12.out.held);obtain ⟨y0,y1,y2⟩:=HKD.out _ _ _ _ E12.out.held;have y0' : w12.cell? ⟨m,0,none⟩ = some (.slice (some ⟨db,0,none⟩) 2 2):=y0;have y1' : w12.cell? ⟨db,0,none⟩ = some (.pointer (some ⟨d false,0,none⟩)):=y1;have y2' : w12.cell? ⟨db,1,none⟩ = some (.pointer (some ⟨d true,0,none⟩)):=y2;clear hW2 v12 y0 y1 y2)
       | (go_at_call 59;(with_reducible refine hW3.out.mono ?_);rintro e w13 ⟨rfl,FF13,v13⟩;have E13:=hid (E12.out.trans v13);have hF4:=hid (HF4.out _ _ E13.out.held);obtain ⟨x0,x1,x2⟩:=HKD.out _ _ _ _ E13.out.held;have x0' : w13.cell? ⟨m,0,none⟩ = some (.slice (some ⟨db,0,none⟩) 2 2):=x0;have x1' : w13.cell? ⟨db,0,none⟩ = some (.pointer (some ⟨d false,0,none⟩)):=x1;have x2' : w13.cell? ⟨db,1,none⟩ = some (.pointer (some ⟨d true,0,none⟩)):=x2;clear hW3 v13 x0 x1 x2)
       | (go_at_call 60;(with_reducible refine hF4.out.mono ?_);rintro e w14 ⟨rfl,FF14,v14⟩;have E14:=hid (E13.out.trans v14);have hF5:=hid (HF5.out _ _ E14.out.held);obtain ⟨u0,u1,u2⟩:=HKD.out _ _ _ _ E14.out.held;have u0' : w14.cell? ⟨m,0,none⟩ = some (.slice (some ⟨db,0,none⟩) 2 2):=u0;have u1' : w14.cell? ⟨db,0,none⟩ = some (.pointer (some ⟨d false,0,none⟩)):=u1;have u2' : w14.cell? ⟨db,1,none⟩ = some (.pointer (some ⟨d true,0,none⟩)):=u2;clear hF4 v14 u0 u1 u2)
       | (go_at_call 60;(with_reducible refine hF5.out.mono ?_);rintro e w15 ⟨rfl,FF15,v15⟩;have E15:=hid (E14.out.trans v15);obtain ⟨c0,c1,b15,_,_⟩:=xir_is E15.out.held;have i15 : w15.cell? ⟨m,1,none⟩ = some (.slice (some ⟨ib,0,none⟩) 2 2):=(xir_blk E15.out.held).cell 1;have HI15:=hid fun (w2 : World) (f : Fr [ib] w15 w2) => f;clear hF5 v15)
       | (refine wpList_put rfl _ _ _ rfl rfl (.int .i64 0) rfl rfl b15 (by simp) (by kernel_rfl) ?_;intro w16 f16 b16 hs16;have b16' : Blk w16 ib [.int .i64 0,.int .i64 c1]:=b16;have E16:=hid (xir_put (M':=⟨(((S2.wr false 0 Z).wr true 0 Z).fl false).fl true,true,decide (c1 = 0),M.g + 1⟩) E15.out f16 b16' rfl rfl rfl rfl);have i16 : w16.cell? ⟨m,1,none⟩ = some (.slice (some ⟨ib,0,none⟩) 2 2):=(xir_blk E16.out.held).cell 1;clear b15 b16 f16;simp only [aA,aB,Act.put,aC,aD,aE])
       | (refine wpList_put rfl _ _ _ rfl rfl (.int .i64 0) rfl rfl b16' (by simp) (by kernel_rfl) ?_;intro w17 f17 b17 hs17;have b17' : Blk w17 ib [.int .i64 0,.int .i64 0]:=b17;have E17:=hid (xir_put (M':=⟨(((S2.wr false 0 Z).wr true 0 Z).fl false).fl true,true,true,M.g + 1⟩) E16.out f17 b17' rfl rfl rfl rfl);clear b17 b16' f17;simp only [aA,aB,Act.put,aC,aD,aE]))
      go_ret2
      rw [HX.out]
      exact ⟨rfl,FF15,E17.out⟩
    · have u0 : (S2.wrC false 0 Z != 0) = true:=by simpa using he
      have HX:=hid (HM.out.trans (by rw [HE.out.trans (if_neg he)]))
      have HLo:=hid fun (w1 : World) (FF2 : Bool → List Nat) (h1 : Held w1 (l ++ mirX pbs m db ib d FF2 ⟨S2.wr false 0 Z,M.c0,M.c1,M.g + 1⟩)) => plose_false h1 OK3.out (Nat.lt_of_lt_of_le T3.out (by decide))
      have HLf:=hid fun (w1 : World) (FF2 : Bool → List Nat) (h1 : Held w1 (l ++ mirX pbs m db ib d FF2 (MS.lose ⟨S2.wr false 0 Z,M.c0,M.c1,M.g + 1⟩ false))) => pleft_any h1
      clear HE he HM
      generalize MS.lose ⟨S2.wr false 0 Z,M.c0,M.c1,M.g + 1⟩ false = ML at *
      generalize S2.wrC false 0 Z = c at *
      go_wp2_with (first
       | (go_at_call 59;(with_reducible refine hW2.out.mono ?_);rintro e w12 ⟨rfl,FF12,v12⟩;have E12:=hid (E11.out.trans v12);have hlo:=hid (HLo.out _ _ E12.out.held);clear hW2 v12)
       | (go_at_call 103;refine hlo.out.mono ?_;rintro e w13 ⟨rfl,FF13,v13⟩;have E13:=hid (E12.out.trans v13);have hlf:=hid (HLf.out _ _ E13.out.held);clear hlo v13)
       | (go_at_call 106;refine hlf.out.mono ?_;rintro e w14 ⟨rfl,hw⟩;have hw':=hid hw;rw [hw'.out];clear hw))
      go_ret2
      rw [HX.out]
      exact ⟨rfl,FF13,E13.out⟩
  | succ k =>
    have hd : decide ((i : Int) < (L : Int)) = true:=by simp;omega
    have hdn : decide (i < L) = true:=by simp;omega
    have hR:=hid (xR' false EV.out.held OKr.out (by have:=Tr.out;show r.s.T < 1000000;omega) (i : Int))
    have hi4 : (i : Int) ≤ 16384:=by omega
    have hn4 : (r.n : Int) ≤ 16384:=by omega
    by_cases hz : r.s.rdC false i = 0
    · have hT:=hid (xR' true EV.out.held OKr.out (by have:=Tr.out;show r.s.T < 1000000;omega) (i : Int))
      have HRN:=hid (show RS.run false (L - 1) 1 ⟨M.s,0⟩ = RS.run false k (i + 1) (r.step false i) by rw [Hrun.out,RS.run,if_pos hz])
      have OK2:=hid ((step_stp r false i).ok OKr.out)
      have T2 : Hid ((r.step false i).s.T + 2 * k < 998850):=hid (by have:=(step_stp r false i).T OKr.out;have:=Tr.out;omega)
      have L2 : Hid ((r.step false i).s.len false = L):=hid (((step_stp r false i).len OKr.out false).trans Hlr.out)
      have hW:=hid (pW true EV.out.held OKr.out (by have:=Tr.out;show r.s.T < 1000000;omega) (i : Int) (r.s.rdS false i) (Nat.le_trans (Nat.le_of_eq (mt_rd_size (OKr.out.g false) _ _ hz)) (by decide)))
      have hst : RS.step r false i = if r.s.rdS false i = r.s.rdS true i then r else ⟨r.s.wr true i (r.s.rdS false i),r.n + 1⟩:=rfl
      rw [show (MS.mk r.s M.c0 M.c1 M.g).s = r.s from rfl] at hR hT hW
      rw [hz] at hR
      by_cases he : r.s.rdS false i = r.s.rdS true i
      · have hne : ((r.s.rdS false i).toList == (r.s.rdS true i).toList) = true:=by rw [mt_beq];exact decide_eq_true he
        rw [if_pos he] at hst
        rw [hst] at HRN OK2 T2 L2
        generalize r.s.rdS false i = S1 at *
        generalize r.s.rdS true i = S2 at *
        clear hW hz he hst hik
        go_wp2_with (first
         | (go_at_call 93;(with_reducible refine hR.out.mono ?_);rintro e w7 ⟨rfl,hw⟩;have hw':=hid hw;rw [hw'.out];clear hw hR)
         | (go_at_call 93;(with_reducible refine hT.out.mono ?_);rintro e w8 ⟨rfl,hw⟩;have hw'':=hid hw;rw [hw''.out];clear hw hT))
        go_roundw
        case rel => exact ⟨i + 1,k,r,FF1,by go_num,rfl,by omega,hid (by have:=Hik.out;omega),HRN,OK2,T2,by omega,L2,EV⟩
        case measure => have:=Hik.out;simp [intOf];omega
      · have hne : ((r.s.rdS false i).toList == (r.s.rdS true i).toList) = false:=by rw [mt_beq];exact decide_eq_false he
        rw [if_neg he] at hst
        rw [hst] at HRN OK2 T2 L2
        generalize r.s.rdS false i = S1 at *
        generalize r.s.rdS true i = S2 at *
        clear hz he hst hik
        go_wp2_with (first
         | (go_at_call 93;(with_reducible refine hR.out.mono ?_);rintro e w7 ⟨rfl,hw⟩;have hw':=hid hw;rw [hw'.out];clear hw hR)
         | (go_at_call 93;(with_reducible refine hT.out.mono ?_);rintro e w8 ⟨rfl,hw⟩;have hw'':=hid hw;rw [hw''.out];clear hw hT)
         | (go_at_call 59;(with_reducible refine hW.out.mono ?_);rintro e w9 ⟨rfl,FF8,v8⟩))
        go_roundw
        case rel => exact ⟨i + 1,k,_,FF8,by go_num,by go_num,by omega,hid (by have:=Hik.out;omega),HRN,OK2,T2,by show r.n + 1 ≤ i + 1;omega,L2,hid (EV.out.trans v8)⟩
        case measure => have:=Hik.out;simp [intOf];omega
    · have u0 : (r.s.rdC false i != 0) = true:=by simpa using hz
      have hlo:=hid (plose_false EV.out.held OKr.out (by have:=Tr.out;show r.s.T < 999990;omega))
      have HLf:=hid fun (w1 : World) (FF2 : Bool → List Nat) (h1 : Held w1 (l ++ mirX pbs m db ib d FF2 (MS.lose ⟨r.s,M.c0,M.c1,M.g⟩ false))) => pleft_any h1
      have HM:=hid (show M.rsMain false (RS.run false (L - 1) 1 ⟨M.s,0⟩) = (MS.lose ⟨r.s,M.c0,M.c1,M.g⟩ false,r.n,(MS.lose ⟨r.s,M.c0,M.c1,M.g⟩ false).leftC) by rw [Hrun.out,RS.run,if_neg hz];rfl)
      rw [show (MS.mk r.s M.c0 M.c1 M.g).s = r.s from rfl] at hR
      generalize MS.lose ⟨r.s,M.c0,M.c1,M.g⟩ false = ML at *
      generalize r.s.rdC false i = c at *
      generalize r.s.rdS false i = S1 at *
      clear hz hik
      go_wp2_with (first
       | (go_at_call 93;(with_reducible refine hR.out.mono ?_);rintro e w7 ⟨rfl,hw⟩;have hw':=hid hw;rw [hw'.out];clear hw hR)
       | (go_at_call 103;refine hlo.out.mono ?_;rintro e w8 ⟨rfl,FF8,v8⟩;have E8:=hid (EV.out.trans v8);have hlf:=HLf.out _ _ E8.out.held;clear HLf v8)
       | (go_at_call 106;refine hlf.mono ?_;rintro e w9 ⟨rfl,hw⟩;have hw'':=hid hw;rw [hw''.out];clear hw))
      go_ret2
      rw [HM.out]
      exact ⟨rfl,FF8,E8.out⟩
theorem presync_main_true (h : Held w (l ++ mirX pbs m db ib d FF M)) (ok : SysOk M.s) (ht : M.s.T + 2 * M.s.len true < 998800) (h0 : M.c0 = false) (hc : M.c true = true) (hd : (M.s.X false).Dead = false) :
 Calls Tryz.prog 75 #[.pointer (some ⟨m,0,none⟩)] w fun e w' => e = .returned (.tuple #[.int .i64 ((M.rsF true).2.1 : Int),.int .i64 (M.rsF true).2.2]) ∧ ∃ FF',Ev w (l ++ mirX pbs m db ib d FF M) w' (l ++ mirX pbs m db ib d FF' (M.rsF true).1):=by
 have HL:=hid (plost_any h)
 have ha : M.any = true:=by
  have hc':=hc
  unfold MS.c at hc'
  simp at hc'
  unfold MS.any
  simp [hc']
 rw [ha] at HL
 obtain ⟨b0,b1,i1,i2,i3,n0,n1,q0,q1⟩:=pis h
 obtain ⟨ka,ca,p0,p1,p2,p3⟩:=pfacts false h ok
 obtain ⟨kb,kc,_,y3⟩:=psee false h ok
 rw [hd] at y3
 rw [h0] at n0
 simp only [Bool.not_true,Bool.not_false] at n0
 have E0:=hid (Ev.refl h)
 have hRS : M.rsF true = M.rsMain true (RS.run true (M.s.len true - 1) 1 ⟨M.s,0⟩):=by unfold MS.rsF;rw [show (!true) = false from rfl,if_neg (by rw [hd];decide)]
 rw [hRS]
 have OK:=hid ok
 have HT:=hid ht
 have HLp:=hid (len_pos ok true)
 obtain ⟨L,hL⟩ : ∃ L,M.s.len true = L:=⟨_,rfl⟩
 rw [hL] at HT HLp ⊢
 have HLe:=hid hL
 clear h ok ht h0 hc hd ha n1 q0 q1 hL hRS p3
 go_enter Tryz.func75,Tryz.ntmps75
 go_wp2_with (go_at_call 102;refine HL.out.mono ?_;rintro e w1 ⟨rfl,e1⟩;have e1':=hid e1;rw [e1'.out];clear e1 HL)
 clear i1 i2 i3 p0 p1 p2 y3 n0
 go_loopw [6,7] (fun nv iv wr => ∃ (i k : Nat) (r : RS) (FF' : Bool → List Nat),iv = .int .i64 (i : Int) ∧ nv = .int .i64 (r.n : Int) ∧ 1 ≤ i ∧ Hid (i + k = L) ∧ Hid (RS.run true (L - 1) 1 ⟨M.s,0⟩ = RS.run true k i r) ∧ Hid (SysOk r.s) ∧ Hid (r.s.T + 2 * k < 998850) ∧ r.n ≤ i ∧ Hid (r.s.len true = L) ∧ Hid (Ev w (l ++ mirX pbs m db ib d FF M) wr (l ++ mirX pbs m db ib d FF' { M with s:=r.s }))) (fun _ iv _ => L - (intOf iv).toNat)
 case atStart => exact ⟨1,L - 1,⟨M.s,0⟩,FF,rfl,rfl,Nat.le_refl _,hid (by have:=HLp.out;omega),hid rfl,OK,hid (by have:=HT.out;show M.s.T + 2 * (L - 1) < 998850;omega),Nat.zero_le _,HLe,E0⟩
 case round =>
  obtain ⟨i,k,r,FF1,rfl,rfl,h1,Hik,Hrun,OKr,Tr,hn,Hlr,EV⟩:=hrel
  have hLe:=HLp.out.2
  have hik:=Hik.out
  obtain ⟨ka,ca,p0,p1,p2,p3⟩:=pfacts true EV.out.held OKr.out
  rw [show (MS.mk r.s M.c0 M.c1 M.g).s.len true = r.s.len true from rfl,Hlr.out] at p3
  clear E0
  cases k with
  | zero =>
    have hd : decide ((i : Int) < (L : Int)) = false:=by simp;omega
    have hdn : decide (i < L) = false:=by simp;omega
    have hadd : ∀ t,binOp .add t (W64 M.g) (.int .u64 1) = pure (W64 (M.g + 1)):=fun t => add_u64 t M.g 1
    have HM:=hid (show M.rsMain true (RS.run true (L - 1) 1 ⟨M.s,0⟩) = ((MS.rsEnd ⟨r.s,M.c0,M.c1,M.g⟩ true).1,r.n,(MS.rsEnd ⟨r.s,M.c0,M.c1,M.g⟩ true).2) by rw [Hrun.out];rfl)
    have HE : Hid (MS.rsEnd ⟨r.s,M.c0,M.c1,M.g⟩ true = if (r.s.fl false).wrC true 0 (supS (M.g + 1) ((r.s.fl false).len true)) = 0 then (⟨((((r.s.fl false).wr true 0 (supS (M.g + 1) ((r.s.fl false).len true))).wr false 0 (supS (M.g + 1) ((r.s.fl false).len true))).fl true).fl false,true,true,M.g + 1⟩,0) else (MS.lose ⟨(r.s.fl false).wr true 0 (supS (M.g + 1) ((r.s.fl false).len true)),M.c0,M.c1,M.g + 1⟩ true,(MS.lose ⟨(r.s.fl false).wr true 0 (supS (M.g + 1) ((r.s.fl false).len true)),M.c0,M.c1,M.g + 1⟩ true).leftC)):=hid rfl
    have OK2:=hid ((fl_stp r.s false).ok OKr.out)
    have T2 : Hid ((r.s.fl false).T < 998900):=hid (by have:=(fl_stp r.s false).T OKr.out;have:=Tr.out;omega)
    have hf1:=hid (pF false EV.out.held OKr.out (by have:=Tr.out;show r.s.T < 1000000;omega))
    rw [show (MS.mk r.s M.c0 M.c1 M.g).s = r.s from rfl] at hf1
    generalize r.s.fl false = S2 at *
    have HU:=hid fun w1 : World => rsuper_any (w:=w1) (M.g + 1) (S2.len true) (len_pos OK2.out true).2
    have HPF:=hid fun (w1 : World) (FF2 : Bool → List Nat) (h1 : Held w1 (l ++ mirX pbs m db ib d FF2 ⟨S2,M.c0,M.c1,M.g + 1⟩)) => pfacts true h1 OK2.out
    have HW2:=hid fun (w1 : World) (FF2 : Bool → List Nat) (h1 : Held w1 (l ++ mirX pbs m db ib d FF2 ⟨S2,M.c0,M.c1,M.g + 1⟩)) => pW true h1 OK2.out (Nat.lt_of_lt_of_le T2.out (by decide)) 0 (supS (M.g + 1) (S2.len true)) (by rw [supS_size];decide)
    have OK3:=hid ((wr_stp S2 true 0 (supS (M.g + 1) (S2.len true))).ok OK2.out)
    have T3 : Hid ((S2.wr true 0 (supS (M.g + 1) (S2.len true))).T < 998910):=hid (by have:=(wr_stp S2 true 0 (supS (M.g + 1) (S2.len true))).T OK2.out;have:=T2.out;omega)
    have hsz:=supS_size (M.g + 1) (S2.len true)
    rw [show (MS.mk S2 M.c0 M.c1 (M.g + 1)).s.len true = S2.len true from rfl] at HPF
    generalize supS (M.g + 1) (S2.len true) = Z at *
    generalize S2.len true = n2 at *
    have HKD:=hid fun (w1 : World) (FF2 : Bool → List Nat) (S : Sys) (g : UInt64) (h1 : Held w1 (l ++ mirX pbs m db ib d FF2 ⟨S,M.c0,M.c1,g⟩)) => And.intro ((xir_blk h1).cell 0) (And.intro ((xir_dbl h1).cell 0) ((xir_dbl h1).cell 1))
    clear hik Hlr Hrun
    go_wp2_with (first
     | (go_at_call 60;(with_reducible refine hf1.out.mono ?_);rintro e w7 ⟨rfl,FF7,v7⟩;have E7:=hid (EV.out.trans v7);have b7:=xir_blk E7.out.held;have k7 : w7.cell? ⟨m,2,none⟩ = some (W64 M.g):=b7.cell 2;clear v7)
     | (refine wpList_put rfl _ _ _ rfl rfl (W64 (M.g + 1)) rfl rfl b7 (by simp [gmL]) (by kernel_rfl) ?_;intro w8 f8 b8 hs8;have E8:=hid (xir_gen E7.out f8 (g:=M.g + 1) b8);clear b7 k7 b8 f8;simp only [aA,aB,Act.put,aC,aD,aE]))
    have E9:=hid (show Ev w (l ++ mirX pbs m db ib d FF M) w8.drew (l ++ mirX pbs m db ib d FF7 ⟨S2,M.c0,M.c1,M.g + 1⟩) from E8.out.step (Fr.refl [] w8).drew)
    obtain ⟨ja,jc,j0,j1,j2,j3⟩:=HPF.out _ _ E9.out.held
    have j4 : w8.drew.cell? ⟨m,2,none⟩ = some (W64 (M.g + 1)):=(xir_blk E9.out.held).cell 2
    clear hf1 hd hdn p0 p1 p2 p3
    refine wp_region_D (fun _ => True) false [] (by kernel_rfl) ?_
    refine WD.pure [0,1,2,3,4,5,6,7,8,9,10,11,12,13,14] (by kernel_rfl) trivial ?_
    simp only [pick,aF,aG,aI,aJ,aK]
    repeat (first | go_big_quiet_step (fail))
    refine wpQuiet_nil ?_
    refine WD.eff 15 (by kernel_rfl) ?_
    simp only [pick,aF,aG,aI,aJ,aK]
    go_wp2_with (go_at_call 58;refine (HU.out _).mono ?_;rintro e w11 ⟨rfl,f11⟩)
    have E11:=hid (E9.out.step f11)
    obtain ⟨z0,z1,z2⟩:=HKD.out _ _ _ _ E11.out.held
    clear j0 j1 j2 j3 j4
    have z0' : w11.cell? ⟨m,0,none⟩ = some (.slice (some ⟨db,0,none⟩) 2 2):=z0
    have z1' : w11.cell? ⟨db,0,none⟩ = some (.pointer (some ⟨d false,0,none⟩)):=z1
    have z2' : w11.cell? ⟨db,1,none⟩ = some (.pointer (some ⟨d true,0,none⟩)):=z2
    clear z0 z1 z2
    try refine wpList_nil ?_
    refine AfterD.on trivial (by kernel_rfl) ?_
    try simp only [aA,aB,Act.put,aC,aD,aE]
    refine WD.pure [16] (by kernel_rfl) trivial ?_
    simp only [pick,aF,aG,aI,aJ,aK]
    repeat (first | go_big_quiet_step (fail))
    refine wpQuiet_nil ?_
    refine WD.done (by kernel_rfl) ?_
    have hW2:=hid (HW2.out _ _ E11.out.held)
    clear HW2 HU
    by_cases he : S2.wrC true 0 Z = 0
    · have HX:=hid (HM.out.trans (by rw [HE.out.trans (if_pos he)]))
      have OK4:=hid ((wr_stp (S2.wr true 0 Z) false 0 Z).ok OK3.out)
      have T4 : Hid (((S2.wr true 0 Z).wr false 0 Z).T < 998920):=hid (by have:=(wr_stp (S2.wr true 0 Z) false 0 Z).T OK3.out;have:=T3.out;omega)
      have OK5:=hid ((fl_stp ((S2.wr true 0 Z).wr false 0 Z) true).ok OK4.out)
      have T5 : Hid ((((S2.wr true 0 Z).wr false 0 Z).fl true).T < 998930):=hid (by have:=(fl_stp ((S2.wr true 0 Z).wr false 0 Z) true).T OK4.out;have:=T4.out;omega)
      have HW3:=hid fun (w1 : World) (FF2 : Bool → List Nat) (h1 : Held w1 (l ++ mirX pbs m db ib d FF2 ⟨S2.wr true 0 Z,M.c0,M.c1,M.g + 1⟩)) => pW false h1 OK3.out (Nat.lt_of_lt_of_le T3.out (by decide)) 0 Z (by rw [hsz];decide)
      have HF4:=hid fun (w1 : World) (FF2 : Bool → List Nat) (h1 : Held w1 (l ++ mirX pbs m db ib d FF2 ⟨(S2.wr true 0 Z).wr false 0 Z,M.c0,M.c1,M.g + 1⟩)) => pF true h1 OK4.out (Nat.lt_of_lt_of_le T4.out (by decide))
      have HF5:=hid fun (w1 : World) (FF2 : Bool → List Nat) (h1 : Held w1 (l ++ mirX pbs m db ib d FF2 ⟨((S2.wr true 0 Z).wr false 0 Z).fl true,M.c0,M.c1,M.g + 1⟩)) => pF false h1 OK5.out (Nat.lt_of_lt_of_le T5.out (by decide))
      rw [he] at hW2
      clear HE he HM hsz
      go_wp2_with (first
       | (go_at_call 59;(with_reducible refine hW2.out.mono ?_);rintro e w12 ⟨rfl,FF12,v12⟩;have E12:=hid (E11.out.trans v12);have hW3:=hid (HW3.out _ _ E12.out.held);obtain ⟨y0,y1,y2⟩:=HKD.out _ _ _ _ E12.out.held;have y0' : w12.cell? ⟨m,0,none⟩ = some (.slice (some ⟨db,0,none⟩) 2 2):=y0;have y1' : w12.cell? ⟨db,0,none⟩ = some (.pointer (some ⟨d false,0,none⟩)):=y1;have y2' : w12.cell? ⟨db,1,none⟩ = some (.pointer (some ⟨d true,0,none⟩)):=y2;clear hW2 v12 y0 y1 y2)
       | (go_at_call 59;(with_reducible refine hW3.out.mono ?_);rintro e w13 ⟨rfl,FF13,v13⟩;have E13:=hid (E12.out.trans v13);have hF4:=hid (HF4.out _ _ E13.out.held);obtain ⟨x0,x1,x2⟩:=HKD.out _ _ _ _ E13.out.held;have x0' : w13.cell? ⟨m,0,none⟩ = some (.slice (some ⟨db,0,none⟩) 2 2):=x0;have x1' : w13.cell? ⟨db,0,none⟩ = some (.pointer (some ⟨d false,0,none⟩)):=x1;have x2' : w13.cell? ⟨db,1,none⟩ = some (.pointer (some ⟨d true,0,none⟩)):=x2;clear hW3 v13 x0 x1 x2)
       | (go_at_call 60;(with_reducible refine hF4.out.mono ?_);rintro e w14 ⟨rfl,FF14,v14⟩;have E14:=hid (E13.out.trans v14);have hF5:=hid (HF5.out _ _ E14.out.held);obtain ⟨u0,u1,u2⟩:=HKD.out _ _ _ _ E14.out.held;have u0' : w14.cell? ⟨m,0,none⟩ = some (.slice (some ⟨db,0,none⟩) 2 2):=u0;have u1' : w14.cell? ⟨db,0,none⟩ = some (.pointer (some ⟨d false,0,none⟩)):=u1;have u2' : w14.cell? ⟨db,1,none⟩ = some (.pointer (some ⟨d true,0,none⟩)):=u2;clear hF4 v14 u0 u1 u2)
       | (go_at_call 60;(with_reducible refine hF5.out.mono ?_);rintro e w15 ⟨rfl,FF15,v15⟩;have E15:=hid (E14.out.trans v15);obtain ⟨c0,c1,b15,_,_⟩:=xir_is E15.out.held;have i15 : w15.cell? ⟨m,1,none⟩ = some (.slice (some ⟨ib,0,none⟩) 2 2):=(xir_blk E15.out.held).cell 1;have HI15:=hid fun (w2 : World) (f : Fr [ib] w15 w2) => f;clear hF5 v15)
       | (refine wpList_put rfl _ _ _ rfl rfl (.int .i64 0) rfl rfl b15 (by simp) (by kernel_rfl) ?_;intro w16 f16 b16 hs16;have b16' : Blk w16 ib [.int .i64 0,.int .i64 c1]:=b16;have E16:=hid (xir_put (M':=⟨(((S2.wr true 0 Z).wr false 0 Z).fl true).fl false,true,decide (c1 = 0),M.g + 1⟩) E15.out f16 b16' rfl rfl rfl rfl);have i16 : w16.cell? ⟨m,1,none⟩ = some (.slice (some ⟨ib,0,none⟩) 2 2):=(xir_blk E16.out.held).cell 1;clear b15 b16 f16;simp only [aA,aB,Act.put,aC,aD,aE])
       | (refine wpList_put rfl _ _ _ rfl rfl (.int .i64 0) rfl rfl b16' (by simp) (by kernel_rfl) ?_;intro w17 f17 b17 hs17;have b17' : Blk w17 ib [.int .i64 0,.int .i64 0]:=b17;have E17:=hid (xir_put (M':=⟨(((S2.wr true 0 Z).wr false 0 Z).fl true).fl false,true,true,M.g + 1⟩) E16.out f17 b17' rfl rfl rfl rfl);clear b17 b16' f17;simp only [aA,aB,Act.put,aC,aD,aE]))
      go_ret2
      rw [HX.out]
      exact ⟨rfl,FF15,E17.out⟩
    · have u0 : (S2.wrC true 0 Z != 0) = true:=by simpa using he
      have HX:=hid (HM.out.trans (by rw [HE.out.trans (if_neg he)]))
      have HLo:=hid fun (w1 : World) (FF2 : Bool → List Nat) (h1 : Held w1 (l ++ mirX pbs m db ib d FF2 ⟨S2.wr true 0 Z,M.c0,M.c1,M.g + 1⟩)) => plose_true h1 OK3.out (Nat.lt_of_lt_of_le T3.out (by decide))
      have HLf:=hid fun (w1 : World) (FF2 : Bool → List Nat) (h1 : Held w1 (l ++ mirX pbs m db ib d FF2 (MS.lose ⟨S2.wr true 0 Z,M.c0,M.c1,M.g + 1⟩ true))) => pleft_any h1
      clear HE he HM
      generalize MS.lose ⟨S2.wr true 0 Z,M.c0,M.c1,M.g + 1⟩ true = ML at *
      generalize S2.wrC true 0 Z = c at *
      go_wp2_with (first
       | (go_at_call 59;(with_reducible refine hW2.out.mono ?_);rintro e w12 ⟨rfl,FF12,v12⟩;have E12:=hid (E11.out.trans v12);have hlo:=hid (HLo.out _ _ E12.out.held);clear hW2 v12)
       | (go_at_call 103;refine hlo.out.mono ?_;rintro e w13 ⟨rfl,FF13,v13⟩;have E13:=hid (E12.out.trans v13);have hlf:=hid (HLf.out _ _ E13.out.held);clear hlo v13)
       | (go_at_call 106;refine hlf.out.mono ?_;rintro e w14 ⟨rfl,hw⟩;have hw':=hid hw;rw [hw'.out];clear hw))
      go_ret2
      rw [HX.out]
      exact ⟨rfl,FF13,E13.out⟩
  | succ k =>
    have hd : decide ((i : Int) < (L : Int)) = true:=by simp;omega
    have hdn : decide (i < L) = true:=by simp;omega
    have hR:=hid (xR' true EV.out.held OKr.out (by have:=Tr.out;show r.s.T < 1000000;omega) (i : Int))
    have hi4 : (i : Int) ≤ 16384:=by omega
    have hn4 : (r.n : Int) ≤ 16384:=by omega
    by_cases hz : r.s.rdC true i = 0
    · have hT:=hid (xR' false EV.out.held OKr.out (by have:=Tr.out;show r.s.T < 1000000;omega) (i : Int))
      have HRN:=hid (show RS.run true (L - 1) 1 ⟨M.s,0⟩ = RS.run true k (i + 1) (r.step true i) by rw [Hrun.out,RS.run,if_pos hz])
      have OK2:=hid ((step_stp r true i).ok OKr.out)
      have T2 : Hid ((r.step true i).s.T + 2 * k < 998850):=hid (by have:=(step_stp r true i).T OKr.out;have:=Tr.out;omega)
      have L2 : Hid ((r.step true i).s.len true = L):=hid (((step_stp r true i).len OKr.out true).trans Hlr.out)
      have hW:=hid (pW false EV.out.held OKr.out (by have:=Tr.out;show r.s.T < 1000000;omega) (i : Int) (r.s.rdS true i) (Nat.le_trans (Nat.le_of_eq (mt_rd_size (OKr.out.g true) _ _ hz)) (by decide)))
      have hst : RS.step r true i = if r.s.rdS true i = r.s.rdS false i then r else ⟨r.s.wr false i (r.s.rdS true i),r.n + 1⟩:=rfl
      rw [show (MS.mk r.s M.c0 M.c1 M.g).s = r.s from rfl] at hR hT hW
      rw [hz] at hR
      by_cases he : r.s.rdS true i = r.s.rdS false i
      · have hne : ((r.s.rdS true i).toList == (r.s.rdS false i).toList) = true:=by rw [mt_beq];exact decide_eq_true he
        rw [if_pos he] at hst
        rw [hst] at HRN OK2 T2 L2
        generalize r.s.rdS true i = S1 at *
        generalize r.s.rdS false i = S2 at *
        clear hW hz he hst hik
        go_wp2_with (first
         | (go_at_call 93;(with_reducible refine hR.out.mono ?_);rintro e w7 ⟨rfl,hw⟩;have hw':=hid hw;rw [hw'.out];clear hw hR)
         | (go_at_call 93;(with_reducible refine hT.out.mono ?_);rintro e w8 ⟨rfl,hw⟩;have hw'':=hid hw;rw [hw''.out];clear hw hT))
        go_roundw
        case rel => exact ⟨i + 1,k,r,FF1,by go_num,rfl,by omega,hid (by have:=Hik.out;omega),HRN,OK2,T2,by omega,L2,EV⟩
        case measure => have:=Hik.out;simp [intOf];omega
      · have hne : ((r.s.rdS true i).toList == (r.s.rdS false i).toList) = false:=by rw [mt_beq];exact decide_eq_false he
        rw [if_neg he] at hst
        rw [hst] at HRN OK2 T2 L2
        generalize r.s.rdS true i = S1 at *
        generalize r.s.rdS false i = S2 at *
        clear hz he hst hik
        go_wp2_with (first
         | (go_at_call 93;(with_reducible refine hR.out.mono ?_);rintro e w7 ⟨rfl,hw⟩;have hw':=hid hw;rw [hw'.out];clear hw hR)
         | (go_at_call 93;(with_reducible refine hT.out.mono ?_);rintro e w8 ⟨rfl,hw⟩;have hw'':=hid hw;rw [hw''.out];clear hw hT)
         | (go_at_call 59;(with_reducible refine hW.out.mono ?_);rintro e w9 ⟨rfl,FF8,v8⟩))
        go_roundw
        case rel => exact ⟨i + 1,k,_,FF8,by go_num,by go_num,by omega,hid (by have:=Hik.out;omega),HRN,OK2,T2,by show r.n + 1 ≤ i + 1;omega,L2,hid (EV.out.trans v8)⟩
        case measure => have:=Hik.out;simp [intOf];omega
    · have u0 : (r.s.rdC true i != 0) = true:=by simpa using hz
      have hlo:=hid (plose_true EV.out.held OKr.out (by have:=Tr.out;show r.s.T < 999990;omega))
      have HLf:=hid fun (w1 : World) (FF2 : Bool → List Nat) (h1 : Held w1 (l ++ mirX pbs m db ib d FF2 (MS.lose ⟨r.s,M.c0,M.c1,M.g⟩ true))) => pleft_any h1
      have HM:=hid (show M.rsMain true (RS.run true (L - 1) 1 ⟨M.s,0⟩) = (MS.lose ⟨r.s,M.c0,M.c1,M.g⟩ true,r.n,(MS.lose ⟨r.s,M.c0,M.c1,M.g⟩ true).leftC) by rw [Hrun.out,RS.run,if_neg hz];rfl)
      rw [show (MS.mk r.s M.c0 M.c1 M.g).s = r.s from rfl] at hR
      generalize MS.lose ⟨r.s,M.c0,M.c1,M.g⟩ true = ML at *
      generalize r.s.rdC true i = c at *
      generalize r.s.rdS true i = S1 at *
      clear hz hik
      go_wp2_with (first
       | (go_at_call 93;(with_reducible refine hR.out.mono ?_);rintro e w7 ⟨rfl,hw⟩;have hw':=hid hw;rw [hw'.out];clear hw hR)
       | (go_at_call 103;refine hlo.out.mono ?_;rintro e w8 ⟨rfl,FF8,v8⟩;have E8:=hid (EV.out.trans v8);have hlf:=HLf.out _ _ E8.out.held;clear HLf v8)
       | (go_at_call 106;refine hlf.mono ?_;rintro e w9 ⟨rfl,hw⟩;have hw'':=hid hw;rw [hw''.out];clear hw))
      go_ret2
      rw [HM.out]
      exact ⟨rfl,FF8,E8.out⟩
theorem presync_any (h : Held w (l ++ mirX pbs m db ib d FF M)) (ok : SysOk M.s) (ht : M.s.T + 2 * M.s.len (!M.c0) < 998800) :
 Calls Tryz.prog 75 #[.pointer (some ⟨m,0,none⟩)] w fun e w' => e = .returned (.tuple #[.int .i64 (M.rs.2.1 : Int),.int .i64 M.rs.2.2]) ∧ ∃ FF',Ev w (l ++ mirX pbs m db ib d FF M) w' (l ++ mirX pbs m db ib d FF' M.rs.1):=by
 cases ha : M.any with
 | false =>
   have e1 : M.rs = (M,0,70):=by unfold MS.rs;rw [if_neg (by rw [ha];decide)]
   rw [e1]
   refine (presync_lost h ha).mono ?_
   rintro e w' ⟨rfl,rfl⟩
   exact ⟨rfl,FF,Ev.refl h⟩
 | true =>
   have hc : M.c (!M.c0) = true:=by
    unfold MS.any at ha
    cases h0 : M.c0
    · rw [h0] at ha;exact ha
    · exact h0
   have e1 : M.rs = M.rsF (!M.c0):=by unfold MS.rs;rw [if_pos ha]
   rw [e1]
   cases h0 : M.c0 with
   | true =>
     rw [h0] at hc ht
     simp only [Bool.not_true] at hc ht ⊢
     cases hd : (M.s.X true).Dead with
     | true =>
       have e2 : M.rsF false = (M.rsDead false,0,(M.rsDead false).leftC):=by unfold MS.rsF;exact if_pos hd
       rw [e2]
       exact presync_dead_false h ok (by omega) h0 hc hd
     | false => exact presync_main_false h ok ht h0 hc hd
   | false =>
     rw [h0] at hc ht
     simp only [Bool.not_false] at hc ht ⊢
     cases hd : (M.s.X false).Dead with
     | true =>
       have e2 : M.rsF true = (M.rsDead true,0,(M.rsDead true).leftC):=by unfold MS.rsF;exact if_pos hd
       rw [e2]
       exact presync_dead_true h ok (by omega) h0 hc hd
     | false => exact presync_main_true h ok ht h0 hc hd
end
def Sys.re (s : Sys) (b : Bool) (X : XD) (k : Option Nat) : Sys:=⟨if b then s.X0 else X,if b then X else s.X1,if b then s.k0 else k,if b then k else s.k1,s.L⟩
def Sys.crash (s : Sys) (b : Bool) (ks : List Bool) : Sys:=s.re b (crX (s.X b) ks) none
def Sys.more (s : Sys) (n : Nat) : Sys:={ s with L:=s.L ++ [n] }
def Sys.ta (s : Sys) (b : Bool) (I : Int) (S : ByteArray) : Sys:=s.put b (taX (s.X b) (s.lf b) I S) (s.lf b)
theorem re_X (s : Sys) (b : Bool) (X : XD) (k : Option Nat) (c : Bool) : (s.re b X k).X c = if c = b then X else s.X c:=by cases b <;> cases c <;> rfl
theorem re_k (s : Sys) (b : Bool) (X : XD) (k : Option Nat) (c : Bool) : (s.re b X k).k c = if c = b then k else s.k c:=by cases b <;> cases c <;> rfl
theorem re_ok {s : Sys} {b : Bool} {X : XD} {k : Option Nat} (ok : SysOk s) (hX : XGood X) (hk : ∀ j,k = some j → j < s.L.length) : SysOk (s.re b X k):=by
 refine ⟨fun c => ?_,fun c j h => ?_⟩
 · rw [re_X]
   split
   · exact hX
   · exact ok.g c
 · rw [re_k] at h
   show j < s.L.length
   split at h
   · exact hk j h
   · exact ok.k c j h
theorem re_T {s : Sys} {b : Bool} {X : XD} {k : Option Nat} (h : X.L.length + X.Trace.length ≤ (s.X b).L.length + (s.X b).Trace.length) : (s.re b X k).T ≤ s.T:=by
 cases b
 · unfold Sys.T;simp only [Sys.re,Sys.X] at h ⊢;simp at h ⊢;omega
 · unfold Sys.T;simp only [Sys.re,Sys.X] at h ⊢;simp at h ⊢;omega
theorem re_len {s : Sys} {b : Bool} {X : XD} {k : Option Nat} (h : X.Kept.length = (s.X b).Kept.length) (c : Bool) : (s.re b X k).len c = s.len c:=by
 unfold Sys.len
 rw [re_X]
 split
 · rename_i e;rw [e,h]
 · rfl
structure Out (s s' : Sys) : Prop where
 ok : SysOk s'
 T : s'.T ≤ s.T
 len : ∀ c,s'.len c = s.len c
theorem crash_out {s : Sys} (ok : SysOk s) (b : Bool) (ks : List Bool) : Out s (s.crash b ks):=by
 obtain ⟨g1,g2,g3,g4⟩:=cr_good (ok.g b) ks
 exact ⟨re_ok ok g1 (fun j h => by cases h),re_T (by rw [g4];omega),re_len g2⟩
section
variable {w w' w0 : World} {l rs : List Res} {pbs : List Nat} {m db ib p n : Nat} {s : Sys} {M M' : MS} {d : Bool → Nat} {FF FF' : Bool → List Nat} {X' : XD} {k' : Option Nat} {F' : List Nat}
theorem dk_one (b : Bool) (h : Held w (l ++ sysC pbs s d FF)) : Held w [dk (d b) (s.X b) pbs (s.k b) (FF b)]:=by
 have h2 : Held w (sysC pbs s d FF):=Held.part l [] (by simpa using h)
 cases b
 · exact h2.pick [1] (by decide) rfl
 · exact h2.pick [2] (by decide) rfl
theorem dk_set (b : Bool) (h : Held w (l ++ sysC pbs s d FF)) (ev : Ev w [dk (d b) (s.X b) pbs (s.k b) (FF b)] w' [dk (d b) X' pbs k' F']) :
 Ev w (l ++ sysC pbs s d FF) w' (l ++ sysC pbs (s.re b X' k') d (fun c => if c = b then F' else FF c)):=by
 cases b
 · have:=Ev.part (l ++ [Res.pows pbs s.L]) [dk (d true) (s.X true) pbs (s.k true) (FF true)] (by rw [List.append_assoc,List.append_assoc];exact h) ev
   rw [List.append_assoc,List.append_assoc,List.append_assoc,List.append_assoc] at this
   exact this
 · have:=Ev.part (l ++ [Res.pows pbs s.L,dk (d false) (s.X false) pbs (s.k false) (FF false)]) [] (by rw [List.append_nil,List.append_assoc];exact h) ev
   rw [List.append_nil,List.append_nil,List.append_assoc,List.append_assoc] at this
   exact this
theorem xdk_one (b : Bool) (h : Held w (l ++ sysX pbs s d FF)) : Held w [xdk (d b) (s.X b) pbs (s.k b) (FF b)]:=by
 have h2 : Held w (sysX pbs s d FF):=Held.part l [] (by simpa using h)
 cases b
 · exact h2.pick [1] (by decide) rfl
 · exact h2.pick [2] (by decide) rfl
theorem xdk_set (b : Bool) (h : Held w (l ++ sysX pbs s d FF)) (ev : Ev w [xdk (d b) (s.X b) pbs (s.k b) (FF b)] w' [xdk (d b) X' pbs k' F']) :
 Ev w (l ++ sysX pbs s d FF) w' (l ++ sysX pbs (s.re b X' k') d (fun c => if c = b then F' else FF c)):=by
 cases b
 · have:=Ev.part (l ++ [Res.pows pbs s.L]) [xdk (d true) (s.X true) pbs (s.k true) (FF true)] (by rw [List.append_assoc,List.append_assoc];exact h) ev
   rw [List.append_assoc,List.append_assoc,List.append_assoc,List.append_assoc] at this
   exact this
 · have:=Ev.part (l ++ [Res.pows pbs s.L,xdk (d false) (s.X false) pbs (s.k false) (FF false)]) [] (by rw [List.append_nil,List.append_assoc];exact h) ev
   rw [List.append_nil,List.append_nil,List.append_assoc,List.append_assoc] at this
   exact this
theorem dk_ev {d : Nat} {X X' : XD} {k k' : Option Nat} {F F' : List Nat} (h : Held w [dk d X pbs k F]) (f : Fr F w w') (o : (dk d X' pbs k' F').On w') (hF : ∀ y ∈ F',y ∈ F ∨ w.heap.size ≤ y) : Ev w [dk d X pbs k F] w' [dk d X' pbs k' F'] :=
 (Ev.refl h).at 0 rfl f (fun b hb => .inl hb) o hF
theorem xdk_ev {d : Nat} {X X' : XD} {k k' : Option Nat} {F F' : List Nat} (h : Held w [xdk d X pbs k F]) (f : Fr F w w') (o : (xdk d X' pbs k' F').On w') (hF : ∀ y ∈ F',y ∈ F ∨ w.heap.size ≤ y) : Ev w [xdk d X pbs k F] w' [xdk d X' pbs k' F'] :=
 (Ev.refl h).at 0 rfl f (fun b hb => .inl hb) o hF
theorem sCrash (b : Bool) (h : Held w (l ++ sysC pbs s d FF)) (ok : SysOk s) (ht : s.T < 1000000) {v : Value} {ks : List Bool} {KB : Option Nat} (hk : Rc w 1 v ks.length (ks.map .bool) KB) (hKB : ∀ x,KB = some x → x ∉ FF b) (hkl : ks.length ≤ maxLen) :
 Calls Tryz.prog 11 #[.pointer (some ⟨d b,0,none⟩),v] w fun e w' => e = .returned (.int .i64 (if (s.X b).Dead then 60 else 0)) ∧ ∃ FF',Ev w (l ++ sysC pbs s d FF) w' (l ++ sysC pbs (s.crash b ks) d FF'):=by
 have hp:=sys_part b h
 have hT:=T_le s b
 have hr:=Held.rep (one_op hp (ok.k b))
 have h1:=dk_one b h
 have hpl:=(h1.at 0 rfl).2
 unfold Sys.crash
 cases hd : (s.X b).Dead with
 | true =>
   have e : crX (s.X b) ks = s.X b:=by unfold crX;rw [if_pos hd]
   rw [e]
   refine (crash_dead hr v hd).mono ?_
   rintro e w' ⟨rfl,hr',f⟩
   exact ⟨rfl,_,dk_set b h (dk_ev h1 f (On.dk (lf:=none) hr' rfl (f.plain _ hpl)) (fun y hy => .inl hy))⟩
 | false =>
   have e : crX (s.X b) ks = { s.X b with Kept:=setX (s.X b).Kept (keptL (s.X b).L ks),L:=[] }:=by unfold crX;rw [if_neg (by rw [hd];decide)]
   rw [e]
   refine (crash_ok hr hd (by simp [dOf];omega) hk hKB hkl).mono ?_
   rintro e w' ⟨rfl,F',hr',f,hF⟩
   rw [dOf_crash] at hr'
   exact ⟨rfl,_,dk_set b h (dk_ev h1 f (On.dk (lf:=none) hr' rfl (f.plain _ hpl)) hF)⟩
theorem xCrash (b : Bool) (h : Held w (l ++ sysX pbs s d FF)) (ok : SysOk s) (ht : s.T < 1000000) {v : Value} {ks : List Bool} {KB : Option Nat} (hk : Rc w 1 v ks.length (ks.map .bool) KB) (hKB : ∀ x,KB = some x → x ∉ FF b) (hkl : ks.length ≤ 9223372036854775807) :
 Calls Tryz.prog 12 #[.pointer (some ⟨d b,0,none⟩),v] w fun e w' => e = .returned (.int .i64 (if (s.X b).Dead then 60 else 0)) ∧ ∃ FF',Ev w (l ++ sysX pbs s d FF) w' (l ++ sysX pbs (s.crash b ks) d FF'):=by
 have hp:=xys_part b h
 have hT:=T_le s b
 obtain ⟨i,hF,hx⟩:=xone_op hp (ok.k b)
 have h1:=xdk_one b h
 have hpl:=(h1.at 0 rfl).2
 have g:=ok.g b
 unfold Sys.crash
 cases hd : (s.X b).Dead with
 | true =>
   have e : crX (s.X b) ks = s.X b:=by unfold crX;rw [if_pos hd]
   rw [e]
   refine (xcrash_dead (Held.xpsOf hx) v hd).mono ?_
   rintro e w' ⟨rfl,ev⟩
   have f : Fr (FF b) w w':=by rw [hF];exact ev.fr
   exact ⟨rfl,_,xdk_set b h (xdk_ev h1 f (On.xdk (k:=none) (lf:=none) ev.held rfl (f.plain _ hpl)) (fun y hy => by rw [hF];exact ev.low y hy))⟩
 | false =>
   have e : crX (s.X b) ks = { s.X b with Kept:=setX (s.X b).Kept (keptL (s.X b).L ks),L:=[] }:=by unfold crX;rw [if_neg (by rw [hd];decide)]
   rw [e]
   refine (xcrash_ok (Held.xpsOf hx) hd g.pos g.le (fun p hp => (g.l512 p hp).2) (by omega) hk (by rw [← hF];exact hKB) hkl).mono ?_
   rintro e w' ⟨rfl,i',ev⟩
   have f : Fr (FF b) w w':=by rw [hF];exact ev.fr
   exact ⟨rfl,_,xdk_set b h (xdk_ev h1 f (On.xdk (k:=none) (lf:=none) ev.held rfl (f.plain _ hpl)) (fun y hy => by rw [hF];exact ev.low y hy))⟩
end
section
variable {w w' w0 : World} {l rs : List Res} {pbs : List Nat} {m db ib p n : Nat} {s : Sys} {M M' : MS} {d : Bool → Nat} {FF FF' : Bool → List Nat}
theorem xFail (b : Bool) (h : Held w (l ++ sysX pbs s d FF)) (ok : SysOk s) :
 Calls Tryz.prog 8 #[.pointer (some ⟨d b,0,none⟩)] w fun e w' => e = .returned (.int .i64 0) ∧ ∃ FF',Ev w (l ++ sysX pbs s d FF) w' (l ++ sysX pbs (s.fa b) d FF'):=by
 have hp:=xys_part b h
 obtain ⟨i,hF,hx⟩:=xone_op hp (ok.k b)
 refine (pfail_x hx (ok.g b)).mono ?_
 rintro e w' ⟨rfl,i',ev⟩
 exact ⟨rfl,_,xys_lift b (Ev.refl h) (xone_put hp (ok.k b) (lf_some s b) hF ev)⟩
theorem xReplace (b : Bool) (h : Held w (l ++ sysX pbs s d FF)) (ok : SysOk s) :
 Calls Tryz.prog 10 #[.pointer (some ⟨d b,0,none⟩)] w fun e w' => e = .returned (.int .i64 (if (s.X b).Dead then 0 else 3)) ∧ ∃ FF',Ev w (l ++ sysX pbs s d FF) w' (l ++ sysX pbs (s.rp b) d FF'):=by
 have hp:=xys_part b h
 obtain ⟨i,hF,hx⟩:=xone_op hp (ok.k b)
 refine (preplace_x hx).mono ?_
 rintro e w' ⟨rfl,ev⟩
 exact ⟨rfl,_,xys_lift b (Ev.refl h) (xone_put hp (ok.k b) (lf_some s b) hF ev)⟩
end
attribute [local go_sem] neq_u64 mt_eqg
section
variable {w w' w0 : World} {lc lx : List Res} {pbs qbs : List Nat} {m y db ib : Nat} {s : Sys} {M M' : MS} {d x : Bool → Nat} {FF GG : Bool → List Nat}
end
end Go.Proofs.YtgafefecookgaaaGreat
namespace Go.Proofs.YtgafefecookgaaaGreat
open Go Go.Xr Go.RowKit
section
variable {w w' w0 : World} {l lc lx : List Res} {pbs qbs : List Nat} {m y db ib : Nat} {s : Sys} {M M' : MS} {d x : Bool → Nat} {FF GG : Bool → List Nat}
theorem sTrace (b : Bool) (h : Held w (l ++ sysC pbs s d FF)) (ok : SysOk s) (ht : s.T < 1000000) :
 Calls Tryz.prog 15 #[.pointer (some ⟨d b,0,none⟩)] w fun e w' => (∃ a c B,e = .returned (.slice a (s.X b).Trace.length c) ∧ Rc w' 1 (.slice a (s.X b).Trace.length c) (s.X b).Trace.length ((s.X b).Trace.map (.int .i64)) B) ∧ Fr [] w w':=by
 have hT:=T_le s b
 have hr:=Held.rep (one_op (sys_part b h) (ok.k b))
 refine (trace_any hr (by show (s.X b).Trace.length < 1000000;omega)).mono ?_
 rintro e w' ⟨⟨v,B,rfl,hv⟩,f⟩
 have hv' : Rd w' 1 v (s.X b).Trace.length ((s.X b).Trace.map (.int .i64)) B:=hv
 obtain ⟨a,c,rfl⟩:=hv'.isSlice
 exact ⟨⟨a,c,B,rfl,hv'.rc⟩,f⟩
theorem xsee3 (b : Bool) (h : Held w (l ++ sysX pbs s d FF)) (ok : SysOk s) : ∃ (kb kc : Nat) (a : Option Addr) (c : Nat) (B : Option Nat),w.cell? ⟨d b,0,none⟩ = some (.slice (some ⟨kb,0,none⟩) (s.len b) kc) ∧ w.cell? ⟨d b,2,none⟩ = some (.slice a (s.X b).Trace.length c) ∧ w.cell? ⟨d b,3,none⟩ = some (.bool (s.X b).Dead) ∧ Rc w 1 (.slice a (s.X b).Trace.length c) (s.X b).Trace.length ((s.X b).Trace.map (.int .i64)) B:=by
 have hp:=xys_part b h
 obtain ⟨i,hF,hx⟩:=xone_op hp (ok.k b)
 have hb:=(Held.xpsOf hx).blkAt 0 rfl
 have ho:=(Held.xpsOf hx).at 1 rfl
 have h3 : Xr.Own w 1 i.tv (s.X b).Trace.length ((s.X b).Trace.map (.int .i64)) i.T:=(Held.xpsOf hx).at 3 rfl
 obtain ⟨kb,kc,_,hv,_,_,_⟩:=own_open ho (ok.g b).pos
 obtain ⟨a,c,hv3⟩:=h3.isSlice
 rw [hv] at hb
 have e3:=hv3
 rw [e3] at h3 hb
 exact ⟨kb,kc,a,c,i.T,hb.cell 0,hb.cell 2,hb.cell 3,h3.rd.rc⟩
end
section
variable {w0 w w' : World} {rs B C C' D D' : List Res}
theorem thr_c (a : Ev w0 rs w (B ++ C ++ D)) (e : Ev w C w' C') : Ev w0 rs w' (B ++ C' ++ D):=Ev.then B D a e
theorem thr_d (a : Ev w0 rs w (B ++ C ++ D)) (e : Ev w D w' D') : Ev w0 rs w' (B ++ C ++ D'):=by
 have h:=Ev.then (B ++ C) [] (by rw [List.append_nil];exact a) e
 rw [List.append_nil] at h
 exact h
theorem thr_hc (h : Held w (B ++ C ++ D)) : Held w ([] ++ C):=Held.part B D h
theorem thr_hd (h : Held w (B ++ C ++ D)) : Held w ([] ++ D):=Held.part (B ++ C) [] (by rw [List.append_nil];exact h)
end
section
variable {w w' w0 : World} {lb : List Res} {pbs qbs : List Nat} {m y db ib : Nat} {s : Sys} {M M' : MS} {d x : Bool → Nat} {FF GG : Bool → List Nat}
end
theorem Out.trans {a b c : Sys} (h : Out a b) (h2 : Out b c) : Out a c:=⟨h2.ok,Nat.le_trans h2.T h.T,fun x => (h2.len x).trans (h.len x)⟩
section
variable {w w' w0 : World} {lb hc hx : List Res} {pbs qbs : List Nat} {s : Sys} {d x : Bool → Nat} {FF GG : Bool → List Nat}
end
section
variable {P : Program} {ops : Array Oper} {Q : Exit → Act → World → Prop} {a : Act} {w : World} {K : Act → World → Prop} {rest : List Oper} {o : Oper}
theorem wpList_boxP (hg : o.guard = none) (t : TypeId) (x : Operand) (ho : o.op = .box t x) (vs : List Value) (hx : a.eval x = .agg vs.toArray)
 (h : ∀ w',Fr [] w w' → w.heap.size < w'.heap.size → Blk w' w.heap.size vs → Pln w' w.heap.size → wpList P ops Q rest (a.put o.dst (.pointer (some ⟨w.heap.size,0,none⟩))) w') : wpList P ops Q (o :: rest) a w:=by
 refine Great.wpList_boxTo hg t x ho o.dst rfl w.heap.size rfl vs.toArray (by rw [hx];rfl) ?_
 exact h _ ((Fr.refl [] w).alloc _) (by simp) (Blk.alloc w vs t) (Pln.alloc w vs.toArray t)
end
theorem xnewp_ok {w : World} (n : Nat) (h1 : 1 ≤ n) (h2 : n ≤ 16384) : Calls Tryz.prog 22 #[.int .i64 (n : Int)] w fun e w' => ∃ x i,e = .returned (.tuple #[.pointer (some ⟨x,0,none⟩),.int .i64 0]) ∧ Ev w [] w' (xps x (newXD n) none i) ∧ Pln w' x:=by
 obtain ⟨i9,hi9,hz9,hs9,hb9⟩ : ∃ i,Tryz.prog.info? 9 = some i ∧ i.zero = some (.string ⟨#[]⟩) ∧ i.size = 1 ∧ i.bytes = 16:=⟨_,rfl,rfl,rfl,rfl⟩
 have Hi:=hid hi9
 have Hz:=hid hz9
 have Hs:=hid hs9
 have Hb:=hid hb9
 clear hi9 hz9 hs9 hb9
 have hd : decide ((n : Int) < 1) = false:=by simp;omega
 have hd' : ¬ ((n : Int) < 1):=by omega
 have hd1 : decide (16384 < (n : Int)) = false:=by simp;omega
 have hd1' : ¬ (16384 < (n : Int)):=by omega
 go_enter Tryz.func22,Tryz.ntmps22
 go_wp2_with (refine wpList_boxP rfl _ _ rfl [.slice none 0 0,.slice none 0 0,.slice none 0 0,.bool false,.pointer none] rfl ?_;intro w1 f1 hlt1 hb1 hp1;simp only [aA,aB,Act.put,aC,aD,aE])
 obtain ⟨x,hx⟩ : ∃ x,w.heap.size = x:=⟨_,rfl⟩
 have e1 : Ev w [] w1 (xps x (newXD 0) none ⟨.slice none 0 0,.slice none 0 0,.slice none 0 0,none,none,none⟩):=by
  rw [hx] at hb1
  have a1:=(Ev.start w).new f1 (Res.On.own (Own.nil w1 1)) (by simp [Res.own])
  have a2:=a1.new (Fr.refl [] _) (Res.On.own (Own.nil w1 2)) (by simp [Res.own])
  have a3:=a2.new (Fr.refl [] _) (Res.On.own (Own.nil w1 1)) (by simp [Res.own])
  refine ⟨a3.held.new (Res.On.blk hb1) (by simp [Res.blk,Res.own]),f1,?_⟩
  intro b hb
  refine .inr ?_
  simp [feetOf,xps,Res.blk,Res.own] at hb
  omega
 have E1:=hid e1
 rw [hx]
 rw [hx] at hp1
 have P1:=hid hp1
 clear e1 hb1 f1 hlt1 hx hp1
 go_loopw [5] (fun kv wr => ∃ (m : Nat) (v : Value) (K : Option Nat),kv = .int .i64 (m : Int) ∧ m ≤ n ∧ Ev w [] wr (xps x (newXD m) none ⟨v,.slice none 0 0,.slice none 0 0,K,none,none⟩) ∧ Hid (Pln wr x)) (fun kv _ => n - (intOf kv).toNat)
 case atStart => exact ⟨0,_,none,rfl,Nat.zero_le _,E1.out,P1⟩
 case round =>
  obtain ⟨m,v,K,rfl,hm,ev,PR⟩:=hrel
  clear E1 P1
  by_cases hmn : m < n
  · have g1 : decide ((m : Int) < (n : Int)) = true:=by simp;omega
    have g1' : (m : Int) < (n : Int):=by omega
    have ho : Xr.Own wr 1 v (List.replicate m Zs).length ((List.replicate m Zs).map .string) K:=ev.held.ownAt 1 rfl
    rw [List.length_replicate] at ho
    obtain ⟨va,vc,rfl⟩:=ho.isSlice
    have hb : Blk wr x [.slice va m vc,.slice none 0 0,.slice none 0 0,.bool false,.pointer none]:=ev.held.blkAt 0 rfl
    have hxK : ∀ b,K = some b → b ≠ x:=by
     intro b hb e
     subst hb
     exact ev.held.idx_ne (i:=1) (j:=0) (by decide) rfl rfl b (by simp [Res.own]) (by simp [Res.blk,e])
    have EV:=hid ev
    have HO:=hid ho
    clear ev ho
    go_wp2_with fail
    refine wp_region_D (fun w' => Blk w' x [.slice va m vc,.slice none 0 0,.slice none 0 0,.bool false,.pointer none]) true [] (by kernel_rfl) ?_
    refine WD.free [0,1,2,3] (by kernel_rfl) hb.drew ?_
    simp only [pick,aF,aG,aI,aJ,aK]
    repeat (first | go_big_quiet_step (fail))
    refine wpQuiet_nil ?_
    refine WD.held [4] (by kernel_rfl) hb.drew ?_
    simp only [pick,aF,aG,aI,aJ,aK]
    repeat (first | (refine quiet_load_1R (by rfl) _ _ rfl rfl (.slice va m vc) (fun w0 h => h.cell 0) _ Tryz.underlying46 rfl ?_;simp only [aA,aB,Act.put,aC,aD,aE]) | go_big_quiet_step (fail))
    refine wpQuiet_nil ?_
    refine WD.eff 5 (by kernel_rfl) ?_
    simp only [pick,aF,aG,aI,aJ,aK]
    have f0 : Fr [] wr wr.drew:=(Fr.refl [] wr).drew
    go_wp2_with (go_at_call 28;refine xnought_any.mono ?_;rintro e w5 ⟨rfl,f5⟩)
    have b5:=f5.blk hb.drew (by simp)
    try refine wpList_nil ?_
    refine AfterD.on b5 (by kernel_rfl) ?_
    try simp only [aA,aB,Act.put,aC,aD,aE]
    refine WD.eff 6 (by kernel_rfl) ?_
    simp only [pick,aF,aG,aI,aJ,aK]
    go_wp2_with (refine wpList_buildSlice_r rfl _ 1 _ rfl 9 Tryz.underlying46 _ _ Hi.out Hz.out rfl Hs.out (by decide) (by decide) (by decide) [.string Zs] rfl (by intro v hv;simp at hv;rcases hv with rfl;rfl) ?_;intro w6 f6 hlt6 hb6;simp only [aA,aB,Act.put,aC,aD,aE])
    have b6:=f6.blk b5 (by simp)
    try refine wpList_nil ?_
    refine AfterD.on b6 (by kernel_rfl) ?_
    try simp only [aA,aB,Act.put,aC,aD,aE]
    refine WD.eff 7 (by kernel_rfl) ?_
    simp only [pick,aF,aG,aI,aJ,aK]
    have g6:=(f0.trans' f5).trans' f6
    go_wp2_with (refine wpList_append_rc rfl _ _ _ rfl 9 _ _ 1 16 Tryz.underlying46 Hi.out Hz.out Hs.out Hb.out rfl (by decide) rfl (HO.out.keep g6 (by simp)) rfl (rc_blk hb6 rfl (by decide)) (by intro u hu;simp at hu;subst hu;rfl) (by unfold maxLen;omega) (by omega) ?_;intro v7 w7 B7 ho7 f7 hB7;obtain ⟨wa,wc,rfl⟩:=ho7.isSlice;simp only [aA,aB,Act.put,aC,aD,aE])
    have b7:=f7.blk b6 (fun hb => hxK x (by simpa using hb) rfl)
    try refine wpList_nil ?_
    refine AfterD.on b7 (by kernel_rfl) ?_
    try simp only [aA,aB,Act.put,aC,aD,aE]
    refine WD.pure [8,9] (by kernel_rfl) b7 ?_
    simp only [pick,aF,aG,aI,aJ,aK]
    repeat (first | go_big_quiet_step (fail))
    refine wpQuiet_nil ?_
    refine WD.eff 10 (by kernel_rfl) ?_
    simp only [pick,aF,aG,aI,aJ,aK]
    go_wp2_with (refine wpList_put rfl _ _ _ rfl rfl (.slice wa (m + 1) wc) rfl rfl b7 (by simp) (by kernel_rfl) ?_;intro w8 f8 b8 hs8;simp only [aA,aB,Act.put,aC,aD,aE])
    try refine wpList_nil ?_
    refine AfterD.end rfl (by kernel_rfl) ?_
    try simp only [aA,aB,Act.put,aC,aD,aE]
    refine WD.done (by kernel_rfl) ?_
    go_wp2_with fail
    go_roundw
    case rel =>
     refine ⟨m + 1,.slice wa (m + 1) wc,B7,by first | rfl | go_num,by omega,?_,hid (f8.plain _ (f7.plain _ (g6.plain _ PR.out)))⟩
     have e7:=xapp_ev (EV.out.step g6) 1 rfl ho7 f7 hB7
     have e8:=e7.put 0 rfl f8 b8
     have hx : xps x (newXD (m + 1)) none ⟨.slice wa (m + 1) wc,.slice none 0 0,.slice none 0 0,B7,none,none⟩ = [Res.blk x [.slice wa (m + 1) wc,.slice none 0 0,.slice none 0 0,.bool false,.pointer none],Res.own 1 (.slice wa (m + 1) wc) (m + 1) ((List.replicate m Zs).map .string ++ [.string Zs]) B7,Res.own 2 (.slice none 0 0) 0 [] none,Res.own 1 (.slice none 0 0) 0 [] none]:=by
      unfold xps newXD
      simp only [List.length_replicate,List.replicate_succ',List.map_append,List.map_cons,List.map_nil,List.length_append,List.length_cons,List.length_nil]
      rfl
     rw [hx]
     exact e8
    case measure => simp [intOf];omega
  · have g1 : decide ((m : Int) < (n : Int)) = false:=by simp;omega
    have g1' : ¬ ((m : Int) < (n : Int)):=by omega
    have hmn2 : m = n:=by omega
    rw [hmn2] at ev
    clear hmn2
    go_wp2_with fail
    go_ret2
    exact ⟨x,rfl,⟨_,ev⟩,PR.out⟩
section
variable {w w1 w2 : World} {rs : List Res} {x0 x1 n0 n1 : Nat} {F0 F1 : List Nat} {i0 i1 : XI}
theorem xdk_new {w : World} {x n : Nat} {i : XI} (h : Held w (xps x (newXD n) none i)) (hp : Pln w x) (pbs : List Nat) : (xdk x (newXD n) pbs none (feetOf (xps x (newXD n) none i))).On w :=
 On.xdk (k:=none) (lf:=none) h rfl hp
end
abbrev MO:=Option (Bool × Bool × UInt64)
def sys0 : Sys:=sy (newXD 0) (newXD 0) []
def hC (m : Nat) (d : Bool → Nat) : MO → List Res
 | none => []
 | some q => [mirR m d ⟨sys0,q.1,q.2.1,q.2.2⟩]
def hX (y db ib : Nat) (x : Bool → Nat) : MO → List Res
 | none => []
 | some q => [Res.blk y (gmL db ib q.2.2),Res.blk db (dbL x),isR ib ⟨sys0,q.1,q.2.1,q.2.2⟩]
def pvo (m : Nat) : MO → Value
 | none => .pointer none
 | some _ => .pointer (some ⟨m,0,none⟩)
def msO (s : Sys) (q : Bool × Bool × UInt64) : MS:=⟨s,q.1,q.2.1,q.2.2⟩
def Sys.opn (s : Sys) : MO × Int:=if s.mayC = 0 then (if ((s.X false).Dead && (s.X true).Dead) = true then (none,70) else if s.opB.2 = true then (some (s.cur false,s.cur true,s.opB.1),0) else (none,71)) else (none,2)
theorem mayC_ok {s : Sys} (hc : s.mayC = 0) : s.len false = s.len true ∧ 2 ≤ s.len true:=by
 unfold Sys.mayC at hc
 split at hc
 · rename_i h;exact ⟨h.1,h.1 ▸ h.2⟩
 · cases hc
theorem mayC_no {s : Sys} (hc : s.mayC ≠ 0) : s.len false = s.len true → s.len true < 2:=by
 unfold Sys.mayC at hc
 split at hc
 · exact absurd rfl hc
 · rename_i h
   intro e
   exact Nat.lt_of_not_le fun h2 => h ⟨e,e ▸ h2⟩
section
variable {w w' w0 : World} {l rs lb C D : List Res} {pbs qbs : List Nat} {m y db ib : Nat} {s : Sys} {d x : Bool → Nat} {FF GG : Bool → List Nat} {N : MO}
theorem Ev.lessL (a : List Res) {m : List Res} : ∀ (l : List Res),Ev w0 rs w (a ++ l ++ m) → Ev w0 rs w (a ++ m)
 | [],h => by simpa using h
 | r :: l,h => Ev.lessL a l (by
     have h2 : Ev w0 rs w (a ++ r :: (l ++ m)):=by simpa using h
     have:=Ev.less a (l ++ m) h2
     simpa using this)
theorem copen_any (h : Held w (l ++ sysC pbs s d FF)) (ok : SysOk s) :
 Calls Tryz.prog 31 #[.pointer (some ⟨d false,0,none⟩),.pointer (some ⟨d true,0,none⟩)] w fun e w' => ∃ m,e = .returned (.tuple #[pvo m s.opn.1,.int .i64 s.opn.2]) ∧ Ev w (l ++ sysC pbs s d FF) w' (l ++ (hC m d s.opn.1 ++ sysC pbs s d FF)):=by
 unfold Sys.opn
 by_cases hc : s.mayC = 0
 · rw [if_pos hc]
   obtain ⟨hl,h2⟩:=mayC_ok hc
   cases hd : ((s.X false).Dead && (s.X true).Dead) with
   | true =>
     rw [if_pos (rfl : true = true)]
     have hd2 : (s.X false).Dead = true ∧ (s.X true).Dead = true:=by simpa using hd
     refine (open_lost h ok hl h2 hd2.1 hd2.2).mono ?_
     rintro e w' ⟨rfl,ev⟩
     exact ⟨0,rfl,ev⟩
   | false =>
     rw [if_neg (show ¬ (false = true) by decide)]
     have hd2 : (s.X false).Dead = false ∨ (s.X true).Dead = false:=by
      cases h0 : (s.X false).Dead with
      | false => exact .inl rfl
      | true => rw [h0] at hd;exact .inr (by simpa using hd)
     refine (open_ok h ok hl h2 hd2).mono ?_
     rintro e w' ⟨m,rfl,ev⟩
     cases hB : s.opB.2 with
     | true =>
       rw [if_pos (rfl : true = true)]
       have e1:=op1_any s
       rw [hB] at e1
       rw [op1_cur s hB] at ev
       exact ⟨m,by rw [e1];rfl,ev⟩
     | false =>
       rw [if_neg (show ¬ (false = true) by decide)]
       have e1:=op1_any s
       rw [hB] at e1
       have ev2:=mir_drop ev
       rw [op1_s] at ev2
       exact ⟨m,by rw [e1];rfl,ev2⟩
 · rw [if_neg hc]
   refine (open_bad (by decide) (two_arg h ok (mayC_no hc))).mono ?_
   rintro e w' ⟨rfl,rfl⟩
   exact ⟨0,rfl,Ev.refl h⟩
theorem xopen_any (h : Held w (l ++ sysX pbs s d FF)) (ok : SysOk s) (ht : s.T < 998900) :
 Calls Tryz.prog 27 #[.pointer (some ⟨d false,0,none⟩),.pointer (some ⟨d true,0,none⟩)] w fun e w' => ∃ m db ib,e = .returned (.tuple #[pvo m s.opn.1,.int .i64 s.opn.2]) ∧ Ev w (l ++ sysX pbs s d FF) w' (l ++ (hX m db ib d s.opn.1 ++ sysX pbs s d FF)):=by
 unfold Sys.opn
 by_cases hc : s.mayC = 0
 · rw [if_pos hc]
   cases hd : ((s.X false).Dead && (s.X true).Dead) with
   | true =>
     rw [if_pos (rfl : true = true)]
     have hd2 : (s.X false).Dead = true ∧ (s.X true).Dead = true:=by simpa using hd
     refine (popen_lost h ok hc hd2.1 hd2.2).mono ?_
     rintro e w' ⟨rfl,f⟩
     exact ⟨0,0,0,rfl,(Ev.refl h).step f⟩
   | false =>
     rw [if_neg (show ¬ (false = true) by decide)]
     have hd2 : (s.X false).Dead = false ∨ (s.X true).Dead = false:=by
      cases h0 : (s.X false).Dead with
      | false => exact .inl rfl
      | true => rw [h0] at hd;exact .inr (by simpa using hd)
     cases hB : s.opB.2 with
     | true =>
       rw [if_pos (rfl : true = true)]
       refine (popen_yes h ok ht hc hd2 hB).mono ?_
       rintro e w' ⟨m,db,ib,rfl,ev⟩
       exact ⟨m,db,ib,rfl,ev⟩
     | false =>
       rw [if_neg (show ¬ (false = true) by decide)]
       refine (popen_no h ok ht hc hd2 hB).mono ?_
       rintro e w' ⟨rfl,ev⟩
       exact ⟨0,0,0,rfl,ev⟩
 · rw [if_neg hc]
   refine (popen_bad h ok hc).mono ?_
   rintro e w' ⟨rfl,f⟩
   exact ⟨0,0,0,rfl,(Ev.refl h).step f⟩
end
section
variable {P : Program} {ops : Array Oper} {Q : Exit → Act → World → Prop} {a : Act} {w : World} {K : Act → World → Prop} {rest : List Oper} {o : Oper}
theorem wpList_load_agW (hg : Region.wanted o (yielded ops a.tmps) = true) (ty : TypeId) (x : Operand) (ho : o.op = .load ty x) {b off : Nat} (hx : a.eval x = .pointer (some ⟨b,off,none⟩)) {cs : List Value} (vs : List Value)
 (hb : Blk w b cs) {n : Nat} (hT : AggT P ty n) (hn : vs.length = n) (hv : (cs.drop off).take n = vs)
 (h : wpList P ops Q rest (a.put o.dst (.agg vs.toArray)) w) : wpList P ops Q (o :: rest) a w:=by
 obtain ⟨d,hu,hd,hs⟩:=hT
 exact wpList_step fun K hK => by
  rw [if_pos hg]
  exact wp_load_agg ty x ho hx vs hb d hu hd (by rw [hs,hn]) (by rw [hn];exact hv) (hK _ _ h)
end
theorem StOk7.keep {w w' : World} {a : Step7} (h : StOk7 w a) (f : Fr [] w w') : StOk7 w' a:=⟨h.d1,h.d2,h.i1,h.i2,h.k1,h.k2,h.t,h.k.keep f (by simp),h.kl⟩
section
variable {w w' w0 : World} {l rs rs1 lb C D : List Res} {pbs qbs : List Nat} {m y db ib : Nat} {s : Sys} {d x : Bool → Nat} {FF GG : Bool → List Nat} {N : MO}
theorem ffC_mem (b : Bool) {y : Nat} (h : y ∈ FF b) : y ∈ feetOf (sysC pbs s d FF):=by
 refine List.mem_flatMap.2 ⟨dk (d b) (s.X b) pbs (s.k b) (FF b),?_,h⟩
 cases b
 · exact List.mem_cons_of_mem _ (List.mem_cons_self ..)
 · exact List.mem_cons_of_mem _ (List.mem_cons_of_mem _ (List.mem_cons_self ..))
theorem ffX_mem (b : Bool) {y : Nat} (h : y ∈ FF b) : y ∈ feetOf (sysX pbs s d FF):=by
 refine List.mem_flatMap.2 ⟨xdk (d b) (s.X b) pbs (s.k b) (FF b),?_,h⟩
 cases b
 · exact List.mem_cons_of_mem _ (List.mem_cons_self ..)
 · exact List.mem_cons_of_mem _ (List.mem_cons_of_mem _ (List.mem_cons_self ..))
theorem feet_end {hx : List Res} {y : Nat} (h : y ∈ feetOf D) : y ∈ feetOf (lb ++ C ++ (hx ++ D)):=by
 simp only [feetOf,List.flatMap_append,List.mem_append] at h ⊢
 exact .inr (.inr h)
end
end Go.Proofs.YtgafefecookgaaaGreat
