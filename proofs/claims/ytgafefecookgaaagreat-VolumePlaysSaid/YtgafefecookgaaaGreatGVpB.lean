/- Several texts put together: VpF, VpG, VpH, VpI, VpJ, VpK, VpL. What each shows stands ahead of it. -/
import Derived.Test.YtgafefecookgaaaGreatGVpA
import Derived.Test.YtgafefecookgaaaGreatGVolB
import Derived.Test.YtgafefecookgaaaGreatGPmB
open Go.World renaming size_alloc → aA,size_drew → aB
open List renaming setIfInBounds_toArray → aC,set_cons_succ → aD,set_cons_zero → aE,toList_toArray → aF,map_cons → aG,map_nil → aI,getD_cons_succ → aJ,getD_cons_zero → aK
set_option linter.unusedVariables false
set_option linter.unusedSimpArgs false
set_option maxRecDepth 20000
set_option maxHeartbeats 16000000
namespace Go.Proofs.YtgafefecookgaaaGreat
open Go Go.Xr Go.RowKit
def xmV (ps : List XP) : List Value:=ps.map fun p => pv (some p.m)
def aH (yb : Nat) (v : Value) (ps : List XP) (X : Option Nat) : List Res:=[Res.own 1 v (xmV ps).length (xmV ps) X,Res.blk yb [v,.int .i64 0]]
def aR (H l : List Res) (ss : List XS) (ps : List XP) (k : Nat) : List Res:=H ++ (l ++ (xpsC ps ++ xssC (ss.drop k)))
theorem dsX_get : ∀ (ss : List XS) (k : Nat) (s : XS),ss[k]? = some s → (dsX ss)[2 * k]? = some (s,false) ∧ (dsX ss)[2 * k + 1]? = some (s,true)
 | [],k,s,h => by simp at h
 | q :: ss,0,s,h => by
   obtain rfl : q = s:=by simpa using h
   exact ⟨rfl,rfl⟩
 | q :: ss,k + 1,s,h => by
   obtain ⟨h1,h2⟩:=dsX_get ss k s (by simpa using h)
   have e : dsX (q :: ss) = (q,false) :: (q,true) :: dsX ss:=rfl
   rw [e,show 2 * (k + 1) = 2 * k + 1 + 1 by omega]
   exact ⟨by simpa using h1,by simpa using h2⟩
theorem aR_out (H l : List Res) {ss : List XS} (ps : List XP) {k : Nat} {s : XS} (hk : ss[k]? = some s) : (aR H l ss ps k).Perm ((H ++ (l ++ (xpsC ps ++ xssC (ss.drop (k + 1))))) ++ xsC s):=by
 have e : ss.drop k = s :: ss.drop (k + 1):=by
  obtain ⟨hlt,e⟩:=List.getElem?_eq_some_iff.1 hk
  rw [List.drop_eq_getElem_cons hlt,e]
 unfold aR
 rw [e]
 show (H ++ (l ++ (xpsC ps ++ (xsC s ++ xssC (ss.drop (k + 1)))))).Perm _
 simp only [List.append_assoc]
 exact (((List.perm_append_comm).append_left _).append_left _).append_left _
theorem aR_in (H l : List Res) (ss : List XS) (ps : List XP) (k : Nat) (p : XP) : ((H ++ (l ++ (xpsC ps ++ xssC (ss.drop (k + 1))))) ++ xpC p).Perm (aR H l ss (ps ++ [p]) (k + 1)):=by
 unfold aR
 have e : xpsC (ps ++ [p]) = xpsC ps ++ xpC p:=by simp [xpsC]
 rw [e]
 simp only [List.append_assoc]
 exact (((List.perm_append_comm).append_left _).append_left _).append_left _
def fstC (F : Sys → Int) (L : List Sys) : Int:=L.foldl (fun a s => if a = 0 then F s else a) 0
theorem fstC_zero {F : Sys → Int} : ∀ {L : List Sys},(∀ s ∈ L,F s = 0) → fstC F L = 0
 | [],_ => rfl
 | s :: L,h => by
   have e : fstC F (s :: L) = L.foldl (fun a s => if a = 0 then F s else a) (F s):=rfl
   rw [e,h s (List.mem_cons_self ..)]
   exact fstC_zero fun x hx => h x (List.mem_cons_of_mem _ hx)
theorem fstC_stay {F : Sys → Int} {a : Int} (ha : a ≠ 0) : ∀ L : List Sys,L.foldl (fun a s => if a = 0 then F s else a) a = a
 | [] => rfl
 | s :: L => by
   rw [List.foldl_cons,if_neg ha]
   exact fstC_stay ha L
theorem fstC_at {F : Sys → Int} : ∀ {L : List Sys} {k : Nat} {s : Sys},(∀ t ∈ L.take k,F t = 0) → L[k]? = some s → F s ≠ 0 → fstC F L = F s
 | [],k,s,_,h,_ => by simp at h
 | t :: L,0,s,_,h,hc => by
   obtain rfl : t = s:=by simpa using h
   have e : fstC F (t :: L) = L.foldl (fun a s => if a = 0 then F s else a) (F t):=rfl
   rw [e]
   exact fstC_stay hc L
 | t :: L,k + 1,s,h0,h,hc => by
   have e : fstC F (t :: L) = L.foldl (fun a s => if a = 0 then F s else a) (F t):=rfl
   rw [e,h0 t (by simp)]
   exact fstC_at (k:=k) (fun x hx => h0 x (by rw [List.take_succ_cons];exact List.mem_cons_of_mem _ hx)) (by simpa using h) hc
def AllI (w : World) (yb : Nat) (l : List Res) (ss : List XS) (mf : Sys → MS) (F : Sys → Int) (k : Nat) (W : World) : Prop :=
 ∃ (ps : List XP) (v : Value) (X : Option Nat),(∀ s ∈ ss.take k,F s.s = 0) ∧ ps.map (fun p => (p.x,p.M)) = (ss.take k).map (fun s => (s.x,mf s.s)) ∧ Ev w (l ++ xssC ss) W (aR (aH yb v ps X) l ss ps k)
theorem ev_mid {w0 w : World} {rs H l T : List Res} (e : Ev w0 rs w (H ++ (l ++ T))) : Ev w0 rs w (l ++ T):=by
 have h2 : Ev w0 rs w ([] ++ H ++ (l ++ T)):=e
 exact Ev.lessL [] H h2
theorem infXm : ∃ i z,Tryz.prog.info? 62 = some i ∧ i.zero = some z ∧ i.size = 1 ∧ i.bytes = 8 ∧ z.cells.size = 1:=⟨_,_,rfl,rfl,rfl,rfl,rfl⟩
theorem all_end {w W : World} {l : List Res} {ss : List XS} {ps : List XP} {yb : Nat} {v : Value} {X : Option Nat} {mf : Sys → MS} (h1 : 1 ≤ ss.length) (hp : ps.map (fun p => (p.x,p.M)) = ss.map (fun s => (s.x,mf s.s))) (e : Ev w (l ++ xssC ss) W (aR (aH yb v ps X) l ss ps ss.length)) :
 ∃ Y : YX,Y.yb = yb ∧ Y.ys.length = ss.length ∧ Y.xs = ss.map XS.x ∧ YA w (l ++ xssC ss) W l Y (ss.map fun s => mf s.s) 0:=by
 have hpl : ps.length = ss.length:=by simpa using congrArg List.length hp
 have o0 : Xr.Own W 1 v (xmV ps).length (xmV ps) X:=e.held.ownAt 0 rfl
 obtain ⟨rb,rfl⟩ : ∃ rb,X = some rb:=by
  rcases o0.shape with ⟨h,_⟩ | ⟨b,_,h,_⟩
  · have hxl : (xmV ps).length = ps.length:=List.length_map _
    exact absurd h (by omega)
  · exact ⟨b,h⟩
 have e1 : ps.map XP.x = ss.map XS.x:=by
  have:=congrArg (List.map Prod.fst) hp
  simpa [Function.comp_def] using this
 have e2 : ps.map XP.M = ss.map fun s => mf s.s:=by
  have:=congrArg (List.map Prod.snd) hp
  simpa [Function.comp_def] using this
 refine ⟨⟨yb,rb,v,ps.map XP.m,ps.map XP.x⟩,rfl,by simpa using hpl,e1,ps,rfl,rfl,e2,Ev.perm e ?_⟩
 unfold aR
 rw [List.drop_length]
 have ex : xssC [] = []:=rfl
 rw [ex,List.append_nil]
 have hx : aH yb v ps (some rb) = [Res.own 1 v (ps.map XP.m).length ((ps.map XP.m).map fun m => pv (some m)) (some rb),Res.blk yb [v,.int .i64 0]]:=by
  unfold aH xmV
  rw [List.length_map,List.length_map,List.map_map]
  rfl
 rw [hx]
 show ([_,_] ++ (l ++ xpsC ps)).Perm (l ++ ([_,_] ++ xpsC ps))
 rw [← List.append_assoc,← List.append_assoc]
 refine List.Perm.append_right _ ((List.Perm.append_right l (List.Perm.swap _ _ _)).trans ?_)
 exact List.perm_append_comm
theorem xall_Make {w : World} {l : List Res} {ss : List XS} {v : Value} {B i0 : Nat} (mf : Sys → MS) (F : Sys → Int) (h : Held w (l ++ xssC ss)) (hi : l[i0]? = some (Res.own 1 v (2 * ss.length) (rowD (ss.map XS.x)) (some B))) (h1 : 1 ≤ ss.length) (h8 : ss.length ≤ 8)
 (HT0 : ∀ s ∈ ss,F s.s = 0 → ∀ (l1 : List Res) (w1 : World),Held w1 (l1 ++ xsC s) → Calls Tryz.prog 25 #[.pointer (some ⟨s.x false,0,none⟩),.pointer (some ⟨s.x true,0,none⟩)] w1 fun e w' => ∃ m db ib GG',e = .returned (.tuple #[.pointer (some ⟨m,0,none⟩),.int .i64 0]) ∧ Ev w1 (l1 ++ xsC s) w' (l1 ++ xpC ⟨m,db,ib,s.x,GG',mf s.s⟩))
 (HT1 : ∀ s ∈ ss,F s.s ≠ 0 → ∀ (l1 : List Res) (w1 : World),Held w1 (l1 ++ xsC s) → Calls Tryz.prog 25 #[.pointer (some ⟨s.x false,0,none⟩),.pointer (some ⟨s.x true,0,none⟩)] w1 fun e w' => ∃ GG',e = .returned (.tuple #[.pointer none,.int .i64 (F s.s)]) ∧ Ev w1 (l1 ++ xsC s) w' (l1 ++ xsC ⟨s.x,GG',s.s⟩))
 (hfix : ∀ s ∈ ss,F s.s = 0) :
 Calls Tryz.prog 6 #[v,.bool false] w fun e w' => (fstC F (ss.map XS.s) = 0 ∧ ∃ Y : YX,e = .returned (.tuple #[.pointer (some ⟨Y.yb,0,none⟩),.int .i64 0]) ∧ Y.ys.length = ss.length ∧ Y.xs = ss.map XS.x ∧ YA w (l ++ xssC ss) w' l Y (ss.map fun s => mf s.s) 0) ∨
  (fstC F (ss.map XS.s) ≠ 0 ∧ e = .returned (.tuple #[.pointer none,.int .i64 (fstC F (ss.map XS.s))]) ∧ ∃ ss',ss'.map XS.x = ss.map XS.x ∧ ss'.map XS.s = ss.map XS.s ∧ Ev w (l ++ xssC ss) w' (l ++ xssC ss')):=by
 obtain ⟨i9,z9,hi9,hz9,hs9,hb9,hzc9⟩:=infXm
 have Hi:=hid hi9
 have Hz:=hid hz9
 have Hs:=hid hs9
 have Hb:=hid hb9
 have Hzc:=hid hzc9
 clear hi9 hz9 hs9 hb9 hzc9
 have ho0:=h.ownAt i0 (by rw [List.getElem?_append_left (List.getElem?_eq_some_iff.1 hi).1];exact hi)
 obtain ⟨c,hv,hnc,hcm⟩ : ∃ c,v = .slice (some ⟨B,0,none⟩) (2 * ss.length) c ∧ 2 * ss.length ≤ c ∧ c ≤ maxLen:=by
  rcases ho0.shape with ⟨h0,_⟩ | ⟨b,cap,hb1,h1,h2,h3⟩
  · omega
  · cases hb1
    exact ⟨cap,h1,h2,h3⟩
 subst hv
 have HH:=hid h
 have HC:=hid fun (w1 : World) (H T : List Res) (h1 : Held w1 (H ++ (l ++ T))) (i : Nat) (q : XS × Bool) (hq : (dsX ss)[i]? = some q) => (show w1.cell? ⟨B,i,none⟩ = some (.pointer (some ⟨q.1.x q.2,0,none⟩)) from by
  have h2 : (H ++ (l ++ T))[H.length + i0]? = some (Res.own 1 (.slice (some ⟨B,0,none⟩) (2 * ss.length) c) (2 * ss.length) (rowD (ss.map XS.x)) (some B)):=by
   rw [List.getElem?_append_right (by omega),Nat.add_sub_cancel_left,List.getElem?_append_left (List.getElem?_eq_some_iff.1 hi).1]
   exact hi
  have hlt : i < 2 * ss.length:=by rw [← dsX_len];exact (List.getElem?_eq_some_iff.1 hq).1
  obtain ⟨b,off,c2,hB,hv2,_,_,_,h4⟩:=((h1.ownAt _ h2).rd.rc).some (by omega)
  obtain ⟨⟨rfl,rfl⟩,_⟩ : (B = b ∧ 0 = off) ∧ c = c2:=by simpa using hv2
  have hr : (rowD (ss.map XS.x))[i]? = some (.pointer (some ⟨q.1.x q.2,0,none⟩)):=by rw [dsX_row,List.getElem?_map,hq];rfl
  have:=h4 i (List.getElem?_eq_some_iff.1 hr).1
  rw [Nat.zero_add] at this
  rw [this,hr])
 have HE:=hid fun (w1 : World) (f : Fr [] w w1) (i k : Nat) (q p : XS × Bool) (hi : (dsX ss)[i]? = some q) (hk : (dsX ss)[k]? = some p) (hlt : k < i) => xss_ne (h.keep0 f) hi hk hlt
 have HT0':=hid HT0
 have HT1':=hid HT1
 have HFX:=hid hfix
 have H1:=hid h1
 obtain ⟨n,hn⟩ : ∃ n,2 * ss.length = n:=⟨_,rfl⟩
 have Hn:=hid hn
 rw [hn] at hnc ⊢
 have hn16 : n ≤ 16:=by omega
 have hn2 : 2 ≤ n:=by omega
 have a1 : decide ((n : Int) < 2) = false:=by simp;omega
 have a2 : decide ((16 : Int) < (n : Int)) = false:=by simp;omega
 have a3 : (n : Int).tmod 2 = 0:=by rw [← hn,Int.tmod_eq_emod_of_nonneg (by omega)];omega
 have a4 : decide (n < 2) = false:=by simp;omega
 have a5 : decide (16 < n) = false:=by simp;omega
 clear ho0 h hn h8 hi HT0 HT1 hfix h1
 go_enter Tryz.func6,Tryz.ntmps6
 go_wp2_with fail
 clear a1 a2 a3 a4 a5
 go_loopw [6] (fun iv wr => ∃ i : Nat,i ≤ n ∧ iv = .int .i64 (i : Int) ∧ Hid (Fr [] w wr)) (fun iv _ => n - (intOf iv).toNat)
 case atStart => exact ⟨0,Nat.zero_le _,rfl,hid (Fr.refl _ _)⟩
 case round =>
  obtain ⟨i,hi,rfl,FF⟩:=hrel
  by_cases hlt : i < n
  · have d1 : decide ((i : Int) < (n : Int)) = true:=by simp;omega
    have d1n : decide (i < n) = true:=by simp;omega
    obtain ⟨qi,hqi⟩ : ∃ q,(dsX ss)[i]? = some q:=⟨_,List.getElem?_eq_getElem (by rw [dsX_len];have:=Hn.out;omega)⟩
    have HQI:=hid hqi
    clear hqi
    go_wp2_with fail
    go_loopw [7] (fun kv wr => ∃ k : Nat,k ≤ i ∧ kv = .int .i64 (k : Int) ∧ Hid (Fr [] w wr)) (fun kv _ => i - (intOf kv).toNat)
    case atStart => exact ⟨0,Nat.zero_le _,rfl,FF⟩
    case round =>
     obtain ⟨k,hk,rfl,G⟩:=hrel
     clear FF
     by_cases hki : k < i
     · have d2 : decide ((k : Int) < (i : Int)) = true:=by simp;omega
       have d2n : decide (k < i) = true:=by simp;omega
       obtain ⟨qk,hqk⟩ : ∃ q,(dsX ss)[k]? = some q:=⟨_,List.getElem?_eq_getElem (by rw [dsX_len];have:=Hn.out;omega)⟩
       have G1:=hid G.out.drew
       have hH : Held _ ([] ++ (l ++ xssC ss)):=HH.out.keep0 G1.out
       have hS:=And.intro (HC.out _ [] _ hH i qi HQI.out) (And.intro (HC.out _ [] _ hH k qk hqk) (HE.out _ G1.out i k qi qk HQI.out hqk hki))
       generalize qi.1.x qi.2 = pa at *
       generalize qk.1.x qk.2 = pb at *
       clear hH hqk
       go_wp2_with fail
       refine wp_region_D (fun w' => w'.cell? ⟨B,i,none⟩ = some (.pointer (some ⟨pa,0,none⟩)) ∧ w'.cell? ⟨B,k,none⟩ = some (.pointer (some ⟨pb,0,none⟩)) ∧ (binOp .eql 39 (.pointer (some ⟨pa,0,none⟩)) (.pointer (some ⟨pb,0,none⟩))).run Tryz.prog w' = .ok (.bool false) w') false [] (by kernel_rfl) ?_
       refine WD.pure [0,1,2,3,4,5,6,7,8] (by kernel_rfl) hS ?_
       simp only [pick,aF,aG,aI,aJ,aK]
       repeat (first | (refine quiet_load_1R (by rfl) _ _ rfl rfl (.pointer (some ⟨pa,0,none⟩)) (fun wq h => h.1) _ Tryz.underlying39 rfl ?_;simp only [aA,aB,Act.put,aC,aD,aE]) | (refine quiet_load_1R (by rfl) _ _ rfl rfl (.pointer (some ⟨pb,0,none⟩)) (fun wq h => h.2.1) _ Tryz.underlying39 rfl ?_;simp only [aA,aB,Act.put,aC,aD,aE]) | (refine quiet_bin_S (by rfl) _ _ _ _ _ rfl _ _ rfl rfl (.bool false) (fun _ => rfl) (fun wq h => h.2.2) ?_;simp only [aA,aB,Act.put,aC,aD,aE]) | go_big_quiet_step (fail))
       refine wpQuiet_nil ?_
       refine WD.done (by kernel_rfl) ?_
       go_wp2_with fail
       go_roundw
       case rel => exact ⟨k + 1,by omega,by go_num,G1⟩
       case measure => simp [intOf];omega
     · have d2 : decide ((k : Int) < (i : Int)) = false:=by simp;omega
       have d2n : decide (k < i) = false:=by simp;omega
       go_wp2_with fail
       go_roundw
       case rel => exact ⟨i + 1,by omega,by go_num,G⟩
       case measure => simp [intOf];omega
  · have d1 : decide ((i : Int) < (n : Int)) = false:=by simp;omega
    have d1n : decide (i < n) = false:=by simp;omega
    clear hlt hi HE
    go_wp2_with (refine wpList_box rfl _ _ rfl [.slice none 0 0,.int .i64 0] rfl ?_;intro w1 f1 hlt1 hb1;have E1:=hid (((Ev.refl HH.out).step FF.out).new f1 (Res.On.blk hb1) (fun b hb => by simp [Res.blk] at hb;omega));clear hb1 f1 hlt1;(try simp only [aA,aB,Act.put,aC,aD,aE]))
    generalize World.heap _ = hp at *
    obtain ⟨yb,hyb⟩ : ∃ yb,hp.size = yb:=⟨_,rfl⟩
    rw [hyb] at E1 ⊢
    have A0 : Hid (AllI w yb l ss mf F 0 w1):=hid ⟨[],.slice none 0 0,none,by simp,rfl,E1.out.new (Fr.refl [] _) (Res.On.own (Own.nil _ 1)) (by simp [Res.own])⟩
    clear E1 hyb FF d1 d1n
    go_loopw [9] (fun iv wr => ∃ k : Nat,k ≤ ss.length ∧ iv = .int .i64 ((2 * k : Nat) : Int) ∧ Hid (AllI w yb l ss mf F k wr)) (fun iv _ => n - (intOf iv).toNat)
    case atStart => exact ⟨0,Nat.zero_le _,rfl,A0⟩
    case round =>
     obtain ⟨k,hk,rfl,AI⟩:=hrel
     clear A0
     obtain ⟨j,hj⟩ : ∃ j,2 * k = j:=⟨_,rfl⟩
     have HJ:=hid hj
     rw [hj]
     by_cases hlt : k < ss.length
     · have hj14 : j + 2 ≤ n:=by have:=Hn.out;omega
       have d1 : decide ((j : Int) < (n : Int)) = true:=by simp;omega
       have d1n : decide (j < n) = true:=by simp;omega
       obtain ⟨s,hs⟩ : ∃ s,ss[k]? = some s:=⟨_,List.getElem?_eq_getElem hlt⟩
       obtain ⟨q1,q2⟩:=dsX_get ss k s hs
       rw [hj] at q1 q2
       have HQ1:=hid q1
       have HQ2:=hid q2
       obtain ⟨ps,vv,X,hp0,hp1,hp2⟩:=AI.out
       have HP0:=hid hp0
       have HP1:=hid hp1
       have HP2:=hid hp2
       have HS:=hid hs
       have HSm:=hid (List.mem_of_getElem? hs)
       have hps8 : ps.length ≤ 8:=by
        have h:=congrArg List.length hp1
        rw [List.length_map,List.length_map,List.length_take] at h
        have:=Hn.out
        omega
       have HCC:=hid fun (w1 : World) (H T : List Res) (h1 : Held w1 (H ++ (l ++ T))) => (show w1.cell? ⟨B,j,none⟩ = some (.pointer (some ⟨s.x false,0,none⟩)) ∧ w1.cell? ⟨B,j + 1,none⟩ = some (.pointer (some ⟨s.x true,0,none⟩)) from ⟨HC.out w1 H T h1 j _ HQ1.out,HC.out w1 H T h1 (j + 1) _ HQ2.out⟩)
       have E0:=hid (Ev.refl hp2.held)
       obtain ⟨c0,c1⟩:=HCC.out _ _ _ E0.out.held
       clear hp0 hp1 hp2 q1 q2 hs hj HQ1 HQ2
       by_cases hz : F s.s = 0
       · have HTs:=hid fun (l1 : List Res) (w1 : World) (hh : Held w1 (l1 ++ xsC s)) => HT0'.out s HSm.out hz l1 w1 hh
         have HZ:=hid hz
         clear hz
         go_wp2_with (first
          | (go_at_call 26;refine (nil2_false c0 c1 (by omega) (by omega)).mono ?_;rintro e w2 ⟨rfl,f1⟩;have E1:=hid (Ev.perm (E0.out.step f1) (aR_out _ l ps HS.out));clear f1 c0 c1)
          | (go_at_call 25;refine (HTs.out _ _ E1.out.held).mono ?_;rintro e w3 ⟨m,db,ib,GG',rfl,e2⟩;have E2:=hid (E1.out.trans e2);clear e2 E1 HTs;have nst:=hid trivial;revert nst))
         intro _
         have E3:=hid (Ev.perm E2.out (aR_in _ l ss ps k ⟨m,db,ib,s.x,GG',mf s.s⟩))
         have by3 : Blk w3 yb [vv,.int .i64 0]:=E3.out.held.blkAt 1 rfl
         have o3 : Xr.Own w3 1 vv (xmV ps).length (xmV ps) X:=E3.out.held.ownAt 0 rfl
         have ky : w3.cell? ⟨yb,0,none⟩ = some vv:=by3.cell 0
         have hle1 : (xmV ps).length + 1 ≤ maxLen:=by unfold maxLen;simp [xmV];omega
         have hle2 : ((xmV ps).length + 1) * 8 ≤ 140737488355328:=by simp [xmV];omega
         clear E2 E0
         go_wp2_with (first
          | (refine wpList_buildSlice_r rfl _ 1 _ rfl 62 Tryz.underlying52 _ _ Hi.out Hz.out Hzc.out Hs.out (by decide) (by decide) (by decide) [.pointer (some ⟨m,0,none⟩)] rfl (by intro v hv;simp at hv;rcases hv with rfl;rfl) ?_
             intro w10 f10 hlt10 hb10
             have o10:=o3.keep f10 (by simp)
             simp only [aA,aB,Act.put,aC,aD,aE])
          | (refine wpList_append_rc (u:=.slice (some ⟨w3.heap.size,0,none⟩) 1 1) (m:=1) (v:=vv) (n:=(xmV ps).length) (xs:=xmV ps) (B:=X) (XB:=some w3.heap.size) (w:=w10) (news:=[.pointer (some ⟨m,0,none⟩)]) rfl _ _ _ rfl 62 _ _ 1 8 Tryz.underlying52 Hi.out Hz.out Hs.out Hb.out Hzc.out (by decide) rfl o10 rfl (rc_blk (n:=1) (xs:=[.pointer (some ⟨m,0,none⟩)]) hb10 rfl (by simp [maxLen])) (by intro u hu;simp at hu;rw [hu];rfl) hle1 hle2 ?_
             intro v11 w11 X11 ho11 f11 hX11
             have ho12 : Xr.Own w11 1 v11 (xmV (ps ++ [⟨m,db,ib,s.x,GG',mf s.s⟩])).length (xmV (ps ++ [⟨m,db,ib,s.x,GG',mf s.s⟩])) X11:=by
              have e : xmV (ps ++ [⟨m,db,ib,s.x,GG',mf s.s⟩]) = xmV ps ++ [.pointer (some ⟨m,0,none⟩)]:=by simp [xmV,pv]
              rw [e,List.length_append]
              exact ho11
             have E11:=hid ((E3.out.step f10).at 0 rfl f11 (fun b hb => .inl hb) (Res.On.own ho12) (fun b hb => by
              rcases hX11 with rfl | ⟨b',rfl,hb'⟩
              · exact .inl hb
              · obtain rfl : b = b':=by simpa [Res.own] using hb
                exact .inr hb'))
             have hv11 : v11.oneCell' = true:=by obtain ⟨_,_,rfl⟩:=ho11.isSlice;rfl
             have b11 : Blk w11 yb [vv,.int .i64 0]:=E11.out.held.blkAt 1 rfl
             clear by3 o3 ky o10 f10 f11 ho11 ho12 hb10 hX11 E3
             simp only [aA,aB,Act.put,aC,aD,aE])
          | (refine wpList_put rfl _ _ _ rfl rfl v11 rfl hv11 b11 (by simp) (by kernel_rfl) ?_;intro w12 f12 b12 hs12;have b13 : Blk w12 yb [v11,.int .i64 0]:=b12;have E12:=hid (E11.out.at 1 rfl f12 (fun b hb => .inl hb) (Res.On.blk b13) (fun b hb => .inl hb));clear b11 b12 b13 f12 hs12 E11;simp only [aA,aB,Act.put,aC,aD,aE]))
         have E13:=hid (show Ev wr (aR (aH yb vv ps X) l ss ps k) w12 (aR (aH yb v11 (ps ++ [⟨m,db,ib,s.x,GG',mf s.s⟩]) X11) l ss (ps ++ [⟨m,db,ib,s.x,GG',mf s.s⟩]) (k + 1)) from E12.out)
         go_roundw
         case rel =>
          refine ⟨k + 1,by omega,?_,hid ⟨ps ++ [⟨m,db,ib,s.x,GG',mf s.s⟩],v11,X11,?_,?_,HP2.out.trans E13.out⟩⟩
          · rw [show 2 * (k + 1) = j + 2 by have:=HJ.out;omega]
            go_num
          · intro t ht
            rw [List.take_add_one,HS.out] at ht
            rcases List.mem_append.1 ht with ht | ht
            · exact HP0.out t ht
            · obtain rfl : t = s:=by simpa using ht
              exact HZ.out
          · rw [List.map_append,HP1.out,List.take_add_one,HS.out]
            simp
         case measure => simp [intOf];have:=HJ.out;omega
       · exact absurd (HFX.out s HSm.out) hz
     · obtain rfl : k = ss.length:=by omega
       have hjn : j = n:=by have:=Hn.out;omega
       have d1 : decide ((j : Int) < (n : Int)) = false:=by simp;omega
       have d1n : decide (j < n) = false:=by simp;omega
       obtain ⟨ps,vv,X,hp0,hp1,hp2⟩:=AI.out
       rw [List.take_length] at hp0 hp1
       obtain ⟨Y,y1,y2,y3,ya⟩:=all_end H1.out hp1 hp2
       subst y1
       have HY:=hid (show fstC F (ss.map XS.s) = 0 ∧ ∃ Y2 : YX,Y2.yb = Y.yb ∧ Y2.ys.length = ss.length ∧ Y2.xs = ss.map XS.x ∧ YA w (l ++ xssC ss) _ l Y2 (ss.map fun s => mf s.s) 0 from ⟨fstC_zero (by
        intro t ht
        obtain ⟨s,hs,rfl⟩:=List.mem_map.1 ht
        exact hp0 s hs),Y,rfl,y2,y3,ya⟩)
       clear hp0 hp1 hp2 y2 y3 ya AI HC HT0' HT1' hjn hlt hk hj HJ
       go_wp2_with fail
       go_ret2
       obtain ⟨z1,Y2,z2,z3,z4,z5⟩:=HY.out
       exact .inl ⟨z1,Y2,by rw [z2];rfl,z3,z4,z5⟩
theorem xall_Open {w : World} {l : List Res} {ss : List XS} {v : Value} {B i0 : Nat} (mf : Sys → MS) (F : Sys → Int) (h : Held w (l ++ xssC ss)) (hi : l[i0]? = some (Res.own 1 v (2 * ss.length) (rowD (ss.map XS.x)) (some B))) (h1 : 1 ≤ ss.length) (h8 : ss.length ≤ 8)
 (HT0 : ∀ s ∈ ss,F s.s = 0 → ∀ (l1 : List Res) (w1 : World),Held w1 (l1 ++ xsC s) → Calls Tryz.prog 27 #[.pointer (some ⟨s.x false,0,none⟩),.pointer (some ⟨s.x true,0,none⟩)] w1 fun e w' => ∃ m db ib GG',e = .returned (.tuple #[.pointer (some ⟨m,0,none⟩),.int .i64 0]) ∧ Ev w1 (l1 ++ xsC s) w' (l1 ++ xpC ⟨m,db,ib,s.x,GG',mf s.s⟩))
 (HT1 : ∀ s ∈ ss,F s.s ≠ 0 → ∀ (l1 : List Res) (w1 : World),Held w1 (l1 ++ xsC s) → Calls Tryz.prog 27 #[.pointer (some ⟨s.x false,0,none⟩),.pointer (some ⟨s.x true,0,none⟩)] w1 fun e w' => ∃ GG',e = .returned (.tuple #[.pointer none,.int .i64 (F s.s)]) ∧ Ev w1 (l1 ++ xsC s) w' (l1 ++ xsC ⟨s.x,GG',s.s⟩))
 (hfix : ∀ s ∈ ss,F s.s ≠ 0 → ∀ t ∈ ss,(mf t.s).s = t.s) :
 Calls Tryz.prog 6 #[v,.bool true] w fun e w' => (fstC F (ss.map XS.s) = 0 ∧ ∃ Y : YX,e = .returned (.tuple #[.pointer (some ⟨Y.yb,0,none⟩),.int .i64 0]) ∧ Y.ys.length = ss.length ∧ Y.xs = ss.map XS.x ∧ YA w (l ++ xssC ss) w' l Y (ss.map fun s => mf s.s) 0) ∨
  (fstC F (ss.map XS.s) ≠ 0 ∧ e = .returned (.tuple #[.pointer none,.int .i64 (fstC F (ss.map XS.s))]) ∧ ∃ ss',ss'.map XS.x = ss.map XS.x ∧ ss'.map XS.s = ss.map XS.s ∧ Ev w (l ++ xssC ss) w' (l ++ xssC ss')):=by
 obtain ⟨i9,z9,hi9,hz9,hs9,hb9,hzc9⟩:=infXm
 have Hi:=hid hi9
 have Hz:=hid hz9
 have Hs:=hid hs9
 have Hb:=hid hb9
 have Hzc:=hid hzc9
 clear hi9 hz9 hs9 hb9 hzc9
 have ho0:=h.ownAt i0 (by rw [List.getElem?_append_left (List.getElem?_eq_some_iff.1 hi).1];exact hi)
 obtain ⟨c,hv,hnc,hcm⟩ : ∃ c,v = .slice (some ⟨B,0,none⟩) (2 * ss.length) c ∧ 2 * ss.length ≤ c ∧ c ≤ maxLen:=by
  rcases ho0.shape with ⟨h0,_⟩ | ⟨b,cap,hb1,h1,h2,h3⟩
  · omega
  · cases hb1
    exact ⟨cap,h1,h2,h3⟩
 subst hv
 have HH:=hid h
 have HC:=hid fun (w1 : World) (H T : List Res) (h1 : Held w1 (H ++ (l ++ T))) (i : Nat) (q : XS × Bool) (hq : (dsX ss)[i]? = some q) => (show w1.cell? ⟨B,i,none⟩ = some (.pointer (some ⟨q.1.x q.2,0,none⟩)) from by
  have h2 : (H ++ (l ++ T))[H.length + i0]? = some (Res.own 1 (.slice (some ⟨B,0,none⟩) (2 * ss.length) c) (2 * ss.length) (rowD (ss.map XS.x)) (some B)):=by
   rw [List.getElem?_append_right (by omega),Nat.add_sub_cancel_left,List.getElem?_append_left (List.getElem?_eq_some_iff.1 hi).1]
   exact hi
  have hlt : i < 2 * ss.length:=by rw [← dsX_len];exact (List.getElem?_eq_some_iff.1 hq).1
  obtain ⟨b,off,c2,hB,hv2,_,_,_,h4⟩:=((h1.ownAt _ h2).rd.rc).some (by omega)
  obtain ⟨⟨rfl,rfl⟩,_⟩ : (B = b ∧ 0 = off) ∧ c = c2:=by simpa using hv2
  have hr : (rowD (ss.map XS.x))[i]? = some (.pointer (some ⟨q.1.x q.2,0,none⟩)):=by rw [dsX_row,List.getElem?_map,hq];rfl
  have:=h4 i (List.getElem?_eq_some_iff.1 hr).1
  rw [Nat.zero_add] at this
  rw [this,hr])
 have HE:=hid fun (w1 : World) (f : Fr [] w w1) (i k : Nat) (q p : XS × Bool) (hi : (dsX ss)[i]? = some q) (hk : (dsX ss)[k]? = some p) (hlt : k < i) => xss_ne (h.keep0 f) hi hk hlt
 have HT0':=hid HT0
 have HT1':=hid HT1
 have HFX:=hid hfix
 have H1:=hid h1
 obtain ⟨n,hn⟩ : ∃ n,2 * ss.length = n:=⟨_,rfl⟩
 have Hn:=hid hn
 rw [hn] at hnc ⊢
 have hn16 : n ≤ 16:=by omega
 have hn2 : 2 ≤ n:=by omega
 have a1 : decide ((n : Int) < 2) = false:=by simp;omega
 have a2 : decide ((16 : Int) < (n : Int)) = false:=by simp;omega
 have a3 : (n : Int).tmod 2 = 0:=by rw [← hn,Int.tmod_eq_emod_of_nonneg (by omega)];omega
 have a4 : decide (n < 2) = false:=by simp;omega
 have a5 : decide (16 < n) = false:=by simp;omega
 clear ho0 h hn h8 hi HT0 HT1 hfix h1
 go_enter Tryz.func6,Tryz.ntmps6
 go_wp2_with fail
 clear a1 a2 a3 a4 a5
 go_loopw [6] (fun iv wr => ∃ i : Nat,i ≤ n ∧ iv = .int .i64 (i : Int) ∧ Hid (Fr [] w wr)) (fun iv _ => n - (intOf iv).toNat)
 case atStart => exact ⟨0,Nat.zero_le _,rfl,hid (Fr.refl _ _)⟩
 case round =>
  obtain ⟨i,hi,rfl,FF⟩:=hrel
  by_cases hlt : i < n
  · have d1 : decide ((i : Int) < (n : Int)) = true:=by simp;omega
    have d1n : decide (i < n) = true:=by simp;omega
    obtain ⟨qi,hqi⟩ : ∃ q,(dsX ss)[i]? = some q:=⟨_,List.getElem?_eq_getElem (by rw [dsX_len];have:=Hn.out;omega)⟩
    have HQI:=hid hqi
    clear hqi
    go_wp2_with fail
    go_loopw [7] (fun kv wr => ∃ k : Nat,k ≤ i ∧ kv = .int .i64 (k : Int) ∧ Hid (Fr [] w wr)) (fun kv _ => i - (intOf kv).toNat)
    case atStart => exact ⟨0,Nat.zero_le _,rfl,FF⟩
    case round =>
     obtain ⟨k,hk,rfl,G⟩:=hrel
     clear FF
     by_cases hki : k < i
     · have d2 : decide ((k : Int) < (i : Int)) = true:=by simp;omega
       have d2n : decide (k < i) = true:=by simp;omega
       obtain ⟨qk,hqk⟩ : ∃ q,(dsX ss)[k]? = some q:=⟨_,List.getElem?_eq_getElem (by rw [dsX_len];have:=Hn.out;omega)⟩
       have G1:=hid G.out.drew
       have hH : Held _ ([] ++ (l ++ xssC ss)):=HH.out.keep0 G1.out
       have hS:=And.intro (HC.out _ [] _ hH i qi HQI.out) (And.intro (HC.out _ [] _ hH k qk hqk) (HE.out _ G1.out i k qi qk HQI.out hqk hki))
       generalize qi.1.x qi.2 = pa at *
       generalize qk.1.x qk.2 = pb at *
       clear hH hqk
       go_wp2_with fail
       refine wp_region_D (fun w' => w'.cell? ⟨B,i,none⟩ = some (.pointer (some ⟨pa,0,none⟩)) ∧ w'.cell? ⟨B,k,none⟩ = some (.pointer (some ⟨pb,0,none⟩)) ∧ (binOp .eql 39 (.pointer (some ⟨pa,0,none⟩)) (.pointer (some ⟨pb,0,none⟩))).run Tryz.prog w' = .ok (.bool false) w') false [] (by kernel_rfl) ?_
       refine WD.pure [0,1,2,3,4,5,6,7,8] (by kernel_rfl) hS ?_
       simp only [pick,aF,aG,aI,aJ,aK]
       repeat (first | (refine quiet_load_1R (by rfl) _ _ rfl rfl (.pointer (some ⟨pa,0,none⟩)) (fun wq h => h.1) _ Tryz.underlying39 rfl ?_;simp only [aA,aB,Act.put,aC,aD,aE]) | (refine quiet_load_1R (by rfl) _ _ rfl rfl (.pointer (some ⟨pb,0,none⟩)) (fun wq h => h.2.1) _ Tryz.underlying39 rfl ?_;simp only [aA,aB,Act.put,aC,aD,aE]) | (refine quiet_bin_S (by rfl) _ _ _ _ _ rfl _ _ rfl rfl (.bool false) (fun _ => rfl) (fun wq h => h.2.2) ?_;simp only [aA,aB,Act.put,aC,aD,aE]) | go_big_quiet_step (fail))
       refine wpQuiet_nil ?_
       refine WD.done (by kernel_rfl) ?_
       go_wp2_with fail
       go_roundw
       case rel => exact ⟨k + 1,by omega,by go_num,G1⟩
       case measure => simp [intOf];omega
     · have d2 : decide ((k : Int) < (i : Int)) = false:=by simp;omega
       have d2n : decide (k < i) = false:=by simp;omega
       go_wp2_with fail
       go_roundw
       case rel => exact ⟨i + 1,by omega,by go_num,G⟩
       case measure => simp [intOf];omega
  · have d1 : decide ((i : Int) < (n : Int)) = false:=by simp;omega
    have d1n : decide (i < n) = false:=by simp;omega
    clear hlt hi HE
    go_wp2_with (refine wpList_box rfl _ _ rfl [.slice none 0 0,.int .i64 0] rfl ?_;intro w1 f1 hlt1 hb1;have E1:=hid (((Ev.refl HH.out).step FF.out).new f1 (Res.On.blk hb1) (fun b hb => by simp [Res.blk] at hb;omega));clear hb1 f1 hlt1;(try simp only [aA,aB,Act.put,aC,aD,aE]))
    generalize World.heap _ = hp at *
    obtain ⟨yb,hyb⟩ : ∃ yb,hp.size = yb:=⟨_,rfl⟩
    rw [hyb] at E1 ⊢
    have A0 : Hid (AllI w yb l ss mf F 0 w1):=hid ⟨[],.slice none 0 0,none,by simp,rfl,E1.out.new (Fr.refl [] _) (Res.On.own (Own.nil _ 1)) (by simp [Res.own])⟩
    clear E1 hyb FF d1 d1n
    go_loopw [9] (fun iv wr => ∃ k : Nat,k ≤ ss.length ∧ iv = .int .i64 ((2 * k : Nat) : Int) ∧ Hid (AllI w yb l ss mf F k wr)) (fun iv _ => n - (intOf iv).toNat)
    case atStart => exact ⟨0,Nat.zero_le _,rfl,A0⟩
    case round =>
     obtain ⟨k,hk,rfl,AI⟩:=hrel
     clear A0
     obtain ⟨j,hj⟩ : ∃ j,2 * k = j:=⟨_,rfl⟩
     have HJ:=hid hj
     rw [hj]
     by_cases hlt : k < ss.length
     · have hj14 : j + 2 ≤ n:=by have:=Hn.out;omega
       have d1 : decide ((j : Int) < (n : Int)) = true:=by simp;omega
       have d1n : decide (j < n) = true:=by simp;omega
       obtain ⟨s,hs⟩ : ∃ s,ss[k]? = some s:=⟨_,List.getElem?_eq_getElem hlt⟩
       obtain ⟨q1,q2⟩:=dsX_get ss k s hs
       rw [hj] at q1 q2
       have HQ1:=hid q1
       have HQ2:=hid q2
       obtain ⟨ps,vv,X,hp0,hp1,hp2⟩:=AI.out
       have HP0:=hid hp0
       have HP1:=hid hp1
       have HP2:=hid hp2
       have HS:=hid hs
       have HSm:=hid (List.mem_of_getElem? hs)
       have hps8 : ps.length ≤ 8:=by
        have h:=congrArg List.length hp1
        rw [List.length_map,List.length_map,List.length_take] at h
        have:=Hn.out
        omega
       have HCC:=hid fun (w1 : World) (H T : List Res) (h1 : Held w1 (H ++ (l ++ T))) => (show w1.cell? ⟨B,j,none⟩ = some (.pointer (some ⟨s.x false,0,none⟩)) ∧ w1.cell? ⟨B,j + 1,none⟩ = some (.pointer (some ⟨s.x true,0,none⟩)) from ⟨HC.out w1 H T h1 j _ HQ1.out,HC.out w1 H T h1 (j + 1) _ HQ2.out⟩)
       have E0:=hid (Ev.refl hp2.held)
       obtain ⟨c0,c1⟩:=HCC.out _ _ _ E0.out.held
       clear hp0 hp1 hp2 q1 q2 hs hj HQ1 HQ2
       by_cases hz : F s.s = 0
       · have HTs:=hid fun (l1 : List Res) (w1 : World) (hh : Held w1 (l1 ++ xsC s)) => HT0'.out s HSm.out hz l1 w1 hh
         have HZ:=hid hz
         clear hz
         go_wp2_with (first
          | (go_at_call 26;refine nil2_true.mono ?_;rintro e w1' ⟨d2,GG2,rfl,v1⟩;have V1:=hid (v1 _ E0.out.held);clear v1)
          | (go_at_call 25;refine (make_spare V1.out.held).mono ?_;rintro e w2 ⟨m2,rfl,v2⟩;have V2:=hid ((V1.out.trans v2).step (Fr.refl [] w2).drew);clear v2 V1 c0 c1;have nst:=hid trivial;revert nst))
         intro _
         have hS:=HCC.out _ _ _ V2.out.held
         have E1:=hid (Ev.perm V2.out (aR_out _ l ps HS.out))
         go_wp2_with fail
         refine wp_region_D (fun w' => w'.cell? ⟨B,j,none⟩ = some (.pointer (some ⟨s.x false,0,none⟩)) ∧ w'.cell? ⟨B,j + 1,none⟩ = some (.pointer (some ⟨s.x true,0,none⟩))) false [] (by kernel_rfl) ?_
         refine WD.pure [0,1,2,3,4,5,6,7,8] (by kernel_rfl) hS ?_
         simp only [pick,aF,aG,aI,aJ,aK]
         repeat (first | (refine quiet_load_1R (by rfl) _ _ rfl rfl (.pointer (some ⟨s.x false,0,none⟩)) (fun wq h => h.1) _ Tryz.underlying39 rfl ?_;simp only [aA,aB,Act.put,aC,aD,aE]) | (refine quiet_load_1R (by rfl) _ _ rfl rfl (.pointer (some ⟨s.x true,0,none⟩)) (fun wq h => h.2) _ Tryz.underlying39 rfl ?_;simp only [aA,aB,Act.put,aC,aD,aE]) | go_big_quiet_step (fail))
         refine wpQuiet_nil ?_
         refine WD.eff 9 (by kernel_rfl) ?_
         simp only [pick,aF,aG,aI,aJ,aK]
         go_wp2_with (go_at_call 27;refine (HTs.out _ _ E1.out.held).mono ?_;rintro e w3 ⟨m,db,ib,GG',rfl,e2⟩;have E2:=hid (E1.out.trans e2);clear e2 E1 HTs)
         have hS3:=HCC.out w3 (aH yb vv ps X) ((xpsC ps ++ xssC (ss.drop (k + 1))) ++ xpC ⟨m,db,ib,s.x,GG',mf s.s⟩) (by have:=E2.out.held;simpa [List.append_assoc] using this)
         try refine wpList_nil ?_
         refine AfterD.on hS3 (by kernel_rfl) ?_
         try simp only [aA,aB,Act.put,aC,aD,aE]
         refine WD.pure [10,11,12,13,14] (by kernel_rfl) hS3 ?_
         simp only [pick,aF,aG,aI,aJ,aK]
         repeat (first | go_big_quiet_step (fail))
         refine wpQuiet_nil ?_
         refine WD.done (by kernel_rfl) ?_
         have E3:=hid (Ev.perm E2.out (aR_in _ l ss ps k ⟨m,db,ib,s.x,GG',mf s.s⟩))
         have by3 : Blk w3 yb [vv,.int .i64 0]:=E3.out.held.blkAt 1 rfl
         have o3 : Xr.Own w3 1 vv (xmV ps).length (xmV ps) X:=E3.out.held.ownAt 0 rfl
         have ky : w3.cell? ⟨yb,0,none⟩ = some vv:=by3.cell 0
         have hle1 : (xmV ps).length + 1 ≤ maxLen:=by unfold maxLen;simp [xmV];omega
         have hle2 : ((xmV ps).length + 1) * 8 ≤ 140737488355328:=by simp [xmV];omega
         clear E2 E0
         go_wp2_with (first
          | (refine wpList_buildSlice_r rfl _ 1 _ rfl 62 Tryz.underlying52 _ _ Hi.out Hz.out Hzc.out Hs.out (by decide) (by decide) (by decide) [.pointer (some ⟨m,0,none⟩)] rfl (by intro v hv;simp at hv;rcases hv with rfl;rfl) ?_
             intro w10 f10 hlt10 hb10
             have o10:=o3.keep f10 (by simp)
             simp only [aA,aB,Act.put,aC,aD,aE])
          | (refine wpList_append_rc (u:=.slice (some ⟨w3.heap.size,0,none⟩) 1 1) (m:=1) (v:=vv) (n:=(xmV ps).length) (xs:=xmV ps) (B:=X) (XB:=some w3.heap.size) (w:=w10) (news:=[.pointer (some ⟨m,0,none⟩)]) rfl _ _ _ rfl 62 _ _ 1 8 Tryz.underlying52 Hi.out Hz.out Hs.out Hb.out Hzc.out (by decide) rfl o10 rfl (rc_blk (n:=1) (xs:=[.pointer (some ⟨m,0,none⟩)]) hb10 rfl (by simp [maxLen])) (by intro u hu;simp at hu;rw [hu];rfl) hle1 hle2 ?_
             intro v11 w11 X11 ho11 f11 hX11
             have ho12 : Xr.Own w11 1 v11 (xmV (ps ++ [⟨m,db,ib,s.x,GG',mf s.s⟩])).length (xmV (ps ++ [⟨m,db,ib,s.x,GG',mf s.s⟩])) X11:=by
              have e : xmV (ps ++ [⟨m,db,ib,s.x,GG',mf s.s⟩]) = xmV ps ++ [.pointer (some ⟨m,0,none⟩)]:=by simp [xmV,pv]
              rw [e,List.length_append]
              exact ho11
             have E11:=hid ((E3.out.step f10).at 0 rfl f11 (fun b hb => .inl hb) (Res.On.own ho12) (fun b hb => by
              rcases hX11 with rfl | ⟨b',rfl,hb'⟩
              · exact .inl hb
              · obtain rfl : b = b':=by simpa [Res.own] using hb
                exact .inr hb'))
             have hv11 : v11.oneCell' = true:=by obtain ⟨_,_,rfl⟩:=ho11.isSlice;rfl
             have b11 : Blk w11 yb [vv,.int .i64 0]:=E11.out.held.blkAt 1 rfl
             clear by3 o3 ky o10 f10 f11 ho11 ho12 hb10 hX11 E3
             simp only [aA,aB,Act.put,aC,aD,aE])
          | (refine wpList_put rfl _ _ _ rfl rfl v11 rfl hv11 b11 (by simp) (by kernel_rfl) ?_;intro w12 f12 b12 hs12;have b13 : Blk w12 yb [v11,.int .i64 0]:=b12;have E12:=hid (E11.out.at 1 rfl f12 (fun b hb => .inl hb) (Res.On.blk b13) (fun b hb => .inl hb));clear b11 b12 b13 f12 hs12 E11;simp only [aA,aB,Act.put,aC,aD,aE]))
         have E13:=hid (show Ev wr (aR (aH yb vv ps X) l ss ps k) w12 (aR (aH yb v11 (ps ++ [⟨m,db,ib,s.x,GG',mf s.s⟩]) X11) l ss (ps ++ [⟨m,db,ib,s.x,GG',mf s.s⟩]) (k + 1)) from E12.out)
         go_roundw
         case rel =>
          refine ⟨k + 1,by omega,?_,hid ⟨ps ++ [⟨m,db,ib,s.x,GG',mf s.s⟩],v11,X11,?_,?_,HP2.out.trans E13.out⟩⟩
          · rw [show 2 * (k + 1) = j + 2 by have:=HJ.out;omega]
            go_num
          · intro t ht
            rw [List.take_add_one,HS.out] at ht
            rcases List.mem_append.1 ht with ht | ht
            · exact HP0.out t ht
            · obtain rfl : t = s:=by simpa using ht
              exact HZ.out
          · rw [List.map_append,HP1.out,List.take_add_one,HS.out]
            simp
         case measure => simp [intOf];have:=HJ.out;omega
       · have HTs:=hid fun (l1 : List Res) (w1 : World) (hh : Held w1 (l1 ++ xsC s)) => HT1'.out s HSm.out hz l1 w1 hh
         have HFS : Hid (fstC F (ss.map XS.s) = F s.s):=hid (fstC_at (k:=k) (s:=s.s) (fun t ht => by
          rw [← List.map_take] at ht
          obtain ⟨r,hr,rfl⟩:=List.mem_map.1 ht
          exact HP0.out r hr) (map_get rfl HS.out) hz)
         have HZ:=hid hz
         obtain ⟨cc,hcc⟩ : ∃ cc,F s.s = cc:=⟨_,rfl⟩
         rw [hcc] at HTs HFS
         have u0 : (cc != 0) = true:=by rw [← hcc];simpa using hz
         have HCZ:=hid (show cc ≠ 0 by rw [← hcc];exact hz)
         clear hz hcc
         go_wp2_with (first
          | (go_at_call 26;refine nil2_true.mono ?_;rintro e w1' ⟨d2,GG2,rfl,v1⟩;have V1:=hid (v1 _ E0.out.held);clear v1)
          | (go_at_call 25;refine (make_spare V1.out.held).mono ?_;rintro e w2 ⟨m2,rfl,v2⟩;have V2:=hid ((V1.out.trans v2).step (Fr.refl [] w2).drew);clear v2 V1 c0 c1;have nst:=hid trivial;revert nst))
         intro _
         have hS:=HCC.out _ _ _ V2.out.held
         have E1:=hid (Ev.perm V2.out (aR_out _ l ps HS.out))
         go_wp2_with fail
         refine wp_region_D (fun w' => w'.cell? ⟨B,j,none⟩ = some (.pointer (some ⟨s.x false,0,none⟩)) ∧ w'.cell? ⟨B,j + 1,none⟩ = some (.pointer (some ⟨s.x true,0,none⟩))) false [] (by kernel_rfl) ?_
         refine WD.pure [0,1,2,3,4,5,6,7,8] (by kernel_rfl) hS ?_
         simp only [pick,aF,aG,aI,aJ,aK]
         repeat (first | (refine quiet_load_1R (by rfl) _ _ rfl rfl (.pointer (some ⟨s.x false,0,none⟩)) (fun wq h => h.1) _ Tryz.underlying39 rfl ?_;simp only [aA,aB,Act.put,aC,aD,aE]) | (refine quiet_load_1R (by rfl) _ _ rfl rfl (.pointer (some ⟨s.x true,0,none⟩)) (fun wq h => h.2) _ Tryz.underlying39 rfl ?_;simp only [aA,aB,Act.put,aC,aD,aE]) | go_big_quiet_step (fail))
         refine wpQuiet_nil ?_
         refine WD.eff 9 (by kernel_rfl) ?_
         simp only [pick,aF,aG,aI,aJ,aK]
         go_wp2_with (go_at_call 27;refine (HTs.out _ _ E1.out.held).mono ?_;rintro e w3 ⟨GG',rfl,e2⟩;have E2:=hid (E1.out.trans e2);clear e2 E1 HTs)
         have hS3:=HCC.out w3 (aH yb vv ps X) ((xpsC ps ++ xssC (ss.drop (k + 1))) ++ xsC ⟨s.x,GG',s.s⟩) (by have:=E2.out.held;simpa [List.append_assoc] using this)
         try refine wpList_nil ?_
         refine AfterD.on hS3 (by kernel_rfl) ?_
         try simp only [aA,aB,Act.put,aC,aD,aE]
         refine WD.pure [10,11,12,13,14] (by kernel_rfl) hS3 ?_
         simp only [pick,aF,aG,aI,aJ,aK]
         repeat (first | go_big_quiet_step (fail))
         refine wpQuiet_nil ?_
         refine WD.done (by kernel_rfl) ?_
         go_wp2_with fail
         go_ret2
         have hmm : ∀ p ∈ ps,p.M.s ∈ ss.map XS.s:=fun p hp => by
          have h1 : (p.x,p.M) ∈ ps.map (fun p : XP => (p.x,p.M)):=List.mem_map.2 ⟨p,hp,rfl⟩
          rw [HP1.out] at h1
          obtain ⟨t,ht,e⟩:=List.mem_map.1 h1
          have e2 : mf t.s = p.M:=(Prod.mk.inj e).2
          have htm:=List.mem_of_mem_take ht
          rw [← e2,HFX.out s HSm.out HZ.out t htm]
          exact List.mem_map.2 ⟨t,htm,rfl⟩
         have hps : ps.map XP.xs = (ps.map XP.xs):=rfl
         have hsx : (ps.map XP.xs).map XS.s = (ss.take k).map XS.s:=by
          rw [List.map_map]
          have h1:=congrArg (List.map fun q : (Bool → Nat) × MS => q.2.s) HP1.out
          rw [List.map_map,List.map_map] at h1
          refine (show _ = ps.map ((fun q : (Bool → Nat) × MS => q.2.s) ∘ fun p : XP => (p.x,p.M)) from rfl).trans (h1.trans ?_)
          refine List.map_congr_left fun t ht => ?_
          exact HFX.out s HSm.out HZ.out t (List.mem_of_mem_take ht)
         have hxx : (ps.map XP.xs).map XS.x = (ss.take k).map XS.x:=by
          rw [List.map_map]
          have h1:=congrArg (List.map fun q : (Bool → Nat) × MS => q.1) HP1.out
          rw [List.map_map,List.map_map] at h1
          exact h1
         have hsp : ss = ss.take k ++ s :: ss.drop (k + 1):=by
          obtain ⟨hl9,e9⟩:=List.getElem?_eq_some_iff.1 HS.out
          rw [← e9,← List.drop_eq_getElem_cons hl9,List.take_append_drop]
         have e3 : Ev w (l ++ xssC ss) w3 ((l ++ (xssC (ss.drop (k + 1)) ++ xsC ⟨s.x,GG',s.s⟩)) ++ xpsC ps):=by
          have e4:=HP2.out.trans E2.out
          have e5 : Ev w (l ++ xssC ss) w3 (aH yb vv ps X ++ (l ++ ((xpsC ps ++ xssC (ss.drop (k + 1))) ++ xsC ⟨s.x,GG',s.s⟩))):=by simpa [List.append_assoc] using e4
          refine Ev.perm (ev_mid e5) ?_
          rw [List.append_assoc l,List.append_assoc (xpsC ps)]
          exact (List.perm_append_comm).append_left l
         have e6:=yps_drop ps (l ++ (xssC (ss.drop (k + 1)) ++ xsC ⟨s.x,GG',s.s⟩)) e3
         refine .inr ⟨by rw [HFS.out];exact HCZ.out,by rw [HFS.out];rfl,ps.map XP.xs ++ ⟨s.x,GG',s.s⟩ :: ss.drop (k + 1),?_,?_,?_⟩
         · rw [List.map_append,hxx]
           conv => rhs;rw [hsp]
           simp
         · rw [List.map_append,hsx]
           conv => rhs;rw [hsp]
           simp
         · refine Ev.perm e6 ?_
           have e7 : xssC (ps.map XP.xs ++ ⟨s.x,GG',s.s⟩ :: ss.drop (k + 1)) = xssC (ps.map XP.xs) ++ (xsC ⟨s.x,GG',s.s⟩ ++ xssC (ss.drop (k + 1))):=by simp [xssC]
           rw [e7,List.append_assoc]
           refine List.Perm.append_left l ?_
           exact List.perm_append_comm.trans (List.Perm.append_left _ List.perm_append_comm)
     · obtain rfl : k = ss.length:=by omega
       have hjn : j = n:=by have:=Hn.out;omega
       have d1 : decide ((j : Int) < (n : Int)) = false:=by simp;omega
       have d1n : decide (j < n) = false:=by simp;omega
       obtain ⟨ps,vv,X,hp0,hp1,hp2⟩:=AI.out
       rw [List.take_length] at hp0 hp1
       obtain ⟨Y,y1,y2,y3,ya⟩:=all_end H1.out hp1 hp2
       subst y1
       have HY:=hid (show fstC F (ss.map XS.s) = 0 ∧ ∃ Y2 : YX,Y2.yb = Y.yb ∧ Y2.ys.length = ss.length ∧ Y2.xs = ss.map XS.x ∧ YA w (l ++ xssC ss) _ l Y2 (ss.map fun s => mf s.s) 0 from ⟨fstC_zero (by
        intro t ht
        obtain ⟨s,hs,rfl⟩:=List.mem_map.1 ht
        exact hp0 s hs),Y,rfl,y2,y3,ya⟩)
       clear hp0 hp1 hp2 y2 y3 ya AI HC HT0' HT1' hjn hlt hk hj HJ
       go_wp2_with fail
       go_ret2
       obtain ⟨z1,Y2,z2,z3,z4,z5⟩:=HY.out
       exact .inl ⟨z1,Y2,by rw [z2];rfl,z3,z4,z5⟩
attribute [local go_sem] Oper.semAt_some
def OfJ (w : World) (c3 c4 c5 c6 : Nat) (tv : Value) (l : List Res) (ss : List VS) (mf : Sys → MS) (F : Sys → Int) (bad : List Nat) (k : Nat) (W : World) : Prop :=
 (∀ s ∈ ss.take k,F s.s = 0) ∧ OfI w c3 c4 c5 c6 tv l ss mf bad k W
def OfY (w : World) (c4 c5 : Nat) (l : List Res) (ss : List VS) (F : Sys → Int) (bad : List Nat) (W : World) : Prop :=
 fstC F (ss.map VS.s) ≠ 0 ∧ ∃ ss' : List VS,ss'.map VS.d = ss.map VS.d ∧ ss'.map VS.s = ss.map VS.s ∧ Ev w (l ++ vssC ss) W ([Res.blk c5 [.int .i64 (fstC F (ss.map VS.s))],Res.blk c4 [.pointer none]] ++ (l ++ vssC ss')) ∧ ∀ b ∈ feetOf ([Res.blk c5 [.int .i64 (fstC F (ss.map VS.s))],Res.blk c4 [.pointer none]] ++ (l ++ vssC ss')),b ∉ bad
theorem OfJ.keep {w A B : World} {c3 c4 c5 c6 k : Nat} {tv : Value} {l : List Res} {ss : List VS} {mf : Sys → MS} {F : Sys → Int} {bad S : List Nat} (h : OfJ w c3 c4 c5 c6 tv l ss mf F bad k A) (f : Fr S A B) (hS : ∀ b ∈ S,w.heap.size ≤ b ∧ b ∈ bad) : OfJ w c3 c4 c5 c6 tv l ss mf F bad k B :=
 ⟨h.1,h.2.keep f hS⟩
theorem OfY.keep {w A B : World} {c4 c5 : Nat} {l : List Res} {ss : List VS} {F : Sys → Int} {bad S : List Nat} (h : OfY w c4 c5 l ss F bad A) (f : Fr S A B) (hS : ∀ b ∈ S,w.heap.size ≤ b ∧ b ∈ bad) : OfY w c4 c5 l ss F bad B:=by
 obtain ⟨h0,ss',h1,h2,h3,h4⟩:=h
 exact ⟨h0,ss',h1,h2,Ev.skip h3 f (fun b hb => ⟨(hS b hb).1,fun hf => h4 b hf (hS b hb).2⟩),h4⟩
theorem of_fell {w0 w : World} {rs l : List Res} {ss : List VS} {ps : List VP} {mf : Sys → MS} {k c3 c4 c5 c6 : Nat} {s : VS} {FF' : Bool → List Nat} {v tv cv : Value} {n : Nat} {xs : List Value} {X : Option Nat}
 (hp : ps.map (fun p => (p.d,p.M)) = (ss.take k).map (fun s => (s.d,mf s.s))) (hfix : ∀ t ∈ ss,(mf t.s).s = t.s) (hs : ss[k]? = some s)
 (e : Ev w0 rs w ([Res.own 1 v n xs X,Res.blk c6 [v],Res.blk c5 [cv],Res.blk c4 [.pointer none],Res.blk c3 [tv]] ++ (l ++ ((vpsC ps ++ vssC (ss.drop (k + 1))) ++ vsC ⟨s.d,FF',s.s⟩)))) :
 ∃ ss' : List VS,ss'.map VS.d = ss.map VS.d ∧ ss'.map VS.s = ss.map VS.s ∧ Ev w0 rs w ([Res.blk c5 [cv],Res.blk c4 [.pointer none]] ++ (l ++ vssC ss')):=by
 have hsx : (ps.map VP.vs).map VS.s = (ss.take k).map VS.s:=by
  rw [List.map_map]
  have h1:=congrArg (List.map fun q : (Bool → Nat) × MS => q.2.s) hp
  rw [List.map_map,List.map_map] at h1
  refine (show _ = ps.map ((fun q : (Bool → Nat) × MS => q.2.s) ∘ fun p : VP => (p.d,p.M)) from rfl).trans (h1.trans ?_)
  refine List.map_congr_left fun t ht => ?_
  exact hfix t (List.mem_of_mem_take ht)
 have hxx : (ps.map VP.vs).map VS.d = (ss.take k).map VS.d:=by
  rw [List.map_map]
  have h1:=congrArg (List.map fun q : (Bool → Nat) × MS => q.1) hp
  rw [List.map_map,List.map_map] at h1
  exact h1
 have hsp : ss = ss.take k ++ s :: ss.drop (k + 1):=by
  obtain ⟨hl9,e9⟩:=List.getElem?_eq_some_iff.1 hs
  rw [← e9,← List.drop_eq_getElem_cons hl9,List.take_append_drop]
 have e1 : Ev w0 rs w (([Res.blk c5 [cv],Res.blk c4 [.pointer none]] ++ l ++ (vssC (ss.drop (k + 1)) ++ vsC ⟨s.d,FF',s.s⟩)) ++ vpsC ps):=by
  have e2:=Ev.less [Res.blk c5 [cv],Res.blk c4 [.pointer none]] (l ++ ((vpsC ps ++ vssC (ss.drop (k + 1))) ++ vsC ⟨s.d,FF',s.s⟩)) (Ev.less [] _ (Ev.less [] _ e))
  refine Ev.perm e2 ?_
  simp only [List.append_assoc]
  refine List.Perm.append_left _ (List.Perm.append_left l ?_)
  rw [← List.append_assoc (vssC _)]
  exact List.perm_append_comm
 have e3:=vps_drop ps _ e1
 refine ⟨ps.map VP.vs ++ ⟨s.d,FF',s.s⟩ :: ss.drop (k + 1),?_,?_,?_⟩
 · rw [List.map_append,hxx]
   conv => rhs;rw [hsp]
   simp
 · rw [List.map_append,hsx]
   conv => rhs;rw [hsp]
   simp
 · refine Ev.perm e3 ?_
   have e7 : vssC (ps.map VP.vs ++ ⟨s.d,FF',s.s⟩ :: ss.drop (k + 1)) = vssC (ps.map VP.vs) ++ (vsC ⟨s.d,FF',s.s⟩ ++ vssC (ss.drop (k + 1))):=by simp [vssC]
   rw [e7,List.append_assoc,List.append_assoc]
   refine List.Perm.append_left _ (List.Perm.append_left l ?_)
   exact List.perm_append_comm.trans (List.Perm.append_left _ List.perm_append_comm)
theorem of_both {w : World} {l : List Res} {ss : List VS} {v : Value} {B i0 : Nat} (mf : Sys → MS) (F : Sys → Int)
 (h : Held w (l ++ vssC ss)) (hi : l[i0]? = some (Res.own 1 v (dsOf ss).length (((dsOf ss).map some).map pv) (some B))) (h1 : 1 ≤ ss.length) (h8 : ss.length ≤ 8)
 (L : Nat) (hok : ∀ s ∈ ss,F s.s = 0 → SysOk (mf s.s).s ∧ (mf s.s).s.len false = L) (h2 : 2 ≤ L)
 (HT0 : ∀ s ∈ ss,F s.s = 0 → ∀ (l1 : List Res) (w1 : World),Held w1 (l1 ++ vsC s) → Calls Tryz.prog 31 #[.pointer (some ⟨s.d false,0,none⟩),.pointer (some ⟨s.d true,0,none⟩)] w1 fun e w' => ∃ m FF',e = .returned (.tuple #[.pointer (some ⟨m,0,none⟩),.int .i64 0]) ∧ Ev w1 (l1 ++ vsC s) w' (l1 ++ mirC [] m s.d FF' (mf s.s)))
 (HT1 : ∀ s ∈ ss,F s.s ≠ 0 → ∀ (l1 : List Res) (w1 : World),Held w1 (l1 ++ vsC s) → Calls Tryz.prog 31 #[.pointer (some ⟨s.d false,0,none⟩),.pointer (some ⟨s.d true,0,none⟩)] w1 fun e w' => ∃ FF',e = .returned (.tuple #[.pointer none,.int .i64 (F s.s)]) ∧ Ev w1 (l1 ++ vsC s) w' (l1 ++ vsC ⟨s.d,FF',s.s⟩))
 (hfix : ∀ s ∈ ss,F s.s ≠ 0 → ∀ t ∈ ss,(mf t.s).s = t.s) :
 Calls Tryz.prog 23 #[v,.func (.func 31) #[] #[]] w fun e w' => (fstC F (ss.map VS.s) = 0 ∧ ∃ vb rb v' ps,e = .returned (.tuple #[.pointer (some ⟨vb,0,none⟩),.int .i64 0]) ∧ ps.map (fun p : VP => (p.d,p.M)) = ss.map (fun s => (s.d,mf s.s)) ∧ Ev w (l ++ vssC ss) w' (volR vb rb v' (ps.map VP.m) ((L : Int) - 1) 0 ++ (l ++ vpsC ps))) ∨
  (fstC F (ss.map VS.s) ≠ 0 ∧ e = .returned (.tuple #[.pointer none,.int .i64 (fstC F (ss.map VS.s))]) ∧ ∃ ss',ss'.map VS.d = ss.map VS.d ∧ ss'.map VS.s = ss.map VS.s ∧ Ev w (l ++ vssC ss) w' (l ++ vssC ss')):=by
 have hdl : (dsOf ss).length = 2 * ss.length:=by simp [dsOf,dsP_len]
 have ho0:=h.ownAt i0 (by rw [List.getElem?_append_left (List.getElem?_eq_some_iff.1 hi).1];exact hi)
 have TW:=hid fun (w1 : World) (f : Fr [] w w1) => twD_any (w:=w1) (v:=v) (xs:=(dsOf ss).map some) (LB:=some B) (by
  have:=(ho0.rd.rc).keep f (by simp)
  simpa using this) (fun x hx b hb => by
  subst hb
  obtain ⟨d,hd,e⟩:=List.mem_map.1 hx
  obtain rfl : d = b:=Option.some.inj e
  obtain ⟨q,hq,rfl⟩:=List.mem_map.1 hd
  exact (vss_dk (h.keep0 f) q hq).2) (by rw [List.length_map,hdl];omega)
 have ND:=hid (dup_none (vss_nodup h) ((dsOf ss).map some).length)
 have HH:=hid h
 have HT0':=hid HT0
 have HT1':=hid HT1
 have HFX:=hid hfix
 clear HT0 HT1 hfix
 have HO:=hid ho0
 obtain ⟨c,hv,hnc,hcm⟩ : ∃ c,v = .slice (some ⟨B,0,none⟩) (2 * ss.length) c ∧ 2 * ss.length ≤ c ∧ c ≤ maxLen:=by
  rcases ho0.shape with ⟨_,_,_,h1⟩ | ⟨b,cap,hb1,h1,h2,h3⟩
  · cases h1
  · cases hb1
    rw [hdl] at h1 h2
    exact ⟨cap,h1,h2,h3⟩
 subst hv
 obtain ⟨n,hn⟩ : ∃ n,2 * ss.length = n:=⟨_,rfl⟩
 have Hn:=hid hn
 rw [hn] at hnc ⊢
 have hn16 : n ≤ 16:=by omega
 have hn2 : 2 ≤ n:=by omega
 have a1 : decide ((n : Int) < 2) = false:=by simp;omega
 have a2 : decide ((16 : Int) < (n : Int)) = false:=by simp;omega
 have a3 : (n : Int).tmod 2 = 0:=by rw [← hn,Int.tmod_eq_emod_of_nonneg (by omega)];omega
 have a4 : decide (n < 2) = false:=by simp;omega
 have a5 : decide (16 < n) = false:=by simp;omega
 rw [hn] at TW
 clear hdl ho0 h hn h1 h8
 refine callsIn_wide.1 (callsIn_of_wp_marks (n:=3) Tryz.func23 rfl trivial ?_ rfl)
 refine wpIn_wide.2 ?_
 simp only [Tryz.ntmps23,List.size_toArray,List.length_cons,List.length_nil,Nat.reduceAdd,Nat.reduceSub,Array.replicate_succ,Array.replicate_zero,List.push_toArray,List.append_toArray,List.nil_append,List.cons_append]
 go_wp2_with fail
 obtain ⟨w1,hw1⟩ : ∃ w1,((w.alloc (.cells #[Value.func (.func 31) #[] #[]] 61)).alloc (.cells #[Value.pointer none] 27)).alloc (.cells #[Value.int .i64 0] 28) = w1:=⟨_,rfl⟩
 obtain ⟨c3,hc3⟩ : ∃ c3,w.heap.size = c3:=⟨_,rfl⟩
 have F1:=hid (show Fr [] w w1 by rw [← hw1];exact (((Fr.refl [] w).alloc _).alloc _).alloc _)
 rw [hw1]
 have E1:=hid (show Ev w (l ++ vssC ss) w1 (Res.blk (w.heap.size + 1 + 1) [.int .i64 0] :: Res.blk (w.heap.size + 1) [.pointer none] :: Res.blk w.heap.size [.func (.func 31) #[] #[]] :: (l ++ vssC ss)) by
  have g1:=(Ev.refl HH.out).new ((Fr.refl [] w).alloc _) (Res.On.blk (Blk.alloc w [Value.func (.func 31) #[] #[]] 61)) (by simp [Res.blk])
  have g2:=g1.new ((Fr.refl [] _).alloc _) (Res.On.blk (Blk.alloc _ [Value.pointer none] 27)) (by simp [Res.blk])
  have g3:=g2.new ((Fr.refl [] _).alloc _) (Res.On.blk (Blk.alloc _ [Value.int .i64 0] 28)) (by simp [Res.blk])
  rw [← hw1]
  simpa [World.size_alloc] using g3)
 have TW1:=hid (TW.out w1 F1.out)
 obtain ⟨c4,hc4⟩ : ∃ c4,c3 + 1 = c4:=⟨_,rfl⟩
 obtain ⟨c5,hc5⟩ : ∃ c5,c4 + 1 = c5:=⟨_,rfl⟩
 have hz1 : w1.heap.size = c5 + 1:=by rw [← hw1,← hc5,← hc4,← hc3];simp
 rw [hc3,hc4,hc5]
 rw [hc3,hc4,hc5] at E1
 clear hw1 TW
 go_wp2_with (first
  | (go_at_call 49;refine TW1.out.mono ?_;rintro e w6 ⟨b,rfl,hb,f6⟩;have hbf : b = false:=(by cases b;rfl;exact absurd (hb.1 rfl) ND.out);subst hbf;have F6:=hid f6;clear hb f6))
 go_wp2_with (go_at_call 50;refine chunk2_any.mono ?_;rintro e w7 ⟨cb,nb,rfl,hcb,hnb,hcb1,hcb2,hnb1,hnb2,f7⟩)
 clear TW1 ND
 obtain ⟨c6,hc6⟩ : ∃ c6,w6.heap.size = c6:=⟨_,rfl⟩
 have hs6:=F6.out.size
 have hc56 : c5 < c6:=by omega
 have b6:=Blk.alloc w6 [Value.slice none 0 0] 98
 have g6:=(E1.out.step F6.out).new ((Fr.refl [] w6).alloc _) (Res.On.blk b6) (by simp [Res.blk])
 have g7:=Ev.step (Ev.new g6 (Fr.refl [] _) (Res.On.own (Own.nil _ 1)) (by simp [Res.own])) f7
 rw [hc6] at g7 ⊢
 have hlow:=hid fun (b : Nat) (hb : b ∈ feetOf (ofR (ofH c3 c4 c5 c6 (.func (.func 31) #[] #[]) (.slice none 0 0) (mxs []) none) l ss [] 0)) => (show b < c6 + 1 from by
  have h:=(Ev.new g6 (Fr.refl [] _) (Res.On.own (Own.nil _ 1)) (by simp [Res.own])).held.ltAll b (by rw [hc6];exact hb)
  rw [World.size_alloc,hc6] at h
  exact h)
 rw [World.size_alloc,hc6] at hcb1 hnb1
 obtain ⟨M,hM⟩ : ∃ M,w7.heap.size = M:=⟨_,rfl⟩
 rw [hM] at hcb2 hnb2
 have hI0 : OfJ w c3 c4 c5 c6 (.func (.func 31) #[] #[]) l ss mf F [cb,nb,M,M + 1] 0 w7:=⟨by simp,[],_,none,rfl,g7,fun b hb => by
  have:=hlow.out b hb
  simp
  omega⟩
 have HI:=hid hI0
 have hseq:=chunk2_seq (w:=w7) (cb:=cb) (nb:=nb) hnc hcm (by omega) hcb hnb
 clear b6 g6 g7 hlow hI0 hcb hnb f7
 have HC:=hid fun (w1 : World) (hH : List Res × Unit) (T : List Res) (h1 : Held w1 (hH.1 ++ (l ++ T))) (i : Nat) (q : VS × Bool) (hq : (dsP ss)[i]? = some q) => (show w1.cell? ⟨B,i,none⟩ = some (.pointer (some ⟨q.1.d q.2,0,none⟩)) from by
  have h2 : (hH.1 ++ (l ++ T))[hH.1.length + i0]? = some (Res.own 1 (.slice (some ⟨B,0,none⟩) (2 * ss.length) c) (dsOf ss).length (((dsOf ss).map some).map pv) (some B)):=by
   rw [List.getElem?_append_right (by omega),Nat.add_sub_cancel_left,List.getElem?_append_left (List.getElem?_eq_some_iff.1 hi).1]
   exact hi
  have hlt : i < (dsOf ss).length:=by rw [dsOf,List.length_map];exact (List.getElem?_eq_some_iff.1 hq).1
  obtain ⟨b,off,c2,hB,hv2,_,_,_,h4⟩:=((h1.ownAt _ h2).rd.rc).some (by omega)
  obtain ⟨⟨rfl,rfl⟩,_⟩ : (B = b ∧ 0 = off) ∧ 2 * ss.length = (dsOf ss).length ∧ c = c2:=by simpa using hv2
  have:=h4 i (by simpa using hlt)
  rw [Nat.zero_add] at this
  rw [this]
  simp [dsOf,hq,pv])
 refine wpIn_wide.1 (wpIn_rangeFunc_M (n:=3) (gf:=76) rfl (enters_of Tryz.func76 (by kernel_rfl) rfl) hseq rfl ?hKeep (OfJ w c3 c4 c5 c6 (.func (.func 31) #[] #[]) l ss mf F [cb,nb,M,M + 1]) (OfY w c4 c5 l ss F [cb,nb,M,M + 1]) ?hI ?hIx HI.out (fun v => { tmps:=#[Value.slice (some ⟨B,0,none⟩) n c,.func (.func 31) #[] #[],undef,.pointer (some ⟨c3,0,none⟩),.pointer (some ⟨c4,0,none⟩),.pointer (some ⟨c5,0,none⟩),.pointer (some ⟨c6,0,none⟩),v,undef,undef,.bool false,.slice (some ⟨B,0,none⟩) n c,.int .i64 (n : Int),.bool false,.bool false,.slice (some ⟨B,0,none⟩) n c,.int .i64 (n : Int),.bool false,.bool false,.bool false,.slice (some ⟨B,0,none⟩) n c,.int .i64 (n : Int),.int .i64 0,.bool false,.bool false,.bool false,.slice (some ⟨B,0,none⟩) n c,.bool false,.slice (some ⟨B,0,none⟩) n c,.func (.func 76) #[] #[.pointer (some ⟨cb,0,none⟩),.pointer (some ⟨nb,0,none⟩)],v,undef,undef,undef,undef,undef,undef,undef,undef,undef,undef,undef,undef,undef,undef,undef,undef,undef,undef,undef,undef,undef,undef],defers:=[] }) ?assign ?body ?done ?stop)
 case hKeep =>
  rintro b (rfl | rfl) <;> omega
 case hI =>
  intro k A B h f
  rw [hM] at f
  exact h.keep f fun b hb => by simp at hb ⊢;omega
 case hIx =>
  intro A B h f
  rw [hM] at f
  exact h.keep f fun b hb => by simp at hb ⊢;omega
 case assign =>
  intro l' k W K hK
  gi_wp2
  exact hK
 case body =>
  intro l' k W hk hWs hI
  rw [hM] at hWs ⊢
  obtain ⟨hp0,ps,v,X,hp1,hp2,hp3⟩:=hI
  have HP0:=hid hp0
  clear hp0
  have hkl : k < ss.length:=by have:=Hn.out;omega
  obtain ⟨s,hs⟩ : ∃ s,ss[k]? = some s:=⟨_,List.getElem?_eq_getElem hkl⟩
  obtain ⟨q1,q2⟩:=dsP_get ss k s hs
  have HSf:=hid fun (w1 : World) (ps' : List VP) (k' : Nat) (h1 : Held w1 (ofR (ofH c3 c4 c5 c6 (.func (.func 31) #[] #[]) v (mxs ps) X) l ss ps' k')) =>
   (show w1.cell? ⟨c3,0,none⟩ = some (.func (.func 31) #[] #[]) ∧ w1.cell? ⟨B,2 * k,none⟩ = some (.pointer (some ⟨s.d false,0,none⟩)) ∧ w1.cell? ⟨B,2 * k + 1,none⟩ = some (.pointer (some ⟨s.d true,0,none⟩)) from
     ⟨(h1.blkAt 4 rfl).cell 0,HC.out w1 (_,()) _ h1 _ _ q1,HC.out w1 (_,()) _ h1 _ _ q2⟩)
  have HQ1:=hid q1
  have HQ2:=hid q2
  have hV : winV (some ⟨B,0,none⟩) (2 * k) (min (2 * k + 2) n) = .slice (some ⟨B,2 * k,none⟩) 2 2:=by
   have e : min (2 * k + 2) n = 2 * k + 2:=by have:=Hn.out;omega
   rw [e]
   unfold winV
   rw [if_neg (by omega),show 2 * k + 2 - 2 * k = 2 by omega]
   simp [Addr.add]
   try exact fun h => h.symm
  rw [hV]
  have HSm:=hid (List.mem_of_getElem? hs)
  have HP1:=hid hp1
  have HP2:=hid hp2
  have HP3:=hid hp3
  have HK:=hid hs
  have hs0:=HSf.out W.drew ps k (hp2.held.keep0 (Fr.refl [] W).drew)
  have hk8 : k ≤ 8:=by omega
  obtain ⟨j,hj⟩ : ∃ j,2 * k = j:=⟨_,rfl⟩
  have HJ:=hid hj
  rw [hj] at HSf hs0 ⊢
  have hj8 : j ≤ 16:=by omega
  clear hV q1 q2 hp1 hp2 hp3 hs hj hk
  have HSg:=hid fun (w1 : World) (T : List Res) (h1 : Held w1 (ofH c3 c4 c5 c6 (.func (.func 31) #[] #[]) v (mxs ps) X ++ (l ++ T))) =>
   (show w1.cell? ⟨c3,0,none⟩ = some (.func (.func 31) #[] #[]) ∧ w1.cell? ⟨B,j,none⟩ = some (.pointer (some ⟨s.d false,0,none⟩)) ∧ w1.cell? ⟨B,j + 1,none⟩ = some (.pointer (some ⟨s.d true,0,none⟩)) from
     ⟨(h1.blkAt 4 rfl).cell 0,HJ.out ▸ HC.out w1 (_,()) T h1 _ _ HQ1.out,HJ.out ▸ HC.out w1 (_,()) T h1 _ _ HQ2.out⟩)
  by_cases hz : F s.s = 0
  · have HTs:=hid fun (l1 : List Res) (w1 : World) (hh : Held w1 (l1 ++ vsC s)) => HT0'.out s HSm.out hz l1 w1 hh
    have HZ:=hid hz
    clear hz HSg
    refine wpIn_block (wpIn_seq ?_)
    refine wpIn_region_D (by kernel_rfl) (fun w' => w'.cell? ⟨c3,0,none⟩ = some (.func (.func 31) #[] #[]) ∧ w'.cell? ⟨B,j,none⟩ = some (.pointer (some ⟨s.d false,0,none⟩)) ∧ w'.cell? ⟨B,j + 1,none⟩ = some (.pointer (some ⟨s.d true,0,none⟩))) false [] (by kernel_rfl) ?_
    refine WD.pure [0,1,2,3,4,5,6] (by kernel_rfl) hs0 ?_
    simp only [pick,aF,aG,aI,aJ,aK]
    repeat (first | (refine quiet_load_1R (by rfl) _ _ rfl rfl (.func (.func 31) #[] #[]) (fun w0 h => h.1) _ Tryz.underlying61 rfl ?_;simp only [aA,aB,Act.put,aC,aD,aE]) | (refine quiet_load_1R (by rfl) _ _ rfl rfl (.pointer (some ⟨s.d false,0,none⟩)) (fun w0 h => h.2.1) _ Tryz.underlying37 rfl ?_;simp only [aA,aB,Act.put,aC,aD,aE]) | (refine quiet_load_1R (by rfl) _ _ rfl rfl (.pointer (some ⟨s.d true,0,none⟩)) (fun w0 h => h.2.2) _ Tryz.underlying37 rfl ?_;simp only [aA,aB,Act.put,aC,aD,aE]) | go_big_quiet_step (fail))
    refine wpQuiet_nil ?_
    refine WD.eff 7 (by kernel_rfl) ?_
    simp only [pick,aF,aG,aI,aJ,aK]
    have f0 : Fr [] W W.drew:=(Fr.refl [] W).drew
    have E0:=hid (Ev.perm ((Ev.refl HP2.out.held).step f0) (ofR_out _ l ps HK.out))
    go_wp2_with (go_at_call 31;refine (HTs.out _ _ E0.out.held).mono ?_;rintro e w9 ⟨m,FF',rfl,E9⟩)
    have E10:=hid (Ev.perm (E0.out.trans E9) (ofR_in _ l ss ps k ⟨m,s.d,FF',mf s.s⟩))
    have hs10:=HSf.out w9 _ _ E10.out.held
    clear E0 E9 HSf hs0
    try refine wpList_nil ?_
    refine AfterD.on hs10 (by kernel_rfl) ?_
    try simp only [aA,aB,Act.put,aC,aD,aE]
    refine WD.pure [8,9,10,11,12] (by kernel_rfl) hs10 ?_
    simp only [pick,aF,aG,aI,aJ,aK]
    repeat (first | go_big_quiet_step (fail))
    refine wpQuiet_nil ?_
    refine WD.done (by kernel_rfl) ?_
    refine wpIn_seq_k fun K hK => ?_
    have HNext:=hid hK
    clear hK
    refine wpIn_seq ?_
    gi_wp2
    refine HNext.out _ _ ?_
    clear HNext
    refine wpIn_region_W (by kernel_rfl) ?_
    obtain ⟨i9,z9,hi9,hz9,hs9,hb9,hzc9⟩:=infMp
    have Hi:=hid hi9
    have Hz:=hid hz9
    have Hs:=hid hs9
    have Hb:=hid hb9
    have Hzc:=hid hzc9
    clear hi9 hz9 hs9 hb9 hzc9 hs10
    have b9 : Blk w9 c6 [v]:=E10.out.held.blkAt 1 rfl
    have o9 : Xr.Own w9 1 v (mxs ps).length (mxs ps) X:=E10.out.held.ownAt 0 rfl
    have hle : (mxs ps).length ≤ 8:=by
     have h:=congrArg List.length HP1.out
     rw [List.length_map,List.length_map,List.length_take] at h
     simp [mxs]
     omega
    have hle1 : (mxs ps).length + 1 ≤ maxLen:=by unfold maxLen;omega
    have hle2 : ((mxs ps).length + 1) * 8 ≤ 140737488355328:=by omega
    have c9 : w9.cell? ⟨c6,0,none⟩ = some v:=b9.cell 0
    go_wp2_with (first
     | (refine wpList_buildSlice_r rfl _ 1 _ rfl 105 Tryz.underlying98 _ _ Hi.out Hz.out Hzc.out Hs.out (by decide) (by decide) (by decide) [.pointer (some ⟨m,0,none⟩)] rfl (by intro v hv;simp at hv;rcases hv with rfl;rfl) ?_
        intro w10 f10 hlt10 hb10
        have o10:=o9.keep f10 (by simp)
        have b10:=f10.blk b9 (by simp)
        simp only [aA,aB,Act.put,aC,aD,aE])
     | (refine wpList_append_rc (u:=.slice (some ⟨w9.heap.size,0,none⟩) 1 1) (m:=1) (v:=v) (n:=(mxs ps).length) (xs:=mxs ps) (B:=X) (XB:=some w9.heap.size) (w:=w10) (news:=[.pointer (some ⟨m,0,none⟩)]) rfl _ _ _ rfl 105 _ _ 1 8 Tryz.underlying98 Hi.out Hz.out Hs.out Hb.out Hzc.out (by decide) rfl o10 rfl (rc_blk (n:=1) (xs:=[.pointer (some ⟨m,0,none⟩)]) hb10 rfl (by simp [maxLen])) (by intro u hu;simp at hu;rw [hu];rfl) hle1 hle2 ?_
        intro v11 w11 X11 ho11 f11 hX11
        have ho12 : Xr.Own w11 1 v11 (mxs (ps ++ [⟨m,s.d,FF',mf s.s⟩])).length (mxs (ps ++ [⟨m,s.d,FF',mf s.s⟩])) X11:=by
         have e : mxs (ps ++ [⟨m,s.d,FF',mf s.s⟩]) = mxs ps ++ [.pointer (some ⟨m,0,none⟩)]:=by simp [mxs,pv]
         rw [e,List.length_append]
         exact ho11
        have E11:=hid ((E10.out.step f10).at 0 rfl f11 (fun b hb => .inl hb) (Res.On.own ho12) (fun b hb => by
         rcases hX11 with rfl | ⟨b',rfl,hb'⟩
         · exact .inl hb
         · obtain rfl : b = b':=by simpa [Res.own] using hb
           exact .inr hb'))
        have hv11 : v11.oneCell' = true:=by obtain ⟨_,_,rfl⟩:=ho11.isSlice;rfl
        have b11 : Blk w11 c6 [v]:=E11.out.held.blkAt 1 rfl
        clear b9 o9 c9 o10 b10 f10 f11 ho11 ho12 hb10 hX11
        simp only [aA,aB,Act.put,aC,aD,aE])
     | (refine wpList_put rfl _ _ _ rfl rfl v11 rfl hv11 b11 (by simp) (by kernel_rfl) ?_;intro w12 f12 b12 hs12;simp only [aA,aB,Act.put,aC,aD,aE]))
    have b13 : Blk w12 c6 [v11]:=b12
    have E12:=E11.out.at 1 rfl f12 (fun b hb => .inl hb) (Res.On.blk b13) (fun b hb => .inl hb)
    have E13 : Ev W (ofR (ofH c3 c4 c5 c6 (.func (.func 31) #[] #[]) v (mxs ps) X) l ss ps k) w12 (ofR (ofH c3 c4 c5 c6 (.func (.func 31) #[] #[]) v11 (mxs (ps ++ [⟨m,s.d,FF',mf s.s⟩])) X11) l ss (ps ++ [⟨m,s.d,FF',mf s.s⟩]) (k + 1)):=E12
    refine ⟨E13.fr.kept fun b hb => ⟨by omega,fun hf => HP3.out b hf ?_⟩,?_,ps ++ [⟨m,s.d,FF',mf s.s⟩],v11,X11,?_,HP2.out.trans E13,fun b hb => ?_⟩
    · rcases hb with (rfl | rfl) | rfl | rfl <;> simp
    · intro t ht
      rw [List.take_add_one,HK.out] at ht
      rcases List.mem_append.1 ht with ht | ht
      · exact HP0.out t ht
      · obtain rfl : t = s:=by simpa using ht
        exact HZ.out
    · rw [List.map_append,HP1.out,List.take_add_one,HK.out]
      simp
    · rcases E13.low b hb with h | h
      · exact HP3.out b h
      · simp
        omega
  · have HTs:=hid fun (l1 : List Res) (w1 : World) (hh : Held w1 (l1 ++ vsC s)) => HT1'.out s HSm.out hz l1 w1 hh
    have HFS : Hid (fstC F (ss.map VS.s) = F s.s):=hid (fstC_at (k:=k) (s:=s.s) (fun t ht => by
     rw [← List.map_take] at ht
     obtain ⟨r,hr,rfl⟩:=List.mem_map.1 ht
     exact HP0.out r hr) (map_get rfl HK.out) hz)
    have HZ:=hid hz
    obtain ⟨cc,hcc⟩ : ∃ cc,F s.s = cc:=⟨_,rfl⟩
    rw [hcc] at HTs HFS
    have u0 : (cc != 0) = true:=by rw [← hcc];simpa using hz
    have HCZ:=hid (show cc ≠ 0 by rw [← hcc];exact hz)
    clear hz hcc
    refine wpIn_block (wpIn_seq ?_)
    refine wpIn_region_D (by kernel_rfl) (fun w' => w'.cell? ⟨c3,0,none⟩ = some (.func (.func 31) #[] #[]) ∧ w'.cell? ⟨B,j,none⟩ = some (.pointer (some ⟨s.d false,0,none⟩)) ∧ w'.cell? ⟨B,j + 1,none⟩ = some (.pointer (some ⟨s.d true,0,none⟩))) false [] (by kernel_rfl) ?_
    refine WD.pure [0,1,2,3,4,5,6] (by kernel_rfl) hs0 ?_
    simp only [pick,aF,aG,aI,aJ,aK]
    repeat (first | (refine quiet_load_1R (by rfl) _ _ rfl rfl (.func (.func 31) #[] #[]) (fun w0 h => h.1) _ Tryz.underlying61 rfl ?_;simp only [aA,aB,Act.put,aC,aD,aE]) | (refine quiet_load_1R (by rfl) _ _ rfl rfl (.pointer (some ⟨s.d false,0,none⟩)) (fun w0 h => h.2.1) _ Tryz.underlying37 rfl ?_;simp only [aA,aB,Act.put,aC,aD,aE]) | (refine quiet_load_1R (by rfl) _ _ rfl rfl (.pointer (some ⟨s.d true,0,none⟩)) (fun w0 h => h.2.2) _ Tryz.underlying37 rfl ?_;simp only [aA,aB,Act.put,aC,aD,aE]) | go_big_quiet_step (fail))
    refine wpQuiet_nil ?_
    refine WD.eff 7 (by kernel_rfl) ?_
    simp only [pick,aF,aG,aI,aJ,aK]
    have f0 : Fr [] W W.drew:=(Fr.refl [] W).drew
    have E0:=hid (Ev.perm ((Ev.refl HP2.out.held).step f0) (ofR_out _ l ps HK.out))
    go_wp2_with (go_at_call 31;refine (HTs.out _ _ E0.out.held).mono ?_;rintro e w9 ⟨FF',rfl,E9⟩)
    have hs10:=HSg.out w9 _ (show Held w9 (ofH c3 c4 c5 c6 (.func (.func 31) #[] #[]) v (mxs ps) X ++ (l ++ ((vpsC ps ++ vssC (ss.drop (k + 1))) ++ vsC ⟨s.d,FF',s.s⟩))) by have:=(E0.out.trans E9).held;simpa [List.append_assoc] using this)
    have E10 : Hid (Ev W (ofR (ofH c3 c4 c5 c6 (.func (.func 31) #[] #[]) v (mxs ps) X) l ss ps k) w9 (ofH c3 c4 c5 c6 (.func (.func 31) #[] #[]) v (mxs ps) X ++ (l ++ ((vpsC ps ++ vssC (ss.drop (k + 1))) ++ vsC ⟨s.d,FF',s.s⟩)))):=hid (by have:=E0.out.trans E9;simpa [List.append_assoc] using this)
    clear E0 E9 HSf HSg hs0
    try refine wpList_nil ?_
    refine AfterD.on hs10 (by kernel_rfl) ?_
    try simp only [aA,aB,Act.put,aC,aD,aE]
    refine WD.pure [8,9,10,11,12] (by kernel_rfl) hs10 ?_
    simp only [pick,aF,aG,aI,aJ,aK]
    repeat (first | go_big_quiet_step (fail))
    refine wpQuiet_nil ?_
    refine WD.done (by kernel_rfl) ?_
    refine wpIn_seq_k fun K hK => ?_
    clear hK
    refine wpIn_seq ?_
    refine wpIn_region_W (by kernel_rfl) ?_
    go_wp2_with fail
    refine wpIn_cond_true rfl ?_
    refine wpIn_seq ?_
    refine wpIn_region_W (by kernel_rfl) ?_
    have b4 : Blk w9 c4 [.pointer none]:=E10.out.held.blkAt 3 rfl
    go_wp2_with (first
     | (refine wpList_put rfl _ _ _ rfl rfl (.pointer none) rfl rfl b4 (by simp) (by kernel_rfl) ?_;intro w7 f7 b7 hs7;have E7:=hid (E10.out.at 3 rfl f7 (fun b hb => .inl hb) (Res.On.blk b7) (fun b hb => .inl hb));have b5 : Blk w7 c5 [.int .i64 0]:=E7.out.held.blkAt 2 rfl;clear b4;simp only [aA,aB,Act.put,aC,aD,aE])
     | (refine wpList_put rfl _ _ _ rfl rfl (.int .i64 cc) rfl rfl b5 (by simp) (by kernel_rfl) ?_;intro w8 f8 b8 hs8;have E8:=hid (E7.out.at 2 rfl f8 (fun b hb => .inl hb) (Res.On.blk b8) (fun b hb => .inl hb));clear b5;simp only [aA,aB,Act.put,aC,aD,aE]))
    refine wpIn_ret ?_
    have E9 : Ev W (ofR (ofH c3 c4 c5 c6 (.func (.func 31) #[] #[]) v (mxs ps) X) l ss ps k) w8 ([Res.own 1 v (mxs ps).length (mxs ps) X,Res.blk c6 [v],Res.blk c5 [.int .i64 cc],Res.blk c4 [.pointer none],Res.blk c3 [.func (.func 31) #[] #[]]] ++ (l ++ ((vpsC ps ++ vssC (ss.drop (k + 1))) ++ vsC ⟨s.d,FF',s.s⟩))):=E8.out
    obtain ⟨ss',z1,z2,z3⟩:=of_fell HP1.out (fun t ht => HFX.out s HSm.out HZ.out t ht) HK.out E9
    refine ⟨z3.fr.kept fun b hb => ⟨by omega,fun hf => HP3.out b hf ?_⟩,HFS.out ▸ HCZ.out,ss',z1,z2,by rw [HFS.out];exact HP2.out.trans z3,fun b hb => ?_⟩
    · rcases hb with (rfl | rfl) | rfl | rfl <;> simp
    · rw [HFS.out] at hb
      rcases z3.low b hb with h | h
      · exact HP3.out b h
      · simp
        omega
 case stop =>
  intro D W hD hI hDf
  rw [hM] at hD
  subst hD
  obtain ⟨hcz,ss',z1,z2,E10,hnb⟩:=hI
  have hDn : D ∉ feetOf ([Res.blk c5 [.int .i64 (fstC F (ss.map VS.s))],Res.blk c4 [.pointer none]] ++ (l ++ vssC ss')):=fun h => hnb D h (by simp)
  have fD:=fr_putObj W D (.deferred none) (pln_def hDf)
  have E11:=Ev.skip E10 fD (fun b hb => by
   obtain rfl : b = D:=by simpa using hb
   exact ⟨by omega,hDn⟩)
  have b5':=E11.held.blkAt 0 rfl
  have b4':=E11.held.blkAt 1 rfl
  have E12 : Ev w (l ++ vssC ss) _ (l ++ vssC ss'):=ev_mid (H:=[Res.blk c5 [.int .i64 (fstC F (ss.map VS.s))],Res.blk c4 [.pointer none]]) E11
  refine wpIn_ret ?_
  refine ⟨by simp,.inl ⟨_,_,rfl,run_takeDeferred hDf,?_⟩⟩
  exact ⟨_,results_cell_2 rfl _ _ rfl rfl (b4'.cell 0) (b5'.cell 0) _ Tryz.underlying27 rfl _ Tryz.underlying28 rfl,.inr ⟨hcz,rfl,ss',z1,z2,E12⟩⟩
 case done =>
  intro D W hD hI hDf
  rw [hM] at hD
  subst hD
  obtain ⟨hp0,ps,v,X,hp1,hp2,hp3⟩:=hI
  have e : (n + 1) / 2 = ss.length:=by have:=Hn.out;omega
  have hofr : ofR (ofH c3 c4 c5 c6 (.func (.func 31) #[] #[]) v (mxs ps) X) l ss ps ss.length = ((ofH c3 c4 c5 c6 (.func (.func 31) #[] #[]) v (mxs ps) X ++ l) ++ vpsC ps):=by
   unfold ofR
   rw [List.drop_length]
   simp [vssC,List.append_assoc]
  rw [e,List.take_length] at hp1
  rw [e,List.take_length] at hp0
  have HZA:=hid (fstC_zero (F:=F) (L:=ss.map VS.s) (by
   intro t ht
   obtain ⟨s,hs,rfl⟩:=List.mem_map.1 ht
   exact hp0 s hs))
  rw [e,hofr] at hp2 hp3
  have HDf:=hid hDf
  have HP1:=hid hp1
  have HP2:=hid hp2
  have HP3:=hid hp3
  have b0 : Blk W c6 [v]:=hp2.held.blkAt 1 rfl
  have c0 : W.cell? ⟨c6,0,none⟩ = some v:=b0.cell 0
  have hpl : ps.length = ss.length:=by simpa using congrArg List.length hp1
  have hh0 : Held W ((ofH c3 c4 c5 c6 (.func (.func 31) #[] #[]) v (mxs ps) X ++ l) ++ vpsC ps):=hp2.held
  have o0 : Xr.Own W 1 v ps.length (ps.map fun p => pv (some p.m)) X:=by
   have:=hp2.held.ownAt 0 rfl
   simpa [mxs] using this
  obtain ⟨B0,rfl⟩ : ∃ B0,X = some B0:=by
   rcases o0.shape with ⟨h,_⟩ | ⟨b,_,h,_⟩
   · have:=Hn.out;exact absurd h (by omega)
   · exact ⟨b,h⟩
  have hall : ∀ p ∈ ps,SysOk p.M.s ∧ p.M.s.len false = L:=fun p hp => by
   have : (p.d,p.M) ∈ ps.map (fun p : VP => (p.d,p.M)):=List.mem_map.2 ⟨p,hp,rfl⟩
   rw [hp1] at this
   obtain ⟨s,hs,e⟩:=List.mem_map.1 this
   have:=hok s hs (hp0 s hs)
   rw [(Prod.mk.inj e).2] at this
   exact this
  have HMk:=hid (vmake_ok hh0 o0 (by have:=Hn.out;omega) (by have:=Hn.out;omega) (fun p hp => (hall p hp).1) L (fun p hp => (hall p hp).2) h2)
  have HwM:=hid (show w.heap.size ≤ D by omega)
  clear hp0 hp1 hp2 hp3 hDf hseq HI HC HT0' HT1' hh0 o0 hall hofr
  go_wp2_with (first
   | (go_at_call 51
      refine HMk.out.mono ?_
      rintro e w8 ⟨vb,rb,v8,rfl,E8⟩
      have b4 : Blk w8 c4 [.pointer none]:=E8.held.blkAt 5 rfl)
   | (refine wpList_put rfl _ _ _ rfl rfl (.pointer (some ⟨vb,0,none⟩)) rfl rfl b4 (by simp) (by kernel_rfl) ?_
      intro w9 f9 b9 hs9
      have b9' : Blk w9 c4 [.pointer (some ⟨vb,0,none⟩)]:=b9
      have E9:=E8.at 5 rfl f9 (fun b hb => .inl hb) (Res.On.blk b9') (fun b hb => .inl hb)
      have b5 : Blk w9 c5 [.int .i64 0]:=E9.held.blkAt 4 rfl
      simp only [aA,aB,Act.put,aC,aD,aE])
   | (refine wpList_put rfl _ _ _ rfl rfl (.int .i64 0) rfl rfl b5 (by simp) (by kernel_rfl) ?_
      intro w10 f10 b10 hs10
      have b10' : Blk w10 c5 [.int .i64 0]:=b10
      have E10:=E9.at 4 rfl f10 (fun b hb => .inl hb) (Res.On.blk b10') (fun b hb => .inl hb)
      simp only [aA,aB,Act.put,aC,aD,aE]))
  have hDl : D < W.heap.size:=(Array.getElem?_eq_some_iff.1 HDf.out).1
  have hDn : D ∉ feetOf ((ofH c3 c4 c5 c6 (.func (.func 31) #[] #[]) v (mxs ps) (some B0) ++ l) ++ vpsC ps):=fun h => HP3.out D h (by simp)
  have hD8 : w10.heap[D]? = some (.deferred (some [])):=(E10.fr.block D hDl hDn).trans HDf.out
  have fD:=fr_putObj w10 D (.deferred none) (pln_def hD8)
  have E11:=Ev.skip (HP2.out.trans E10) fD (fun b hb => by
   obtain rfl : b = D:=by simpa using hb
   exact ⟨HwM.out,fun h => by
    rcases E10.low b h with h | h
    · exact hDn h
    · omega⟩)
  have b4':=E11.held.blkAt 5 rfl
  have b5':=E11.held.blkAt 4 rfl
  refine ⟨by simp,.inl ⟨_,_,rfl,run_takeDeferred hD8,?_⟩⟩
  refine ⟨_,results_cell_2 rfl _ _ rfl rfl (b4'.cell 0) (b5'.cell 0) _ Tryz.underlying27 rfl _ Tryz.underlying28 rfl,(.inl ⟨HZA.out,vb,rb,v8,ps,rfl,HP1.out,?_⟩)⟩
  exact Ev.less (volR vb rb v8 (ps.map VP.m) ((L : Int) - 1) 0) _ (Ev.less (volR vb rb v8 (ps.map VP.m) ((L : Int) - 1) 0) _ (Ev.less (volR vb rb v8 (ps.map VP.m) ((L : Int) - 1) 0) _ (Ev.less (volR vb rb v8 (ps.map VP.m) ((L : Int) - 1) 0) _ (Ev.less (volR vb rb v8 (ps.map VP.m) ((L : Int) - 1) 0) _ E11))))
end Go.Proofs.YtgafefecookgaaaGreat
namespace Go.Proofs.YtgafefecookgaaaGreat
open Go Go.Xr Go.RowKit
def xdC (n : Nat) (q : Nat × List Nat) : Res:=xdk q.1 (newXD n) [] none q.2
theorem disks2_perm {a b c d : Res} (A B : List Res) : (b :: a :: c :: d :: (A ++ B)).Perm ([c,d] ++ ((A ++ [a]) ++ (B ++ [b]))):=by
 have h1 : (b :: a :: c :: d :: (A ++ B)).Perm (c :: d :: a :: b :: (A ++ B)):=by
  have p : [b,a,c,d].Perm [c,d,a,b]:=by
   have p : [0,1,2,3].Perm [2,3,1,0]:=by decide
   exact p.map fun i => [b,a,c,d].getD i a
  exact p.append_right (A ++ B)
 refine h1.trans (List.Perm.cons c (List.Perm.cons d ?_))
 rw [List.append_assoc]
 have h2 : (a :: b :: (A ++ B)).Perm (A ++ (a :: b :: B)):=by
  have:=List.perm_append_comm (l₁:=[a,b]) (l₂:=A)
  have h3:=this.append_right B
  rw [List.append_assoc,List.append_assoc] at h3
  exact h3
 refine h2.trans (List.Perm.append_left A (List.Perm.cons a ?_))
 exact (List.perm_append_comm (l₁:=[b]) (l₂:=B))
theorem xdk_addG {w0 w1 w2 : World} {rs rs1 : List Res} {x0 n0 : Nat} {i0 : XI} (e : Ev w0 rs w1 rs1) (ev : Ev w1 [] w2 (xps x0 (newXD n0) none i0)) (hp : Pln w2 x0) : ∃ G,Ev w0 rs w2 (xdk x0 (newXD n0) [] none G :: rs1) :=
 ⟨_,e.new ev.nil (xdk_new ev.held hp []) (fun b hb => by rcases ev.low b hb with h | h;cases h;exact h)⟩
theorem disks2_any {w : World} (K n : Nat) (hK : K ≤ 40) (h1 : 1 ≤ n) (h2 : n ≤ 16384) :
 Calls Tryz.prog 4 #[.int .i64 (K : Int),.int .i64 (n : Int)] w fun e w' => ∃ (vd : Value) (Xd : Option Nat) (vx : Value) (Bx : Option Nat) (Fs : List (Nat × List Nat)) (Gs : List (Nat × List Nat)),e = .returned (.tuple #[vd,vx]) ∧ Fs.length = K ∧ Gs.length = K ∧
  Ev w [] w' ([Res.own 1 vd K (Fs.map fun q => pv (some q.1)) Xd,Res.own 1 vx K (Gs.map fun q => pv (some q.1)) Bx] ++ (Fs.map (dkC n) ++ Gs.map (xdC n))):=by
 obtain ⟨i9,z9,hi9,hz9,hs9,hb9,hzc9⟩:=infDp
 have Hi:=hid hi9
 have Hz:=hid hz9
 have Hs:=hid hs9
 have Hb:=hid hb9
 have Hzc:=hid hzc9
 obtain ⟨i8,z8,hi8,hz8,hs8,hb8,hzc8⟩:=infXp
 have Xi:=hid hi8
 have Xz:=hid hz8
 have Xs:=hid hs8
 have Xb:=hid hb8
 have Xzc:=hid hzc8
 clear hi9 hz9 hs9 hb9 hzc9 hi8 hz8 hs8 hb8 hzc8
 have HN:=hid fun w1 : World => newp_ok (w:=w1) n h1 h2
 have HX:=hid fun w1 : World => xnewp_ok (w:=w1) n h1 h2
 clear h1 h2
 go_enter Tryz.func4,Tryz.ntmps4
 go_wp2_with fail
 go_loopw [6,7,8] (fun dv xv iv wr => ∃ (i : Nat) (Xd Bx : Option Nat) (Fs : List (Nat × List Nat)) (Gs : List (Nat × List Nat)),i ≤ K ∧ iv = .int .i64 (i : Int) ∧ Fs.length = i ∧ Gs.length = i ∧ dv.oneCell' = true ∧ xv.oneCell' = true ∧
  Hid (Ev w [] wr ([Res.own 1 dv i (Fs.map fun q => pv (some q.1)) Xd,Res.own 1 xv i (Gs.map fun q => pv (some q.1)) Bx] ++ (Fs.map (dkC n) ++ Gs.map (xdC n))))) (fun _ _ iv _ => K - (intOf iv).toNat)
 case atStart =>
  refine ⟨0,none,none,[],[],by omega,rfl,rfl,rfl,rfl,rfl,hid ?_⟩
  have e1:=((Ev.start w).new (Fr.refl [] w) (Res.On.own (Own.nil w 1)) (by simp [Res.own])).new (Fr.refl [] w) (Res.On.own (Own.nil w 1)) (by simp [Res.own])
  exact e1
 case round =>
  obtain ⟨i,Xd,Bx,Fs,Gs,hi,rfl,hFl,hGl,hd1,hx1,E⟩:=hrel
  by_cases hlt : i < K
  · have hdd : decide ((i : Int) < (K : Int)) = true:=by simp;omega
    have hdn : decide (i < K) = true:=by simp;omega
    have hi40 : (i : Int) ≤ 40:=by omega
    have HFl:=hid hFl
    have HGl:=hid hGl
    clear hFl hGl
    go_wp2_with (first
     | (go_at_call 21;refine (HN.out _).mono ?_;rintro e w5 ⟨d,F,rfl,r5,p5,f5,g5⟩;have E5:=hid (E.out.new f5 (dk_new r5 p5 []) g5);clear r5 p5 f5 g5 E HN)
     | (go_at_call 22;refine (HX.out _).mono ?_;rintro e w6 ⟨x,xi,rfl,ev6,p6⟩;obtain ⟨G,E6a⟩:=xdk_addG E5.out ev6 p6;have E6:=hid E6a;clear ev6 p6 E6a E5 HX)
     | (refine wpList_buildSlice_r rfl _ 1 _ rfl 37 Tryz.underlying23 _ _ Hi.out Hz.out Hzc.out Hs.out (by decide) (by decide) (by decide) [.pointer (some ⟨d,0,none⟩)] rfl (by intro v hv;simp at hv;rcases hv with rfl;rfl) ?_
        intro w7 f7 hlt7 hb7
        have o7:=E6.out.held.ownAt 2 rfl
        have hz7:=w6.heap.size
        simp only [aA,aB,Act.put,aC,aD,aE])
     | (refine wpList_append_rc (m:=1) (n:=i) (news:=[.pointer (some ⟨d,0,none⟩)]) rfl _ _ _ rfl 37 _ _ 1 8 Tryz.underlying23 Hi.out Hz.out Hs.out Hb.out Hzc.out (by decide) rfl (o7.keep f7 (by simp)) rfl (rc_blk (n:=1) (xs:=[.pointer (some ⟨d,0,none⟩)]) hb7 rfl (by simp [maxLen])) (by intro u hu;simp at hu;rw [hu];rfl) (by unfold maxLen;omega) (by omega) ?_
        intro v8 w8 X8 ho8 f8 hX8
        have E8:=hid ((E6.out.step f7).at 2 rfl f8 (fun b hb => .inl hb) (Res.On.own ho8) (fun b hb => by
         rcases hX8 with rfl | ⟨b',rfl,hb'⟩
         · exact .inl hb
         · obtain rfl : b = b':=by simpa [Res.own] using hb
           exact .inr hb'))
        have hv8 : v8.oneCell' = true:=by obtain ⟨_,_,rfl⟩:=ho8.isSlice;rfl
        clear o7 hb7 f7 f8 ho8 hX8 E6
        simp only [aA,aB,Act.put,aC,aD,aE])
     | (refine wpList_buildSlice_r rfl _ 1 _ rfl 39 Tryz.underlying24 _ _ Xi.out Xz.out Xzc.out Xs.out (by decide) (by decide) (by decide) [.pointer (some ⟨x,0,none⟩)] rfl (by intro v hv;simp at hv;rcases hv with rfl;rfl) ?_
        intro w9 f9 hlt9 hb9
        have o9:=E8.out.held.ownAt 3 rfl
        simp only [aA,aB,Act.put,aC,aD,aE])
     | (refine wpList_append_rc (m:=1) (n:=i) (news:=[.pointer (some ⟨x,0,none⟩)]) rfl _ _ _ rfl 39 _ _ 1 8 Tryz.underlying24 Xi.out Xz.out Xs.out Xb.out Xzc.out (by decide) rfl (o9.keep f9 (by simp)) rfl (rc_blk (n:=1) (xs:=[.pointer (some ⟨x,0,none⟩)]) hb9 rfl (by simp [maxLen])) (by intro u hu;simp at hu;rw [hu];rfl) (by unfold maxLen;omega) (by omega) ?_
        intro v10 w10 X10 ho10 f10 hX10
        have E10:=hid ((E8.out.step f9).at 3 rfl f10 (fun b hb => .inl hb) (Res.On.own ho10) (fun b hb => by
         rcases hX10 with rfl | ⟨b',rfl,hb'⟩
         · exact .inl hb
         · obtain rfl : b = b':=by simpa [Res.own] using hb
           exact .inr hb'))
        have hv10 : v10.oneCell' = true:=by obtain ⟨_,_,rfl⟩:=ho10.isSlice;rfl
        clear o9 hb9 f9 f10 ho10 hX10 E8
        simp only [aA,aB,Act.put,aC,aD,aE]))
    go_roundw
    case rel =>
     refine ⟨i + 1,X8,X10,Fs ++ [(d,F)],Gs ++ [(x,G)],by omega,by go_num,by simp [HFl.out],by simp [HGl.out],hv8,hv10,hid ?_⟩
     have e1:=E10.out
     have e2:=Ev.perm e1 (disks2_perm (Fs.map (dkC n)) (Gs.map (xdC n)))
     simp only [List.map_append,List.map_cons,List.map_nil]
     exact e2
    case measure => simp [intOf];omega
  · obtain rfl : i = K:=by omega
    have hd : decide ((i : Int) < (i : Int)) = false:=by simp
    clear hlt hi
    go_wp2_with fail
    go_ret2
    exact ⟨_,Xd,_,Bx,Fs,Gs,rfl,hFl,hGl,E.out⟩
section
variable {w w' w0 : World} {l rs lb : List Res}
theorem pair_upX (n : Nat) : ∀ (k : Nat) (Fs : List (Nat × List Nat)) (l : List Res),Fs.length = 2 * k → Ev w0 rs w (l ++ Fs.map (xdC n)) → ∃ ss : List XS,ss.length = k ∧ rowD (ss.map XS.x) = Fs.map (fun q => pv (some q.1)) ∧ (∀ s ∈ ss,s.s = sy (newXD n) (newXD n) []) ∧ Ev w0 rs w (l ++ xssC ss)
 | 0,Fs,l,hl,e => by
   obtain rfl : Fs = []:=List.eq_nil_of_length_eq_zero hl
   exact ⟨[],rfl,rfl,by simp,e⟩
 | k + 1,[],l,hl,e => by simp at hl
 | k + 1,[q],l,hl,e => by simp at hl;omega
 | k + 1,q0 :: q1 :: Fs,l,hl,e => by
   have e1 : Ev w0 rs w ((Res.pows [] [] :: l) ++ (xdC n q0 :: xdC n q1 :: Fs.map (xdC n))):=e.new (Fr.refl _ _) (pows0 w) (fun b hb => by simp [Res.pows] at hb)
   have e2 : Ev w0 rs w ((l ++ xsC ⟨dd2 q0.1 q1.1,ff2 q0.2 q1.2,sy (newXD n) (newXD n) []⟩) ++ Fs.map (xdC n)):=by
    refine Ev.perm e1 ?_
    rw [List.append_assoc]
    exact List.perm_middle.symm
   obtain ⟨ss,h1,h2,h3,h4⟩:=pair_upX n k Fs _ (by simp at hl;omega) e2
   refine ⟨⟨dd2 q0.1 q1.1,ff2 q0.2 q1.2,sy (newXD n) (newXD n) []⟩ :: ss,by simp [h1],?_,fun s hs => ?_,?_⟩
   · have : rowD ((⟨dd2 q0.1 q1.1,ff2 q0.2 q1.2,sy (newXD n) (newXD n) []⟩ :: ss : List XS).map XS.x) = pv (some q0.1) :: pv (some q1.1) :: rowD (ss.map XS.x):=rfl
     rw [this,h2]
     rfl
   · rcases List.mem_cons.1 hs with rfl | hs
     · rfl
     · exact h3 s hs
   · rw [List.append_assoc] at h4
     exact h4
def ms0 (n : Nat) : MS:=⟨sy (newXD n) (newXD n) [],false,false,0⟩
theorem jdisks_any {k n : Nat} (hk1 : 1 ≤ k) (hk : k ≤ 4) (h1 : 1 ≤ n) (h2 : n ≤ 16384) :
 Calls Tryz.prog 4 #[.int .i64 ((2 * k : Nat) : Int),.int .i64 (n : Int)] w fun e w' => ∃ (B1 c1 B2 c2 : Nat) (D0 E0 : List (Bool → Nat)),e = .returned (.tuple #[.slice (some ⟨B1,0,none⟩) (2 * k) c1,.slice (some ⟨B2,0,none⟩) (2 * k) c2]) ∧ D0.length = k ∧ E0.length = k ∧
  JJ w w' [Res.own 1 (.slice (some ⟨B1,0,none⟩) (2 * k) c1) (2 * k) (rowD D0) (some B1),Res.own 1 (.slice (some ⟨B2,0,none⟩) (2 * k) c2) (2 * k) (rowD E0) (some B2)] D0 E0 none none (List.replicate k (ms0 n)) 0 (List.replicate k (ms0 n)) 0:=by
 refine (disks2_any (w:=w) (2 * k) n (by omega) h1 h2).mono ?_
 rintro e w' ⟨vd,Xd,vx,Bx,Fs,Gs,rfl,hFl,hGl,ev⟩
 have o1:=ev.held.ownAt 0 rfl
 have o2:=ev.held.ownAt 1 rfl
 obtain ⟨B1,c1,rfl,rfl⟩ : ∃ B1 c1,vd = .slice (some ⟨B1,0,none⟩) (2 * k) c1 ∧ Xd = some B1:=by
  rcases o1.shape with ⟨h0,_⟩ | ⟨b,c,h0,h1,_⟩
  · omega
  · exact ⟨b,c,h1,h0⟩
 obtain ⟨B2,c2,rfl,rfl⟩ : ∃ B1 c1,vx = .slice (some ⟨B1,0,none⟩) (2 * k) c1 ∧ Bx = some B1:=by
  rcases o2.shape with ⟨h0,_⟩ | ⟨b,c,h0,h1,_⟩
  · omega
  · exact ⟨b,c,h1,h0⟩
 rw [← List.append_assoc] at ev
 obtain ⟨xs,x1,x2,x3,ev2⟩:=pair_upX n k Gs _ hGl ev
 have ev3 : Ev w [] w' (([Res.own 1 (.slice (some ⟨B1,0,none⟩) (2 * k) c1) (2 * k) (Fs.map fun q => pv (some q.1)) (some B1),Res.own 1 (.slice (some ⟨B2,0,none⟩) (2 * k) c2) (2 * k) (Gs.map fun q => pv (some q.1)) (some B2)] ++ xssC xs) ++ Fs.map (dkC n)):=by
  refine Ev.perm ev2 ?_
  rw [List.append_assoc,List.append_assoc]
  exact (List.perm_append_comm).append_left _
 obtain ⟨ss,s1,s2,s3,ev4⟩:=pair_up n k Fs _ hFl ev3
 have hD : rowD (ss.map VS.d) = Fs.map fun q => pv (some q.1):=by
  have : rowD (ss.map VS.d) = ((dsOf ss).map some).map pv:=by rw [dsOf_flat];rfl
  rw [this,s2,List.map_map,List.map_map]
  rfl
 have hrep : ∀ {α : Type} (f : α → Sys) (l : List α),l.length = k → (∀ s ∈ l,f s = sy (newXD n) (newXD n) []) → l.map f = (List.replicate k (ms0 n)).map MS.s:=fun f l hl hs => by
  rw [List.map_replicate]
  refine List.eq_replicate_iff.2 ⟨by simp [hl],fun b hb => ?_⟩
  obtain ⟨s,h,rfl⟩:=List.mem_map.1 hb
  exact hs s h
 refine ⟨B1,c1,B2,c2,ss.map VS.d,xs.map XS.x,rfl,by simp [s1],by simp [x1],vssC ss,xssC xs,⟨ss,rfl,hrep VS.s ss s1 s3,rfl⟩,⟨xs,rfl,hrep XS.s xs x1 x3,rfl⟩,?_⟩
 rw [hD,x2]
 refine Ev.perm ev4 ?_
 rw [List.append_assoc,List.append_assoc]
 exact (List.perm_append_comm).append_left _
end
def mfO (s : Sys) : MS:=msO s (s.opn.1.getD (false,false,0))
def opF (s : Sys) : Int:=s.opn.2
def opC (Ms : List MS) : Int:=fstC opF (Ms.map MS.s)
def opMs (Ms : List MS) : List MS:=if opC Ms = 0 then Ms.map (fun M => mfO M.s) else Ms
theorem opn_zero {s : Sys} (h : opF s = 0) : ∃ q,s.opn.1 = some q:=by
 unfold opF at h
 unfold Sys.opn at h ⊢
 split
 · rename_i hc
   rw [if_pos hc] at h
   split
   · rename_i hd
     rw [if_pos hd] at h
     cases h
   · rename_i hd
     rw [if_neg hd] at h
     split
     · exact ⟨_,rfl⟩
     · rename_i hB
       rw [if_neg hB] at h
       cases h
 · rename_i hc
   rw [if_neg hc] at h
   cases h
theorem opn_ne {s : Sys} (h : opF s ≠ 0) : s.opn.1 = none:=by
 unfold opF at h
 unfold Sys.opn at h ⊢
 split
 · rename_i hc
   rw [if_pos hc] at h
   split
   · rfl
   · rename_i hd
     rw [if_neg hd] at h
     split
     · rename_i hB
       rw [if_pos hB] at h
       exact absurd rfl h
     · rfl
 · rfl
def vpX (X : Option VX) : Value:=pv (X.map VX.vb)
def vpY (Y : Option YX) : Value:=pv (Y.map YX.yb)
section
variable {w w' w0 : World} {lb : List Res} {D0 E0 : List (Bool → Nat)} {X : Option VX} {Y : Option YX} {Ms Ns : List MS} {wr wt : Int} {k L B i0 : Nat} {v : Value}
theorem jmake_c (h : JJ w0 w lb D0 E0 none Y (List.replicate k (ms0 (L + 1))) wr Ns wt) (hi : lb[i0]? = some (Res.own 1 v (2 * k) (rowD D0) (some B))) (h1 : 1 ≤ k) (h8 : k ≤ 8) (hL : 1 ≤ L) (hL2 : L + 1 ≤ 16384) :
 Calls Tryz.prog 5 #[v] w fun e w' => ∃ X : VX,e = .returned (.tuple #[.pointer (some ⟨X.vb,0,none⟩),.int .i64 0]) ∧ VOk X ∧ X.ms.length = k ∧ X.e = L ∧ JJ w0 w' lb D0 E0 (some X) Y (List.replicate k (newM L)) 0 Ns wt:=by
 obtain ⟨ss,s1,s2,hh,_,hback⟩:=h.cs
 have hl : ss.length = k:=by simpa using congrArg List.length s2
 have hs : ∀ s ∈ ss,s.s = sy (newXD (L + 1)) (newXD (L + 1)) []:=fun s hs => by
  have : s.s ∈ (List.replicate k (ms0 (L + 1))).map MS.s:=by rw [← s2];exact List.mem_map.2 ⟨s,hs,rfl⟩
  rw [List.map_replicate] at this
  exact List.eq_of_mem_replicate this
 have hrow : lb[i0]? = some (Res.own 1 v (dsOf ss).length (((dsOf ss).map some).map pv) (some B)):=by
  rw [hi,dsOf_flat,s1]
  have e1 : (D0.flatMap fun d => [d false,d true]).length = 2 * k:=by
   have : (dsOf ss).length = 2 * k:=by rw [dsOf,List.length_map,dsP_len,hl]
   rw [dsOf_flat,s1] at this
   exact this
  rw [e1]
  rfl
 refine (mkall_new (e:=L) (Ev.refl hh) hrow (by omega) (by omega) hs hL hL2).mono ?_
 rintro e w' ⟨X,rfl,o,x1,x2,x3,va⟩
 rw [hl] at va x1
 exact ⟨X,rfl,o,x1,x3,hback _ _ _ _ (by rw [x2,s1]) va⟩
theorem jmake_d (h : JJ w0 w lb D0 E0 X none Ms wr (List.replicate k (ms0 (L + 1))) wt) (hi : lb[i0]? = some (Res.own 1 v (2 * k) (rowD E0) (some B))) (h1 : 1 ≤ k) (h8 : k ≤ 8) (hL : 1 ≤ L) (hL2 : L + 1 ≤ 16384) :
 Calls Tryz.prog 6 #[v,.bool false] w fun e w' => ∃ Y : YX,e = .returned (.tuple #[.pointer (some ⟨Y.yb,0,none⟩),.int .i64 0]) ∧ YOk Y ∧ Y.ys.length = k ∧ JJ w0 w' lb D0 E0 X (some Y) Ms wr (List.replicate k (newM L)) 0:=by
 obtain ⟨ss,s1,s2,hh,_,hback⟩:=h.ds
 have hl : ss.length = k:=by simpa using congrArg List.length s2
 have hs : ∀ s ∈ ss,s.s = sy (newXD (L + 1)) (newXD (L + 1)) []:=fun s hs => by
  have : s.s ∈ (List.replicate k (ms0 (L + 1))).map MS.s:=by rw [← s2];exact List.mem_map.2 ⟨s,hs,rfl⟩
  rw [List.map_replicate] at this
  exact List.eq_of_mem_replicate this
 have hok : SysOk (sy (newXD (L + 1)) (newXD (L + 1)) []):=sy_ok (mt_newXD_good (by omega) hL2) (mt_newXD_good (by omega) hL2) []
 have hlen:=sy_len (L + 1) (L + 1) []
 refine (xall_Make (fun s => ⟨s.made,true,true,1⟩) (fun _ => 0) hh (by rw [hl,s1];exact hi) (by omega) (by omega) (fun s hm _ l1 w1 h1 => ?_) (fun s hm hne => absurd rfl hne) (fun s hm => rfl)).mono ?_
 · have h2:=hs s hm
   refine (pmake_ok (pbs:=[]) (s:=s.s) (d:=s.x) (FF:=s.GG) (l:=l1) h1 (by rw [h2];exact hok) (by rw [h2,sy_T];decide) (by unfold Sys.mayC;rw [h2,hlen.1,hlen.2];rw [if_pos ⟨rfl,by omega⟩]) (by rw [h2];rfl) (by rw [h2];rfl)).mono ?_
   rintro e w' ⟨m,db,ib,FF',rfl,ev⟩
   exact ⟨m,db,ib,FF',rfl,ev⟩
 · rintro e w' (⟨_,Y,rfl,y1,y2,ya⟩ | ⟨hne,_⟩)
   · refine ⟨Y,rfl,⟨by omega,by omega⟩,by omega,hback _ _ _ _ (by rw [y2,s1]) ?_⟩
     have e1 : (ss.map fun s => (⟨s.s.made,true,true,1⟩ : MS)) = List.replicate k (newM L):=by
      refine List.eq_replicate_iff.2 ⟨by simp [hl],fun b hb => ?_⟩
      obtain ⟨s,hm,rfl⟩:=List.mem_map.1 hb
      rw [hs s hm]
      rfl
     rw [e1] at ya
     exact ya
   · exact absurd (fstC_zero fun _ _ => rfl) hne
def MsOk (k L bd : Nat) (Ms : List MS) : Prop:=Ms.length = k ∧ ∀ M ∈ Ms,SysOk M.s ∧ (∀ b,M.s.len b = L) ∧ M.s.T ≤ bd
theorem jopen_c {bd : Nat} (h : JJ w0 w lb D0 E0 none Y Ms wr Ns wt) (o : MsOk k (L + 1) bd Ms) (hi : lb[i0]? = some (Res.own 1 v (2 * k) (rowD D0) (some B))) (h1 : 1 ≤ k) (h8 : k ≤ 8) (hL : 1 ≤ L) (hL2 : L + 1 ≤ 16384) :
 Calls Tryz.prog 13 #[v] w fun e w' => ∃ X : Option VX,e = .returned (.tuple #[vpX X,.int .i64 (opC Ms)]) ∧ X.isSome = decide (opC Ms = 0) ∧ (∀ X',X = some X' → VOk X' ∧ X'.ms.length = k ∧ X'.e = L) ∧ JJ w0 w' lb D0 E0 X Y (opMs Ms) 0 Ns wt:=by
 obtain ⟨ss,s1,s2,hh,hfail,hback⟩:=h.cs
 have hl : ss.length = k:=by have:=congrArg List.length s2;simp at this;rw [this];exact o.1
 have hs : ∀ s ∈ ss,SysOk s.s ∧ (∀ b,s.s.len b = L + 1) ∧ s.s.T ≤ bd:=fun s hs => by
  have : s.s ∈ Ms.map MS.s:=by rw [← s2];exact List.mem_map.2 ⟨s,hs,rfl⟩
  obtain ⟨M,hM,e⟩:=List.mem_map.1 this
  rw [← e]
  exact o.2 M hM
 have hrow : lb[i0]? = some (Res.own 1 v (dsOf ss).length (((dsOf ss).map some).map pv) (some B)):=by
  rw [hi,dsOf_flat,s1]
  have e1 : (D0.flatMap fun d => [d false,d true]).length = 2 * k:=by
   have : (dsOf ss).length = 2 * k:=by rw [dsOf,List.length_map,dsP_len,hl]
   rw [dsOf_flat,s1] at this
   exact this
  rw [e1]
  rfl
 have HO:=hid (of_both mfO opF hh hrow (by omega) (by omega) (L + 1) (fun s hm hz => ⟨(hs s hm).1,(hs s hm).2.1 false⟩) (by omega) (fun s hm hz l1 w1 h1 => by
  obtain ⟨q,hq⟩:=opn_zero hz
  refine (copen_any (s:=s.s) (d:=s.d) (FF:=s.FF) (l:=l1) h1 (hs s hm).1).mono ?_
  rintro e w' ⟨m,rfl,ev⟩
  unfold opF at hz
  have e2 : mfO s.s = msO s.s q:=by unfold mfO;rw [hq];rfl
  rw [e2,hz,hq]
  rw [hq] at ev
  exact ⟨m,s.FF,rfl,ev⟩) (fun s hm hz l1 w1 h1 => by
  have hq:=opn_ne hz
  refine (copen_any (s:=s.s) (d:=s.d) (FF:=s.FF) (l:=l1) h1 (hs s hm).1).mono ?_
  rintro e w' ⟨m,rfl,ev⟩
  rw [hq] at ev ⊢
  exact ⟨s.FF,rfl,ev⟩) (fun s hm hz t ht => rfl))
 have hh9:=h.held.ownAt i0 hi
 obtain ⟨ad,c,rfl⟩:=hh9.isSlice
 have hopc : fstC opF (ss.map VS.s) = opC Ms:=by unfold opC;rw [s2]
 rw [hopc,show (((L + 1 : Nat) : Int)) - 1 = (L : Int) by omega] at HO
 have hms : opC Ms = 0 → ss.map (fun s => mfO s.s) = opMs Ms:=fun hz => by
  unfold opMs
  rw [if_pos hz]
  have : ss.map (fun s => mfO s.s) = (ss.map VS.s).map mfO:=by rw [List.map_map];rfl
  rw [this,s2,List.map_map]
  rfl
 have HO2:=hid (show Calls Tryz.prog 23 #[.slice ad (2 * k) c,.func (.func 31) #[] #[]] w fun e w' => ∃ X : Option VX,e = .returned (.tuple #[vpX X,.int .i64 (opC Ms)]) ∧ X.isSome = decide (opC Ms = 0) ∧ (∀ X',X = some X' → VOk X' ∧ X'.ms.length = k ∧ X'.e = L) ∧ JJ w0 w' lb D0 E0 X Y (opMs Ms) 0 Ns wt from HO.out.mono (by
  rintro e w' (⟨hz,vb,rb,v',ps,rfl,hp,ev⟩ | ⟨hz,rfl,ss',z1,z2,ev⟩)
  · have e1 : ps.map VP.d = ss.map VS.d:=by
     have:=congrArg (List.map Prod.fst) hp
     simpa [Function.comp_def] using this
    have e2 : ps.map VP.M = ss.map fun s => mfO s.s:=by
     have:=congrArg (List.map Prod.snd) hp
     simpa [Function.comp_def] using this
    have hpl : ps.length = k:=by
     have:=congrArg List.length hp
     simp at this
     omega
    have e3:=VA.made (Ev.refl hh) ev
    rw [e2,hms hz] at e3
    refine ⟨some ⟨vb,rb,v',ps.map VP.m,ps.map VP.d,L⟩,by rw [hz];rfl,by rw [hz];rfl,fun X' hX => ?_,hback _ _ _ _ (e1.trans s1) e3⟩
    obtain rfl:=Option.some.inj hX
    exact ⟨⟨by simp;omega,by simp;omega,by simp;omega⟩,by simp;exact hpl,rfl⟩
  · refine ⟨none,rfl,by simp [hz],(fun X' hX => by cases hX),?_⟩
    have:=hfail w' ss' (z1.trans s1) (z2.trans s2) ev
    obtain ⟨C,D,⟨cs,c1,c2,c3⟩,g2,g3⟩:=this
    exact ⟨C,D,⟨cs,c1,by unfold opMs;rw [if_neg hz];exact c2,c3⟩,g2,g3⟩))
 generalize opMs Ms = Os at *
 generalize opC Ms = cc at *
 clear h o hi hback hfail hl s1 s2 hrow hs hh9 hh HO hopc hms
 go_enter Tryz.func13,Tryz.ntmps13
 go_wp2_with (go_at_call 23;refine HO2.out.mono ?_;rintro r w5 ⟨X,rfl,q1,q2,q3⟩)
 go_ret2
 exact ⟨X,rfl,q1,q2,q3⟩
theorem jopen_d {bd : Nat} (h : JJ w0 w lb D0 E0 X none Ms wr Ns wt) (o : MsOk k (L + 1) bd Ns) (hb : bd < 998900) (hi : lb[i0]? = some (Res.own 1 v (2 * k) (rowD E0) (some B))) (h1 : 1 ≤ k) (h8 : k ≤ 8) :
 Calls Tryz.prog 6 #[v,.bool true] w fun e w' => ∃ Y : Option YX,e = .returned (.tuple #[vpY Y,.int .i64 (opC Ns)]) ∧ Y.isSome = decide (opC Ns = 0) ∧ (∀ Y',Y = some Y' → YOk Y' ∧ Y'.ys.length = k) ∧ JJ w0 w' lb D0 E0 X Y Ms wr (opMs Ns) 0:=by
 obtain ⟨ss,s1,s2,hh,hfail,hback⟩:=h.ds
 have hl : ss.length = k:=by have:=congrArg List.length s2;simp at this;rw [this];exact o.1
 have hs : ∀ s ∈ ss,SysOk s.s ∧ (∀ b,s.s.len b = L + 1) ∧ s.s.T ≤ bd:=fun s hs => by
  have : s.s ∈ Ns.map MS.s:=by rw [← s2];exact List.mem_map.2 ⟨s,hs,rfl⟩
  obtain ⟨M,hM,e⟩:=List.mem_map.1 this
  rw [← e]
  exact o.2 M hM
 have hopc : fstC opF (ss.map XS.s) = opC Ns:=by unfold opC;rw [s2]
 have hms : opC Ns = 0 → ss.map (fun s => mfO s.s) = opMs Ns:=fun hz => by
  unfold opMs
  rw [if_pos hz]
  have : ss.map (fun s => mfO s.s) = (ss.map XS.s).map mfO:=by rw [List.map_map];rfl
  rw [this,s2,List.map_map]
  rfl
 refine (xall_Open mfO opF hh (by rw [hl,s1];exact hi) (by omega) (by omega) (fun s hm hz l1 w1 h1 => ?_) (fun s hm hz l1 w1 h1 => ?_) (fun s hm hz t ht => rfl)).mono ?_
 · obtain ⟨q,hq⟩:=opn_zero hz
   refine (xopen_any (s:=s.s) (d:=s.x) (FF:=s.GG) (l:=l1) h1 (hs s hm).1 (by have:=(hs s hm).2.2;omega)).mono ?_
   rintro e w' ⟨m,db,ib,rfl,ev⟩
   unfold opF at hz
   have e2 : mfO s.s = msO s.s q:=by unfold mfO;rw [hq];rfl
   rw [e2,hz,hq]
   rw [hq] at ev
   exact ⟨m,db,ib,s.GG,rfl,ev⟩
 · have hq:=opn_ne hz
   refine (xopen_any (s:=s.s) (d:=s.x) (FF:=s.GG) (l:=l1) h1 (hs s hm).1 (by have:=(hs s hm).2.2;omega)).mono ?_
   rintro e w' ⟨m,db,ib,rfl,ev⟩
   rw [hq] at ev ⊢
   exact ⟨s.GG,rfl,ev⟩
 · rw [hopc]
   rintro e w' (⟨hz,Y,rfl,y1,y2,ya⟩ | ⟨hz,rfl,ss',z1,z2,ev⟩)
   · rw [hms hz] at ya
     refine ⟨some Y,by rw [hz];rfl,by rw [hz];rfl,fun Y' hY => ?_,hback _ _ _ _ (y2.trans s1) ya⟩
     obtain rfl:=Option.some.inj hY
     exact ⟨⟨by omega,by omega⟩,by omega⟩
   · refine ⟨none,rfl,by simp [hz],(fun X' hX => by cases hX),?_⟩
     have:=hfail w' ss' (z1.trans s1) (z2.trans s2) ev
     obtain ⟨C,D,g2,⟨cs,c1,c2,c3⟩,g3⟩:=this
     exact ⟨C,D,g2,⟨cs,c1,by unfold opMs;rw [if_neg hz];exact c2,c3⟩,g3⟩
theorem opMs_ok {bd : Nat} (o : MsOk k L bd Ms) : MsOk k L bd (opMs Ms):=by
 unfold opMs
 split
 · refine ⟨by rw [List.length_map];exact o.1,fun M hM => ?_⟩
   obtain ⟨N,hN,rfl⟩:=List.mem_map.1 hM
   exact o.2 N hN
 · exact o
end
section
variable {k L bd bd' q : Nat} {Ms : List MS} {M N : MS}
theorem MsOk.at (o : MsOk k L bd Ms) (h : Ms[q]? = some M) : SysOk M.s ∧ (∀ b,M.s.len b = L) ∧ M.s.T ≤ bd:=o.2 M (List.mem_of_getElem? h)
theorem MsOk.mono (o : MsOk k L bd Ms) (h : bd ≤ bd') : MsOk k L bd' Ms:=⟨o.1,fun M hM => ⟨(o.2 M hM).1,(o.2 M hM).2.1,by have:=(o.2 M hM).2.2;omega⟩⟩
theorem MsOk.set (o : MsOk k L bd Ms) (h : bd ≤ bd') (h1 : SysOk N.s) (h2 : ∀ b,N.s.len b = L) (h3 : N.s.T ≤ bd') : MsOk k L bd' (Ms.set q N):=by
 refine ⟨by rw [List.length_set];exact o.1,fun M hM => ?_⟩
 rcases List.mem_or_eq_of_mem_set hM with hM | rfl
 · exact (o.mono h).2 M hM
 · exact ⟨h1,h2,h3⟩
theorem MsOk.stp (o : MsOk k L bd Ms) (hk : Ms[q]? = some M) {n : Nat} (st : Stp n M.s N.s) (h : bd + n ≤ bd') : MsOk k L bd' (Ms.set q N):=by
 obtain ⟨g1,g2,g3⟩:=o.at hk
 exact o.set (by omega) (st.ok g1) (fun b => by rw [st.len g1];exact g2 b) (by have:=st.T g1;omega)
theorem MsOk.map (o : MsOk k L bd Ms) (g : MS → MS) {n : Nat} (st : ∀ M ∈ Ms,Stp n M.s (g M).s) (h : bd + n ≤ bd') : MsOk k L bd' (Ms.map g):=by
 refine ⟨by rw [List.length_map];exact o.1,fun M hM => ?_⟩
 obtain ⟨N,hN,rfl⟩:=List.mem_map.1 hM
 obtain ⟨g1,g2,g3⟩:=o.2 N hN
 have s:=st N hN
 exact ⟨s.ok g1,fun b => by rw [s.len g1];exact g2 b,by have:=s.T g1;omega⟩
theorem MsOk.lok (o : MsOk k (L + 1) bd Ms) : LOk L Ms:=fun q M h => ⟨(o.at h).1,(o.at h).2.1 false⟩
end
section
variable {w w' w0 : World} {lb : List Res} {D0 E0 : List (Bool → Nat)} {X : VX} {Y : YX} {XO : Option VX} {YO : Option YX} {Ms Ns Ms' : List MS} {wr wt wr' : Int} {k L bd : Nat} {r : Value}
theorem lift_c {f : FuncId} {vs : Array Value} (HV : ∀ (w : World) (C : List Res),VA w C w [] X Ms wr → Calls Tryz.prog f vs w fun e w' => e = .returned r ∧ VA w C w' [] X Ms' wr') (h : JJ w0 w lb D0 E0 (some X) YO Ms wr Ns wt) :
 Calls Tryz.prog f vs w fun e w' => e = .returned r ∧ JJ w0 w' lb D0 E0 (some X) YO Ms' wr' Ns wt:=by
 obtain ⟨C,va,back⟩:=h.c
 refine (HV w C va).mono ?_
 rintro e w' ⟨rfl,v⟩
 exact ⟨rfl,back _ _ _ v⟩
theorem lift_d {f : FuncId} {vs : Array Value} (HV : ∀ (w : World) (C : List Res),YA w C w [] Y Ms wr → Calls Tryz.prog f vs w fun e w' => e = .returned r ∧ YA w C w' [] Y Ms' wr') (h : JJ w0 w lb D0 E0 XO (some Y) Ns wt Ms wr) :
 Calls Tryz.prog f vs w fun e w' => e = .returned r ∧ JJ w0 w' lb D0 E0 XO (some Y) Ns wt Ms' wr':=by
 obtain ⟨C,va,back⟩:=h.d
 refine (HV w C va).mono ?_
 rintro e w' ⟨rfl,v⟩
 exact ⟨rfl,back _ _ _ v⟩
structure Two (k L : Nat) (X : VX) (Y : YX) : Prop where
 x : VOk X
 y : YOk Y
 xn : X.ms.length = k
 yn : Y.ys.length = k
 e : X.e = L
theorem pl_cases (n e : Nat) (hn : 0 < n) (i : Int) : plC n e i ≠ 0 ∨ (plC n e i = 0 ∧ plP n e i < n):=by
 by_cases h : 0 ≤ i ∧ i < ((e * n : Nat) : Int)
 · refine .inr ⟨by unfold plC;rw [if_pos h],?_⟩
   unfold plP
   rw [if_pos h]
   exact Nat.mod_lt _ hn
 · refine .inl ?_
   unfold plC
   rw [if_neg h]
   decide
theorem jwrite (t : Two k L X Y) (o : MsOk k (L + 1) bd Ms) (hb : bd < 998700) (h0 : 0 ≤ wr) (h1 : wr ≤ 1000000) (i : Int) (S : ByteArray) (hS : S.size ≤ 9223372036854775807) :
 ∃ (c : Int) (Ms' : List MS) (wr' : Int),MsOk k (L + 1) (bd + 12) Ms' ∧ wr ≤ wr' ∧ wr' ≤ wr + 1 ∧
   (∀ (w0 w : World) (lb : List Res) (D0 E0 : List (Bool → Nat)) (Ns : List MS) (wt : Int),JJ w0 w lb D0 E0 (some X) (some Y) Ms wr Ns wt → Calls Tryz.prog 32 #[.pointer (some ⟨X.vb,0,none⟩),.int .i64 i,.string S] w fun e w' => e = .returned (.int .i64 c) ∧ JJ w0 w' lb D0 E0 (some X) (some Y) Ms' wr' Ns wt) ∧
   (∀ (w0 w : World) (lb : List Res) (D0 E0 : List (Bool → Nat)) (Ns : List MS) (wt : Int),JJ w0 w lb D0 E0 (some X) (some Y) Ns wt Ms wr → Calls Tryz.prog 34 #[.pointer (some ⟨Y.yb,0,none⟩),.int .i64 i,.string S] w fun e w' => e = .returned (.int .i64 c) ∧ JJ w0 w' lb D0 E0 (some X) (some Y) Ns wt Ms' wr'):=by
 have hk1 : 0 < k:=by have:=t.x.h1;have:=t.xn;omega
 have he : L ≤ 16384:=by have:=t.x.he;rw [t.e] at this;exact this
 rcases pl_cases k L hk1 i with hc | ⟨hc,hp⟩
 · refine ⟨plC k L i,Ms,wr,o.mono (by omega),by omega,by omega,fun w0 w lb D0 E0 Ns wt h => lift_c (fun w C va => ?_) h,fun w0 w lb D0 E0 Ns wt h => lift_d (fun w C ya => ?_) h⟩
   · have:=vwrite_off va t.x i S (by rw [t.xn,t.e];exact hc)
     rw [t.xn,t.e] at this
     exact this
   · have:=ywrite_off (e:=L) ya t.y o.lok he i S (by rw [t.yn];exact hc)
     rw [t.yn] at this
     exact this
 · obtain ⟨M,hM⟩ : ∃ M,Ms[plP k L i]? = some M:=⟨_,List.getElem?_eq_getElem (by rw [o.1];exact hp)⟩
   obtain ⟨g1,g2,g3⟩:=o.at hM
   refine ⟨M.wrE (plA k L i : Int) S,_,_,o.stp hM (wrM_stp M (plA k L i : Int) S) (Nat.le_refl _),?_,?_,fun w0 w lb D0 E0 Ns wt h => lift_c (fun w C va => ?_) h,fun w0 w lb D0 E0 Ns wt h => lift_d (wr':=if M.wrE (plA k L i : Int) S = 0 then wr + 1 else wr) (fun w C ya => ?_) h⟩
   · split <;> omega
   · split <;> omega
   · exact vwrite_in va t.x i S (by rw [t.xn,t.e];exact hc) (by rw [t.xn,t.e]) (by rw [t.xn,t.e]) hM g1 (by omega) hS h0 h1
   · exact ywrite_in (e:=L) ya t.y o.lok he i S (by rw [t.yn];exact hc) (by rw [t.yn]) (by rw [t.yn]) hM g1 (by omega) hS h0 h1
theorem jread (t : Two k L X Y) (o : MsOk k (L + 1) bd Ms) (hb : bd < 998700) (wr : Int) (i : Int) :
 ∃ (s : ByteArray) (c : Int) (Ms' : List MS),MsOk k (L + 1) (bd + 12) Ms' ∧
   (∀ (w0 w : World) (lb : List Res) (D0 E0 : List (Bool → Nat)) (Ns : List MS) (wt : Int),JJ w0 w lb D0 E0 (some X) (some Y) Ms wr Ns wt → Calls Tryz.prog 35 #[.pointer (some ⟨X.vb,0,none⟩),.int .i64 i] w fun e w' => e = .returned (.tuple #[.string s,.int .i64 c]) ∧ JJ w0 w' lb D0 E0 (some X) (some Y) Ms' wr Ns wt) ∧
   (∀ (w0 w : World) (lb : List Res) (D0 E0 : List (Bool → Nat)) (Ns : List MS) (wt : Int),JJ w0 w lb D0 E0 (some X) (some Y) Ns wt Ms wr → Calls Tryz.prog 36 #[.pointer (some ⟨Y.yb,0,none⟩),.int .i64 i,.bool false] w fun e w' => e = .returned (.tuple #[.string s,.int .i64 c]) ∧ JJ w0 w' lb D0 E0 (some X) (some Y) Ns wt Ms' wr):=by
 have hk1 : 0 < k:=by have:=t.x.h1;have:=t.xn;omega
 have he : L ≤ 16384:=by have:=t.x.he;rw [t.e] at this;exact this
 rcases pl_cases k L hk1 i with hc | ⟨hc,hp⟩
 · refine ⟨⟨#[]⟩,plC k L i,Ms,o.mono (by omega),fun w0 w lb D0 E0 Ns wt h => lift_c (fun w C va => ?_) h,fun w0 w lb D0 E0 Ns wt h => lift_d (fun w C ya => ?_) h⟩
   · have:=vread_off va t.x i (by rw [t.xn,t.e];exact hc)
     rw [t.xn,t.e] at this
     exact this
   · have:=yread_off (e:=L) ya t.y o.lok he i (by rw [t.yn];exact hc)
     rw [t.yn] at this
     exact this
 · obtain ⟨M,hM⟩ : ∃ M,Ms[plP k L i]? = some M:=⟨_,List.getElem?_eq_getElem (by rw [o.1];exact hp)⟩
   obtain ⟨g1,g2,g3⟩:=o.at hM
   refine ⟨(MS.rd M (plA k L i : Int)).2.1,(MS.rd M (plA k L i : Int)).2.2,_,o.stp (N:=(MS.rd M (plA k L i : Int)).1) hM ((rd_stp M (plA k L i : Int)).mono (m:=12) (by omega)) (Nat.le_refl _),fun w0 w lb D0 E0 Ns wt h => lift_c (fun w C va => ?_) h,fun w0 w lb D0 E0 Ns wt h => lift_d (fun w C ya => ?_) h⟩
   · exact vread_in va t.x i (by rw [t.xn,t.e];exact hc) (by rw [t.xn,t.e]) (by rw [t.xn,t.e]) hM g1 (by omega)
   · exact yread_in (e:=L) ya t.y o.lok he i (by rw [t.yn];exact hc) (by rw [t.yn]) (by rw [t.yn]) hM g1 (by omega)
theorem jother (t : Two k L X Y) (o : MsOk k (L + 1) bd Ms) (hb : bd < 998700) (wr : Int) (i : Int) :
 ∃ (s : ByteArray) (c : Int) (Ms' : List MS),MsOk k (L + 1) (bd + 12) Ms' ∧
   (∀ (w0 w : World) (lb : List Res) (D0 E0 : List (Bool → Nat)) (Ns : List MS) (wt : Int),JJ w0 w lb D0 E0 (some X) (some Y) Ms wr Ns wt → Calls Tryz.prog 37 #[.pointer (some ⟨X.vb,0,none⟩),.int .i64 i] w fun e w' => e = .returned (.tuple #[.string s,.int .i64 c]) ∧ JJ w0 w' lb D0 E0 (some X) (some Y) Ms' wr Ns wt) ∧
   (∀ (w0 w : World) (lb : List Res) (D0 E0 : List (Bool → Nat)) (Ns : List MS) (wt : Int),JJ w0 w lb D0 E0 (some X) (some Y) Ns wt Ms wr → Calls Tryz.prog 36 #[.pointer (some ⟨Y.yb,0,none⟩),.int .i64 i,.bool true] w fun e w' => e = .returned (.tuple #[.string s,.int .i64 c]) ∧ JJ w0 w' lb D0 E0 (some X) (some Y) Ns wt Ms' wr):=by
 have hk1 : 0 < k:=by have:=t.x.h1;have:=t.xn;omega
 have he : L ≤ 16384:=by have:=t.x.he;rw [t.e] at this;exact this
 rcases pl_cases k L hk1 i with hc | ⟨hc,hp⟩
 · refine ⟨⟨#[]⟩,plC k L i,Ms,o.mono (by omega),fun w0 w lb D0 E0 Ns wt h => lift_c (fun w C va => ?_) h,fun w0 w lb D0 E0 Ns wt h => lift_d (fun w C ya => ?_) h⟩
   · have:=vother_off va t.x i (by rw [t.xn,t.e];exact hc)
     rw [t.xn,t.e] at this
     exact this
   · have:=yother_off (e:=L) ya t.y o.lok he i (by rw [t.yn];exact hc)
     rw [t.yn] at this
     exact this
 · obtain ⟨M,hM⟩ : ∃ M,Ms[plP k L i]? = some M:=⟨_,List.getElem?_eq_getElem (by rw [o.1];exact hp)⟩
   obtain ⟨g1,g2,g3⟩:=o.at hM
   refine ⟨(MS.ot M (plA k L i : Int)).2.1,(MS.ot M (plA k L i : Int)).2.2,_,o.stp (N:=(MS.ot M (plA k L i : Int)).1) hM ((ot_stp M (plA k L i : Int)).mono (m:=12) (by omega)) (Nat.le_refl _),fun w0 w lb D0 E0 Ns wt h => lift_c (fun w C va => ?_) h,fun w0 w lb D0 E0 Ns wt h => lift_d (fun w C ya => ?_) h⟩
   · exact vother_in va t.x i (by rw [t.xn,t.e];exact hc) (by rw [t.xn,t.e]) (by rw [t.xn,t.e]) hM g1 (by omega)
   · exact yother_in (e:=L) ya t.y o.lok he i (by rw [t.yn];exact hc) (by rw [t.yn]) (by rw [t.yn]) hM g1 (by omega)
theorem jflush (t : Two k L X Y) (o : MsOk k (L + 1) bd Ms) (hb : bd < 998700) (wr : Int) :
 ∃ (c : Int) (Ms' : List MS),MsOk k (L + 1) (bd + 12) Ms' ∧
   (∀ (w0 w : World) (lb : List Res) (D0 E0 : List (Bool → Nat)) (Ns : List MS) (wt : Int),JJ w0 w lb D0 E0 (some X) (some Y) Ms wr Ns wt → Calls Tryz.prog 38 #[.pointer (some ⟨X.vb,0,none⟩)] w fun e w' => e = .returned (.int .i64 c) ∧ JJ w0 w' lb D0 E0 (some X) (some Y) Ms' wr Ns wt) ∧
   (∀ (w0 w : World) (lb : List Res) (D0 E0 : List (Bool → Nat)) (Ns : List MS) (wt : Int),JJ w0 w lb D0 E0 (some X) (some Y) Ns wt Ms wr → Calls Tryz.prog 39 #[.pointer (some ⟨Y.yb,0,none⟩)] w fun e w' => e = .returned (.int .i64 c) ∧ JJ w0 w' lb D0 E0 (some X) (some Y) Ns wt Ms' wr):=by
 refine ⟨firstC MS.flushC Ms,_,o.map MS.flushM (fun M hM => flushM_stp M) (Nat.le_refl _),fun w0 w lb D0 E0 Ns wt h => lift_c (fun w C va => ?_) h,fun w0 w lb D0 E0 Ns wt h => lift_d (fun w C ya => ?_) h⟩
 · exact vflush_any va t.x (fun M hM => (o.2 M hM).1) (fun M hM => by have:=(o.2 M hM).2.2;omega)
 · exact yflush_any ya t.y (fun M hM => (o.2 M hM).1) (fun M hM => by have:=(o.2 M hM).2.2;omega)
theorem jresync (t : Two k L X Y) (o : MsOk k (L + 1) bd Ms) (hb : bd + 2 * (L + 1) < 998700) (wr : Int) :
 ∃ (n c : Int) (Ms' : List MS),MsOk k (L + 1) (bd + (2 * (L + 1) + 12)) Ms' ∧
   (∀ (w0 w : World) (lb : List Res) (D0 E0 : List (Bool → Nat)) (Ns : List MS) (wt : Int),JJ w0 w lb D0 E0 (some X) (some Y) Ms wr Ns wt → Calls Tryz.prog 40 #[.pointer (some ⟨X.vb,0,none⟩)] w fun e w' => e = .returned (.tuple #[.int .i64 n,.int .i64 c]) ∧ JJ w0 w' lb D0 E0 (some X) (some Y) Ms' wr Ns wt) ∧
   (∀ (w0 w : World) (lb : List Res) (D0 E0 : List (Bool → Nat)) (Ns : List MS) (wt : Int),JJ w0 w lb D0 E0 (some X) (some Y) Ns wt Ms wr → Calls Tryz.prog 41 #[.pointer (some ⟨Y.yb,0,none⟩)] w fun e w' => e = .returned (.tuple #[.int .i64 n,.int .i64 c]) ∧ JJ w0 w' lb D0 E0 (some X) (some Y) Ns wt Ms' wr):=by
 refine ⟨rsN Ms,firstC (fun M => M.rs.2.2) Ms,_,o.map (fun M => M.rs.1) (fun M hM => (rs_stp M).mono (by have:=(o.2 M hM).2.1 (!M.c0);rw [this];omega)) (Nat.le_refl _),fun w0 w lb D0 E0 Ns wt h => lift_c (fun w C va => ?_) h,fun w0 w lb D0 E0 Ns wt h => lift_d (fun w C ya => ?_) h⟩
 · exact vresync_any va t.x (fun M hM => (o.2 M hM).1) (fun M hM => by have:=(o.2 M hM).2.2;rw [(o.2 M hM).2.1];omega)
 · exact yresync_any ya t.y (fun M hM => (o.2 M hM).1) (fun M hM => by have:=(o.2 M hM).2.2;rw [(o.2 M hM).2.1];omega)
theorem jplace_c (t : Two k L X Y) (h : JJ w0 w lb D0 E0 (some X) YO Ms wr Ns wt) (i : Int) :
 Calls Tryz.prog 42 #[.pointer (some ⟨X.vb,0,none⟩),.int .i64 i] w fun r w' => r = .returned (.tuple #[.int .i64 (plP k L i : Int),.int .i64 (plA k L i : Int),.int .i64 (plC k L i)]) ∧ Fr [] w w':=by
 obtain ⟨C,va,back⟩:=h.c
 have:=vplace_v va t.x i
 rw [t.xn,t.e] at this
 exact this
theorem jplace_d (t : Two k L X Y) (o : MsOk k (L + 1) bd Ns) (h : JJ w0 w lb D0 E0 XO (some Y) Ms wr Ns wt) (i : Int) :
 Calls Tryz.prog 43 #[.pointer (some ⟨Y.yb,0,none⟩),.int .i64 i] w fun r w' => r = .returned (.tuple #[.int .i64 (plP k L i : Int),.int .i64 (plA k L i : Int),.int .i64 (plC k L i)]) ∧ Fr [] w w':=by
 obtain ⟨C,ya,back⟩:=h.d
 have:=yplace_v (e:=L) ya t.y o.lok (by have:=t.x.he;rw [t.e] at this;exact this) i
 rw [t.yn] at this
 exact this
theorem jindex_c (t : Two k L X Y) (h : JJ w0 w lb D0 E0 (some X) YO Ms wr Ns wt) (p a : Int) :
 Calls Tryz.prog 44 #[.pointer (some ⟨X.vb,0,none⟩),.int .i64 p,.int .i64 a] w fun r w' => r = .returned (.tuple #[.int .i64 (ixN k L p a : Int),.int .i64 (ixC k L p a)]) ∧ w' = w:=by
 obtain ⟨C,va,back⟩:=h.c
 have:=vindex_v va t.x p a
 rw [t.xn,t.e] at this
 exact this
theorem jindex_d (t : Two k L X Y) (o : MsOk k (L + 1) bd Ns) (h : JJ w0 w lb D0 E0 XO (some Y) Ms wr Ns wt) (p a : Int) :
 Calls Tryz.prog 45 #[.pointer (some ⟨Y.yb,0,none⟩),.int .i64 p,.int .i64 a] w fun r w' => r = .returned (.tuple #[.int .i64 (ixN k L p a : Int),.int .i64 (ixC k L p a)]) ∧ Fr [] w w':=by
 obtain ⟨C,ya,back⟩:=h.d
 have:=yindex_v (e:=L) ya t.y o.lok (by have:=t.x.he;rw [t.e] at this;exact this) p a
 rw [t.yn] at this
 exact this
theorem jlen_c (t : Two k L X Y) (h : JJ w0 w lb D0 E0 (some X) YO Ms wr Ns wt) :
 Calls Tryz.prog 17 #[.pointer (some ⟨X.vb,0,none⟩)] w fun r w' => r = .returned (.int .i64 ((L * k : Nat) : Int)) ∧ Fr [] w w':=by
 obtain ⟨C,va,back⟩:=h.c
 have:=vlen_v va t.x
 rw [t.xn,t.e] at this
 exact this
theorem jlen_d (t : Two k L X Y) (o : MsOk k (L + 1) bd Ns) (h : JJ w0 w lb D0 E0 XO (some Y) Ms wr Ns wt) :
 Calls Tryz.prog 18 #[.pointer (some ⟨Y.yb,0,none⟩)] w fun r w' => r = .returned (.int .i64 ((L * k : Nat) : Int)) ∧ w' = w:=by
 obtain ⟨C,ya,back⟩:=h.d
 have:=ylen_v (e:=L) ya t.y o.lok (by have:=t.x.he;rw [t.e] at this;exact this)
 rw [t.yn] at this
 exact this
theorem jwr_c (t : Two k L X Y) (h : JJ w0 w lb D0 E0 (some X) YO Ms wr Ns wt) :
 Calls Tryz.prog 19 #[.pointer (some ⟨X.vb,0,none⟩)] w fun r w' => r = .returned (.int .i64 wr) ∧ w' = w:=by
 obtain ⟨C,va,back⟩:=h.c
 exact vwr_v va t.x
theorem jwr_d (h : JJ w0 w lb D0 E0 XO (some Y) Ms wr Ns wt) : w.cell? ⟨Y.yb,1,none⟩ = some (.int .i64 wt):=by
 obtain ⟨C,ya,back⟩:=h.d
 exact ya.blk.cell 1
end
section
variable {w w' w0 : World} {lb : List Res} {D0 E0 : List (Bool → Nat)} {X : VX} {Y : YX} {Ms : List MS} {wr : Int} {k L bd : Nat}
theorem jdoes (t : Two k L X Y) (o : MsOk k (L + 1) bd Ms) (hb : bd + 2 * (L + 1) < 998700) (h0 : 0 ≤ wr) (h1 : wr ≤ 1000000) (h : JJ w0 w lb D0 E0 (some X) (some Y) Ms wr Ms wr) (a : Step8) :
 Calls Tryz.prog 14 #[.pointer (some ⟨X.vb,0,none⟩),.pointer (some ⟨Y.yb,0,none⟩),.agg (stc8 a).toArray] w fun e w' => e = .returned (.bool true) ∧ ∃ (Ms' : List MS) (wr' : Int),MsOk k (L + 1) (bd + (2 * (L + 1) + 12)) Ms' ∧ wr ≤ wr' ∧ wr' ≤ wr + 1 ∧ JJ w0 w' lb D0 E0 (some X) (some Y) Ms' wr' Ms' wr':=by
 have HF:=hid fun w1 : World => fill8_any w1 a.C
 obtain ⟨dov,iv,dd,cv,kp,ks,KB⟩:=a
 simp only at HF
 rw [show (stc8 ⟨dov,iv,dd,cv,kp,ks,KB⟩) = [.int .i64 dov,.int .i64 iv,.int .i64 dd,.int .u8 (cv.toNat : Int),kp] from rfl]
 have HWR:=hid (jwrite t o (by omega) h0 h1 iv (fill7 cv) (by rw [fill7_size];decide))
 have HRD:=hid (jread t o (by omega) wr iv)
 have HOT:=hid (jother t o (by omega) wr iv)
 have HFL:=hid (jflush t o (by omega) wr)
 have HRS:=hid (jresync t o hb wr)
 have HP1:=hid fun (w1 : World) (lb1 : List Res) (h1 : JJ w0 w1 lb1 D0 E0 (some X) (some Y) Ms wr Ms wr) => jplace_c t h1 iv
 have HP2:=hid fun (w1 : World) (lb1 : List Res) (h1 : JJ w0 w1 lb1 D0 E0 (some X) (some Y) Ms wr Ms wr) => jplace_d t o h1 iv
 have HI1:=hid fun (w1 : World) (lb1 : List Res) (h1 : JJ w0 w1 lb1 D0 E0 (some X) (some Y) Ms wr Ms wr) => jindex_c t h1 dd iv
 have HI2:=hid fun (w1 : World) (lb1 : List Res) (h1 : JJ w0 w1 lb1 D0 E0 (some X) (some Y) Ms wr Ms wr) => jindex_d t o h1 dd iv
 have HO:=hid o
 have HJ:=hid h
 generalize X.vb = vb at *
 generalize Y.yb = yb at *
 generalize fill7 cv = fl at *
 clear h o t h0 h1 hb
 obtain ⟨cs,hcs⟩ : ∃ cs : List Value,[.int .i64 dov,.int .i64 iv,.int .i64 dd,.int .u8 (cv.toNat : Int),kp] = cs:=⟨_,rfl⟩
 have c0 : cs[0]? = some (.int .i64 dov):=by rw [← hcs];rfl
 have c1 : cs[1]? = some (.int .i64 iv):=by rw [← hcs];rfl
 have c2 : cs[2]? = some (.int .i64 dd):=by rw [← hcs];rfl
 have c3 : cs[3]? = some (.int .u8 (cv.toNat : Int)):=by rw [← hcs];rfl
 rw [hcs]
 clear hcs
 have HS:=hid fun (w1 : World) (lb1 : List Res) (Ns Os : List MS) (wn wo : Int) (b : Nat) (h1 : JJ w0 w1 (Res.blk b cs :: lb1) D0 E0 (some X) (some Y) Ns wn Os wo) => (show w1.cell? ⟨b,1,none⟩ = some (.int .i64 iv) ∧ w1.cell? ⟨b,2,none⟩ = some (.int .i64 dd) ∧ w1.cell? ⟨b,3,none⟩ = some (.int .u8 (cv.toNat : Int)) from
  ⟨((h1.held.blkAt 0 rfl).cell 1).trans c1,((h1.held.blkAt 0 rfl).cell 2).trans c2,((h1.held.blkAt 0 rfl).cell 3).trans c3⟩)
 by_cases d0 : dov = 0
 · subst d0
   obtain ⟨c,M2,w2r,m1,m2,m3,HA,HB⟩:=HWR.out
   have HA:=hid HA
   have HB:=hid HB
   have HM:=hid (And.intro m1 (And.intro m2 m3))
   clear m1 m2 m3 HWR HRD HOT HFL HRS HP1 HP2 HI1 HI2
   go_enter Tryz.func14,Tryz.ntmps14
   go_wp2_with (first
    | (refine wpList_box rfl _ _ rfl cs rfl ?_;intro w1 f1 hlt1 hb1;have J1:=hid (HJ.out.new f1 (Res.On.blk hb1) (fun b hb => by simp [Res.blk] at hb;omega));have k0 : w1.cell? ⟨w.heap.size,0,none⟩ = some (.int .i64 0):=(hb1.cell 0).trans c0;clear hb1 f1 hlt1;simp only [aA,aB,Act.put,aC,aD,aE]))
   have J2:=hid (J1.out.step (Fr.refl [] w1).drew)
   obtain ⟨s1,s2,s3⟩:=HS.out _ _ _ _ _ _ _ J2.out
   generalize w.heap.size = sb at *
   clear J1 k0
   refine wp_region_D (fun w' => w'.cell? ⟨sb,1,none⟩ = some (.int .i64 iv) ∧ w'.cell? ⟨sb,3,none⟩ = some (.int .u8 (cv.toNat : Int))) false [] (by kernel_rfl) ?_
   refine WD.pure [3,4] (by kernel_rfl) ⟨s1,s3⟩ ?_
   simp only [pick,aF,aG,aI,aJ,aK]
   repeat (first | (refine quiet_load_1R (by rfl) _ _ rfl rfl (.int .i64 iv) (fun wq h => by first|exact h.1|(rw [h];exact s1)) _ Tryz.underlying3 rfl ?_;simp only [aA,aB,Act.put,aC,aD,aE]) | (refine quiet_load_1R (by rfl) _ _ rfl rfl (.int .u8 (cv.toNat : Int)) (fun wq h => by first|exact h.2|(rw [h];exact s3)) _ Tryz.underlying5 rfl ?_;simp only [aA,aB,Act.put,aC,aD,aE]) | go_big_quiet_step (fail))
   refine wpQuiet_nil ?_
   refine WD.free [0,1,7,8,10] (by kernel_rfl) ⟨s1,s3⟩ ?_
   simp only [pick,aF,aG,aI,aJ,aK]
   repeat (first | go_big_quiet_step (fail))
   refine wpQuiet_nil ?_
   refine WD.held [2,9,11] (by kernel_rfl) ⟨s1,s3⟩ ?_
   simp only [pick,aF,aG,aI,aJ,aK]
   repeat (first | (refine quiet_load_1R (by rfl) _ _ rfl rfl (.int .i64 iv) (fun wq h => by first|exact h.1|(rw [h];exact s1)) _ Tryz.underlying3 rfl ?_;simp only [aA,aB,Act.put,aC,aD,aE]) | (refine quiet_load_1R (by rfl) _ _ rfl rfl (.int .u8 (cv.toNat : Int)) (fun wq h => by first|exact h.2|(rw [h];exact s3)) _ Tryz.underlying5 rfl ?_;simp only [aA,aB,Act.put,aC,aD,aE]) | go_big_quiet_step (fail))
   refine wpQuiet_nil ?_
   refine WD.eff 5 (by kernel_rfl) ?_
   simp only [pick,aF,aG,aI,aJ,aK]
   go_wp2_with (go_at_call 33;refine (HF.out _).mono ?_;rintro e w3 ⟨rfl,f3⟩;have J3:=hid (J2.out.step f3);obtain ⟨t1,t2,t3⟩:=HS.out _ _ _ _ _ _ _ J3.out;clear f3 J2)
   try refine wpList_nil ?_
   refine AfterD.on ⟨t1,t3⟩ (by kernel_rfl) ?_
   try simp only [aA,aB,Act.put,aC,aD,aE]
   refine WD.eff 6 (by kernel_rfl) ?_
   simp only [pick,aF,aG,aI,aJ,aK]
   go_wp2_with (go_at_call 32;refine (HA.out _ _ _ _ _ _ _ J3.out).mono ?_;rintro e w4 ⟨rfl,j4⟩;have J4:=hid j4;obtain ⟨u1,u2,u3⟩:=HS.out _ _ _ _ _ _ _ j4;clear j4 J3 HA)
   try refine wpList_nil ?_
   refine AfterD.on ⟨u1,u3⟩ (by kernel_rfl) ?_
   try simp only [aA,aB,Act.put,aC,aD,aE]
   refine WD.eff 12 (by kernel_rfl) ?_
   simp only [pick,aF,aG,aI,aJ,aK]
   go_wp2_with (go_at_call 33;refine (HF.out _).mono ?_;rintro e w5 ⟨rfl,f5⟩;have J5:=hid (J4.out.step f5);obtain ⟨v1,v2,v3⟩:=HS.out _ _ _ _ _ _ _ J5.out;clear f5 J4)
   try refine wpList_nil ?_
   refine AfterD.on ⟨v1,v3⟩ (by kernel_rfl) ?_
   try simp only [aA,aB,Act.put,aC,aD,aE]
   refine WD.eff 13 (by kernel_rfl) ?_
   simp only [pick,aF,aG,aI,aJ,aK]
   go_wp2_with (go_at_call 34;refine (HB.out _ _ _ _ _ _ _ J5.out).mono ?_;rintro e w6 ⟨rfl,j6⟩;have J6:=hid j6;obtain ⟨x1,x2,x3⟩:=HS.out _ _ _ _ _ _ _ j6;clear j6 J5 HB)
   try refine wpList_nil ?_
   refine AfterD.on ⟨x1,x3⟩ (by kernel_rfl) ?_
   try simp only [aA,aB,Act.put,aC,aD,aE]
   refine WD.pure [14,15] (by kernel_rfl) ⟨x1,x3⟩ ?_
   simp only [pick,aF,aG,aI,aJ,aK]
   repeat (first | go_big_quiet_step (fail))
   refine wpQuiet_nil ?_
   refine WD.done (by kernel_rfl) ?_
   go_wp2_with fail
   go_ret
   exact ⟨by simp,M2,w2r,HM.out.1.mono (by omega),HM.out.2.1,HM.out.2.2,J6.out.less⟩
 have u0 : (dov == 0) = false:=by simpa using d0
 by_cases d1 : dov = 1
 · subst d1
   obtain ⟨s,c,M2,m1,HA,HB⟩:=HRD.out
   have HA:=hid HA
   have HB:=hid HB
   have HM:=hid m1
   have HE:=mt_beq s s
   clear m1 HWR HRD HOT HFL HRS HP1 HP2 HI1 HI2 HF
   go_enter Tryz.func14,Tryz.ntmps14
   go_wp2_with (first
    | (refine wpList_box rfl _ _ rfl cs rfl ?_;intro w1 f1 hlt1 hb1;have J1:=hid (HJ.out.new f1 (Res.On.blk hb1) (fun b hb => by simp [Res.blk] at hb;omega));have k0 : w1.cell? ⟨w.heap.size,0,none⟩ = some (.int .i64 1):=(hb1.cell 0).trans c0;have k1 : w1.cell? ⟨w.heap.size,1,none⟩ = some (.int .i64 iv):=(hb1.cell 1).trans c1;clear hb1 f1 hlt1;simp only [aA,aB,Act.put,aC,aD,aE])
    | (go_at_call 35;refine (HA.out _ _ _ _ _ _ _ J1.out).mono ?_;rintro e w4 ⟨rfl,j4⟩;have J4:=hid j4;obtain ⟨q1,u2,u3⟩:=HS.out _ _ _ _ _ _ _ j4;clear j4 J1 HA k0 k1)
    | (go_at_call 36;refine (HB.out _ _ _ _ _ _ _ J4.out).mono ?_;rintro e w6 ⟨rfl,j6⟩;have J6:=hid j6;clear j6 J4 HB))
   go_ret
   exact ⟨by simp,M2,wr,HM.out.mono (by omega),by omega,by omega,J6.out.less⟩
 have u1 : (dov == 1) = false:=by simpa using d1
 by_cases d2 : dov = 2
 · subst d2
   obtain ⟨s,c,M2,m1,HA,HB⟩:=HOT.out
   have HA:=hid HA
   have HB:=hid HB
   have HM:=hid m1
   have HE:=mt_beq s s
   clear m1 HWR HRD HOT HFL HRS HP1 HP2 HI1 HI2 HF
   go_enter Tryz.func14,Tryz.ntmps14
   go_wp2_with (first
    | (refine wpList_box rfl _ _ rfl cs rfl ?_;intro w1 f1 hlt1 hb1;have J1:=hid (HJ.out.new f1 (Res.On.blk hb1) (fun b hb => by simp [Res.blk] at hb;omega));have k0 : w1.cell? ⟨w.heap.size,0,none⟩ = some (.int .i64 2):=(hb1.cell 0).trans c0;have k1 : w1.cell? ⟨w.heap.size,1,none⟩ = some (.int .i64 iv):=(hb1.cell 1).trans c1;clear hb1 f1 hlt1;simp only [aA,aB,Act.put,aC,aD,aE])
    | (go_at_call 37;refine (HA.out _ _ _ _ _ _ _ J1.out).mono ?_;rintro e w4 ⟨rfl,j4⟩;have J4:=hid j4;obtain ⟨q1,u2,u3⟩:=HS.out _ _ _ _ _ _ _ j4;clear j4 J1 HA k0 k1)
    | (go_at_call 36;refine (HB.out _ _ _ _ _ _ _ J4.out).mono ?_;rintro e w6 ⟨rfl,j6⟩;have J6:=hid j6;clear j6 J4 HB))
   go_ret
   exact ⟨by simp,M2,wr,HM.out.mono (by omega),by omega,by omega,J6.out.less⟩
 have u2 : (dov == 2) = false:=by simpa using d2
 by_cases d3 : dov = 3
 · subst d3
   obtain ⟨c,M2,m1,HA,HB⟩:=HFL.out
   have HA:=hid HA
   have HB:=hid HB
   have HM:=hid m1
   clear m1 HWR HRD HOT HFL HRS HP1 HP2 HI1 HI2 HF
   go_enter Tryz.func14,Tryz.ntmps14
   go_wp2_with (first
    | (refine wpList_box rfl _ _ rfl cs rfl ?_;intro w1 f1 hlt1 hb1;have J1:=hid (HJ.out.new f1 (Res.On.blk hb1) (fun b hb => by simp [Res.blk] at hb;omega));have k0 : w1.cell? ⟨w.heap.size,0,none⟩ = some (.int .i64 3):=(hb1.cell 0).trans c0;clear hb1 f1 hlt1;simp only [aA,aB,Act.put,aC,aD,aE])
    | (go_at_call 38;refine (HA.out _ _ _ _ _ _ _ J1.out).mono ?_;rintro e w4 ⟨rfl,j4⟩;have J4:=hid j4;clear j4 J1 HA k0)
    | (go_at_call 39;refine (HB.out _ _ _ _ _ _ _ J4.out).mono ?_;rintro e w6 ⟨rfl,j6⟩;have J6:=hid j6;clear j6 J4 HB))
   go_ret
   exact ⟨by simp,M2,wr,HM.out.mono (by omega),by omega,by omega,J6.out.less⟩
 have u3 : (dov == 3) = false:=by simpa using d3
 by_cases d4 : dov = 4
 · subst d4
   obtain ⟨n,c,M2,m1,HA,HB⟩:=HRS.out
   have HA:=hid HA
   have HB:=hid HB
   have HM:=hid m1
   clear m1 HWR HRD HOT HFL HRS HP1 HP2 HI1 HI2 HF
   go_enter Tryz.func14,Tryz.ntmps14
   go_wp2_with (first
    | (refine wpList_box rfl _ _ rfl cs rfl ?_;intro w1 f1 hlt1 hb1;have J1:=hid (HJ.out.new f1 (Res.On.blk hb1) (fun b hb => by simp [Res.blk] at hb;omega));have k0 : w1.cell? ⟨w.heap.size,0,none⟩ = some (.int .i64 4):=(hb1.cell 0).trans c0;clear hb1 f1 hlt1;simp only [aA,aB,Act.put,aC,aD,aE])
    | (go_at_call 40;refine (HA.out _ _ _ _ _ _ _ J1.out).mono ?_;rintro e w4 ⟨rfl,j4⟩;have J4:=hid j4;clear j4 J1 HA k0)
    | (go_at_call 41;refine (HB.out _ _ _ _ _ _ _ J4.out).mono ?_;rintro e w6 ⟨rfl,j6⟩;have J6:=hid j6;clear j6 J4 HB))
   go_ret
   exact ⟨by simp,M2,wr,HM.out.mono (by omega),by omega,by omega,J6.out.less⟩
 have u4 : (dov == 4) = false:=by simpa using d4
 generalize (plP k L iv : Int) = n1 at *
 generalize (plA k L iv : Int) = n2 at *
 generalize plC k L iv = n3 at *
 generalize (ixN k L dd iv : Int) = n4 at *
 generalize ixC k L dd iv = n5 at *
 clear HWR HRD HOT HFL HRS HF d0 d1 d2 d3 d4
 go_enter Tryz.func14,Tryz.ntmps14
 go_wp2_with (first
  | (refine wpList_box rfl _ _ rfl cs rfl ?_;intro w1 f1 hlt1 hb1;have J1:=hid (HJ.out.new f1 (Res.On.blk hb1) (fun b hb => by simp [Res.blk] at hb;omega));have k0 : w1.cell? ⟨w.heap.size,0,none⟩ = some (.int .i64 dov):=(hb1.cell 0).trans c0;have k1 : w1.cell? ⟨w.heap.size,1,none⟩ = some (.int .i64 iv):=(hb1.cell 1).trans c1;have k2 : w1.cell? ⟨w.heap.size,2,none⟩ = some (.int .i64 dd):=(hb1.cell 2).trans c2;clear hb1 f1 hlt1;simp only [aA,aB,Act.put,aC,aD,aE])
  | (go_at_call 42;refine (HP1.out _ _ J1.out).mono ?_;rintro e w4 ⟨rfl,f4⟩;have J4:=hid (J1.out.step f4);obtain ⟨q1,q2,q3⟩:=HS.out _ _ _ _ _ _ _ J4.out;clear f4 J1 HP1 k0 k1 k2)
  | (go_at_call 43;refine (HP2.out _ _ J4.out).mono ?_;rintro e w5 ⟨rfl,f5⟩;have J5:=hid (J4.out.step f5);obtain ⟨r1,r2,r3⟩:=HS.out _ _ _ _ _ _ _ J5.out;clear f5 J4 HP2 q1 q2 q3)
  | (go_at_call 44;refine (HI1.out _ _ J5.out).mono ?_;rintro e w6 ⟨rfl,hw⟩;subst hw;clear HI1)
  | (go_at_call 45;refine (HI2.out _ _ J5.out).mono ?_;rintro e w7 ⟨rfl,f7⟩;have J7:=hid (J5.out.step f7);clear f7 HI2))
 go_ret
 exact ⟨by simp,Ms,wr,HO.out.mono (by omega),by omega,by omega,J7.out.less⟩
end
section
variable {w w' w0 : World} {lb : List Res} {D0 E0 : List (Bool → Nat)} {X : Option VX} {Y : Option YX} {Ms Ns : List MS} {M : MS} {wr wt : Int} {k q n c B : Nat} {d x : Bool → Nat}
theorem jfail_c (h : JJ w0 w lb D0 E0 X Y Ms wr Ns wt) (hk : Ms[q]? = some M) (hd : D0[q]? = some d) (ok : SysOk M.s) (b : Bool) :
 Calls Tryz.prog 7 #[.pointer (some ⟨d b,0,none⟩)] w fun e w' => ∃ cc,e = .returned (.int .i64 cc) ∧ JJ w0 w' lb D0 E0 X Y (Ms.set q { M with s:=M.s.fa b }) wr Ns wt:=by
 obtain ⟨d2,FF,l',ed,hh,hf,back⟩:=h.cq hk
 obtain rfl : d = d2:=Option.some.inj (hd.symm.trans ed)
 refine (sFail b hh ok).mono ?_
 rintro e w' ⟨rfl,FF',ev⟩
 exact ⟨_,rfl,back _ _ _ ev⟩
theorem jreplace_c (h : JJ w0 w lb D0 E0 X Y Ms wr Ns wt) (hk : Ms[q]? = some M) (hd : D0[q]? = some d) (ok : SysOk M.s) (b : Bool) :
 Calls Tryz.prog 9 #[.pointer (some ⟨d b,0,none⟩)] w fun e w' => ∃ cc,e = .returned (.int .i64 cc) ∧ JJ w0 w' lb D0 E0 X Y (Ms.set q { M with s:=M.s.rp b }) wr Ns wt:=by
 obtain ⟨d2,FF,l',ed,hh,hf,back⟩:=h.cq hk
 obtain rfl : d = d2:=Option.some.inj (hd.symm.trans ed)
 refine (sReplace b hh ok).mono ?_
 rintro e w' ⟨rfl,FF',ev⟩
 exact ⟨_,rfl,back _ _ _ ev⟩
theorem jcrash_c (h : JJ w0 w lb D0 E0 X Y Ms wr Ns wt) (hk : Ms[q]? = some M) (hd : D0[q]? = some d) (ok : SysOk M.s) (b : Bool) (ht : M.s.T < 1000000) {v : Value} {ks : List Bool} {KB : Option Nat} (hv : Rc w0 1 v ks.length (ks.map .bool) KB) (hkl : ks.length ≤ maxLen) :
 Calls Tryz.prog 11 #[.pointer (some ⟨d b,0,none⟩),v] w fun e w' => ∃ cc,e = .returned (.int .i64 cc) ∧ JJ w0 w' lb D0 E0 X Y (Ms.set q { M with s:=M.s.crash b ks }) wr Ns wt:=by
 obtain ⟨d2,FF,l',ed,hh,hf,back⟩:=h.cq hk
 obtain rfl : d = d2:=Option.some.inj (hd.symm.trans ed)
 have HKB : ∀ y,KB = some y → y ∉ FF b:=fun y hy hy2 => by
  have h1:=hv.lt y hy
  have h2:=hf y (feet_end (lb:=[]) (C:=l') (hx:=[]) (ffC_mem b hy2))
  omega
 refine (sCrash b hh ok ht (hv.keep h.fr (by simp)) (fun y hy hy2 => HKB y hy hy2) hkl).mono ?_
 rintro e w' ⟨rfl,FF',ev⟩
 exact ⟨_,rfl,back _ _ _ ev⟩
theorem jfail_d (h : JJ w0 w lb D0 E0 X Y Ms wr Ns wt) (hk : Ns[q]? = some M) (hd : E0[q]? = some d) (ok : SysOk M.s) (b : Bool) :
 Calls Tryz.prog 8 #[.pointer (some ⟨d b,0,none⟩)] w fun e w' => ∃ cc,e = .returned (.int .i64 cc) ∧ JJ w0 w' lb D0 E0 X Y Ms wr (Ns.set q { M with s:=M.s.fa b }) wt:=by
 obtain ⟨d2,FF,l',ed,hh,hf,back⟩:=h.dq hk
 obtain rfl : d = d2:=Option.some.inj (hd.symm.trans ed)
 refine (xFail b hh ok).mono ?_
 rintro e w' ⟨rfl,FF',ev⟩
 exact ⟨_,rfl,back _ _ _ ev⟩
theorem jreplace_d (h : JJ w0 w lb D0 E0 X Y Ms wr Ns wt) (hk : Ns[q]? = some M) (hd : E0[q]? = some d) (ok : SysOk M.s) (b : Bool) :
 Calls Tryz.prog 10 #[.pointer (some ⟨d b,0,none⟩)] w fun e w' => ∃ cc,e = .returned (.int .i64 cc) ∧ JJ w0 w' lb D0 E0 X Y Ms wr (Ns.set q { M with s:=M.s.rp b }) wt:=by
 obtain ⟨d2,FF,l',ed,hh,hf,back⟩:=h.dq hk
 obtain rfl : d = d2:=Option.some.inj (hd.symm.trans ed)
 refine (xReplace b hh ok).mono ?_
 rintro e w' ⟨rfl,FF',ev⟩
 exact ⟨_,rfl,back _ _ _ ev⟩
theorem jcrash_d (h : JJ w0 w lb D0 E0 X Y Ms wr Ns wt) (hk : Ns[q]? = some M) (hd : E0[q]? = some d) (ok : SysOk M.s) (b : Bool) (ht : M.s.T < 1000000) {v : Value} {ks : List Bool} {KB : Option Nat} (hv : Rc w0 1 v ks.length (ks.map .bool) KB) (hkl : ks.length ≤ maxLen) :
 Calls Tryz.prog 12 #[.pointer (some ⟨d b,0,none⟩),v] w fun e w' => ∃ cc,e = .returned (.int .i64 cc) ∧ JJ w0 w' lb D0 E0 X Y Ms wr (Ns.set q { M with s:=M.s.crash b ks }) wt:=by
 obtain ⟨d2,FF,l',ed,hh,hf,back⟩:=h.dq hk
 obtain rfl : d = d2:=Option.some.inj (hd.symm.trans ed)
 have HKB : ∀ y,KB = some y → y ∉ FF b:=fun y hy hy2 => by
  have h1:=hv.lt y hy
  have h2:=hf y (feet_end (lb:=[]) (C:=l') (hx:=[]) (ffX_mem b hy2))
  omega
 refine (xCrash b hh ok ht (hv.keep h.fr (by simp)) (fun y hy hy2 => HKB y hy hy2) hkl).mono ?_
 rintro e w' ⟨rfl,FF',ev⟩
 exact ⟨_,rfl,back _ _ _ ev⟩
theorem jdead_c (h : JJ w0 w lb D0 E0 X Y Ms wr Ns wt) (hk : Ms[q]? = some M) (hd : D0[q]? = some d) (ok : SysOk M.s) (b : Bool) :
 Calls Tryz.prog 16 #[.pointer (some ⟨d b,0,none⟩)] w fun e w' => e = .returned (.bool (M.s.X b).Dead) ∧ w' = w:=by
 obtain ⟨d2,FF,l',ed,hh,hf,back⟩:=h.cq hk
 obtain rfl : d = d2:=Option.some.inj (hd.symm.trans ed)
 exact sDead b hh ok
theorem jtrace_c (h : JJ w0 w lb D0 E0 X Y Ms wr Ns wt) (hk : Ms[q]? = some M) (hd : D0[q]? = some d) (ok : SysOk M.s) (ht : M.s.T < 1000000) (b : Bool) :
 Calls Tryz.prog 15 #[.pointer (some ⟨d b,0,none⟩)] w fun e w' => (∃ a c B,e = .returned (.slice a (M.s.X b).Trace.length c) ∧ Rc w' 1 (.slice a (M.s.X b).Trace.length c) (M.s.X b).Trace.length ((M.s.X b).Trace.map (.int .i64)) B) ∧ Fr [] w w':=by
 obtain ⟨d2,FF,l',ed,hh,hf,back⟩:=h.cq hk
 obtain rfl : d = d2:=Option.some.inj (hd.symm.trans ed)
 exact sTrace b hh ok ht
theorem jsee_d (h : JJ w0 w lb D0 E0 X Y Ms wr Ns wt) (hk : Ns[q]? = some M) (hd : E0[q]? = some d) (ok : SysOk M.s) (b : Bool) :
 ∃ (a : Option Addr) (c : Nat) (B : Option Nat),w.cell? ⟨d b,2,none⟩ = some (.slice a (M.s.X b).Trace.length c) ∧ w.cell? ⟨d b,3,none⟩ = some (.bool (M.s.X b).Dead) ∧ Rc w 1 (.slice a (M.s.X b).Trace.length c) (M.s.X b).Trace.length ((M.s.X b).Trace.map (.int .i64)) B:=by
 obtain ⟨d2,FF,l',ed,hh,hf,back⟩:=h.dq hk
 obtain rfl : d = d2:=Option.some.inj (hd.symm.trans ed)
 obtain ⟨kb,kc,a,c,B,_,h2,h3,h4⟩:=xsee3 b hh ok
 exact ⟨a,c,B,h2,h3,h4⟩
end
theorem vpX_none : vpX none = .pointer none:=rfl
theorem vpX_some (X : VX) : vpX (some X) = .pointer (some ⟨X.vb,0,none⟩):=rfl
theorem vpY_none : vpY none = .pointer none:=rfl
theorem vpY_some (Y : YX) : vpY (some Y) = .pointer (some ⟨Y.yb,0,none⟩):=rfl
def XYOk (k L : Nat) : Option VX → Option YX → Prop
 | none,none => True
 | some X,some Y => Two k L X Y
 | _,_ => False
section
variable {w w' w0 : World} {lb : List Res} {D0 E0 : List (Bool → Nat)} {X : Option VX} {Y : Option YX} {Ms Ns : List MS} {wr wt : Int} {k L B i0 bd : Nat} {v : Value}
theorem jopen_c0 (h : JJ w0 w lb D0 E0 none Y Ms wr Ns wt) (o : MsOk k (L + 1) bd Ms) (hi : lb[i0]? = some (Res.own 1 v (2 * k) (rowD D0) (some B))) (h1 : 1 ≤ k) (h8 : k ≤ 8) (hL : 1 ≤ L) (hL2 : L + 1 ≤ 16384) (hz : opC Ms = 0) :
 Calls Tryz.prog 13 #[v] w fun e w' => ∃ X : VX,e = .returned (.tuple #[.pointer (some ⟨X.vb,0,none⟩),.int .i64 0]) ∧ (VOk X ∧ X.ms.length = k ∧ X.e = L) ∧ JJ w0 w' lb D0 E0 (some X) Y (opMs Ms) 0 Ns wt:=by
 refine (jopen_c h o hi h1 h8 hL hL2).mono ?_
 rintro e w' ⟨X,rfl,x1,x2,j⟩
 rw [hz] at x1 ⊢
 cases X with
 | none => cases x1
 | some X => exact ⟨X,rfl,x2 X rfl,j⟩
theorem jopen_c1 (h : JJ w0 w lb D0 E0 none Y Ms wr Ns wt) (o : MsOk k (L + 1) bd Ms) (hi : lb[i0]? = some (Res.own 1 v (2 * k) (rowD D0) (some B))) (h1 : 1 ≤ k) (h8 : k ≤ 8) (hL : 1 ≤ L) (hL2 : L + 1 ≤ 16384) (hz : opC Ms ≠ 0) :
 Calls Tryz.prog 13 #[v] w fun e w' => e = .returned (.tuple #[.pointer none,.int .i64 (opC Ms)]) ∧ JJ w0 w' lb D0 E0 none Y (opMs Ms) 0 Ns wt:=by
 refine (jopen_c h o hi h1 h8 hL hL2).mono ?_
 rintro e w' ⟨X,rfl,x1,x2,j⟩
 cases X with
 | none => exact ⟨rfl,j⟩
 | some X =>
   have : decide (opC Ms = 0) = true:=x1.symm
   exact absurd (of_decide_eq_true this) hz
theorem jopen_d0 (h : JJ w0 w lb D0 E0 X none Ms wr Ns wt) (o : MsOk k (L + 1) bd Ns) (hb : bd < 998900) (hi : lb[i0]? = some (Res.own 1 v (2 * k) (rowD E0) (some B))) (h1 : 1 ≤ k) (h8 : k ≤ 8) (hz : opC Ns = 0) :
 Calls Tryz.prog 6 #[v,.bool true] w fun e w' => ∃ Y : YX,e = .returned (.tuple #[.pointer (some ⟨Y.yb,0,none⟩),.int .i64 0]) ∧ (YOk Y ∧ Y.ys.length = k) ∧ JJ w0 w' lb D0 E0 X (some Y) Ms wr (opMs Ns) 0:=by
 refine (jopen_d h o hb hi h1 h8).mono ?_
 rintro e w' ⟨Y,rfl,y1,y2,j⟩
 rw [hz] at y1 ⊢
 cases Y with
 | none => cases y1
 | some Y => exact ⟨Y,rfl,y2 Y rfl,j⟩
theorem jopen_d1 (h : JJ w0 w lb D0 E0 X none Ms wr Ns wt) (o : MsOk k (L + 1) bd Ns) (hb : bd < 998900) (hi : lb[i0]? = some (Res.own 1 v (2 * k) (rowD E0) (some B))) (h1 : 1 ≤ k) (h8 : k ≤ 8) (hz : opC Ns ≠ 0) :
 Calls Tryz.prog 6 #[v,.bool true] w fun e w' => e = .returned (.tuple #[.pointer none,.int .i64 (opC Ns)]) ∧ JJ w0 w' lb D0 E0 X none Ms wr (opMs Ns) 0:=by
 refine (jopen_d h o hb hi h1 h8).mono ?_
 rintro e w' ⟨Y,rfl,y1,y2,j⟩
 cases Y with
 | none => exact ⟨rfl,j⟩
 | some Y =>
   have : decide (opC Ns = 0) = true:=y1.symm
   exact absurd (of_decide_eq_true this) hz
end
end Go.Proofs.YtgafefecookgaaaGreat
