/- Several texts put together: VolA, VolB, VolC, VolD, Win, VolE, VolF, VolG, VolH, VolI. What each shows stands ahead of it. -/
import Derived.Test.YtgafefecookgaaaGreatGMirD
import Derived.Test.YtgafefecookgaaaGreatGCore
import Derived.Test.YtgafefecookgaaaGreatGRf
open Go.World renaming size_alloc → aA,size_drew → aB
open List renaming setIfInBounds_toArray → aC,set_cons_succ → aD,set_cons_zero → aE,toList_toArray → aF,map_cons → aG,map_nil → aI,getD_cons_succ → aJ,getD_cons_zero → aK
set_option linter.unusedVariables false
set_option linter.unusedSimpArgs false
set_option maxRecDepth 20000
set_option maxHeartbeats 16000000
namespace Go.Proofs.YtgafefecookgaaaGreat
open Go Go.Xr Go.RowKit
structure VP where
 m : Nat
 d : Bool → Nat
 FF : Bool → List Nat
 M : MS
structure VS where
 d : Bool → Nat
 FF : Bool → List Nat
 s : Sys
def vpC (p : VP) : List Res:=mirC [] p.m p.d p.FF p.M
def vsC (p : VS) : List Res:=sysC [] p.s p.d p.FF
def vpsC (ps : List VP) : List Res:=ps.flatMap vpC
def vssC (ss : List VS) : List Res:=ss.flatMap vsC
def VP.vs (p : VP) : VS:=⟨p.d,p.FF,p.M.s⟩
theorem flat_erase {α : Type} (f : α → List Res) : ∀ (ps : List α) (k : Nat) (p : α),ps[k]? = some p → (ps.flatMap f).Perm ((ps.eraseIdx k).flatMap f ++ f p)
 | [],k,p,h => by simp at h
 | q :: ps,0,p,h => by
   obtain rfl : q = p:=by simpa using h
   exact List.perm_append_comm
 | q :: ps,k + 1,p,h => by
   have:=flat_erase f ps k p (by simpa using h)
   simp only [List.flatMap_cons,List.eraseIdx_cons_succ,List.append_assoc]
   exact List.Perm.append_left _ this
theorem erase_set {α : Type} : ∀ (ps : List α) (k : Nat) (p : α),(ps.set k p).eraseIdx k = ps.eraseIdx k
 | [],k,p => rfl
 | q :: ps,0,p => rfl
 | q :: ps,k + 1,p => by simp [erase_set ps k p]
theorem flat_set {α : Type} (f : α → List Res) (ps : List α) (k : Nat) (p : α) (h : k < ps.length) : ((ps.set k p).flatMap f).Perm ((ps.eraseIdx k).flatMap f ++ f p):=by
 have:=flat_erase f (ps.set k p) k p (by rw [List.getElem?_set_self h])
 rw [erase_set] at this
 exact this
section
variable {w w' w0 : World} {l rs : List Res} {ps : List VP} {k : Nat} {p p' : VP}
theorem vps_perm (l : List Res) (hk : ps[k]? = some p) : (l ++ vpsC ps).Perm ((l ++ vpsC (ps.eraseIdx k)) ++ vpC p):=by
 rw [List.append_assoc]
 exact (flat_erase vpC ps k p hk).append_left l
theorem vps_held (h : Held w (l ++ vpsC ps)) (hk : ps[k]? = some p) : Held w ((l ++ vpsC (ps.eraseIdx k)) ++ mirC [] p.m p.d p.FF p.M):=h.perm (vps_perm l hk)
theorem vps_ev (h : Held w (l ++ vpsC ps)) (hk : ps[k]? = some p) {FF' : Bool → List Nat} {M' : MS} (ev : Ev w ((l ++ vpsC (ps.eraseIdx k)) ++ mirC [] p.m p.d p.FF p.M) w' ((l ++ vpsC (ps.eraseIdx k)) ++ mirC [] p.m p.d FF' M')) :
 Ev w (l ++ vpsC ps) w' (l ++ vpsC (ps.set k ⟨p.m,p.d,FF',M'⟩)):=by
 have hlt : k < ps.length:=(List.getElem?_eq_some_iff.1 hk).1
 have e1:=(Ev.perm (Ev.refl h) (vps_perm l hk)).trans ev
 refine Ev.perm e1 ?_
 rw [List.append_assoc]
 exact ((flat_set vpC ps k ⟨p.m,p.d,FF',M'⟩ hlt).append_left l).symm
theorem vps_drop : ∀ (ps : List VP) (l : List Res),Ev w0 rs w (l ++ vpsC ps) → Ev w0 rs w (l ++ vssC (ps.map VP.vs))
 | [],l,e => e
 | p :: ps,l,e => by
   have e1 : Ev w0 rs w (l ++ mirR p.m p.d p.M :: (sysC [] p.M.s p.d p.FF ++ vpsC ps)):=e
   have e2 : Ev w0 rs w ((l ++ sysC [] p.M.s p.d p.FF) ++ vpsC ps):=by
    rw [List.append_assoc]
    exact Ev.less l _ e1
   have e3:=vps_drop ps (l ++ sysC [] p.M.s p.d p.FF) e2
   rw [List.append_assoc] at e3
   exact e3
end
end Go.Proofs.YtgafefecookgaaaGreat
namespace Go.Xr
open Go
def dupAt (xs : List (Option Nat)) (n : Nat) : Prop:=∃ i,i < n ∧ ∃ x : Nat,xs[i]? = some (some x) ∧ some x ∈ xs.take i
theorem dupAt_succ {xs : List (Option Nat)} {i : Nat} (h : ¬ dupAt xs i) {x : Option Nat} (hx : xs[i]? = some x) (hn : x = none ∨ x ∉ xs.take i) : ¬ dupAt xs (i + 1):=by
 rintro ⟨j,hj,y,h1,h2⟩
 by_cases e : j = i
 · subst e
   rw [hx] at h1
   obtain rfl : x = some y:=Option.some.inj h1
   rcases hn with h | h
   · cases h
   · exact h h2
 · exact h ⟨j,by omega,y,h1,h2⟩
theorem count_take_succ (xs : List (Option Nat)) (i : Nat) (x : Option Nat) (hx : xs[i]? = some x) (a : Option Nat) : (xs.take (i + 1)).count a = (xs.take i).count a + if a = x then 1 else 0:=by
 obtain ⟨hlt,rfl⟩:=List.getElem?_eq_some_iff.1 hx
 rw [List.take_succ_eq_append_getElem hlt,List.count_append,List.count_singleton]
 by_cases h : a = xs[i]
 · rw [if_pos h,if_pos (by rw [h];exact beq_self_eq_true _)]
 · rw [if_neg h,if_neg (by rw [beq_iff_eq];exact fun e => h e.symm)]
end Go.Xr
namespace Go.Proofs.YtgafefecookgaaaGreat
open Go Go.Xr Go.RowKit
theorem twD_any {w : World} {v : Value} {xs : List (Option Nat)} {LB : Option Nat} (hl : Rc w 1 v xs.length (xs.map pv) LB) (hp : ∀ x ∈ xs,PlnO w x) (hn : xs.length ≤ 1000000) :
 Calls Tryz.prog 49 #[v,.pointer none] w fun e w' => ∃ b,e = .returned (.bool b) ∧ (b = true ↔ dupAt xs xs.length) ∧ Fr [] w w':=by
 obtain ⟨la,lc,rfl⟩:=hl.isSlice
 have hmm:=@run_makeMap Tryz.prog
 obtain ⟨n,hN⟩ : ∃ n,xs.length = n:=⟨_,rfl⟩
 have HL:=hid hl
 have HP:=hid hp
 have HN:=hid hN
 rw [hN]
 rw [hN] at hn
 clear hl hp hN
 go_enter Tryz.func49,Tryz.ntmps49
 go_wp2_with fail
 go_loopw [11] (fun iv wr => ∃ (i : Nat) (ks : List (Option Nat × Int)),i ≤ n ∧ iv = .int .i64 (i : Int) ∧ Hid (PM wr w.heap.size ks) ∧ Hid (Fr [] w wr) ∧ Hid (∀ a,getP ks a = ((xs.take i).count a : Int)) ∧ Hid (∀ p ∈ ks,p.1 ∈ xs) ∧ Hid (¬ dupAt xs i)) (fun iv _ => n - (intOf iv).toNat)
 case atStart => exact ⟨0,[],by omega,rfl,hid (PM.made w),hid ((Fr.refl [] w).alloc _),hid (fun a => rfl),hid (fun p hp => by cases hp),hid (by rintro ⟨i,hi,_⟩;omega)⟩
 case round =>
  obtain ⟨i,ks,hi,rfl,PMk,FR,CNT,KIN,ND⟩:=hrel
  by_cases hlt : i < n
  · have hd : decide ((i : Int) < (n : Int)) = true:=by simp;omega
    have hdn : decide (i < n) = true:=by simp;omega
    have hix : i < xs.length:=by rw [HN.out];exact hlt
    have hxi : xs[i]? = some xs[i]:=List.getElem?_eq_getElem hix
    have hmem : xs[i] ∈ xs:=List.getElem_mem hix
    obtain ⟨lb,off,cap,hB,hv,h1,h2,h3,h4⟩:=(HL.out.keep FR.out (by simp)).some (by omega)
    obtain ⟨rfl,rfl⟩ : la = some ⟨lb,off,none⟩ ∧ lc = cap:=by simpa using hv
    have hc : wr.cell? ⟨lb,off + i,none⟩ = some (pv xs[i]):=by
     rw [h4 i (by simpa using hix),List.getElem?_map,hxi]
     rfl
    have hpl : ∀ x ∈ xs,PlnO wr x:=fun x hx b hb => FR.out.plain b (HP.out x hx b hb)
    have Hpx:=hid (hpl xs[i] hmem)
    have Hpk : Hid (∀ p ∈ ks,PlnO wr p.1):=hid fun p hp => hpl p.1 (KIN.out p hp)
    have hcnt:=CNT.out xs[i]
    have hcl : (xs.take i).count xs[i] ≤ i:=Nat.le_trans List.count_le_length (by rw [List.length_take];omega)
    obtain ⟨c,hcc⟩ : ∃ c,(xs.take i).count xs[i] = c:=⟨_,rfl⟩
    rw [hcc] at hcnt hcl
    have Hcm:=hid (show 0 < c ↔ xs[i] ∈ xs.take i by rw [← hcc];exact List.count_pos_iff)
    have CNT2 : Hid (∀ a,getP (setP ks xs[i] ((c : Int) + 1)) a = ((xs.take (i + 1)).count a : Int)):=hid fun a => by
     rw [getP_set,count_take_succ xs i _ hxi]
     by_cases h : a = xs[i]
     · rw [if_pos h,if_pos h,h,hcc];rfl
     · rw [if_neg h,if_neg h,CNT.out a];rfl
    have KIN2 : Hid (∀ p ∈ setP ks xs[i] ((c : Int) + 1),p.1 ∈ xs):=hid fun p hp => by
     rcases setP_keys ks _ _ p hp with h | ⟨q,hq,h⟩
     · rw [h];exact hmem
     · rw [← h];exact KIN.out q hq
    have ND2:=hid fun (h : xs[i] = none ∨ xs[i] ∉ xs.take i) => dupAt_succ ND.out hxi h
    have DU : Hid (∀ x : Nat,xs[i] = some x → 0 < c → dupAt xs n):=hid fun x hx hcp => ⟨i,hlt,x,by rw [hxi,hx],by rw [← hx];exact Hcm.out.1 hcp⟩
    have hc6 : (c : Int) ≤ 1000000:=by omega
    have Hcnt:=hid hcnt
    generalize xs[i] = x at *
    clear hcc CNT KIN h4 hcnt hmem hix hxi hpl hcl HL hB h1
    have hz : ∀ w0 : World,(zeroValue 3).run Tryz.prog w0 = .ok (.int .i64 0) w0:=fun w0 => rfl
    cases x with
    | none =>
      replace hc : wr.cell? ⟨lb,off + i,none⟩ = some (.pointer none):=hc
      clear DU Hcm
      go_wp2_with (first
       | (refine wpList_pm_get rfl _ _ _ rfl rfl none rfl PMk.out Tryz.underlying37 rfl (by decide) Tryz.underlying128 (hz _) Hpx.out Hpk.out ?_;rw [Hcnt.out];simp only [aA,aB,Act.put,aC,aD,aE])
       | (refine wpList_pm_put rfl _ _ _ _ rfl rfl none rfl ((c : Int) + 1) rfl PMk.out Tryz.underlying37 rfl (by decide) Tryz.underlying128 Hpx.out Hpk.out ?_;intro w7 pm7 f7;simp only [aA,aB,Act.put,aC,aD,aE]))
      go_roundw
      case rel => exact ⟨i + 1,_,by omega,by go_num,hid pm7,hid (FR.out.trans f7 (fun y hy => .inr (by simp at hy;omega))),CNT2,KIN2,hid (ND2.out (.inl rfl))⟩
      case measure => simp [intOf];omega
    | some b =>
      replace hc : wr.cell? ⟨lb,off + i,none⟩ = some (.pointer (some ⟨b,0,none⟩)):=hc
      have hlk : (Instr.lookup 128 (.map (some w.heap.size)) (.pointer (some ⟨b,0,none⟩)) false).run Tryz.prog wr = .ok (.int .i64 (c : Int)) wr:=by
       rw [← Hcnt.out]
       exact PMk.out.get Tryz.underlying37 rfl (by decide) Tryz.underlying128 (hz _) Hpx.out Hpk.out
      by_cases hcp : 0 < c
      · have u1 : decide ((0 : Int) < (c : Int)) = true:=by simp;omega
        have u2 : decide (0 < c) = true:=by simpa using hcp
        have HDU:=hid (DU.out b rfl hcp)
        clear DU Hcm CNT2 KIN2 ND2
        go_wp2_with fail
        go_ret
        exact ⟨true,rfl,⟨fun _ => HDU.out,fun _ => rfl⟩,FR.out⟩
      · have hc0 : c = 0:=by omega
        have u1 : decide ((0 : Int) < (c : Int)) = false:=by simp;omega
        have u2 : decide (0 < c) = false:=by simpa using hcp
        have HND:=hid (ND2.out (.inr fun h => hcp (Hcm.out.2 h)))
        clear DU Hcm ND2 hcp hc0
        go_wp2_with (first
         | (refine wpList_pm_put rfl _ _ _ _ rfl rfl (some b) rfl ((c : Int) + 1) rfl PMk.out Tryz.underlying37 rfl (by decide) Tryz.underlying128 Hpx.out Hpk.out ?_;intro w7 pm7 f7;simp only [aA,aB,Act.put,aC,aD,aE]))
        go_roundw
        case rel => exact ⟨i + 1,_,by omega,by go_num,hid pm7,hid (FR.out.trans f7 (fun y hy => .inr (by simp at hy;omega))),CNT2,KIN2,HND⟩
        case measure => simp [intOf];omega
  · have hd : decide ((i : Int) < (n : Int)) = false:=by simp;omega
    have hdn : decide (i < n) = false:=by simp;omega
    have HI:=hid (show i = n by omega)
    clear hlt hi
    go_wp2_with fail
    go_ret
    refine ⟨false,rfl,?_,FR.out⟩
    have:=ND.out
    rw [HI.out] at this
    exact ⟨fun h => (by cases h),fun h => absurd h this⟩
theorem twM_any {w : World} {v : Value} {xs : List (Option Nat)} {LB : Option Nat} (hl : Rc w 1 v xs.length (xs.map pv) LB) (hp : ∀ x ∈ xs,PlnO w x) (hn : xs.length ≤ 1000000) :
 Calls Tryz.prog 80 #[v,.pointer none] w fun e w' => ∃ b,e = .returned (.bool b) ∧ (b = true ↔ dupAt xs xs.length) ∧ Fr [] w w':=by
 obtain ⟨la,lc,rfl⟩:=hl.isSlice
 have hmm:=@run_makeMap Tryz.prog
 obtain ⟨n,hN⟩ : ∃ n,xs.length = n:=⟨_,rfl⟩
 have HL:=hid hl
 have HP:=hid hp
 have HN:=hid hN
 rw [hN]
 rw [hN] at hn
 clear hl hp hN
 go_enter Tryz.func80,Tryz.ntmps80
 go_wp2_with fail
 go_loopw [11] (fun iv wr => ∃ (i : Nat) (ks : List (Option Nat × Int)),i ≤ n ∧ iv = .int .i64 (i : Int) ∧ Hid (PM wr w.heap.size ks) ∧ Hid (Fr [] w wr) ∧ Hid (∀ a,getP ks a = ((xs.take i).count a : Int)) ∧ Hid (∀ p ∈ ks,p.1 ∈ xs) ∧ Hid (¬ dupAt xs i)) (fun iv _ => n - (intOf iv).toNat)
 case atStart => exact ⟨0,[],by omega,rfl,hid (PM.made w),hid ((Fr.refl [] w).alloc _),hid (fun a => rfl),hid (fun p hp => by cases hp),hid (by rintro ⟨i,hi,_⟩;omega)⟩
 case round =>
  obtain ⟨i,ks,hi,rfl,PMk,FR,CNT,KIN,ND⟩:=hrel
  by_cases hlt : i < n
  · have hd : decide ((i : Int) < (n : Int)) = true:=by simp;omega
    have hdn : decide (i < n) = true:=by simp;omega
    have hix : i < xs.length:=by rw [HN.out];exact hlt
    have hxi : xs[i]? = some xs[i]:=List.getElem?_eq_getElem hix
    have hmem : xs[i] ∈ xs:=List.getElem_mem hix
    obtain ⟨lb,off,cap,hB,hv,h1,h2,h3,h4⟩:=(HL.out.keep FR.out (by simp)).some (by omega)
    obtain ⟨rfl,rfl⟩ : la = some ⟨lb,off,none⟩ ∧ lc = cap:=by simpa using hv
    have hc : wr.cell? ⟨lb,off + i,none⟩ = some (pv xs[i]):=by
     rw [h4 i (by simpa using hix),List.getElem?_map,hxi]
     rfl
    have hpl : ∀ x ∈ xs,PlnO wr x:=fun x hx b hb => FR.out.plain b (HP.out x hx b hb)
    have Hpx:=hid (hpl xs[i] hmem)
    have Hpk : Hid (∀ p ∈ ks,PlnO wr p.1):=hid fun p hp => hpl p.1 (KIN.out p hp)
    have hcnt:=CNT.out xs[i]
    have hcl : (xs.take i).count xs[i] ≤ i:=Nat.le_trans List.count_le_length (by rw [List.length_take];omega)
    obtain ⟨c,hcc⟩ : ∃ c,(xs.take i).count xs[i] = c:=⟨_,rfl⟩
    rw [hcc] at hcnt hcl
    have Hcm:=hid (show 0 < c ↔ xs[i] ∈ xs.take i by rw [← hcc];exact List.count_pos_iff)
    have CNT2 : Hid (∀ a,getP (setP ks xs[i] ((c : Int) + 1)) a = ((xs.take (i + 1)).count a : Int)):=hid fun a => by
     rw [getP_set,count_take_succ xs i _ hxi]
     by_cases h : a = xs[i]
     · rw [if_pos h,if_pos h,h,hcc];rfl
     · rw [if_neg h,if_neg h,CNT.out a];rfl
    have KIN2 : Hid (∀ p ∈ setP ks xs[i] ((c : Int) + 1),p.1 ∈ xs):=hid fun p hp => by
     rcases setP_keys ks _ _ p hp with h | ⟨q,hq,h⟩
     · rw [h];exact hmem
     · rw [← h];exact KIN.out q hq
    have ND2:=hid fun (h : xs[i] = none ∨ xs[i] ∉ xs.take i) => dupAt_succ ND.out hxi h
    have DU : Hid (∀ x : Nat,xs[i] = some x → 0 < c → dupAt xs n):=hid fun x hx hcp => ⟨i,hlt,x,by rw [hxi,hx],by rw [← hx];exact Hcm.out.1 hcp⟩
    have hc6 : (c : Int) ≤ 1000000:=by omega
    have Hcnt:=hid hcnt
    generalize xs[i] = x at *
    clear hcc CNT KIN h4 hcnt hmem hix hxi hpl hcl HL hB h1
    have hz : ∀ w0 : World,(zeroValue 3).run Tryz.prog w0 = .ok (.int .i64 0) w0:=fun w0 => rfl
    cases x with
    | none =>
      replace hc : wr.cell? ⟨lb,off + i,none⟩ = some (.pointer none):=hc
      clear DU Hcm
      go_wp2_with (first
       | (refine wpList_pm_get rfl _ _ _ rfl rfl none rfl PMk.out Tryz.underlying105 rfl (by decide) Tryz.underlying154 (hz _) Hpx.out Hpk.out ?_;rw [Hcnt.out];simp only [aA,aB,Act.put,aC,aD,aE])
       | (refine wpList_pm_put rfl _ _ _ _ rfl rfl none rfl ((c : Int) + 1) rfl PMk.out Tryz.underlying105 rfl (by decide) Tryz.underlying154 Hpx.out Hpk.out ?_;intro w7 pm7 f7;simp only [aA,aB,Act.put,aC,aD,aE]))
      go_roundw
      case rel => exact ⟨i + 1,_,by omega,by go_num,hid pm7,hid (FR.out.trans f7 (fun y hy => .inr (by simp at hy;omega))),CNT2,KIN2,hid (ND2.out (.inl rfl))⟩
      case measure => simp [intOf];omega
    | some b =>
      replace hc : wr.cell? ⟨lb,off + i,none⟩ = some (.pointer (some ⟨b,0,none⟩)):=hc
      have hlk : (Instr.lookup 154 (.map (some w.heap.size)) (.pointer (some ⟨b,0,none⟩)) false).run Tryz.prog wr = .ok (.int .i64 (c : Int)) wr:=by
       rw [← Hcnt.out]
       exact PMk.out.get Tryz.underlying105 rfl (by decide) Tryz.underlying154 (hz _) Hpx.out Hpk.out
      by_cases hcp : 0 < c
      · have u1 : decide ((0 : Int) < (c : Int)) = true:=by simp;omega
        have u2 : decide (0 < c) = true:=by simpa using hcp
        have HDU:=hid (DU.out b rfl hcp)
        clear DU Hcm CNT2 KIN2 ND2
        go_wp2_with fail
        go_ret
        exact ⟨true,rfl,⟨fun _ => HDU.out,fun _ => rfl⟩,FR.out⟩
      · have hc0 : c = 0:=by omega
        have u1 : decide ((0 : Int) < (c : Int)) = false:=by simp;omega
        have u2 : decide (0 < c) = false:=by simpa using hcp
        have HND:=hid (ND2.out (.inr fun h => hcp (Hcm.out.2 h)))
        clear DU Hcm ND2 hcp hc0
        go_wp2_with (first
         | (refine wpList_pm_put rfl _ _ _ _ rfl rfl (some b) rfl ((c : Int) + 1) rfl PMk.out Tryz.underlying105 rfl (by decide) Tryz.underlying154 Hpx.out Hpk.out ?_;intro w7 pm7 f7;simp only [aA,aB,Act.put,aC,aD,aE]))
        go_roundw
        case rel => exact ⟨i + 1,_,by omega,by go_num,hid pm7,hid (FR.out.trans f7 (fun y hy => .inr (by simp at hy;omega))),CNT2,KIN2,HND⟩
        case measure => simp [intOf];omega
  · have hd : decide ((i : Int) < (n : Int)) = false:=by simp;omega
    have hdn : decide (i < n) = false:=by simp;omega
    have HI:=hid (show i = n by omega)
    clear hlt hi
    go_wp2_with fail
    go_ret
    refine ⟨false,rfl,?_,FR.out⟩
    have:=ND.out
    rw [HI.out] at this
    exact ⟨fun h => (by cases h),fun h => absurd h this⟩
section
variable {w w' w0 : World} {l rs : List Res} {ps : List VP} {k : Nat} {p p' : VP}
theorem mk1_any (h : Held w (l ++ vpsC ps)) (hk : ps[k]? = some p) (ok : SysOk p.M.s) (h2 : 2 ≤ p.M.s.len false) : Calls Tryz.prog 78 #[pv (some p.m)] w fun e w' => e = .returned (.bool false) ∧ w' = w:=by
 have H:=hid (mlen_any (vps_held h hk) ok)
 show Calls Tryz.prog 78 #[.pointer (some ⟨p.m,0,none⟩)] w _
 generalize p.m = m at *
 obtain ⟨n,hn⟩ : ∃ n : Nat,p.M.s.len false = n:=⟨_,rfl⟩
 rw [hn] at H h2
 have u : ((n : Int) - 1 == 0) = false:=by simp;omega
 clear h hk ok hn
 go_enter Tryz.func78,Tryz.ntmps78
 go_wp2_with (go_at_call 79;refine H.out.mono ?_;rintro e w5 ⟨rfl,hw⟩;subst hw)
 go_ret
 exact ⟨rfl,rfl⟩
theorem ixM_any {v : Value} {xs : List (Option Nat)} {LB : Option Nat} (hl : Rc w 1 v xs.length (xs.map pv) LB) (hn : xs.length ≤ 1000000) (g : Option Nat → Bool) (hg : ∀ x ∈ xs,Calls Tryz.prog 78 #[pv x] w fun e w' => e = .returned (.bool (g x)) ∧ w' = w) :
 Calls Tryz.prog 107 #[v,.func (.func 78) #[] #[]] w fun e w' => (∃ j : Int,e = .returned (.int .i64 j) ∧ (xs.any g = true → 0 ≤ j) ∧ (xs.any g = false → j = -1)) ∧ w' = w:=by
 obtain ⟨la,lc,rfl⟩:=hl.isSlice
 obtain ⟨n,hN⟩ : ∃ n,xs.length = n:=⟨_,rfl⟩
 have HL:=hid hl
 have HG:=hid hg
 have HN:=hid hN
 rw [hN]
 rw [hN] at hn
 clear hl hg hN
 go_enter Tryz.func107,Tryz.ntmps107
 go_wp2_with fail
 go_loopw [8] (fun iv wr => ∃ i : Nat,i ≤ n ∧ iv = .int .i64 (i : Int) ∧ Hid (∀ j,j < i → ∀ x,xs[j]? = some x → g x = false) ∧ wr = w) (fun iv _ => n - (intOf iv).toNat)
 case atStart => exact ⟨0,by omega,rfl,hid (fun j h => by omega),rfl⟩
 case round =>
  obtain ⟨i,hi,rfl,ND,rfl⟩:=hrel
  by_cases hlt : i < n
  · have hd : decide ((i : Int) < (n : Int)) = true:=by simp;omega
    have hdn : decide (i < n) = true:=by simp;omega
    have hix : i < xs.length:=by rw [HN.out];exact hlt
    have hxi : xs[i]? = some xs[i]:=List.getElem?_eq_getElem hix
    have hmem : xs[i] ∈ xs:=List.getElem_mem hix
    obtain ⟨lb,off,cap,hB,hv,h1,h2,h3,h4⟩:=HL.out.some (by omega)
    obtain ⟨rfl,rfl⟩ : la = some ⟨lb,off,none⟩ ∧ lc = cap:=by simpa using hv
    have hc : wr.cell? ⟨lb,off + i,none⟩ = some (pv xs[i]):=by
     rw [h4 i (by simpa using hix),List.getElem?_map,hxi]
     rfl
    have Hgx:=hid (HG.out xs[i] hmem)
    have HAny:=hid (show g xs[i] = true → xs.any g = true from fun h => List.any_eq_true.2 ⟨_,hmem,h⟩)
    have HND:=hid (show g xs[i] = false → ∀ j,j < i + 1 → ∀ x,xs[j]? = some x → g x = false from fun h j hj x hx => by
     by_cases e : j = i
     · subst e
       rw [hxi] at hx
       obtain rfl:=Option.some.inj hx
       exact h
     · exact ND.out j (by omega) x hx)
    have hi6 : (i : Int) ≤ 1000000:=by omega
    generalize xs[i] = x at *
    clear h4 hmem hix hxi HL hB h1 HG
    cases hgx : g x with
    | true =>
      have HA:=hid (HAny.out hgx)
      rw [hgx] at Hgx
      clear HND HAny hgx
      go_wp2_with (go_at_call 78;refine Hgx.out.mono ?_;rintro e w5 ⟨rfl,hw⟩;subst hw)
      go_ret
      refine ⟨⟨(i : Int),rfl,fun _ => by omega,fun h => ?_⟩,rfl⟩
      rw [HA.out] at h
      cases h
    | false =>
      have HA:=hid (HND.out hgx)
      rw [hgx] at Hgx
      clear HND HAny hgx
      go_wp2_with (go_at_call 78;refine Hgx.out.mono ?_;rintro e w5 ⟨rfl,hw⟩;subst hw)
      go_roundw
      case rel => exact ⟨i + 1,by omega,by go_num,HA,by first | rfl | trivial⟩
      case measure => simp [intOf];omega
  · have hd : decide ((i : Int) < (n : Int)) = false:=by simp;omega
    have hdn : decide (i < n) = false:=by simp;omega
    have HA:=hid (show xs.any g = false from by
     rw [List.any_eq_false]
     intro x hx
     obtain ⟨j,hj,rfl⟩:=List.getElem_of_mem hx
     have:=HN.out
     rw [ND.out j (by omega) _ (List.getElem?_eq_getElem hj)]
     decide)
    clear hlt hi
    go_wp2_with fail
    go_ret
    refine ⟨⟨-1,rfl,fun h => ?_,fun _ => rfl⟩,rfl⟩
    rw [HA.out] at h
    cases h
theorem cfM_any {v : Value} {xs : List (Option Nat)} {LB : Option Nat} (hl : Rc w 1 v xs.length (xs.map pv) LB) (hn : xs.length ≤ 1000000) (g : Option Nat → Bool) (hg : ∀ x ∈ xs,Calls Tryz.prog 78 #[pv x] w fun e w' => e = .returned (.bool (g x)) ∧ w' = w) :
 Calls Tryz.prog 77 #[v,.func (.func 78) #[] #[]] w fun e w' => e = .returned (.bool (xs.any g)) ∧ w' = w:=by
 have H:=hid (ixM_any hl hn g hg)
 obtain ⟨b,hb⟩ : ∃ b,xs.any g = b:=⟨_,rfl⟩
 rw [hb] at H ⊢
 clear hl hn hg hb
 go_enter Tryz.func77,Tryz.ntmps77
 go_wp2_with (go_at_call 107;refine H.out.mono ?_;rintro e w5 ⟨⟨j,rfl,h1,h2⟩,hw⟩;have H1:=hid h1;have H2:=hid h2;clear h1 h2;subst hw)
 go_ret
 refine ⟨?_,rfl⟩
 cases b with
 | true =>
   have:=H1.out rfl
   simp [this]
 | false => rw [H2.out rfl];rfl
end
theorem nodup_heads {α : Type} (m : α → Nat) (f : α → List Nat) : ∀ (ps : List α),(ps.flatMap fun p => m p :: f p).Nodup → (ps.map m).Nodup
 | [],_ => List.nodup_nil
 | p :: ps,h => by
   rw [List.flatMap_cons,List.cons_append,List.nodup_cons] at h
   obtain ⟨h1,h2⟩:=h
   rw [List.map_cons,List.nodup_cons]
   refine ⟨fun hm => h1 ?_,nodup_heads m f ps (List.nodup_append.1 h2).2.1⟩
   obtain ⟨q,hq,e⟩:=List.mem_map.1 hm
   exact List.mem_append_right _ (List.mem_flatMap.2 ⟨q,hq,by rw [e];exact List.mem_cons_self ..⟩)
theorem dup_none {ms : List Nat} (h : ms.Nodup) (n : Nat) : ¬ dupAt (ms.map some) n:=by
 rintro ⟨i,hi,x,h1,h2⟩
 rw [← List.map_take] at h2
 obtain ⟨y,hy,e⟩:=List.mem_map.1 h2
 obtain rfl : y = x:=Option.some.inj e
 rw [List.getElem?_map] at h1
 obtain ⟨z,hz,e2⟩:=Option.map_eq_some_iff.1 h1
 obtain rfl : z = y:=Option.some.inj e2
 obtain ⟨hlt,hzi⟩:=List.getElem?_eq_some_iff.1 hz
 obtain ⟨j,hj,hzj⟩:=List.getElem_of_mem hy
 rw [List.length_take] at hj
 rw [List.getElem_take] at hzj
 have:=nodup_inj h (i:=j) (j:=i) (by omega) hlt (hzj.trans hzi.symm)
 omega
theorem infMp : ∃ i z,Tryz.prog.info? 105 = some i ∧ i.zero = some z ∧ i.size = 1 ∧ i.bytes = 8 ∧ z.cells.size = 1:=⟨_,_,rfl,rfl,rfl,rfl,rfl⟩
theorem cloneMp_any {w : World} {v : Value} {n : Nat} {xs : List Value} {b : Nat} (h : Xr.Own w 1 v n xs (some b)) (h1 : ∀ u ∈ xs,u.oneCell' = true) (hm : n ≤ maxLen) (hb : n * 8 ≤ 140737488355328) :
 Calls Tryz.prog 81 #[v] w fun e w' => ∃ v' b',e = .returned v' ∧ Xr.Own w' 1 v' n xs (some b') ∧ w.heap.size ≤ b' ∧ Fr [] w w':=by
 obtain ⟨i0,z0,hi0,hz0,hs0,hb0,hzc0⟩:=infMp
 have Hi:=hid hi0
 have Hz:=hid hz0
 have Hs:=hid hs0
 have Hb:=hid hb0
 have Hzc:=hid hzc0
 clear hi0 hz0 hs0 hb0 hzc0
 have hsn:=@Lib.run_eql_slice_nil
 have HX:=hid h.1
 obtain ⟨cap,cs,rfl,h2,h3,h4,h5,h6⟩ : ∃ cap cs,v = .slice (some ⟨b,0,none⟩) n cap ∧ n ≤ cap ∧ cap ≤ maxLen ∧ Blk w b cs ∧ cs.length = cap * 1 ∧ cs.take (n * 1) = xs:=by
  rcases h.2 with ⟨_,_,h2⟩ | ⟨b',cap,cs,h1,h2⟩
  · cases h2
  · cases h1;exact ⟨cap,cs,h2⟩
 have H6:=hid h6
 have H5:=hid h5
 clear h6 h5 h
 have ho : Xr.Own (w.alloc (.cells #[] 105)) 1 (.slice (some ⟨w.heap.size,0,none⟩) 0 0) 0 [] (some w.heap.size) :=
  Xr.Own.blk (cs:=[]) (Blk.alloc w [] _) (Nat.le_refl _) (by simp) (by simp)
 have hcl:=(h4.old (.cells #[] 105)).cells (off:=0) (vs:=xs) (by rw [List.drop_zero,HX.out];exact H6.out)
 go_enter Tryz.func81,Tryz.ntmps81
 go_wp2_with (refine wpList_append rfl _ _ _ rfl 105 _ _ 1 8 Tryz.underlying98 Hi.out Hz.out Hs.out Hb.out Hzc.out (by decide) rfl ho _ n cap xs rfl HX.out hcl h1 (by omega) (by omega) ?_;intro v' w1 B' ho1 f1 hB';simp only [aA,aB,Act.put,aC,aD,aE])
 go_ret
 simp only [Nat.zero_add,List.nil_append] at ho1
 have f2 : Fr [] w w1:=((Fr.refl [] w).alloc _).trans f1 (fun x hx => .inr (by simp at hx;omega))
 rcases hB' with rfl | ⟨b',rfl,hge⟩
 · exact ⟨v',_,rfl,ho1,Nat.le_refl _,f2⟩
 · exact ⟨v',b',rfl,ho1,by simp at hge;omega,f2⟩
section
variable {w w' w0 : World} {l rs : List Res} {ps : List VP} {k : Nat} {p p' : VP}
theorem vps_nodup (h : Held w (l ++ vpsC ps)) : (ps.map VP.m).Nodup:=by
 have h1:=h.apart
 rw [List.flatMap_append,List.nodup_append] at h1
 have h2:=h1.2.1
 unfold vpsC at h2
 rw [List.flatMap_assoc] at h2
 exact nodup_heads VP.m (fun p => (sysC [] p.M.s p.d p.FF).flatMap (fun r : Res => r.F)) ps h2
def volR (vb rb : Nat) (v : Value) (ms : List Nat) (each writes : Int) : List Res:=[Res.blk vb [v,.int .i64 each,.int .i64 writes],Res.own 1 v ms.length (ms.map fun m => pv (some m)) (some rb)]
theorem ps_xs (ps : List VP) : (ps.map fun p => pv (some p.m)) = ((ps.map VP.m).map some).map pv:=by simp
theorem vmake_ok (h : Held w (l ++ vpsC ps)) {v : Value} {B : Nat} (ho : Xr.Own w 1 v ps.length (ps.map fun p => pv (some p.m)) (some B)) (h1 : 1 ≤ ps.length) (h8 : ps.length ≤ 8) (ok : ∀ p ∈ ps,SysOk p.M.s) (L : Nat) (hL : ∀ p ∈ ps,p.M.s.len false = L) (h2 : 2 ≤ L) :
 Calls Tryz.prog 51 #[v] w fun e w' => ∃ vb rb v',e = .returned (.tuple #[.pointer (some ⟨vb,0,none⟩),.int .i64 0]) ∧ Ev w (l ++ vpsC ps) w' (volR vb rb v' (ps.map VP.m) ((L : Int) - 1) 0 ++ (l ++ vpsC ps)):=by
 have hrc : Rc w 1 v ((ps.map VP.m).map some).length (((ps.map VP.m).map some).map pv) (some B):=by
  have:=ho.rd.rc
  rw [ps_xs] at this
  simpa using this
 have hlen : ((ps.map VP.m).map some).length = ps.length:=by simp
 have HC:=hid (cfM_any hrc (by rw [hlen];omega) (fun _ => false) (fun x hx => by
  obtain ⟨m,hm,rfl⟩:=List.mem_map.1 hx
  obtain ⟨p,hp,rfl⟩:=List.mem_map.1 hm
  obtain ⟨k,hk,e⟩:=List.getElem_of_mem hp
  exact mk1_any h (by rw [List.getElem?_eq_getElem hk,e]) (ok p hp) (by rw [hL p hp];exact h2)))
 have hany : ((ps.map VP.m).map some).any (fun _ => false) = false:=by rw [List.any_eq_false];intro x _;decide
 rw [hany] at HC
 have HT:=hid (twM_any hrc (fun x hx b hb => by
  obtain ⟨m,hm,rfl⟩:=List.mem_map.1 hx
  obtain ⟨p,hp,rfl⟩:=List.mem_map.1 hm
  obtain rfl : p.m = b:=Option.some.inj hb
  obtain ⟨k,hk,e⟩:=List.getElem_of_mem hp
  exact mir_pln (vps_held h (by rw [List.getElem?_eq_getElem hk,e]))) (by rw [hlen];omega))
 have ND:=hid (dup_none (vps_nodup h) ((ps.map VP.m).map some).length)
 obtain ⟨c,hv,hnc,hcm⟩ : ∃ c,v = .slice (some ⟨B,0,none⟩) ps.length c ∧ ps.length ≤ c ∧ c ≤ maxLen:=by
  rcases ho.shape with ⟨_,_,_,h1⟩ | ⟨b,cap,hb1,h1,h2,h3⟩
  · cases h1
  · cases hb1
    exact ⟨cap,h1,h2,h3⟩
 subst hv
 have HH:=hid h
 have HO:=hid ho
 have HLn:=hid fun (p : VP) (hp : p ∈ ps) (w1 : World) (h1 : Held w1 (l ++ vpsC ps)) => (show Calls Tryz.prog 79 #[.pointer (some ⟨p.m,0,none⟩)] w1 fun e w' => e = .returned (.int .i64 ((L : Int) - 1)) ∧ w' = w1 from by
  obtain ⟨k,hk,e⟩:=List.getElem_of_mem hp
  have:=mlen_any (vps_held h1 (by rw [List.getElem?_eq_getElem hk,e])) (ok p hp)
  rw [hL p hp] at this
  exact this)
 have HLe : Hid (L ≤ 16384):=hid (by
  have hp:=List.getElem_mem (l:=ps) (n:=0) (by omega)
  have:=len_le (ok _ hp) false
  rw [hL _ hp] at this
  exact this)
 have Hcell : Hid (∀ (w1 : World) (f : Fr [] w w1) (i : Nat) (hi : i < ps.length),w1.cell? ⟨B,i,none⟩ = some (.pointer (some ⟨ps[i].m,0,none⟩))):=hid fun w1 f i hi => by
  obtain ⟨b,off,c2,hB,hv2,_,_,_,h4⟩:=(ho.rd.rc.keep f (by simp)).some (by omega)
  obtain ⟨⟨rfl,rfl⟩,rfl⟩ : (B = b ∧ 0 = off) ∧ c = c2:=by simpa using hv2
  have:=h4 i (by simpa using hi)
  rw [Nat.zero_add,List.getElem?_map,List.getElem?_eq_getElem hi] at this
  exact this
 obtain ⟨n,hn⟩ : ∃ n,ps.length = n:=⟨_,rfl⟩
 have HNl:=hid hn
 have hcl:=hid fun (w1 : World) (f : Fr [] w w1) => cloneMp_any (ho.keep f (by simp)) (by intro u hu;obtain ⟨p,_,rfl⟩:=List.mem_map.1 hu;rfl) (by unfold maxLen at *;omega) (by omega)
 have h0l : 0 < ps.length:=by omega
 have Hc0:=hid fun (w1 : World) (f : Fr [] w w1) => Hcell.out w1 f 0 h0l
 have HL0:=hid fun (w1 : World) (h1 : Held w1 (l ++ vpsC ps)) => HLn.out ps[0] (List.getElem_mem h0l) w1 h1
 generalize ps[0].m = m0 at *
 rw [hn] at HC HT hcl h1 h8 hnc
 rw [hn]
 clear h ho hrc hlen hany hn ok hL
 have a1 : decide ((n : Int) < 1) = false:=by simp;omega
 have a2 : decide ((8 : Int) < (n : Int)) = false:=by simp;omega
 have a3 : decide (n < 1) = false:=by simp;omega
 have a4 : decide (8 < n) = false:=by simp;omega
 go_enter Tryz.func51,Tryz.ntmps51
 go_wp2_with (first
  | (go_at_call 77;refine HC.out.mono ?_;rintro e w5 ⟨rfl,hw⟩;subst hw)
  | (go_at_call 80;refine HT.out.mono ?_;rintro e w6 ⟨b,rfl,hb,f6⟩;have hbf : b = false:=(by cases b;rfl;exact absurd (hb.1 rfl) ND.out);subst hbf;have F6:=hid f6;clear hb f6))
 have f0 : Fr [] w5 w6.drew:=F6.out.drew
 have hs0:=Hc0.out w6.drew f0
 have hcl6:=hid (hcl.out w6.drew f0)
 clear hcl HT HC ND
 refine wp_region_D (fun w' => w'.cell? ⟨B,0,none⟩ = some (.pointer (some ⟨m0,0,none⟩))) false [] (by kernel_rfl) ?_
 refine WD.pure [0] (by kernel_rfl) hs0 ?_
 simp only [pick,aF,aG,aI,aJ,aK]
 repeat (first | go_big_quiet_step (fail))
 refine wpQuiet_nil ?_
 refine WD.free [2,3] (by kernel_rfl) hs0 ?_
 simp only [pick,aF,aG,aI,aJ,aK]
 repeat (first | go_big_quiet_step (fail))
 refine wpQuiet_nil ?_
 refine WD.held [4] (by kernel_rfl) hs0 ?_
 simp only [pick,aF,aG,aI,aJ,aK]
 repeat (first | (refine quiet_load_1R (by rfl) _ _ rfl rfl (.pointer (some ⟨m0,0,none⟩)) (fun w0 h => h) _ Tryz.underlying105 rfl ?_;simp only [aA,aB,Act.put,aC,aD,aE]) | go_big_quiet_step (fail))
 refine wpQuiet_nil ?_
 refine WD.eff 1 (by kernel_rfl) ?_
 simp only [pick,aF,aG,aI,aJ,aK]
 go_wp2_with (go_at_call 81;refine hcl6.out.mono ?_;rintro e w7 ⟨v7,b7,rfl,ho7,hge7,f7⟩)
 obtain ⟨a7,c7,rfl⟩:=ho7.isSlice
 have F7:=hid (f0.trans' f7)
 have hs7:=Hc0.out w7 F7.out
 have E7:=hid ((Ev.refl HH.out).step F7.out)
 have hl7:=hid (HL0.out w7 E7.out.held)
 have HO7:=hid ho7
 have Hge7:=hid (Nat.le_trans f0.size hge7)
 clear ho7 f7 hge7 hcl6 hs0
 try refine wpList_nil ?_
 refine AfterD.on hs7 (by kernel_rfl) ?_
 try simp only [aA,aB,Act.put,aC,aD,aE]
 refine WD.eff 5 (by kernel_rfl) ?_
 simp only [pick,aF,aG,aI,aJ,aK]
 go_wp2_with (go_at_call 79;refine hl7.out.mono ?_;rintro e w8 ⟨rfl,hw⟩;subst hw)
 try refine wpList_nil ?_
 refine AfterD.on hs7 (by kernel_rfl) ?_
 try simp only [aA,aB,Act.put,aC,aD,aE]
 refine WD.pure [6] (by kernel_rfl) hs7 ?_
 simp only [pick,aF,aG,aI,aJ,aK]
 repeat (first | go_big_quiet_step (fail))
 refine wpQuiet_nil ?_
 refine WD.eff 7 (by kernel_rfl) ?_
 simp only [pick,aF,aG,aI,aJ,aK]
 go_wp2_with fail
 have HO9:=hid (HO7.out.keep ((Fr.refl [] w8).alloc (.cells #[Value.slice a7 n c7,.int .i64 ((L : Int) - 1),.int .i64 0] 100)) (by simp))
 have HB9:=hid (Blk.alloc w8 [Value.slice a7 n c7,.int .i64 ((L : Int) - 1),.int .i64 0] 100)
 have F9:=hid (F7.out.alloc (.cells #[Value.slice a7 n c7,.int .i64 ((L : Int) - 1),.int .i64 0] 100))
 have hs9:=Hc0.out _ F9.out
 have Hvb:=hid (show w5.heap.size ≤ w8.heap.size ∧ b7 < w8.heap.size from ⟨F7.out.size,HO7.out.lt b7 rfl⟩)
 clear hl7 E7 HO7 F7 hs7 F6 f0
 try refine wpList_nil ?_
 refine AfterD.on hs9 (by kernel_rfl) ?_
 try simp only [aA,aB,Act.put,aC,aD,aE]
 refine WD.pure [8] (by kernel_rfl) hs9 ?_
 simp only [pick,aF,aG,aI,aJ,aK]
 repeat (first | go_big_quiet_step (fail))
 refine wpQuiet_nil ?_
 refine WD.done (by kernel_rfl) ?_
 clear hs9 Hc0 HL0
 generalize (w8.alloc (.cells #[Value.slice a7 n c7,.int .i64 ((L : Int) - 1),.int .i64 0] 100)) = w9 at *
 generalize w8.heap.size = vb at *
 go_wp2_with fail
 clear h0l
 go_loopw [32] (fun iv wr => ∃ i : Nat,i ≤ n ∧ iv = .int .i64 (i : Int) ∧ Hid (Fr [] w5 wr) ∧ Hid (Xr.Own wr 1 (.slice a7 n c7) n (ps.map fun p => pv (some p.m)) (some b7)) ∧ Hid (Blk wr vb [.slice a7 n c7,.int .i64 ((L : Int) - 1),.int .i64 0])) (fun iv _ => n - (intOf iv).toNat)
 case atStart => exact ⟨0,by omega,rfl,F9,HO9,HB9⟩
 case round =>
  obtain ⟨i,hi,rfl,FR,OW,BK⟩:=hrel
  clear F9 HO9 HB9
  by_cases hlt : i < n
  · have hd : decide ((i : Int) < (n : Int)) = true:=by simp;omega
    have hdn : decide (i < n) = true:=by simp;omega
    have hip : i < ps.length:=by rw [HNl.out];exact hlt
    have hc:=Hcell.out wr FR.out i hip
    have F1 : Fr [] w5 wr.drew:=FR.out.drew
    have hln:=hid (HLn.out ps[i] (List.getElem_mem hip) wr.drew (HH.out.keep0 F1))
    have hs1 : wr.drew.cell? ⟨vb,1,none⟩ = some (.int .i64 ((L : Int) - 1)):=BK.out.cell 1
    have hb1 : Blk wr.drew vb [.slice a7 n c7,.int .i64 ((L : Int) - 1),.int .i64 0]:=BK.out.drew
    have hi8 : (i : Int) ≤ 8:=by omega
    have OW1 : Xr.Own wr.drew 1 (.slice a7 n c7) n (ps.map fun p => pv (some p.m)) (some b7):=OW.out.keep ((Fr.refl [] wr).drew) (by simp)
    have HW1:=hid OW1
    generalize ps[i].m = mi at *
    have hmin : min ((L : Int) - 1) ((L : Int) - 1) = (L : Int) - 1:=Int.min_self _
    have hvi:=Hvb.out
    clear hip BK OW OW1
    go_wp2_with fail
    refine wp_region_D (fun w' => w'.cell? ⟨vb,1,none⟩ = some (.int .i64 ((L : Int) - 1))) false [] (by kernel_rfl) ?_
    refine WD.pure [5] (by kernel_rfl) hs1 ?_
    simp only [pick,aF,aG,aI,aJ,aK]
    repeat (first | go_big_quiet_step (fail))
    refine wpQuiet_nil ?_
    refine WD.free [0,1,2,3] (by kernel_rfl) hs1 ?_
    simp only [pick,aF,aG,aI,aJ,aK]
    repeat (first | go_big_quiet_step (fail))
    refine wpQuiet_nil ?_
    refine WD.held [4] (by kernel_rfl) hs1 ?_
    simp only [pick,aF,aG,aI,aJ,aK]
    repeat (first | (refine quiet_load_1R (by rfl) _ _ rfl rfl (.int .i64 ((L : Int) - 1)) (fun w0 h => h) _ Tryz.underlying3 rfl ?_;simp only [aA,aB,Act.put,aC,aD,aE]) | go_big_quiet_step (fail))
    refine wpQuiet_nil ?_
    refine WD.eff 6 (by kernel_rfl) ?_
    simp only [pick,aF,aG,aI,aJ,aK]
    go_wp2_with (go_at_call 79;refine hln.out.mono ?_;rintro e w10 ⟨rfl,hw⟩;subst hw)
    try refine wpList_nil ?_
    refine AfterD.on hs1 (by kernel_rfl) ?_
    try simp only [aA,aB,Act.put,aC,aD,aE]
    refine WD.pure [7,8,9] (by kernel_rfl) hs1 ?_
    simp only [pick,aF,aG,aI,aJ,aK]
    repeat (first | go_big_quiet_step (fail))
    refine wpQuiet_nil ?_
    refine WD.eff 10 (by kernel_rfl) ?_
    simp only [pick,aF,aG,aI,aJ,aK]
    go_wp2_with (refine wpList_put rfl _ _ _ rfl rfl (.int .i64 ((L : Int) - 1)) rfl rfl hb1 (by simp) (by kernel_rfl) ?_;intro w11 f11 b11 hs11;simp only [aA,aB,Act.put,aC,aD,aE])
    have b12 : Blk w11 vb [.slice a7 n c7,.int .i64 ((L : Int) - 1),.int .i64 0]:=b11
    have hs12 : w11.cell? ⟨vb,1,none⟩ = some (.int .i64 ((L : Int) - 1)):=b12.cell 1
    have F12:=hid (F1.trans f11 (fun y hy => .inr (by simp at hy;omega)))
    have O12:=hid (HW1.out.keep f11 (by simp;omega))
    have B12:=hid b12
    clear b11 b12 f11 hb1 hs1 HW1 F1 FR hln hc hs11 hvi
    try refine wpList_nil ?_
    refine AfterD.on hs12 (by kernel_rfl) ?_
    try simp only [aA,aB,Act.put,aC,aD,aE]
    refine WD.done (by kernel_rfl) ?_
    go_wp2_with fail
    go_roundw
    case rel => exact ⟨i + 1,by omega,by go_num,F12,O12,B12⟩
    case measure => simp [intOf];omega
  · have hd : decide ((i : Int) < (n : Int)) = false:=by simp;omega
    have hdn : decide (i < n) = false:=by simp;omega
    clear hlt hi
    go_wp2_with fail
    go_ret2
    refine ⟨vb,b7,.slice a7 n c7,rfl,?_⟩
    have e1:=(Ev.refl HH.out).new FR.out (Res.On.own OW.out) (fun b hb => by simp [Res.own] at hb;rw [hb];exact Hge7.out)
    have e2 : Ev w5 (l ++ vpsC ps) wr (Res.blk vb [.slice a7 n c7,.int .i64 ((L : Int) - 1),.int .i64 0] :: Res.own 1 (.slice a7 n c7) n (ps.map fun p => pv (some p.m)) (some b7) :: (l ++ vpsC ps)):=by
     refine ⟨Held.new e1.held (Res.On.blk BK.out) (fun b hb r hr => ?_),e1.fr,fun b hb => ?_⟩
     · obtain rfl : b = vb:=by simpa [Res.blk] using hb
       rcases List.mem_cons.1 hr with rfl | hr
       · simp [Res.own]
         exact Nat.ne_of_gt Hvb.out.2
       · exact fun h => absurd (HH.out.lt r hr _ h) (Nat.not_lt.2 Hvb.out.1)
     · rcases List.mem_append.1 (show b ∈ [vb] ++ feetOf (Res.own 1 (.slice a7 n c7) n (ps.map fun p => pv (some p.m)) (some b7) :: (l ++ vpsC ps)) from hb) with h | h
       · obtain rfl:=List.mem_singleton.1 h
         exact .inr Hvb.out.1
       · exact e1.low b h
    have e3 : Ev w5 (l ++ vpsC ps) wr (volR vb b7 (.slice a7 n c7) (ps.map VP.m) ((L : Int) - 1) 0 ++ (l ++ vpsC ps)):=by
     unfold volR
     rw [List.length_map,HNl.out,List.map_map]
     exact e2
    exact e3
end
end Go.Proofs.YtgafefecookgaaaGreat
namespace Go.Xr
open Go Go.RowKit
set_option linter.unusedVariables false
def winV (ad : Option Addr) (l k : Nat) : Value:=.slice (if k = l then ad else ad.map (·.add (l * 1))) (k - l) (k - l)
section
variable {P : Program} {w : World}
theorem wpListIn_slice_v {F : Fence} {m : Nat} {ops : Array Oper} {Q : Exit → Act → World → Prop} {a : Act} {rest : List Oper} {o : Oper} (hg : o.guard = none) (t : TypeId) (x : Operand) (lo hi mx : Option Operand) (ho : o.op = .slice t x lo hi mx) (xv : Value) (hx : a.eval x = xv) (lv hv mv : Option Value) (hlo : lo.map a.eval = lv) (hhi : hi.map a.eval = hv) (hmx : mx.map a.eval = mv) (v : Value)
 (hr : (Instr.sliceAt t xv lv hv mv).run P w = .ok v w) (h : wpListIn F m P ops Q rest (a.put o.dst v) w) : wpListIn F m P ops Q (o :: rest) a w:=by
 refine wpListIn_plain hg fun K hK => ?_
 unfold Oper.wpIn
 refine ⟨by simp [Oper.about,ho],?_⟩
 rw [Oper.semAt_plain F _ _ (by rw [ho];intro c hc';cases hc')]
 unfold execOp
 simp only [ho,hx,hlo,hhi,hmx,Sem.run_bind,Sem.run_pure,Result.andThen_ok,hr]
 exact hK _ _ h
theorem run_winV (t e : TypeId) (ht : P.underlying t = some (.slice e)) (hs : (P.info? e).map (·.size) = some 1) (ad : Option Addr) (n c l k : Nat) (h1 : l ≤ k) (h2 : k ≤ c) (w0 : World) (kl kh km : IntKind) :
 (Instr.sliceAt t (.slice ad n c) (some (.int kl (l : Int))) (some (.int kh (k : Int))) (some (.int km (k : Int)))).run P w0 = .ok (winV ad l k) w0:=by
 cases hq : P.info? e with
 | none => simp [hq] at hs
 | some i =>
   have hs1 : i.size = 1:=by simpa [hq] using hs
   have h3 : (l : Int) ≤ (k : Int):=by omega
   have h4 : (0 : Int) ≤ (l : Int):=by omega
   have h5 : (k : Int) ≤ (c : Int):=by omega
   have h7 : (0 : Int) ≤ (k : Int):=by omega
   simp [Instr.sliceAt,Instr.slice,run_underlying ht,Instr.sliceBounds,run_sliceBound,h3,h4,h5,h7,sizeOf,typeInfo,hq,hs1,winV]
end
end Go.Xr
namespace Go.Proofs.YtgafefecookgaaaGreat
open Go Go.Xr Go.RowKit
attribute [local go_sem] Oper.semAt_some
theorem chunk2_any {w : World} {ad : Option Addr} {n c : Nat} : Calls Tryz.prog 50 #[.slice ad n c,.int .i64 2] w fun e w' => ∃ cb nb,e = .returned (.func (.func 76) #[] #[.pointer (some ⟨cb,0,none⟩),.pointer (some ⟨nb,0,none⟩)]) ∧
 w'.cell? ⟨cb,0,none⟩ = some (.slice ad n c) ∧ w'.cell? ⟨nb,0,none⟩ = some (.int .i64 2) ∧ w.heap.size ≤ cb ∧ cb < w'.heap.size ∧ w.heap.size ≤ nb ∧ nb < w'.heap.size ∧ Fr [] w w':=by
 have b1:=Blk.alloc w [Value.slice ad n c] 23
 have b2:=Blk.alloc (w.alloc (.cells [Value.slice ad n c].toArray 23)) [Value.int .i64 2] 3
 have b1':=b1.old (.cells [Value.int .i64 2].toArray 3)
 have e1:=b1'.cell 0
 have e2:=b2.cell 0
 rw [World.size_alloc] at e2
 simp only [List.getElem?_cons_zero] at e1 e2
 go_enter Tryz.func50,Tryz.ntmps50
 go_wp2_with fail
 go_ret
 exact ⟨w.heap.size,w.heap.size + 1,rfl,e1,e2,Nat.le_refl _,by simp;omega,by omega,by simp,((Fr.refl [] w).alloc _).alloc _⟩
theorem chunk2_seq {w : World} {ad : Option Addr} {n c cb nb : Nat} (hnc : n ≤ c) (hcm : c ≤ maxLen) (hn : n ≤ 16777215) (hc : w.cell? ⟨cb,0,none⟩ = some (.slice ad n c)) (hb : w.cell? ⟨nb,0,none⟩ = some (.int .i64 2)) :
 SeqM Tryz.prog 1 76 #[.pointer (some ⟨cb,0,none⟩),.pointer (some ⟨nb,0,none⟩)] (fun k => winV ad (2 * k) (min (2 * k + 2) n)) ((n + 1) / 2) (fun b => b = cb ∨ b = nb) w:=by
 intro l J Jx W hfr hJ hY h0
 have q1:=hfr.cell_some hc
 have q2:=hfr.cell_some hb
 have HJ:=hid hJ
 have HY:=hid hY
 have hcl : ∀ {b : Nat} {v : Value},W.cell? ⟨b,0,none⟩ = some v → b < W.heap.size:=fun {b v} h => by
  unfold World.cell? at h
  rcases Nat.lt_or_ge b W.heap.size with h' | h'
  · exact h'
  · simp [h'] at h
 have hcb:=hcl q1
 have hnb:=hcl q2
 have Hcm:=hid hcm
 clear hfr hc hb hJ hY hcl hcm
 show Calls _ _ #[.func (.yield l) #[] #[],.pointer (some ⟨cb,0,none⟩),.pointer (some ⟨nb,0,none⟩)] W _
 go_enter Tryz.func76,Tryz.ntmps76
 go_wp2_with fail
 go_loopw [4] (fun iv wr => ∃ j : Nat,j ≤ (n + 1) / 2 ∧ iv = .int .i64 ((2 * j : Nat) : Int) ∧ J j wr ∧ W.heap.size ≤ wr.heap.size ∧ wr.cell? ⟨cb,0,none⟩ = some (.slice ad n c) ∧ wr.cell? ⟨nb,0,none⟩ = some (.int .i64 2)) (fun iv _ => n + 2 - (intOf iv).toNat)
 case atStart => exact ⟨0,by omega,rfl,h0,Nat.le_refl _,q1,q2⟩
 case round =>
  obtain ⟨j,hj,rfl,hJj,hsz,c1,c2⟩:=hrel
  clear h0 q1 q2
  by_cases hli : 2 * j < n
  · obtain ⟨lo,hlo⟩ : ∃ lo,2 * j = lo:=⟨_,rfl⟩
    obtain ⟨m,hm⟩ : ∃ m,n - lo = m:=⟨_,rfl⟩
    obtain ⟨e,he⟩ : ∃ e,min 2 m = e:=⟨_,rfl⟩
    obtain ⟨k,hk⟩ : ∃ k,lo + e = k:=⟨_,rfl⟩
    have hmin : min (2 : Int) (m : Int) = (e : Int):=by omega
    have hle : (lo : Int) + (e : Int) = (k : Int):=by omega
    have hkb : k ≤ 16777215:=by omega
    have hlb : lo ≤ 16777215:=by omega
    have hd : decide ((lo : Int) < (n : Int)) = true:=by simp;omega
    have hd' : (lo : Int) < (n : Int):=by omega
    have d1 : wr.drew.cell? ⟨cb,0,none⟩ = some (.slice ad n c):=c1
    have d2 : wr.drew.cell? ⟨nb,0,none⟩ = some (.int .i64 2):=c2
    have f0 : Fr [] wr wr.drew:=(Fr.refl [] wr).drew
    obtain ⟨V,hV,hVr⟩ : ∃ ad' c',∀ w0 : World,(Instr.sliceAt 23 (.slice ad n c) (some (.int .i64 (lo : Int))) none none).run Tryz.prog w0 = .ok (.slice ad' m c') w0 :=
     ⟨_,_,fun w0 => by rw [← hm];exact run_low_rc w0 _ 37 ad n c lo .i64 _ rfl Tryz.underlying23 (by kernel_rfl) (by omega)⟩
    have HVr:=hid hVr
    have Hwin:=hid fun w0 kl kh km => run_winV (P:=Tryz.prog) 23 37 Tryz.underlying23 (by kernel_rfl) ad n c lo k (by omega) (by omega) w0 kl kh km
    have HE:=hid (show winV ad lo k = winV ad (2 * j) (min (2 * j + 2) n) by rw [hlo];congr 1;omega)
    obtain ⟨U,hU⟩ : ∃ U,winV ad lo k = U:=⟨_,rfl⟩
    rw [hU] at Hwin HE
    have Hj:=hid (show j < (n + 1) / 2 by omega)
    have Hlo:=hid hlo
    rw [hlo]
    clear hlo hm he hk hVr hU hli hj
    have hyield:=HY.out j wr.drew Hj.out (HJ.out _ _ _ hJj f0)
    rw [← HE.out] at hyield
    obtain ⟨fn,tmps,assign,body,hy,hR⟩:=hyield
    go_wp2_with fail
    refine wp_region_D (fun _ => True) false [] (by kernel_rfl) ?_
    refine WD.pure [0,1,2,3,4,5,6] (by kernel_rfl) trivial ?_
    simp only [pick,aF,aG,aI,aJ,aK]
    repeat (first | (refine quiet_slice_vW (by rfl) _ _ _ _ rfl _ rfl _ _ rfl rfl _ (fun w0 _ => HVr.out w0) ?_;simp only [aA,aB,Act.put,aC,aD,aE]) | go_big_quiet_step (fail))
    refine wpQuiet_nil ?_
    refine WD.done (by kernel_rfl) ?_
    rename_i hnext
    refine hnext _ _ ((wpIn_wide (n:=2)).1 ?_)
    clear hnext
    gi_wp2_with (refine wpListIn_slice_v rfl _ _ _ _ _ rfl _ rfl _ _ _ rfl rfl rfl _ (Hwin.out _ _ _ _) ?_;simp only [aA,aB,Act.put,aC,aD,aE])
    refine hR.mono ?_
    rintro e2 W2 (⟨rfl,hJ2,hf2⟩ | ⟨rfl,hJx⟩)
    rotate_left
    · clear hy hR d1 d2 c1 c2 hJj
      gi_wp2
      refine bodyPost_ret (results_none rfl _ _ _) rfl ?_
      exact ⟨⟨_,rfl⟩,.inr hJx⟩
    have r1 : W2.cell? ⟨cb,0,none⟩ = some (.slice ad n c):=(World.cell?_of_block (w:=wr.drew) (hf2.2 cb (.inl rfl))).trans d1
    have r2 : W2.cell? ⟨nb,0,none⟩ = some (.int .i64 2):=(World.cell?_of_block (w:=wr.drew) (hf2.2 nb (.inr rfl))).trans d2
    have r3 : W.heap.size ≤ W2.heap.size:=Nat.le_trans (Nat.le_trans hsz f0.size) hf2.1
    clear hy hR hf2 d1 d2 c1 c2 hJj
    gi_wp2
    have hadd : (lo : Int) + 2 = ((2 * (j + 1) : Nat) : Int):=by have:=Hlo.out;omega
    go_wp2_with fail
    go_roundw
    case rel => exact ⟨j + 1,by have:=Hj.out;omega,by first | rfl | (rw [← hadd];go_num),hJ2,r3,r1,r2⟩
    case measure => simp [intOf];omega
  · obtain ⟨lo,hlo⟩ : ∃ lo,2 * j = lo:=⟨_,rfl⟩
    have hd : decide ((lo : Int) < (n : Int)) = false:=by simp;omega
    have hd' : ¬ ((lo : Int) < (n : Int)):=by omega
    have hd2 : n ≤ lo:=by omega
    have ej : j = (n + 1) / 2:=by omega
    have HJd:=hid (show J ((n + 1) / 2) wr by rw [← ej];exact hJj)
    rw [hlo]
    clear ej hli hj hJj hlo
    go_wp2_with fail
    refine bodyPost_end (results_none rfl _ _ _) rfl ?_
    exact ⟨⟨_,rfl⟩,.inl HJd.out⟩
end Go.Proofs.YtgafefecookgaaaGreat
namespace Go.Proofs.YtgafefecookgaaaGreat
open Go Go.Xr Go.RowKit
theorem vquo (t : TypeId) (i d : Nat) (hi : i ≤ 9223372036854775807) (hd : 0 < d) : binOp .quo t (.int .i64 (i : Int)) (.int .i64 (d : Int)) = pure (.int .i64 ((i / d : Nat) : Int)):=by
 have h1 : ((d : Int) == 0) = false:=by simp;omega
 have hq0 : i / d ≤ i:=Nat.div_le_self _ _
 have h2 : Int.tdiv (i : Int) (d : Int) = ((i / d : Nat) : Int):=by rw [Int.tdiv_eq_ediv_of_nonneg (by omega),Int.natCast_ediv]
 generalize i / d = q at *
 have h3 : IntKind.i64.wrap (q : Int) = (q : Int):=by
  simp [IntKind.wrap,IntKind.bits,IntKind.signed]
  omega
 have h4 : ¬ (d = 0):=by omega
 simp [binOp,Op.intDiv,h2,h3,h4]
theorem vrem (t : TypeId) (a b : Nat) (ha : a ≤ 9223372036854775807) (h : 0 < b) : binOp .rem t (.int .i64 (a : Int)) (.int .i64 (b : Int)) = pure (.int .i64 ((a % b : Nat) : Int)):=by
 have hb : (b : Int) ≠ 0:=by omega
 have hm : a % b ≤ a:=Nat.mod_le _ _
 have e : (a : Int).tmod (b : Int) = ((a % b : Nat) : Int):=by rw [Int.tmod_eq_emod_of_nonneg (by omega)];rfl
 have e2 : IntKind.i64.wrap ((a % b : Nat) : Int) = ((a % b : Nat) : Int):=by
  rw [IntKind.wrap_i64]
  omega
 simp only [binOp,Op.intDiv]
 rw [if_neg hb,e]
 first
  | (rw [e2];done)
  | (simp only [e2];rfl)
  | simp [e2]
def plC (n e : Nat) (i : Int) : Int:=if 0 ≤ i ∧ i < ((e * n : Nat) : Int) then 0 else 2
def plP (n e : Nat) (i : Int) : Nat:=if 0 ≤ i ∧ i < ((e * n : Nat) : Int) then i.toNat % n else 0
def plA (n e : Nat) (i : Int) : Nat:=if 0 ≤ i ∧ i < ((e * n : Nat) : Int) then i.toNat / n else 0
section
variable {w w' w0 : World} {vb n c e : Nat} {ad : Option Addr} {wr : Int}
def volL (ad : Option Addr) (n c e : Nat) (wr : Int) : List Value:=[.slice ad n c,.int .i64 (e : Int),.int .i64 wr]
theorem vlen_any (hb : Blk w vb (volL ad n c e wr)) (hn : n ≤ 8) (he : e ≤ 16384) : Calls Tryz.prog 17 #[.pointer (some ⟨vb,0,none⟩)] w fun r w' => r = .returned (.int .i64 ((e * n : Nat) : Int)) ∧ Fr [] w w':=by
 have k0 : w.drew.cell? ⟨vb,0,none⟩ = some (.slice ad n c):=hb.cell 0
 have k1 : w.drew.cell? ⟨vb,1,none⟩ = some (.int .i64 (e : Int)):=hb.cell 1
 have HS:=hid (And.intro k0 k1)
 have hm : e * n ≤ 131072:=Nat.le_trans (Nat.mul_le_mul he hn) (by decide)
 obtain ⟨en,hen⟩ : ∃ en,e * n = en:=⟨_,rfl⟩
 rw [hen] at hm ⊢
 have hmul : ∀ t,binOp .mul t (.int .i64 (e : Int)) (.int .i64 (n : Int)) = pure (.int .i64 (en : Int)):=fun t => by
  show pure (Value.int .i64 (IntKind.i64.wrap ((e : Int) * (n : Int)))) = _
  rw [IntKind.wrap_i64,show (e : Int) * (n : Int) = (en : Int) by rw [← hen];exact (Int.natCast_mul e n).symm]
  have h9 : ((en : Int) + 9223372036854775808) % 18446744073709551616 - 9223372036854775808 = (en : Int):=by omega
  rw [h9]
 have f0 : Fr [] w w.drew:=(Fr.refl [] w).drew
 clear hb hm hen
 go_enter Tryz.func17,Tryz.ntmps17
 go_wp2_with fail
 refine wp_region_D (fun _ => True) false [] (by kernel_rfl) ?_
 refine WD.pure [0,1,2,3,4,5,6,7,8,9,10] (by kernel_rfl) trivial ?_
 simp only [pick,aF,aG,aI,aJ,aK]
 repeat (first | go_big_quiet_step (fail))
 refine wpQuiet_nil ?_
 refine WD.done (by kernel_rfl) ?_
 go_wp2_with fail
 go_ret
 exact ⟨rfl,f0⟩
theorem vwr_any (hb : Blk w vb (volL ad n c e wr)) : Calls Tryz.prog 19 #[.pointer (some ⟨vb,0,none⟩)] w fun r w' => r = .returned (.int .i64 wr) ∧ w' = w:=by
 have k2 : w.cell? ⟨vb,2,none⟩ = some (.int .i64 wr):=hb.cell 2
 clear hb
 go_enter Tryz.func19,Tryz.ntmps19
 go_wp2_with fail
 go_ret
 exact ⟨rfl,rfl⟩
theorem vplace_any {rb : Nat} (hb : Blk w vb (volL (some ⟨rb,0,none⟩) n c e wr)) (h1 : 1 ≤ n) (hn : n ≤ 8) (he : e ≤ 16384) (i : Int) :
 Calls Tryz.prog 42 #[.pointer (some ⟨vb,0,none⟩),.int .i64 i] w fun r w' => r = .returned (.tuple #[.int .i64 (plP n e i : Int),.int .i64 (plA n e i : Int),.int .i64 (plC n e i)]) ∧ Fr [] w w':=by
 have HL:=hid (vlen_any hb hn he)
 have HB:=hid hb
 have k0 : w.cell? ⟨vb,0,none⟩ = some (.slice (some ⟨rb,0,none⟩) n c):=hb.cell 0
 have hm : e * n ≤ 131072:=Nat.le_trans (Nat.mul_le_mul he hn) (by decide)
 have hsn:=@Lib.run_eql_slice_nil
 unfold plP plA plC
 obtain ⟨en,hen⟩ : ∃ en,e * n = en:=⟨_,rfl⟩
 rw [hen] at hm HL ⊢
 clear hb hen
 by_cases h0 : i < 0
 · have u0 : decide (i < 0) = true:=by simpa using h0
   rw [if_neg (by omega),if_neg (by omega),if_neg (by omega)]
   go_enter Tryz.func42,Tryz.ntmps42
   go_wp2_with fail
   go_ret3
   exact ⟨rfl,Fr.refl [] _⟩
 · have u0 : decide (i < 0) = false:=by simpa using h0
   by_cases h3 : (en : Int) ≤ i
   · have u3 : decide ((en : Int) ≤ i) = true:=by simpa using h3
     rw [if_neg (by omega),if_neg (by omega),if_neg (by omega)]
     go_enter Tryz.func42,Tryz.ntmps42
     go_wp2_with (go_at_call 17;refine HL.out.mono ?_;rintro r w5 ⟨rfl,f5⟩)
     go_ret3
     exact ⟨rfl,f5⟩
   · have u3 : decide ((en : Int) ≤ i) = false:=by simpa using h3
     obtain ⟨q,rfl⟩ : ∃ q : Nat,i = (q : Int):=⟨i.toNat,by omega⟩
     rw [if_pos (by omega),if_pos (by omega),if_pos (by omega),Int.toNat_natCast]
     have hr:=fun t : TypeId => vrem t q n (by omega) (by omega)
     have hq:=fun t : TypeId => vquo t q n (by omega) (by omega)
     generalize q % n = a at *
     generalize q / n = b at *
     go_enter Tryz.func42,Tryz.ntmps42
     go_wp2_with (go_at_call 17;refine HL.out.mono ?_;rintro r w5 ⟨rfl,f5⟩;have k5 : w5.cell? ⟨vb,0,none⟩ = some (.slice (some ⟨rb,0,none⟩) n c):=(f5.blk HB.out (by simp)).cell 0)
     refine wp_region_D (fun _ => True) false [] (by kernel_rfl) ?_
     refine WD.pure [0,1,2,3,4,5,6,7,8,9,10,11,12,13,14,15,16] (by kernel_rfl) trivial ?_
     simp only [pick,aF,aG,aI,aJ,aK]
     repeat (first | go_big_quiet_step (fail))
     refine wpQuiet_nil ?_
     refine WD.done (by kernel_rfl) ?_
     go_wp2_with fail
     go_ret3
     exact ⟨rfl,f5.drew⟩
end
theorem nodup_picks {α : Type} (f : α → List Nat) (g : α → Nat) : ∀ (ps : List α),(ps.flatMap f).Nodup → (∀ x ∈ ps,g x ∈ f x) → (ps.map g).Nodup
 | [],_,_ => List.nodup_nil
 | p :: ps,h,hg => by
   rw [List.flatMap_cons,List.nodup_append] at h
   obtain ⟨h1,h2,h3⟩:=h
   rw [List.map_cons,List.nodup_cons]
   refine ⟨fun hm => ?_,nodup_picks f g ps h2 (fun x hx => hg x (List.mem_cons_of_mem _ hx))⟩
   obtain ⟨q,hq,e⟩:=List.mem_map.1 hm
   exact h3 (g p) (hg p (List.mem_cons_self ..)) (g q) (List.mem_flatMap.2 ⟨q,hq,hg q (List.mem_cons_of_mem _ hq)⟩) e.symm
def dsP (ss : List VS) : List (VS × Bool):=ss.flatMap fun s => [(s,false),(s,true)]
def dsOf (ss : List VS) : List Nat:=(dsP ss).map fun q => q.1.d q.2
theorem dsP_len (ss : List VS) : (dsP ss).length = 2 * ss.length:=by
 induction ss with
 | nil => rfl
 | cons s ss ih =>
   show ((s,false) :: (s,true) :: dsP ss).length = _
   simp only [List.length_cons,ih]
   omega
theorem dsP_get : ∀ (ss : List VS) (k : Nat) (s : VS),ss[k]? = some s → (dsP ss)[2 * k]? = some (s,false) ∧ (dsP ss)[2 * k + 1]? = some (s,true)
 | [],k,s,h => by simp at h
 | q :: ss,0,s,h => by
   obtain rfl : q = s:=by simpa using h
   exact ⟨rfl,rfl⟩
 | q :: ss,k + 1,s,h => by
   obtain ⟨h1,h2⟩:=dsP_get ss k s (by simpa using h)
   have e : dsP (q :: ss) = (q,false) :: (q,true) :: dsP ss:=rfl
   rw [e,show 2 * (k + 1) = 2 * k + 1 + 1 by omega,show 2 * k + 1 + 1 + 1 = 2 * k + 1 + 1 + 1 from rfl]
   exact ⟨by simpa using h1,by simpa using h2⟩
section
variable {w w' w0 : World} {l rs : List Res} {ps : List VP} {ss : List VS} {k : Nat} {s : VS}
theorem vss_held (h : Held w (l ++ vssC ss)) (hk : ss[k]? = some s) : Held w ((l ++ vssC (ss.eraseIdx k)) ++ vsC s):=by
 refine h.perm ?_
 rw [List.append_assoc]
 exact (flat_erase vsC ss k s hk).append_left l
theorem vss_dk (h : Held w (l ++ vssC ss)) (q : VS × Bool) (hq : q ∈ dsP ss) : q.1.d q.2 ∈ q.1.FF q.2 ∧ Pln w (q.1.d q.2):=by
 obtain ⟨s,hs,hq⟩:=List.mem_flatMap.1 hq
 obtain ⟨k,hk,e⟩:=List.getElem_of_mem hs
 have h1:=vss_held h (by rw [List.getElem?_eq_getElem hk,e])
 have h2 : Held w (sysC [] s.s s.d s.FF):=Held.part (l ++ vssC (ss.eraseIdx k)) [] (by rw [List.append_nil];exact h1)
 rcases List.mem_cons.1 hq with rfl | hq
 · exact ⟨rep_mem (h2.at 1 rfl).1,(h2.at 1 rfl).2⟩
 · obtain rfl:=List.mem_singleton.1 hq
   exact ⟨rep_mem (h2.at 2 rfl).1,(h2.at 2 rfl).2⟩
theorem dsP_feet : ∀ ss : List VS,(vssC ss).flatMap (fun r : Res => r.F) = (dsP ss).flatMap fun q => q.1.FF q.2
 | [] => rfl
 | s :: ss => by
   have ih:=dsP_feet ss
   show (sysC [] s.s s.d s.FF ++ vssC ss).flatMap _ = ((s,false) :: (s,true) :: dsP ss).flatMap _
   rw [List.flatMap_append,ih]
   simp [sysC,Res.pows,dk]
theorem vss_nodup (h : Held w (l ++ vssC ss)) : (dsOf ss).Nodup:=by
 have h1:=h.apart
 rw [List.flatMap_append,List.nodup_append] at h1
 have h2:=h1.2.1
 rw [dsP_feet] at h2
 exact nodup_picks (fun q : VS × Bool => q.1.FF q.2) (fun q => q.1.d q.2) (dsP ss) h2 (fun q hq => (vss_dk h q hq).1)
theorem Ev.skip {w w1 w2 : World} {rs rs1 : List Res} {S : List Nat} (e : Ev w rs w1 rs1) (f : Fr S w1 w2) (hS : ∀ b ∈ S,w.heap.size ≤ b ∧ b ∉ feetOf rs1) : Ev w rs w2 rs1 :=
 ⟨e.held.keep f (fun r hr b hb hbS => (hS b hbS).2 (List.mem_flatMap.2 ⟨r,hr,hb⟩)),e.fr.trans f (fun x hx => .inr (hS x hx).1),e.low⟩
end
end Go.Proofs.YtgafefecookgaaaGreat
namespace Go.Xr
open Go Go.RowKit
theorem wpListIn_of {l n : Nat} {P : Program} {ops : Array Oper} {Q : Exit → Act → World → Prop} (hL : ¬ LetsOut Q) : ∀ (rest : List Oper) (a : Act) (w : World),(∀ o ∈ rest,∀ c,o.op ≠ .defer c) → wpList P ops Q rest a w → wpListIn (Fence.wide.inRound l) n P ops Q rest a w
 | [],_,_,_,h => h
 | o :: rest,a,w,hd,h => by
   unfold wpList at h
   refine wpListIn_step fun K hK => ?_
   have ih:=fun (a : Act) (w : World) => wpListIn_of (l:=l) (n:=n) (P:=P) (ops:=ops) hL rest a w (fun o ho => hd o (List.mem_cons_of_mem _ ho))
   by_cases hw : Region.wanted o (yielded ops a.tmps) = true
   · simp only [hw,if_true] at h ⊢
     rcases h with h | ⟨_,h⟩
     · exact oper_wpIn_round (hd o (List.mem_cons_self ..)) (Oper.wp_mono (fun a w h => hK _ _ (ih a w h)) h)
     · exact (hL h).elim
   · simp only [hw,if_false,Bool.false_eq_true] at h ⊢
     exact ⟨fun _ _ => trivial,hK _ _ (ih _ _ h)⟩
theorem wpIn_region_W {l n : Nat} {P : Program} {ops : Array Oper} {Q : Exit → Act → World → Prop} {id : Nat} {a : Act} {w : World} (hd : noDefer ops = true) (h : wpList P ops (fun e a w => e = .normal ∧ Q .normal a w) ops.toList a w) : (Code.region id ops false).wpIn (Fence.wide.inRound l) n P Q a w:=by
 refine wpIn_mono (wpIn_region_list (wpListIn_of (Q:=fun e a w => e = .normal ∧ Q .normal a w) (by rintro ⟨_,_,h,_⟩;cases h) _ _ _ (fun o ho c hc => ?_) h)) (fun e a w ⟨he,hq⟩ => by subst he;exact hq)
 obtain ⟨i,hi⟩:=List.getElem?_of_mem ho
 exact noDefer_at hd (by rw [← Array.getElem?_toList];exact hi) c hc
theorem results_cell_2 {P : Program} {fn : Func} {p p2 : Tmp} {ty ty2 : TypeId} (h : fn.results = #[.cell p ty,.cell p2 ty2]) (tmps : Array Value) (w : World) {b b2 : Nat} {v v2 : Value} (hp : tmps.getD p undef = .pointer (some ⟨b,0,none⟩)) (hp2 : tmps.getD p2 undef = .pointer (some ⟨b2,0,none⟩)) (hv : w.cell? ⟨b,0,none⟩ = some v) (hv2 : w.cell? ⟨b2,0,none⟩ = some v2) (d : TypeDesc)
 (hu : P.underlying ty = some d) (hd : aggDesc d = false) (d2 : TypeDesc) (hu2 : P.underlying ty2 = some d2) (hd2 : aggDesc d2 = false) : (results fn tmps).run P w = .ok (.tuple #[v,v2]) w:=by
 have hr:=run_load_one w ty d hu hd hv
 have hr2:=run_load_one w ty2 d2 hu2 hd2 hv2
 have hp' : tmps[p]?.getD undef = .pointer (some ⟨b,0,none⟩):=by simpa using hp
 have hp2' : tmps[p2]?.getD undef = .pointer (some ⟨b2,0,none⟩):=by simpa using hp2
 simp [results,h,hp',hp2',asAddr,hr,hr2]
end Go.Xr
namespace Go.Proofs.YtgafefecookgaaaGreat
open Go Go.Xr Go.RowKit
attribute [local go_sem] Oper.semAt_some
def ofH (c3 c4 c5 c6 : Nat) (tv v : Value) (xs : List Value) (X : Option Nat) : List Res :=
 [Res.own 1 v xs.length xs X,Res.blk c6 [v],Res.blk c5 [.int .i64 0],Res.blk c4 [.pointer none],Res.blk c3 [tv]]
def ofR (H l : List Res) (ss : List VS) (ps : List VP) (k : Nat) : List Res:=H ++ (l ++ (vpsC ps ++ vssC (ss.drop k)))
def mxs (ps : List VP) : List Value:=ps.map fun p => pv (some p.m)
def OfI (w : World) (c3 c4 c5 c6 : Nat) (tv : Value) (l : List Res) (ss : List VS) (mf : Sys → MS) (bad : List Nat) (k : Nat) (W : World) : Prop :=
 ∃ (ps : List VP) (v : Value) (X : Option Nat),ps.map (fun p => (p.d,p.M)) = (ss.take k).map (fun s => (s.d,mf s.s)) ∧
   Ev w (l ++ vssC ss) W (ofR (ofH c3 c4 c5 c6 tv v (mxs ps) X) l ss ps k) ∧ ∀ b ∈ feetOf (ofR (ofH c3 c4 c5 c6 tv v (mxs ps) X) l ss ps k),b ∉ bad
theorem OfI.keep {w A B : World} {c3 c4 c5 c6 k : Nat} {tv : Value} {l : List Res} {ss : List VS} {mf : Sys → MS} {bad S : List Nat} (h : OfI w c3 c4 c5 c6 tv l ss mf bad k A) (f : Fr S A B) (hS : ∀ b ∈ S,w.heap.size ≤ b ∧ b ∈ bad) : OfI w c3 c4 c5 c6 tv l ss mf bad k B:=by
 obtain ⟨ps,v,X,h1,h2,h3⟩:=h
 exact ⟨ps,v,X,h1,Ev.skip h2 f (fun b hb => ⟨(hS b hb).1,fun hf => h3 b hf (hS b hb).2⟩),h3⟩
theorem ofR_out (H l : List Res) {ss : List VS} (ps : List VP) {k : Nat} {s : VS} (hk : ss[k]? = some s) : (ofR H l ss ps k).Perm ((H ++ (l ++ (vpsC ps ++ vssC (ss.drop (k + 1))))) ++ vsC s):=by
 have e : ss.drop k = s :: ss.drop (k + 1):=by
  obtain ⟨hlt,e⟩:=List.getElem?_eq_some_iff.1 hk
  rw [List.drop_eq_getElem_cons hlt,e]
 unfold ofR
 rw [e]
 show (H ++ (l ++ (vpsC ps ++ (vsC s ++ vssC (ss.drop (k + 1)))))).Perm _
 simp only [List.append_assoc]
 exact (((List.perm_append_comm).append_left _).append_left _).append_left _
theorem ofR_in (H l : List Res) (ss : List VS) (ps : List VP) (k : Nat) (p : VP) : ((H ++ (l ++ (vpsC ps ++ vssC (ss.drop (k + 1))))) ++ vpC p).Perm (ofR H l ss (ps ++ [p]) (k + 1)):=by
 unfold ofR
 have e : vpsC (ps ++ [p]) = vpsC ps ++ vpC p:=by simp [vpsC]
 rw [e]
 simp only [List.append_assoc]
 exact (((List.perm_append_comm).append_left _).append_left _).append_left _
theorem of_Make {w : World} {l : List Res} {ss : List VS} {v : Value} {B i0 : Nat} (mf : Sys → MS)
 (h : Held w (l ++ vssC ss)) (hi : l[i0]? = some (Res.own 1 v (dsOf ss).length (((dsOf ss).map some).map pv) (some B))) (h1 : 1 ≤ ss.length) (h8 : ss.length ≤ 8)
 (L : Nat) (hok : ∀ s ∈ ss,SysOk (mf s.s).s ∧ (mf s.s).s.len false = L) (h2 : 2 ≤ L)
 (HT : ∀ s ∈ ss,∀ (l1 : List Res) (w1 : World),Held w1 (l1 ++ vsC s) → Calls Tryz.prog 24 #[.pointer (some ⟨s.d false,0,none⟩),.pointer (some ⟨s.d true,0,none⟩)] w1 fun e w' => ∃ m FF',e = .returned (.tuple #[.pointer (some ⟨m,0,none⟩),.int .i64 0]) ∧ Ev w1 (l1 ++ vsC s) w' (l1 ++ mirC [] m s.d FF' (mf s.s))) :
 Calls Tryz.prog 23 #[v,.func (.func 24) #[] #[]] w fun e w' => ∃ vb rb v' ps,e = .returned (.tuple #[.pointer (some ⟨vb,0,none⟩),.int .i64 0]) ∧ ps.map (fun p : VP => (p.d,p.M)) = ss.map (fun s => (s.d,mf s.s)) ∧ Ev w (l ++ vssC ss) w' (volR vb rb v' (ps.map VP.m) ((L : Int) - 1) 0 ++ (l ++ vpsC ps)):=by
 have hdl : (dsOf ss).length = 2 * ss.length:=by simp [dsOf,dsP_len]
 have ho0:=h.ownAt i0 (by rw [List.getElem?_append_left (List.getElem?_eq_some_iff.1 hi).1];exact hi)
 have TW:=hid fun (w1 : World) (f : Fr [] w w1) => twD_any (w:=w1) (v:=v) (xs:=(dsOf ss).map some) (LB:=some B) (by
  have:=(ho0.rd.rc).keep f (by simp)
  simpa using this) (fun x hx b hb => by
  subst hb
  obtain ⟨d,hd,e⟩:=List.mem_map.1 hx
  obtain rfl : d = b:=Option.some.inj e
  obtain ⟨q,hq,rfl⟩:=List.mem_map.1 hd
  exact (vss_dk (h.keep0 f) q hq).2) (by rw [List.length_map,hdl];omega)
 have ND:=hid (dup_none (vss_nodup h) ((dsOf ss).map some).length)
 have HH:=hid h
 have HO:=hid ho0
 obtain ⟨c,hv,hnc,hcm⟩ : ∃ c,v = .slice (some ⟨B,0,none⟩) (2 * ss.length) c ∧ 2 * ss.length ≤ c ∧ c ≤ maxLen:=by
  rcases ho0.shape with ⟨_,_,_,h1⟩ | ⟨b,cap,hb1,h1,h2,h3⟩
  · cases h1
  · cases hb1
    rw [hdl] at h1 h2
    exact ⟨cap,h1,h2,h3⟩
 subst hv
 obtain ⟨n,hn⟩ : ∃ n,2 * ss.length = n:=⟨_,rfl⟩
 have Hn:=hid hn
 rw [hn] at hnc ⊢
 have hn16 : n ≤ 16:=by omega
 have hn2 : 2 ≤ n:=by omega
 have a1 : decide ((n : Int) < 2) = false:=by simp;omega
 have a2 : decide ((16 : Int) < (n : Int)) = false:=by simp;omega
 have a3 : (n : Int).tmod 2 = 0:=by rw [← hn,Int.tmod_eq_emod_of_nonneg (by omega)];omega
 have a4 : decide (n < 2) = false:=by simp;omega
 have a5 : decide (16 < n) = false:=by simp;omega
 rw [hn] at TW
 clear hdl ho0 h hn h1 h8
 refine callsIn_wide.1 (callsIn_of_wp_marks (n:=3) Tryz.func23 rfl trivial ?_ rfl)
 refine wpIn_wide.2 ?_
 simp only [Tryz.ntmps23,List.size_toArray,List.length_cons,List.length_nil,Nat.reduceAdd,Nat.reduceSub,Array.replicate_succ,Array.replicate_zero,List.push_toArray,List.append_toArray,List.nil_append,List.cons_append]
 go_wp2_with fail
 obtain ⟨w1,hw1⟩ : ∃ w1,((w.alloc (.cells #[Value.func (.func 24) #[] #[]] 61)).alloc (.cells #[Value.pointer none] 27)).alloc (.cells #[Value.int .i64 0] 28) = w1:=⟨_,rfl⟩
 obtain ⟨c3,hc3⟩ : ∃ c3,w.heap.size = c3:=⟨_,rfl⟩
 have F1:=hid (show Fr [] w w1 by rw [← hw1];exact (((Fr.refl [] w).alloc _).alloc _).alloc _)
 rw [hw1]
 have E1:=hid (show Ev w (l ++ vssC ss) w1 (Res.blk (w.heap.size + 1 + 1) [.int .i64 0] :: Res.blk (w.heap.size + 1) [.pointer none] :: Res.blk w.heap.size [.func (.func 24) #[] #[]] :: (l ++ vssC ss)) by
  have g1:=(Ev.refl HH.out).new ((Fr.refl [] w).alloc _) (Res.On.blk (Blk.alloc w [Value.func (.func 24) #[] #[]] 61)) (by simp [Res.blk])
  have g2:=g1.new ((Fr.refl [] _).alloc _) (Res.On.blk (Blk.alloc _ [Value.pointer none] 27)) (by simp [Res.blk])
  have g3:=g2.new ((Fr.refl [] _).alloc _) (Res.On.blk (Blk.alloc _ [Value.int .i64 0] 28)) (by simp [Res.blk])
  rw [← hw1]
  simpa [World.size_alloc] using g3)
 have TW1:=hid (TW.out w1 F1.out)
 obtain ⟨c4,hc4⟩ : ∃ c4,c3 + 1 = c4:=⟨_,rfl⟩
 obtain ⟨c5,hc5⟩ : ∃ c5,c4 + 1 = c5:=⟨_,rfl⟩
 have hz1 : w1.heap.size = c5 + 1:=by rw [← hw1,← hc5,← hc4,← hc3];simp
 rw [hc3,hc4,hc5]
 rw [hc3,hc4,hc5] at E1
 clear hw1 TW
 go_wp2_with (first
  | (go_at_call 49;refine TW1.out.mono ?_;rintro e w6 ⟨b,rfl,hb,f6⟩;have hbf : b = false:=(by cases b;rfl;exact absurd (hb.1 rfl) ND.out);subst hbf;have F6:=hid f6;clear hb f6))
 go_wp2_with (go_at_call 50;refine chunk2_any.mono ?_;rintro e w7 ⟨cb,nb,rfl,hcb,hnb,hcb1,hcb2,hnb1,hnb2,f7⟩)
 clear TW1 ND
 obtain ⟨c6,hc6⟩ : ∃ c6,w6.heap.size = c6:=⟨_,rfl⟩
 have hs6:=F6.out.size
 have hc56 : c5 < c6:=by omega
 have b6:=Blk.alloc w6 [Value.slice none 0 0] 98
 have g6:=(E1.out.step F6.out).new ((Fr.refl [] w6).alloc _) (Res.On.blk b6) (by simp [Res.blk])
 have g7:=Ev.step (Ev.new g6 (Fr.refl [] _) (Res.On.own (Own.nil _ 1)) (by simp [Res.own])) f7
 rw [hc6] at g7 ⊢
 have hlow:=hid fun (b : Nat) (hb : b ∈ feetOf (ofR (ofH c3 c4 c5 c6 (.func (.func 24) #[] #[]) (.slice none 0 0) (mxs []) none) l ss [] 0)) => (show b < c6 + 1 from by
  have h:=(Ev.new g6 (Fr.refl [] _) (Res.On.own (Own.nil _ 1)) (by simp [Res.own])).held.ltAll b (by rw [hc6];exact hb)
  rw [World.size_alloc,hc6] at h
  exact h)
 rw [World.size_alloc,hc6] at hcb1 hnb1
 obtain ⟨M,hM⟩ : ∃ M,w7.heap.size = M:=⟨_,rfl⟩
 rw [hM] at hcb2 hnb2
 have hI0 : OfI w c3 c4 c5 c6 (.func (.func 24) #[] #[]) l ss mf [cb,nb,M,M + 1] 0 w7:=⟨[],_,none,rfl,g7,fun b hb => by
  have:=hlow.out b hb
  simp
  omega⟩
 have HI:=hid hI0
 have hseq:=chunk2_seq (w:=w7) (cb:=cb) (nb:=nb) hnc hcm (by omega) hcb hnb
 clear b6 g6 g7 hlow hI0 hcb hnb f7
 have HC:=hid fun (w1 : World) (hH : List Res × Unit) (ps' : List VP) (k' : Nat) (h1 : Held w1 (ofR hH.1 l ss ps' k')) (i : Nat) (q : VS × Bool) (hq : (dsP ss)[i]? = some q) => (show w1.cell? ⟨B,i,none⟩ = some (.pointer (some ⟨q.1.d q.2,0,none⟩)) from by
  have h2 : (ofR hH.1 l ss ps' k')[hH.1.length + i0]? = some (Res.own 1 (.slice (some ⟨B,0,none⟩) (2 * ss.length) c) (dsOf ss).length (((dsOf ss).map some).map pv) (some B)):=by
   unfold ofR
   rw [List.getElem?_append_right (by omega),Nat.add_sub_cancel_left,List.getElem?_append_left (List.getElem?_eq_some_iff.1 hi).1]
   exact hi
  have hlt : i < (dsOf ss).length:=by rw [dsOf,List.length_map];exact (List.getElem?_eq_some_iff.1 hq).1
  obtain ⟨b,off,c2,hB,hv2,_,_,_,h4⟩:=((h1.ownAt _ h2).rd.rc).some (by omega)
  obtain ⟨⟨rfl,rfl⟩,_⟩ : (B = b ∧ 0 = off) ∧ 2 * ss.length = (dsOf ss).length ∧ c = c2:=by simpa using hv2
  have:=h4 i (by simpa using hlt)
  rw [Nat.zero_add] at this
  rw [this]
  simp [dsOf,hq,pv])
 refine wpIn_wide.1 (wpIn_rangeFunc_M (n:=3) (gf:=76) rfl (enters_of Tryz.func76 (by kernel_rfl) rfl) hseq rfl ?hKeep (OfI w c3 c4 c5 c6 (.func (.func 24) #[] #[]) l ss mf [cb,nb,M,M + 1]) (fun _ => False) ?hI (fun _ _ h _ => h) HI.out (fun v => { tmps:=#[Value.slice (some ⟨B,0,none⟩) n c,.func (.func 24) #[] #[],undef,.pointer (some ⟨c3,0,none⟩),.pointer (some ⟨c4,0,none⟩),.pointer (some ⟨c5,0,none⟩),.pointer (some ⟨c6,0,none⟩),v,undef,undef,.bool false,.slice (some ⟨B,0,none⟩) n c,.int .i64 (n : Int),.bool false,.bool false,.slice (some ⟨B,0,none⟩) n c,.int .i64 (n : Int),.bool false,.bool false,.bool false,.slice (some ⟨B,0,none⟩) n c,.int .i64 (n : Int),.int .i64 0,.bool false,.bool false,.bool false,.slice (some ⟨B,0,none⟩) n c,.bool false,.slice (some ⟨B,0,none⟩) n c,.func (.func 76) #[] #[.pointer (some ⟨cb,0,none⟩),.pointer (some ⟨nb,0,none⟩)],v,undef,undef,undef,undef,undef,undef,undef,undef,undef,undef,undef,undef,undef,undef,undef,undef,undef,undef,undef,undef,undef,undef],defers:=[] }) ?assign ?body ?done ?stop)
 case hKeep =>
  rintro b (rfl | rfl) <;> omega
 case hI =>
  intro k A B h f
  rw [hM] at f
  exact h.keep f fun b hb => by simp at hb ⊢;omega
 case assign =>
  intro l' k W K hK
  gi_wp2
  exact hK
 case body =>
  intro l' k W hk hWs hI
  rw [hM] at hWs ⊢
  obtain ⟨ps,v,X,hp1,hp2,hp3⟩:=hI
  have hkl : k < ss.length:=by have:=Hn.out;omega
  obtain ⟨s,hs⟩ : ∃ s,ss[k]? = some s:=⟨_,List.getElem?_eq_getElem hkl⟩
  obtain ⟨q1,q2⟩:=dsP_get ss k s hs
  have HSf:=hid fun (w1 : World) (ps' : List VP) (k' : Nat) (h1 : Held w1 (ofR (ofH c3 c4 c5 c6 (.func (.func 24) #[] #[]) v (mxs ps) X) l ss ps' k')) =>
   (show w1.cell? ⟨c3,0,none⟩ = some (.func (.func 24) #[] #[]) ∧ w1.cell? ⟨B,2 * k,none⟩ = some (.pointer (some ⟨s.d false,0,none⟩)) ∧ w1.cell? ⟨B,2 * k + 1,none⟩ = some (.pointer (some ⟨s.d true,0,none⟩)) from
     ⟨(h1.blkAt 4 rfl).cell 0,HC.out w1 (_,()) _ _ h1 _ _ q1,HC.out w1 (_,()) _ _ h1 _ _ q2⟩)
  have hV : winV (some ⟨B,0,none⟩) (2 * k) (min (2 * k + 2) n) = .slice (some ⟨B,2 * k,none⟩) 2 2:=by
   have e : min (2 * k + 2) n = 2 * k + 2:=by have:=Hn.out;omega
   rw [e]
   unfold winV
   rw [if_neg (by omega),show 2 * k + 2 - 2 * k = 2 by omega]
   simp [Addr.add]
   try exact fun h => h.symm
  rw [hV]
  have HSm:=hid (List.mem_of_getElem? hs)
  have HP1:=hid hp1
  have HP2:=hid hp2
  have HP3:=hid hp3
  have HK:=hid hs
  have hs0:=HSf.out W.drew ps k (hp2.held.keep0 (Fr.refl [] W).drew)
  have hk8 : k ≤ 8:=by omega
  obtain ⟨j,hj⟩ : ∃ j,2 * k = j:=⟨_,rfl⟩
  rw [hj] at HSf hs0 ⊢
  have hj8 : j ≤ 16:=by omega
  clear hV q1 q2 hp1 hp2 hp3 hs hj hk
  refine wpIn_block (wpIn_seq ?_)
  refine wpIn_region_D (by kernel_rfl) (fun w' => w'.cell? ⟨c3,0,none⟩ = some (.func (.func 24) #[] #[]) ∧ w'.cell? ⟨B,j,none⟩ = some (.pointer (some ⟨s.d false,0,none⟩)) ∧ w'.cell? ⟨B,j + 1,none⟩ = some (.pointer (some ⟨s.d true,0,none⟩))) false [] (by kernel_rfl) ?_
  refine WD.pure [0,1,2,3,4,5,6] (by kernel_rfl) hs0 ?_
  simp only [pick,aF,aG,aI,aJ,aK]
  repeat (first | (refine quiet_load_1R (by rfl) _ _ rfl rfl (.func (.func 24) #[] #[]) (fun w0 h => h.1) _ Tryz.underlying61 rfl ?_;simp only [aA,aB,Act.put,aC,aD,aE]) | (refine quiet_load_1R (by rfl) _ _ rfl rfl (.pointer (some ⟨s.d false,0,none⟩)) (fun w0 h => h.2.1) _ Tryz.underlying37 rfl ?_;simp only [aA,aB,Act.put,aC,aD,aE]) | (refine quiet_load_1R (by rfl) _ _ rfl rfl (.pointer (some ⟨s.d true,0,none⟩)) (fun w0 h => h.2.2) _ Tryz.underlying37 rfl ?_;simp only [aA,aB,Act.put,aC,aD,aE]) | go_big_quiet_step (fail))
  refine wpQuiet_nil ?_
  refine WD.eff 7 (by kernel_rfl) ?_
  simp only [pick,aF,aG,aI,aJ,aK]
  have f0 : Fr [] W W.drew:=(Fr.refl [] W).drew
  have E0:=hid (Ev.perm ((Ev.refl HP2.out.held).step f0) (ofR_out _ l ps HK.out))
  go_wp2_with (go_at_call 24;refine (HT s HSm.out _ _ E0.out.held).mono ?_;rintro e w9 ⟨m,FF',rfl,E9⟩)
  have E10:=hid (Ev.perm (E0.out.trans E9) (ofR_in _ l ss ps k ⟨m,s.d,FF',mf s.s⟩))
  have hs10:=HSf.out w9 _ _ E10.out.held
  clear E0 E9 HSf hs0
  try refine wpList_nil ?_
  refine AfterD.on hs10 (by kernel_rfl) ?_
  try simp only [aA,aB,Act.put,aC,aD,aE]
  refine WD.pure [8,9,10,11,12] (by kernel_rfl) hs10 ?_
  simp only [pick,aF,aG,aI,aJ,aK]
  repeat (first | go_big_quiet_step (fail))
  refine wpQuiet_nil ?_
  refine WD.done (by kernel_rfl) ?_
  refine wpIn_seq_k fun K hK => ?_
  have HNext:=hid hK
  clear hK
  refine wpIn_seq ?_
  gi_wp2
  refine HNext.out _ _ ?_
  clear HNext
  refine wpIn_region_W (by kernel_rfl) ?_
  obtain ⟨i9,z9,hi9,hz9,hs9,hb9,hzc9⟩:=infMp
  have Hi:=hid hi9
  have Hz:=hid hz9
  have Hs:=hid hs9
  have Hb:=hid hb9
  have Hzc:=hid hzc9
  clear hi9 hz9 hs9 hb9 hzc9 hs10
  have b9 : Blk w9 c6 [v]:=E10.out.held.blkAt 1 rfl
  have o9 : Xr.Own w9 1 v (mxs ps).length (mxs ps) X:=E10.out.held.ownAt 0 rfl
  have hle : (mxs ps).length ≤ 8:=by
   have h:=congrArg List.length HP1.out
   rw [List.length_map,List.length_map,List.length_take] at h
   simp [mxs]
   omega
  have hle1 : (mxs ps).length + 1 ≤ maxLen:=by unfold maxLen;omega
  have hle2 : ((mxs ps).length + 1) * 8 ≤ 140737488355328:=by omega
  have c9 : w9.cell? ⟨c6,0,none⟩ = some v:=b9.cell 0
  go_wp2_with (first
   | (refine wpList_buildSlice_r rfl _ 1 _ rfl 105 Tryz.underlying98 _ _ Hi.out Hz.out Hzc.out Hs.out (by decide) (by decide) (by decide) [.pointer (some ⟨m,0,none⟩)] rfl (by intro v hv;simp at hv;rcases hv with rfl;rfl) ?_
      intro w10 f10 hlt10 hb10
      have o10:=o9.keep f10 (by simp)
      have b10:=f10.blk b9 (by simp)
      simp only [aA,aB,Act.put,aC,aD,aE])
   | (refine wpList_append_rc (u:=.slice (some ⟨w9.heap.size,0,none⟩) 1 1) (m:=1) (v:=v) (n:=(mxs ps).length) (xs:=mxs ps) (B:=X) (XB:=some w9.heap.size) (w:=w10) (news:=[.pointer (some ⟨m,0,none⟩)]) rfl _ _ _ rfl 105 _ _ 1 8 Tryz.underlying98 Hi.out Hz.out Hs.out Hb.out Hzc.out (by decide) rfl o10 rfl (rc_blk (n:=1) (xs:=[.pointer (some ⟨m,0,none⟩)]) hb10 rfl (by simp [maxLen])) (by intro u hu;simp at hu;rw [hu];rfl) hle1 hle2 ?_
      intro v11 w11 X11 ho11 f11 hX11
      have ho12 : Xr.Own w11 1 v11 (mxs (ps ++ [⟨m,s.d,FF',mf s.s⟩])).length (mxs (ps ++ [⟨m,s.d,FF',mf s.s⟩])) X11:=by
       have e : mxs (ps ++ [⟨m,s.d,FF',mf s.s⟩]) = mxs ps ++ [.pointer (some ⟨m,0,none⟩)]:=by simp [mxs,pv]
       rw [e,List.length_append]
       exact ho11
      have E11:=hid ((E10.out.step f10).at 0 rfl f11 (fun b hb => .inl hb) (Res.On.own ho12) (fun b hb => by
       rcases hX11 with rfl | ⟨b',rfl,hb'⟩
       · exact .inl hb
       · obtain rfl : b = b':=by simpa [Res.own] using hb
         exact .inr hb'))
      have hv11 : v11.oneCell' = true:=by obtain ⟨_,_,rfl⟩:=ho11.isSlice;rfl
      have b11 : Blk w11 c6 [v]:=E11.out.held.blkAt 1 rfl
      clear b9 o9 c9 o10 b10 f10 f11 ho11 ho12 hb10 hX11
      simp only [aA,aB,Act.put,aC,aD,aE])
   | (refine wpList_put rfl _ _ _ rfl rfl v11 rfl hv11 b11 (by simp) (by kernel_rfl) ?_;intro w12 f12 b12 hs12;simp only [aA,aB,Act.put,aC,aD,aE]))
  have b13 : Blk w12 c6 [v11]:=b12
  have E12:=E11.out.at 1 rfl f12 (fun b hb => .inl hb) (Res.On.blk b13) (fun b hb => .inl hb)
  have E13 : Ev W (ofR (ofH c3 c4 c5 c6 (.func (.func 24) #[] #[]) v (mxs ps) X) l ss ps k) w12 (ofR (ofH c3 c4 c5 c6 (.func (.func 24) #[] #[]) v11 (mxs (ps ++ [⟨m,s.d,FF',mf s.s⟩])) X11) l ss (ps ++ [⟨m,s.d,FF',mf s.s⟩]) (k + 1)):=E12
  refine ⟨E13.fr.kept fun b hb => ⟨by omega,fun hf => HP3.out b hf ?_⟩,ps ++ [⟨m,s.d,FF',mf s.s⟩],v11,X11,?_,HP2.out.trans E13,fun b hb => ?_⟩
  · rcases hb with (rfl | rfl) | rfl | rfl <;> simp
  · rw [List.map_append,HP1.out,List.take_add_one,HK.out]
    simp
  · rcases E13.low b hb with h | h
    · exact HP3.out b h
    · simp
      omega
 case stop =>
  intro D W hD h
  exact h.elim
 case done =>
  intro D W hD hI hDf
  rw [hM] at hD
  subst hD
  obtain ⟨ps,v,X,hp1,hp2,hp3⟩:=hI
  have e : (n + 1) / 2 = ss.length:=by have:=Hn.out;omega
  have hofr : ofR (ofH c3 c4 c5 c6 (.func (.func 24) #[] #[]) v (mxs ps) X) l ss ps ss.length = ((ofH c3 c4 c5 c6 (.func (.func 24) #[] #[]) v (mxs ps) X ++ l) ++ vpsC ps):=by
   unfold ofR
   rw [List.drop_length]
   simp [vssC,List.append_assoc]
  rw [e,List.take_length] at hp1
  rw [e,hofr] at hp2 hp3
  have HDf:=hid hDf
  have HP1:=hid hp1
  have HP2:=hid hp2
  have HP3:=hid hp3
  have b0 : Blk W c6 [v]:=hp2.held.blkAt 1 rfl
  have c0 : W.cell? ⟨c6,0,none⟩ = some v:=b0.cell 0
  have hpl : ps.length = ss.length:=by simpa using congrArg List.length hp1
  have hh0 : Held W ((ofH c3 c4 c5 c6 (.func (.func 24) #[] #[]) v (mxs ps) X ++ l) ++ vpsC ps):=hp2.held
  have o0 : Xr.Own W 1 v ps.length (ps.map fun p => pv (some p.m)) X:=by
   have:=hp2.held.ownAt 0 rfl
   simpa [mxs] using this
  obtain ⟨B0,rfl⟩ : ∃ B0,X = some B0:=by
   rcases o0.shape with ⟨h,_⟩ | ⟨b,_,h,_⟩
   · have:=Hn.out;exact absurd h (by omega)
   · exact ⟨b,h⟩
  have hall : ∀ p ∈ ps,SysOk p.M.s ∧ p.M.s.len false = L:=fun p hp => by
   have : (p.d,p.M) ∈ ps.map (fun p : VP => (p.d,p.M)):=List.mem_map.2 ⟨p,hp,rfl⟩
   rw [hp1] at this
   obtain ⟨s,hs,e⟩:=List.mem_map.1 this
   have:=hok s hs
   rw [(Prod.mk.inj e).2] at this
   exact this
  have HMk:=hid (vmake_ok hh0 o0 (by have:=Hn.out;omega) (by have:=Hn.out;omega) (fun p hp => (hall p hp).1) L (fun p hp => (hall p hp).2) h2)
  have HwM:=hid (show w.heap.size ≤ D by omega)
  clear hp1 hp2 hp3 hDf hseq HI HC HT hh0 o0 hall hofr
  go_wp2_with (first
   | (go_at_call 51
      refine HMk.out.mono ?_
      rintro e w8 ⟨vb,rb,v8,rfl,E8⟩
      have b4 : Blk w8 c4 [.pointer none]:=E8.held.blkAt 5 rfl)
   | (refine wpList_put rfl _ _ _ rfl rfl (.pointer (some ⟨vb,0,none⟩)) rfl rfl b4 (by simp) (by kernel_rfl) ?_
      intro w9 f9 b9 hs9
      have b9' : Blk w9 c4 [.pointer (some ⟨vb,0,none⟩)]:=b9
      have E9:=E8.at 5 rfl f9 (fun b hb => .inl hb) (Res.On.blk b9') (fun b hb => .inl hb)
      have b5 : Blk w9 c5 [.int .i64 0]:=E9.held.blkAt 4 rfl
      simp only [aA,aB,Act.put,aC,aD,aE])
   | (refine wpList_put rfl _ _ _ rfl rfl (.int .i64 0) rfl rfl b5 (by simp) (by kernel_rfl) ?_
      intro w10 f10 b10 hs10
      have b10' : Blk w10 c5 [.int .i64 0]:=b10
      have E10:=E9.at 4 rfl f10 (fun b hb => .inl hb) (Res.On.blk b10') (fun b hb => .inl hb)
      simp only [aA,aB,Act.put,aC,aD,aE]))
  have hDl : D < W.heap.size:=(Array.getElem?_eq_some_iff.1 HDf.out).1
  have hDn : D ∉ feetOf ((ofH c3 c4 c5 c6 (.func (.func 24) #[] #[]) v (mxs ps) (some B0) ++ l) ++ vpsC ps):=fun h => HP3.out D h (by simp)
  have hD8 : w10.heap[D]? = some (.deferred (some [])):=(E10.fr.block D hDl hDn).trans HDf.out
  have fD:=fr_putObj w10 D (.deferred none) (pln_def hD8)
  have E11:=Ev.skip (HP2.out.trans E10) fD (fun b hb => by
   obtain rfl : b = D:=by simpa using hb
   exact ⟨HwM.out,fun h => by
    rcases E10.low b h with h | h
    · exact hDn h
    · omega⟩)
  have b4':=E11.held.blkAt 5 rfl
  have b5':=E11.held.blkAt 4 rfl
  refine ⟨by simp,.inl ⟨_,_,rfl,run_takeDeferred hD8,?_⟩⟩
  refine ⟨_,results_cell_2 rfl _ _ rfl rfl (b4'.cell 0) (b5'.cell 0) _ Tryz.underlying27 rfl _ Tryz.underlying28 rfl,⟨vb,rb,v8,ps,rfl,HP1.out,?_⟩⟩
  exact Ev.less (volR vb rb v8 (ps.map VP.m) ((L : Int) - 1) 0) _ (Ev.less (volR vb rb v8 (ps.map VP.m) ((L : Int) - 1) 0) _ (Ev.less (volR vb rb v8 (ps.map VP.m) ((L : Int) - 1) 0) _ (Ev.less (volR vb rb v8 (ps.map VP.m) ((L : Int) - 1) 0) _ (Ev.less (volR vb rb v8 (ps.map VP.m) ((L : Int) - 1) 0) _ E11))))
end Go.Proofs.YtgafefecookgaaaGreat
namespace Go.Proofs.YtgafefecookgaaaGreat
open Go Go.Xr Go.RowKit
structure VX where
 vb : Nat
 rb : Nat
 v : Value
 ms : List Nat
 ds : List (Bool → Nat)
 e : Nat
def VA (w0 : World) (rs : List Res) (w : World) (l : List Res) (X : VX) (Ms : List MS) (wr : Int) : Prop :=
 ∃ ps : List VP,ps.map VP.m = X.ms ∧ ps.map VP.d = X.ds ∧ ps.map VP.M = Ms ∧ Ev w0 rs w (l ++ (volR X.vb X.rb X.v X.ms (X.e : Int) wr ++ vpsC ps))
theorem set_same {α : Type} (l : List α) (k : Nat) (x : α) (h : l[k]? = some x) : l.set k x = l:=by
 refine List.ext_getElem? fun j => ?_
 by_cases e : j = k
 · subst e
   rw [List.getElem?_set_self (List.getElem?_eq_some_iff.1 h).1,h]
 · rw [List.getElem?_set_ne (fun x => e x.symm)]
section
variable {w w' w0 : World} {l rs : List Res} {X : VX} {Ms : List MS} {wr : Int} {k : Nat} {M : MS} {r r' : Res} {S : List Nat}
theorem VA.step (h : VA w0 rs w l X Ms wr) (f : Fr [] w w') : VA w0 rs w' l X Ms wr:=by
 obtain ⟨ps,h1,h2,h3,ev⟩:=h
 exact ⟨ps,h1,h2,h3,ev.step f⟩
theorem VA.fr (h : VA w0 [] w l X Ms wr) : Fr [] w0 w:=by
 obtain ⟨ps,h1,h2,h3,ev⟩:=h
 exact ev.nil
theorem VA.len (h : VA w0 rs w l X Ms wr) : Ms.length = X.ms.length ∧ X.ds.length = X.ms.length:=by
 obtain ⟨ps,h1,h2,h3,ev⟩:=h
 rw [← h1,← h2,← h3]
 simp
theorem VA.blk (h : VA w0 rs w l X Ms wr) : Blk w X.vb [X.v,.int .i64 (X.e : Int),.int .i64 wr]:=by
 obtain ⟨ps,h1,h2,h3,ev⟩:=h
 exact ev.held.blkAt l.length (by simp [volR])
theorem VA.own (h : VA w0 rs w l X Ms wr) : Xr.Own w 1 X.v X.ms.length (X.ms.map fun m => pv (some m)) (some X.rb):=by
 obtain ⟨ps,h1,h2,h3,ev⟩:=h
 exact ev.held.ownAt (l.length + 1) (by simp [volR])
theorem VA.mir (h : VA w0 rs w l X Ms wr) (hk : Ms[k]? = some M) : ∃ (m : Nat) (d : Bool → Nat) (FF : Bool → List Nat) (l' : List Res),X.ms[k]? = some m ∧ X.ds[k]? = some d ∧ Held w (l' ++ mirC [] m d FF M) ∧
 ∀ (w' : World) (FF' : Bool → List Nat) (M' : MS),Ev w (l' ++ mirC [] m d FF M) w' (l' ++ mirC [] m d FF' M') → VA w0 rs w' l X (Ms.set k M') wr:=by
 obtain ⟨ps,h1,h2,h3,ev⟩:=h
 obtain ⟨p,hp,rfl⟩ : ∃ p,ps[k]? = some p ∧ p.M = M:=by
  rw [← h3,List.getElem?_map] at hk
  exact Option.map_eq_some_iff.1 hk
 have ev1 : Ev w0 rs w ((l ++ volR X.vb X.rb X.v X.ms (X.e : Int) wr) ++ vpsC ps):=by rw [List.append_assoc];exact ev
 have em : X.ms[k]? = some p.m:=by rw [← h1,List.getElem?_map,hp];rfl
 have ed : X.ds[k]? = some p.d:=by rw [← h2,List.getElem?_map,hp];rfl
 refine ⟨p.m,p.d,p.FF,(l ++ volR X.vb X.rb X.v X.ms (X.e : Int) wr) ++ vpsC (ps.eraseIdx k),em,ed,vps_held ev1.held hp,fun w' FF' M' e => ⟨ps.set k ⟨p.m,p.d,FF',M'⟩,?_,?_,?_,?_⟩⟩
 · rw [List.map_set,h1]
   exact set_same _ _ _ em
 · rw [List.map_set,h2]
   exact set_same _ _ _ ed
 · rw [List.map_set,h3]
 · have:=ev1.trans (vps_ev ev1.held hp e)
   rw [List.append_assoc] at this
   exact this
theorem VA.put (h : VA w0 rs w l X Ms wr) {wr' : Int} (f : Fr [X.vb] w w') (hb : Blk w' X.vb [X.v,.int .i64 (X.e : Int),.int .i64 wr']) : VA w0 rs w' l X Ms wr':=by
 obtain ⟨ps,h1,h2,h3,ev⟩:=h
 refine ⟨ps,h1,h2,h3,?_⟩
 have:=ev.at l.length (r:=Res.blk X.vb [X.v,.int .i64 (X.e : Int),.int .i64 wr]) (by simp [volR]) f (fun b hb => .inl hb) (Res.On.blk hb) (fun b hb => .inl hb)
 rw [List.set_append_right _ _ (Nat.le_refl _),Nat.sub_self] at this
 exact this
theorem VA.ctx (h : VA w0 rs w l X Ms wr) (i : Nat) (hi : l[i]? = some r) (f : Fr S w w') (hS : ∀ b ∈ S,b ∈ r.F ∨ w.heap.size ≤ b) (hr : r'.On w') (hn : ∀ b ∈ r'.F,b ∈ r.F ∨ w.heap.size ≤ b) : VA w0 rs w' (l.set i r') X Ms wr:=by
 obtain ⟨ps,h1,h2,h3,ev⟩:=h
 have hlt:=(List.getElem?_eq_some_iff.1 hi).1
 refine ⟨ps,h1,h2,h3,?_⟩
 have:=ev.at i (by rw [List.getElem?_append_left hlt];exact hi) f hS hr hn
 rw [List.set_append_left _ _ hlt] at this
 exact this
theorem VA.new (h : VA w0 rs w l X Ms wr) (f : Fr [] w w') (hr : r.On w') (hn : ∀ b ∈ r.F,w.heap.size ≤ b) : VA w0 rs w' (r :: l) X Ms wr:=by
 obtain ⟨ps,h1,h2,h3,ev⟩:=h
 exact ⟨ps,h1,h2,h3,ev.new f hr hn⟩
theorem VA.less (h : VA w0 rs w (r :: l) X Ms wr) : VA w0 rs w l X Ms wr:=by
 obtain ⟨ps,h1,h2,h3,ev⟩:=h
 exact ⟨ps,h1,h2,h3,Ev.less [] _ ev⟩
theorem VA.held (h : VA w0 rs w l X Ms wr) : Held w l:=by
 obtain ⟨ps,h1,h2,h3,ev⟩:=h
 exact Held.part [] (volR X.vb X.rb X.v X.ms (X.e : Int) wr ++ vpsC ps) (by simpa using ev.held)
theorem VA.drop (h : VA w0 rs w l X Ms wr) : ∃ ss : List VS,ss.map VS.d = X.ds ∧ ss.map VS.s = Ms.map MS.s ∧ Ev w0 rs w (l ++ vssC ss):=by
 obtain ⟨ps,h1,h2,h3,ev⟩:=h
 refine ⟨ps.map VP.vs,?_,?_,vps_drop ps l (Ev.less l _ (Ev.less l _ ev))⟩
 · rw [← h2,List.map_map]
   rfl
 · rw [← h3,List.map_map,List.map_map]
   rfl
theorem VA.made {w1 : World} {ss : List VS} {ps : List VP} {vb rb : Nat} {v : Value} {e : Nat} (ev : Ev w0 rs w (l ++ vssC ss)) (ev1 : Ev w (l ++ vssC ss) w1 (volR vb rb v (ps.map VP.m) (e : Int) 0 ++ (l ++ vpsC ps))) : VA w0 rs w1 l ⟨vb,rb,v,ps.map VP.m,ps.map VP.d,e⟩ (ps.map VP.M) 0:=by
 refine ⟨ps,rfl,rfl,rfl,Ev.perm (ev.trans ev1) ?_⟩
 rw [← List.append_assoc,← List.append_assoc]
 exact List.perm_append_comm.append_right _
structure VOk (X : VX) : Prop where
 h1 : 1 ≤ X.ms.length
 h8 : X.ms.length ≤ 8
 he : X.e ≤ 16384
theorem VA.shape (h : VA w0 rs w l X Ms wr) (o : VOk X) : ∃ c,X.v = .slice (some ⟨X.rb,0,none⟩) X.ms.length c ∧ X.ms.length ≤ c ∧ c ≤ maxLen ∧ Blk w X.vb (volL (some ⟨X.rb,0,none⟩) X.ms.length c X.e wr) ∧ ∀ (k m : Nat),X.ms[k]? = some m → w.cell? ⟨X.rb,k,none⟩ = some (.pointer (some ⟨m,0,none⟩)):=by
 have hb:=h.blk
 have ho:=h.own
 rcases ho.shape with ⟨h0,_⟩ | ⟨b,c,hb1,hv,h2,h3⟩
 · have:=o.h1;omega
 · obtain rfl : X.rb = b:=by simpa using hb1
   refine ⟨c,hv,h2,h3,by rw [hv] at hb;exact hb,fun k m hk => ?_⟩
   have hlt : k < X.ms.length:=(List.getElem?_eq_some_iff.1 hk).1
   obtain ⟨b,off,c2,hB,hv2,_,_,_,h4⟩:=(ho.rd.rc).some (by omega)
   rw [hv] at hv2
   obtain ⟨⟨rfl,rfl⟩,_⟩ : (X.rb = b ∧ 0 = off) ∧ X.ms.length = X.ms.length ∧ c = c2:=by simpa using hv2
   have:=h4 k (by simpa using hlt)
   rw [Nat.zero_add] at this
   rw [this,List.getElem?_map,hk]
   rfl
end
end Go.Proofs.YtgafefecookgaaaGreat
