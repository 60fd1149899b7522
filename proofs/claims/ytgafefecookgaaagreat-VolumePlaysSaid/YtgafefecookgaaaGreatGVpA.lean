/- Several texts put together: VpA, VpB, VpC, VpD, VpE. What each shows stands ahead of it. -/
import Derived.Test.YtgafefecookgaaaGreatGVolA
import Derived.Test.YtgafefecookgaaaGreatGPmB
import Derived.Test.YtgafefecookgaaaGreatGVolB
open Go.World renaming size_alloc → aA,size_drew → aB
open List renaming setIfInBounds_toArray → aC,set_cons_succ → aD,set_cons_zero → aE,toList_toArray → aF,map_cons → aG,map_nil → aI,getD_cons_succ → aJ,getD_cons_zero → aK
set_option linter.unusedVariables false
set_option linter.unusedSimpArgs false
set_option maxRecDepth 20000
set_option maxHeartbeats 16000000
namespace Go.Proofs.YtgafefecookgaaaGreat
open Go Go.Xr Go.RowKit
structure XP where
 m : Nat
 db : Nat
 ib : Nat
 x : Bool → Nat
 GG : Bool → List Nat
 M : MS
structure XS where
 x : Bool → Nat
 GG : Bool → List Nat
 s : Sys
def xpC (p : XP) : List Res:=mirX [] p.m p.db p.ib p.x p.GG p.M
def xsC (p : XS) : List Res:=sysX [] p.s p.x p.GG
def xpsC (ps : List XP) : List Res:=ps.flatMap xpC
def xssC (ss : List XS) : List Res:=ss.flatMap xsC
def XP.xs (p : XP) : XS:=⟨p.x,p.GG,p.M.s⟩
section
variable {w w' w0 : World} {l rs : List Res} {ps : List XP} {k : Nat} {p p' : XP}
theorem yps_perm (l : List Res) (hk : ps[k]? = some p) : (l ++ xpsC ps).Perm ((l ++ xpsC (ps.eraseIdx k)) ++ xpC p):=by
 rw [List.append_assoc]
 exact (flat_erase xpC ps k p hk).append_left l
theorem yps_held (h : Held w (l ++ xpsC ps)) (hk : ps[k]? = some p) : Held w ((l ++ xpsC (ps.eraseIdx k)) ++ mirX [] p.m p.db p.ib p.x p.GG p.M):=h.perm (yps_perm l hk)
theorem yps_ev (h : Held w (l ++ xpsC ps)) (hk : ps[k]? = some p) {FF' : Bool → List Nat} {M' : MS} (ev : Ev w ((l ++ xpsC (ps.eraseIdx k)) ++ mirX [] p.m p.db p.ib p.x p.GG p.M) w' ((l ++ xpsC (ps.eraseIdx k)) ++ mirX [] p.m p.db p.ib p.x FF' M')) :
 Ev w (l ++ xpsC ps) w' (l ++ xpsC (ps.set k ⟨p.m,p.db,p.ib,p.x,FF',M'⟩)):=by
 have hlt : k < ps.length:=(List.getElem?_eq_some_iff.1 hk).1
 have e1:=(Ev.perm (Ev.refl h) (yps_perm l hk)).trans ev
 refine Ev.perm e1 ?_
 rw [List.append_assoc]
 exact ((flat_set xpC ps k ⟨p.m,p.db,p.ib,p.x,FF',M'⟩ hlt).append_left l).symm
theorem yps_drop : ∀ (ps : List XP) (l : List Res),Ev w0 rs w (l ++ xpsC ps) → Ev w0 rs w (l ++ xssC (ps.map XP.xs))
 | [],l,e => e
 | p :: ps,l,e => by
   have e1 : Ev w0 rs w (l ++ Res.blk p.m (gmL p.db p.ib p.M.g) :: Res.blk p.db (dbL p.x) :: isR p.ib p.M :: (sysX [] p.M.s p.x p.GG ++ xpsC ps)):=e
   have e2 : Ev w0 rs w ((l ++ sysX [] p.M.s p.x p.GG) ++ xpsC ps):=by
    rw [List.append_assoc]
    exact Ev.less l _ (Ev.less l _ (Ev.less l _ e1))
   have e3:=yps_drop ps (l ++ sysX [] p.M.s p.x p.GG) e2
   rw [List.append_assoc] at e3
   exact e3
end
def yolR (yb rb : Nat) (v : Value) (ys : List Nat) (wr : Int) : List Res:=[Res.blk yb [v,.int .i64 wr],Res.own 1 v ys.length (ys.map fun m => pv (some m)) (some rb)]
structure YX where
 yb : Nat
 rb : Nat
 v : Value
 ys : List Nat
 xs : List (Bool → Nat)
def YA (w0 : World) (rs : List Res) (w : World) (l : List Res) (X : YX) (Ms : List MS) (wr : Int) : Prop :=
 ∃ ps : List XP,ps.map XP.m = X.ys ∧ ps.map XP.x = X.xs ∧ ps.map XP.M = Ms ∧ Ev w0 rs w (l ++ (yolR X.yb X.rb X.v X.ys wr ++ xpsC ps))
section
variable {w w' w0 : World} {l rs : List Res} {X : YX} {Ms : List MS} {wr : Int} {k : Nat} {M : MS} {r r' : Res} {S : List Nat}
theorem YA.step (h : YA w0 rs w l X Ms wr) (f : Fr [] w w') : YA w0 rs w' l X Ms wr:=by
 obtain ⟨ps,h1,h2,h3,ev⟩:=h
 exact ⟨ps,h1,h2,h3,ev.step f⟩
theorem YA.fr (h : YA w0 [] w l X Ms wr) : Fr [] w0 w:=by
 obtain ⟨ps,h1,h2,h3,ev⟩:=h
 exact ev.nil
theorem YA.len (h : YA w0 rs w l X Ms wr) : Ms.length = X.ys.length ∧ X.xs.length = X.ys.length:=by
 obtain ⟨ps,h1,h2,h3,ev⟩:=h
 rw [← h1,← h2,← h3]
 simp
theorem YA.blk (h : YA w0 rs w l X Ms wr) : Blk w X.yb [X.v,.int .i64 wr]:=by
 obtain ⟨ps,h1,h2,h3,ev⟩:=h
 exact ev.held.blkAt l.length (by simp [yolR])
theorem YA.own (h : YA w0 rs w l X Ms wr) : Xr.Own w 1 X.v X.ys.length (X.ys.map fun m => pv (some m)) (some X.rb):=by
 obtain ⟨ps,h1,h2,h3,ev⟩:=h
 exact ev.held.ownAt (l.length + 1) (by simp [yolR])
theorem YA.mir (h : YA w0 rs w l X Ms wr) (hk : Ms[k]? = some M) : ∃ (m db ib : Nat) (d : Bool → Nat) (FF : Bool → List Nat) (l' : List Res),X.ys[k]? = some m ∧ X.xs[k]? = some d ∧ Held w (l' ++ mirX [] m db ib d FF M) ∧
 ∀ (w' : World) (FF' : Bool → List Nat) (M' : MS),Ev w (l' ++ mirX [] m db ib d FF M) w' (l' ++ mirX [] m db ib d FF' M') → YA w0 rs w' l X (Ms.set k M') wr:=by
 obtain ⟨ps,h1,h2,h3,ev⟩:=h
 obtain ⟨p,hp,rfl⟩ : ∃ p,ps[k]? = some p ∧ p.M = M:=by
  rw [← h3,List.getElem?_map] at hk
  exact Option.map_eq_some_iff.1 hk
 have ev1 : Ev w0 rs w ((l ++ yolR X.yb X.rb X.v X.ys wr) ++ xpsC ps):=by rw [List.append_assoc];exact ev
 have em : X.ys[k]? = some p.m:=by rw [← h1,List.getElem?_map,hp];rfl
 have ed : X.xs[k]? = some p.x:=by rw [← h2,List.getElem?_map,hp];rfl
 refine ⟨p.m,p.db,p.ib,p.x,p.GG,(l ++ yolR X.yb X.rb X.v X.ys wr) ++ xpsC (ps.eraseIdx k),em,ed,yps_held ev1.held hp,fun w' FF' M' e => ⟨ps.set k ⟨p.m,p.db,p.ib,p.x,FF',M'⟩,?_,?_,?_,?_⟩⟩
 · rw [List.map_set,h1]
   exact set_same _ _ _ em
 · rw [List.map_set,h2]
   exact set_same _ _ _ ed
 · rw [List.map_set,h3]
 · have:=ev1.trans (yps_ev ev1.held hp e)
   rw [List.append_assoc] at this
   exact this
theorem YA.put (h : YA w0 rs w l X Ms wr) {wr' : Int} (f : Fr [X.yb] w w') (hb : Blk w' X.yb [X.v,.int .i64 wr']) : YA w0 rs w' l X Ms wr':=by
 obtain ⟨ps,h1,h2,h3,ev⟩:=h
 refine ⟨ps,h1,h2,h3,?_⟩
 have:=ev.at l.length (r:=Res.blk X.yb [X.v,.int .i64 wr]) (by simp [yolR]) f (fun b hb => .inl hb) (Res.On.blk hb) (fun b hb => .inl hb)
 rw [List.set_append_right _ _ (Nat.le_refl _),Nat.sub_self] at this
 exact this
theorem YA.ctx (h : YA w0 rs w l X Ms wr) (i : Nat) (hi : l[i]? = some r) (f : Fr S w w') (hS : ∀ b ∈ S,b ∈ r.F ∨ w.heap.size ≤ b) (hr : r'.On w') (hn : ∀ b ∈ r'.F,b ∈ r.F ∨ w.heap.size ≤ b) : YA w0 rs w' (l.set i r') X Ms wr:=by
 obtain ⟨ps,h1,h2,h3,ev⟩:=h
 have hlt:=(List.getElem?_eq_some_iff.1 hi).1
 refine ⟨ps,h1,h2,h3,?_⟩
 have:=ev.at i (by rw [List.getElem?_append_left hlt];exact hi) f hS hr hn
 rw [List.set_append_left _ _ hlt] at this
 exact this
theorem YA.new (h : YA w0 rs w l X Ms wr) (f : Fr [] w w') (hr : r.On w') (hn : ∀ b ∈ r.F,w.heap.size ≤ b) : YA w0 rs w' (r :: l) X Ms wr:=by
 obtain ⟨ps,h1,h2,h3,ev⟩:=h
 exact ⟨ps,h1,h2,h3,ev.new f hr hn⟩
theorem YA.less (h : YA w0 rs w (r :: l) X Ms wr) : YA w0 rs w l X Ms wr:=by
 obtain ⟨ps,h1,h2,h3,ev⟩:=h
 exact ⟨ps,h1,h2,h3,Ev.less [] _ ev⟩
theorem YA.held (h : YA w0 rs w l X Ms wr) : Held w l:=by
 obtain ⟨ps,h1,h2,h3,ev⟩:=h
 exact Held.part [] (yolR X.yb X.rb X.v X.ys wr ++ xpsC ps) (by simpa using ev.held)
theorem YA.drop (h : YA w0 rs w l X Ms wr) : ∃ ss : List XS,ss.map XS.x = X.xs ∧ ss.map XS.s = Ms.map MS.s ∧ Ev w0 rs w (l ++ xssC ss):=by
 obtain ⟨ps,h1,h2,h3,ev⟩:=h
 refine ⟨ps.map XP.xs,?_,?_,yps_drop ps l (Ev.less l _ (Ev.less l _ ev))⟩
 · rw [← h2,List.map_map]
   rfl
 · rw [← h3,List.map_map,List.map_map]
   rfl
theorem YA.made {w1 : World} {ss : List XS} {ps : List XP} {vb rb : Nat} {v : Value} (ev : Ev w0 rs w (l ++ xssC ss)) (ev1 : Ev w (l ++ xssC ss) w1 (yolR vb rb v (ps.map XP.m) 0 ++ (l ++ xpsC ps))) : YA w0 rs w1 l ⟨vb,rb,v,ps.map XP.m,ps.map XP.x⟩ (ps.map XP.M) 0:=by
 refine ⟨ps,rfl,rfl,rfl,Ev.perm (ev.trans ev1) ?_⟩
 rw [← List.append_assoc,← List.append_assoc]
 exact List.perm_append_comm.append_right _
structure YOk (X : YX) : Prop where
 h1 : 1 ≤ X.ys.length
 h8 : X.ys.length ≤ 8
theorem YA.shape (h : YA w0 rs w l X Ms wr) (o : YOk X) : ∃ c,X.v = .slice (some ⟨X.rb,0,none⟩) X.ys.length c ∧ X.ys.length ≤ c ∧ c ≤ maxLen ∧ Blk w X.yb [.slice (some ⟨X.rb,0,none⟩) X.ys.length c,.int .i64 wr] ∧ ∀ (k m : Nat),X.ys[k]? = some m → w.cell? ⟨X.rb,k,none⟩ = some (.pointer (some ⟨m,0,none⟩)):=by
 have hb:=h.blk
 have ho:=h.own
 rcases ho.shape with ⟨h0,_⟩ | ⟨b,c,hb1,hv,h2,h3⟩
 · have:=o.h1;omega
 · obtain rfl : X.rb = b:=by simpa using hb1
   refine ⟨c,hv,h2,h3,by rw [hv] at hb;exact hb,fun k m hk => ?_⟩
   have hlt : k < X.ys.length:=(List.getElem?_eq_some_iff.1 hk).1
   obtain ⟨b,off,c2,hB,hv2,_,_,_,h4⟩:=(ho.rd.rc).some (by omega)
   rw [hv] at hv2
   obtain ⟨⟨rfl,rfl⟩,_⟩ : (X.rb = b ∧ 0 = off) ∧ X.ys.length = X.ys.length ∧ c = c2:=by simpa using hv2
   have:=h4 k (by simpa using hlt)
   rw [Nat.zero_add] at this
   rw [this,List.getElem?_map,hk]
   rfl
end
def CP (D0 : List (Bool → Nat)) (X : Option VX) (Ms : List MS) (wr : Int) (C : List Res) : Prop :=
 match X with
 | none => ∃ cs : List VS,cs.map VS.d = D0 ∧ cs.map VS.s = Ms.map MS.s ∧ C = vssC cs
 | some X => X.ds = D0 ∧ ∃ ps : List VP,ps.map VP.m = X.ms ∧ ps.map VP.d = X.ds ∧ ps.map VP.M = Ms ∧ C = volR X.vb X.rb X.v X.ms (X.e : Int) wr ++ vpsC ps
def DP (E0 : List (Bool → Nat)) (Y : Option YX) (Ms : List MS) (wr : Int) (C : List Res) : Prop :=
 match Y with
 | none => ∃ cs : List XS,cs.map XS.x = E0 ∧ cs.map XS.s = Ms.map MS.s ∧ C = xssC cs
 | some X => X.xs = E0 ∧ ∃ ps : List XP,ps.map XP.m = X.ys ∧ ps.map XP.x = X.xs ∧ ps.map XP.M = Ms ∧ C = yolR X.yb X.rb X.v X.ys wr ++ xpsC ps
def JJ (w0 w : World) (lb : List Res) (D0 E0 : List (Bool → Nat)) (X : Option VX) (Y : Option YX) (Ms : List MS) (wr : Int) (Ns : List MS) (wt : Int) : Prop :=
 ∃ C D,CP D0 X Ms wr C ∧ DP E0 Y Ns wt D ∧ Ev w0 [] w (lb ++ C ++ D)
theorem map_get {α β : Type} {f : α → β} {l : List α} {m : List β} (h : l.map f = m) {k : Nat} {x : α} (hk : l[k]? = some x) : m[k]? = some (f x):=by
 rw [← h,List.getElem?_map,hk]
 rfl
theorem get_map {α β : Type} {f : α → β} {l : List α} {m : List β} (h : l.map f = m) {k : Nat} {y : β} (hk : m[k]? = some y) : ∃ x,l[k]? = some x ∧ f x = y:=by
 rw [← h,List.getElem?_map] at hk
 exact Option.map_eq_some_iff.1 hk
theorem CP.q {D0 : List (Bool → Nat)} {X : Option VX} {Ms : List MS} {wr : Int} {C : List Res} {k : Nat} {M : MS} (h : CP D0 X Ms wr C) (hk : Ms[k]? = some M) :
 ∃ (d : Bool → Nat) (FF : Bool → List Nat) (C1 : List Res),D0[k]? = some d ∧ C.Perm (C1 ++ sysC [] M.s d FF) ∧ ∀ (s' : Sys) (FF' : Bool → List Nat),∃ C',CP D0 X (Ms.set k { M with s:=s' }) wr C' ∧ C'.Perm (C1 ++ sysC [] s' d FF'):=by
 cases X with
 | none =>
   obtain ⟨cs,h1,h2,rfl⟩:=h
   have hk2 : (Ms.map MS.s)[k]? = some M.s:=map_get rfl hk
   obtain ⟨c,hc,e⟩:=get_map h2 hk2
   have hlt : k < cs.length:=(List.getElem?_eq_some_iff.1 hc).1
   refine ⟨c.d,c.FF,vssC (cs.eraseIdx k),map_get h1 hc,?_,fun s' FF' => ⟨vssC (cs.set k ⟨c.d,FF',s'⟩),⟨cs.set k ⟨c.d,FF',s'⟩,?_,?_,rfl⟩,?_⟩⟩
   · have:=flat_erase vsC cs k c hc
     rw [← e]
     exact this
   · rw [List.map_set,h1]
     exact set_same _ k c.d (map_get h1 hc)
   · rw [List.map_set,List.map_set,h2]
   · exact flat_set vsC cs k ⟨c.d,FF',s'⟩ hlt
 | some X =>
   obtain ⟨hd,ps,h1,h2,h3,rfl⟩:=h
   obtain ⟨p,hp,rfl⟩:=get_map h3 hk
   have hlt : k < ps.length:=(List.getElem?_eq_some_iff.1 hp).1
   have em:=map_get h1 hp
   have ed:=map_get h2 hp
   refine ⟨p.d,p.FF,volR X.vb X.rb X.v X.ms (X.e : Int) wr ++ (vpsC (ps.eraseIdx k) ++ [mirR p.m p.d p.M]),by rw [← hd];exact ed,?_,fun s' FF' => ⟨_,⟨hd,ps.set k ⟨p.m,p.d,FF',{ p.M with s:=s' }⟩,?_,?_,?_,rfl⟩,?_⟩⟩
   · have:=flat_erase vpC ps k p hp
     rw [List.append_assoc,List.append_assoc]
     exact this.append_left _
   · rw [List.map_set,h1]
     exact set_same _ _ _ em
   · rw [List.map_set,h2]
     exact set_same _ _ _ ed
   · rw [List.map_set,h3]
   · have:=flat_set vpC ps k ⟨p.m,p.d,FF',{ p.M with s:=s' }⟩ hlt
     rw [List.append_assoc,List.append_assoc]
     exact this.append_left _
theorem DP.q {D0 : List (Bool → Nat)} {X : Option YX} {Ms : List MS} {wr : Int} {C : List Res} {k : Nat} {M : MS} (h : DP D0 X Ms wr C) (hk : Ms[k]? = some M) :
 ∃ (d : Bool → Nat) (FF : Bool → List Nat) (C1 : List Res),D0[k]? = some d ∧ C.Perm (C1 ++ sysX [] M.s d FF) ∧ ∀ (s' : Sys) (FF' : Bool → List Nat),∃ C',DP D0 X (Ms.set k { M with s:=s' }) wr C' ∧ C'.Perm (C1 ++ sysX [] s' d FF'):=by
 cases X with
 | none =>
   obtain ⟨cs,h1,h2,rfl⟩:=h
   have hk2 : (Ms.map MS.s)[k]? = some M.s:=map_get rfl hk
   obtain ⟨c,hc,e⟩:=get_map h2 hk2
   have hlt : k < cs.length:=(List.getElem?_eq_some_iff.1 hc).1
   refine ⟨c.x,c.GG,xssC (cs.eraseIdx k),map_get h1 hc,?_,fun s' FF' => ⟨xssC (cs.set k ⟨c.x,FF',s'⟩),⟨cs.set k ⟨c.x,FF',s'⟩,?_,?_,rfl⟩,?_⟩⟩
   · have:=flat_erase xsC cs k c hc
     rw [← e]
     exact this
   · rw [List.map_set,h1]
     exact set_same _ k c.x (map_get h1 hc)
   · rw [List.map_set,List.map_set,h2]
   · exact flat_set xsC cs k ⟨c.x,FF',s'⟩ hlt
 | some X =>
   obtain ⟨hd,ps,h1,h2,h3,rfl⟩:=h
   obtain ⟨p,hp,rfl⟩:=get_map h3 hk
   have hlt : k < ps.length:=(List.getElem?_eq_some_iff.1 hp).1
   have em:=map_get h1 hp
   have ed:=map_get h2 hp
   refine ⟨p.x,p.GG,yolR X.yb X.rb X.v X.ys wr ++ (xpsC (ps.eraseIdx k) ++ [Res.blk p.m (gmL p.db p.ib p.M.g),Res.blk p.db (dbL p.x),isR p.ib p.M]),by rw [← hd];exact ed,?_,fun s' FF' => ⟨_,⟨hd,ps.set k ⟨p.m,p.db,p.ib,p.x,FF',{ p.M with s:=s' }⟩,?_,?_,?_,rfl⟩,?_⟩⟩
   · have:=flat_erase xpC ps k p hp
     rw [List.append_assoc,List.append_assoc]
     exact this.append_left _
   · rw [List.map_set,h1]
     exact set_same _ _ _ em
   · rw [List.map_set,h2]
     exact set_same _ _ _ ed
   · rw [List.map_set,h3]
   · have:=flat_set xpC ps k ⟨p.m,p.db,p.ib,p.x,FF',{ p.M with s:=s' }⟩ hlt
     rw [List.append_assoc,List.append_assoc]
     exact this.append_left _
section
variable {w w' w0 : World} {lb : List Res} {D0 E0 : List (Bool → Nat)} {X : Option VX} {Y : Option YX} {Ms Ns : List MS} {wr wt : Int} {k : Nat} {M : MS} {r r' : Res} {S : List Nat}
theorem JJ.step (h : JJ w0 w lb D0 E0 X Y Ms wr Ns wt) (f : Fr [] w w') : JJ w0 w' lb D0 E0 X Y Ms wr Ns wt:=by
 obtain ⟨C,D,h1,h2,ev⟩:=h
 exact ⟨C,D,h1,h2,ev.step f⟩
theorem JJ.fr (h : JJ w0 w lb D0 E0 X Y Ms wr Ns wt) : Fr [] w0 w:=by
 obtain ⟨C,D,h1,h2,ev⟩:=h
 exact ev.nil
theorem JJ.held (h : JJ w0 w lb D0 E0 X Y Ms wr Ns wt) : Held w lb:=by
 obtain ⟨C,D,h1,h2,ev⟩:=h
 exact Held.part [] (C ++ D) (by simpa using ev.held)
theorem JJ.new (h : JJ w0 w lb D0 E0 X Y Ms wr Ns wt) (f : Fr [] w w') (hr : r.On w') (hn : ∀ b ∈ r.F,w.heap.size ≤ b) : JJ w0 w' (r :: lb) D0 E0 X Y Ms wr Ns wt:=by
 obtain ⟨C,D,h1,h2,ev⟩:=h
 exact ⟨C,D,h1,h2,ev.new f hr hn⟩
theorem JJ.less (h : JJ w0 w (r :: lb) D0 E0 X Y Ms wr Ns wt) : JJ w0 w lb D0 E0 X Y Ms wr Ns wt:=by
 obtain ⟨C,D,h1,h2,ev⟩:=h
 exact ⟨C,D,h1,h2,Ev.less [] _ ev⟩
theorem JJ.ctx (h : JJ w0 w lb D0 E0 X Y Ms wr Ns wt) (i : Nat) (hi : lb[i]? = some r) (f : Fr S w w') (hS : ∀ b ∈ S,b ∈ r.F ∨ w.heap.size ≤ b) (hr : r'.On w') (hn : ∀ b ∈ r'.F,b ∈ r.F ∨ w.heap.size ≤ b) : JJ w0 w' (lb.set i r') D0 E0 X Y Ms wr Ns wt:=by
 obtain ⟨C,D,h1,h2,ev⟩:=h
 have hlt:=(List.getElem?_eq_some_iff.1 hi).1
 refine ⟨C,D,h1,h2,?_⟩
 have:=ev.at i (by rw [List.append_assoc,List.getElem?_append_left hlt];exact hi) f hS hr hn
 rw [List.append_assoc,List.set_append_left _ _ hlt,← List.append_assoc] at this
 exact this
theorem JJ.c {X : VX} (h : JJ w0 w lb D0 E0 (some X) Y Ms wr Ns wt) : ∃ C,VA w C w [] X Ms wr ∧ ∀ (w' : World) (Ms' : List MS) (wr' : Int),VA w C w' [] X Ms' wr' → JJ w0 w' lb D0 E0 (some X) Y Ms' wr' Ns wt:=by
 obtain ⟨C,D,⟨hd,ps,h1,h2,h3,rfl⟩,h4,ev⟩:=h
 refine ⟨_,⟨ps,h1,h2,h3,Ev.refl (thr_hc ev.held)⟩,fun w' Ms' wr' ⟨ps',g1,g2,g3,e⟩ => ⟨_,D,⟨hd,ps',g1,g2,g3,rfl⟩,h4,thr_c ev e⟩⟩
theorem JJ.d {Y : YX} (h : JJ w0 w lb D0 E0 X (some Y) Ms wr Ns wt) : ∃ C,YA w C w [] Y Ns wt ∧ ∀ (w' : World) (Ns' : List MS) (wt' : Int),YA w C w' [] Y Ns' wt' → JJ w0 w' lb D0 E0 X (some Y) Ms wr Ns' wt':=by
 obtain ⟨C,D,h4,⟨hd,ps,h1,h2,h3,rfl⟩,ev⟩:=h
 refine ⟨_,⟨ps,h1,h2,h3,Ev.refl (thr_hd ev.held)⟩,fun w' Ms' wr' ⟨ps',g1,g2,g3,e⟩ => ⟨C,_,h4,⟨hd,ps',g1,g2,g3,rfl⟩,thr_d ev e⟩⟩
theorem CP.drop {C D : List Res} (h : CP D0 X Ms wr C) (ev : Ev w0 [] w (lb ++ C ++ D)) : ∃ C',CP D0 none Ms 0 C' ∧ Ev w0 [] w (lb ++ C' ++ D):=by
 cases X with
 | none => exact ⟨C,h,ev⟩
 | some X =>
   obtain ⟨hd,ps,h1,h2,h3,rfl⟩:=h
   have e1:=Ev.perm ev (List.perm_append_comm (l₁:=lb ++ (volR X.vb X.rb X.v X.ms (X.e : Int) wr ++ vpsC ps)) (l₂:=D))
   have e2 : Ev w0 [] w ((D ++ lb) ++ (volR X.vb X.rb X.v X.ms (X.e : Int) wr ++ vpsC ps)):=by rw [List.append_assoc];exact e1
   have e3:=vps_drop ps (D ++ lb) (Ev.less (D ++ lb) _ (Ev.less (D ++ lb) _ e2))
   rw [List.append_assoc] at e3
   have e4:=Ev.perm e3 (List.perm_append_comm (l₁:=D) (l₂:=lb ++ vssC (ps.map VP.vs)))
   refine ⟨_,⟨ps.map VP.vs,?_,?_,rfl⟩,e4⟩
   · rw [← hd,← h2,List.map_map]
     rfl
   · rw [← h3,List.map_map,List.map_map]
     rfl
theorem DP.drop {C D : List Res} (h : DP E0 Y Ns wt D) (ev : Ev w0 [] w (lb ++ C ++ D)) : ∃ D',DP E0 none Ns 0 D' ∧ Ev w0 [] w (lb ++ C ++ D'):=by
 cases Y with
 | none => exact ⟨D,h,ev⟩
 | some X =>
   obtain ⟨hd,ps,h1,h2,h3,rfl⟩:=h
   have e3:=yps_drop ps (lb ++ C) (Ev.less (lb ++ C) _ (Ev.less (lb ++ C) _ ev))
   refine ⟨_,⟨ps.map XP.xs,?_,?_,rfl⟩,e3⟩
   · rw [← hd,← h2,List.map_map]
     rfl
   · rw [← h3,List.map_map,List.map_map]
     rfl
theorem JJ.drop (h : JJ w0 w lb D0 E0 X Y Ms wr Ns wt) : JJ w0 w lb D0 E0 none none Ms 0 Ns 0:=by
 obtain ⟨C,D,h1,h2,ev⟩:=h
 obtain ⟨C',g1,e1⟩:=CP.drop h1 ev
 obtain ⟨D',g2,e2⟩:=DP.drop h2 e1
 exact ⟨C',D',g1,g2,e2⟩
theorem JJ.cs (h : JJ w0 w lb D0 E0 none Y Ms wr Ns wt) : ∃ ss : List VS,ss.map VS.d = D0 ∧ ss.map VS.s = Ms.map MS.s ∧ Held w (lb ++ vssC ss) ∧
 (∀ w' (ss' : List VS),ss'.map VS.d = D0 → ss'.map VS.s = Ms.map MS.s → Ev w (lb ++ vssC ss) w' (lb ++ vssC ss') → JJ w0 w' lb D0 E0 none Y Ms wr Ns wt) ∧
 ∀ (w' : World) (X : VX) (Ms' : List MS) (wr' : Int),X.ds = D0 → VA w (lb ++ vssC ss) w' lb X Ms' wr' → JJ w0 w' lb D0 E0 (some X) Y Ms' wr' Ns wt:=by
 obtain ⟨C,D,⟨cs,h1,h2,rfl⟩,h4,ev⟩:=h
 refine ⟨cs,h1,h2,?_,fun w' ss' g1 g2 e => ⟨_,D,⟨ss',g1,g2,rfl⟩,h4,?_⟩,fun w' X Ms' wr' hd ⟨ps',g1,g2,g3,e⟩ => ⟨_,D,⟨hd,ps',g1,g2,g3,rfl⟩,h4,?_⟩⟩
 · exact Held.part [] D (by simpa using ev.held)
 · exact Ev.then [] D (by simpa using ev) e
 · have:=Ev.then [] D (by simpa using ev) e
   rw [List.append_assoc]
   rw [List.nil_append,List.append_assoc] at this
   exact this
theorem JJ.ds (h : JJ w0 w lb D0 E0 X none Ms wr Ns wt) : ∃ ss : List XS,ss.map XS.x = E0 ∧ ss.map XS.s = Ns.map MS.s ∧ Held w (lb ++ xssC ss) ∧
 (∀ w' (ss' : List XS),ss'.map XS.x = E0 → ss'.map XS.s = Ns.map MS.s → Ev w (lb ++ xssC ss) w' (lb ++ xssC ss') → JJ w0 w' lb D0 E0 X none Ms wr Ns wt) ∧
 ∀ (w' : World) (Y : YX) (Ns' : List MS) (wt' : Int),Y.xs = E0 → YA w (lb ++ xssC ss) w' lb Y Ns' wt' → JJ w0 w' lb D0 E0 X (some Y) Ms wr Ns' wt':=by
 obtain ⟨C,D,h4,⟨cs,h1,h2,rfl⟩,ev⟩:=h
 have p1 : (lb ++ C ++ xssC cs).Perm ((lb ++ xssC cs) ++ C):=by
  rw [List.append_assoc,List.append_assoc]
  exact (List.perm_append_comm).append_left lb
 have ev1:=Ev.perm ev p1
 have back : ∀ (w' : World) (D' : List Res),Ev w (lb ++ xssC cs) w' (lb ++ D') → Ev w0 [] w' (lb ++ C ++ D'):=fun w' D' e => by
  have e2:=Ev.then [] C (by simpa using ev1) e
  refine Ev.perm e2 ?_
  rw [List.nil_append,List.append_assoc,List.append_assoc]
  exact (List.perm_append_comm).append_left lb
 refine ⟨cs,h1,h2,?_,fun w' ss' g1 g2 e => ⟨C,_,h4,⟨ss',g1,g2,rfl⟩,back _ _ e⟩,fun w' X Ms' wr' hd ⟨ps',g1,g2,g3,e⟩ => ⟨C,_,h4,⟨hd,ps',g1,g2,g3,rfl⟩,back _ _ e⟩⟩
 exact Held.part [] C (by simpa using ev1.held)
theorem JJ.cq (h : JJ w0 w lb D0 E0 X Y Ms wr Ns wt) (hk : Ms[k]? = some M) : ∃ (d : Bool → Nat) (FF : Bool → List Nat) (l' : List Res),D0[k]? = some d ∧ Held w (l' ++ sysC [] M.s d FF) ∧ (∀ x ∈ feetOf (l' ++ sysC [] M.s d FF),w0.heap.size ≤ x) ∧
 ∀ (w' : World) (s' : Sys) (FF' : Bool → List Nat),Ev w (l' ++ sysC [] M.s d FF) w' (l' ++ sysC [] s' d FF') → JJ w0 w' lb D0 E0 X Y (Ms.set k { M with s:=s' }) wr Ns wt:=by
 obtain ⟨C,D,h1,h2,ev⟩:=h
 obtain ⟨d,FF,C1,hd,hp,hback⟩:=CP.q h1 hk
 have pm : ∀ (C C2 : List Res),C.Perm (C1 ++ C2) → (lb ++ C ++ D).Perm ((D ++ lb ++ C1) ++ C2):=fun C C2 hp => by
  rw [List.append_assoc,List.append_assoc,List.append_assoc]
  refine ((hp.append_right D).append_left lb).trans ?_
  have e1 : lb ++ (C1 ++ C2 ++ D) = (lb ++ (C1 ++ C2)) ++ D:=by simp
  rw [e1]
  exact List.perm_append_comm
 have ev1:=Ev.perm ev (pm _ _ hp)
 refine ⟨d,FF,D ++ lb ++ C1,hd,ev1.held,fun x hx => ?_,fun w' s' FF' e => ?_⟩
 · rcases ev1.low x hx with h | h
   · cases h
   · exact h
 · obtain ⟨C',g1,g2⟩:=hback s' FF'
   exact ⟨C',D,g1,h2,Ev.perm (ev1.trans e) (pm _ _ g2).symm⟩
theorem JJ.dq (h : JJ w0 w lb D0 E0 X Y Ms wr Ns wt) (hk : Ns[k]? = some M) : ∃ (d : Bool → Nat) (FF : Bool → List Nat) (l' : List Res),E0[k]? = some d ∧ Held w (l' ++ sysX [] M.s d FF) ∧ (∀ x ∈ feetOf (l' ++ sysX [] M.s d FF),w0.heap.size ≤ x) ∧
 ∀ (w' : World) (s' : Sys) (FF' : Bool → List Nat),Ev w (l' ++ sysX [] M.s d FF) w' (l' ++ sysX [] s' d FF') → JJ w0 w' lb D0 E0 X Y Ms wr (Ns.set k { M with s:=s' }) wt:=by
 obtain ⟨C,D,h1,h2,ev⟩:=h
 obtain ⟨d,FF,C1,hd,hp,hback⟩:=DP.q h2 hk
 have pm : ∀ (D C2 : List Res),D.Perm (C1 ++ C2) → (lb ++ C ++ D).Perm ((lb ++ C ++ C1) ++ C2):=fun D C2 hp => by
  rw [List.append_assoc (lb ++ C)]
  exact hp.append_left (lb ++ C)
 have ev1:=Ev.perm ev (pm _ _ hp)
 refine ⟨d,FF,lb ++ C ++ C1,hd,ev1.held,fun x hx => ?_,fun w' s' FF' e => ?_⟩
 · rcases ev1.low x hx with h | h
   · cases h
   · exact h
 · obtain ⟨D',g1,g2⟩:=hback s' FF'
   exact ⟨C,D',h1,g1,Ev.perm (ev1.trans e) (pm _ _ g2).symm⟩
end
def LOk (e : Nat) (Ms : List MS) : Prop:=∀ (k : Nat) (M : MS),Ms[k]? = some M → SysOk M.s ∧ M.s.len false = e + 1
section
variable {w w' w0 : World} {l rs : List Res} {X : YX} {Ms : List MS} {wr : Int} {k m e : Nat} {M : MS}
theorem ylen_at (h : YA w0 rs w l X Ms wr) (hL : LOk e Ms) (hm : X.ys[k]? = some m) : Calls Tryz.prog 48 #[.pointer (some ⟨m,0,none⟩)] w fun r w' => r = .returned (.int .i64 (e : Int)) ∧ w' = w:=by
 have hkl : k < Ms.length:=by rw [h.len.1];exact (List.getElem?_eq_some_iff.1 hm).1
 obtain ⟨M,hk⟩ : ∃ M,Ms[k]? = some M:=⟨_,List.getElem?_eq_getElem hkl⟩
 obtain ⟨m2,db,ib,d,FF,l',em,ed,hh,hback⟩:=h.mir hk
 obtain rfl : m = m2:=Option.some.inj (hm.symm.trans em)
 obtain ⟨ok,hl⟩:=hL k M hk
 have:=plen_any hh ok
 rw [hl,show ((e + 1 : Nat) : Int) - 1 = (e : Int) by omega] at this
 exact this
theorem ylen_v (h : YA w0 rs w l X Ms wr) (o : YOk X) (hL : LOk e Ms) (he : e ≤ 16384) : Calls Tryz.prog 18 #[.pointer (some ⟨X.yb,0,none⟩)] w fun r w' => r = .returned (.int .i64 ((e * X.ys.length : Nat) : Int)) ∧ w' = w:=by
 obtain ⟨c,hv,h1,h2,hb,hcell⟩:=h.shape o
 have k0 : w.cell? ⟨X.yb,0,none⟩ = some (.slice (some ⟨X.rb,0,none⟩) X.ys.length c):=hb.cell 0
 have HC:=hid fun (q m : Nat) (hm : X.ys[q]? = some m) => hcell q m hm
 have HL:=hid fun (q m : Nat) (hm : X.ys[q]? = some m) => ylen_at h hL hm
 have h8:=o.h8
 have h1':=o.h1
 obtain ⟨n,hn⟩ : ∃ n,X.ys.length = n:=⟨_,rfl⟩
 rw [hn] at k0 h8 h1' ⊢
 have HN:=hid hn
 have hm : e * n ≤ 131072:=Nat.le_trans (Nat.mul_le_mul he h8) (by decide)
 have hmul:=fun ty => v_mul ty e n (e * n) rfl (by omega)
 obtain ⟨en,hen⟩ : ∃ en,e * n = en:=⟨_,rfl⟩
 rw [hen] at hmul ⊢
 have HN1:=hid h1'
 have hge : ∃ m0,X.ys[0]? = some m0:=⟨_,List.getElem?_eq_getElem (by omega)⟩
 obtain ⟨m0,hm0⟩:=hge
 have c0:=HC.out 0 m0 hm0
 have hl0:=hid (HL.out 0 m0 hm0)
 have hne : decide (e < e) = false:=by simp
 have hne2 : decide ((e : Int) < (e : Int)) = false:=by simp
 clear h o hL hv h1 h2 hb hcell hn hm hen hm0 h1'
 go_enter Tryz.func18,Tryz.ntmps18
 go_wp2_with (go_at_call 48;refine hl0.out.mono ?_;rintro r w1 ⟨rfl,hw⟩;have e1:=hid hw;clear hw;rw [e1.out])
 clear c0 hl0
 go_loopw [4,3] (fun iv nv wr => ∃ q : Nat,1 ≤ q ∧ q ≤ n ∧ iv = .int .i64 (q : Int) ∧ nv = .int .i64 (e : Int) ∧ Hid (wr = w)) (fun iv _ _ => n - (intOf iv).toNat)
 case atStart => exact ⟨1,Nat.le_refl _,by have:=HN1.out;omega,rfl,rfl,hid rfl⟩
 case round =>
  obtain ⟨q,hq1,hq,rfl,rfl,hw⟩:=hrel
  obtain rfl:=hw.out
  by_cases hlt : q < n
  · have hd : decide ((q : Int) < (n : Int)) = true:=by simp;omega
    have hdn : decide (q < n) = true:=by simp;omega
    obtain ⟨m,hm⟩ : ∃ m,X.ys[q]? = some m:=⟨_,List.getElem?_eq_getElem (by have:=HN.out;omega)⟩
    have c1:=HC.out q m hm
    have hl1:=hid (HL.out q m hm)
    clear hm
    go_wp2_with (go_at_call 48;refine hl1.out.mono ?_;rintro r w1 ⟨rfl,hw⟩;have e1:=hid hw;clear hw;rw [e1.out])
    go_roundw
    case rel => exact ⟨q + 1,by omega,by omega,by go_num,rfl,by first | exact hid rfl | exact hid trivial⟩
    case measure => simp [intOf];omega
  · obtain rfl : q = n:=by omega
    have hd : decide ((q : Int) < (q : Int)) = false:=by simp
    clear hlt hq
    go_wp2_with fail
    go_ret
    exact ⟨rfl,rfl⟩
theorem yplace_v (h : YA w0 rs w l X Ms wr) (o : YOk X) (hL : LOk e Ms) (he : e ≤ 16384) (i : Int) :
 Calls Tryz.prog 43 #[.pointer (some ⟨X.yb,0,none⟩),.int .i64 i] w fun r w' => r = .returned (.tuple #[.int .i64 (plP X.ys.length e i : Int),.int .i64 (plA X.ys.length e i : Int),.int .i64 (plC X.ys.length e i)]) ∧ Fr [] w w':=by
 obtain ⟨c,hv,h1,h2,hb,hcell⟩:=h.shape o
 have k0 : w.cell? ⟨X.yb,0,none⟩ = some (.slice (some ⟨X.rb,0,none⟩) X.ys.length c):=hb.cell 0
 have HLE:=hid (ylen_v h o hL he)
 have h8:=o.h8
 have h1':=o.h1
 unfold plP plA plC
 obtain ⟨n,hn⟩ : ∃ n,X.ys.length = n:=⟨_,rfl⟩
 rw [hn] at k0 h8 h1' HLE ⊢
 have hm : e * n ≤ 131072:=Nat.le_trans (Nat.mul_le_mul he h8) (by decide)
 obtain ⟨en,hen⟩ : ∃ en,e * n = en:=⟨_,rfl⟩
 rw [hen] at HLE hm ⊢
 generalize X.yb = yb at *
 generalize X.rb = rb at *
 clear h o hL hv h1 h2 hb hcell hn hen
 by_cases h0 : i < 0
 · have u0 : decide (i < 0) = true:=by simpa using h0
   rw [if_neg (by omega),if_neg (by omega),if_neg (by omega)]
   go_enter Tryz.func43,Tryz.ntmps43
   go_wp2_with fail
   go_ret3
   exact ⟨rfl,Fr.refl [] _⟩
 · have u0 : decide (i < 0) = false:=by simpa using h0
   by_cases h3 : (en : Int) ≤ i
   · have u3 : decide ((en : Int) ≤ i) = true:=by simpa using h3
     rw [if_neg (by omega),if_neg (by omega),if_neg (by omega)]
     go_enter Tryz.func43,Tryz.ntmps43
     go_wp2_with (go_at_call 18;refine HLE.out.mono ?_;rintro r w5 ⟨rfl,hw⟩;subst hw)
     go_ret3
     exact ⟨rfl,Fr.refl [] _⟩
   · have u3 : decide ((en : Int) ≤ i) = false:=by simpa using h3
     obtain ⟨q,rfl⟩ : ∃ q : Nat,i = (q : Int):=⟨i.toNat,by omega⟩
     rw [if_pos (by omega),if_pos (by omega),if_pos (by omega),Int.toNat_natCast]
     have hr:=fun t : TypeId => vrem t q n (by omega) (by omega)
     have hq:=fun t : TypeId => vquo t q n (by omega) (by omega)
     have k5 : w.drew.cell? ⟨yb,0,none⟩ = some (.slice (some ⟨rb,0,none⟩) n c):=k0
     generalize q % n = a at *
     generalize q / n = b at *
     go_enter Tryz.func43,Tryz.ntmps43
     go_wp2_with (go_at_call 18;refine HLE.out.mono ?_;rintro r w5 ⟨rfl,hw⟩;subst hw)
     refine wp_region_D (fun _ => True) false [] (by kernel_rfl) ?_
     refine WD.pure [0,1,2,3,4,5,6,7,8,9,10,11,12,13,14,15,16] (by kernel_rfl) trivial ?_
     simp only [pick,aF,aG,aI,aJ,aK]
     repeat (first | go_big_quiet_step (fail))
     refine wpQuiet_nil ?_
     refine WD.done (by kernel_rfl) ?_
     go_wp2_with fail
     go_ret3
     exact ⟨rfl,(Fr.refl [] _).drew⟩
theorem yindex_v (h : YA w0 rs w l X Ms wr) (o : YOk X) (hL : LOk e Ms) (he : e ≤ 16384) (p a : Int) :
 Calls Tryz.prog 45 #[.pointer (some ⟨X.yb,0,none⟩),.int .i64 p,.int .i64 a] w fun r w' => r = .returned (.tuple #[.int .i64 (ixN X.ys.length e p a : Int),.int .i64 (ixC X.ys.length e p a)]) ∧ Fr [] w w':=by
 obtain ⟨c,hv,h1,h2,hb,hcell⟩:=h.shape o
 have k0 : w.cell? ⟨X.yb,0,none⟩ = some (.slice (some ⟨X.rb,0,none⟩) X.ys.length c):=hb.cell 0
 have k5 : w.drew.cell? ⟨X.yb,0,none⟩ = some (.slice (some ⟨X.rb,0,none⟩) X.ys.length c):=k0
 have HLE:=hid (ylen_v (w:=w) h o hL he)
 have HLD:=hid (ylen_v (w:=w.drew) (h.step ((Fr.refl [] w).drew)) o hL he)
 have h8:=o.h8
 have h1':=o.h1
 unfold ixC ixN
 obtain ⟨n,hn⟩ : ∃ n,X.ys.length = n:=⟨_,rfl⟩
 rw [hn] at k0 k5 h8 h1' HLE HLD ⊢
 have hm : e * n ≤ 131072:=Nat.le_trans (Nat.mul_le_mul he h8) (by decide)
 have hqu : e * n / n = e:=Nat.mul_div_cancel e (by omega)
 obtain ⟨en,hen⟩ : ∃ en,e * n = en:=⟨_,rfl⟩
 rw [hen] at HLE HLD hm hqu
 have hquo:=fun t : TypeId => vquo t en n (by omega) (by omega)
 rw [hqu] at hquo
 generalize X.yb = yb at *
 generalize X.rb = rb at *
 clear h o hL hv h1 h2 hb hcell hn hen hqu
 have f0 : Fr [] w w.drew:=(Fr.refl [] w).drew
 by_cases h0 : p < 0
 · have u0 : decide (p < 0) = true:=by simpa using h0
   rw [if_neg (by omega),if_neg (by omega)]
   go_enter Tryz.func45,Tryz.ntmps45
   go_wp2_with fail
   refine wp_region_D (fun _ => True) false [] (by kernel_rfl) ?_
   refine WD.pure [0,1,2,3,4,5,6,7,8,9,10,11,12,13,14,15,17] (by kernel_rfl) trivial ?_
   simp only [pick,aF,aG,aI,aJ,aK]
   repeat (first | go_big_quiet_step (fail))
   refine wpQuiet_nil ?_
   refine WD.free [16,19,20,21] (by kernel_rfl) trivial ?_
   simp only [pick,aF,aG,aI,aJ,aK]
   repeat (first | go_big_quiet_step (fail))
   refine wpQuiet_nil ?_
   refine WD.held [22,23] (by kernel_rfl) trivial ?_
   simp only [pick,aF,aG,aI,aJ,aK]
   repeat (first | go_big_quiet_step (fail))
   refine wpQuiet_nil ?_
   refine WD.eff 18 (by kernel_rfl) ?_
   simp only [pick,aF,aG,aI,aJ,aK]
   go_wp2_with fail
   try refine wpList_nil ?_
   refine AfterD.on trivial (by kernel_rfl) ?_
   try simp only [aA,aB,Act.put,aC,aD,aE]
   refine WD.pure [24,25,26] (by kernel_rfl) trivial ?_
   simp only [pick,aF,aG,aI,aJ,aK]
   repeat (first | go_big_quiet_step (fail))
   refine wpQuiet_nil ?_
   refine WD.done (by kernel_rfl) ?_
   go_wp2_with fail
   go_ret2
   exact ⟨rfl,f0⟩
 · have u0 : decide (p < 0) = false:=by simpa using h0
   by_cases h1 : (n : Int) ≤ p
   · have u1 : decide ((n : Int) ≤ p) = true:=by simpa using h1
     rw [if_neg (by omega),if_neg (by omega)]
     go_enter Tryz.func45,Tryz.ntmps45
     go_wp2_with fail
     refine wp_region_D (fun _ => True) false [] (by kernel_rfl) ?_
     refine WD.pure [0,1,2,3,4,5,6,7,8,9,10,11,12,13,14,15,17] (by kernel_rfl) trivial ?_
     simp only [pick,aF,aG,aI,aJ,aK]
     repeat (first | go_big_quiet_step (fail))
     refine wpQuiet_nil ?_
     refine WD.free [16,19,20,21] (by kernel_rfl) trivial ?_
     simp only [pick,aF,aG,aI,aJ,aK]
     repeat (first | go_big_quiet_step (fail))
     refine wpQuiet_nil ?_
     refine WD.held [22,23] (by kernel_rfl) trivial ?_
     simp only [pick,aF,aG,aI,aJ,aK]
     repeat (first | go_big_quiet_step (fail))
     refine wpQuiet_nil ?_
     refine WD.eff 18 (by kernel_rfl) ?_
     simp only [pick,aF,aG,aI,aJ,aK]
     go_wp2_with fail
     try refine wpList_nil ?_
     refine AfterD.on trivial (by kernel_rfl) ?_
     try simp only [aA,aB,Act.put,aC,aD,aE]
     refine WD.pure [24,25,26] (by kernel_rfl) trivial ?_
     simp only [pick,aF,aG,aI,aJ,aK]
     repeat (first | go_big_quiet_step (fail))
     refine wpQuiet_nil ?_
     refine WD.done (by kernel_rfl) ?_
     go_wp2_with fail
     go_ret2
     exact ⟨rfl,f0⟩
   · have u1 : decide ((n : Int) ≤ p) = false:=by simpa using h1
     by_cases h2 : a < 0
     · have u2 : decide (a < 0) = true:=by simpa using h2
       rw [if_neg (by omega),if_neg (by omega)]
       go_enter Tryz.func45,Tryz.ntmps45
       go_wp2_with fail
       refine wp_region_D (fun _ => True) false [] (by kernel_rfl) ?_
       refine WD.pure [0,1,2,3,4,5,6,7,8,9,10,11,12,13,14,15,17] (by kernel_rfl) trivial ?_
       simp only [pick,aF,aG,aI,aJ,aK]
       repeat (first | go_big_quiet_step (fail))
       refine wpQuiet_nil ?_
       refine WD.free [16,19,20,21] (by kernel_rfl) trivial ?_
       simp only [pick,aF,aG,aI,aJ,aK]
       repeat (first | go_big_quiet_step (fail))
       refine wpQuiet_nil ?_
       refine WD.held [22,23] (by kernel_rfl) trivial ?_
       simp only [pick,aF,aG,aI,aJ,aK]
       repeat (first | go_big_quiet_step (fail))
       refine wpQuiet_nil ?_
       refine WD.eff 18 (by kernel_rfl) ?_
       simp only [pick,aF,aG,aI,aJ,aK]
       go_wp2_with fail
       try refine wpList_nil ?_
       refine AfterD.on trivial (by kernel_rfl) ?_
       try simp only [aA,aB,Act.put,aC,aD,aE]
       refine WD.pure [24,25,26] (by kernel_rfl) trivial ?_
       simp only [pick,aF,aG,aI,aJ,aK]
       repeat (first | go_big_quiet_step (fail))
       refine wpQuiet_nil ?_
       refine WD.done (by kernel_rfl) ?_
       go_wp2_with fail
       go_ret2
       exact ⟨rfl,f0⟩
     · have u2 : decide (a < 0) = false:=by simpa using h2
       by_cases h3 : (e : Int) ≤ a
       · have u3 : decide ((e : Int) ≤ a) = true:=by simpa using h3
         rw [if_neg (by omega),if_neg (by omega)]
         go_enter Tryz.func45,Tryz.ntmps45
         go_wp2_with fail
         refine wp_region_D (fun w' => w'.cell? ⟨yb,0,none⟩ = some (.slice (some ⟨rb,0,none⟩) n c)) false [] (by kernel_rfl) ?_
         refine WD.pure [0,1,2,3,4,5,6,7,8,9,10,11,12,13,14,15,17] (by kernel_rfl) k5 ?_
         simp only [pick,aF,aG,aI,aJ,aK]
         repeat (first | (refine quiet_load_1R (by rfl) _ _ rfl rfl (.slice (some ⟨rb,0,none⟩) n c) (fun wq h => by first|exact h|(rw [h];exact k5)) _ Tryz.underlying52 rfl ?_;simp only [aA,aB,Act.put,aC,aD,aE]) | go_big_quiet_step (fail) | (refine quiet_len_v (by rfl) _ _ rfl Tryz.underlying52 rfl ?_;simp only [aA,aB,Act.put,aC,aD,aE]))
         refine wpQuiet_nil ?_
         refine WD.free [16,19,20,21] (by kernel_rfl) k5 ?_
         simp only [pick,aF,aG,aI,aJ,aK]
         repeat (first | go_big_quiet_step (fail))
         refine wpQuiet_nil ?_
         refine WD.held [22,23] (by kernel_rfl) k5 ?_
         simp only [pick,aF,aG,aI,aJ,aK]
         repeat (first | (refine quiet_load_1R (by rfl) _ _ rfl rfl (.slice (some ⟨rb,0,none⟩) n c) (fun wq h => by first|exact h|(rw [h];exact k5)) _ Tryz.underlying52 rfl ?_;simp only [aA,aB,Act.put,aC,aD,aE]) | go_big_quiet_step (fail) | (refine quiet_len_v (by rfl) _ _ rfl Tryz.underlying52 rfl ?_;simp only [aA,aB,Act.put,aC,aD,aE]))
         refine wpQuiet_nil ?_
         refine WD.eff 18 (by kernel_rfl) ?_
         simp only [pick,aF,aG,aI,aJ,aK]
         go_wp2_with (go_at_call 18;refine HLD.out.mono ?_;rintro r w5 ⟨rfl,hw⟩;subst hw)
         try refine wpList_nil ?_
         refine AfterD.on k5 (by kernel_rfl) ?_
         try simp only [aA,aB,Act.put,aC,aD,aE]
         refine WD.pure [24,25,26] (by kernel_rfl) k5 ?_
         simp only [pick,aF,aG,aI,aJ,aK]
         repeat (first | go_big_quiet_step (fail))
         refine wpQuiet_nil ?_
         refine WD.done (by kernel_rfl) ?_
         go_wp2_with fail
         go_ret2
         exact ⟨rfl,f0⟩
       · have u3 : decide ((e : Int) ≤ a) = false:=by simpa using h3
         rw [if_pos (by omega),if_pos (by omega)]
         obtain ⟨q,hq⟩ : ∃ q : Nat,p = (q : Int):=⟨p.toNat,by omega⟩
         obtain ⟨b,hb⟩ : ∃ b : Nat,a = (b : Int):=⟨a.toNat,by omega⟩
         obtain ⟨t,ht⟩ : ∃ t,b * n = t:=⟨_,rfl⟩
         have hm : t ≤ 131072:=by rw [← ht];exact Nat.le_trans (Nat.mul_le_mul (show b ≤ 16384 by omega) h8) (by decide)
         have e1 : a.toNat * n + p.toNat = t + q:=by rw [hq,hb,Int.toNat_natCast,Int.toNat_natCast,ht]
         have hmul:=fun ty => v_mul ty b n t ht (by omega)
         have hadd:=fun ty => v_add ty t q (t + q) rfl (by omega)
         rw [← hb] at hmul
         rw [← hq] at hadd
         rw [e1]
         generalize t + q = s at *
         clear e1 hm ht hq hb h0 h1 h2 h3 he
         go_enter Tryz.func45,Tryz.ntmps45
         go_wp2_with fail
         refine wp_region_D (fun w' => w'.cell? ⟨yb,0,none⟩ = some (.slice (some ⟨rb,0,none⟩) n c)) false [] (by kernel_rfl) ?_
         refine WD.pure [0,1,2,3,4,5,6,7,8,9,10,11,12,13,14,15,17] (by kernel_rfl) k5 ?_
         simp only [pick,aF,aG,aI,aJ,aK]
         repeat (first | (refine quiet_load_1R (by rfl) _ _ rfl rfl (.slice (some ⟨rb,0,none⟩) n c) (fun wq h => by first|exact h|(rw [h];exact k5)) _ Tryz.underlying52 rfl ?_;simp only [aA,aB,Act.put,aC,aD,aE]) | go_big_quiet_step (fail) | (refine quiet_len_v (by rfl) _ _ rfl Tryz.underlying52 rfl ?_;simp only [aA,aB,Act.put,aC,aD,aE]))
         refine wpQuiet_nil ?_
         refine WD.free [16,19,20,21] (by kernel_rfl) k5 ?_
         simp only [pick,aF,aG,aI,aJ,aK]
         repeat (first | go_big_quiet_step (fail))
         refine wpQuiet_nil ?_
         refine WD.held [22,23] (by kernel_rfl) k5 ?_
         simp only [pick,aF,aG,aI,aJ,aK]
         repeat (first | (refine quiet_load_1R (by rfl) _ _ rfl rfl (.slice (some ⟨rb,0,none⟩) n c) (fun wq h => by first|exact h|(rw [h];exact k5)) _ Tryz.underlying52 rfl ?_;simp only [aA,aB,Act.put,aC,aD,aE]) | go_big_quiet_step (fail) | (refine quiet_len_v (by rfl) _ _ rfl Tryz.underlying52 rfl ?_;simp only [aA,aB,Act.put,aC,aD,aE]))
         refine wpQuiet_nil ?_
         refine WD.eff 18 (by kernel_rfl) ?_
         simp only [pick,aF,aG,aI,aJ,aK]
         go_wp2_with (go_at_call 18;refine HLD.out.mono ?_;rintro r w5 ⟨rfl,hw⟩;subst hw)
         try refine wpList_nil ?_
         refine AfterD.on k5 (by kernel_rfl) ?_
         try simp only [aA,aB,Act.put,aC,aD,aE]
         refine WD.pure [24,25,26] (by kernel_rfl) k5 ?_
         simp only [pick,aF,aG,aI,aJ,aK]
         repeat (first | go_big_quiet_step (fail))
         refine wpQuiet_nil ?_
         refine WD.done (by kernel_rfl) ?_
         go_wp2_with fail
         go_ret2
         exact ⟨rfl,f0⟩
end
section
variable {w w' w0 : World} {l rs : List Res} {X : YX} {Ms : List MS} {wr : Int} {k m a e : Nat} {M : MS}
theorem yw_at (h : YA w0 rs w l X Ms wr) (hk : Ms[k]? = some M) (hm : X.ys[k]? = some m) (ok : SysOk M.s) (ht : M.s.T < 998900) (a : Int) (S : ByteArray) (hS : S.size ≤ 9223372036854775807) :
 Calls Tryz.prog 64 #[.pointer (some ⟨m,0,none⟩),.int .i64 a,.string S] w fun e w' => e = .returned (.int .i64 (M.wrE a S)) ∧ YA w0 rs w' l X (Ms.set k (M.wrM a S)) wr:=by
 obtain ⟨m2,db,ib,d,FF,l',em,ed,hh,hback⟩:=h.mir hk
 obtain rfl : m = m2:=Option.some.inj (hm.symm.trans em)
 refine (pwrite_any hh ok (by omega) a S hS).mono ?_
 rintro e w' ⟨rfl,FF',ev⟩
 exact ⟨rfl,hback _ _ _ ev⟩
theorem yf_at (h : YA w0 rs w l X Ms wr) (hk : Ms[k]? = some M) (hm : X.ys[k]? = some m) (ok : SysOk M.s) (ht : M.s.T < 998900)  :
 Calls Tryz.prog 72 #[.pointer (some ⟨m,0,none⟩)] w fun e w' => e = .returned (.int .i64 M.flushC) ∧ YA w0 rs w' l X (Ms.set k (M.flushM)) wr:=by
 obtain ⟨m2,db,ib,d,FF,l',em,ed,hh,hback⟩:=h.mir hk
 obtain rfl : m = m2:=Option.some.inj (hm.symm.trans em)
 refine (pflush_any hh ok (by omega)).mono ?_
 rintro e w' ⟨rfl,FF',ev⟩
 exact ⟨rfl,hback _ _ _ ev⟩
theorem yr_at (h : YA w0 rs w l X Ms wr) (hk : Ms[k]? = some M) (hm : X.ys[k]? = some m) (ok : SysOk M.s) (ht : M.s.T < 998900) (a : Int) :
 Calls Tryz.prog 68 #[.pointer (some ⟨m,0,none⟩),.int .i64 a] w fun e w' => e = .returned (.tuple #[.string (M.rd a).2.1,.int .i64 (M.rd a).2.2]) ∧ YA w0 rs w' l X (Ms.set k ((M.rd a).1)) wr:=by
 obtain ⟨m2,db,ib,d,FF,l',em,ed,hh,hback⟩:=h.mir hk
 obtain rfl : m = m2:=Option.some.inj (hm.symm.trans em)
 refine (pread_any hh ok (by omega) a).mono ?_
 rintro e w' ⟨rfl,FF',ev⟩
 exact ⟨rfl,hback _ _ _ ev⟩
theorem yo_at (h : YA w0 rs w l X Ms wr) (hk : Ms[k]? = some M) (hm : X.ys[k]? = some m) (ok : SysOk M.s) (ht : M.s.T < 998900) (a : Int) :
 Calls Tryz.prog 67 #[.pointer (some ⟨m,0,none⟩),.int .i64 a] w fun e w' => e = .returned (.tuple #[.string (M.ot a).2.1,.int .i64 (M.ot a).2.2]) ∧ YA w0 rs w' l X (Ms.set k ((M.ot a).1)) wr:=by
 obtain ⟨m2,db,ib,d,FF,l',em,ed,hh,hback⟩:=h.mir hk
 obtain rfl : m = m2:=Option.some.inj (hm.symm.trans em)
 refine (pother_any hh ok (by omega) a).mono ?_
 rintro e w' ⟨rfl,FF',ev⟩
 exact ⟨rfl,hback _ _ _ ev⟩
theorem ys_at (h : YA w0 rs w l X Ms wr) (hk : Ms[k]? = some M) (hm : X.ys[k]? = some m) (ok : SysOk M.s) (ht : M.s.T + 2 * M.s.len (!M.c0) < 998800) :
 Calls Tryz.prog 75 #[.pointer (some ⟨m,0,none⟩)] w fun e w' => e = .returned (.tuple #[.int .i64 (M.rs.2.1 : Int),.int .i64 M.rs.2.2]) ∧ YA w0 rs w' l X (Ms.set k M.rs.1) wr:=by
 obtain ⟨m2,db,ib,d,FF,l',em,ed,hh,hback⟩:=h.mir hk
 obtain rfl : m = m2:=Option.some.inj (hm.symm.trans em)
 refine (presync_any hh ok ht).mono ?_
 rintro e w' ⟨rfl,FF',ev⟩
 exact ⟨rfl,hback _ _ _ ev⟩
theorem ywrite_off (h : YA w0 rs w l X Ms wr) (o : YOk X) (hL : LOk e Ms) (he : e ≤ 16384) (i : Int) (S : ByteArray) (hc : plC X.ys.length e i ≠ 0) :
 Calls Tryz.prog 34 #[.pointer (some ⟨X.yb,0,none⟩),.int .i64 i,.string S] w fun r w' => r = .returned (.int .i64 (plC X.ys.length e i)) ∧ YA w0 rs w' l X Ms wr:=by
 have HV:=hid h
 have HP:=hid (yplace_v h o hL he i)
 generalize plC X.ys.length e i = cc at *
 have u0 : (cc != 0) = true:=by simpa using hc
 clear h hc
 go_enter Tryz.func34,Tryz.ntmps34
 go_wp2_with (go_at_call 43;refine HP.out.mono ?_;rintro r w5 ⟨rfl,f5⟩)
 go_ret
 exact ⟨rfl,HV.out.step f5⟩
theorem ywrite_in (h : YA w0 rs w l X Ms wr) (o : YOk X) (hL : LOk e Ms) (he : e ≤ 16384) (i : Int) (S : ByteArray) (hc : plC X.ys.length e i = 0) (hp : plP X.ys.length e i = k) (ha : plA X.ys.length e i = a) (hk : Ms[k]? = some M) (ok : SysOk M.s) (ht : M.s.T < 998900) (hS : S.size ≤ 9223372036854775807) (hw0 : 0 ≤ wr) (hw1 : wr ≤ 1000000) :
 Calls Tryz.prog 34 #[.pointer (some ⟨X.yb,0,none⟩),.int .i64 i,.string S] w fun r w' => r = .returned (.int .i64 (M.wrE (a : Int) S)) ∧ YA w0 rs w' l X (Ms.set k (M.wrM (a : Int) S)) (if M.wrE (a : Int) S = 0 then wr + 1 else wr):=by
 have HV:=hid h
 have HP:=hid (yplace_v h o hL he i)
 rw [hc,hp,ha] at HP
 have hkl : k < X.ys.length:=by rw [← h.len.1];exact (List.getElem?_eq_some_iff.1 hk).1
 obtain ⟨m,hm⟩ : ∃ m,X.ys[k]? = some m:=⟨_,List.getElem?_eq_getElem hkl⟩
 obtain ⟨c,hv,h1,h2,hb,hcell⟩:=h.shape o
 have HC:=hid fun (w1 : World) (h1 : YA w0 rs w1 l X Ms wr) => (show w1.cell? ⟨X.yb,0,none⟩ = some (.slice (some ⟨X.rb,0,none⟩) X.ys.length c) ∧ w1.cell? ⟨X.rb,k,none⟩ = some (.pointer (some ⟨m,0,none⟩)) from by
  obtain ⟨c2,hv2,_,_,hb2,hcell2⟩:=h1.shape o
  rw [hv] at hv2
  obtain rfl : c = c2:=by simpa using hv2
  exact ⟨hb2.cell 0,hcell2 k m hm⟩)
 have HW:=hid fun (w1 : World) (h1 : YA w0 rs w1 l X Ms wr) => yw_at h1 hk hm ok ht (a : Int) S hS
 have HB:=hid fun (w1 : World) (h1 : YA w0 rs w1 l X (Ms.set k (M.wrM (a : Int) S)) wr) => h1.blk
 have hadd : ∀ ty,binOp .add ty (.int .i64 wr) (.int .i64 1) = pure (.int .i64 (wr + 1)):=fun ty => by
  show pure (Value.int .i64 (IntKind.i64.wrap (wr + 1))) = _
  rw [IntKind.wrap_i64]
  have h9 : (wr + 1 + 9223372036854775808) % 18446744073709551616 - 9223372036854775808 = wr + 1:=by omega
  rw [h9]
 obtain ⟨wr1,hwr1⟩ : ∃ x,wr + 1 = x:=⟨_,rfl⟩
 rw [hwr1] at hadd ⊢
 have HN:=hid hwr1
 have hkl2 : k < X.ys.length:=hkl
 generalize M.wrM (a : Int) S = M' at *
 generalize M.wrE (a : Int) S = cc at *
 generalize hgn : X.ys.length = n at *
 generalize X.rb = rb at *
 have HG:=hid hgn
 clear hgn hc hp ha h hv h1 h2 hb hcell hkl hw0 hw1 hwr1 hk hm ok ht hS
 by_cases h0 : cc = 0
 · subst h0
   rw [if_pos rfl]
   go_enter Tryz.func34,Tryz.ntmps34
   go_wp2_with (first
    | (go_at_call 43;refine HP.out.mono ?_;rintro r w5 ⟨rfl,f5⟩;have V5:=hid (HV.out.step f5);obtain ⟨k0,k1⟩:=HC.out _ V5.out)
    | (go_at_call 64;refine (HW.out _ V5.out).mono ?_;rintro r w6 ⟨rfl,v6⟩;have V6:=hid v6;have B6:=HB.out _ v6;have k2 : w6.cell? ⟨X.yb,1,none⟩ = some (.int .i64 wr):=B6.cell 1;clear v6 k0 k1)
    | (refine wpList_put rfl _ _ _ rfl rfl (.int .i64 wr1) rfl rfl B6 (by simp) (by kernel_rfl) ?_;intro w7 f7 b7 hs7;simp only [aA,aB,Act.put,aC,aD,aE]))
   go_ret
   exact ⟨rfl,V6.out.put f7 b7⟩
 · have u0 : (cc == 0) = false:=by simpa using h0
   rw [if_neg h0]
   go_enter Tryz.func34,Tryz.ntmps34
   go_wp2_with (first
    | (go_at_call 43;refine HP.out.mono ?_;rintro r w5 ⟨rfl,f5⟩;have V5:=hid (HV.out.step f5);obtain ⟨k0,k1⟩:=HC.out _ V5.out)
    | (go_at_call 64;refine (HW.out _ V5.out).mono ?_;rintro r w6 ⟨rfl,v6⟩;have V6:=hid v6;clear v6 k0 k1))
   go_ret
   exact ⟨rfl,V6.out⟩
theorem yread_off (h : YA w0 rs w l X Ms wr) (o : YOk X) (hL : LOk e Ms) (he : e ≤ 16384) (i : Int) (hc : plC X.ys.length e i ≠ 0) :
 Calls Tryz.prog 36 #[.pointer (some ⟨X.yb,0,none⟩),.int .i64 i,.bool false] w fun r w' => r = .returned (.tuple #[.string ⟨#[]⟩,.int .i64 (plC X.ys.length e i)]) ∧ YA w0 rs w' l X Ms wr:=by
 have HV:=hid h
 have HP:=hid (yplace_v h o hL he i)
 generalize plC X.ys.length e i = cc at *
 have u1 : (cc != 0) = true:=by simpa using hc
 clear h hc
 go_enter Tryz.func36,Tryz.ntmps36
 go_wp2_with (go_at_call 43;refine HP.out.mono ?_;rintro r w5 ⟨rfl,f5⟩)
 go_ret2
 exact ⟨rfl,HV.out.step f5⟩
theorem yread_in (h : YA w0 rs w l X Ms wr) (o : YOk X) (hL : LOk e Ms) (he : e ≤ 16384) (i : Int) (hc : plC X.ys.length e i = 0) (hp : plP X.ys.length e i = k) (ha : plA X.ys.length e i = a) (hk : Ms[k]? = some M) (ok : SysOk M.s) (ht : M.s.T < 998900) :
 Calls Tryz.prog 36 #[.pointer (some ⟨X.yb,0,none⟩),.int .i64 i,.bool false] w fun r w' => r = .returned (.tuple #[.string ((M.rd (a : Int)).2.1),.int .i64 ((M.rd (a : Int)).2.2)]) ∧ YA w0 rs w' l X (Ms.set k ((M.rd (a : Int)).1)) wr:=by
 have HV:=hid h
 have HP:=hid (yplace_v h o hL he i)
 rw [hc,hp,ha] at HP
 have hkl : k < X.ys.length:=by rw [← h.len.1];exact (List.getElem?_eq_some_iff.1 hk).1
 obtain ⟨m,hm⟩ : ∃ m,X.ys[k]? = some m:=⟨_,List.getElem?_eq_getElem hkl⟩
 obtain ⟨c,hv,h1,h2,hb,hcell⟩:=h.shape o
 have HC:=hid fun (w1 : World) (h1 : YA w0 rs w1 l X Ms wr) => (show w1.cell? ⟨X.yb,0,none⟩ = some (.slice (some ⟨X.rb,0,none⟩) X.ys.length c) ∧ w1.cell? ⟨X.rb,k,none⟩ = some (.pointer (some ⟨m,0,none⟩)) from by
  obtain ⟨c2,hv2,_,_,hb2,hcell2⟩:=h1.shape o
  rw [hv] at hv2
  obtain rfl : c = c2:=by simpa using hv2
  exact ⟨hb2.cell 0,hcell2 k m hm⟩)
 have HW:=hid fun (w1 : World) (h1 : YA w0 rs w1 l X Ms wr) => yr_at h1 hk hm ok ht (a : Int)
 have hkl2 : k < X.ys.length:=hkl
 generalize (M.rd (a : Int)).1 = M' at *
 generalize (M.rd (a : Int)).2.1 = S at *
 generalize (M.rd (a : Int)).2.2 = cc at *
 generalize hgn : X.ys.length = n at *
 generalize X.rb = rb at *
 clear hgn hc hp ha h hv h1 h2 hb hcell hkl hk hm ok ht
 go_enter Tryz.func36,Tryz.ntmps36
 go_wp2_with (first
  | (go_at_call 43;refine HP.out.mono ?_;rintro r w5 ⟨rfl,f5⟩;have V5:=hid (HV.out.step f5);obtain ⟨k0,k1⟩:=HC.out _ V5.out)
  | (go_at_call 68;refine (HW.out _ V5.out).mono ?_;rintro r w6 ⟨rfl,v6⟩;have V6:=hid v6;clear v6 k0 k1))
 go_ret2
 exact ⟨rfl,V6.out⟩
theorem yother_off (h : YA w0 rs w l X Ms wr) (o : YOk X) (hL : LOk e Ms) (he : e ≤ 16384) (i : Int) (hc : plC X.ys.length e i ≠ 0) :
 Calls Tryz.prog 36 #[.pointer (some ⟨X.yb,0,none⟩),.int .i64 i,.bool true] w fun r w' => r = .returned (.tuple #[.string ⟨#[]⟩,.int .i64 (plC X.ys.length e i)]) ∧ YA w0 rs w' l X Ms wr:=by
 have HV:=hid h
 have HP:=hid (yplace_v h o hL he i)
 generalize plC X.ys.length e i = cc at *
 have u1 : (cc != 0) = true:=by simpa using hc
 clear h hc
 go_enter Tryz.func36,Tryz.ntmps36
 go_wp2_with (go_at_call 43;refine HP.out.mono ?_;rintro r w5 ⟨rfl,f5⟩)
 go_ret2
 exact ⟨rfl,HV.out.step f5⟩
theorem yother_in (h : YA w0 rs w l X Ms wr) (o : YOk X) (hL : LOk e Ms) (he : e ≤ 16384) (i : Int) (hc : plC X.ys.length e i = 0) (hp : plP X.ys.length e i = k) (ha : plA X.ys.length e i = a) (hk : Ms[k]? = some M) (ok : SysOk M.s) (ht : M.s.T < 998900) :
 Calls Tryz.prog 36 #[.pointer (some ⟨X.yb,0,none⟩),.int .i64 i,.bool true] w fun r w' => r = .returned (.tuple #[.string ((M.ot (a : Int)).2.1),.int .i64 ((M.ot (a : Int)).2.2)]) ∧ YA w0 rs w' l X (Ms.set k ((M.ot (a : Int)).1)) wr:=by
 have HV:=hid h
 have HP:=hid (yplace_v h o hL he i)
 rw [hc,hp,ha] at HP
 have hkl : k < X.ys.length:=by rw [← h.len.1];exact (List.getElem?_eq_some_iff.1 hk).1
 obtain ⟨m,hm⟩ : ∃ m,X.ys[k]? = some m:=⟨_,List.getElem?_eq_getElem hkl⟩
 obtain ⟨c,hv,h1,h2,hb,hcell⟩:=h.shape o
 have HC:=hid fun (w1 : World) (h1 : YA w0 rs w1 l X Ms wr) => (show w1.cell? ⟨X.yb,0,none⟩ = some (.slice (some ⟨X.rb,0,none⟩) X.ys.length c) ∧ w1.cell? ⟨X.rb,k,none⟩ = some (.pointer (some ⟨m,0,none⟩)) from by
  obtain ⟨c2,hv2,_,_,hb2,hcell2⟩:=h1.shape o
  rw [hv] at hv2
  obtain rfl : c = c2:=by simpa using hv2
  exact ⟨hb2.cell 0,hcell2 k m hm⟩)
 have HW:=hid fun (w1 : World) (h1 : YA w0 rs w1 l X Ms wr) => yo_at h1 hk hm ok ht (a : Int)
 have hkl2 : k < X.ys.length:=hkl
 generalize (M.ot (a : Int)).1 = M' at *
 generalize (M.ot (a : Int)).2.1 = S at *
 generalize (M.ot (a : Int)).2.2 = cc at *
 generalize hgn : X.ys.length = n at *
 generalize X.rb = rb at *
 clear hgn hc hp ha h hv h1 h2 hb hcell hkl hk hm ok ht
 go_enter Tryz.func36,Tryz.ntmps36
 go_wp2_with (first
  | (go_at_call 43;refine HP.out.mono ?_;rintro r w5 ⟨rfl,f5⟩;have V5:=hid (HV.out.step f5);obtain ⟨k0,k1⟩:=HC.out _ V5.out)
  | (go_at_call 67;refine (HW.out _ V5.out).mono ?_;rintro r w6 ⟨rfl,v6⟩;have V6:=hid v6;clear v6 k0 k1))
 go_ret2
 exact ⟨rfl,V6.out⟩
theorem yflush_any (h : YA w0 rs w l X Ms wr) (o : YOk X) (ok : ∀ M ∈ Ms,SysOk M.s) (ht : ∀ M ∈ Ms,M.s.T < 998900) :
 Calls Tryz.prog 39 #[.pointer (some ⟨X.yb,0,none⟩)] w fun e w' => e = .returned (.int .i64 (firstC MS.flushC Ms)) ∧ YA w0 rs w' l X (Ms.map MS.flushM) wr:=by
 have hl:=h.len.1
 obtain ⟨c,hv,h1,h2,hb,hcell⟩:=h.shape o
 have HC:=hid fun (w1 : World) (q : Nat) (m : Nat) (hm : X.ys[q]? = some m) (h1 : YA w0 rs w1 l X (upTo MS.flushM Ms q) wr) => (show w1.cell? ⟨X.rb,q,none⟩ = some (.pointer (some ⟨m,0,none⟩)) from by
  obtain ⟨c2,hv2,_,_,hb2,hcell2⟩:=h1.shape o
  exact hcell2 q m hm)
 have HK:=hid fun (w1 : World) (q : Nat) (h1 : YA w0 rs w1 l X (upTo MS.flushM Ms q) wr) => (show w1.cell? ⟨X.yb,0,none⟩ = some (.slice (some ⟨X.rb,0,none⟩) X.ys.length c) from by
  obtain ⟨c2,hv2,_,_,hb2,hcell2⟩:=h1.shape o
  rw [hv] at hv2
  obtain rfl : c = c2:=by simpa using hv2
  exact hb2.cell 0)
 have HV : Hid (YA w0 rs w l X (upTo MS.flushM Ms 0) wr):=hid (by rw [upTo_0];exact h)
 have HT':=hid fun (q : Nat) (M : MS) (m : Nat) (w1 : World) (hM : Ms[q]? = some M) (hm : X.ys[q]? = some m) (hv : YA w0 rs w1 l X (upTo MS.flushM Ms q) wr) => (show Calls Tryz.prog 72 #[.pointer (some ⟨m,0,none⟩)] w1 fun e w' => e = .returned (.int .i64 M.flushC) ∧ YA w0 rs w' l X (upTo MS.flushM Ms (q + 1)) wr from by
  have hmem:=List.mem_of_getElem? hM
  have:=yf_at hv (upTo_get _ hM) hm (ok M hmem) (ht M hmem)
  rw [upTo_set _ hM] at this
  exact this)
 have hn8:=o.h8
 have HL:=hid hl
 obtain ⟨n,hn⟩ : ∃ n,X.ys.length = n:=⟨_,rfl⟩
 have HN:=hid hn
 rw [hn] at hn8 HK
 clear h hb hcell hv h1 h2 hl hn ok ht
 go_enter Tryz.func39,Tryz.ntmps39
 go_wp2_with fail
 go_loopw [4,3] (fun iv av wr1 => ∃ q : Nat,q ≤ n ∧ iv = .int .i64 (q : Int) ∧ av = .int .i64 (firstC MS.flushC (Ms.take q)) ∧ Hid (YA w0 rs wr1 l X (upTo MS.flushM Ms q) wr)) (fun iv _ _ => n - (intOf iv).toNat)
 case atStart => exact ⟨0,by omega,rfl,rfl,HV⟩
 case round =>
  obtain ⟨q,hq,rfl,rfl,V⟩:=hrel
  clear HV
  have hk:=HK.out _ q V.out
  by_cases hlt : q < n
  · have hd : decide ((q : Int) < (n : Int)) = true:=by simp;omega
    have hdn : decide (q < n) = true:=by simp;omega
    obtain ⟨m,hm⟩ : ∃ m,X.ys[q]? = some m:=⟨_,List.getElem?_eq_getElem (by have:=HN.out;omega)⟩
    obtain ⟨M,hM⟩ : ∃ M,Ms[q]? = some M:=⟨_,List.getElem?_eq_getElem (by have:=HN.out;have:=HL.out;omega)⟩
    have hc:=HC.out _ q m hm V.out
    have HQ:=hid (HT'.out q M m _ hM hm V.out)
    have HF:=hid (firstC_succ MS.flushC hM)
    have hq8 : (q : Int) ≤ 8:=by omega
    generalize M.flushC = fm at *
    generalize firstC MS.flushC (Ms.take q) = fa at *
    clear hm hM V
    by_cases h0 : fa = 0
    · subst h0
      rw [if_pos rfl] at HF
      go_wp2_with (go_at_call 72;refine HQ.out.mono ?_;rintro e w5 ⟨rfl,v5⟩)
      go_roundw
      case rel => exact ⟨q + 1,by omega,by go_num,by rw [HF.out],hid v5⟩
      case measure => simp [intOf];omega
    · have u0 : (fa == 0) = false:=by simpa using h0
      rw [if_neg h0] at HF
      go_wp2_with (go_at_call 72;refine HQ.out.mono ?_;rintro e w5 ⟨rfl,v5⟩)
      go_roundw
      case rel => exact ⟨q + 1,by omega,by go_num,by rw [HF.out],hid v5⟩
      case measure => simp [intOf];omega
  · obtain rfl : q = n:=by omega
    have hd : decide ((q : Int) < (q : Int)) = false:=by simp
    have e1 : Ms.take q = Ms:=by rw [List.take_of_length_le (by have:=HN.out;have:=HL.out;omega)]
    have e2 : q = Ms.length:=by have:=HN.out;have:=HL.out;omega
    have V2:=hid V.out
    rw [e2,upTo_all] at V2
    rw [e1]
    clear hlt hq e1 e2 V
    go_wp2_with fail
    go_ret
    exact ⟨rfl,V2.out⟩
theorem yresync_any (h : YA w0 rs w l X Ms wr) (o : YOk X) (ok : ∀ M ∈ Ms,SysOk M.s) (ht : ∀ M ∈ Ms,M.s.T + 2 * M.s.len (!M.c0) < 998800) :
 Calls Tryz.prog 41 #[.pointer (some ⟨X.yb,0,none⟩)] w fun e w' => e = .returned (.tuple #[.int .i64 (rsN Ms),.int .i64 (firstC (fun M => M.rs.2.2) Ms)]) ∧ YA w0 rs w' l X (Ms.map fun M => M.rs.1) wr:=by
 have hl:=h.len.1
 obtain ⟨g,hg⟩ : ∃ g : MS → MS,(fun M : MS => M.rs.1) = g:=⟨_,rfl⟩
 obtain ⟨F,hF⟩ : ∃ F : MS → Int,(fun M : MS => M.rs.2.2) = F:=⟨_,rfl⟩
 obtain ⟨c,hv,h1,h2,hb,hcell⟩:=h.shape o
 have HC:=hid fun (w1 : World) (q : Nat) (m : Nat) (hm : X.ys[q]? = some m) (h1 : YA w0 rs w1 l X (upTo g Ms q) wr) => (show w1.cell? ⟨X.rb,q,none⟩ = some (.pointer (some ⟨m,0,none⟩)) from by
  obtain ⟨c2,hv2,_,_,hb2,hcell2⟩:=h1.shape o
  exact hcell2 q m hm)
 have HK:=hid fun (w1 : World) (q : Nat) (h1 : YA w0 rs w1 l X (upTo g Ms q) wr) => (show w1.cell? ⟨X.yb,0,none⟩ = some (.slice (some ⟨X.rb,0,none⟩) X.ys.length c) from by
  obtain ⟨c2,hv2,_,_,hb2,hcell2⟩:=h1.shape o
  rw [hv] at hv2
  obtain rfl : c = c2:=by simpa using hv2
  exact hb2.cell 0)
 have HV : Hid (YA w0 rs w l X (upTo g Ms 0) wr):=hid (by rw [upTo_0];exact h)
 have HT':=hid fun (q : Nat) (M : MS) (m : Nat) (w1 : World) (hM : Ms[q]? = some M) (hm : X.ys[q]? = some m) (hv : YA w0 rs w1 l X (upTo g Ms q) wr) => (show Calls Tryz.prog 75 #[.pointer (some ⟨m,0,none⟩)] w1 fun e w' => e = .returned (.tuple #[.int .i64 (M.rs.2.1 : Int),.int .i64 (F M)]) ∧ YA w0 rs w' l X (upTo g Ms (q + 1)) wr from by
  have hmem:=List.mem_of_getElem? hM
  have h9:=ys_at hv (upTo_get _ hM) hm (ok M hmem) (ht M hmem)
  have e9 : M.rs.1 = g M:=by rw [← hg]
  have e8 : M.rs.2.2 = F M:=by rw [← hF]
  rw [e9,e8,upTo_set _ hM] at h9
  exact h9)
 have hn8:=o.h8
 have HL:=hid hl
 obtain ⟨n,hn⟩ : ∃ n,X.ys.length = n:=⟨_,rfl⟩
 have HN:=hid hn
 rw [hn] at hn8 HK
 rw [hg,hF]
 clear h hb hcell hv h1 h2 hl hn ok ht hg hF
 go_enter Tryz.func41,Tryz.ntmps41
 go_wp2_with fail
 go_loopw [6,4,5] (fun iv nv av wr1 => ∃ q : Nat,q ≤ n ∧ iv = .int .i64 (q : Int) ∧ nv = .int .i64 (rsN (Ms.take q)) ∧ av = .int .i64 (firstC F (Ms.take q)) ∧ Hid (YA w0 rs wr1 l X (upTo g Ms q) wr)) (fun iv _ _ _ => n - (intOf iv).toNat)
 case atStart => exact ⟨0,by omega,rfl,rfl,rfl,HV⟩
 case round =>
  obtain ⟨q,hq,rfl,rfl,rfl,V⟩:=hrel
  clear HV
  have hk:=HK.out _ q V.out
  by_cases hlt : q < n
  · have hd : decide ((q : Int) < (n : Int)) = true:=by simp;omega
    have hdn : decide (q < n) = true:=by simp;omega
    obtain ⟨m,hm⟩ : ∃ m,X.ys[q]? = some m:=⟨_,List.getElem?_eq_getElem (by have:=HN.out;omega)⟩
    obtain ⟨M,hM⟩ : ∃ M,Ms[q]? = some M:=⟨_,List.getElem?_eq_getElem (by have:=HN.out;have:=HL.out;omega)⟩
    have hc:=HC.out _ q m hm V.out
    have HQ:=hid (HT'.out q M m _ hM hm V.out)
    have HF:=hid (firstC_succ F hM)
    have HR:=hid (rsN_succ hM)
    have hq8 : (q : Int) ≤ 8:=by omega
    generalize F M = fm at *
    generalize firstC F (Ms.take q) = fa at *
    generalize rsN (Ms.take q) = ra at *
    obtain ⟨d,hd9⟩ : ∃ d : Int,(M.rs.2.1 : Int) = d:=⟨_,rfl⟩
    rw [hd9] at HQ HR
    obtain ⟨s9,hs9⟩ : ∃ s9 : Int,IntKind.i64.wrap (ra + d) = s9:=⟨_,rfl⟩
    have hadd : ∀ ty,binOp .add ty (.int .i64 ra) (.int .i64 d) = pure (.int .i64 s9):=fun ty => by
     show pure (Value.int .i64 (IntKind.i64.wrap (ra + d))) = _
     rw [hs9]
    rw [hs9] at HR
    clear hm hM V hd9 hs9
    by_cases h0 : fa = 0
    · subst h0
      rw [if_pos rfl] at HF
      go_wp2_with (go_at_call 75;refine HQ.out.mono ?_;rintro e w5 ⟨rfl,v5⟩)
      go_roundw
      case rel => exact ⟨q + 1,by omega,by go_num,by rw [HR.out],by rw [HF.out],hid v5⟩
      case measure => simp [intOf];omega
    · have u0 : (fa == 0) = false:=by simpa using h0
      rw [if_neg h0] at HF
      go_wp2_with (go_at_call 75;refine HQ.out.mono ?_;rintro e w5 ⟨rfl,v5⟩)
      go_roundw
      case rel => exact ⟨q + 1,by omega,by go_num,by rw [HR.out],by rw [HF.out],hid v5⟩
      case measure => simp [intOf];omega
  · obtain rfl : q = n:=by omega
    have hd : decide ((q : Int) < (q : Int)) = false:=by simp
    have e1 : Ms.take q = Ms:=by rw [List.take_of_length_le (by have:=HN.out;have:=HL.out;omega)]
    have e2 : q = Ms.length:=by have:=HN.out;have:=HL.out;omega
    have V2:=hid V.out
    rw [e2,upTo_all] at V2
    rw [e1]
    clear hlt hq e1 e2 V
    go_wp2_with fail
    go_ret2
    exact ⟨rfl,V2.out⟩
end
end Go.Proofs.YtgafefecookgaaaGreat
namespace Go.Xr
open Go Go.RowKit
theorem quiet_bin_S {P : Program} {ops : Array Oper} {S : World → Prop} {a : Act} {o : Oper} {rest : List Oper} {Q' : Act → Prop} (hg : Region.wanted o (yielded ops a.tmps) = true) (op : BinOp) (t ty : TypeId) (x y : Operand) (ho : o.op = .binOp op t x y ty) (xv yv : Value) (hx : a.eval x = xv) (hy : a.eval y = yv) (v : Value)
 (hG : ∀ w,(eqGuard op t x y xv yv).run P w = .ok () w) (hr : ∀ w,S w → (binOp op t xv yv).run P w = .ok v w) (h : wpQuiet P ops S Q' rest (a.put o.dst v)) : wpQuiet P ops S Q' (o :: rest) a:=by
 refine wpQuiet_step fun K hK => ?_
 rw [if_pos hg]
 refine ⟨v,fun w hC => ?_,hK _ h⟩
 unfold Oper.quietAt execOp
 simp only [ho,hx,hy,Sem.run_bind,Sem.run_pure,Result.andThen_ok,hG w,hr w hC]
 exact ⟨rfl,rfl⟩
end Go.Xr
namespace Go.Proofs.YtgafefecookgaaaGreat
open Go Go.Xr Go.RowKit
def dsX (ss : List XS) : List (XS × Bool):=ss.flatMap fun s => [(s,false),(s,true)]
theorem dsX_len (ss : List XS) : (dsX ss).length = 2 * ss.length:=by
 induction ss with
 | nil => rfl
 | cons s ss ih =>
   show ((s,false) :: (s,true) :: dsX ss).length = _
   simp only [List.length_cons,ih]
   omega
theorem dsX_row : ∀ ss : List XS,rowD (ss.map XS.x) = (dsX ss).map fun q => Value.pointer (some ⟨q.1.x q.2,0,none⟩)
 | [] => rfl
 | s :: ss => by
   have ih:=dsX_row ss
   show pv (some (s.x false)) :: pv (some (s.x true)) :: rowD (ss.map XS.x) = _
   rw [ih]
   rfl
section
variable {w w' w0 : World} {l rs : List Res} {ss : List XS} {k : Nat} {s : XS}
theorem xss_held (h : Held w (l ++ xssC ss)) (hk : ss[k]? = some s) : Held w ((l ++ xssC (ss.eraseIdx k)) ++ xsC s):=by
 refine h.perm ?_
 rw [List.append_assoc]
 exact (flat_erase xsC ss k s hk).append_left l
theorem xss_dk (h : Held w (l ++ xssC ss)) (q : XS × Bool) (hq : q ∈ dsX ss) : q.1.x q.2 ∈ q.1.GG q.2 ∧ Pln w (q.1.x q.2):=by
 obtain ⟨s,hs,hq⟩:=List.mem_flatMap.1 hq
 obtain ⟨k,hk,e⟩:=List.getElem_of_mem hs
 have h1:=xss_held h (by rw [List.getElem?_eq_getElem hk,e])
 have h2 : Held w (sysX [] s.s s.x s.GG):=Held.part (l ++ xssC (ss.eraseIdx k)) [] (by rw [List.append_nil];exact h1)
 rcases List.mem_cons.1 hq with rfl | hq
 · exact ⟨xdk_mem (h2.at 1 rfl),(h2.at 1 rfl).2⟩
 · obtain rfl:=List.mem_singleton.1 hq
   exact ⟨xdk_mem (h2.at 2 rfl),(h2.at 2 rfl).2⟩
theorem dsX_feet : ∀ ss : List XS,(xssC ss).flatMap (fun r : Res => r.F) = (dsX ss).flatMap fun q => q.1.GG q.2
 | [] => rfl
 | s :: ss => by
   have ih:=dsX_feet ss
   show (sysX [] s.s s.x s.GG ++ xssC ss).flatMap _ = ((s,false) :: (s,true) :: dsX ss).flatMap _
   rw [List.flatMap_append,ih]
   simp [sysX,Res.pows,xdk]
theorem xss_nodup (h : Held w (l ++ xssC ss)) : ((dsX ss).map fun q => q.1.x q.2).Nodup:=by
 have h1:=h.apart
 rw [List.flatMap_append,List.nodup_append] at h1
 have h2:=h1.2.1
 rw [dsX_feet] at h2
 exact nodup_picks (fun q : XS × Bool => q.1.GG q.2) (fun q => q.1.x q.2) (dsX ss) h2 (fun q hq => (xss_dk h q hq).1)
theorem xss_ne (h : Held w (l ++ xssC ss)) {i k : Nat} {q p : XS × Bool} (hi : (dsX ss)[i]? = some q) (hk : (dsX ss)[k]? = some p) (hne : k < i) :
 (binOp .eql 39 (.pointer (some ⟨q.1.x q.2,0,none⟩)) (.pointer (some ⟨p.1.x p.2,0,none⟩))).run Tryz.prog w = .ok (.bool false) w:=by
 refine run_ptr_ne (xss_dk h q (List.mem_of_getElem? hi)).2 (xss_dk h p (List.mem_of_getElem? hk)).2 (fun e => ?_) Tryz.underlying39 rfl (by decide)
 have nd:=xss_nodup h
 obtain ⟨h1,e1⟩:=List.getElem?_eq_some_iff.1 hi
 obtain ⟨h2,e2⟩:=List.getElem?_eq_some_iff.1 hk
 have:=nodup_inj nd (i:=i) (j:=k) (by simpa using h1) (by simpa using h2) (by simp [e1,e2,e])
 omega
end
section
variable {w w' w0 : World} {l rs : List Res}
theorem nil2_false {B n c i : Nat} {a b : Value} (h0 : w.cell? ⟨B,i,none⟩ = some a) (h1 : w.cell? ⟨B,i + 1,none⟩ = some b) (hi : i + 1 < n) (hn : n ≤ 16) :
 Calls Tryz.prog 26 #[.slice (some ⟨B,0,none⟩) n c,.int .i64 (i : Int),.bool false] w fun e w' => e = .returned (.tuple #[a,b]) ∧ Fr [] w w':=by
 have hs : w.drew.cell? ⟨B,i,none⟩ = some a ∧ w.drew.cell? ⟨B,i + 1,none⟩ = some b:=⟨h0,h1⟩
 have f0 : Fr [] w w.drew:=(Fr.refl [] w).drew
 have hn2 : (n : Int) ≤ 16:=by omega
 have hi2 : (i : Int) + 1 < n:=by omega
 have hi3 : (i : Int) ≤ 16:=by omega
 clear h0 h1
 go_enter Tryz.func26,Tryz.ntmps26
 go_wp2_with fail
 refine wp_region_D (fun w' => w'.cell? ⟨B,i,none⟩ = some a ∧ w'.cell? ⟨B,i + 1,none⟩ = some b) false [] (by kernel_rfl) ?_
 refine WD.pure [0,1,2,3,4,5,6,7,8,9,10] (by kernel_rfl) hs ?_
 simp only [pick,aF,aG,aI,aJ,aK]
 repeat (first | (refine quiet_load_1R (by rfl) _ _ rfl rfl a (fun wq h => h.1) _ Tryz.underlying39 rfl ?_;simp only [aA,aB,Act.put,aC,aD,aE]) | (refine quiet_load_1R (by rfl) _ _ rfl rfl b (fun wq h => h.2) _ Tryz.underlying39 rfl ?_;simp only [aA,aB,Act.put,aC,aD,aE]) | go_big_quiet_step (fail))
 refine wpQuiet_nil ?_
 refine WD.done (by kernel_rfl) ?_
 go_wp2_with fail
 go_ret2
 exact ⟨rfl,f0⟩
theorem nil2_true {v : Value} {i : Int} :
 Calls Tryz.prog 26 #[v,.int .i64 i,.bool true] w fun e w' => ∃ (d : Bool → Nat) (GG : Bool → List Nat),e = .returned (.tuple #[.pointer (some ⟨d false,0,none⟩),.pointer (some ⟨d true,0,none⟩)]) ∧ ∀ rs,Held w rs → Ev w rs w' (rs ++ sysX [] (sy (newXD 2) (newXD 2) []) d GG):=by
 have HN:=hid fun w1 : World => xnewp_ok (w:=w1) 2 (by decide) (by decide)
 rw [show ((2 : Nat) : Int) = 2 from rfl] at HN
 go_enter Tryz.func26,Tryz.ntmps26
 go_wp2_with (first
  | (go_at_call 22;refine (HN.out _).mono ?_;rintro e w1 ⟨x0,i0,rfl,v1,p1⟩;have V1:=hid (And.intro v1 p1);clear v1 p1;have nst:=hid trivial;revert nst))
 intro _
 go_wp2_with (first
  | (go_at_call 22;refine (HN.out _).mono ?_;rintro e w2 ⟨x1,i1,rfl,v2,p2⟩;have V2:=hid (And.intro v2 p2);clear v2 p2 HN))
 go_ret2
 refine ⟨dd2 x0 x1,ff2 (feetOf (xps x0 (newXD 2) none i0)) (feetOf (xps x1 (newXD 2) none i1)),rfl,fun rs hrs => ?_⟩
 have a1:=(Ev.refl hrs).new V1.out.1.nil (xdk_new V1.out.1.held V1.out.2 []) (fun b hb => by rcases V1.out.1.low b hb with h | h;cases h;exact h)
 have a2:=a1.new V2.out.1.nil (xdk_new V2.out.1.held V2.out.2 []) (fun b hb => by rcases V2.out.1.low b hb with h | h;cases h;exact h)
 have a3:=a2.new (Fr.refl [] _) (pows0 _) (fun b hb => by simp [Res.pows] at hb)
 refine Ev.perm a3 ?_
 show (Res.pows [] [] :: xdk x1 (newXD 2) [] none _ :: xdk x0 (newXD 2) [] none _ :: rs).Perm (rs ++ [Res.pows [] [],xdk x0 (newXD 2) [] none _,xdk x1 (newXD 2) [] none _])
 exact (List.Perm.cons _ (List.Perm.swap _ _ _)).trans (List.perm_append_comm (l₁:=[Res.pows [] [],xdk x0 (newXD 2) [] none _,xdk x1 (newXD 2) [] none _]) (l₂:=rs))
theorem sy2_ok : SysOk (sy (newXD 2) (newXD 2) []):=sy_ok (mt_newXD_good (by decide) (by decide)) (mt_newXD_good (by decide) (by decide)) []
theorem make_spare {d : Bool → Nat} {GG : Bool → List Nat} (h : Held w (rs ++ sysX [] (sy (newXD 2) (newXD 2) []) d GG)) :
 Calls Tryz.prog 25 #[.pointer (some ⟨d false,0,none⟩),.pointer (some ⟨d true,0,none⟩)] w fun e w' => ∃ m,e = .returned (.tuple #[.pointer (some ⟨m,0,none⟩),.int .i64 0]) ∧ Ev w (rs ++ sysX [] (sy (newXD 2) (newXD 2) []) d GG) w' rs:=by
 have hl:=sy_len 2 2 []
 refine (pmake_ok h sy2_ok (by rw [sy_T];decide) (by unfold Sys.mayC;rw [hl.1,hl.2];decide) rfl rfl).mono ?_
 rintro e w' ⟨m,db,ib,FF',rfl,ev⟩
 exact ⟨m,rfl,Ev.headL ev⟩
end
end Go.Proofs.YtgafefecookgaaaGreat
