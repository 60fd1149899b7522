/- Several texts put together: PmA, PmB, PmC, PmD, PmE, PmF, PmG. What each shows stands ahead of it. -/
import Derived.Test.YtgafefecookgaaaGreatGMirA
import Derived.Test.YtgafefecookgaaaGreatGMirB
import Derived.Test.YtgafefecookgaaaGreatGSha
open Go.World renaming size_alloc → aA,size_drew → aB
open List renaming setIfInBounds_toArray → aC,set_cons_succ → aD,set_cons_zero → aE,toList_toArray → aF,map_cons → aG,map_nil → aI,getD_cons_succ → aJ,getD_cons_zero → aK
set_option linter.unusedVariables false
set_option linter.unusedSimpArgs false
set_option maxRecDepth 20000
set_option maxHeartbeats 16000000
namespace Go.Proofs.YtgafefecookgaaaGreat
open Go Go.Xr Go.RowKit
section
variable {w : World} {x qb : Nat} {X : XD} {lf : Option Nat} {px : Option (Nat × Nat)} {i : XI}
theorem pwrite_x (hx : Held w (Res.pow (mk qb lf) :: xps x X (mk qb lf) i)) (hX : XGood X) (hl : X.L.length < 1000000) (ht : X.Trace.length < 1000000) (I : Int) (S : ByteArray) (hS : S.size ≤ 9223372036854775807) :
 Calls Tryz.prog 59 #[.pointer (some ⟨x,0,none⟩),.int .i64 I,.string S] w fun e w' => e = .returned (.int .i64 (wrC X lf I S)) ∧ ∃ i',Ev w (Res.pow (mk qb lf) :: xps x X (mk qb lf) i) w' (Res.pow (mk qb (wrL X lf I S)) :: xps x (wrX X lf I S) (mk qb (wrL X lf I S)) i'):=by
 have e3 : mayN X (mk qb lf) I S true = wrC X lf I S:=mayN_mk X qb 0 lf I _ _
 rcases mayN_cases X (mk 0 lf) I S true with h3 | h3
 · obtain ⟨hd,⟨q,rfl,hq⟩,hs⟩:=mayN_ok h3
   have e1 : wrC X lf q S = 0:=h3
   have e2 : wrX X lf q S = { X with L:=X.L ++ [(q,S)],Trace:=X.Trace ++ [(q : Int)] }:=by unfold wrX;rw [if_pos e1,Int.toNat_natCast]
   have e4 : wrL X lf q S = lf.map (· - 1):=by unfold wrL;rw [if_pos e1]
   have ho : offB (mk qb lf) = false:=by
    rw [offB_mk qb 0]
    unfold xdead at hd
    cases hh : offB (mk 0 lf) with
    | false => rfl
    | true => rw [hh] at hd;simp at hd
   refine (xwrite_ok hx q S hS (by rw [e3];exact e1) ho hl ht).mono ?_
   rintro e w' ⟨rfl,i',ev⟩
   rw [e1,e2,e4]
   rw [mk_dec] at ev
   exact ⟨rfl,i',ev⟩
 · have hne : wrC X lf I S ≠ 0:=by show mayN X (mk 0 lf) I S true ≠ 0;rcases h3 with h | h <;> omega
   refine (xwrite_err hx I S hS _ e3 (by unfold wrC;exact h3)).mono ?_
   rintro e w' ⟨rfl,rfl⟩
   refine ⟨rfl,i,?_⟩
   unfold wrX wrL
   rw [if_neg hne,if_neg hne]
   exact Ev.refl hx
theorem pflush_x (hx : Held w (Res.pow (mk qb lf) :: xps x X (mk qb lf) i)) (hX : XGood X) (hl : X.L.length < 1000000) (ht : X.Trace.length < 1000000) :
 Calls Tryz.prog 60 #[.pointer (some ⟨x,0,none⟩)] w fun e w' => e = .returned (.int .i64 (flC X lf)) ∧ ∃ i',Ev w (Res.pow (mk qb lf) :: xps x X (mk qb lf) i) w' (Res.pow (mk qb (flL X lf)) :: xps x (flX X lf) (mk qb (flL X lf)) i'):=by
 have e0 : xdead X (mk qb lf) = xdead X (mk 0 lf):=by unfold xdead;rw [offB_mk qb 0]
 unfold flC flX flL
 cases hd : xdead X (mk 0 lf) with
 | true =>
   refine (xflush_err hx (by rw [e0,hd])).mono ?_
   rintro e w' ⟨rfl,rfl⟩
   exact ⟨rfl,i,Ev.refl hx⟩
 | false =>
   refine (xflush_ok hx (by rw [e0,hd]) hX.pos hX.le (fun p hp => (hX.l512 p hp).2) hl ht).mono ?_
   rintro e w' ⟨rfl,i',ev⟩
   rw [mk_dec] at ev
   exact ⟨rfl,i',ev⟩
theorem Ev.xps1 {w' : World} {px' : Option (Nat × Nat)} {X' : XD} {i' : XI} (h : Held w (Res.pow px :: xps x X px i)) (ev : Ev w (xps x X px i) w' (xps x X' px i')) : Ev w (Res.pow px :: xps x X px i) w' (Res.pow px :: xps x X' px i'):=by
 have:=Ev.part [Res.pow px] [] (by rw [List.append_nil];exact h) ev
 rw [List.append_nil] at this
 exact this
theorem pfail_x (hx : Held w (Res.pow px :: xps x X px i)) (hX : XGood X) :
 Calls Tryz.prog 8 #[.pointer (some ⟨x,0,none⟩)] w fun e w' => e = .returned (.int .i64 0) ∧ ∃ i',Ev w (Res.pow px :: xps x X px i) w' (Res.pow px :: xps x (faX X) px i'):=by
 refine (xfail_any (Held.xpsOf hx) hX.le).mono ?_
 rintro e w' ⟨rfl,i',ev⟩
 exact ⟨rfl,i',Ev.xps1 (px':=px) hx ev⟩
theorem preplace_x (hx : Held w (Res.pow px :: xps x X px i)) :
 Calls Tryz.prog 10 #[.pointer (some ⟨x,0,none⟩)] w fun e w' => e = .returned (.int .i64 (if X.Dead then 0 else 3)) ∧ Ev w (Res.pow px :: xps x X px i) w' (Res.pow px :: xps x { X with Dead:=false } px i):=by
 refine (xreplace_any (Held.xpsOf hx)).mono ?_
 rintro e w' ⟨rfl,ev⟩
 exact ⟨rfl,Ev.xps1 (px':=px) hx ev⟩
theorem pread_x (hx : Held w (Res.pow (mk qb lf) :: xps x X (mk qb lf) i)) (hX : XGood X) (hl : X.L.length < 1000000) (j : Int) :
 Calls Tryz.prog 93 #[.pointer (some ⟨x,0,none⟩),.int .i64 j] w fun e w' => e = .returned (.tuple #[.string (rdS X lf j),.int .i64 (rdC X lf j)]) ∧ w' = w:=by
 have e0 : rdC X lf j = mayN X (mk 0 lf) j ⟨#[]⟩ false:=rfl
 have e3 : mayN X (mk qb lf) j ⟨#[]⟩ false = mayN X (mk 0 lf) j ⟨#[]⟩ false:=mayN_mk X qb 0 lf j _ _
 rcases mayN_cases X (mk 0 lf) j ⟨#[]⟩ false with h3 | h3
 · obtain ⟨hd,⟨q,rfl,hq⟩,_⟩:=mayN_ok h3
   refine (xread_ok hx q hq hX.le hl (by rw [e3,h3])).mono ?_
   rintro e w' ⟨rfl,rfl⟩
   refine ⟨?_,rfl⟩
   have e2 : rdS X lf (q : Int) = nowX X.L q X.Kept[q]:=by
    unfold rdS
    rw [if_pos h3,Int.toNat_natCast]
    simp [hq]
   rw [e0,h3,e2]
 · refine (xread_err hx j _ e3 h3).mono ?_
   rintro e w' ⟨rfl,rfl⟩
   have e2 : rdS X lf j = ⟨#[]⟩:=by
    unfold rdS
    rw [if_neg (by rcases h3 with h | h <;> omega)]
   rw [e0,e2]
   exact ⟨rfl,rfl⟩
end
def kpw (qbs : List Nat) (k : Option Nat) : Option (Nat × Nat):=k.map fun j => (qbs.getD j 0,0)
def xdk (x : Nat) (X : XD) (qbs : List Nat) (k : Option Nat) (F : List Nat) : Res:=⟨F,fun w => (∃ i,F = feetOf (xps x X (kpw qbs k) i) ∧ Held w (xps x X (kpw qbs k) i)) ∧ Pln w x⟩
theorem xps_left (x : Nat) (X : XD) (qbs : List Nat) (k lf : Option Nat) (h : lf.isSome = k.isSome) (i : XI) : xps x X (kpw qbs k) i = xps x X (mk (pbk qbs k) lf) i:=by
 cases k with
 | none =>
   cases lf with
   | none => rfl
   | some n => cases h
 | some j =>
   cases lf with
   | none => cases h
   | some n => rfl
theorem xps_mem (x : Nat) (X : XD) (pw : Option (Nat × Nat)) (i : XI) : x ∈ feetOf (xps x X pw i):=by simp [feetOf,xps,Res.blk]
theorem On.xdk {w : World} {x : Nat} {X : XD} {qbs : List Nat} {k lf : Option Nat} {i : XI} (h : Held w (xps x X (mk (pbk qbs k) lf) i)) (hl : lf.isSome = k.isSome) (hp : Pln w x) : (xdk x X qbs k (feetOf (xps x X (mk (pbk qbs k) lf) i))).On w:=by
 have h1 : Held w (xps x X (kpw qbs k) i):=by rw [xps_left x X qbs k lf hl];exact h
 refine ⟨fun w w' hs h => ⟨(ex_loc (ps:=xps x X (kpw qbs k))) w w' hs h.1,h.2.same (hs x ?_ h.2.lt)⟩,⟨⟨i,by rw [xps_left x X qbs k lf hl],h1⟩,hp⟩,h.ltAll,h.apart⟩
 show x ∈ feetOf (xps x X (mk (pbk qbs k) lf) i)
 exact xps_mem x X (mk (pbk qbs k) lf) i
theorem pow_of {w : World} {pw : Option (Nat × Nat)} {rs : List Res} (h : Held w (Res.pow pw :: rs)) : pwOk w pw:=h.so (Res.pow pw) (by simp)
theorem pow_ne {w : World} {pw : Option (Nat × Nat)} {rs : List Res} (h : Held w (Res.pow pw :: rs)) : ∀ y ∈ pwF pw,y ∉ feetOf rs:=by
 have ha:=h.apart
 rw [List.flatMap_cons,List.nodup_append] at ha
 exact fun y hy hy2 => ha.2.2 y hy y hy2 rfl
section
variable {w w' : World} {pbs L : List Nat} {d : Nat} {X X' : XD} {k lf' : Option Nat} {F : List Nat} {i' : XI}
theorem xone_op (h : Held w [Res.pows pbs L,xdk d X pbs k F]) (hk : ∀ j,k = some j → j < L.length) : ∃ i,F = feetOf (xps d X (mk (pbk pbs k) (lfk L k)) i) ∧ Held w (Res.pow (mk (pbk pbs k) (lfk L k)) :: xps d X (mk (pbk pbs k) (lfk L k)) i):=by
 have hp:=h.at 0 rfl
 obtain ⟨⟨i,hF,hi⟩,hpl⟩:=h.at 1 rfl
 have hls : (lfk L k).isSome = k.isSome:=by cases k <;> rfl
 rw [xps_left d X pbs k _ hls] at hF hi
 refine ⟨i,hF,?_⟩
 cases k with
 | none => exact hi.new (pow0 w) (fun b hb => by cases hb)
 | some j =>
   have hj:=hk j rfl
   have hj' : j < pbs.length:=by rw [hp.1];exact hj
   have e1 : pbs.getD j 0 = pbs[j]:=by simp [hj']
   have e2 : L.getD j 0 = L[j]:=by simp [hj]
   refine hi.new (On.pow ?_) (fun b hb r hr hbr => ?_)
   · show pwOk w (some (pbs.getD j 0,L.getD j 0))
     rw [e1,e2]
     exact hp.2 j _ _ (List.getElem?_eq_getElem hj') (List.getElem?_eq_getElem hj)
   · have hb : b = pbs[j]:=by simpa [Res.pow,pwF,mk,lfk,pbk,hj'] using hb
     have:=h.idx_ne (i:=0) (j:=1) (by decide) rfl rfl b (by rw [hb];exact List.getElem_mem hj')
     refine this ?_
     show b ∈ F
     rw [hF]
     exact List.mem_flatMap.2 ⟨r,hr,hbr⟩
theorem xone_put (h : Held w [Res.pows pbs L,xdk d X pbs k F]) (hk : ∀ j,k = some j → j < L.length) (hs : lf'.isSome = k.isSome) {i : XI} (hFi : F = feetOf (xps d X (mk (pbk pbs k) (lfk L k)) i))
 (ev : Ev w (Res.pow (mk (pbk pbs k) (lfk L k)) :: xps d X (mk (pbk pbs k) (lfk L k)) i) w' (Res.pow (mk (pbk pbs k) lf') :: xps d X' (mk (pbk pbs k) lf') i')) :
 Ev w [Res.pows pbs L,xdk d X pbs k F] w' [Res.pows pbs (setk L k lf'),xdk d X' pbs k (feetOf (xps d X' (mk (pbk pbs k) lf') i'))]:=by
 obtain ⟨F',hF'e⟩ : ∃ F',feetOf (xps d X' (mk (pbk pbs k) lf') i') = F':=⟨_,rfl⟩
 have hp:=h.at 0 rfl
 have hnd:=h.nodup1 (a:=Res.pows pbs L) (by simp)
 have hne:=h.idx_ne (i:=0) (j:=1) (by decide) rfl rfl
 have hlt : ∀ b ∈ pbs,b < w.heap.size:=h.lt (Res.pows pbs L) (by simp)
 have hF : feetOf (Res.pow (mk (pbk pbs k) (lfk L k)) :: xps d X (mk (pbk pbs k) (lfk L k)) i) = pwF (mk (pbk pbs k) (lfk L k)) ++ F:=by rw [hFi];simp [feetOf,Res.pow]
 have hF' : feetOf (Res.pow (mk (pbk pbs k) lf') :: xps d X' (mk (pbk pbs k) lf') i') = pwF (mk (pbk pbs k) lf') ++ F':=by rw [← hF'e];simp [feetOf,Res.pow]
 have hlow:=ev.low
 have hfr:=ev.fr
 rw [hF] at hlow hfr
 rw [hF'] at hlow
 have hpin : ∀ b ∈ pwF (mk (pbk pbs k) (lfk L k)),b ∈ pbs:=by
  intro b hb
  cases k with
  | none => cases hb
  | some j =>
    have hj' : j < pbs.length:=by rw [hp.1];exact hk j rfl
    have hb : b = pbs[j]:=by simpa [pwF,mk,lfk,pbk,hj'] using hb
    rw [hb]
    exact List.getElem_mem hj'
 have hd' : (xdk d X' pbs k F').On w':=by
  rw [← hF'e]
  exact On.xdk (Held.xpsOf ev.held) hs (hfr.plain d (h.at 1 rfl).2)
 have hFn : ∀ b ∈ F',b ∈ F ∨ w.heap.size ≤ b:=by
  intro b hb
  rcases hlow b (List.mem_append_right _ hb) with h1 | h1
  · rcases List.mem_append.1 h1 with h2 | h2
    · have hb2:=pow_ne ev.held b
      have e : pwF (mk (pbk pbs k) lf') = pwF (mk (pbk pbs k) (lfk L k)):=by
       cases k with
       | none => cases lf' with
         | none => rfl
         | some n => cases hs
       | some j => cases lf' with
         | none => cases hs
         | some n => rfl
      rw [e,hF'e] at hb2
      exact absurd hb (hb2 h2)
    · exact .inl h2
  · exact .inr h1
 have hpow : (Res.pows pbs (setk L k lf')).On w':=by
  refine ⟨fun w w' hs h => pows_loc hs h,⟨?_,fun j b n hb hn => ?_⟩,fun b hb => Nat.lt_of_lt_of_le (hlt b hb) hfr.size,hnd⟩
  · rw [hp.1]
    unfold setk
    split <;> simp
  · by_cases hj : k = some j
    · subst hj
      cases lf' with
      | none => cases hs
      | some n' =>
        have hjl:=hk j rfl
        have e1 : (L.set j n')[j]? = some n':=by rw [List.getElem?_set_self hjl]
        have hn' : n = n':=by
         have : (L.set j n')[j]? = some n:=hn
         rw [e1] at this
         exact (Option.some.inj this).symm
        have hj' : j < pbs.length:=by rw [hp.1];exact hjl
        have e2 : pbk pbs (some j) = b:=by
         unfold pbk
         simp only [Option.getD_some,List.getD_eq_getElem?_getD,hb]
        have:=pow_of ev.held
        rw [e2] at this
        rw [hn']
        exact this
    · have hn2 : L[j]? = some n:=by
       unfold setk at hn
       split at hn
       · rename_i j' n'
         rw [List.getElem?_set_ne (fun e => hj (by rw [e]))] at hn
         exact hn
       · exact hn
      have h1:=hp.2 j b n hb hn2
      refine ⟨h1.1.same (hfr.block b h1.1.lt ?_),h1.2⟩
      intro hbm
      rcases List.mem_append.1 hbm with h2 | h2
      · cases k with
        | none => cases h2
        | some j' =>
          have hj' : j' < pbs.length:=by rw [hp.1];exact hk j' rfl
          have hb2 : b = pbs[j']:=by simpa [pwF,mk,lfk,pbk,hj'] using h2
          obtain ⟨hjl,hjb⟩:=List.getElem?_eq_some_iff.1 hb
          have : j = j':=nodup_inj hnd hjl hj' (hjb.trans hb2)
          exact hj (by rw [this])
      · exact hne b (List.mem_of_getElem? hb) h2
 rw [hF'e]
 refine ⟨(Held.one hd').new hpow fun b hb r hr => ?_,hfr.mono (fun y hy => .inl ?_),fun b hb => ?_⟩
 · obtain rfl:=List.mem_singleton.1 hr
   intro hb'
   rcases hFn b hb' with h1 | h1
   · exact hne b hb h1
   · have:=hlt b hb
     omega
 · have e : feetOf [Res.pows pbs L,xdk d X pbs k F] = pbs ++ F:=by simp [feetOf,Res.pows,xdk]
   rw [e]
   rcases List.mem_append.1 hy with h2 | h2
   · exact List.mem_append_left _ (hpin y h2)
   · exact List.mem_append_right _ h2
 · have e1 : feetOf [Res.pows pbs (setk L k lf'),xdk d X' pbs k F'] = pbs ++ F':=by simp [feetOf,Res.pows,xdk]
   have e2 : feetOf [Res.pows pbs L,xdk d X pbs k F] = pbs ++ F:=by simp [feetOf,Res.pows,xdk]
   rw [e1] at hb
   rw [e2]
   rcases List.mem_append.1 hb with h2 | h2
   · exact .inl (List.mem_append_left _ h2)
   · rcases hFn b h2 with h3 | h3
     · exact .inl (List.mem_append_right _ h3)
     · exact .inr h3
end
def sysX (pbs : List Nat) (s : Sys) (d : Bool → Nat) (FF : Bool → List Nat) : List Res :=
 [Res.pows pbs s.L,xdk (d false) (s.X false) pbs (s.k false) (FF false),xdk (d true) (s.X true) pbs (s.k true) (FF true)]
section
variable {w w' w0 : World} {l rs : List Res} {pbs : List Nat} {s : Sys} {d : Bool → Nat} {FF : Bool → List Nat}
theorem xys_part (b : Bool) (h : Held w (l ++ sysX pbs s d FF)) : Held w [Res.pows pbs s.L,xdk (d b) (s.X b) pbs (s.k b) (FF b)]:=by
 have h2 : Held w (sysX pbs s d FF):=Held.part l [] (by simpa using h)
 cases b
 · exact h2.pick [0,1] (by decide) rfl
 · exact h2.pick [0,2] (by decide) rfl
theorem xys_lift (b : Bool) (e : Ev w0 rs w (l ++ sysX pbs s d FF)) {X' : XD} {lf' : Option Nat} {F' : List Nat} (ev : Ev w [Res.pows pbs s.L,xdk (d b) (s.X b) pbs (s.k b) (FF b)] w' [Res.pows pbs (setk s.L (s.k b) lf'),xdk (d b) X' pbs (s.k b) F']) :
 Ev w0 rs w' (l ++ sysX pbs (s.put b X' lf') d (fun c => if c = b then F' else FF c)):=by
 cases b
 · have:=Ev.then l [xdk (d true) (s.X true) pbs (s.k true) (FF true)] (by rw [List.append_assoc];exact e) ev
   rw [List.append_assoc] at this
   exact this
 · have p : (sysX pbs s d FF).Perm ([Res.pows pbs s.L,xdk (d true) (s.X true) pbs (s.k true) (FF true)] ++ [xdk (d false) (s.X false) pbs (s.k false) (FF false)]):=List.Perm.cons _ (List.Perm.swap _ _ _)
   have e1:=Ev.perm e (p.append_left l)
   have:=Ev.then l [xdk (d false) (s.X false) pbs (s.k false) (FF false)] (by rw [List.append_assoc];exact e1) ev
   rw [List.append_assoc] at this
   exact Ev.perm this (List.Perm.append_left l (List.Perm.cons _ (List.Perm.swap _ _ _)))
theorem xW (b : Bool) (h : Held w (l ++ sysX pbs s d FF)) (ok : SysOk s) (ht : s.T < 1000000) (I : Int) (S : ByteArray) (hS : S.size ≤ 9223372036854775807) :
 Calls Tryz.prog 59 #[.pointer (some ⟨d b,0,none⟩),.int .i64 I,.string S] w fun e w' => e = .returned (.int .i64 (s.wrC b I S)) ∧ ∃ FF',Ev w (l ++ sysX pbs s d FF) w' (l ++ sysX pbs (s.wr b I S) d FF'):=by
 have hp:=xys_part b h
 have hT:=T_le s b
 obtain ⟨i,hF,hx⟩:=xone_op hp (ok.k b)
 refine (pwrite_x hx (ok.g b) (by omega) (by omega) I S hS).mono ?_
 rintro e w' ⟨rfl,i',ev⟩
 exact ⟨rfl,_,xys_lift b (Ev.refl h) (xone_put hp (ok.k b) (by rw [wrL_some];exact lf_some s b) hF ev)⟩
theorem xF (b : Bool) (h : Held w (l ++ sysX pbs s d FF)) (ok : SysOk s) (ht : s.T < 1000000) :
 Calls Tryz.prog 60 #[.pointer (some ⟨d b,0,none⟩)] w fun e w' => e = .returned (.int .i64 (s.flC b)) ∧ ∃ FF',Ev w (l ++ sysX pbs s d FF) w' (l ++ sysX pbs (s.fl b) d FF'):=by
 have hp:=xys_part b h
 have hT:=T_le s b
 obtain ⟨i,hF,hx⟩:=xone_op hp (ok.k b)
 refine (pflush_x hx (ok.g b) (by omega) (by omega)).mono ?_
 rintro e w' ⟨rfl,i',ev⟩
 exact ⟨rfl,_,xys_lift b (Ev.refl h) (xone_put hp (ok.k b) (by rw [flL_some];exact lf_some s b) hF ev)⟩
theorem xR (b : Bool) (h : Held w (l ++ sysX pbs s d FF)) (ok : SysOk s) (ht : s.T < 1000000) (j : Int) :
 Calls Tryz.prog 93 #[.pointer (some ⟨d b,0,none⟩),.int .i64 j] w fun e w' => e = .returned (.tuple #[.string (s.rdS b j),.int .i64 (s.rdC b j)]) ∧ w' = w:=by
 have hT:=T_le s b
 obtain ⟨i,hF,hx⟩:=xone_op (xys_part b h) (ok.k b)
 exact pread_x hx (ok.g b) (by omega) j
theorem xsee (b : Bool) (h : Held w (l ++ sysX pbs s d FF)) (ok : SysOk s) : ∃ (kb c : Nat) (lv tv pv : Value),Blk w (d b) [.slice (some ⟨kb,0,none⟩) (s.len b) c,lv,tv,.bool (s.X b).Dead,pv] ∧ Pln w (d b):=by
 have hp:=xys_part b h
 obtain ⟨i,hF,hx⟩:=xone_op hp (ok.k b)
 have hb:=(Held.xpsOf hx).blkAt 0 rfl
 have ho:=(Held.xpsOf hx).at 1 rfl
 have hpos:=(ok.g b).pos
 obtain ⟨kb,c,_,hv,_,_,_⟩:=own_open ho hpos
 rw [hv] at hb
 exact ⟨kb,c,_,_,_,hb,(hp.at 1 rfl).2⟩
end
theorem pinf5 : ∃ i,Tryz.prog.info? 5 = some i ∧ i.zero = some (bt 0) ∧ i.size = 1 ∧ i.bytes = 1:=⟨_,rfl,rfl,rfl,rfl⟩
theorem rsuper_any {w : World} (gen : UInt64) (n : Nat) (hn : n ≤ 16384) : Calls Tryz.prog 58 #[W64 gen,.int .i64 (n : Int)] w fun e w' => e = .returned (.string (supS gen n)) ∧ Fr [] w w':=by
 obtain ⟨i5,hi5,hz5,hs5,hb5⟩:=pinf5
 have Hi:=hid hi5
 have Hz:=hid hz5
 have Hs:=hid hs5
 have Hb:=hid hb5
 have h4 : (UInt64.ofNat n).toNat = n:=by rw [UInt64.toNat_ofNat'];omega
 have H1:=hid (show (⟨#[67,79,70,77]⟩ ++ ⟨(leN gen.toNat 8).toArray⟩ ++ ⟨(leN n 4).toArray⟩ : ByteArray) = supH gen n from rfl)
 have H2:=hid (show (supH gen n ++ shaS (supH gen n)) ++ ⟨(List.replicate 464 0).toArray⟩ = supS gen n from rfl)
 have H4:=supH2_size gen n
 have h32:=hid fun w : World => rcd.num_any (w:=w) (UInt64.ofNat n) 4 (by decide)
 rw [h4,show W64 (UInt64.ofNat n) = .int .u64 (n : Int) by unfold W64;rw [h4]] at h32
 have h64:=hid fun w : World => rcd.num_any (w:=w) gen 8 (by decide)
 have g1 : (⟨(leN gen.toNat 8).toArray⟩ : ByteArray).size ≤ 8:=by rw [size_mk',leN_len];omega
 have g2 : (⟨(leN n 4).toArray⟩ : ByteArray).size ≤ 4:=by rw [size_mk',leN_len];omega
 obtain ⟨LZ,hLZ⟩ : ∃ L : List UInt8,List.replicate 464 0 = L:=⟨_,rfl⟩
 have HLZ:=hid (show List.replicate 464 (bt 0) = bv LZ by rw [← hLZ,bv_replicate])
 have HLl:=hid (show LZ.length = 464 by rw [← hLZ,List.length_replicate])
 have g3 : (⟨LZ.toArray⟩ : ByteArray).size ≤ 464:=by rw [size_mk',← hLZ,List.length_replicate];omega
 have g4 : (supH gen n).size ≤ 16:=by rw [supH_size];omega
 rw [hLZ] at H2
 clear hLZ
 generalize supS gen n = Z at *
 generalize supH gen n = H at *
 generalize (⟨(leN gen.toNat 8).toArray⟩ : ByteArray) = G at *
 generalize (⟨(leN n 4).toArray⟩ : ByteArray) = M at *
 have g5 : (⟨#[67,79,70,77]⟩ ++ G ++ M : ByteArray).size ≤ 16:=by rw [H1.out];exact g4
 have hof:=hid fun w : World => rof_any (w:=w) H (by omega)
 have g6 : (shaS H).size ≤ 32:=by rw [shaS_size];omega
 generalize shaS H = D at *
 have h48 : (⟨#[67,79,70,77]⟩ ++ G ++ M ++ D : ByteArray).size = 48:=by rw [H1.out];exact H4
 have HZ:=hid (show ⟨#[67,79,70,77]⟩ ++ G ++ M ++ D ++ ⟨LZ.toArray⟩ = Z by rw [H1.out,H2.out])
 rw [← H1.out] at hof
 clear H4 g4 H1 H2 hi5 hz5 hs5 hb5 h4
 go_enter Tryz.func58,Tryz.ntmps58
 go_wp2_with (first
  | (go_at_call 88;refine (h64.out _).mono ?_;rintro e w1 ⟨rfl,f1⟩;clear h64)
  | (go_at_call 88;refine (h32.out _).mono ?_;rintro e w2 ⟨rfl,f2⟩;clear h32)
  | (go_at_call 89;refine (hof.out _).mono ?_;rintro e w3 ⟨rfl,f3⟩)
  | (refine wpList_make_blk rfl _ _ _ rfl 464 464 .i64 .i64 rfl rfl 5 _ _ 1 Tryz.underlying119 Hi.out Hz.out Hs.out Hb.out rfl (Nat.le_refl _) (by decide) (by decide) ?_;intro w4 f4 hlt4 hb4;rw [HLZ.out] at hb4;simp only [aA,aB,Act.put,aC,aD,aE])
  | (refine wpList_string_of_bytes rfl 119 9 5 _ rfl 464 464 rfl hb4 LZ HLl.out (by rw [List.drop_zero];exact List.take_of_length_le (by rw [bv_length,HLl.out];exact Nat.le_refl _)) Tryz.underlying119 Tryz.underlying5 Tryz.underlying9 ?_;simp only [aA,aB,Act.put,aC,aD,aE]))
 go_ret
 rw [HZ.out]
 exact ⟨rfl,((f1.trans' f2).trans' f3).trans' f4⟩
theorem num_step8 (b : UInt8) (r : List UInt8) (h : r.length < 8) : shl64 (UInt64.ofNat (leV r)) 8 ||| b.toUInt64 = UInt64.ofNat (leV (b :: r)):=by
 have h1:=leV_lt r
 have hb:=b.toNat_lt
 have h24 : (256 : Nat) ^ r.length ≤ 256 ^ 7:=Nat.pow_le_pow_right (by decide) (by omega)
 apply UInt64.toNat_inj.1
 rw [or_nat,shl64_nat,UInt64.toNat_ofNat',UInt64.toNat_ofNat',UInt8.toNat_toUInt64,Nat.mod_eq_of_lt (by omega),Nat.mod_eq_of_lt (by omega),leV,Nat.mod_eq_of_lt (by omega)]
 rw [Nat.mul_comm,← Nat.two_pow_add_eq_or_of_lt (show b.toNat < 2 ^ 8 by omega)]
 omega
theorem pbytes_any {w : World} {p : Nat} (s : ByteArray) (h : Blk w p [.string s,.int .i64 4,.int .i64 0]) (hs : s.size = 512) : Calls Tryz.prog 125 #[.pointer (some ⟨p,0,none⟩),.int .i64 8] w fun e w' => e = .returned (.string (s.extract 4 12)) ∧ Fr [p] w w':=by
 have k0 : w.cell? ⟨p,0,none⟩ = some (.string s):=h.cell 0
 have k1 : w.cell? ⟨p,1,none⟩ = some (.int .i64 4):=h.cell 1
 have k2 : w.cell? ⟨p,2,none⟩ = some (.int .i64 0):=h.cell 2
 have h0 : w.drew.cell? ⟨p,0,none⟩ = some (.string s):=k0
 have h1 : w.drew.cell? ⟨p,1,none⟩ = some (.int .i64 4):=k1
 have hsi : (s.size : Int) = 512:=by omega
 have hd2 : decide ((508 : Int) < 8) = false:=rfl
 have hb2:=h.drew.drew
 go_enter Tryz.func125,Tryz.ntmps125
 go_wp2_with fail
 refine wp_region_D (fun _ => True) false [] (by kernel_rfl) ?_
 refine WD.pure [0,1,2,3,4,5,6,7,8,9,10,11] (by kernel_rfl) trivial ?_
 simp only [pick,aF,aG,aI,aJ,aK]
 repeat (first | go_big_quiet_step (fail))
 refine wpQuiet_nil ?_
 refine WD.done (by kernel_rfl) ?_
 clear h0 h1
 have h0 : w.drew.drew.cell? ⟨p,0,none⟩ = some (.string s):=k0
 have h1 : w.drew.drew.cell? ⟨p,1,none⟩ = some (.int .i64 4):=k1
 go_wp2_with fail
 refine wp_region_D (fun _ => True) false [] (by kernel_rfl) ?_
 refine WD.pure [0,1,2,3,4,5,6,7,8,9,10,11,12,13,14,15] (by kernel_rfl) trivial ?_
 simp only [pick,aF,aG,aI,aJ,aK]
 repeat (first | (refine quiet_slice_vW (by rfl) _ _ _ _ rfl _ rfl _ _ rfl rfl (.string (s.extract 4 12)) (fun w0 _ => run_slice_s w0 _ Tryz.underlying9 s .i64 .i64 _ _ 4 12 rfl rfl (by omega) (by omega)) ?_;simp only [aA,aB,Act.put,aC,aD,aE]) | go_big_quiet_step (fail))
 refine wpQuiet_nil ?_
 refine WD.done (by kernel_rfl) ?_
 go_wp2_with (refine wpList_put rfl _ _ _ rfl rfl (.int .i64 12) rfl rfl hb2 (by simp) (by kernel_rfl) ?_;intro w2 f2 b2 hs2;simp only [aA,aB,Act.put,aC,aD,aE])
 go_ret
 exact ⟨rfl,((((Fr.refl [p] w).drew).drew).trans' f2)⟩
theorem cv8_64p (w : World) (a : UInt8) : (convert 5 109 (bt a)).run Tryz.prog w = .ok (W64 a.toUInt64) w:=conv_u8_u64 w _ _ a Tryz.underlying5 Tryz.underlying109 rfl
attribute [local go_sem] or_u64 shl_u64 cv8_64p
theorem gen_take (s : ByteArray) (hs : s.size = 512) : UInt64.ofNat (leV ((s.extract 4 12).data.toList.drop 0)) = genS s:=by
 unfold genS tell8
 rw [List.drop_zero,ByteArray.data_extract,ByteArray.data_extract,Array.toList_extract,Array.toList_extract,List.extract_eq_take_drop,List.extract_eq_take_drop,List.take_take]
 have e : min 8 (s.size - 4) = 8:=by omega
 rw [e]
theorem pnum_any {w : World} {p : Nat} (s : ByteArray) (h : Blk w p [.string s,.int .i64 4,.int .i64 0]) (hs : s.size = 512) : Calls Tryz.prog 94 #[.pointer (some ⟨p,0,none⟩),.int .i64 8] w fun e w' => e = .returned (W64 (genS s)) ∧ Fr [p] w w':=by
 have Hb:=hid (pbytes_any s h hs)
 obtain ⟨D,hD⟩ : ∃ D,s.extract 4 12 = D:=⟨_,rfl⟩
 have HDs:=hid (show D.size = 8 by rw [← hD,ByteArray.size_extract];omega)
 obtain ⟨L,hL⟩ : ∃ L,D.data.toList = L:=⟨_,rfl⟩
 have HLl:=hid (show L.length = 8 by rw [← hL,Array.length_toList];exact HDs.out)
 have HDl:=hid hL
 have Hfin:=hid (show UInt64.ofNat (leV (L.drop 0)) = genS s by rw [← hL,← hD];exact gen_take s hs)
 have hDi : (D.size : Int) = 8:=by rw [HDs.out];rfl
 rw [hD] at Hb
 clear hD hL h hs
 go_enter Tryz.func94,Tryz.ntmps94
 go_wp2_with fail
 refine Hb.out.mono ?_
 rintro e w1 ⟨rfl,f1⟩
 go_wp2_with fail
 go_loopw [6,7] (fun xv iv wr => ∃ i : Nat,i ≤ 8 ∧ iv = .int .i64 ((i : Int) - 1) ∧ xv = W64 (UInt64.ofNat (leV (L.drop i))) ∧ wr = w1) (fun _ iv _ => (intOf iv + 1).toNat)
 case atStart => exact ⟨8,by decide,by first | rfl | simp,by rw [List.drop_eq_nil_of_le (by rw [HLl.out];exact Nat.le_refl _)];rfl,rfl⟩
 case round =>
  obtain ⟨i,hi,rfl,rfl,rfl⟩:=hrel
  cases i with
  | zero =>
    have hd : decide ((0 : Int) ≤ ((0 : Nat) : Int) - 1) = false:=by decide
    rw [Hfin.out]
    clear hi
    go_wp2_with fail
    go_ret
    exact ⟨rfl,f1⟩
  | succ q =>
    rw [show (((q + 1 : Nat) : Int) - 1) = (q : Int) by omega]
    have hqL : q < L.length:=by rw [HLl.out];omega
    obtain ⟨X,hX⟩ : ∃ X,g8 L q = X:=⟨_,rfl⟩
    have hge : L[q] = X:=by
     have:=g8_eq L q hqL
     rw [List.getElem?_eq_getElem hqL,hX] at this
     exact Option.some.inj this
    have Hst:=hid (show shl64 (UInt64.ofNat (leV (L.drop (q + 1)))) 8 ||| X.toUInt64 = UInt64.ofNat (leV (L.drop q)) by
     rw [num_step8 X (L.drop (q + 1)) (by rw [List.length_drop,HLl.out];omega),← hge,← List.drop_eq_getElem_cons hqL])
    obtain ⟨V,hV⟩ : ∃ V,UInt64.ofNat (leV (L.drop (q + 1))) = V:=⟨_,rfl⟩
    rw [hV] at Hst ⊢
    have hix : ∀ w0 : World,(Instr.index 9 (.string D) (.int .i64 (q : Int))).run Tryz.prog w0 = .ok (bt X) w0:=fun w0 => by
     rw [← hX,← HDl.out]
     exact index_str (P:=Tryz.prog) w0 9 D .i64 q q Tryz.underlying9 rfl (by rw [HDs.out];omega) 0
    have hq4 : (q : Int) ≤ 7:=by omega
    clear hX hge hV
    go_wp2_with fail
    go_roundw
    case rel => exact ⟨q,by omega,rfl,by rw [← Hst.out],by first | rfl | trivial⟩
    case measure => simp [intOf]
section
variable {w w' w0 : World} {l rs : List Res} {pbs : List Nat} {s : Sys} {d : Bool → Nat} {FF FF' : Bool → List Nat}
theorem pstamp_any (b : Bool) (h : Held w (l ++ sysX pbs s d FF)) (ok : SysOk s) (ht : s.T < 1000000) :
 Calls Tryz.prog 61 #[.pointer (some ⟨d b,0,none⟩)] w fun e w' => e = .returned (.tuple #[W64 (s.stG b),.bool (s.stO b)]) ∧ Fr [] w w':=by
 have hR:=hid (xR b h ok ht 0)
 have hsz:=mt_rd_size (ok.g b) (s.lf b) 0
 unfold Sys.stG Sys.stO
 by_cases hz : s.rdC b 0 = 0
 · have hS : (s.rdS b 0).size = 512:=hsz hz
   rw [if_pos hz,if_pos hz]
   rw [hz] at hR
   obtain ⟨kb,kc,lv,tv,pv,hb,_⟩:=xsee b h ok
   have hn:=(len_pos ok b).2
   generalize s.rdS b 0 = S at *
   generalize s.len b = n at *
   generalize d b = db at *
   have h2:=hid fun (w1 : World) (p : Nat) (hb : Blk w1 p [.string S,.int .i64 4,.int .i64 0]) => pnum_any S hb hS
   have h3:=hid fun w1 : World => rsuper_any (w:=w1) (genS S) n hn
   have HB:=hid fun (w1 : World) (f : Fr [] w w1) => ((f.blk hb (by simp)).cell 0 : w1.cell? ⟨db,0,none⟩ = some (.slice (some ⟨kb,0,none⟩) n kc))
   generalize genS S = g at *
   generalize supS g n = Z at *
   clear h ok hsz hz hb ht
   go_enter Tryz.func61,Tryz.ntmps61
   go_wp2_with (first
    | (go_at_call 93;with_reducible refine hR.out.mono ?_;rintro e w5 ⟨rfl,hw⟩;subst hw)
    | (refine wpList_box rfl _ _ rfl [.string S,.int .i64 4,.int .i64 0] rfl ?_;intro w6 f6 hlt6 hb6;simp only [aA,aB,Act.put,aC,aD,aE])
    | (go_at_call 94;refine (h2.out _ _ hb6).mono ?_;rintro e w7 ⟨rfl,f7⟩;have F7:=hid (f6.trans f7 (fun x hx => .inr (by simp at hx;omega)));have kk:=HB.out _ F7.out)
    | (go_at_call 58;refine (h3.out _).mono ?_;rintro e w9 ⟨rfl,f9⟩))
   go_ret2
   rw [← mt_beq]
   exact ⟨rfl,F7.out.trans' f9⟩
 · rw [if_neg hz,if_neg hz]
   have u0 : (s.rdC b 0 != 0) = true:=by simpa using hz
   generalize s.rdC b 0 = c at *
   generalize d b = db at *
   clear h ok hsz hz
   go_enter Tryz.func61,Tryz.ntmps61
   go_wp2_with (first
    | (go_at_call 93;with_reducible refine hR.out.mono ?_;rintro e w5 ⟨rfl,hw⟩;subst hw))
   go_ret2
   exact ⟨rfl,Fr.refl [] _⟩
end
end Go.Proofs.YtgafefecookgaaaGreat
namespace Go.Proofs.YtgafefecookgaaaGreat
open Go Go.Xr Go.RowKit
def isR (ib : Nat) (M : MS) : Res:=⟨[ib],fun w => ∃ a0 a1 : Int,Blk w ib [.int .i64 a0,.int .i64 a1] ∧ M.c0 = decide (a0 = 0) ∧ M.c1 = decide (a1 = 0)⟩
def gmL (db ib : Nat) (g : UInt64) : List Value:=[.slice (some ⟨db,0,none⟩) 2 2,.slice (some ⟨ib,0,none⟩) 2 2,W64 g]
def dbL (d : Bool → Nat) : List Value:=[.pointer (some ⟨d false,0,none⟩),.pointer (some ⟨d true,0,none⟩)]
def mirX (pbs : List Nat) (m db ib : Nat) (d : Bool → Nat) (FF : Bool → List Nat) (M : MS) : List Res:=[Res.blk m (gmL db ib M.g),Res.blk db (dbL d),isR ib M] ++ sysX pbs M.s d FF
theorem isR_on {w : World} {ib : Nat} {M : MS} {a0 a1 : Int} (hb : Blk w ib [.int .i64 a0,.int .i64 a1]) (h0 : M.c0 = decide (a0 = 0)) (h1 : M.c1 = decide (a1 = 0)) : (isR ib M).On w :=
 ⟨fun w w' hs ⟨a0,a1,h,e⟩ => ⟨a0,a1,h.same (hs ib (List.mem_singleton.2 rfl) h.lt),e⟩,⟨a0,a1,hb,h0,h1⟩,fun b hb2 => by
  obtain rfl:=List.mem_singleton.1 hb2
  exact hb.lt,List.pairwise_singleton _ _⟩
section
variable {w w' w0 : World} {l rs : List Res} {pbs : List Nat} {m db ib : Nat} {M M' : MS} {d : Bool → Nat} {FF FF' : Bool → List Nat}
theorem xir_sys (h : Held w (l ++ mirX pbs m db ib d FF M)) : Held w ((l ++ [Res.blk m (gmL db ib M.g),Res.blk db (dbL d),isR ib M]) ++ sysX pbs M.s d FF):=by rw [List.append_assoc];exact h
theorem xir_three (h : Held w (l ++ mirX pbs m db ib d FF M)) : Held w [Res.blk m (gmL db ib M.g),Res.blk db (dbL d),isR ib M]:=Held.part l (sysX pbs M.s d FF) (by rw [List.append_assoc];exact h)
theorem xir_blk (h : Held w (l ++ mirX pbs m db ib d FF M)) : Blk w m (gmL db ib M.g):=(xir_three h).blkAt 0 rfl
theorem xir_dbl (h : Held w (l ++ mirX pbs m db ib d FF M)) : Blk w db (dbL d):=(xir_three h).blkAt 1 rfl
theorem xir_is (h : Held w (l ++ mirX pbs m db ib d FF M)) : ∃ a0 a1 : Int,Blk w ib [.int .i64 a0,.int .i64 a1] ∧ M.c0 = decide (a0 = 0) ∧ M.c1 = decide (a1 = 0):=(xir_three h).at 2 rfl
theorem xir_ev {s' : Sys} (ev : Ev w ((l ++ [Res.blk m (gmL db ib M.g),Res.blk db (dbL d),isR ib M]) ++ sysX pbs M.s d FF) w' ((l ++ [Res.blk m (gmL db ib M.g),Res.blk db (dbL d),isR ib M]) ++ sysX pbs s' d FF')) : Ev w (l ++ mirX pbs m db ib d FF M) w' (l ++ mirX pbs m db ib d FF' { M with s:=s' }):=by
 rw [List.append_assoc,List.append_assoc] at ev
 exact ev
theorem xir_gen (e : Ev w0 rs w (l ++ mirX pbs m db ib d FF M)) (f : Fr [m] w w') {g : UInt64} (hb : Blk w' m (gmL db ib g)) : Ev w0 rs w' (l ++ mirX pbs m db ib d FF { M with g:=g }):=by
 have e2:=Ev.then l (sysX pbs M.s d FF) (ps:=[Res.blk m (gmL db ib M.g),Res.blk db (dbL d),isR ib M]) (by rw [List.append_assoc];exact e) ((Ev.refl (xir_three e.held)).at 0 rfl f (fun b hb => .inl hb) (Res.On.blk hb) (fun b hb => .inl hb))
 rw [List.append_assoc] at e2
 exact e2
theorem xir_put (e : Ev w0 rs w (l ++ mirX pbs m db ib d FF M)) (f : Fr [ib] w w') {a0 a1 : Int} (hb : Blk w' ib [.int .i64 a0,.int .i64 a1]) (hs : M'.s = M.s) (hg : M'.g = M.g) (h0 : M'.c0 = decide (a0 = 0)) (h1 : M'.c1 = decide (a1 = 0)) : Ev w0 rs w' (l ++ mirX pbs m db ib d FF M'):=by
 have e2:=Ev.then l (sysX pbs M.s d FF) (ps:=[Res.blk m (gmL db ib M.g),Res.blk db (dbL d),isR ib M]) (by rw [List.append_assoc];exact e) ((Ev.refl (xir_three e.held)).at 2 rfl f (fun b hb => .inl hb) (isR_on (M:=M') hb h0 h1) (fun b hb => .inl hb))
 rw [List.append_assoc] at e2
 unfold mirX
 rw [hs,hg]
 exact e2
theorem pW (b : Bool) (h : Held w (l ++ mirX pbs m db ib d FF M)) (ok : SysOk M.s) (ht : M.s.T < 1000000) (I : Int) (S : ByteArray) (hS : S.size ≤ 9223372036854775807) :
 Calls Tryz.prog 59 #[.pointer (some ⟨d b,0,none⟩),.int .i64 I,.string S] w fun e w' => e = .returned (.int .i64 (M.s.wrC b I S)) ∧ ∃ FF',Ev w (l ++ mirX pbs m db ib d FF M) w' (l ++ mirX pbs m db ib d FF' { M with s:=M.s.wr b I S }):=by
 refine (xW b (xir_sys h) ok ht I S hS).mono ?_
 rintro e w' ⟨rfl,FF',ev⟩
 exact ⟨rfl,FF',xir_ev ev⟩
theorem pF (b : Bool) (h : Held w (l ++ mirX pbs m db ib d FF M)) (ok : SysOk M.s) (ht : M.s.T < 1000000) :
 Calls Tryz.prog 60 #[.pointer (some ⟨d b,0,none⟩)] w fun e w' => e = .returned (.int .i64 (M.s.flC b)) ∧ ∃ FF',Ev w (l ++ mirX pbs m db ib d FF M) w' (l ++ mirX pbs m db ib d FF' { M with s:=M.s.fl b }):=by
 refine (xF b (xir_sys h) ok ht).mono ?_
 rintro e w' ⟨rfl,FF',ev⟩
 exact ⟨rfl,FF',xir_ev ev⟩
theorem any_of (M : MS) {a0 a1 : Int} (h0 : M.c0 = decide (a0 = 0)) (h1 : M.c1 = decide (a1 = 0)) : (!M.any) = ((a0 != 0) && (a1 != 0)):=by
 unfold MS.any
 rw [h0,h1]
 by_cases e0 : a0 = 0 <;> by_cases e1 : a1 = 0 <;> simp [e0,e1]
theorem plost_any (h : Held w (l ++ mirX pbs m db ib d FF M)) : Calls Tryz.prog 102 #[.pointer (some ⟨m,0,none⟩)] w fun e w' => e = .returned (.bool (!M.any)) ∧ w' = w:=by
 obtain ⟨a0,a1,hi,h0,h1⟩:=xir_is h
 rw [any_of M h0 h1]
 have k1 : w.cell? ⟨m,1,none⟩ = some (.slice (some ⟨ib,0,none⟩) 2 2):=(xir_blk h).cell 1
 have i0 : w.cell? ⟨ib,0,none⟩ = some (.int .i64 a0):=hi.cell 0
 have i1 : w.cell? ⟨ib,1,none⟩ = some (.int .i64 a1):=hi.cell 1
 clear h h0 h1 hi
 cases e0 : (a0 != 0) with
 | false =>
   go_enter Tryz.func102,Tryz.ntmps102
   go_wp2_with fail
   go_ret
   exact ⟨rfl,rfl⟩
 | true =>
   go_enter Tryz.func102,Tryz.ntmps102
   go_wp2_with fail
   go_ret
   exact ⟨by simp,rfl⟩
theorem pleft_any (h : Held w (l ++ mirX pbs m db ib d FF M)) : Calls Tryz.prog 106 #[.pointer (some ⟨m,0,none⟩)] w fun e w' => e = .returned (.int .i64 M.leftC) ∧ w' = w:=by
 have H:=hid (plost_any h)
 unfold MS.leftC
 cases ha : M.any with
 | false =>
   rw [ha] at H
   clear h ha
   go_enter Tryz.func106,Tryz.ntmps106
   go_wp2_with (go_at_call 102;refine H.out.mono ?_;rintro e w1 ⟨rfl,rfl⟩)
   go_ret
   exact ⟨rfl,rfl⟩
 | true =>
   rw [ha] at H
   clear h ha
   go_enter Tryz.func106,Tryz.ntmps106
   go_wp2_with (go_at_call 102;refine H.out.mono ?_;rintro e w1 ⟨rfl,rfl⟩)
   go_ret
   exact ⟨rfl,rfl⟩
theorem psee (b : Bool) (h : Held w (l ++ mirX pbs m db ib d FF M)) (ok : SysOk M.s) : ∃ (kb c : Nat),w.cell? ⟨d b,0,none⟩ = some (.slice (some ⟨kb,0,none⟩) (M.s.len b) c) ∧ w.cell? ⟨d b,3,none⟩ = some (.bool (M.s.X b).Dead):=by
 obtain ⟨kb,c,lv,tv,pv,hb,_⟩:=xsee b (xir_sys h) ok
 exact ⟨kb,c,hb.cell 0,hb.cell 3⟩
theorem plen_any (h : Held w (l ++ mirX pbs m db ib d FF M)) (ok : SysOk M.s) : Calls Tryz.prog 48 #[.pointer (some ⟨m,0,none⟩)] w fun e w' => e = .returned (.int .i64 ((M.s.len false : Int) - 1)) ∧ w' = w:=by
 have k0 : w.cell? ⟨m,0,none⟩ = some (.slice (some ⟨db,0,none⟩) 2 2):=(xir_blk h).cell 0
 have d0 : w.cell? ⟨db,0,none⟩ = some (.pointer (some ⟨d false,0,none⟩)):=(xir_dbl h).cell 0
 obtain ⟨kb,c,hk,_⟩:=psee false h ok
 have hn:=(len_pos ok false).2
 have hn1:=(len_pos ok false).1
 generalize M.s.len false = n at *
 generalize d false = x at *
 clear h ok
 go_enter Tryz.func48,Tryz.ntmps48
 go_wp2_with fail
 go_ret
 exact ⟨rfl,rfl⟩
def mayB (n : Nat) (i : Int) : Bool:=decide (0 ≤ i) && decide (i < (n : Int) - 1)
theorem pmay_any (h : Held w (l ++ mirX pbs m db ib d FF M)) (ok : SysOk M.s) (i : Int) : Calls Tryz.prog 101 #[.pointer (some ⟨m,0,none⟩),.int .i64 i] w fun e w' => e = .returned (.bool (mayB (M.s.len false) i)) ∧ w' = w:=by
 have H:=hid (plen_any h ok)
 unfold mayB
 generalize M.s.len false = n at *
 clear h ok
 cases hd : decide (0 ≤ i) with
 | false =>
   go_enter Tryz.func101,Tryz.ntmps101
   go_wp2_with fail
   go_ret
   exact ⟨rfl,rfl⟩
 | true =>
   go_enter Tryz.func101,Tryz.ntmps101
   go_wp2_with (go_at_call 48;refine H.out.mono ?_;rintro e w1 ⟨rfl,rfl⟩)
   go_ret
   exact ⟨by simp,rfl⟩
end
section
variable {w w' w0 : World} {l rs : List Res} {pbs : List Nat} {m db ib : Nat} {M M' : MS} {d : Bool → Nat} {FF FF' : Bool → List Nat}
theorem plose0_false (h : Held w (l ++ mirX pbs m db ib d FF M)) (hc : M.c true = false) :
 Calls Tryz.prog 103 #[.pointer (some ⟨m,0,none⟩),.int .i64 0] w fun e w' => e = .returned (.tuple #[]) ∧ Ev w (l ++ mirX pbs m db ib d FF M) w' (l ++ mirX pbs m db ib d FF (M.off false)):=by
 obtain ⟨a0,a1,hi,h0,h1⟩:=xir_is h
 have k1 : w.cell? ⟨m,1,none⟩ = some (.slice (some ⟨ib,0,none⟩) 2 2):=(xir_blk h).cell 1
 have hany : (M.off false).any = false:=by
  unfold MS.any MS.off
  have hc2:=hc
  unfold MS.c at hc2
  simp at hc2 ⊢
  exact hc2
 have HE:=hid fun (w1 : World) (f : Fr [ib] w w1) (hb : Blk w1 ib [.int .i64 2,.int .i64 a1]) => xir_put (M':=M.off false) (Ev.refl h) f hb rfl rfl (by first | exact h0 | rfl) (by first | exact h1 | rfl)
 have HL:=hid fun (w1 : World) (h1 : Held w1 (l ++ mirX pbs m db ib d FF (M.off false))) => plost_any h1
 rw [hany] at HL
 clear h hc h0 h1 hany
 go_enter Tryz.func103,Tryz.ntmps103
 go_wp2_with (first
  | (refine wpList_put rfl _ _ _ rfl rfl (.int .i64 2) rfl rfl hi (by simp) (by kernel_rfl) ?_;intro w1 f1 b1 hs1;have E1:=HE.out w1 f1 b1;clear f1 b1 hs1;simp only [aA,aB,Act.put,aC,aD,aE])
  | (go_at_call 102;refine (HL.out _ E1.held).mono ?_;rintro e w2 ⟨rfl,rfl⟩))
 refine bodyPost_ret (results_none rfl _ _ _) rfl ?_
 exact ⟨rfl,E1⟩
theorem plose0_true (h : Held w (l ++ mirX pbs m db ib d FF M)) (hc : M.c false = false) :
 Calls Tryz.prog 103 #[.pointer (some ⟨m,0,none⟩),.int .i64 1] w fun e w' => e = .returned (.tuple #[]) ∧ Ev w (l ++ mirX pbs m db ib d FF M) w' (l ++ mirX pbs m db ib d FF (M.off true)):=by
 obtain ⟨a0,a1,hi,h0,h1⟩:=xir_is h
 have k1 : w.cell? ⟨m,1,none⟩ = some (.slice (some ⟨ib,0,none⟩) 2 2):=(xir_blk h).cell 1
 have hany : (M.off true).any = false:=by
  unfold MS.any MS.off
  have hc2:=hc
  unfold MS.c at hc2
  simp at hc2 ⊢
  exact hc2
 have HE:=hid fun (w1 : World) (f : Fr [ib] w w1) (hb : Blk w1 ib [.int .i64 a0,.int .i64 2]) => xir_put (M':=M.off true) (Ev.refl h) f hb rfl rfl (by first | exact h0 | rfl) (by first | exact h1 | rfl)
 have HL:=hid fun (w1 : World) (h1 : Held w1 (l ++ mirX pbs m db ib d FF (M.off true))) => plost_any h1
 rw [hany] at HL
 clear h hc h0 h1 hany
 go_enter Tryz.func103,Tryz.ntmps103
 go_wp2_with (first
  | (refine wpList_put rfl _ _ _ rfl rfl (.int .i64 2) rfl rfl hi (by simp) (by kernel_rfl) ?_;intro w1 f1 b1 hs1;have E1:=HE.out w1 f1 b1;clear f1 b1 hs1;simp only [aA,aB,Act.put,aC,aD,aE])
  | (go_at_call 102;refine (HL.out _ E1.held).mono ?_;rintro e w2 ⟨rfl,rfl⟩))
 refine bodyPost_ret (results_none rfl _ _ _) rfl ?_
 exact ⟨rfl,E1⟩
theorem stamp1_c (M : MS) (b : Bool) : (M.stamp1 b).c (!b) = M.c (!b):=by
 unfold MS.stamp1
 rw [flush1_c,stampW_c]
 rfl
theorem lose_c (M : MS) (b : Bool) : (M.lose b).c b = false:=by
 unfold MS.lose
 split
 · have h:=stamp1_c (M.off b) (!b)
   rw [Bool.not_not] at h
   rw [h,off_c]
   simp
 · rw [off_c]
   simp
theorem lose_work {M M1 : MS} {b : Bool} (hc : M.c (!b) = true) (h1 : M1 = { M.off b with g:=M.g + 1 }) {S : ByteArray} (hS : S = supS M1.g (M1.s.len (!b))) :
 (M1.s.wrC (!b) 0 S = 0 → (M1.s.wr (!b) 0 S).flC (!b) = 0 → M.lose b = { M1 with s:=(M1.s.wr (!b) 0 S).fl (!b) }) ∧
 (M1.s.wrC (!b) 0 S = 0 → (M1.s.wr (!b) 0 S).flC (!b) ≠ 0 → M.lose b = MS.off { M1 with s:=(M1.s.wr (!b) 0 S).fl (!b) } (!b)) ∧
 (M1.s.wrC (!b) 0 S ≠ 0 → M.lose b = MS.off { M1 with s:=M1.s.wr (!b) 0 S } (!b)):=by
 have hoc : (M.off b).c (!b) = true:=by rw [off_c];cases b <;> simpa using hc
 have e : M.lose b = (M1.stampW (!b)).flush1 (!b):=by
  unfold MS.lose
  rw [if_pos hoc,h1]
  rfl
 have hc1 : M1.c (!b) = true:=by rw [h1];exact hoc
 rw [e]
 subst hS
 obtain ⟨s1,hs1⟩ : ∃ s1,M1.s.wr (!b) 0 (supS M1.g (M1.s.len (!b))) = s1:=⟨_,rfl⟩
 have hcs : MS.c { M1 with s:=s1 } (!b) = true:=hc1
 have a : M1.stampW (!b) = if M1.s.wrC (!b) 0 (supS M1.g (M1.s.len (!b))) = 0 then { M1 with s:=s1 } else MS.off { M1 with s:=s1 } (!b):=by
  unfold MS.stampW MS.after
  rw [hs1]
 rw [hs1,a]
 refine ⟨fun e1 e2 => ?_,fun e1 e2 => ?_,fun e1 => ?_⟩
 · rw [if_pos e1]
   unfold MS.flush1 MS.after
   rw [if_pos hcs]
   exact if_pos e2
 · rw [if_pos e1]
   unfold MS.flush1 MS.after
   rw [if_pos hcs]
   exact if_neg e2
 · rw [if_neg e1]
   unfold MS.flush1
   rw [if_neg (by rw [off_c];simp)]
theorem plose_false (h : Held w (l ++ mirX pbs m db ib d FF M)) (ok : SysOk M.s) (ht : M.s.T < 999990) :
 Calls Tryz.prog 103 #[.pointer (some ⟨m,0,none⟩),.int .i64 0] w fun e w' => e = .returned (.tuple #[]) ∧ ∃ FF',Ev w (l ++ mirX pbs m db ib d FF M) w' (l ++ mirX pbs m db ib d FF' (M.lose false)):=by
 cases hc : M.c true with
 | false =>
   have e : M.lose false = M.off false:=lose0 (b:=false) hc
   rw [e]
   refine (plose0_false h hc).mono ?_
   rintro e w' ⟨rfl,ev⟩
   exact ⟨rfl,FF,ev⟩
 | true =>
 obtain ⟨a0,a1,hi,h0,h1⟩:=xir_is h
 have k1 : w.cell? ⟨m,1,none⟩ = some (.slice (some ⟨ib,0,none⟩) 2 2):=(xir_blk h).cell 1
 have hany : (M.off false).any = true:=by
  unfold MS.any MS.off
  have hc2:=hc
  unfold MS.c at hc2
  simp at hc2 ⊢
  exact hc2
 have HE:=hid fun (w1 : World) (f : Fr [ib] w w1) (hb : Blk w1 ib [.int .i64 2,.int .i64 a1]) => xir_put (M':=M.off false) (Ev.refl h) f hb rfl rfl (by first | exact h0 | rfl) (by first | exact h1 | rfl)
 have HL:=hid fun (w1 : World) (h1 : Held w1 (l ++ mirX pbs m db ib d FF (M.off false))) => plost_any h1
 rw [hany] at HL
 obtain ⟨M1,hM1⟩ : ∃ M1 : MS,M1 = { M.off false with g:=M.g + 1 }:=⟨_,rfl⟩
 obtain ⟨M2,hM2⟩ : ∃ M2 : MS,M.lose false = M2:=⟨_,rfl⟩
 have HW0:=lose_work (b:=false) (S:=supS M1.g (M1.s.len true)) hc hM1 rfl
 simp only [Bool.not_false,Bool.not_true] at HW0
 have HW:=hid HW0
 clear HW0
 rw [hM2] at HW ⊢
 have c1 : M1.c false = false:=by rw [hM1];rfl
 have c2 : M2.c false = false:=by rw [← hM2];exact lose_c M false
 have c1n : M1.c true = true:=by rw [hM1];exact (off_c M false true).trans hc
 have HM:=hid fun (w1 w2 : World) (e : Ev w (l ++ mirX pbs m db ib d FF M) w1 (l ++ mirX pbs m db ib d FF (M.off false))) (f : Fr [m] w1 w2) (hb : Blk w2 m (gmL db ib (M.g + 1))) => (show Ev w (l ++ mirX pbs m db ib d FF M) w2 (l ++ mirX pbs m db ib d FF M1) from by rw [hM1];exact xir_gen e f hb)
 have ok1 : SysOk M1.s:=by rw [hM1];exact ok
 have ht1 : M1.s.T < 999990:=by rw [hM1];exact ht
 have hadd : ∀ t,binOp .add t (W64 M.g) (.int .u64 1) = pure (W64 (M.g + 1)):=fun t => add_u64 t M.g 1
 clear h0 h1 hany hM1 hM2 hc ok ht h
 go_enter Tryz.func103,Tryz.ntmps103
 go_wp2_with (first
  | (refine wpList_put rfl _ _ _ rfl rfl (.int .i64 2) rfl rfl hi (by simp) (by kernel_rfl) ?_;intro w1 f1 b1 hs1;have E1:=hid (HE.out w1 f1 b1);clear f1 b1 hs1 HE;simp only [aA,aB,Act.put,aC,aD,aE])
  | (go_at_call 102;refine (HL.out _ E1.out.held).mono ?_;rintro e w2 ⟨rfl,e2⟩;have e2':=hid e2;rw [e2'.out];clear e2 HL;have bm:=xir_blk E1.out.held;have g2 : w1.cell? ⟨m,2,none⟩ = some (W64 M.g):=bm.cell 2)
  | (refine wpList_put rfl _ _ _ rfl rfl (W64 (M.g + 1)) rfl rfl bm (by simp [gmL]) (by kernel_rfl) ?_;intro w3 f3 b3 hs3;have E3:=hid (HM.out _ _ E1.out f3 b3);clear f3 b3 bm hs3 HM E1;simp only [aA,aB,Act.put,aC,aD,aE]))
 go_loopw [4] (fun kv wr => ∃ q : Nat,q ≤ 2 ∧ kv = .int .i64 (q : Int) ∧ ∃ FF',Hid (Ev w (l ++ mirX pbs m db ib d FF M) wr (l ++ mirX pbs m db ib d FF' (if q ≤ 1 then M1 else M2)))) (fun kv _ => 2 - (intOf kv).toNat)
 case atStart => exact ⟨0,by decide,rfl,FF,by rw [if_pos (by decide)];exact E3⟩
 case round =>
  obtain ⟨q,hq,rfl,FF1,E⟩:=hrel
  clear E3
  have hq3 : q = 1 ∨ q = 0 ∨ q = 2:=by omega
  rcases hq3 with rfl | rfl | rfl
  · rw [show ((1 : Nat) : Int) = 1 from rfl]
    rw [if_pos (by decide)] at E
    obtain ⟨b0,b1,hib,hb0,hb1⟩:=xir_is E.out.held
    obtain ⟨kb,kc,hkk,_⟩:=psee true E.out.held ok1
    have hz : b1 = 0:=by
     have : decide (b1 = 0) = true:=hb1.symm.trans c1n
     simpa using this
    have i1 : wr.cell? ⟨m,1,none⟩ = some (.slice (some ⟨ib,0,none⟩) 2 2):=(xir_blk E.out.held).cell 1
    have i2 : wr.cell? ⟨ib,1,none⟩ = some (.int .i64 0):=by rw [← hz];exact hib.cell 1
    have Ed:=hid (E.out.step (Fr.refl [] wr).drew)
    have hbd:=xir_blk Ed.out.held
    have hdd:=xir_dbl Ed.out.held
    have k0 : wr.drew.cell? ⟨m,0,none⟩ = some (.slice (some ⟨db,0,none⟩) 2 2):=hbd.cell 0
    have k2 : wr.drew.cell? ⟨m,2,none⟩ = some (W64 M1.g):=hbd.cell 2
    have d0 : wr.drew.cell? ⟨db,1,none⟩ = some (.pointer (some ⟨d true,0,none⟩)):=hdd.cell 1
    have x0 : wr.drew.cell? ⟨d true,0,none⟩ = some (.slice (some ⟨kb,0,none⟩) (M1.s.len true) kc):=hkk
    have hn:=(len_pos ok1 true).2
    have HSu:=hid fun w1 : World => rsuper_any (w:=w1) M1.g (M1.s.len true) hn
    have hSz:=supS_size M1.g (M1.s.len true)
    generalize supS M1.g (M1.s.len true) = Sb at *
    generalize M1.s.len true = n at *
    have HWr:=hid fun (w1 : World) (FF2 : Bool → List Nat) (h1 : Held w1 (l ++ mirX pbs m db ib d FF2 M1)) => pW true h1 ok1 (by omega) 0 Sb (by rw [hSz];decide)
    have okA : SysOk (M1.s.wr true 0 Sb):=(wr_stp M1.s true 0 Sb).ok ok1
    have htA : (M1.s.wr true 0 Sb).T ≤ M1.s.T + 2:=(wr_stp M1.s true 0 Sb).T ok1
    have HFl:=hid fun (w1 : World) (FF2 : Bool → List Nat) (h1 : Held w1 (l ++ mirX pbs m db ib d FF2 { M1 with s:=M1.s.wr true 0 Sb })) => pF true h1 okA (show (M1.s.wr true 0 Sb).T < 1000000 by omega)
    have HLA:=hid fun (w1 : World) (FF2 : Bool → List Nat) (h1 : Held w1 (l ++ mirX pbs m db ib d FF2 { M1 with s:=M1.s.wr true 0 Sb })) => plose0_true h1 (show M1.c false = false from c1)
    have HLB:=hid fun (w1 : World) (FF2 : Bool → List Nat) (h1 : Held w1 (l ++ mirX pbs m db ib d FF2 { M1 with s:=(M1.s.wr true 0 Sb).fl true })) => plose0_true h1 (show M1.c false = false from c1)
    obtain ⟨q1,q2,q3⟩:=HW.out
    obtain ⟨e1,he1⟩ : ∃ e1,M1.s.wrC true 0 Sb = e1:=⟨_,rfl⟩
    obtain ⟨e2,he2⟩ : ∃ e2,(M1.s.wr true 0 Sb).flC true = e2:=⟨_,rfl⟩
    simp only at HFl
    rw [he1] at q1 q2 q3 HWr
    rw [he2] at q1 q2 HFl
    clear he1 he2 okA htA hib hb0 hb1 hkk hz hn hSz HW c1 c2 c1n E
    by_cases z1 : e1 = 0
    · by_cases z2 : e2 = 0
      · have HQ:=hid (q1 z1 z2)
        subst z1 z2
        clear q1 q2 q3 HLA HLB
        go_wp2_with fail
        refine wp_region_D (fun w' => Blk w' m (gmL db ib M1.g) ∧ Blk w' db (dbL d)) false [] (by kernel_rfl) ?_
        refine WD.pure [7,8,9,10,11,12,13,14,15,16,17,18,19,20,21] (by kernel_rfl) ⟨hbd,hdd⟩ ?_
        simp only [pick,aF,aG,aI,aJ,aK]
        repeat (first | (refine quiet_load_1R (by rfl) _ _ rfl rfl (.slice (some ⟨db,0,none⟩) 2 2) (fun wq h => by first|exact h.1.cell 0|(rw [h];exact k0)) _ Tryz.underlying24 rfl ?_;simp only [aA,aB,Act.put,aC,aD,aE]) | (refine quiet_load_1R (by rfl) _ _ rfl rfl (.pointer (some ⟨d true,0,none⟩)) (fun wq h => by first|exact h.2.cell 1|(rw [h];exact d0)) _ Tryz.underlying39 rfl ?_;simp only [aA,aB,Act.put,aC,aD,aE]) | go_big_quiet_step (fail))
        refine wpQuiet_nil ?_
        refine WD.free [0,1,2,4] (by kernel_rfl) ⟨hbd,hdd⟩ ?_
        simp only [pick,aF,aG,aI,aJ,aK]
        repeat (first | go_big_quiet_step (fail))
        refine wpQuiet_nil ?_
        refine WD.held [3] (by kernel_rfl) ⟨hbd,hdd⟩ ?_
        simp only [pick,aF,aG,aI,aJ,aK]
        repeat (first | (refine quiet_load_1R (by rfl) _ _ rfl rfl (.slice (some ⟨db,0,none⟩) 2 2) (fun wq h => by first|exact h.1.cell 0|(rw [h];exact k0)) _ Tryz.underlying24 rfl ?_;simp only [aA,aB,Act.put,aC,aD,aE]) | (refine quiet_load_1R (by rfl) _ _ rfl rfl (.pointer (some ⟨d true,0,none⟩)) (fun wq h => by first|exact h.2.cell 1|(rw [h];exact d0)) _ Tryz.underlying39 rfl ?_;simp only [aA,aB,Act.put,aC,aD,aE]) | go_big_quiet_step (fail))
        refine wpQuiet_nil ?_
        refine WD.free [5] (by kernel_rfl) ⟨hbd,hdd⟩ ?_
        simp only [pick,aF,aG,aI,aJ,aK]
        repeat (first | go_big_quiet_step (fail))
        refine wpQuiet_nil ?_
        refine WD.held [6] (by kernel_rfl) ⟨hbd,hdd⟩ ?_
        simp only [pick,aF,aG,aI,aJ,aK]
        repeat (first | (refine quiet_load_1R (by rfl) _ _ rfl rfl (.slice (some ⟨db,0,none⟩) 2 2) (fun wq h => by first|exact h.1.cell 0|(rw [h];exact k0)) _ Tryz.underlying24 rfl ?_;simp only [aA,aB,Act.put,aC,aD,aE]) | (refine quiet_load_1R (by rfl) _ _ rfl rfl (.pointer (some ⟨d true,0,none⟩)) (fun wq h => by first|exact h.2.cell 1|(rw [h];exact d0)) _ Tryz.underlying39 rfl ?_;simp only [aA,aB,Act.put,aC,aD,aE]) | go_big_quiet_step (fail))
        refine wpQuiet_nil ?_
        refine WD.eff 22 (by kernel_rfl) ?_
        simp only [pick,aF,aG,aI,aJ,aK]
        go_wp2_with (go_at_call 58;refine (HSu.out _).mono ?_;rintro e w5 ⟨rfl,f5⟩;have E5:=hid (Ed.out.step f5);have b5:=xir_blk E5.out.held;have c5:=xir_dbl E5.out.held;clear f5 HSu)
        try refine wpList_nil ?_
        refine AfterD.on ⟨b5,c5⟩ (by kernel_rfl) ?_
        try simp only [aA,aB,Act.put,aC,aD,aE]
        refine WD.eff 23 (by kernel_rfl) ?_
        simp only [pick,aF,aG,aI,aJ,aK]
        go_wp2_with (go_at_call 59;refine (HWr.out _ _ E5.out.held).mono ?_;rintro e w6 ⟨rfl,FF6,v6⟩;have E6:=hid (E5.out.trans v6);have b6:=xir_blk E6.out.held;have c6:=xir_dbl E6.out.held;have y0 : w6.cell? ⟨m,0,none⟩ = some (.slice (some ⟨db,0,none⟩) 2 2):=b6.cell 0;have y1 : w6.cell? ⟨db,1,none⟩ = some (.pointer (some ⟨d true,0,none⟩)):=c6.cell 1;clear v6 E5 HWr)
        try refine wpList_nil ?_
        refine AfterD.on ⟨b6,c6⟩ (by kernel_rfl) ?_
        try simp only [aA,aB,Act.put,aC,aD,aE]
        refine WD.pure [24] (by kernel_rfl) ⟨b6,c6⟩ ?_
        simp only [pick,aF,aG,aI,aJ,aK]
        repeat (first | go_big_quiet_step (fail))
        refine wpQuiet_nil ?_
        refine WD.done (by kernel_rfl) ?_
        go_wp2_with (go_at_call 60;refine (HFl.out _ _ E6.out.held).mono ?_;rintro e w7 ⟨rfl,FF7,v7⟩;have E7:=hid (E6.out.trans v7);clear v7 HFl)
        go_roundw
        case rel => exact ⟨1 + 1,by decide,by first | rfl | go_num,FF7,by rw [if_neg (by decide),HQ.out];exact E7⟩
        case measure => simp [intOf]
      · have HQ:=hid (q2 z1 z2)
        subst z1
        have u1 : (e2 != 0) = true:=by simpa using z2
        clear q1 q2 q3 HLA z2
        go_wp2_with fail
        refine wp_region_D (fun w' => Blk w' m (gmL db ib M1.g) ∧ Blk w' db (dbL d)) false [] (by kernel_rfl) ?_
        refine WD.pure [7,8,9,10,11,12,13,14,15,16,17,18,19,20,21] (by kernel_rfl) ⟨hbd,hdd⟩ ?_
        simp only [pick,aF,aG,aI,aJ,aK]
        repeat (first | (refine quiet_load_1R (by rfl) _ _ rfl rfl (.slice (some ⟨db,0,none⟩) 2 2) (fun wq h => by first|exact h.1.cell 0|(rw [h];exact k0)) _ Tryz.underlying24 rfl ?_;simp only [aA,aB,Act.put,aC,aD,aE]) | (refine quiet_load_1R (by rfl) _ _ rfl rfl (.pointer (some ⟨d true,0,none⟩)) (fun wq h => by first|exact h.2.cell 1|(rw [h];exact d0)) _ Tryz.underlying39 rfl ?_;simp only [aA,aB,Act.put,aC,aD,aE]) | go_big_quiet_step (fail))
        refine wpQuiet_nil ?_
        refine WD.free [0,1,2,4] (by kernel_rfl) ⟨hbd,hdd⟩ ?_
        simp only [pick,aF,aG,aI,aJ,aK]
        repeat (first | go_big_quiet_step (fail))
        refine wpQuiet_nil ?_
        refine WD.held [3] (by kernel_rfl) ⟨hbd,hdd⟩ ?_
        simp only [pick,aF,aG,aI,aJ,aK]
        repeat (first | (refine quiet_load_1R (by rfl) _ _ rfl rfl (.slice (some ⟨db,0,none⟩) 2 2) (fun wq h => by first|exact h.1.cell 0|(rw [h];exact k0)) _ Tryz.underlying24 rfl ?_;simp only [aA,aB,Act.put,aC,aD,aE]) | (refine quiet_load_1R (by rfl) _ _ rfl rfl (.pointer (some ⟨d true,0,none⟩)) (fun wq h => by first|exact h.2.cell 1|(rw [h];exact d0)) _ Tryz.underlying39 rfl ?_;simp only [aA,aB,Act.put,aC,aD,aE]) | go_big_quiet_step (fail))
        refine wpQuiet_nil ?_
        refine WD.free [5] (by kernel_rfl) ⟨hbd,hdd⟩ ?_
        simp only [pick,aF,aG,aI,aJ,aK]
        repeat (first | go_big_quiet_step (fail))
        refine wpQuiet_nil ?_
        refine WD.held [6] (by kernel_rfl) ⟨hbd,hdd⟩ ?_
        simp only [pick,aF,aG,aI,aJ,aK]
        repeat (first | (refine quiet_load_1R (by rfl) _ _ rfl rfl (.slice (some ⟨db,0,none⟩) 2 2) (fun wq h => by first|exact h.1.cell 0|(rw [h];exact k0)) _ Tryz.underlying24 rfl ?_;simp only [aA,aB,Act.put,aC,aD,aE]) | (refine quiet_load_1R (by rfl) _ _ rfl rfl (.pointer (some ⟨d true,0,none⟩)) (fun wq h => by first|exact h.2.cell 1|(rw [h];exact d0)) _ Tryz.underlying39 rfl ?_;simp only [aA,aB,Act.put,aC,aD,aE]) | go_big_quiet_step (fail))
        refine wpQuiet_nil ?_
        refine WD.eff 22 (by kernel_rfl) ?_
        simp only [pick,aF,aG,aI,aJ,aK]
        go_wp2_with (go_at_call 58;refine (HSu.out _).mono ?_;rintro e w5 ⟨rfl,f5⟩;have E5:=hid (Ed.out.step f5);have b5:=xir_blk E5.out.held;have c5:=xir_dbl E5.out.held;clear f5 HSu)
        try refine wpList_nil ?_
        refine AfterD.on ⟨b5,c5⟩ (by kernel_rfl) ?_
        try simp only [aA,aB,Act.put,aC,aD,aE]
        refine WD.eff 23 (by kernel_rfl) ?_
        simp only [pick,aF,aG,aI,aJ,aK]
        go_wp2_with (go_at_call 59;refine (HWr.out _ _ E5.out.held).mono ?_;rintro e w6 ⟨rfl,FF6,v6⟩;have E6:=hid (E5.out.trans v6);have b6:=xir_blk E6.out.held;have c6:=xir_dbl E6.out.held;have y0 : w6.cell? ⟨m,0,none⟩ = some (.slice (some ⟨db,0,none⟩) 2 2):=b6.cell 0;have y1 : w6.cell? ⟨db,1,none⟩ = some (.pointer (some ⟨d true,0,none⟩)):=c6.cell 1;clear v6 E5 HWr)
        try refine wpList_nil ?_
        refine AfterD.on ⟨b6,c6⟩ (by kernel_rfl) ?_
        try simp only [aA,aB,Act.put,aC,aD,aE]
        refine WD.pure [24] (by kernel_rfl) ⟨b6,c6⟩ ?_
        simp only [pick,aF,aG,aI,aJ,aK]
        repeat (first | go_big_quiet_step (fail))
        refine wpQuiet_nil ?_
        refine WD.done (by kernel_rfl) ?_
        go_wp2_with (first
         | (go_at_call 60;refine (HFl.out _ _ E6.out.held).mono ?_;rintro e w7 ⟨rfl,FF7,v7⟩;have E7:=hid (E6.out.trans v7);clear v7 HFl)
         | (go_at_call 103;refine (HLB.out _ _ E7.out.held).mono ?_;rintro e w8 ⟨rfl,v8⟩;have E8:=hid (E7.out.trans v8);clear v8 HLB))
        go_roundw
        case rel => exact ⟨1 + 1,by decide,by first | rfl | go_num,FF7,by rw [if_neg (by decide),HQ.out];exact E8⟩
        case measure => simp [intOf]
    · have HQ:=hid (q3 z1)
      have u1 : (e1 != 0) = true:=by simpa using z1
      have u2 : (e1 == 0) = false:=by simpa using z1
      clear q1 q2 q3 HLB HFl z1
      go_wp2_with fail
      refine wp_region_D (fun w' => Blk w' m (gmL db ib M1.g) ∧ Blk w' db (dbL d)) false [] (by kernel_rfl) ?_
      refine WD.pure [7,8,9,10,11,12,13,14,15,16,17,18,19,20,21] (by kernel_rfl) ⟨hbd,hdd⟩ ?_
      simp only [pick,aF,aG,aI,aJ,aK]
      repeat (first | (refine quiet_load_1R (by rfl) _ _ rfl rfl (.slice (some ⟨db,0,none⟩) 2 2) (fun wq h => by first|exact h.1.cell 0|(rw [h];exact k0)) _ Tryz.underlying24 rfl ?_;simp only [aA,aB,Act.put,aC,aD,aE]) | (refine quiet_load_1R (by rfl) _ _ rfl rfl (.pointer (some ⟨d true,0,none⟩)) (fun wq h => by first|exact h.2.cell 1|(rw [h];exact d0)) _ Tryz.underlying39 rfl ?_;simp only [aA,aB,Act.put,aC,aD,aE]) | go_big_quiet_step (fail))
      refine wpQuiet_nil ?_
      refine WD.free [0,1,2,4] (by kernel_rfl) ⟨hbd,hdd⟩ ?_
      simp only [pick,aF,aG,aI,aJ,aK]
      repeat (first | go_big_quiet_step (fail))
      refine wpQuiet_nil ?_
      refine WD.held [3] (by kernel_rfl) ⟨hbd,hdd⟩ ?_
      simp only [pick,aF,aG,aI,aJ,aK]
      repeat (first | (refine quiet_load_1R (by rfl) _ _ rfl rfl (.slice (some ⟨db,0,none⟩) 2 2) (fun wq h => by first|exact h.1.cell 0|(rw [h];exact k0)) _ Tryz.underlying24 rfl ?_;simp only [aA,aB,Act.put,aC,aD,aE]) | (refine quiet_load_1R (by rfl) _ _ rfl rfl (.pointer (some ⟨d true,0,none⟩)) (fun wq h => by first|exact h.2.cell 1|(rw [h];exact d0)) _ Tryz.underlying39 rfl ?_;simp only [aA,aB,Act.put,aC,aD,aE]) | go_big_quiet_step (fail))
      refine wpQuiet_nil ?_
      refine WD.free [5] (by kernel_rfl) ⟨hbd,hdd⟩ ?_
      simp only [pick,aF,aG,aI,aJ,aK]
      repeat (first | go_big_quiet_step (fail))
      refine wpQuiet_nil ?_
      refine WD.held [6] (by kernel_rfl) ⟨hbd,hdd⟩ ?_
      simp only [pick,aF,aG,aI,aJ,aK]
      repeat (first | (refine quiet_load_1R (by rfl) _ _ rfl rfl (.slice (some ⟨db,0,none⟩) 2 2) (fun wq h => by first|exact h.1.cell 0|(rw [h];exact k0)) _ Tryz.underlying24 rfl ?_;simp only [aA,aB,Act.put,aC,aD,aE]) | (refine quiet_load_1R (by rfl) _ _ rfl rfl (.pointer (some ⟨d true,0,none⟩)) (fun wq h => by first|exact h.2.cell 1|(rw [h];exact d0)) _ Tryz.underlying39 rfl ?_;simp only [aA,aB,Act.put,aC,aD,aE]) | go_big_quiet_step (fail))
      refine wpQuiet_nil ?_
      refine WD.eff 22 (by kernel_rfl) ?_
      simp only [pick,aF,aG,aI,aJ,aK]
      go_wp2_with (go_at_call 58;refine (HSu.out _).mono ?_;rintro e w5 ⟨rfl,f5⟩;have E5:=hid (Ed.out.step f5);have b5:=xir_blk E5.out.held;have c5:=xir_dbl E5.out.held;clear f5 HSu)
      try refine wpList_nil ?_
      refine AfterD.on ⟨b5,c5⟩ (by kernel_rfl) ?_
      try simp only [aA,aB,Act.put,aC,aD,aE]
      refine WD.eff 23 (by kernel_rfl) ?_
      simp only [pick,aF,aG,aI,aJ,aK]
      go_wp2_with (go_at_call 59;refine (HWr.out _ _ E5.out.held).mono ?_;rintro e w6 ⟨rfl,FF6,v6⟩;have E6:=hid (E5.out.trans v6);have b6:=xir_blk E6.out.held;have c6:=xir_dbl E6.out.held;have y0 : w6.cell? ⟨m,0,none⟩ = some (.slice (some ⟨db,0,none⟩) 2 2):=b6.cell 0;have y1 : w6.cell? ⟨db,1,none⟩ = some (.pointer (some ⟨d true,0,none⟩)):=c6.cell 1;clear v6 E5 HWr)
      try refine wpList_nil ?_
      refine AfterD.on ⟨b6,c6⟩ (by kernel_rfl) ?_
      try simp only [aA,aB,Act.put,aC,aD,aE]
      refine WD.pure [24] (by kernel_rfl) ⟨b6,c6⟩ ?_
      simp only [pick,aF,aG,aI,aJ,aK]
      repeat (first | go_big_quiet_step (fail))
      refine wpQuiet_nil ?_
      refine WD.done (by kernel_rfl) ?_
      go_wp2_with (go_at_call 103;refine (HLA.out _ _ E6.out.held).mono ?_;rintro e w8 ⟨rfl,v8⟩;have E8:=hid (E6.out.trans v8);clear v8 HLA)
      go_roundw
      case rel => exact ⟨1 + 1,by decide,by first | rfl | go_num,FF6,by rw [if_neg (by decide),HQ.out];exact E8⟩
      case measure => simp [intOf]
  · have cx : MS.c (if 0 ≤ 1 then M1 else M2) false = false:=by first | exact c1 | exact c2
    obtain ⟨b0,b1,hib,hb0,hb1⟩:=xir_is E.out.held
    have hz : (b0 != 0) = true:=by
     have : decide (b0 = 0) = false:=hb0.symm.trans cx
     simpa using this
    have i1 : wr.cell? ⟨m,1,none⟩ = some (.slice (some ⟨ib,0,none⟩) 2 2):=(xir_blk E.out.held).cell 1
    have i2 : wr.cell? ⟨ib,0,none⟩ = some (.int .i64 b0):=hib.cell 0
    clear hib hb0 hb1 cx
    go_wp2_with fail
    go_roundw
    case rel => exact ⟨0 + 1,by decide,by first | rfl | go_num,FF1,by first | exact E | simpa using E⟩
    case measure => simp [intOf]
  · rw [if_neg (by decide)] at E
    go_wp2_with fail
    go_end0
    exact ⟨rfl,FF1,E.out⟩
theorem plose_true (h : Held w (l ++ mirX pbs m db ib d FF M)) (ok : SysOk M.s) (ht : M.s.T < 999990) :
 Calls Tryz.prog 103 #[.pointer (some ⟨m,0,none⟩),.int .i64 1] w fun e w' => e = .returned (.tuple #[]) ∧ ∃ FF',Ev w (l ++ mirX pbs m db ib d FF M) w' (l ++ mirX pbs m db ib d FF' (M.lose true)):=by
 cases hc : M.c false with
 | false =>
   have e : M.lose true = M.off true:=lose0 (b:=true) hc
   rw [e]
   refine (plose0_true h hc).mono ?_
   rintro e w' ⟨rfl,ev⟩
   exact ⟨rfl,FF,ev⟩
 | true =>
 obtain ⟨a0,a1,hi,h0,h1⟩:=xir_is h
 have k1 : w.cell? ⟨m,1,none⟩ = some (.slice (some ⟨ib,0,none⟩) 2 2):=(xir_blk h).cell 1
 have hany : (M.off true).any = true:=by
  unfold MS.any MS.off
  have hc2:=hc
  unfold MS.c at hc2
  simp at hc2 ⊢
  exact hc2
 have HE:=hid fun (w1 : World) (f : Fr [ib] w w1) (hb : Blk w1 ib [.int .i64 a0,.int .i64 2]) => xir_put (M':=M.off true) (Ev.refl h) f hb rfl rfl (by first | exact h0 | rfl) (by first | exact h1 | rfl)
 have HL:=hid fun (w1 : World) (h1 : Held w1 (l ++ mirX pbs m db ib d FF (M.off true))) => plost_any h1
 rw [hany] at HL
 obtain ⟨M1,hM1⟩ : ∃ M1 : MS,M1 = { M.off true with g:=M.g + 1 }:=⟨_,rfl⟩
 obtain ⟨M2,hM2⟩ : ∃ M2 : MS,M.lose true = M2:=⟨_,rfl⟩
 have HW0:=lose_work (b:=true) (S:=supS M1.g (M1.s.len false)) hc hM1 rfl
 simp only [Bool.not_false,Bool.not_true] at HW0
 have HW:=hid HW0
 clear HW0
 rw [hM2] at HW ⊢
 have c1 : M1.c true = false:=by rw [hM1];rfl
 have c2 : M2.c true = false:=by rw [← hM2];exact lose_c M true
 have c1n : M1.c false = true:=by rw [hM1];exact (off_c M true false).trans hc
 have HM:=hid fun (w1 w2 : World) (e : Ev w (l ++ mirX pbs m db ib d FF M) w1 (l ++ mirX pbs m db ib d FF (M.off true))) (f : Fr [m] w1 w2) (hb : Blk w2 m (gmL db ib (M.g + 1))) => (show Ev w (l ++ mirX pbs m db ib d FF M) w2 (l ++ mirX pbs m db ib d FF M1) from by rw [hM1];exact xir_gen e f hb)
 have ok1 : SysOk M1.s:=by rw [hM1];exact ok
 have ht1 : M1.s.T < 999990:=by rw [hM1];exact ht
 have hadd : ∀ t,binOp .add t (W64 M.g) (.int .u64 1) = pure (W64 (M.g + 1)):=fun t => add_u64 t M.g 1
 clear h0 h1 hany hM1 hM2 hc ok ht h
 go_enter Tryz.func103,Tryz.ntmps103
 go_wp2_with (first
  | (refine wpList_put rfl _ _ _ rfl rfl (.int .i64 2) rfl rfl hi (by simp) (by kernel_rfl) ?_;intro w1 f1 b1 hs1;have E1:=hid (HE.out w1 f1 b1);clear f1 b1 hs1 HE;simp only [aA,aB,Act.put,aC,aD,aE])
  | (go_at_call 102;refine (HL.out _ E1.out.held).mono ?_;rintro e w2 ⟨rfl,e2⟩;have e2':=hid e2;rw [e2'.out];clear e2 HL;have bm:=xir_blk E1.out.held;have g2 : w1.cell? ⟨m,2,none⟩ = some (W64 M.g):=bm.cell 2)
  | (refine wpList_put rfl _ _ _ rfl rfl (W64 (M.g + 1)) rfl rfl bm (by simp [gmL]) (by kernel_rfl) ?_;intro w3 f3 b3 hs3;have E3:=hid (HM.out _ _ E1.out f3 b3);clear f3 b3 bm hs3 HM E1;simp only [aA,aB,Act.put,aC,aD,aE]))
 go_loopw [4] (fun kv wr => ∃ q : Nat,q ≤ 2 ∧ kv = .int .i64 (q : Int) ∧ ∃ FF',Hid (Ev w (l ++ mirX pbs m db ib d FF M) wr (l ++ mirX pbs m db ib d FF' (if q ≤ 0 then M1 else M2)))) (fun kv _ => 2 - (intOf kv).toNat)
 case atStart => exact ⟨0,by decide,rfl,FF,by rw [if_pos (by decide)];exact E3⟩
 case round =>
  obtain ⟨q,hq,rfl,FF1,E⟩:=hrel
  clear E3
  have hq3 : q = 0 ∨ q = 1 ∨ q = 2:=by omega
  rcases hq3 with rfl | rfl | rfl
  · rw [show ((0 : Nat) : Int) = 0 from rfl]
    rw [if_pos (by decide)] at E
    obtain ⟨b0,b1,hib,hb0,hb1⟩:=xir_is E.out.held
    obtain ⟨kb,kc,hkk,_⟩:=psee false E.out.held ok1
    have hz : b0 = 0:=by
     have : decide (b0 = 0) = true:=hb0.symm.trans c1n
     simpa using this
    have i1 : wr.cell? ⟨m,1,none⟩ = some (.slice (some ⟨ib,0,none⟩) 2 2):=(xir_blk E.out.held).cell 1
    have i2 : wr.cell? ⟨ib,0,none⟩ = some (.int .i64 0):=by rw [← hz];exact hib.cell 0
    have Ed:=hid (E.out.step (Fr.refl [] wr).drew)
    have hbd:=xir_blk Ed.out.held
    have hdd:=xir_dbl Ed.out.held
    have k0 : wr.drew.cell? ⟨m,0,none⟩ = some (.slice (some ⟨db,0,none⟩) 2 2):=hbd.cell 0
    have k2 : wr.drew.cell? ⟨m,2,none⟩ = some (W64 M1.g):=hbd.cell 2
    have d0 : wr.drew.cell? ⟨db,0,none⟩ = some (.pointer (some ⟨d false,0,none⟩)):=hdd.cell 0
    have x0 : wr.drew.cell? ⟨d false,0,none⟩ = some (.slice (some ⟨kb,0,none⟩) (M1.s.len false) kc):=hkk
    have hn:=(len_pos ok1 false).2
    have HSu:=hid fun w1 : World => rsuper_any (w:=w1) M1.g (M1.s.len false) hn
    have hSz:=supS_size M1.g (M1.s.len false)
    generalize supS M1.g (M1.s.len false) = Sb at *
    generalize M1.s.len false = n at *
    have HWr:=hid fun (w1 : World) (FF2 : Bool → List Nat) (h1 : Held w1 (l ++ mirX pbs m db ib d FF2 M1)) => pW false h1 ok1 (by omega) 0 Sb (by rw [hSz];decide)
    have okA : SysOk (M1.s.wr false 0 Sb):=(wr_stp M1.s false 0 Sb).ok ok1
    have htA : (M1.s.wr false 0 Sb).T ≤ M1.s.T + 2:=(wr_stp M1.s false 0 Sb).T ok1
    have HFl:=hid fun (w1 : World) (FF2 : Bool → List Nat) (h1 : Held w1 (l ++ mirX pbs m db ib d FF2 { M1 with s:=M1.s.wr false 0 Sb })) => pF false h1 okA (show (M1.s.wr false 0 Sb).T < 1000000 by omega)
    have HLA:=hid fun (w1 : World) (FF2 : Bool → List Nat) (h1 : Held w1 (l ++ mirX pbs m db ib d FF2 { M1 with s:=M1.s.wr false 0 Sb })) => plose0_false h1 (show M1.c true = false from c1)
    have HLB:=hid fun (w1 : World) (FF2 : Bool → List Nat) (h1 : Held w1 (l ++ mirX pbs m db ib d FF2 { M1 with s:=(M1.s.wr false 0 Sb).fl false })) => plose0_false h1 (show M1.c true = false from c1)
    obtain ⟨q1,q2,q3⟩:=HW.out
    obtain ⟨e1,he1⟩ : ∃ e1,M1.s.wrC false 0 Sb = e1:=⟨_,rfl⟩
    obtain ⟨e2,he2⟩ : ∃ e2,(M1.s.wr false 0 Sb).flC false = e2:=⟨_,rfl⟩
    simp only at HFl
    rw [he1] at q1 q2 q3 HWr
    rw [he2] at q1 q2 HFl
    clear he1 he2 okA htA hib hb0 hb1 hkk hz hn hSz HW c1 c2 c1n E
    by_cases z1 : e1 = 0
    · by_cases z2 : e2 = 0
      · have HQ:=hid (q1 z1 z2)
        subst z1 z2
        clear q1 q2 q3 HLA HLB
        go_wp2_with fail
        refine wp_region_D (fun w' => Blk w' m (gmL db ib M1.g) ∧ Blk w' db (dbL d)) false [] (by kernel_rfl) ?_
        refine WD.pure [7,8,9,10,11,12,13,14,15,16,17,18,19,20,21] (by kernel_rfl) ⟨hbd,hdd⟩ ?_
        simp only [pick,aF,aG,aI,aJ,aK]
        repeat (first | (refine quiet_load_1R (by rfl) _ _ rfl rfl (.slice (some ⟨db,0,none⟩) 2 2) (fun wq h => by first|exact h.1.cell 0|(rw [h];exact k0)) _ Tryz.underlying24 rfl ?_;simp only [aA,aB,Act.put,aC,aD,aE]) | (refine quiet_load_1R (by rfl) _ _ rfl rfl (.pointer (some ⟨d false,0,none⟩)) (fun wq h => by first|exact h.2.cell 0|(rw [h];exact d0)) _ Tryz.underlying39 rfl ?_;simp only [aA,aB,Act.put,aC,aD,aE]) | go_big_quiet_step (fail))
        refine wpQuiet_nil ?_
        refine WD.free [0,1,2,4] (by kernel_rfl) ⟨hbd,hdd⟩ ?_
        simp only [pick,aF,aG,aI,aJ,aK]
        repeat (first | go_big_quiet_step (fail))
        refine wpQuiet_nil ?_
        refine WD.held [3] (by kernel_rfl) ⟨hbd,hdd⟩ ?_
        simp only [pick,aF,aG,aI,aJ,aK]
        repeat (first | (refine quiet_load_1R (by rfl) _ _ rfl rfl (.slice (some ⟨db,0,none⟩) 2 2) (fun wq h => by first|exact h.1.cell 0|(rw [h];exact k0)) _ Tryz.underlying24 rfl ?_;simp only [aA,aB,Act.put,aC,aD,aE]) | (refine quiet_load_1R (by rfl) _ _ rfl rfl (.pointer (some ⟨d false,0,none⟩)) (fun wq h => by first|exact h.2.cell 0|(rw [h];exact d0)) _ Tryz.underlying39 rfl ?_;simp only [aA,aB,Act.put,aC,aD,aE]) | go_big_quiet_step (fail))
        refine wpQuiet_nil ?_
        refine WD.free [5] (by kernel_rfl) ⟨hbd,hdd⟩ ?_
        simp only [pick,aF,aG,aI,aJ,aK]
        repeat (first | go_big_quiet_step (fail))
        refine wpQuiet_nil ?_
        refine WD.held [6] (by kernel_rfl) ⟨hbd,hdd⟩ ?_
        simp only [pick,aF,aG,aI,aJ,aK]
        repeat (first | (refine quiet_load_1R (by rfl) _ _ rfl rfl (.slice (some ⟨db,0,none⟩) 2 2) (fun wq h => by first|exact h.1.cell 0|(rw [h];exact k0)) _ Tryz.underlying24 rfl ?_;simp only [aA,aB,Act.put,aC,aD,aE]) | (refine quiet_load_1R (by rfl) _ _ rfl rfl (.pointer (some ⟨d false,0,none⟩)) (fun wq h => by first|exact h.2.cell 0|(rw [h];exact d0)) _ Tryz.underlying39 rfl ?_;simp only [aA,aB,Act.put,aC,aD,aE]) | go_big_quiet_step (fail))
        refine wpQuiet_nil ?_
        refine WD.eff 22 (by kernel_rfl) ?_
        simp only [pick,aF,aG,aI,aJ,aK]
        go_wp2_with (go_at_call 58;refine (HSu.out _).mono ?_;rintro e w5 ⟨rfl,f5⟩;have E5:=hid (Ed.out.step f5);have b5:=xir_blk E5.out.held;have c5:=xir_dbl E5.out.held;clear f5 HSu)
        try refine wpList_nil ?_
        refine AfterD.on ⟨b5,c5⟩ (by kernel_rfl) ?_
        try simp only [aA,aB,Act.put,aC,aD,aE]
        refine WD.eff 23 (by kernel_rfl) ?_
        simp only [pick,aF,aG,aI,aJ,aK]
        go_wp2_with (go_at_call 59;refine (HWr.out _ _ E5.out.held).mono ?_;rintro e w6 ⟨rfl,FF6,v6⟩;have E6:=hid (E5.out.trans v6);have b6:=xir_blk E6.out.held;have c6:=xir_dbl E6.out.held;have y0 : w6.cell? ⟨m,0,none⟩ = some (.slice (some ⟨db,0,none⟩) 2 2):=b6.cell 0;have y1 : w6.cell? ⟨db,0,none⟩ = some (.pointer (some ⟨d false,0,none⟩)):=c6.cell 0;clear v6 E5 HWr)
        try refine wpList_nil ?_
        refine AfterD.on ⟨b6,c6⟩ (by kernel_rfl) ?_
        try simp only [aA,aB,Act.put,aC,aD,aE]
        refine WD.pure [24] (by kernel_rfl) ⟨b6,c6⟩ ?_
        simp only [pick,aF,aG,aI,aJ,aK]
        repeat (first | go_big_quiet_step (fail))
        refine wpQuiet_nil ?_
        refine WD.done (by kernel_rfl) ?_
        go_wp2_with (go_at_call 60;refine (HFl.out _ _ E6.out.held).mono ?_;rintro e w7 ⟨rfl,FF7,v7⟩;have E7:=hid (E6.out.trans v7);clear v7 HFl)
        go_roundw
        case rel => exact ⟨0 + 1,by decide,by first | rfl | go_num,FF7,by rw [if_neg (by decide),HQ.out];exact E7⟩
        case measure => simp [intOf]
      · have HQ:=hid (q2 z1 z2)
        subst z1
        have u1 : (e2 != 0) = true:=by simpa using z2
        clear q1 q2 q3 HLA z2
        go_wp2_with fail
        refine wp_region_D (fun w' => Blk w' m (gmL db ib M1.g) ∧ Blk w' db (dbL d)) false [] (by kernel_rfl) ?_
        refine WD.pure [7,8,9,10,11,12,13,14,15,16,17,18,19,20,21] (by kernel_rfl) ⟨hbd,hdd⟩ ?_
        simp only [pick,aF,aG,aI,aJ,aK]
        repeat (first | (refine quiet_load_1R (by rfl) _ _ rfl rfl (.slice (some ⟨db,0,none⟩) 2 2) (fun wq h => by first|exact h.1.cell 0|(rw [h];exact k0)) _ Tryz.underlying24 rfl ?_;simp only [aA,aB,Act.put,aC,aD,aE]) | (refine quiet_load_1R (by rfl) _ _ rfl rfl (.pointer (some ⟨d false,0,none⟩)) (fun wq h => by first|exact h.2.cell 0|(rw [h];exact d0)) _ Tryz.underlying39 rfl ?_;simp only [aA,aB,Act.put,aC,aD,aE]) | go_big_quiet_step (fail))
        refine wpQuiet_nil ?_
        refine WD.free [0,1,2,4] (by kernel_rfl) ⟨hbd,hdd⟩ ?_
        simp only [pick,aF,aG,aI,aJ,aK]
        repeat (first | go_big_quiet_step (fail))
        refine wpQuiet_nil ?_
        refine WD.held [3] (by kernel_rfl) ⟨hbd,hdd⟩ ?_
        simp only [pick,aF,aG,aI,aJ,aK]
        repeat (first | (refine quiet_load_1R (by rfl) _ _ rfl rfl (.slice (some ⟨db,0,none⟩) 2 2) (fun wq h => by first|exact h.1.cell 0|(rw [h];exact k0)) _ Tryz.underlying24 rfl ?_;simp only [aA,aB,Act.put,aC,aD,aE]) | (refine quiet_load_1R (by rfl) _ _ rfl rfl (.pointer (some ⟨d false,0,none⟩)) (fun wq h => by first|exact h.2.cell 0|(rw [h];exact d0)) _ Tryz.underlying39 rfl ?_;simp only [aA,aB,Act.put,aC,aD,aE]) | go_big_quiet_step (fail))
        refine wpQuiet_nil ?_
        refine WD.free [5] (by kernel_rfl) ⟨hbd,hdd⟩ ?_
        simp only [pick,aF,aG,aI,aJ,aK]
        repeat (first | go_big_quiet_step (fail))
        refine wpQuiet_nil ?_
        refine WD.held [6] (by kernel_rfl) ⟨hbd,hdd⟩ ?_
        simp only [pick,aF,aG,aI,aJ,aK]
        repeat (first | (refine quiet_load_1R (by rfl) _ _ rfl rfl (.slice (some ⟨db,0,none⟩) 2 2) (fun wq h => by first|exact h.1.cell 0|(rw [h];exact k0)) _ Tryz.underlying24 rfl ?_;simp only [aA,aB,Act.put,aC,aD,aE]) | (refine quiet_load_1R (by rfl) _ _ rfl rfl (.pointer (some ⟨d false,0,none⟩)) (fun wq h => by first|exact h.2.cell 0|(rw [h];exact d0)) _ Tryz.underlying39 rfl ?_;simp only [aA,aB,Act.put,aC,aD,aE]) | go_big_quiet_step (fail))
        refine wpQuiet_nil ?_
        refine WD.eff 22 (by kernel_rfl) ?_
        simp only [pick,aF,aG,aI,aJ,aK]
        go_wp2_with (go_at_call 58;refine (HSu.out _).mono ?_;rintro e w5 ⟨rfl,f5⟩;have E5:=hid (Ed.out.step f5);have b5:=xir_blk E5.out.held;have c5:=xir_dbl E5.out.held;clear f5 HSu)
        try refine wpList_nil ?_
        refine AfterD.on ⟨b5,c5⟩ (by kernel_rfl) ?_
        try simp only [aA,aB,Act.put,aC,aD,aE]
        refine WD.eff 23 (by kernel_rfl) ?_
        simp only [pick,aF,aG,aI,aJ,aK]
        go_wp2_with (go_at_call 59;refine (HWr.out _ _ E5.out.held).mono ?_;rintro e w6 ⟨rfl,FF6,v6⟩;have E6:=hid (E5.out.trans v6);have b6:=xir_blk E6.out.held;have c6:=xir_dbl E6.out.held;have y0 : w6.cell? ⟨m,0,none⟩ = some (.slice (some ⟨db,0,none⟩) 2 2):=b6.cell 0;have y1 : w6.cell? ⟨db,0,none⟩ = some (.pointer (some ⟨d false,0,none⟩)):=c6.cell 0;clear v6 E5 HWr)
        try refine wpList_nil ?_
        refine AfterD.on ⟨b6,c6⟩ (by kernel_rfl) ?_
        try simp only [aA,aB,Act.put,aC,aD,aE]
        refine WD.pure [24] (by kernel_rfl) ⟨b6,c6⟩ ?_
        simp only [pick,aF,aG,aI,aJ,aK]
        repeat (first | go_big_quiet_step (fail))
        refine wpQuiet_nil ?_
        refine WD.done (by kernel_rfl) ?_
        go_wp2_with (first
         | (go_at_call 60;refine (HFl.out _ _ E6.out.held).mono ?_;rintro e w7 ⟨rfl,FF7,v7⟩;have E7:=hid (E6.out.trans v7);clear v7 HFl)
         | (go_at_call 103;refine (HLB.out _ _ E7.out.held).mono ?_;rintro e w8 ⟨rfl,v8⟩;have E8:=hid (E7.out.trans v8);clear v8 HLB))
        go_roundw
        case rel => exact ⟨0 + 1,by decide,by first | rfl | go_num,FF7,by rw [if_neg (by decide),HQ.out];exact E8⟩
        case measure => simp [intOf]
    · have HQ:=hid (q3 z1)
      have u1 : (e1 != 0) = true:=by simpa using z1
      have u2 : (e1 == 0) = false:=by simpa using z1
      clear q1 q2 q3 HLB HFl z1
      go_wp2_with fail
      refine wp_region_D (fun w' => Blk w' m (gmL db ib M1.g) ∧ Blk w' db (dbL d)) false [] (by kernel_rfl) ?_
      refine WD.pure [7,8,9,10,11,12,13,14,15,16,17,18,19,20,21] (by kernel_rfl) ⟨hbd,hdd⟩ ?_
      simp only [pick,aF,aG,aI,aJ,aK]
      repeat (first | (refine quiet_load_1R (by rfl) _ _ rfl rfl (.slice (some ⟨db,0,none⟩) 2 2) (fun wq h => by first|exact h.1.cell 0|(rw [h];exact k0)) _ Tryz.underlying24 rfl ?_;simp only [aA,aB,Act.put,aC,aD,aE]) | (refine quiet_load_1R (by rfl) _ _ rfl rfl (.pointer (some ⟨d false,0,none⟩)) (fun wq h => by first|exact h.2.cell 0|(rw [h];exact d0)) _ Tryz.underlying39 rfl ?_;simp only [aA,aB,Act.put,aC,aD,aE]) | go_big_quiet_step (fail))
      refine wpQuiet_nil ?_
      refine WD.free [0,1,2,4] (by kernel_rfl) ⟨hbd,hdd⟩ ?_
      simp only [pick,aF,aG,aI,aJ,aK]
      repeat (first | go_big_quiet_step (fail))
      refine wpQuiet_nil ?_
      refine WD.held [3] (by kernel_rfl) ⟨hbd,hdd⟩ ?_
      simp only [pick,aF,aG,aI,aJ,aK]
      repeat (first | (refine quiet_load_1R (by rfl) _ _ rfl rfl (.slice (some ⟨db,0,none⟩) 2 2) (fun wq h => by first|exact h.1.cell 0|(rw [h];exact k0)) _ Tryz.underlying24 rfl ?_;simp only [aA,aB,Act.put,aC,aD,aE]) | (refine quiet_load_1R (by rfl) _ _ rfl rfl (.pointer (some ⟨d false,0,none⟩)) (fun wq h => by first|exact h.2.cell 0|(rw [h];exact d0)) _ Tryz.underlying39 rfl ?_;simp only [aA,aB,Act.put,aC,aD,aE]) | go_big_quiet_step (fail))
      refine wpQuiet_nil ?_
      refine WD.free [5] (by kernel_rfl) ⟨hbd,hdd⟩ ?_
      simp only [pick,aF,aG,aI,aJ,aK]
      repeat (first | go_big_quiet_step (fail))
      refine wpQuiet_nil ?_
      refine WD.held [6] (by kernel_rfl) ⟨hbd,hdd⟩ ?_
      simp only [pick,aF,aG,aI,aJ,aK]
      repeat (first | (refine quiet_load_1R (by rfl) _ _ rfl rfl (.slice (some ⟨db,0,none⟩) 2 2) (fun wq h => by first|exact h.1.cell 0|(rw [h];exact k0)) _ Tryz.underlying24 rfl ?_;simp only [aA,aB,Act.put,aC,aD,aE]) | (refine quiet_load_1R (by rfl) _ _ rfl rfl (.pointer (some ⟨d false,0,none⟩)) (fun wq h => by first|exact h.2.cell 0|(rw [h];exact d0)) _ Tryz.underlying39 rfl ?_;simp only [aA,aB,Act.put,aC,aD,aE]) | go_big_quiet_step (fail))
      refine wpQuiet_nil ?_
      refine WD.eff 22 (by kernel_rfl) ?_
      simp only [pick,aF,aG,aI,aJ,aK]
      go_wp2_with (go_at_call 58;refine (HSu.out _).mono ?_;rintro e w5 ⟨rfl,f5⟩;have E5:=hid (Ed.out.step f5);have b5:=xir_blk E5.out.held;have c5:=xir_dbl E5.out.held;clear f5 HSu)
      try refine wpList_nil ?_
      refine AfterD.on ⟨b5,c5⟩ (by kernel_rfl) ?_
      try simp only [aA,aB,Act.put,aC,aD,aE]
      refine WD.eff 23 (by kernel_rfl) ?_
      simp only [pick,aF,aG,aI,aJ,aK]
      go_wp2_with (go_at_call 59;refine (HWr.out _ _ E5.out.held).mono ?_;rintro e w6 ⟨rfl,FF6,v6⟩;have E6:=hid (E5.out.trans v6);have b6:=xir_blk E6.out.held;have c6:=xir_dbl E6.out.held;have y0 : w6.cell? ⟨m,0,none⟩ = some (.slice (some ⟨db,0,none⟩) 2 2):=b6.cell 0;have y1 : w6.cell? ⟨db,0,none⟩ = some (.pointer (some ⟨d false,0,none⟩)):=c6.cell 0;clear v6 E5 HWr)
      try refine wpList_nil ?_
      refine AfterD.on ⟨b6,c6⟩ (by kernel_rfl) ?_
      try simp only [aA,aB,Act.put,aC,aD,aE]
      refine WD.pure [24] (by kernel_rfl) ⟨b6,c6⟩ ?_
      simp only [pick,aF,aG,aI,aJ,aK]
      repeat (first | go_big_quiet_step (fail))
      refine wpQuiet_nil ?_
      refine WD.done (by kernel_rfl) ?_
      go_wp2_with (go_at_call 103;refine (HLA.out _ _ E6.out.held).mono ?_;rintro e w8 ⟨rfl,v8⟩;have E8:=hid (E6.out.trans v8);clear v8 HLA)
      go_roundw
      case rel => exact ⟨0 + 1,by decide,by first | rfl | go_num,FF6,by rw [if_neg (by decide),HQ.out];exact E8⟩
      case measure => simp [intOf]
  · have cx : MS.c (if 1 ≤ 0 then M1 else M2) true = false:=by first | exact c1 | exact c2
    obtain ⟨b0,b1,hib,hb0,hb1⟩:=xir_is E.out.held
    have hz : (b1 != 0) = true:=by
     have : decide (b1 = 0) = false:=hb1.symm.trans cx
     simpa using this
    have i1 : wr.cell? ⟨m,1,none⟩ = some (.slice (some ⟨ib,0,none⟩) 2 2):=(xir_blk E.out.held).cell 1
    have i2 : wr.cell? ⟨ib,1,none⟩ = some (.int .i64 b1):=hib.cell 1
    clear hib hb0 hb1 cx
    go_wp2_with fail
    go_roundw
    case rel => exact ⟨1 + 1,by decide,by first | rfl | go_num,FF1,by first | exact E | simpa using E⟩
    case measure => simp [intOf]
  · rw [if_neg (by decide)] at E
    go_wp2_with fail
    go_end0
    exact ⟨rfl,FF1,E.out⟩
end
theorem pmayB_at (M : MS) (i : Int) (h : mayB (M.s.len false) i = false) : M.atC i = 2:=by
 unfold mayB at h
 unfold MS.atC
 rw [if_pos]
 simp at h
 by_cases h0 : i < 0
 · exact .inl h0
 · exact .inr (h (by omega))
theorem pmayB_in (M : MS) (i : Int) (h : mayB (M.s.len false) i = true) : M.atC i = M.leftC ∧ 0 ≤ i ∧ i < (M.s.len false : Int) - 1:=by
 unfold mayB at h
 simp at h
 unfold MS.atC
 rw [if_neg (by omega)]
 exact ⟨rfl,h.1,h.2⟩
section
variable {w w' w0 : World} {l rs : List Res} {pbs : List Nat} {m db ib : Nat} {M M' : MS} {d : Bool → Nat} {FF FF' : Bool → List Nat}
theorem doW_skip {M : MS} {I : Int} {S : ByteArray} {b : Bool} (h : M.c b = false) : M.doW I S b = M:=by unfold MS.doW;rw [h];rfl
theorem doW_good {M : MS} {I : Int} {S : ByteArray} {b : Bool} (h : M.c b = true) (e : M.s.wrC b I S = 0) : M.doW I S b = { M with s:=M.s.wr b I S }:=by unfold MS.doW MS.after;rw [if_pos h,if_pos e]
theorem doW_bad {M : MS} {I : Int} {S : ByteArray} {b : Bool} (h : M.c b = true) (e : M.s.wrC b I S ≠ 0) : M.doW I S b = MS.lose { M with s:=M.s.wr b I S } b:=by unfold MS.doW MS.after;rw [if_pos h,if_neg e]
theorem doF_good {M : MS} {b : Bool} (h : M.c b = true) (e : M.s.flC b = 0) : M.doF b = { M with s:=M.s.fl b }:=by unfold MS.doF MS.after;rw [if_pos h,if_pos e]
theorem doF_bad {M : MS} {b : Bool} (h : M.c b = true) (e : M.s.flC b ≠ 0) : M.doF b = MS.lose { M with s:=M.s.fl b } b:=by unfold MS.doF MS.after;rw [if_pos h,if_neg e]
def flushK (M : MS) : Nat → MS
 | 0 => M
 | 1 => M.doF false
 | _ => M.eachF
theorem pflush_any (h : Held w (l ++ mirX pbs m db ib d FF M)) (ok : SysOk M.s) (ht : M.s.T < 999800) :
 Calls Tryz.prog 72 #[.pointer (some ⟨m,0,none⟩)] w fun e w' => e = .returned (.int .i64 M.flushC) ∧ ∃ FF',Ev w (l ++ mirX pbs m db ib d FF M) w' (l ++ mirX pbs m db ib d FF' M.flushM):=by
 have HL:=hid (plost_any h)
 unfold MS.flushC MS.flushM
 cases ha : M.any with
 | false =>
   rw [ha] at HL
   simp only [Bool.false_eq_true,if_false]
   have HH:=hid h
   clear h ha ok ht
   go_enter Tryz.func72,Tryz.ntmps72
   go_wp2_with (go_at_call 102;refine HL.out.mono ?_;rintro e w1 ⟨rfl,rfl⟩)
   go_ret
   exact ⟨rfl,FF,Ev.refl HH.out⟩
 | true =>
   rw [ha] at HL
   simp only [if_true]
   have E0:=hid (Ev.refl h)
   have ok1 : SysOk (M.doF false).s:=(doF_stp M false).ok ok
   have ht1 : (M.doF false).s.T < 999900:=by have:=(doF_stp M false).T ok;omega
   clear ha
   go_enter Tryz.func72,Tryz.ntmps72
   go_wp2_with (go_at_call 102;refine HL.out.mono ?_;rintro e w1 ⟨rfl,e1⟩;have e1':=hid e1;rw [e1'.out];clear e1)
   clear HL
   go_loopw [3] (fun kv wr => ∃ q : Nat,q ≤ 2 ∧ kv = .int .i64 (q : Int) ∧ ∃ FF',Hid (Ev w (l ++ mirX pbs m db ib d FF M) wr (l ++ mirX pbs m db ib d FF' (flushK M q)))) (fun kv _ => 2 - (intOf kv).toNat)
   case atStart => exact ⟨0,by decide,rfl,FF,E0⟩
   case round =>
    obtain ⟨q,hq,rfl,FF1,E⟩:=hrel
    clear E0
    have hq3 : q = 0 ∨ q = 1 ∨ q = 2:=by omega
    rcases hq3 with rfl | rfl | rfl
    · rw [show flushK M 0 = M from rfl] at E
      rw [show ((0 : Nat) : Int) = 0 from rfl]
      obtain ⟨b0,b1,hib,hb0,hb1⟩:=xir_is E.out.held
      have i1 : wr.cell? ⟨m,1,none⟩ = some (.slice (some ⟨ib,0,none⟩) 2 2):=(xir_blk E.out.held).cell 1
      have i2 : wr.cell? ⟨ib,0,none⟩ = some (.int .i64 b0):=hib.cell 0
      cases hc : (M).c false with
      | false =>
        have hz : (b0 == 0) = false:=by
         have : decide (b0 = 0) = false:=hb0.symm.trans hc
         simpa using this
        have HS:=hid (doF_off hc)
        clear hib hb0 hb1 hc
        go_wp2_with fail
        go_roundw
        case rel => exact ⟨0 + 1,by decide,by first | rfl | go_num,FF1,by rw [show flushK M (0 + 1) = M.doF false from rfl];rw [HS.out];exact E⟩
        case measure => simp [intOf]
      | true =>
        have hz : b0 = 0:=by
         have : decide (b0 = 0) = true:=hb0.symm.trans hc
         simpa using this
        have hz2 : (b0 == 0) = true:=by simp [hz]
        have k0 : wr.cell? ⟨m,0,none⟩ = some (.slice (some ⟨db,0,none⟩) 2 2):=(xir_blk E.out.held).cell 0
        have d0 : wr.cell? ⟨db,0,none⟩ = some (.pointer (some ⟨d false,0,none⟩)):=(xir_dbl E.out.held).cell 0
        have okx : SysOk (M).s:=ok
        have htx : (M).s.T < 999900:=(by omega)
        obtain ⟨ec,hec⟩ : ∃ ec,M.s.flC false = ec:=⟨_,rfl⟩;have HCa:=hid (pF false E.out.held okx (by omega));have HLo:=hid fun (w1 : World) (FF2 : Bool → List Nat) (h1 : Held w1 (l ++ mirX pbs m db ib d FF2 { M with s:=M.s.fl false })) => plose_false h1 ((fl_stp M.s false).ok okx) (show (M.s.fl false).T < 999990 by have:=(fl_stp M.s false).T okx;omega);rw [hec] at HCa
        clear hib hb0 hb1 hz
        by_cases z1 : ec = 0
        · have HS:=hid ((fun hc z => doF_good hc (hec.trans z)) hc z1)
          subst z1
          clear HLo hc
          go_wp2_with (go_at_call 60;skip;refine HCa.out.mono ?_;rintro e w5 ⟨rfl,FF5,v5⟩;have E5:=hid (E.out.trans v5);clear v5 HCa)
          go_roundw
          case rel => exact ⟨0 + 1,by decide,by first | rfl | go_num,FF5,by rw [show flushK M (0 + 1) = M.doF false from rfl];rw [HS.out];exact E5⟩
          case measure => simp [intOf]
        · have HS:=hid ((fun hc z => doF_bad hc (fun e => z (hec.symm.trans e))) hc z1)
          have u1 : (ec != 0) = true:=by simpa using z1
          clear hc z1
          go_wp2_with (first
           | (go_at_call 60;skip;refine HCa.out.mono ?_;rintro e w5 ⟨rfl,FF5,v5⟩;have E5:=hid (E.out.trans v5);clear v5 HCa)
           | (go_at_call 103;refine (HLo.out _ _ E5.out.held).mono ?_;rintro e w6 ⟨rfl,FF6,v6⟩;have E6:=hid (E5.out.trans v6);clear v6 HLo))
          go_roundw
          case rel => exact ⟨0 + 1,by decide,by first | rfl | go_num,FF6,by rw [show flushK M (0 + 1) = M.doF false from rfl];rw [HS.out];exact E6⟩
          case measure => simp [intOf]
    · rw [show flushK M 1 = M.doF false from rfl] at E
      rw [show ((1 : Nat) : Int) = 1 from rfl]
      have hK2 : flushK M (1 + 1) = (M.doF false).doF true:=rfl
      generalize M.doF false = M1 at *
      obtain ⟨b0,b1,hib,hb0,hb1⟩:=xir_is E.out.held
      have i1 : wr.cell? ⟨m,1,none⟩ = some (.slice (some ⟨ib,0,none⟩) 2 2):=(xir_blk E.out.held).cell 1
      have i2 : wr.cell? ⟨ib,1,none⟩ = some (.int .i64 b1):=hib.cell 1
      cases hc : (M1).c true with
      | false =>
        have hz : (b1 == 0) = false:=by
         have : decide (b1 = 0) = false:=hb1.symm.trans hc
         simpa using this
        have HS:=hid (doF_off hc)
        clear hib hb0 hb1 hc
        go_wp2_with fail
        go_roundw
        case rel => exact ⟨1 + 1,by decide,by first | rfl | go_num,FF1,by rw [hK2];rw [HS.out];exact E⟩
        case measure => simp [intOf]
      | true =>
        have hz : b1 = 0:=by
         have : decide (b1 = 0) = true:=hb1.symm.trans hc
         simpa using this
        have hz2 : (b1 == 0) = true:=by simp [hz]
        have k0 : wr.cell? ⟨m,0,none⟩ = some (.slice (some ⟨db,0,none⟩) 2 2):=(xir_blk E.out.held).cell 0
        have d0 : wr.cell? ⟨db,1,none⟩ = some (.pointer (some ⟨d true,0,none⟩)):=(xir_dbl E.out.held).cell 1
        have okx : SysOk (M1).s:=ok1
        have htx : (M1).s.T < 999900:=ht1
        obtain ⟨ec,hec⟩ : ∃ ec,M1.s.flC true = ec:=⟨_,rfl⟩;have HCa:=hid (pF true E.out.held okx (by omega));have HLo:=hid fun (w1 : World) (FF2 : Bool → List Nat) (h1 : Held w1 (l ++ mirX pbs m db ib d FF2 { M1 with s:=M1.s.fl true })) => plose_true h1 ((fl_stp M1.s true).ok okx) (show (M1.s.fl true).T < 999990 by have:=(fl_stp M1.s true).T okx;omega);rw [hec] at HCa
        clear hib hb0 hb1 hz
        by_cases z1 : ec = 0
        · have HS:=hid ((fun hc z => doF_good hc (hec.trans z)) hc z1)
          subst z1
          clear HLo hc
          go_wp2_with (go_at_call 60;skip;refine HCa.out.mono ?_;rintro e w5 ⟨rfl,FF5,v5⟩;have E5:=hid (E.out.trans v5);clear v5 HCa)
          go_roundw
          case rel => exact ⟨1 + 1,by decide,by first | rfl | go_num,FF5,by rw [hK2];rw [HS.out];exact E5⟩
          case measure => simp [intOf]
        · have HS:=hid ((fun hc z => doF_bad hc (fun e => z (hec.symm.trans e))) hc z1)
          have u1 : (ec != 0) = true:=by simpa using z1
          clear hc z1
          go_wp2_with (first
           | (go_at_call 60;skip;refine HCa.out.mono ?_;rintro e w5 ⟨rfl,FF5,v5⟩;have E5:=hid (E.out.trans v5);clear v5 HCa)
           | (go_at_call 103;refine (HLo.out _ _ E5.out.held).mono ?_;rintro e w6 ⟨rfl,FF6,v6⟩;have E6:=hid (E5.out.trans v6);clear v6 HLo))
          go_roundw
          case rel => exact ⟨1 + 1,by decide,by first | rfl | go_num,FF6,by rw [hK2];rw [HS.out];exact E6⟩
          case measure => simp [intOf]
    · rw [show flushK M 2 = M.eachF from rfl] at E
      have HL2:=hid (plost_any E.out.held)
      cases ha : M.eachF.any with
      | false =>
        rw [ha] at HL2
        have HC:=hid (show M.eachF.leftC = 70 by unfold MS.leftC;rw [ha];rfl)
        go_wp2_with (go_at_call 102;refine HL2.out.mono ?_;rintro e w9 ⟨rfl,e9⟩;have e9':=hid e9;rw [e9'.out];clear e9)
        go_ret
        rw [HC.out]
        exact ⟨rfl,FF1,E.out⟩
      | true =>
        rw [ha] at HL2
        have HC:=hid (show M.eachF.leftC = 0 by unfold MS.leftC;rw [ha];rfl)
        go_wp2_with (go_at_call 102;refine HL2.out.mono ?_;rintro e w9 ⟨rfl,e9⟩;have e9':=hid e9;rw [e9'.out];clear e9)
        go_ret
        rw [HC.out]
        exact ⟨rfl,FF1,E.out⟩
def writeK (M : MS) (I : Int) (S : ByteArray) : Nat → MS
 | 0 => M
 | 1 => M.doW I S false
 | _ => M.eachW I S
theorem pwrite_any (h : Held w (l ++ mirX pbs m db ib d FF M)) (ok : SysOk M.s) (ht : M.s.T < 999800) (i : Int) (S : ByteArray) (hS : S.size ≤ 9223372036854775807) :
 Calls Tryz.prog 64 #[.pointer (some ⟨m,0,none⟩),.int .i64 i,.string S] w fun e w' => e = .returned (.int .i64 (M.wrE i S)) ∧ ∃ FF',Ev w (l ++ mirX pbs m db ib d FF M) w' (l ++ mirX pbs m db ib d FF' (M.wrM i S)):=by
 have HY:=hid (pmay_any h ok i)
 have HL:=hid (plost_any h)
 have E0:=hid (Ev.refl h)
 unfold MS.wrE MS.wrM
 cases hm : mayB (M.s.len false) i with
 | false =>
   have ha:=pmayB_at M i hm
   have e1 : (if S.size = 512 then (if M.atC i = 0 then (M.eachW (i + 1) S).leftC else M.atC i) else 2) = 2:=by rw [ha];split <;> rfl
   have e2 : (if S.size = 512 then (if M.atC i = 0 then M.eachW (i + 1) S else M) else M) = M:=by rw [ha];split <;> rfl
   rw [e1,e2]
   rw [hm] at HY
   clear h ok ht hm ha e1 e2
   go_enter Tryz.func64,Tryz.ntmps64
   go_wp2_with (go_at_call 101;refine HY.out.mono ?_;rintro e w1 ⟨rfl,e1⟩;have e1':=hid e1;rw [e1'.out];clear e1)
   go_ret
   exact ⟨rfl,FF,E0.out⟩
 | true =>
   obtain ⟨ha,hi0,hi1⟩:=pmayB_in M i hm
   rw [hm] at HY
   by_cases h5 : S.size = 512
   · rw [if_pos h5,if_pos h5,ha]
     have hd5 : ((S.size : Int) != 512) = false:=by simp;omega
     cases hn : M.any with
     | false =>
       rw [hn] at HL
       have hl0 : M.leftC = 70:=by unfold MS.leftC;rw [hn];rfl
       rw [hl0]
       clear h ok ht hm ha hn hl0
       go_enter Tryz.func64,Tryz.ntmps64
       go_wp2_with (first
        | (go_at_call 101;refine HY.out.mono ?_;rintro e w1 ⟨rfl,e1⟩;have e1':=hid e1;rw [e1'.out];clear e1)
        | (go_at_call 102;refine HL.out.mono ?_;rintro e w2 ⟨rfl,e2⟩;have e2':=hid e2;rw [e2'.out];clear e2))
       go_ret
       exact ⟨rfl,FF,E0.out⟩
     | true =>
       rw [hn] at HL
       have hl0 : M.leftC = 0:=by unfold MS.leftC;rw [hn];rfl
       rw [hl0,if_pos rfl,if_pos rfl]
       have hlen:=(len_pos ok false).2
       have hib : i ≤ 16384:=by omega
       obtain ⟨I,hI⟩ : ∃ I,i + 1 = I:=⟨_,rfl⟩
       have HI:=hid hI
       have ok1 : SysOk (M.doW I S false).s:=(doW_stp M I S false).ok ok
       have ht1 : (M.doW I S false).s.T < 999900:=by have:=(doW_stp M I S false).T ok;omega
       rw [hI]
       clear hm ha hn hl0 hlen h5 hi1 hI
       go_enter Tryz.func64,Tryz.ntmps64
       go_wp2_with (first
        | (go_at_call 101;refine HY.out.mono ?_;rintro e w1 ⟨rfl,e1⟩;have e1':=hid e1;rw [e1'.out];clear e1)
        | (go_at_call 102;refine HL.out.mono ?_;rintro e w2 ⟨rfl,e2⟩;have e2':=hid e2;rw [e2'.out];clear e2))
       clear HL HY
       go_loopw [7] (fun kv wr => ∃ q : Nat,q ≤ 2 ∧ kv = .int .i64 (q : Int) ∧ ∃ FF',Hid (Ev w (l ++ mirX pbs m db ib d FF M) wr (l ++ mirX pbs m db ib d FF' (writeK M I S q)))) (fun kv _ => 2 - (intOf kv).toNat)
       case atStart => exact ⟨0,by decide,rfl,FF,E0⟩
       case round =>
        obtain ⟨q,hq,rfl,FF1,E⟩:=hrel
        clear E0
        have hq3 : q = 0 ∨ q = 1 ∨ q = 2:=by omega
        rcases hq3 with rfl | rfl | rfl
        · rw [show writeK M I S 0 = M from rfl] at E
          rw [show ((0 : Nat) : Int) = 0 from rfl]
          obtain ⟨b0,b1,hib,hb0,hb1⟩:=xir_is E.out.held
          have i1 : wr.cell? ⟨m,1,none⟩ = some (.slice (some ⟨ib,0,none⟩) 2 2):=(xir_blk E.out.held).cell 1
          have i2 : wr.cell? ⟨ib,0,none⟩ = some (.int .i64 b0):=hib.cell 0
          cases hc : (M).c false with
          | false =>
            have hz : (b0 == 0) = false:=by
             have : decide (b0 = 0) = false:=hb0.symm.trans hc
             simpa using this
            have HS:=hid ((fun hc => doW_skip (I:=I) (S:=S) hc) hc)
            clear hib hb0 hb1 hc
            go_wp2_with fail
            go_roundw
            case rel => exact ⟨0 + 1,by decide,by first | rfl | go_num,FF1,by rw [show writeK M I S (0 + 1) = M.doW I S false from rfl];rw [HS.out];exact E⟩
            case measure => simp [intOf]
          | true =>
            have hz : b0 = 0:=by
             have : decide (b0 = 0) = true:=hb0.symm.trans hc
             simpa using this
            have hz2 : (b0 == 0) = true:=by simp [hz]
            have k0 : wr.cell? ⟨m,0,none⟩ = some (.slice (some ⟨db,0,none⟩) 2 2):=(xir_blk E.out.held).cell 0
            have d0 : wr.cell? ⟨db,0,none⟩ = some (.pointer (some ⟨d false,0,none⟩)):=(xir_dbl E.out.held).cell 0
            have okx : SysOk (M).s:=ok
            have htx : (M).s.T < 999900:=(by omega)
            obtain ⟨ec,hec⟩ : ∃ ec,M.s.wrC false I S = ec:=⟨_,rfl⟩;have HCa:=hid (pW false E.out.held okx (by omega) I S hS);have HLo:=hid fun (w1 : World) (FF2 : Bool → List Nat) (h1 : Held w1 (l ++ mirX pbs m db ib d FF2 { M with s:=M.s.wr false I S })) => plose_false h1 ((wr_stp M.s false I S).ok okx) (show (M.s.wr false I S).T < 999990 by have:=(wr_stp M.s false I S).T okx;omega);rw [hec] at HCa
            clear hib hb0 hb1 hz
            by_cases z1 : ec = 0
            · have HS:=hid ((fun hc z => doW_good (I:=I) (S:=S) hc (hec.trans z)) hc z1)
              subst z1
              clear HLo hc
              go_wp2_with (go_at_call 59;rw [HI.out];refine HCa.out.mono ?_;rintro e w5 ⟨rfl,FF5,v5⟩;have E5:=hid (E.out.trans v5);clear v5 HCa)
              go_roundw
              case rel => exact ⟨0 + 1,by decide,by first | rfl | go_num,FF5,by rw [show writeK M I S (0 + 1) = M.doW I S false from rfl];rw [HS.out];exact E5⟩
              case measure => simp [intOf]
            · have HS:=hid ((fun hc z => doW_bad (I:=I) (S:=S) hc (fun e => z (hec.symm.trans e))) hc z1)
              have u1 : (ec != 0) = true:=by simpa using z1
              clear hc z1
              go_wp2_with (first
               | (go_at_call 59;rw [HI.out];refine HCa.out.mono ?_;rintro e w5 ⟨rfl,FF5,v5⟩;have E5:=hid (E.out.trans v5);clear v5 HCa)
               | (go_at_call 103;refine (HLo.out _ _ E5.out.held).mono ?_;rintro e w6 ⟨rfl,FF6,v6⟩;have E6:=hid (E5.out.trans v6);clear v6 HLo))
              go_roundw
              case rel => exact ⟨0 + 1,by decide,by first | rfl | go_num,FF6,by rw [show writeK M I S (0 + 1) = M.doW I S false from rfl];rw [HS.out];exact E6⟩
              case measure => simp [intOf]
        · rw [show writeK M I S 1 = M.doW I S false from rfl] at E
          rw [show ((1 : Nat) : Int) = 1 from rfl]
          have hK2 : writeK M I S (1 + 1) = (M.doW I S false).doW I S true:=rfl
          generalize M.doW I S false = M1 at *
          obtain ⟨b0,b1,hib,hb0,hb1⟩:=xir_is E.out.held
          have i1 : wr.cell? ⟨m,1,none⟩ = some (.slice (some ⟨ib,0,none⟩) 2 2):=(xir_blk E.out.held).cell 1
          have i2 : wr.cell? ⟨ib,1,none⟩ = some (.int .i64 b1):=hib.cell 1
          cases hc : (M1).c true with
          | false =>
            have hz : (b1 == 0) = false:=by
             have : decide (b1 = 0) = false:=hb1.symm.trans hc
             simpa using this
            have HS:=hid ((fun hc => doW_skip (I:=I) (S:=S) hc) hc)
            clear hib hb0 hb1 hc
            go_wp2_with fail
            go_roundw
            case rel => exact ⟨1 + 1,by decide,by first | rfl | go_num,FF1,by rw [hK2];rw [HS.out];exact E⟩
            case measure => simp [intOf]
          | true =>
            have hz : b1 = 0:=by
             have : decide (b1 = 0) = true:=hb1.symm.trans hc
             simpa using this
            have hz2 : (b1 == 0) = true:=by simp [hz]
            have k0 : wr.cell? ⟨m,0,none⟩ = some (.slice (some ⟨db,0,none⟩) 2 2):=(xir_blk E.out.held).cell 0
            have d0 : wr.cell? ⟨db,1,none⟩ = some (.pointer (some ⟨d true,0,none⟩)):=(xir_dbl E.out.held).cell 1
            have okx : SysOk (M1).s:=ok1
            have htx : (M1).s.T < 999900:=ht1
            obtain ⟨ec,hec⟩ : ∃ ec,M1.s.wrC true I S = ec:=⟨_,rfl⟩;have HCa:=hid (pW true E.out.held okx (by omega) I S hS);have HLo:=hid fun (w1 : World) (FF2 : Bool → List Nat) (h1 : Held w1 (l ++ mirX pbs m db ib d FF2 { M1 with s:=M1.s.wr true I S })) => plose_true h1 ((wr_stp M1.s true I S).ok okx) (show (M1.s.wr true I S).T < 999990 by have:=(wr_stp M1.s true I S).T okx;omega);rw [hec] at HCa
            clear hib hb0 hb1 hz
            by_cases z1 : ec = 0
            · have HS:=hid ((fun hc z => doW_good (I:=I) (S:=S) hc (hec.trans z)) hc z1)
              subst z1
              clear HLo hc
              go_wp2_with (go_at_call 59;rw [HI.out];refine HCa.out.mono ?_;rintro e w5 ⟨rfl,FF5,v5⟩;have E5:=hid (E.out.trans v5);clear v5 HCa)
              go_roundw
              case rel => exact ⟨1 + 1,by decide,by first | rfl | go_num,FF5,by rw [hK2];rw [HS.out];exact E5⟩
              case measure => simp [intOf]
            · have HS:=hid ((fun hc z => doW_bad (I:=I) (S:=S) hc (fun e => z (hec.symm.trans e))) hc z1)
              have u1 : (ec != 0) = true:=by simpa using z1
              clear hc z1
              go_wp2_with (first
               | (go_at_call 59;rw [HI.out];refine HCa.out.mono ?_;rintro e w5 ⟨rfl,FF5,v5⟩;have E5:=hid (E.out.trans v5);clear v5 HCa)
               | (go_at_call 103;refine (HLo.out _ _ E5.out.held).mono ?_;rintro e w6 ⟨rfl,FF6,v6⟩;have E6:=hid (E5.out.trans v6);clear v6 HLo))
              go_roundw
              case rel => exact ⟨1 + 1,by decide,by first | rfl | go_num,FF6,by rw [hK2];rw [HS.out];exact E6⟩
              case measure => simp [intOf]
        · rw [show writeK M I S 2 = M.eachW I S from rfl] at E
          have HL2:=hid (plost_any E.out.held)
          cases ha : (M.eachW I S).any with
          | false =>
            rw [ha] at HL2
            have HC:=hid (show (M.eachW I S).leftC = 70 by unfold MS.leftC;rw [ha];rfl)
            go_wp2_with (go_at_call 102;refine HL2.out.mono ?_;rintro e w9 ⟨rfl,e9⟩;have e9':=hid e9;rw [e9'.out];clear e9)
            go_ret
            rw [HC.out]
            exact ⟨rfl,FF1,E.out⟩
          | true =>
            rw [ha] at HL2
            have HC:=hid (show (M.eachW I S).leftC = 0 by unfold MS.leftC;rw [ha];rfl)
            go_wp2_with (go_at_call 102;refine HL2.out.mono ?_;rintro e w9 ⟨rfl,e9⟩;have e9':=hid e9;rw [e9'.out];clear e9)
            go_ret
            rw [HC.out]
            exact ⟨rfl,FF1,E.out⟩
   · rw [if_neg h5,if_neg h5]
     have hd5 : ((S.size : Int) != 512) = true:=by simp;omega
     clear h ok ht hm ha h5
     go_enter Tryz.func64,Tryz.ntmps64
     go_wp2_with (go_at_call 101;refine HY.out.mono ?_;rintro e w1 ⟨rfl,e1⟩;have e1':=hid e1;rw [e1'.out];clear e1)
     go_ret
     exact ⟨rfl,FF,E0.out⟩
end
theorem xR' {w : World} {l : List Res} {pbs : List Nat} {m db ib : Nat} {M : MS} {d : Bool → Nat} {FF : Bool → List Nat} (b : Bool) (h : Held w (l ++ mirX pbs m db ib d FF M)) (ok : SysOk M.s) (ht : M.s.T < 1000000) (j : Int) :
 Calls Tryz.prog 93 #[.pointer (some ⟨d b,0,none⟩),.int .i64 j] w fun e w' => e = .returned (.tuple #[.string (M.s.rdS b j),.int .i64 (M.s.rdC b j)]) ∧ w' = w:=xR b (xir_sys h) ok ht j
theorem rd_in {M : MS} {i : Int} (h : M.atC i = M.leftC) : M.rd i = M.rd0 i:=by
 unfold MS.rd
 rw [h]
 cases ha : M.any with
 | true =>
   rw [if_pos (by unfold MS.leftC;rw [ha];rfl)]
 | false =>
   have hl : M.leftC = 70:=by unfold MS.leftC;rw [ha];rfl
   have h2 : M.c0 = false ∧ M.c1 = false:=by unfold MS.any at ha;simpa using ha
   rw [hl,if_neg (by decide)]
   unfold MS.rd0 MS.rd1
   rw [h2.1,h2.2]
   rfl
section
variable {w w' w0 : World} {l rs : List Res} {pbs : List Nat} {m db ib : Nat} {M M' : MS} {d : Bool → Nat} {FF FF' : Bool → List Nat}
theorem pread_any (h : Held w (l ++ mirX pbs m db ib d FF M)) (ok : SysOk M.s) (ht : M.s.T < 999800) (i : Int) :
 Calls Tryz.prog 68 #[.pointer (some ⟨m,0,none⟩),.int .i64 i] w fun e w' => e = .returned (.tuple #[.string (M.rd i).2.1,.int .i64 (M.rd i).2.2]) ∧ ∃ FF',Ev w (l ++ mirX pbs m db ib d FF M) w' (l ++ mirX pbs m db ib d FF' (M.rd i).1):=by
 have HY:=hid (pmay_any h ok i)
 have E0:=hid (Ev.refl h)
 cases hm : mayB (M.s.len false) i with
 | false =>
   have ha:=pmayB_at M i hm
   have e1 : M.rd i = (M,⟨#[]⟩,2):=by unfold MS.rd;rw [ha];rfl
   rw [e1]
   rw [hm] at HY
   clear h ok ht hm ha e1
   go_enter Tryz.func68,Tryz.ntmps68
   go_wp2_with (go_at_call 101;refine HY.out.mono ?_;rintro e w1 ⟨rfl,e1⟩;have e1':=hid e1;rw [e1'.out];clear e1)
   go_ret2
   exact ⟨rfl,FF,E0.out⟩
 | true =>
   obtain ⟨ha,hi0,hi1⟩:=pmayB_in M i hm
   rw [hm] at HY
   rw [rd_in ha]
   have hlen:=(len_pos ok false).2
   have hib' : i ≤ 16384:=by omega
   obtain ⟨I,hI⟩ : ∃ I,i + 1 = I:=⟨_,rfl⟩
   have HI:=hid hI
   have HT:=hid ht
   have HOK:=hid ok
   obtain ⟨R,hR⟩ : ∃ R,M.rd0 i = R:=⟨_,rfl⟩
   rw [hR]
   have H00:=hid fun hc : M.c false = false => (show R = M.rd1 i from by rw [← hR];unfold MS.rd0;rw [show M.c0 = false from hc];rfl)
   have H01:=hid fun (hc : M.c false = true) (st : ByteArray) (z : M.s.rdC false I = 0) (hs : M.s.rdS false I = st) => (show R = (M,st,0) from by rw [← hR,← hs,← hI];unfold MS.rd0;rw [show M.c0 = true from hc,hI,if_pos rfl,if_pos z])
   have H02:=hid fun (hc : M.c false = true) (z : M.s.rdC false I ≠ 0) => (show R = (M.lose false).rd1 i from by rw [← hR];unfold MS.rd0;rw [show M.c0 = true from hc,hI,if_pos rfl,if_neg z])
   clear h ok ht hm ha hlen hi1 hR hI
   go_enter Tryz.func68,Tryz.ntmps68
   go_wp2_with (go_at_call 101;refine HY.out.mono ?_;rintro e w1 ⟨rfl,e1⟩;have e1':=hid e1;rw [e1'.out];clear e1)
   clear HY
   go_loopw [6] (fun kv wr => ∃ (q : Nat) (FF' : Bool → List Nat) (Mx : MS),q ≤ 2 ∧ kv = .int .i64 (q : Int) ∧ Hid (Ev w (l ++ mirX pbs m db ib d FF M) wr (l ++ mirX pbs m db ib d FF' Mx)) ∧ Hid (SysOk Mx.s) ∧ Hid (Mx.s.T < 999800 + 10 * q) ∧ (q = 0 → Mx = M) ∧ (q = 1 → Hid (R = Mx.rd1 i)) ∧ (q = 2 → Hid (R = (Mx,⟨#[]⟩,70)))) (fun kv _ => 2 - (intOf kv).toNat)
   case atStart => exact ⟨0,FF,M,by decide,rfl,E0,HOK,hid (by have:=HT.out;omega),fun _ => rfl,(fun h => absurd h (by decide)),(fun h => absurd h (by decide))⟩
   case round =>
    obtain ⟨q,FF1,Mx,hq,rfl,E,OK,TX,g0,g1,g2⟩:=hrel
    clear E0 HOK HT
    have hq3 : q = 0 ∨ q = 1 ∨ q = 2:=by omega
    rcases hq3 with rfl | rfl | rfl
    · obtain rfl:=g0 rfl
      clear g0 g1 g2
      rw [show ((0 : Nat) : Int) = 0 from rfl]
      obtain ⟨b0,b1,hib,hb0,hb1⟩:=xir_is E.out.held
      have i1 : wr.cell? ⟨m,1,none⟩ = some (.slice (some ⟨ib,0,none⟩) 2 2):=(xir_blk E.out.held).cell 1
      have i2 : wr.cell? ⟨ib,0,none⟩ = some (.int .i64 b0):=hib.cell 0
      cases hc : Mx.c false with
      | false =>
        have hz : (b0 != 0) = true:=by
         have : decide (b0 = 0) = false:=hb0.symm.trans hc
         simpa using this
        have HS:=hid ((fun hc => H00.out hc) hc)
        clear hib hb0 hb1 hc
        go_wp2_with fail
        go_roundw
        case rel => exact ⟨0 + 1,FF1,Mx,by decide,by first | rfl | go_num,E,OK,hid (by have:=TX.out;omega),(fun h => absurd h (by decide)),fun _ => HS,(fun h => absurd h (by decide))⟩
        case measure => simp [intOf]
      | true =>
        have hz : b0 = 0:=by
         have : decide (b0 = 0) = true:=hb0.symm.trans hc
         simpa using this
        have hz2 : (b0 != 0) = false:=by simp [hz]
        have k0 : wr.cell? ⟨m,0,none⟩ = some (.slice (some ⟨db,0,none⟩) 2 2):=(xir_blk E.out.held).cell 0
        have d0 : wr.cell? ⟨db,0,none⟩ = some (.pointer (some ⟨d false,0,none⟩)):=(xir_dbl E.out.held).cell 0
        have HR:=hid (xR' false E.out.held OK.out (by have:=TX.out;omega) I)
        have HLo:=hid fun (w1 : World) (h1 : Held w1 (l ++ mirX pbs m db ib d FF1 Mx)) => plose_false h1 OK.out (by have:=TX.out;omega)
        obtain ⟨ec,hec⟩ : ∃ ec,Mx.s.rdC false I = ec:=⟨_,rfl⟩
        obtain ⟨st,hst⟩ : ∃ st,Mx.s.rdS false I = st:=⟨_,rfl⟩
        rw [hec,hst] at HR
        clear hib hb0 hb1 hz
        by_cases z1 : ec = 0
        · have HS:=hid ((fun hc z hs => H01.out hc _ z hs) hc (hec.trans z1) hst)
          subst z1
          clear HLo hc hec hst
          go_wp2_with (go_at_call 93;rw [HI.out];refine HR.out.mono ?_;rintro e w5 ⟨rfl,e5⟩;have e5':=hid e5;rw [e5'.out];clear e5)
          go_ret2
          rw [HS.out]
          exact ⟨rfl,FF1,E.out⟩
        · have HS:=hid ((fun hc z => H02.out hc z) hc (fun e => z1 (hec.symm.trans e)))
          have u1 : (ec == 0) = false:=by simpa using z1
          clear hc z1 hec hst
          go_wp2_with (first
           | (go_at_call 93;rw [HI.out];refine HR.out.mono ?_;rintro e w5 ⟨rfl,e5⟩;have e5':=hid e5;rw [e5'.out];clear e5)
           | (go_at_call 103;refine (HLo.out _ E.out.held).mono ?_;rintro e w6 ⟨rfl,FF6,v6⟩;have E6:=hid (E.out.trans v6);clear v6 HLo))
          go_roundw
          case rel => exact ⟨0 + 1,FF6,Mx.lose false,by decide,by first | rfl | go_num,E6,hid ((lose_stp Mx false).ok OK.out),hid (by have:=(lose_stp Mx false).T OK.out;have:=TX.out;omega),(fun h => absurd h (by decide)),fun _ => HS,(fun h => absurd h (by decide))⟩
          case measure => simp [intOf]
    · have G:=(g1 rfl)
      clear g0 g1 g2 H00 H01 H02
      rw [show ((1 : Nat) : Int) = 1 from rfl]
      have K0:=hid fun hc : Mx.c true = false => (show R = (Mx,⟨#[]⟩,70) from by rw [G.out];unfold MS.rd1;rw [show Mx.c1 = false from hc];rfl)
      have K1:=hid fun (hc : Mx.c true = true) (st : ByteArray) (z : Mx.s.rdC true I = 0) (hs : Mx.s.rdS true I = st) => (show R = (Mx,st,0) from by rw [G.out,← hs,← HI.out];unfold MS.rd1;rw [show Mx.c1 = true from hc,HI.out,if_pos rfl,if_pos z])
      have K2:=hid fun (hc : Mx.c true = true) (z : Mx.s.rdC true I ≠ 0) => (show R = (Mx.lose true,⟨#[]⟩,70) from by rw [G.out];unfold MS.rd1;rw [show Mx.c1 = true from hc,HI.out,if_pos rfl,if_neg z])
      obtain ⟨b0,b1,hib,hb0,hb1⟩:=xir_is E.out.held
      have i1 : wr.cell? ⟨m,1,none⟩ = some (.slice (some ⟨ib,0,none⟩) 2 2):=(xir_blk E.out.held).cell 1
      have i2 : wr.cell? ⟨ib,1,none⟩ = some (.int .i64 b1):=hib.cell 1
      cases hc : Mx.c true with
      | false =>
        have hz : (b1 != 0) = true:=by
         have : decide (b1 = 0) = false:=hb1.symm.trans hc
         simpa using this
        have HS:=hid ((fun hc => K0.out hc) hc)
        clear hib hb0 hb1 hc
        go_wp2_with fail
        go_roundw
        case rel => exact ⟨1 + 1,FF1,Mx,by decide,by first | rfl | go_num,E,OK,hid (by have:=TX.out;omega),(fun h => absurd h (by decide)),(fun h => absurd h (by decide)),fun _ => HS⟩
        case measure => simp [intOf]
      | true =>
        have hz : b1 = 0:=by
         have : decide (b1 = 0) = true:=hb1.symm.trans hc
         simpa using this
        have hz2 : (b1 != 0) = false:=by simp [hz]
        have k0 : wr.cell? ⟨m,0,none⟩ = some (.slice (some ⟨db,0,none⟩) 2 2):=(xir_blk E.out.held).cell 0
        have d0 : wr.cell? ⟨db,1,none⟩ = some (.pointer (some ⟨d true,0,none⟩)):=(xir_dbl E.out.held).cell 1
        have HR:=hid (xR' true E.out.held OK.out (by have:=TX.out;omega) I)
        have HLo:=hid fun (w1 : World) (h1 : Held w1 (l ++ mirX pbs m db ib d FF1 Mx)) => plose_true h1 OK.out (by have:=TX.out;omega)
        obtain ⟨ec,hec⟩ : ∃ ec,Mx.s.rdC true I = ec:=⟨_,rfl⟩
        obtain ⟨st,hst⟩ : ∃ st,Mx.s.rdS true I = st:=⟨_,rfl⟩
        rw [hec,hst] at HR
        clear hib hb0 hb1 hz
        by_cases z1 : ec = 0
        · have HS:=hid ((fun hc z hs => K1.out hc _ z hs) hc (hec.trans z1) hst)
          subst z1
          clear HLo hc hec hst
          go_wp2_with (go_at_call 93;rw [HI.out];refine HR.out.mono ?_;rintro e w5 ⟨rfl,e5⟩;have e5':=hid e5;rw [e5'.out];clear e5)
          go_ret2
          rw [HS.out]
          exact ⟨rfl,FF1,E.out⟩
        · have HS:=hid ((fun hc z => K2.out hc z) hc (fun e => z1 (hec.symm.trans e)))
          have u1 : (ec == 0) = false:=by simpa using z1
          clear hc z1 hec hst
          go_wp2_with (first
           | (go_at_call 93;rw [HI.out];refine HR.out.mono ?_;rintro e w5 ⟨rfl,e5⟩;have e5':=hid e5;rw [e5'.out];clear e5)
           | (go_at_call 103;refine (HLo.out _ E.out.held).mono ?_;rintro e w6 ⟨rfl,FF6,v6⟩;have E6:=hid (E.out.trans v6);clear v6 HLo))
          go_roundw
          case rel => exact ⟨1 + 1,FF6,Mx.lose true,by decide,by first | rfl | go_num,E6,hid ((lose_stp Mx true).ok OK.out),hid (by have:=(lose_stp Mx true).T OK.out;have:=TX.out;omega),(fun h => absurd h (by decide)),(fun h => absurd h (by decide)),fun _ => HS⟩
          case measure => simp [intOf]
    · have G:=(g2 rfl)
      clear g0 g1 g2
      go_wp2_with fail
      go_ret2
      rw [G.out]
      exact ⟨rfl,FF1,E.out⟩
theorem pother_any (h : Held w (l ++ mirX pbs m db ib d FF M)) (ok : SysOk M.s) (ht : M.s.T < 999800) (i : Int) :
 Calls Tryz.prog 67 #[.pointer (some ⟨m,0,none⟩),.int .i64 i] w fun e w' => e = .returned (.tuple #[.string (M.ot i).2.1,.int .i64 (M.ot i).2.2]) ∧ ∃ FF',Ev w (l ++ mirX pbs m db ib d FF M) w' (l ++ mirX pbs m db ib d FF' (M.ot i).1):=by
 have HY:=hid (pmay_any h ok i)
 have HL:=hid (plost_any h)
 have E0:=hid (Ev.refl h)
 cases hm : mayB (M.s.len false) i with
 | false =>
   have ha:=pmayB_at M i hm
   have e1 : M.ot i = (M,⟨#[]⟩,2):=by unfold MS.ot;rw [ha];rfl
   rw [e1]
   rw [hm] at HY
   clear h ok ht hm ha e1
   go_enter Tryz.func67,Tryz.ntmps67
   go_wp2_with (go_at_call 101;refine HY.out.mono ?_;rintro e w1 ⟨rfl,e1⟩;have e1':=hid e1;rw [e1'.out];clear e1)
   go_ret2
   exact ⟨rfl,FF,E0.out⟩
 | true =>
   obtain ⟨ha,hi0,hi1⟩:=pmayB_in M i hm
   rw [hm] at HY
   cases hn : M.any with
   | false =>
     have hl0 : M.leftC = 70:=by unfold MS.leftC;rw [hn];rfl
     have e1 : M.ot i = (M,⟨#[]⟩,70):=by unfold MS.ot;rw [ha,hl0];rfl
     rw [e1]
     rw [hn] at HL
     clear h ok ht hm ha hn hl0 e1
     go_enter Tryz.func67,Tryz.ntmps67
     go_wp2_with (first
      | (go_at_call 101;refine HY.out.mono ?_;rintro e w1 ⟨rfl,e1⟩;have e1':=hid e1;rw [e1'.out];clear e1)
      | (go_at_call 102;refine HL.out.mono ?_;rintro e w2 ⟨rfl,e2⟩;have e2':=hid e2;rw [e2'.out];clear e2))
     go_ret2
     exact ⟨rfl,FF,E0.out⟩
   | true =>
     rw [hn] at HL
     have hl0 : M.leftC = 0:=by unfold MS.leftC;rw [hn];rfl
     have e0 : M.ot i = if M.c0 && M.c1 then M.ot1 i else (M,⟨#[]⟩,5):=by unfold MS.ot;rw [ha,hl0,if_pos rfl]
     rw [e0]
     obtain ⟨b0,b1,hib,hb0,hb1⟩:=xir_is h
     have i1 : w.cell? ⟨m,1,none⟩ = some (.slice (some ⟨ib,0,none⟩) 2 2):=(xir_blk h).cell 1
     have i2 : w.cell? ⟨ib,0,none⟩ = some (.int .i64 b0):=hib.cell 0
     have i3 : w.cell? ⟨ib,1,none⟩ = some (.int .i64 b1):=hib.cell 1
     by_cases z0 : b0 = 0
     · by_cases z1 : b1 = 0
       · have c0 : M.c0 = true:=by rw [hb0,z0];rfl
         have c1 : M.c1 = true:=by rw [hb1,z1];rfl
         rw [c0,c1]
         simp only [Bool.and_self,if_true]
         have u0 : (b0 != 0) = false:=by simp [z0]
         have u1 : (b1 != 0) = false:=by simp [z1]
         have k0 : w.cell? ⟨m,0,none⟩ = some (.slice (some ⟨db,0,none⟩) 2 2):=(xir_blk h).cell 0
         have d0 : w.cell? ⟨db,1,none⟩ = some (.pointer (some ⟨d true,0,none⟩)):=(xir_dbl h).cell 1
         have hlen:=(len_pos ok false).2
         have hib' : i ≤ 16384:=by omega
         obtain ⟨I,hI⟩ : ∃ I,i + 1 = I:=⟨_,rfl⟩
         have HI:=hid hI
         have HR:=hid (xR' true h ok (by omega) I)
         have HLo:=hid fun (w1 : World) (h1 : Held w1 (l ++ mirX pbs m db ib d FF M)) => plose_true h1 ok (by omega)
         have HL2:=hid fun (w1 : World) (FF2 : Bool → List Nat) (h1 : Held w1 (l ++ mirX pbs m db ib d FF2 (M.lose true))) => plost_any h1
         unfold MS.ot1
         rw [hI]
         obtain ⟨ec,hec⟩ : ∃ ec,M.s.rdC true I = ec:=⟨_,rfl⟩
         obtain ⟨st,hst⟩ : ∃ st,M.s.rdS true I = st:=⟨_,rfl⟩
         rw [hec,hst] at HR ⊢
         clear h ok ht hm ha hn hl0 e0 hib hb0 hb1 z0 z1 c0 c1 hlen hec hst hI hi1
         by_cases z1 : ec = 0
         · rw [if_pos z1]
           subst z1
           clear HL2 HLo
           go_enter Tryz.func67,Tryz.ntmps67
           go_wp2_with (first
            | (go_at_call 101;refine HY.out.mono ?_;rintro e w1 ⟨rfl,e1⟩;have e1':=hid e1;rw [e1'.out];clear e1)
            | (go_at_call 102;refine HL.out.mono ?_;rintro e w2 ⟨rfl,e2⟩;have e2':=hid e2;rw [e2'.out];clear e2)
            | (go_at_call 93;rw [HI.out];refine HR.out.mono ?_;rintro e w5 ⟨rfl,e5⟩;have e5':=hid e5;rw [e5'.out];clear e5))
           go_ret2
           exact ⟨rfl,FF,E0.out⟩
         · rw [if_neg z1]
           have v1 : (ec == 0) = false:=by simpa using z1
           clear z1
           cases ha : (M.lose true).any with
           | false =>
             rw [ha] at HL2
             have hl : (M.lose true).leftC = 70:=by unfold MS.leftC;rw [ha];rfl
             rw [hl,if_neg (by decide)]
             clear ha hl
             go_enter Tryz.func67,Tryz.ntmps67
             go_wp2_with (first
              | (go_at_call 101;refine HY.out.mono ?_;rintro e w1 ⟨rfl,e1⟩;have e1':=hid e1;rw [e1'.out];clear e1)
              | (go_at_call 102;refine HL.out.mono ?_;rintro e w2 ⟨rfl,e2⟩;have e2':=hid e2;rw [e2'.out];clear e2 HL)
              | (go_at_call 93;rw [HI.out];refine HR.out.mono ?_;rintro e w5 ⟨rfl,e5⟩;have e5':=hid e5;rw [e5'.out];clear e5)
              | (go_at_call 103;refine (HLo.out _ E0.out.held).mono ?_;rintro e w6 ⟨rfl,FF6,v6⟩;have E6:=hid v6;clear v6 HLo)
              | (go_at_call 102;refine (HL2.out _ _ E6.out.held).mono ?_;rintro e w7 ⟨rfl,e7⟩;have e7':=hid e7;rw [e7'.out];clear e7 HL2))
             go_ret2
             exact ⟨rfl,FF6,E6.out⟩
           | true =>
             rw [ha] at HL2
             have hl : (M.lose true).leftC = 0:=by unfold MS.leftC;rw [ha];rfl
             rw [hl,if_pos rfl]
             clear ha hl
             go_enter Tryz.func67,Tryz.ntmps67
             go_wp2_with (first
              | (go_at_call 101;refine HY.out.mono ?_;rintro e w1 ⟨rfl,e1⟩;have e1':=hid e1;rw [e1'.out];clear e1)
              | (go_at_call 102;refine HL.out.mono ?_;rintro e w2 ⟨rfl,e2⟩;have e2':=hid e2;rw [e2'.out];clear e2 HL)
              | (go_at_call 93;rw [HI.out];refine HR.out.mono ?_;rintro e w5 ⟨rfl,e5⟩;have e5':=hid e5;rw [e5'.out];clear e5)
              | (go_at_call 103;refine (HLo.out _ E0.out.held).mono ?_;rintro e w6 ⟨rfl,FF6,v6⟩;have E6:=hid v6;clear v6 HLo)
              | (go_at_call 102;refine (HL2.out _ _ E6.out.held).mono ?_;rintro e w7 ⟨rfl,e7⟩;have e7':=hid e7;rw [e7'.out];clear e7 HL2))
             go_ret2
             exact ⟨rfl,FF6,E6.out⟩
       · have c1 : M.c1 = false:=by rw [hb1];simpa using z1
         rw [c1,Bool.and_false]
         simp only [Bool.false_eq_true,if_false]
         have u0 : (b0 != 0) = false:=by simp [z0]
         have u1 : (b1 != 0) = true:=by simpa using z1
         clear h ok ht hm ha hn hl0 e0 hib hb0 hb1 z0 z1 c1
         go_enter Tryz.func67,Tryz.ntmps67
         go_wp2_with (first
          | (go_at_call 101;refine HY.out.mono ?_;rintro e w1 ⟨rfl,e1⟩;have e1':=hid e1;rw [e1'.out];clear e1)
          | (go_at_call 102;refine HL.out.mono ?_;rintro e w2 ⟨rfl,e2⟩;have e2':=hid e2;rw [e2'.out];clear e2))
         go_ret2
         exact ⟨rfl,FF,E0.out⟩
     · have c0 : M.c0 = false:=by rw [hb0];simpa using z0
       rw [c0,Bool.false_and]
       simp only [Bool.false_eq_true,if_false]
       have u0 : (b0 != 0) = true:=by simpa using z0
       clear h ok ht hm ha hn hl0 e0 hib hb0 hb1 z0 c0
       go_enter Tryz.func67,Tryz.ntmps67
       go_wp2_with (first
        | (go_at_call 101;refine HY.out.mono ?_;rintro e w1 ⟨rfl,e1⟩;have e1':=hid e1;rw [e1'.out];clear e1)
        | (go_at_call 102;refine HL.out.mono ?_;rintro e w2 ⟨rfl,e2⟩;have e2':=hid e2;rw [e2'.out];clear e2))
       go_ret2
       exact ⟨rfl,FF,E0.out⟩
end
end Go.Proofs.YtgafefecookgaaaGreat
