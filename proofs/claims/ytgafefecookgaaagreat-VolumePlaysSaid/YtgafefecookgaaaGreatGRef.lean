/- Several texts put together: RefA, RefB, RefC, RefD, RefE, SecU, SecN, SecP, SecQ, SecR, SecS, SecT, SecV, RefF, RefG, SecX, SecSt, SecY, SecZ, SecO, SecOb, SecD1, SecD2, SecD3. What each shows stands ahead of it. -/
import Derived.Test.YtgafefecookgaaaGreatGSec
import Derived.Test.YtgafefecookgaaaGreatGCore
import Derived.Test.YtgafefecookgaaaGreatGArgs
import Derived.Stop.BytesEq
open Go.World renaming size_alloc → aA,size_drew → aB
open List renaming setIfInBounds_toArray → aC,set_cons_succ → aD,set_cons_zero → aE,toList_toArray → aF,map_cons → aG,map_nil → aI,getD_cons_succ → aJ,getD_cons_zero → aK
set_option linter.unusedVariables false
set_option linter.unusedSimpArgs false
set_option maxRecDepth 20000
set_option maxHeartbeats 16000000
namespace Go.Proofs.YtgafefecookgaaaGreat
open Go Go.Xr Go.RowKit
theorem own_open {w : World} {size n : Nat} {v : Value} {xs : List Value} {B : Option Nat} (h : Xr.Own w size v n xs B) (hn : 0 < n) :
 ∃ b cap,B = some b ∧ v = .slice (some ⟨b,0,none⟩) n cap ∧ n ≤ cap ∧ cap ≤ maxLen ∧ ∀ j,j < xs.length → w.cell? ⟨b,j,none⟩ = xs[j]? ∧ w.frozen? ⟨b,j,none⟩ = false:=by
 rcases h.2 with ⟨_,h1,_⟩ | ⟨b,cap,cs,hB,hv,h1,h2,h3,h4,h5⟩
 · omega
 · refine ⟨b,cap,hB,hv,h1,h2,fun j hj => ⟨h.cellAt hB hj,h3.free j ?_⟩⟩
   rw [← h5,List.length_take] at hj
   omega
structure XD where
 Kept : List ByteArray
 L : List (Nat × ByteArray)
 Trace : List Int
 Dead : Bool
structure XI where
 kv : Value
 lv : Value
 tv : Value
 K : Option Nat
 Lb : Option Nat
 T : Option Nat
def xlc (l : List (Nat × ByteArray)) : List Value:=l.flatMap fun p => [.int .i64 (p.1 : Int),.string p.2]
def xps (x : Nat) (X : XD) (pw : Option (Nat × Nat)) (i : XI) : List Res :=
 [Res.blk x [i.kv,i.lv,i.tv,.bool X.Dead,pwv pw],Res.own 1 i.kv X.Kept.length (X.Kept.map .string) i.K,Res.own 2 i.lv X.L.length (xlc X.L) i.Lb,Res.own 1 i.tv X.Trace.length (X.Trace.map (.int .i64)) i.T]
def offB : Option (Nat × Nat) → Bool
 | some (_,0) => true
 | _ => false
theorem off_any {w : World} {x : Nat} {X : XD} {pw : Option (Nat × Nat)} {i : XI} (h : Held w (Res.pow pw :: xps x X pw i)) :
 Calls Tryz.prog 92 #[.pointer (some ⟨x,0,none⟩)] w fun e w' => e = .returned (.bool (offB pw)) ∧ w = w':=by
 have hc:=(h.blkAt 1 rfl).cell
 have hp : pwOk w pw:=h.at 0 rfl
 clear h
 match pw,hp with
 | none,_ =>
   simp only [pwv] at hc
   go_enter Tryz.func92,Tryz.ntmps92
   go_wp2
   go_ret
   exact ⟨rfl,rfl⟩
 | some (p,0),hp =>
   simp only [pwv] at hc
   have hpc:=hp.1.cell
   clear hp
   go_enter Tryz.func92,Tryz.ntmps92
   go_wp2
   go_ret
   exact ⟨rfl,rfl⟩
 | some (p,l + 1),hp =>
   simp only [pwv] at hc
   have hpc:=hp.1.cell
   clear hp
   have hne : ¬ ((l + 1 : Nat) : Int) ≤ 0:=by omega
   go_enter Tryz.func92,Tryz.ntmps92
   go_wp2
   go_ret
   exact ⟨rfl,rfl⟩
theorem xtook_any {w : World} {x : Nat} {X : XD} {pw : Option (Nat × Nat)} {i : XI} (h : Held w (Res.pow pw :: xps x X pw i)) (h0 : offB pw = false) :
 Calls Tryz.prog 91 #[.pointer (some ⟨x,0,none⟩)] w fun e w' => e = .returned (.tuple #[]) ∧ Ev w (Res.pow pw :: xps x X pw i) w' (Res.pow (pwDec pw) :: xps x X (pwDec pw) i):=by
 have hb:=h.blkAt 1 rfl
 have hc:=hb.cell
 have hp : pwOk w pw:=h.at 0 rfl
 match pw,hp,h0 with
 | none,_,_ =>
   simp only [pwv] at hc
   have H:=hid h
   clear h
   go_enter Tryz.func91,Tryz.ntmps91
   go_wp2
   go_end0
   exact ⟨rfl,Ev.refl H.out⟩
 | some (p,0),_,h0 => cases h0
 | some (p,l + 1),hp,_ =>
   simp only [pwv] at hc
   have hpc:=hp.1.cell
   have hpf:=hp.1.free 0 (by simp)
   have hl:=hp.2
   have H:=hid h
   clear h
   go_enter Tryz.func91,Tryz.ntmps91
   go_wp2
   go_end0
   refine ⟨rfl,?_⟩
   have e:=(Ev.refl H.out).at 0 rfl (S:=[p]) ((Fr.refl [p] w).setCell (a:=⟨p,0,none⟩) (.inl (by simp)) (.int .i64 (l : Int))) (fun b hb => .inl (by simpa [Res.pow,pwF] using hb)) (r':=Res.pow (some (p,l)))
    (On.pow (pw:=some (p,l)) ⟨by have:=hp.1.set 0 (.int .i64 (l : Int));simpa using this,by omega⟩) (fun b hb => .inl (by simpa [Res.pow,pwF] using hb))
   exact e
theorem xnought_any {w : World} : Calls Tryz.prog 28 #[] w fun e w' => e = .returned (.string ⟨zsec.toArray⟩) ∧ Fr [] w w':=by
 obtain ⟨i5,hi5,hz5,hs5,hb5⟩:=inf5
 have Hi:=hid hi5
 have Hz:=hid hz5
 have Hs:=hid hs5
 have Hb:=hid hb5
 clear hi5 hz5 hs5 hb5
 have HZ:=hid (show zsec.length = 512 by unfold zsec;exact List.length_replicate)
 go_enter Tryz.func28,Tryz.ntmps28
 go_wp2_with (first
  | (refine wpList_make rfl _ _ _ rfl 512 512 .i64 .i64 rfl rfl 5 _ _ (bt 0) 1 1 Tryz.underlying119 Hi.out Hz.out Hs.out Hb.out rfl (by decide) (Nat.le_refl _) (by decide) (by decide) ?_;intro hb1;(try simp only [aA,aB,Act.put,aC,aD,aE]))
  | (refine wpList_string_of_bytes rfl _ _ 5 _ rfl 512 512 rfl hb1 zsec HZ.out (by unfold zsec;rw [bv_replicate,List.length_replicate,List.drop_zero,Nat.mul_one,List.take_replicate,Nat.min_self]) Tryz.underlying119 Tryz.underlying5 Tryz.underlying9 ?_;(try simp only [aA,aB,Act.put,aC,aD,aE])))
 go_ret
 exact ⟨rfl,(Fr.refl _ _).alloc _⟩
def mayN (X : XD) (pw : Option (Nat × Nat)) (i : Int) (s : ByteArray) (wt : Bool) : Int :=
 if X.Dead || offB pw then 60 else if (decide (i < 0) || decide ((X.Kept.length : Int) ≤ i)) || (wt && !decide (s.size = 512)) then 2 else 0
theorem may_any {w : World} {x : Nat} {X : XD} {pw : Option (Nat × Nat)} {i : XI} (h : Held w (Res.pow pw :: xps x X pw i)) (j : Int) (s : ByteArray) (hs : s.size ≤ 9223372036854775807) (wt : Bool) :
 Calls Tryz.prog 90 #[.pointer (some ⟨x,0,none⟩),.int .i64 j,.string s,.bool wt] w fun e w' => e = .returned (.int .i64 (mayN X pw j s wt)) ∧ w = w':=by
 have ho:=off_any h
 have hc:=(h.blkAt 1 rfl).cell
 have hk:=(h.ownAt 2 rfl : Xr.Own w 1 i.kv X.Kept.length (X.Kept.map .string) i.K)
 obtain ⟨ka,kc,hkv⟩:=hk.isSlice
 rw [hkv] at hc
 clear h hk hkv
 unfold mayN
 cases hd : X.Dead with
 | true =>
   rw [hd] at hc
   clear hd
   go_enter Tryz.func90,Tryz.ntmps90
   go_wp2
   go_ret
   exact ⟨rfl,rfl⟩
 | false =>
   rw [hd] at hc
   clear hd
   cases hob : offB pw with
   | true =>
     rw [hob] at ho
     clear hob
     go_enter Tryz.func90,Tryz.ntmps90
     go_wp2_with (go_at_call 92;refine ho.mono ?_;rintro e w' ⟨rfl,rfl⟩)
     go_ret
     exact ⟨rfl,rfl⟩
   | false =>
     rw [hob] at ho
     clear hob
     by_cases h1 : j < 0
     · have e1 : decide (j < 0) = true:=by simp [h1]
       rw [e1]
       clear e1
       go_enter Tryz.func90,Tryz.ntmps90
       go_wp2_with (go_at_call 92;refine ho.mono ?_;rintro e w' ⟨rfl,rfl⟩)
       go_ret
       exact ⟨rfl,rfl⟩
     · have e1 : decide (j < 0) = false:=by simp;omega
       rw [e1]
       clear e1
       by_cases h2 : (X.Kept.length : Int) ≤ j
       · have e2 : decide ((X.Kept.length : Int) ≤ j) = true:=by simp [h2]
         rw [e2]
         clear e2
         go_enter Tryz.func90,Tryz.ntmps90
         go_wp2_with (go_at_call 92;refine ho.mono ?_;rintro e w' ⟨rfl,rfl⟩)
         go_ret
         exact ⟨rfl,rfl⟩
       · have e2 : decide ((X.Kept.length : Int) ≤ j) = false:=by simp;omega
         rw [e2]
         clear e2
         cases wt with
         | false =>
           go_enter Tryz.func90,Tryz.ntmps90
           go_wp2_with (go_at_call 92;refine ho.mono ?_;rintro e w' ⟨rfl,rfl⟩)
           go_ret
           exact ⟨rfl,rfl⟩
         | true =>
           by_cases h3 : s.size = 512
           · have e3 : decide (s.size = 512) = true:=by simp [h3]
             rw [e3]
             have H3 : (s.size : Int) = 512:=by omega
             have H3':=hid h3
             clear e3 h3
             go_enter Tryz.func90,Tryz.ntmps90
             go_wp2_with (go_at_call 92;refine ho.mono ?_;rintro e w' ⟨rfl,rfl⟩)
             go_ret
             exact ⟨rfl,rfl⟩
           · have e3 : decide (s.size = 512) = false:=by simp [h3]
             rw [e3]
             have H3 : ((s.size : Int) != 512) = true:=by simp;omega
             clear e3 h3
             go_enter Tryz.func90,Tryz.ntmps90
             go_wp2_with (go_at_call 92;refine ho.mono ?_;rintro e w' ⟨rfl,rfl⟩)
             go_ret
             exact ⟨rfl,rfl⟩
theorem xlc_get (l : List (Nat × ByteArray)) (m : Nat) (hm : m < l.length) : (xlc l)[m * 2]? = some (.int .i64 (l[m].1 : Int)) ∧ (xlc l)[m * 2 + 1]? = some (.string l[m].2):=by
 induction l generalizing m with
 | nil => simp at hm
 | cons a l ih =>
   cases m with
   | zero => exact ⟨rfl,rfl⟩
   | succ m =>
     have e1 : (m + 1) * 2 = m * 2 + 2:=by omega
     have:=ih m (by simpa using hm)
     rw [e1]
     exact this
theorem xlc_len (l : List (Nat × ByteArray)) : (xlc l).length = l.length * 2:=by
 induction l with
 | nil => rfl
 | cons a l ih =>
   show (xlc l).length + 2 = _
   rw [ih,List.length_cons]
   omega
def nowX (L : List (Nat × ByteArray)) (i : Nat) (k : ByteArray) : ByteArray:=L.foldl (fun a p => if p.1 = i then p.2 else a) k
theorem nowX_snoc (L : List (Nat × ByteArray)) (p : Nat × ByteArray) (i : Nat) (k : ByteArray) : nowX (L ++ [p]) i k = if p.1 = i then p.2 else nowX L i k:=by
 unfold nowX
 rw [List.foldl_append]
 rfl
theorem now_any {w : World} {x : Nat} {X : XD} {pw : Option (Nat × Nat)} {i : XI} (h : Held w (Res.pow pw :: xps x X pw i)) (q : Nat) (hq : q < X.Kept.length) (hk : X.Kept.length ≤ 16384) (hl : X.L.length < 1000000) :
 Calls Tryz.prog 124 #[.pointer (some ⟨x,0,none⟩),.int .i64 q] w fun e w' => e = .returned (.string (nowX X.L q X.Kept[q])) ∧ w = w':=by
 have hc:=(h.blkAt 1 rfl).cell
 have hko:=(h.ownAt 2 rfl : Xr.Own w 1 i.kv X.Kept.length (X.Kept.map .string) i.K)
 have hlo:=(h.ownAt 3 rfl : Xr.Own w 2 i.lv X.L.length (xlc X.L) i.Lb)
 obtain ⟨kb,kc,_,hkv,_,_,hkc⟩:=own_open hko (by omega)
 have hkq:=(hkc q (by simpa using hq)).1
 rw [List.getElem?_map,List.getElem?_eq_getElem hq,Option.map_some] at hkq
 obtain ⟨la,lc,hlv⟩:=hlo.isSlice
 rw [hkv,hlv] at hc
 rw [hlv] at hlo
 have Hlo:=hid hlo
 clear h hko hlo hlv hkv hkc
 go_enter Tryz.func124,Tryz.ntmps124
 go_wp2_with fail
 go_loopw [5] (fun j wr => ∃ m : Nat,m ≤ X.L.length ∧ j = .int .i64 ((m : Int) - 1) ∧ wr = w ∧ nowX X.L q X.Kept[q] = nowX (X.L.take m) q X.Kept[q]) (fun j _ => (intOf j + 1).toNat)
 case atStart => exact ⟨X.L.length,Nat.le_refl _,rfl,rfl,by rw [List.take_length]⟩
 case round =>
  obtain ⟨m,hm,rfl,rfl,hn⟩:=hrel
  cases m with
  | zero =>
    have hge : ¬ ((0 : Nat) : Int) - 1 ≥ 0:=by omega
    have Hn:=hid hn
    clear hn
    go_wp2_with fail
    go_ret
    refine ⟨?_,rfl⟩
    rw [Hn.out]
    rfl
  | succ m =>
    obtain ⟨lb,lcap,_,hlv,_,_,hlc⟩:=own_open Hlo.out (by omega)
    obtain ⟨rfl,rfl⟩ : la = some ⟨lb,0,none⟩ ∧ lc = lcap:=by simpa using hlv
    have c1:=(hlc (m * 2) (by rw [xlc_len];omega)).1
    have c2:=(hlc (m * 2 + 1) (by rw [xlc_len];omega)).1
    rw [(xlc_get X.L m (by omega)).1] at c1
    rw [(xlc_get X.L m (by omega)).2] at c2
    rw [List.take_succ_eq_append_getElem (by omega),nowX_snoc] at hn
    have Hn:=hid hn
    clear hn hlc hlv
    have em : ((m + 1 : Nat) : Int) - 1 = (m : Int):=by omega
    rw [em]
    by_cases hqm : X.L[m].1 = q
    · have Hq:=hid hqm
      have hqe : ((X.L[m].1 : Int) == (q : Int)) = true:=by simp [hqm]
      clear hqm
      go_wp2_with fail
      go_ret
      refine ⟨?_,rfl⟩
      rw [Hn.out,if_pos Hq.out]
      rfl
    · have Hq:=hid hqm
      have hqe : ((X.L[m].1 : Int) == (q : Int)) = false:=by simp;omega
      clear hqm
      go_wp2_with fail
      go_roundw
      case rel => exact ⟨m,by omega,rfl,trivial,by rw [Hn.out,if_neg Hq.out]⟩
      case measure => simp [intOf]
theorem xread_ok {w : World} {x : Nat} {X : XD} {pw : Option (Nat × Nat)} {i : XI} (h : Held w (Res.pow pw :: xps x X pw i)) (q : Nat) (hq : q < X.Kept.length) (hk : X.Kept.length ≤ 16384) (hl : X.L.length < 1000000) (hm : mayN X pw q ⟨#[]⟩ false = 0) :
 Calls Tryz.prog 93 #[.pointer (some ⟨x,0,none⟩),.int .i64 q] w fun e w' => e = .returned (.tuple #[.string (nowX X.L q X.Kept[q]),.int .i64 0]) ∧ w = w':=by
 have h1:=may_any h q ⟨#[]⟩ (by decide) false
 rw [hm] at h1
 have h2:=now_any h q hq hk hl
 clear h hm
 go_enter Tryz.func93,Tryz.ntmps93
 go_wp2_with (first
  | (go_at_call 90;refine h1.mono ?_;rintro e w' ⟨rfl,rfl⟩)
  | (go_at_call 124;refine h2.mono ?_;rintro e w' ⟨rfl,rfl⟩))
 go_ret2
 exact ⟨rfl,rfl⟩
theorem xread_err {w : World} {x : Nat} {X : XD} {pw : Option (Nat × Nat)} {i : XI} (h : Held w (Res.pow pw :: xps x X pw i)) (q : Int) (e0 : Int) (hm : mayN X pw q ⟨#[]⟩ false = e0) (he : e0 = 60 ∨ e0 = 2) :
 Calls Tryz.prog 93 #[.pointer (some ⟨x,0,none⟩),.int .i64 q] w fun e w' => e = .returned (.tuple #[.string ⟨#[]⟩,.int .i64 e0]) ∧ w = w':=by
 have h1:=may_any h q ⟨#[]⟩ (by decide) false
 rw [hm] at h1
 clear h hm
 rcases he with rfl | rfl
 all_goals
  go_enter Tryz.func93,Tryz.ntmps93
  go_wp2_with (go_at_call 90;refine h1.mono ?_;rintro e w' ⟨rfl,rfl⟩)
  go_ret2
  exact ⟨rfl,rfl⟩
def xdead (X : XD) (pw : Option (Nat × Nat)) : Bool:=X.Dead || offB pw
theorem xreplace_any {w : World} {x : Nat} {X : XD} {pw : Option (Nat × Nat)} {i : XI} (h : Held w (xps x X pw i)) :
 Calls Tryz.prog 10 #[.pointer (some ⟨x,0,none⟩)] w fun e w' => e = .returned (.int .i64 (if X.Dead then 0 else 3)) ∧ Ev w (xps x X pw i) w' (xps x { X with Dead:=false } pw i):=by
 have hb:=h.blkAt 0 rfl
 have hc:=hb.cell
 have hf:=hb.free 3 (by simp)
 have H:=hid h
 clear h
 obtain ⟨Kept,L,Trace,Dead⟩:=X
 cases Dead with
 | true =>
   go_enter Tryz.func10,Tryz.ntmps10
   go_wp2
   go_ret
   exact ⟨rfl,(Ev.refl H.out).cell 0 rfl 3 (.bool false)⟩
 | false =>
   go_enter Tryz.func10,Tryz.ntmps10
   go_wp2
   go_ret
   exact ⟨rfl,Ev.refl H.out⟩
theorem own_set {w : World} {v : Value} {n : Nat} {xs : List Value} {b : Nat} (h : Xr.Own w 1 v n xs (some b)) (j : Nat) (hj : j < n) (u : Value) : Xr.Own (w.setCell ⟨b,j,none⟩ u) 1 v n (xs.set j u) (some b):=by
 refine ⟨by rw [List.length_set];exact h.1,?_⟩
 rcases h.2 with ⟨_,_,h1⟩ | ⟨b',cap,cs,hB,hv,h1,h2,h3,h4,h5⟩
 · cases h1
 · cases hB
   exact .inr ⟨b,cap,cs.set j u,rfl,hv,h1,h2,h3.set j u,by rw [List.length_set];exact h4,by rw [List.take_set,h5]⟩
theorem xset_kept {w w1 : World} {rs : List Res} {x : Nat} {X : XD} {pw : Option (Nat × Nat)} {i : XI} (e : Ev w rs w1 (xps x X pw i)) {kb : Nat} (hK : i.K = some kb) (m : Nat) (s : ByteArray) (hm : m < X.Kept.length) :
 Ev w rs (w1.setCell ⟨kb,m,none⟩ (.string s)) (xps x { X with Kept:=X.Kept.set m s } pw i):=by
 have ho : Xr.Own w1 1 i.kv X.Kept.length (X.Kept.map .string) i.K:=e.held.ownAt 1 rfl
 rw [hK] at ho
 have h2:=own_set ho m hm (.string s)
 rw [← List.map_set] at h2
 have e2:=e.at 1 rfl (S:=[kb]) ((Fr.refl [kb] w1).setCell (a:=⟨kb,m,none⟩) (.inl (by simp)) (.string s)) (fun b hb => .inl (by simp at hb;simp [Res.own,hK,hb])) (Res.On.own h2) (fun b hb => .inl (by simp [Res.own] at hb;simp [Res.own,hK,hb]))
 have h3 : (xps x X pw i).set 1 (Res.own 1 i.kv X.Kept.length ((X.Kept.set m s).map .string) (some kb)) = xps x { X with Kept:=X.Kept.set m s } pw i:=by
  simp only [xps,List.set_cons_succ,List.set_cons_zero,List.length_set,hK]
 rw [← h3]
 exact e2
theorem set_rep (m : Nat) (z : ByteArray) (l : List ByteArray) (h : m < l.length) : (List.replicate m z ++ l.drop m).set m z = List.replicate (m + 1) z ++ l.drop (m + 1):=by
 rw [List.set_append_right _ _ (by simp),List.length_replicate,Nat.sub_self,List.drop_eq_getElem_cons h,List.set_cons_zero,List.replicate_succ',List.append_assoc]
 rfl
def Zs : ByteArray:=⟨zsec.toArray⟩
theorem xfail_any {w : World} {x : Nat} {X : XD} {pw : Option (Nat × Nat)} {i : XI} (h : Held w (xps x X pw i)) (hk : X.Kept.length ≤ 16384) :
 Calls Tryz.prog 8 #[.pointer (some ⟨x,0,none⟩)] w fun e w' => e = .returned (.int .i64 0) ∧ ∃ i',Ev w (xps x X pw i) w' (xps x { X with Kept:=List.replicate X.Kept.length Zs,L:=[],Dead:=true } pw i'):=by
 have hb:=h.blkAt 0 rfl
 have hc:=hb.cell
 have hf3:=hb.free 3 (by simp)
 have hf1:=hb.free 1 (by simp)
 have H:=hid h
 obtain ⟨ka,kc,hkv⟩:=(h.ownAt 1 rfl : Xr.Own w 1 i.kv X.Kept.length (X.Kept.map .string) i.K).isSlice
 have Hkv:=hid hkv
 rw [hkv] at hc
 clear h hkv hb
 go_enter Tryz.func8,Tryz.ntmps8
 go_upto_region 4 with fail
 have e0:=(((Ev.refl H.out).cell 0 rfl 3 (.bool true)).cell 0 rfl 1 (.slice none 0 0)).at 2 rfl (Fr.refl [] _) (by simp) (Res.On.own (Xr.Own.nil _ 2)) (by simp [Res.own])
 have e1 : Ev w (xps x X pw i) ((w.setCell ⟨x,3,none⟩ (.bool true)).setCell ⟨x,1,none⟩ (.slice none 0 0)) (xps x { X with L:=[],Dead:=true } pw { i with lv:=.slice none 0 0,Lb:=none }):=e0
 refine wp_world (fun w1 => Ev w (xps x X pw i) w1 (xps x { X with L:=[],Dead:=true } pw { i with lv:=.slice none 0 0,Lb:=none })) e1 ?_
 clear e0 e1 hc hf3 hf1
 intro w1 e1
 go_loopw [3] (fun j wr => ∃ m : Nat,m ≤ X.Kept.length ∧ j = .int .i64 m ∧ Ev w (xps x X pw i) wr (xps x { X with Kept:=List.replicate m Zs ++ X.Kept.drop m,L:=[],Dead:=true } pw { i with lv:=.slice none 0 0,Lb:=none })) (fun j _ => X.Kept.length - (intOf j).toNat)
 case atStart => exact ⟨0,Nat.zero_le _,rfl,e1⟩
 case round =>
  obtain ⟨m,hm,rfl,e⟩:=hrel
  clear e1
  have hkl : (List.replicate m Zs ++ X.Kept.drop m).length = X.Kept.length:=by
   rw [List.length_append,List.length_replicate,List.length_drop]
   omega
  have hb:=e.held.blkAt 0 rfl
  simp only [] at hb
  rw [Hkv.out] at hb
  by_cases hlt : m < X.Kept.length
  · have hko:=(e.held.ownAt 1 rfl : Xr.Own wr 1 i.kv (List.replicate m Zs ++ X.Kept.drop m).length ((List.replicate m Zs ++ X.Kept.drop m).map .string) i.K)
    have hc:=hb.cell
    go_upto_region 6 with fail
    obtain ⟨ι,W,hι,hW1,hW2,hW0⟩:=family (fun w' => Blk w' x [.slice ka X.Kept.length kc,.slice none 0 0,i.tv,.bool true,pwv pw]) (w:=wr.drew) hb
    have HW1:=hid hW1
    have HW2:=hid hW2
    have HW0:=hid hW0
    clear hW1 hW2 hW0
    have hS1:=fun j => (HW1.out j).cell
    clear hc
    refine wp_region_X (fun w' => ∃ j,w' = W j) true (by kernel_rfl) ?_
    refine WX.pure [0,1,2,3,4] (by kernel_rfl) HW0.out ?_
    simp only [pick,aF,aG,aI,aJ,aK]
    repeat (go_big_quiet_step (fail))
    refine wpQuiet_nil ?_
    refine WX.eff 5 (by kernel_rfl) ?_
    simp only [pick,aF,aG,aI,aJ,aK]
    go_wp2_with (go_at_call 28;refine xnought_any.mono ?_;rintro e2 w3 ⟨rfl,f3⟩)
    have f3' : Fr [] wr w3:=((Fr.refl [] wr).drew).trans' f3
    have hb3:=f3'.blk hb (by simp)
    refine After.on (HW2.out _ hb3) ?_
    obtain ⟨kb,kcap,hK,hkv2,_,hkcm,hkc⟩:=own_open (hko.keep f3' (by simp)) (by omega)
    rw [Hkv.out] at hkv2
    rw [hkl] at hkv2
    obtain ⟨rfl,rfl⟩ : ka = some ⟨kb,0,none⟩ ∧ kc = kcap:=by simpa using hkv2
    obtain ⟨ck,fk⟩:=hkc m (by rw [List.length_map,hkl];exact hlt)
    rw [List.getElem?_map,List.getElem?_eq_getElem (by omega),Option.map_some] at ck
    refine WX.pure [6] (by kernel_rfl) (HW2.out _ hb3) ?_
    simp only [pick,aF,aG,aI,aJ,aK]
    repeat (go_big_quiet_step (fail))
    refine wpQuiet_nil ?_
    refine WX.eff 7 (by kernel_rfl) ?_
    simp only [pick,aF,aG,aI,aJ,aK]
    go_wp2_with fail
    refine After.end rfl ?_
    refine WX.done (by kernel_rfl) ?_
    clear hS1
    clear HW1 HW2 HW0 hι W ι
    go_wp2_with fail
    go_roundw
    case rel =>
     refine ⟨m + 1,by omega,by go_num,?_⟩
     have e3:=(e.step f3')
     have e4:=xset_kept e3 hK m Zs (by show m < (List.replicate m Zs ++ X.Kept.drop m).length;omega)
     simp only [] at e4
     rw [set_rep m Zs X.Kept hlt] at e4
     exact e4
    case measure => simp [intOf];omega
  · obtain rfl : m = X.Kept.length:=by omega
    have hc:=hb.cell
    rw [List.drop_length,List.append_nil] at e
    go_wp2_with fail
    go_ret
    exact ⟨rfl,_,e⟩
end Go.Proofs.YtgafefecookgaaaGreat
namespace Go.Xr
open Go Go.RowKit
set_option linter.unusedVariables false
theorem xapp_ev {w w1 w3 : World} {rs rs1 : List Res} (e : Ev w rs w1 rs1) (k : Nat) {size n n' : Nat} {v v' : Value} {xs xs' : List Value} {B B' : Option Nat} (hk : rs1[k]? = some (Res.own size v n xs B)) (ho : Xr.Own w3 size v' n' xs' B') (f : Fr B.toList w1 w3) (hB : B' = B ∨ ∃ b,B' = some b ∧ w1.heap.size ≤ b) :
 Ev w rs w3 (rs1.set k (Res.own size v' n' xs' B')) :=
 e.at k hk f (fun b hb => .inl hb) (Res.On.own ho) (fun b hb => by
  rcases hB with rfl | ⟨b',rfl,hge⟩
  · exact .inl hb
  · simp [Res.own] at hb
    subst hb
    exact .inr hge)
theorem Ev.put {w w1 w2 : World} {rs rs1 : List Res} (a : Ev w rs w1 rs1) (i : Nat) {b : Nat} {cs cs' : List Value} (hi : rs1[i]? = some (Res.blk b cs)) (f : Fr [b] w1 w2) (hb : Blk w2 b cs') : Ev w rs w2 (rs1.set i (Res.blk b cs')) :=
 a.at i hi f (fun x hx => .inl hx) (Res.On.blk hb) (fun x hx => .inl hx)
theorem rc_blkS {w : World} {b n size : Nat} {xs : List Value} (hb : Blk w b xs) (hn : xs.length = n * size) (hm : n ≤ maxLen) : Rc w size (.slice (some ⟨b,0,none⟩) n n) n xs (some b):=by
 refine ⟨hn,fun c hc => by cases hc;exact hb.lt,_,_,rfl,Nat.le_refl _,hm,fun _ => ⟨b,0,rfl,rfl,fun j hj => ?_⟩⟩
 rw [hb.cell,Nat.zero_add]
end Go.Xr
namespace Go.Proofs.YtgafefecookgaaaGreat
open Go Go.Xr Go.RowKit
theorem inf91 : ∃ i z,Tryz.prog.info? 79 = some i ∧ i.zero = some z ∧ i.size = 2 ∧ i.bytes = 24 ∧ z.cells.size = 2:=⟨_,_,rfl,rfl,rfl,rfl,rfl⟩
theorem xlc_snoc (l : List (Nat × ByteArray)) (q : Nat) (s : ByteArray) : xlc (l ++ [(q,s)]) = xlc l ++ [.int .i64 (q : Int),.string s]:=by simp [xlc]
theorem xwrite_err {w : World} {x : Nat} {X : XD} {pw : Option (Nat × Nat)} {i : XI} (h : Held w (Res.pow pw :: xps x X pw i)) (q : Int) (s : ByteArray) (hs : s.size ≤ 9223372036854775807) (e0 : Int) (hm : mayN X pw q s true = e0) (he : e0 = 60 ∨ e0 = 2) :
 Calls Tryz.prog 59 #[.pointer (some ⟨x,0,none⟩),.int .i64 q,.string s] w fun e w' => e = .returned (.int .i64 e0) ∧ w = w':=by
 have h1:=may_any h q s hs true
 rw [hm] at h1
 clear h hm
 rcases he with rfl | rfl
 all_goals
  go_enter Tryz.func59,Tryz.ntmps59
  go_wp2_with (go_at_call 90;refine h1.mono ?_;rintro e w' ⟨rfl,rfl⟩)
  go_ret
  exact ⟨rfl,rfl⟩
theorem xwrite_ok {w : World} {x : Nat} {X : XD} {pw : Option (Nat × Nat)} {i : XI} (h : Held w (Res.pow pw :: xps x X pw i)) (q : Nat) (s : ByteArray) (hs : s.size ≤ 9223372036854775807) (hm : mayN X pw q s true = 0) (ho : offB pw = false) (hl : X.L.length < 1000000) (ht : X.Trace.length < 1000000) :
 Calls Tryz.prog 59 #[.pointer (some ⟨x,0,none⟩),.int .i64 q,.string s] w fun e w' => e = .returned (.int .i64 0) ∧
  ∃ i',Ev w (Res.pow pw :: xps x X pw i) w' (Res.pow (pwDec pw) :: xps x { X with L:=X.L ++ [(q,s)],Trace:=X.Trace ++ [(q : Int)] } (pwDec pw) i'):=by
 have h1:=may_any h q s hs true
 rw [hm] at h1
 obtain ⟨i91,z91,hi91,hz91,hs91,hb91,hzc91⟩:=inf91
 have Hi91:=hid hi91
 have Hz91:=hid hz91
 have Hs91:=hid hs91
 have Hb91:=hid hb91
 have Hzc91:=hid hzc91
 obtain ⟨i3,hi3,hz3,hs3,hb3⟩:=inf3
 have Hi3:=hid hi3
 have Hz3:=hid hz3
 have Hs3:=hid hs3
 have Hb3:=hid hb3
 clear hi3 hz3 hs3 hb3 hi91 hz91 hs91 hb91 hzc91
 have hb:=h.blkAt 1 rfl
 have hlo:=(h.ownAt 3 rfl : Xr.Own w 2 i.lv X.L.length (xlc X.L) i.Lb)
 obtain ⟨la,lc,hlv⟩:=hlo.isSlice
 rw [hlv] at hb hlo
 have hto:=(h.ownAt 4 rfl : Xr.Own w 1 i.tv X.Trace.length (X.Trace.map (.int .i64)) i.T)
 obtain ⟨ta,tc,htv⟩:=hto.isSlice
 rw [htv] at hb hto
 have k1 : w.cell? ⟨x,1,none⟩ = some (.slice la X.L.length lc):=hb.cell 1
 have k2 : w.cell? ⟨x,2,none⟩ = some (.slice ta X.Trace.length tc):=hb.cell 2
 have e0:=Ev.refl h
 unfold xps at e0
 rw [hlv,htv] at e0
 obtain ⟨ln,hln⟩ : ∃ ln,X.L.length = ln:=⟨_,rfl⟩
 obtain ⟨tn,htn⟩ : ∃ tn,X.Trace.length = tn:=⟨_,rfl⟩
 have Hln:=hid hln
 have Htn:=hid htn
 rw [hln] at hb hlo k1 hl e0
 rw [htn] at hb hto k2 ht e0
 have E0:=hid e0
 have Hlv:=hid hlv
 have Htv:=hid htv
 clear h hlv htv hm hln htn hto hb e0
 go_enter Tryz.func59,Tryz.ntmps59
 go_wp2_with (first
  | (go_at_call 90;refine h1.mono ?_;rintro e w' ⟨rfl,hw⟩;subst hw)
  | (refine wpList_buildSlice_one rfl _ _ rfl _ _ _ 2 [.int .i64 q,.string s] Tryz.underlying47 Hi91.out Hz91.out Hs91.out rfl rfl Hzc91.out (by decide) (by decide) ?_;intro hb7;simp only [aA,aB,Act.put,aC,aD,aE])
  | (refine wpList_append_rc rfl _ _ _ rfl 79 _ _ 2 24 Tryz.underlying47 Hi91.out Hz91.out Hs91.out Hb91.out Hzc91.out (by decide) rfl (hlo.keep ((Fr.refl [] w).alloc _) (by simp)) rfl (rc_blkS hb7 rfl (by decide)) (by intro u hu;simp at hu;rcases hu with rfl | rfl <;> rfl) (by unfold maxLen;omega) (by omega) ?_;intro v3 w3 B3 ho3 f3 hB3;obtain ⟨va,vc,rfl⟩:=ho3.isSlice;have e2:=xapp_ev (E0.out.step ((Fr.refl [] w).alloc _)) 3 rfl ho3 f3 hB3;have bk3:=e2.held.blkAt 1 rfl;have E2:=hid e2;clear e2;simp only [aA,aB,Act.put,aC,aD,aE])
  | (refine wpList_put rfl _ _ _ rfl rfl (.slice va (ln + 1) vc) rfl rfl bk3 (by simp) (by kernel_rfl) ?_;intro w4 f4 b4 hs4;have e4:=E2.out.put 1 rfl f4 b4;have k4 : w4.cell? ⟨x,2,none⟩ = some (.slice ta tn tc):=b4.cell 2;have to4:=e4.held.ownAt 4 rfl;have E4:=hid e4;clear e4 f4 b4 bk3;simp only [aA,aB,Act.put,aC,aD,aE])
  | (refine wpList_buildSlice_r rfl _ 1 _ rfl 3 Tryz.underlying44 _ _ Hi3.out Hz3.out rfl Hs3.out (by decide) (by decide) (by decide) [.int .i64 q] rfl (by intro v hv;simp at hv;rcases hv with rfl;rfl) ?_;intro w5 f5 hlt5 hb5;simp only [aA,aB,Act.put,aC,aD,aE])
  | (refine wpList_append_rc rfl _ _ _ rfl 3 _ _ 1 8 Tryz.underlying44 Hi3.out Hz3.out Hs3.out Hb3.out rfl (by decide) rfl (to4.keep f5 (by simp)) rfl (rc_blk hb5 rfl (by decide)) (by intro u hu;simp at hu;subst hu;rfl) (by unfold maxLen;omega) (by omega) ?_;intro v6 w6 B6 ho6 f6 hB6;obtain ⟨wa,wc,rfl⟩:=ho6.isSlice;have e6:=xapp_ev (E4.out.step f5) 4 rfl ho6 f6 hB6;have bk6:=e6.held.blkAt 1 rfl;have E6:=hid e6;clear e6;simp only [aA,aB,Act.put,aC,aD,aE])
  | (refine wpList_put rfl _ _ _ rfl rfl (.slice wa (tn + 1) wc) rfl rfl bk6 (by simp) (by kernel_rfl) ?_;intro w7 f7 b7 hs7;have e7:=E6.out.put 1 rfl f7 b7;revert e7;simp only [aA,aB,Act.put,aC,aD,aE]))
 intro e7
 have hfin : Ev w (Res.pow pw :: xps x X pw i) w7 (Res.pow pw :: xps x { X with L:=X.L ++ [(q,s)],Trace:=X.Trace ++ [(q : Int)] } pw ⟨i.kv,.slice va (ln + 1) vc,.slice wa (tn + 1) wc,i.K,B3,B6⟩):=by
  unfold xps
  rw [Hlv.out,Htv.out,Hln.out,Htn.out]
  simp only [List.length_append,List.length_cons,List.length_nil,Hln.out,Htn.out,List.map_append,List.map_cons,List.map_nil]
  rw [xlc_snoc]
  exact e7
 have Hfin:=hid hfin
 have Htk:=hid (xtook_any hfin.held ho)
 clear e7 hfin hb7 k1 k2 hlo f3 hB3 ho3 f5 hlt5 hb5 f6 hB6 ho6 f7 b7 k4 to4 bk6
 go_wp2_with (go_at_call 91;refine Htk.out.mono ?_;rintro e w8 ⟨rfl,e8⟩)
 go_ret
 exact ⟨rfl,_,Hfin.out.trans e8⟩
end Go.Proofs.YtgafefecookgaaaGreat
namespace Go.Xr
open Go Go.RowKit
theorem own_put {w : World} {v : Value} {n : Nat} {xs : List Value} {b : Nat} (h : Xr.Own w 1 v n xs (some b)) : ∃ cs,Blk w b cs ∧ n ≤ cs.length ∧ ∀ (i : Nat) (x : Value) (w' : World),Blk w' b (cs.set i x) → Xr.Own w' 1 v n (xs.set i x) (some b):=by
 rcases h.2 with ⟨_,_,h1⟩ | ⟨b',cap,cs,hB,hv,h1,h2,h3,h4,h5⟩
 · cases h1
 · cases hB
   rw [Nat.mul_one] at h4 h5
   refine ⟨cs,h3,by omega,fun i x w' hb => ⟨by rw [List.length_set];exact h.1,.inr ⟨b,cap,cs.set i x,rfl,hv,h1,h2,hb,by simp [h4],?_⟩⟩⟩
   rw [Nat.mul_one,List.take_set,h5]
end Go.Xr
namespace Go.Proofs.YtgafefecookgaaaGreat
open Go Go.Xr Go.RowKit
def setX (K : List ByteArray) (l : List (Nat × ByteArray)) : List ByteArray:=l.foldl (fun K p => K.set p.1 p.2) K
theorem setX_snoc (K : List ByteArray) (l : List (Nat × ByteArray)) (p : Nat × ByteArray) : setX K (l ++ [p]) = (setX K l).set p.1 p.2:=by simp [setX]
theorem setX_len : ∀ (l : List (Nat × ByteArray)) (K : List ByteArray),(setX K l).length = K.length
 | [],K => rfl
 | p :: l,K => by
   show (setX (K.set p.1 p.2) l).length = _
   rw [setX_len l,List.length_set]
def keptL : List (Nat × ByteArray) → List Bool → List (Nat × ByteArray)
 | [],_ => []
 | p :: l,ks => if ks.headD false then p :: keptL l ks.tail else keptL l ks.tail
theorem keptL_snoc : ∀ (l : List (Nat × ByteArray)) (ks : List Bool) (p : Nat × ByteArray),keptL (l ++ [p]) ks = keptL l ks ++ (if ks.getD l.length false then [p] else [])
 | [],ks,p => by
   cases ks with
   | nil => rfl
   | cons k ks => simp [keptL]
 | q :: l,ks,p => by
   rw [List.cons_append,keptL,keptL,keptL_snoc l ks.tail p]
   cases ks with
   | nil => simp
   | cons k ks => cases k <;> simp
theorem xflush_err {w : World} {x : Nat} {X : XD} {pw : Option (Nat × Nat)} {i : XI} (h : Held w (Res.pow pw :: xps x X pw i)) (hd : xdead X pw = true) :
 Calls Tryz.prog 60 #[.pointer (some ⟨x,0,none⟩)] w fun e w' => e = .returned (.int .i64 60) ∧ w = w':=by
 have h1:=off_any h
 have hc:=(h.blkAt 1 rfl).cell
 unfold xdead at hd
 obtain ⟨Kept,L,Trace,Dead⟩:=X
 clear h
 cases Dead with
 | true =>
   go_enter Tryz.func60,Tryz.ntmps60
   go_wp2
   go_ret
   exact ⟨rfl,rfl⟩
 | false =>
   rw [show offB pw = true by simpa using hd] at h1
   go_enter Tryz.func60,Tryz.ntmps60
   go_wp2_with (go_at_call 92;refine h1.mono ?_;rintro e w' ⟨rfl,rfl⟩)
   go_ret
   exact ⟨rfl,rfl⟩
theorem xflush_ok {w : World} {x : Nat} {X : XD} {pw : Option (Nat × Nat)} {i : XI} (h : Held w (Res.pow pw :: xps x X pw i)) (hd : xdead X pw = false) (hK0 : 0 < X.Kept.length) (hKm : X.Kept.length ≤ 16384) (hL : ∀ p ∈ X.L,p.1 < X.Kept.length) (hl : X.L.length < 1000000) (ht : X.Trace.length < 1000000) :
 Calls Tryz.prog 60 #[.pointer (some ⟨x,0,none⟩)] w fun e w' => e = .returned (.int .i64 0) ∧
  ∃ i',Ev w (Res.pow pw :: xps x X pw i) w' (Res.pow (pwDec pw) :: xps x { X with Kept:=setX X.Kept X.L,L:=[],Trace:=X.Trace ++ [-1] } (pwDec pw) i'):=by
 have h1:=off_any h
 have hX : X.Dead = false:=by
  unfold xdead at hd
  cases e : X.Dead
  · rfl
  · rw [e] at hd;cases hd
 have ho : offB pw = false:=by
  unfold xdead at hd
  rw [hX] at hd
  simpa using hd
 rw [ho] at h1
 obtain ⟨i3,hi3,hz3,hs3,hb3⟩:=inf3
 have Hi3:=hid hi3
 have Hz3:=hid hz3
 have Hs3:=hid hs3
 have Hb3:=hid hb3
 clear hi3 hz3 hs3 hb3
 have hko:=(h.ownAt 2 rfl : Xr.Own w 1 i.kv X.Kept.length (X.Kept.map .string) i.K)
 obtain ⟨kb,kc,hiK,hkv,hkc1,_,_⟩:=own_open hko hK0
 have hlo:=(h.ownAt 3 rfl : Xr.Own w 2 i.lv X.L.length (xlc X.L) i.Lb)
 obtain ⟨la,lc,hlv⟩:=hlo.isSlice
 have hto:=(h.ownAt 4 rfl : Xr.Own w 1 i.tv X.Trace.length (X.Trace.map (.int .i64)) i.T)
 obtain ⟨ta,tc,htv⟩:=hto.isSlice
 have e0:=Ev.refl h
 unfold xps at e0
 rw [hkv,hlv,htv,hiK] at e0
 obtain ⟨kn,hkn⟩ : ∃ kn,X.Kept.length = kn:=⟨_,rfl⟩
 obtain ⟨ln,hln⟩ : ∃ ln,X.L.length = ln:=⟨_,rfl⟩
 obtain ⟨tn,htn⟩ : ∃ tn,X.Trace.length = tn:=⟨_,rfl⟩
 have Hkn:=hid hkn
 have Hln:=hid hln
 have Htn:=hid htn
 rw [hkn] at e0 hK0 hKm hL hkc1
 rw [hln] at e0 hl
 rw [htn] at e0 ht
 have HL:=hid hL
 have k3 : w.cell? ⟨x,3,none⟩ = some (.bool false):=by rw [← hX];exact (h.blkAt 1 rfl).cell 3
 have Hkv:=hid hkv
 have Hlv:=hid hlv
 have Htv:=hid htv
 have HiK:=hid hiK
 have HX:=hid hX
 have E0:=hid e0
 have Ho:=hid ho
 clear h hkv hlv htv hkn hln htn hto hlo hko e0 hiK hd hL hX ho
 go_enter Tryz.func60,Tryz.ntmps60
 go_wp2_with (go_at_call 92;refine h1.mono ?_;rintro e w' ⟨rfl,hw⟩;subst hw)
 go_loopw [3] (fun kv wr => ∃ m : Nat,kv = .int .i64 (m : Int) ∧ m ≤ ln ∧ Ev w (Res.pow pw :: xps x X pw i) wr [Res.pow pw,Res.blk x [.slice (some ⟨kb,0,none⟩) kn kc,.slice la ln lc,.slice ta tn tc,.bool X.Dead,pwv pw],Res.own 1 (.slice (some ⟨kb,0,none⟩) kn kc) kn ((setX X.Kept (X.L.take m)).map .string) (some kb),Res.own 2 (.slice la ln lc) ln (xlc X.L) i.Lb,Res.own 1 (.slice ta tn tc) tn (X.Trace.map (.int .i64)) i.T]) (fun kv _ => ln - (intOf kv).toNat)
 case atStart =>
  refine ⟨0,rfl,Nat.zero_le _,?_⟩
  unfold xps
  rw [Hkv.out,Hlv.out,Htv.out,HiK.out,Hkn.out,Hln.out,Htn.out]
  exact E0.out
 case round =>
  obtain ⟨m,rfl,hm,ev⟩:=hrel
  clear k3
  have hb:=ev.held.blkAt 1 rfl
  have s0 : wr.cell? ⟨x,0,none⟩ = some (.slice (some ⟨kb,0,none⟩) kn kc):=hb.cell 0
  have s1 : wr.cell? ⟨x,1,none⟩ = some (.slice la ln lc):=hb.cell 1
  have s2 : wr.cell? ⟨x,2,none⟩ = some (.slice ta tn tc):=hb.cell 2
  by_cases hml : m < ln
  · have d1 : decide ((m : Int) < (ln : Int)) = true:=by simp;omega
    have d1' : (m : Int) < (ln : Int):=by omega
    have hlr : Xr.Own wr 2 (.slice la ln lc) ln (xlc X.L) i.Lb:=ev.held.ownAt 3 rfl
    obtain ⟨lb,lcap,_,hlv,hlc0,_,hlc⟩:=own_open hlr (by omega)
    obtain ⟨rfl,rfl⟩ : la = some ⟨lb,0,none⟩ ∧ lc = lcap:=by simpa using hlv
    have hmX : m < X.L.length:=by rw [Hln.out];exact hml
    have q1:=(hlc (m * 2) (by rw [xlc_len];omega)).1
    have q2:=(hlc (m * 2 + 1) (by rw [xlc_len];omega)).1
    rw [(xlc_get X.L m hmX).1] at q1
    rw [(xlc_get X.L m hmX).2] at q2
    have hp:=HL.out X.L[m] (List.getElem_mem _)
    have Hst:=hid (show setX X.Kept (X.L.take (m + 1)) = (setX X.Kept (X.L.take m)).set X.L[m].1 X.L[m].2 by rw [List.take_succ_eq_append_getElem hmX,setX_snoc])
    obtain ⟨⟨p,s⟩,hps⟩ : ∃ p,X.L[m] = p:=⟨_,rfl⟩
    rw [hps] at q1 q2 hp Hst
    simp only at q1 q2 hp Hst
    have hp' : (p : Int) < (kn : Int):=by omega
    have hpd : decide ((p : Int) < (kn : Int)) = true:=by simp;omega
    obtain ⟨kcs,y1,y2,y3⟩:=own_put (show Xr.Own wr 1 (.slice (some ⟨kb,0,none⟩) kn kc) kn ((setX X.Kept (X.L.take m)).map .string) (some kb) from ev.held.ownAt 2 rfl)
    have Y3:=hid y3
    have EV:=hid ev
    clear y3 ev hlc hlv hlr hps hmX hb
    go_wp2_with fail
    refine wp_region_D (fun _ => True) true [] (by kernel_rfl) ?_
    refine WD.pure [0,1,2,3,4,5,6,7,8,9,10,11,12,13,14,15,16,17,18,19,20] (by kernel_rfl) trivial ?_
    simp only [pick,aF,aG,aI,aJ,aK]
    repeat (first | go_big_quiet_step (fail))
    refine wpQuiet_nil ?_
    refine WD.eff 21 (by kernel_rfl) ?_
    simp only [pick,aF,aG,aI,aJ,aK]
    go_wp2_with (refine wpList_put rfl _ _ _ rfl rfl (.string s) rfl rfl (show Blk wr.drew kb kcs from y1) (by omega) (by kernel_rfl) ?_;intro w5 f5 b5 hs5;simp only [aA,aB,Act.put,aC,aD,aE])
    try refine wpList_nil ?_
    refine AfterD.end rfl (by kernel_rfl) ?_
    try simp only [aA,aB,Act.put,aC,aD,aE]
    refine WD.done (by kernel_rfl) ?_
    go_wp2_with fail
    go_roundw
    case rel =>
     refine ⟨m + 1,by first | rfl | go_num,by omega,?_⟩
     have o5:=Y3.out p (.string s) w5 b5
     have e5:=(EV.out.step (Fr.refl [] wr).drew).at 2 rfl f5 (fun b hb => .inl (by simpa [Res.own] using hb)) (Res.On.own o5) (fun b hb => .inl (by simpa [Res.own] using hb))
     rw [Hst.out,List.map_set]
     exact e5
    case measure => simp [intOf];omega
  · have d1 : decide ((m : Int) < (ln : Int)) = false:=by simp;omega
    have d1' : ¬ ((m : Int) < (ln : Int)):=by omega
    obtain rfl : m = ln:=by omega
    rw [List.take_of_length_le (by rw [Hln.out];exact Nat.le_refl _)] at ev
    have e0:=ev.at 3 rfl (Fr.refl [] _) (by simp) (Res.On.own (Own.nil wr 2)) (by simp [Res.own])
    have EV:=hid e0
    clear ev e0
    go_wp2_with (first
     | (refine wpList_put rfl _ _ _ rfl rfl (.slice none 0 0) rfl rfl hb (by simp) (by kernel_rfl) ?_;intro w4 f4 b4 hs4;have e4:=EV.out.put 1 rfl f4 b4;have k4 : w4.cell? ⟨x,2,none⟩ = some (.slice ta tn tc):=b4.cell 2;have to4:=e4.held.ownAt 4 rfl;have E4:=hid e4;clear e4 f4 b4;simp only [aA,aB,Act.put,aC,aD,aE])
     | (refine wpList_buildSlice_r rfl _ 1 _ rfl 3 Tryz.underlying44 _ _ Hi3.out Hz3.out rfl Hs3.out (by decide) (by decide) (by decide) [.int .i64 (-1)] rfl (by intro v hv;simp at hv;rcases hv with rfl;rfl) ?_;intro w5 f5 hlt5 hb5;simp only [aA,aB,Act.put,aC,aD,aE])
     | (refine wpList_append_rc rfl _ _ _ rfl 3 _ _ 1 8 Tryz.underlying44 Hi3.out Hz3.out Hs3.out Hb3.out rfl (by decide) rfl (to4.keep f5 (by simp)) rfl (rc_blk hb5 rfl (by decide)) (by intro u hu;simp at hu;subst hu;rfl) (by unfold maxLen;omega) (by omega) ?_;intro v6 w6 B6 ho6 f6 hB6;obtain ⟨wa,wc,rfl⟩:=ho6.isSlice;have e6:=xapp_ev (E4.out.step f5) 4 rfl ho6 f6 hB6;have bk6:=e6.held.blkAt 1 rfl;have E6:=hid e6;clear e6;simp only [aA,aB,Act.put,aC,aD,aE])
     | (refine wpList_put rfl _ _ _ rfl rfl (.slice wa (tn + 1) wc) rfl rfl bk6 (by simp) (by kernel_rfl) ?_;intro w7 f7 b7 hs7;have e7:=E6.out.put 1 rfl f7 b7;revert e7;simp only [aA,aB,Act.put,aC,aD,aE]))
    intro e7
    have hfin : Ev w (Res.pow pw :: xps x X pw i) w7 (Res.pow pw :: xps x { X with Kept:=setX X.Kept X.L,L:=[],Trace:=X.Trace ++ [-1] } pw ⟨.slice (some ⟨kb,0,none⟩) kn kc,.slice none 0 0,.slice wa (tn + 1) wc,some kb,none,B6⟩):=by
     have hx : xps x { X with Kept:=setX X.Kept X.L,L:=[],Trace:=X.Trace ++ [-1] } pw ⟨.slice (some ⟨kb,0,none⟩) kn kc,.slice none 0 0,.slice wa (tn + 1) wc,some kb,none,B6⟩ = [Res.blk x [.slice (some ⟨kb,0,none⟩) kn kc,.slice none 0 0,.slice wa (tn + 1) wc,.bool X.Dead,pwv pw],Res.own 1 (.slice (some ⟨kb,0,none⟩) kn kc) kn ((setX X.Kept X.L).map .string) (some kb),Res.own 2 (.slice none 0 0) 0 [] none,Res.own 1 (.slice wa (tn + 1) wc) (tn + 1) (X.Trace.map (.int .i64) ++ [.int .i64 (-1)]) B6]:=by
      unfold xps
      simp only [List.length_append,List.length_cons,List.length_nil,Htn.out,setX_len,Hkn.out,List.map_append,List.map_cons,List.map_nil]
      rfl
     rw [hx]
     exact e7
    have Hfin:=hid hfin
    have Htk:=hid (xtook_any hfin.held Ho.out)
    clear e7 hfin s0 s1 s2 f5 hlt5 hb5 f6 hB6 ho6 f7 b7 k4 to4 bk6 hb
    go_wp2_with (go_at_call 91;refine Htk.out.mono ?_;rintro e w8 ⟨rfl,e8⟩)
    go_ret
    exact ⟨rfl,_,Hfin.out.trans e8⟩
theorem xcrash_dead {w : World} {x : Nat} {X : XD} {pw : Option (Nat × Nat)} {i : XI} (h : Held w (xps x X pw i)) (v : Value) (hd : X.Dead = true) :
 Calls Tryz.prog 12 #[.pointer (some ⟨x,0,none⟩),v] w fun e w' => e = .returned (.int .i64 60) ∧ Ev w (xps x X pw i) w' (xps x X none i):=by
 have hb : Blk w x [i.kv,i.lv,i.tv,.bool true,pwv pw]:=by rw [← hd];exact h.blkAt 0 rfl
 have hc:=hb.cell 3
 have e0:=Ev.refl h
 have E0:=hid e0
 have Hd:=hid hd
 clear h e0 hd
 go_enter Tryz.func12,Tryz.ntmps12
 go_wp2_with (refine wpList_put rfl _ _ _ rfl rfl (.pointer none) rfl rfl hb (by simp) (by kernel_rfl) ?_;intro w4 f4 b4 hs4;have e4:=E0.out.put 0 rfl f4 b4;have k4 : w4.cell? ⟨x,3,none⟩ = some (.bool true):=b4.cell 3;simp only [aA,aB,Act.put,aC,aD,aE])
 go_ret
 refine ⟨rfl,?_⟩
 have hx : xps x X none i = (xps x X pw i).set 0 (Res.blk x ([i.kv,i.lv,i.tv,.bool true,pwv pw].set 4 (.pointer none))):=by
  unfold xps
  rw [Hd.out]
  rfl
 rw [hx]
 exact e4
theorem xcrash_ok {w : World} {x : Nat} {X : XD} {pw : Option (Nat × Nat)} {i : XI} (h : Held w (xps x X pw i)) (hX : X.Dead = false) (hK0 : 0 < X.Kept.length) (hKm : X.Kept.length ≤ 16384) (hL : ∀ p ∈ X.L,p.1 < X.Kept.length) (hl : X.L.length < 1000000)
 {v : Value} {ks : List Bool} {KB : Option Nat} (hk : Rc w 1 v ks.length (ks.map .bool) KB) (hKB : ∀ b,KB = some b → b ∉ feetOf (xps x X pw i)) (hkm : ks.length ≤ 9223372036854775807) :
 Calls Tryz.prog 12 #[.pointer (some ⟨x,0,none⟩),v] w fun e w' => e = .returned (.int .i64 0) ∧
  ∃ i',Ev w (xps x X pw i) w' (xps x { X with Kept:=setX X.Kept (keptL X.L ks),L:=[] } none i'):=by
 have hko:=(h.ownAt 1 rfl : Xr.Own w 1 i.kv X.Kept.length (X.Kept.map .string) i.K)
 obtain ⟨kb,kc,hiK,hkv,hkc1,_,_⟩:=own_open hko hK0
 have hlo:=(h.ownAt 2 rfl : Xr.Own w 2 i.lv X.L.length (xlc X.L) i.Lb)
 obtain ⟨la,lc,hlv⟩:=hlo.isSlice
 have e0:=Ev.refl h
 obtain ⟨va,vc,rfl⟩:=hk.isSlice
 have hxx : xps x X pw i = [Res.blk x [.slice (some ⟨kb,0,none⟩) X.Kept.length kc,.slice la X.L.length lc,i.tv,.bool false,pwv pw],Res.own 1 (.slice (some ⟨kb,0,none⟩) X.Kept.length kc) X.Kept.length (X.Kept.map .string) (some kb),Res.own 2 (.slice la X.L.length lc) X.L.length (xlc X.L) i.Lb,Res.own 1 i.tv X.Trace.length (X.Trace.map (.int .i64)) i.T]:=by
  unfold xps
  rw [hkv,hlv,hiK,hX]
 have e1 : Ev w (xps x X pw i) w [Res.blk x [.slice (some ⟨kb,0,none⟩) X.Kept.length kc,.slice la X.L.length lc,i.tv,.bool false,pwv pw],Res.own 1 (.slice (some ⟨kb,0,none⟩) X.Kept.length kc) X.Kept.length (X.Kept.map .string) (some kb),Res.own 2 (.slice la X.L.length lc) X.L.length (xlc X.L) i.Lb,Res.own 1 i.tv X.Trace.length (X.Trace.map (.int .i64)) i.T]:=by
  rw [← hxx]
  exact e0
 have hfeet:=hid hKB
 obtain ⟨kn,hkn⟩ : ∃ kn,X.Kept.length = kn:=⟨_,rfl⟩
 obtain ⟨ln,hln⟩ : ∃ ln,X.L.length = ln:=⟨_,rfl⟩
 obtain ⟨M,hM⟩ : ∃ M,ks.length = M:=⟨_,rfl⟩
 have Hkn:=hid hkn
 have Hln:=hid hln
 have HM:=hid hM
 rw [hkn] at e1 hK0 hKm hL hkc1
 rw [hln] at e1 hl
 have HL:=hid hL
 have hb:=e1.held.blkAt 0 rfl
 have E1:=hid e1
 have Hk:=hid hk
 have HX:=hid hX
 rw [hM] at hkm ⊢
 clear h hkv hlv hkn hln hlo hko e0 e1 hiK hL hX hxx hk hM hKB
 go_enter Tryz.func12,Tryz.ntmps12
 go_wp2_with (refine wpList_put rfl _ _ _ rfl rfl (.pointer none) rfl rfl hb (by simp) (by kernel_rfl) ?_;intro w4 f4 b4 hs4;have e4:=E1.out.put 0 rfl f4 b4;have k4 : w4.cell? ⟨x,3,none⟩ = some (.bool false):=b4.cell 3;revert e4;simp only [aA,aB,Act.put,aC,aD,aE])
 intro e4
 have E4:=hid e4
 clear e4 b4 f4 hs4
 go_wp2_with fail
 go_loopw [5] (fun kv wr => ∃ m : Nat,kv = .int .i64 (m : Int) ∧ m ≤ ln ∧ Ev w (xps x X pw i) wr [Res.blk x [.slice (some ⟨kb,0,none⟩) kn kc,.slice la ln lc,i.tv,.bool false,.pointer none],Res.own 1 (.slice (some ⟨kb,0,none⟩) kn kc) kn ((setX X.Kept (keptL (X.L.take m) ks)).map .string) (some kb),Res.own 2 (.slice la ln lc) ln (xlc X.L) i.Lb,Res.own 1 i.tv X.Trace.length (X.Trace.map (.int .i64)) i.T]) (fun kv _ => ln - (intOf kv).toNat)
 case atStart => exact ⟨0,rfl,Nat.zero_le _,E4.out⟩
 case round =>
  obtain ⟨m,rfl,hm,ev⟩:=hrel
  clear k4
  have hb:=ev.held.blkAt 0 rfl
  have s0 : wr.cell? ⟨x,0,none⟩ = some (.slice (some ⟨kb,0,none⟩) kn kc):=hb.cell 0
  have s1 : wr.cell? ⟨x,1,none⟩ = some (.slice la ln lc):=hb.cell 1
  by_cases hml : m < ln
  · have d1 : decide ((m : Int) < (ln : Int)) = true:=by simp;omega
    have d1' : (m : Int) < (ln : Int):=by omega
    have hlr : Xr.Own wr 2 (.slice la ln lc) ln (xlc X.L) i.Lb:=ev.held.ownAt 2 rfl
    obtain ⟨lb,lcap,_,hlv,hlc0,_,hlc⟩:=own_open hlr (by omega)
    obtain ⟨rfl,rfl⟩ : la = some ⟨lb,0,none⟩ ∧ lc = lcap:=by simpa using hlv
    have hmX : m < X.L.length:=by rw [Hln.out];exact hml
    have q1:=(hlc (m * 2) (by rw [xlc_len];omega)).1
    have q2:=(hlc (m * 2 + 1) (by rw [xlc_len];omega)).1
    rw [(xlc_get X.L m hmX).1] at q1
    rw [(xlc_get X.L m hmX).2] at q2
    have hp:=HL.out X.L[m] (List.getElem_mem _)
    have Hst:=hid (show keptL (X.L.take (m + 1)) ks = keptL (X.L.take m) ks ++ (if ks.getD m false then [X.L[m]] else []) by
     rw [List.take_succ_eq_append_getElem hmX,keptL_snoc,List.length_take,Nat.min_eq_left (by omega)])
    obtain ⟨⟨p,s⟩,hps⟩ : ∃ p,X.L[m] = p:=⟨_,rfl⟩
    rw [hps] at q1 q2 hp Hst
    simp only at q1 q2 hp
    have hp' : (p : Int) < (kn : Int):=by omega
    have hpd : decide ((p : Int) < (kn : Int)) = true:=by simp;omega
    obtain ⟨kcs,y1,y2,y3⟩:=own_put (show Xr.Own wr 1 (.slice (some ⟨kb,0,none⟩) kn kc) kn ((setX X.Kept (keptL (X.L.take m) ks)).map .string) (some kb) from ev.held.ownAt 1 rfl)
    have Y3:=hid y3
    have hkr:=Hk.out.keep ev.fr (fun b hb => hfeet.out b hb)
    have EV:=hid ev
    clear y3 ev hlc hlv hlr hps hmX hb
    by_cases hmM : m < M
    · have d2 : decide ((m : Int) < (M : Int)) = true:=by simp;omega
      have d2' : (m : Int) < (M : Int):=by omega
      obtain ⟨vb,vo,vcap,hVB,hvv,_,_,_,hcell⟩:=hkr.some (by rw [HM.out];omega)
      rw [HM.out] at hvv
      obtain ⟨rfl,rfl⟩ : va = some ⟨vb,vo,none⟩ ∧ vc = vcap:=by simpa using hvv
      have q3:=hcell m (by rw [List.length_map,HM.out];exact hmM)
      rw [List.getElem?_map,List.getElem?_eq_getElem (by rw [HM.out];exact hmM),Option.map_some] at q3
      have Hgd:=hid (show ks.getD m false = ks[m]'(by rw [HM.out];exact hmM) by rw [List.getD_eq_getElem?_getD,List.getElem?_eq_getElem (by rw [HM.out];exact hmM)];rfl)
      obtain ⟨kq,hkq⟩ : ∃ kq,ks[m]'(by rw [HM.out];exact hmM) = kq:=⟨_,rfl⟩
      rw [hkq] at q3 Hgd
      rw [Hgd.out] at Hst
      clear hcell hvv hkq hkr hVB
      cases kq with
      | true =>
        go_wp2_with fail
        refine wp_region_D (fun _ => True) true [] (by kernel_rfl) ?_
        refine WD.pure [0,1,2,3,4,5,6,7,8,9,10,11,12,13,14,15,16,17,18,19,20] (by kernel_rfl) trivial ?_
        simp only [pick,aF,aG,aI,aJ,aK]
        repeat (first | go_big_quiet_step (fail))
        refine wpQuiet_nil ?_
        refine WD.eff 21 (by kernel_rfl) ?_
        simp only [pick,aF,aG,aI,aJ,aK]
        go_wp2_with (refine wpList_put rfl _ _ _ rfl rfl (.string s) rfl rfl (show Blk wr.drew kb kcs from y1) (by omega) (by kernel_rfl) ?_;intro w5 f5 b5 hs5;simp only [aA,aB,Act.put,aC,aD,aE])
        try refine wpList_nil ?_
        refine AfterD.end rfl (by kernel_rfl) ?_
        try simp only [aA,aB,Act.put,aC,aD,aE]
        refine WD.done (by kernel_rfl) ?_
        go_wp2_with fail
        go_roundw
        case rel =>
         refine ⟨m + 1,by first | rfl | go_num,by omega,?_⟩
         have o5:=Y3.out p (.string s) w5 b5
         have e5:=(EV.out.step (Fr.refl [] wr).drew).at 1 rfl f5 (fun b hb => .inl (by simpa [Res.own] using hb)) (Res.On.own o5) (fun b hb => .inl (by simpa [Res.own] using hb))
         rw [Hst.out,if_pos (by simp),setX_snoc,List.map_set]
         exact e5
        case measure => simp [intOf];omega
      | false =>
        go_wp2_with fail
        go_roundw
        case rel =>
         refine ⟨m + 1,by first | rfl | go_num,by omega,?_⟩
         rw [Hst.out,if_neg (by simp),List.append_nil]
         exact EV.out
        case measure => simp [intOf];omega
    · have d2 : decide ((m : Int) < (M : Int)) = false:=by simp;omega
      have d2' : ¬ ((m : Int) < (M : Int)):=by omega
      have Hgd:=hid (show ks.getD m false = false by rw [List.getD_eq_getElem?_getD,List.getElem?_eq_none (by rw [HM.out];omega)];rfl)
      rw [Hgd.out] at Hst
      clear hkr
      go_wp2_with fail
      go_roundw
      case rel =>
       refine ⟨m + 1,by first | rfl | go_num,by omega,?_⟩
       rw [Hst.out,if_neg (by simp),List.append_nil]
       exact EV.out
      case measure => simp [intOf];omega
  · have d1 : decide ((m : Int) < (ln : Int)) = false:=by simp;omega
    have d1' : ¬ ((m : Int) < (ln : Int)):=by omega
    obtain rfl : m = ln:=by omega
    rw [List.take_of_length_le (by rw [Hln.out];exact Nat.le_refl _)] at ev
    have e0:=ev.at 2 rfl (Fr.refl [] _) (by simp) (Res.On.own (Own.nil wr 2)) (by simp [Res.own])
    have EV:=hid e0
    clear ev e0
    go_wp2_with (refine wpList_put rfl _ _ _ rfl rfl (.slice none 0 0) rfl rfl hb (by simp) (by kernel_rfl) ?_;intro w7 f7 b7 hs7;have e7:=EV.out.put 0 rfl f7 b7;simp only [aA,aB,Act.put,aC,aD,aE])
    go_ret
    refine ⟨rfl,⟨.slice (some ⟨kb,0,none⟩) kn kc,.slice none 0 0,i.tv,some kb,none,i.T⟩,?_⟩
    have hx : xps x { X with Kept:=setX X.Kept (keptL X.L ks),L:=[] } none ⟨.slice (some ⟨kb,0,none⟩) kn kc,.slice none 0 0,i.tv,some kb,none,i.T⟩ = [Res.blk x [.slice (some ⟨kb,0,none⟩) kn kc,.slice none 0 0,i.tv,.bool false,.pointer none],Res.own 1 (.slice (some ⟨kb,0,none⟩) kn kc) kn ((setX X.Kept (keptL X.L ks)).map .string) (some kb),Res.own 2 (.slice none 0 0) 0 [] none,Res.own 1 i.tv X.Trace.length (X.Trace.map (.int .i64)) i.T]:=by
     unfold xps
     simp only [setX_len,Hkn.out,HX.out]
     rfl
    rw [hx]
    exact e7
def newXD (n : Nat) : XD:=⟨List.replicate n Zs,[],[],false⟩
theorem xnew_ok {w : World} (n : Nat) (h1 : 1 ≤ n) (h2 : n ≤ 16384) : Calls Tryz.prog 22 #[.int .i64 (n : Int)] w fun e w' => ∃ x i,e = .returned (.tuple #[.pointer (some ⟨x,0,none⟩),.int .i64 0]) ∧ Ev w [] w' (xps x (newXD n) none i):=by
 obtain ⟨i9,hi9,hz9,hs9,hb9⟩ : ∃ i,Tryz.prog.info? 9 = some i ∧ i.zero = some (.string ⟨#[]⟩) ∧ i.size = 1 ∧ i.bytes = 16:=⟨_,rfl,rfl,rfl,rfl⟩
 have Hi:=hid hi9
 have Hz:=hid hz9
 have Hs:=hid hs9
 have Hb:=hid hb9
 clear hi9 hz9 hs9 hb9
 have hd : decide ((n : Int) < 1) = false:=by simp;omega
 have hd' : ¬ ((n : Int) < 1):=by omega
 have hd1 : decide (16384 < (n : Int)) = false:=by simp;omega
 have hd1' : ¬ (16384 < (n : Int)):=by omega
 go_enter Tryz.func22,Tryz.ntmps22
 go_wp2_with (refine wpList_box rfl _ _ rfl [.slice none 0 0,.slice none 0 0,.slice none 0 0,.bool false,.pointer none] rfl ?_;intro w1 f1 hlt1 hb1;simp only [aA,aB,Act.put,aC,aD,aE])
 obtain ⟨x,hx⟩ : ∃ x,w.heap.size = x:=⟨_,rfl⟩
 have e1 : Ev w [] w1 (xps x (newXD 0) none ⟨.slice none 0 0,.slice none 0 0,.slice none 0 0,none,none,none⟩):=by
  rw [hx] at hb1
  have a1:=(Ev.start w).new f1 (Res.On.own (Own.nil w1 1)) (by simp [Res.own])
  have a2:=a1.new (Fr.refl [] _) (Res.On.own (Own.nil w1 2)) (by simp [Res.own])
  have a3:=a2.new (Fr.refl [] _) (Res.On.own (Own.nil w1 1)) (by simp [Res.own])
  refine ⟨a3.held.new (Res.On.blk hb1) (by simp [Res.blk,Res.own]),f1,?_⟩
  intro b hb
  refine .inr ?_
  simp [feetOf,xps,Res.blk,Res.own] at hb
  omega
 have E1:=hid e1
 rw [hx]
 clear e1 hb1 f1 hlt1 hx
 go_loopw [5] (fun kv wr => ∃ (m : Nat) (v : Value) (K : Option Nat),kv = .int .i64 (m : Int) ∧ m ≤ n ∧ Ev w [] wr (xps x (newXD m) none ⟨v,.slice none 0 0,.slice none 0 0,K,none,none⟩)) (fun kv _ => n - (intOf kv).toNat)
 case atStart => exact ⟨0,_,none,rfl,Nat.zero_le _,E1.out⟩
 case round =>
  obtain ⟨m,v,K,rfl,hm,ev⟩:=hrel
  clear E1
  by_cases hmn : m < n
  · have g1 : decide ((m : Int) < (n : Int)) = true:=by simp;omega
    have g1' : (m : Int) < (n : Int):=by omega
    have ho : Xr.Own wr 1 v (List.replicate m Zs).length ((List.replicate m Zs).map .string) K:=ev.held.ownAt 1 rfl
    rw [List.length_replicate] at ho
    obtain ⟨va,vc,rfl⟩:=ho.isSlice
    have hb : Blk wr x [.slice va m vc,.slice none 0 0,.slice none 0 0,.bool false,.pointer none]:=ev.held.blkAt 0 rfl
    have hxK : ∀ b,K = some b → b ≠ x:=by
     intro b hb e
     subst hb
     exact ev.held.idx_ne (i:=1) (j:=0) (by decide) rfl rfl b (by simp [Res.own]) (by simp [Res.blk,e])
    have EV:=hid ev
    have HO:=hid ho
    clear ev ho
    go_wp2_with fail
    refine wp_region_D (fun w' => Blk w' x [.slice va m vc,.slice none 0 0,.slice none 0 0,.bool false,.pointer none]) true [] (by kernel_rfl) ?_
    refine WD.free [0,1,2,3] (by kernel_rfl) hb.drew ?_
    simp only [pick,aF,aG,aI,aJ,aK]
    repeat (first | go_big_quiet_step (fail))
    refine wpQuiet_nil ?_
    refine WD.held [4] (by kernel_rfl) hb.drew ?_
    simp only [pick,aF,aG,aI,aJ,aK]
    repeat (first | (refine quiet_load_1R (by rfl) _ _ rfl rfl (.slice va m vc) (fun w0 h => h.cell 0) _ Tryz.underlying46 rfl ?_;simp only [aA,aB,Act.put,aC,aD,aE]) | go_big_quiet_step (fail))
    refine wpQuiet_nil ?_
    refine WD.eff 5 (by kernel_rfl) ?_
    simp only [pick,aF,aG,aI,aJ,aK]
    have f0 : Fr [] wr wr.drew:=(Fr.refl [] wr).drew
    go_wp2_with (go_at_call 28;refine xnought_any.mono ?_;rintro e w5 ⟨rfl,f5⟩)
    have b5:=f5.blk hb.drew (by simp)
    try refine wpList_nil ?_
    refine AfterD.on b5 (by kernel_rfl) ?_
    try simp only [aA,aB,Act.put,aC,aD,aE]
    refine WD.eff 6 (by kernel_rfl) ?_
    simp only [pick,aF,aG,aI,aJ,aK]
    go_wp2_with (refine wpList_buildSlice_r rfl _ 1 _ rfl 9 Tryz.underlying46 _ _ Hi.out Hz.out rfl Hs.out (by decide) (by decide) (by decide) [.string Zs] rfl (by intro v hv;simp at hv;rcases hv with rfl;rfl) ?_;intro w6 f6 hlt6 hb6;simp only [aA,aB,Act.put,aC,aD,aE])
    have b6:=f6.blk b5 (by simp)
    try refine wpList_nil ?_
    refine AfterD.on b6 (by kernel_rfl) ?_
    try simp only [aA,aB,Act.put,aC,aD,aE]
    refine WD.eff 7 (by kernel_rfl) ?_
    simp only [pick,aF,aG,aI,aJ,aK]
    have g6:=(f0.trans' f5).trans' f6
    go_wp2_with (refine wpList_append_rc rfl _ _ _ rfl 9 _ _ 1 16 Tryz.underlying46 Hi.out Hz.out Hs.out Hb.out rfl (by decide) rfl (HO.out.keep g6 (by simp)) rfl (rc_blk hb6 rfl (by decide)) (by intro u hu;simp at hu;subst hu;rfl) (by unfold maxLen;omega) (by omega) ?_;intro v7 w7 B7 ho7 f7 hB7;obtain ⟨wa,wc,rfl⟩:=ho7.isSlice;simp only [aA,aB,Act.put,aC,aD,aE])
    have b7:=f7.blk b6 (fun hb => hxK x (by simpa using hb) rfl)
    try refine wpList_nil ?_
    refine AfterD.on b7 (by kernel_rfl) ?_
    try simp only [aA,aB,Act.put,aC,aD,aE]
    refine WD.pure [8,9] (by kernel_rfl) b7 ?_
    simp only [pick,aF,aG,aI,aJ,aK]
    repeat (first | go_big_quiet_step (fail))
    refine wpQuiet_nil ?_
    refine WD.eff 10 (by kernel_rfl) ?_
    simp only [pick,aF,aG,aI,aJ,aK]
    go_wp2_with (refine wpList_put rfl _ _ _ rfl rfl (.slice wa (m + 1) wc) rfl rfl b7 (by simp) (by kernel_rfl) ?_;intro w8 f8 b8 hs8;simp only [aA,aB,Act.put,aC,aD,aE])
    try refine wpList_nil ?_
    refine AfterD.end rfl (by kernel_rfl) ?_
    try simp only [aA,aB,Act.put,aC,aD,aE]
    refine WD.done (by kernel_rfl) ?_
    go_wp2_with fail
    go_roundw
    case rel =>
     refine ⟨m + 1,.slice wa (m + 1) wc,B7,by first | rfl | go_num,by omega,?_⟩
     have e7:=xapp_ev (EV.out.step g6) 1 rfl ho7 f7 hB7
     have e8:=e7.put 0 rfl f8 b8
     have hx : xps x (newXD (m + 1)) none ⟨.slice wa (m + 1) wc,.slice none 0 0,.slice none 0 0,B7,none,none⟩ = [Res.blk x [.slice wa (m + 1) wc,.slice none 0 0,.slice none 0 0,.bool false,.pointer none],Res.own 1 (.slice wa (m + 1) wc) (m + 1) ((List.replicate m Zs).map .string ++ [.string Zs]) B7,Res.own 2 (.slice none 0 0) 0 [] none,Res.own 1 (.slice none 0 0) 0 [] none]:=by
      unfold xps newXD
      simp only [List.length_replicate,List.replicate_succ',List.map_append,List.map_cons,List.map_nil,List.length_append,List.length_cons,List.length_nil]
      rfl
     rw [hx]
     exact e8
    case measure => simp [intOf];omega
  · have g1 : decide ((m : Int) < (n : Int)) = false:=by simp;omega
    have g1' : ¬ ((m : Int) < (n : Int)):=by omega
    have hmn2 : m = n:=by omega
    rw [hmn2] at ev
    clear hmn2
    go_wp2_with fail
    go_ret2
    exact ⟨x,rfl,_,ev⟩
def tamN (X : XD) (pw : Option (Nat × Nat)) (q : Int) (s : ByteArray) : Int:=if xdead X pw then 60 else if 0 < X.L.length then 3 else mayN X pw q s true
def nowL (X : XD) : List (List UInt8):=X.Kept.mapIdx fun i k => (nowX X.L i k).data.toList
def dOf (X : XD) : SD:=⟨X.Kept.map (·.data.toList),nowL X,X.L.map fun p => (p.1,p.2.data.toList),X.Trace,X.Dead⟩
structure XGood (X : XD) : Prop where
 pos : 0 < X.Kept.length
 le : X.Kept.length ≤ 16384
 k512 : ∀ s ∈ X.Kept,s.size = 512
 l512 : ∀ p ∈ X.L,p.2.size = 512 ∧ p.1 < X.Kept.length
theorem nowL_len (X : XD) : (nowL X).length = X.Kept.length:=by simp [nowL]
theorem nowL_get (X : XD) (i : Nat) (h : i < X.Kept.length) : (nowL X)[i]'(by rw [nowL_len];exact h) = (nowX X.L i X.Kept[i]).data.toList:=by simp [nowL]
theorem dOf_write (X : XD) (q : Nat) (s : ByteArray) (hq : q < X.Kept.length) :
 dOf { X with L:=X.L ++ [(q,s)],Trace:=X.Trace ++ [(q : Int)] } = { dOf X with now:=(dOf X).now.set q s.data.toList,loose:=(dOf X).loose ++ [(q,s.data.toList)],trace:=(dOf X).trace ++ [(q : Int)] }:=by
 simp only [dOf,SD.mk.injEq,true_and,List.map_append,List.map_cons,List.map_nil,and_true]
 apply List.ext_getElem (by simp [nowL])
 intro j h1 h2
 have hj : j < X.Kept.length:=by simpa [nowL] using h1
 have e0:=nowL_get { X with L:=X.L ++ [(q,s)],Trace:=X.Trace ++ [(q : Int)] } j hj
 rw [e0,List.getElem_set,nowX_snoc]
 by_cases e : q = j
 · simp [e]
 · simp only [e,if_false]
   rw [nowL_get X j hj]
theorem set_set_get (K : List ByteArray) (a i : Nat) (s : ByteArray) (h : i < K.length) : (K.set a s)[i]'(by simpa using h) = if a = i then s else K[i]:=List.getElem_set _
theorem setX_get : ∀ (l : List (Nat × ByteArray)) (K : List ByteArray) (i : Nat) (h : i < K.length) (h' : i < (l.foldl (fun K p => K.set p.1 p.2) K).length),(l.foldl (fun K p => K.set p.1 p.2) K)[i] = nowX l i K[i]
 | [],K,i,h,_ => rfl
 | p :: l,K,i,h,h' => by
   have e:=setX_get l (K.set p.1 p.2) i (by simpa using h) h'
   show (l.foldl (fun K p => K.set p.1 p.2) (K.set p.1 p.2))[i] = _
   rw [e,set_set_get K p.1 i p.2 h]
   rfl
theorem setF_len : ∀ (l : List (Nat × ByteArray)) (K : List ByteArray),(l.foldl (fun K p => K.set p.1 p.2) K).length = K.length
 | [],K => rfl
 | p :: l,K => by
   rw [List.foldl_cons,setF_len l]
   simp
theorem setF_now (X : XD) : (X.L.foldl (fun K p => K.set p.1 p.2) X.Kept).map (·.data.toList) = nowL X:=by
 apply List.ext_getElem (by rw [List.length_map,setF_len,nowL_len])
 intro j h1 h2
 have hj : j < X.Kept.length:=by rw [nowL_len] at h2;exact h2
 rw [List.getElem_map,setX_get X.L X.Kept j hj,nowL_get X j hj]
theorem nowL_nil (K : List ByteArray) (T : List Int) (b : Bool) : nowL ⟨K,[],T,b⟩ = K.map (·.data.toList):=by
 apply List.ext_getElem (by simp [nowL])
 intro j h1 h2
 simp [nowL,nowX]
theorem dOf_flush (X : XD) : dOf { X with Kept:=X.L.foldl (fun K p => K.set p.1 p.2) X.Kept,L:=[],Trace:=X.Trace ++ [-1] } = flushed (dOf X):=by
 simp only [dOf,flushed,nowL_nil,setF_now,List.map_nil]
theorem crashK_set : ∀ (L : List (Nat × ByteArray)) (ks : List Bool) (K : List ByteArray) (m : Nat),m = min ks.length L.length → ∀ (keep : List (Nat × ByteArray) → List Bool → List (Nat × ByteArray)),(∀ k,keep [] k = []) → (∀ p l k,keep (p :: l) k = if k.headD false then p :: keep l k.tail else keep l k.tail) →
 crashK (K.map (·.data.toList)) ((L.map fun p => (p.1,p.2.data.toList)).take m) (ks.take m) = ((keep L ks).foldl (fun K p => K.set p.1 p.2) K).map (·.data.toList)
 | [],ks,K,m,hm,keep,h0,h1 => by
   rw [h0]
   simp at hm
   subst hm
   simp [crashK]
 | p :: l,[],K,m,hm,keep,h0,h1 => by
   simp at hm
   subst hm
   have e : ∀ l : List (Nat × ByteArray),keep l [] = []:=by
    intro l
    induction l with
    | nil => exact h0 _
    | cons a l ih => rw [h1];simpa using ih
   rw [e]
   simp [crashK]
 | p :: l,k :: ks,K,m,hm,keep,h0,h1 => by
   have hm' : m = min ks.length l.length + 1:=by simp only [List.length_cons] at hm;omega
   subst hm'
   rw [h1]
   simp only [List.map_cons,List.take_succ_cons,crashK,List.headD_cons,List.tail_cons]
   cases k with
   | false =>
     simp only [Bool.false_eq_true,if_false]
     exact crashK_set l ks K _ rfl keep h0 h1
   | true =>
     simp only [if_true,List.foldl_cons]
     have:=crashK_set l ks (K.set p.1 p.2) _ rfl keep h0 h1
     rw [List.map_set] at this
     exact this
theorem XGood.write {X : XD} (h : XGood X) (q : Nat) (s : ByteArray) (hq : q < X.Kept.length) (hs : s.size = 512) (T : List Int) : XGood { X with L:=X.L ++ [(q,s)],Trace:=T }:=by
 refine ⟨h.pos,h.le,h.k512,fun p hp => ?_⟩
 rcases List.mem_append.1 hp with h1 | h1
 · exact h.l512 p h1
 · obtain rfl:=List.mem_singleton.1 h1
   exact ⟨hs,hq⟩
theorem setF_512 : ∀ (l : List (Nat × ByteArray)) (K : List ByteArray),(∀ s ∈ K,s.size = 512) → (∀ p ∈ l,p.2.size = 512) → ∀ s ∈ l.foldl (fun K p => K.set p.1 p.2) K,s.size = 512
 | [],K,h,_ => h
 | p :: l,K,h,hl => by
   refine setF_512 l _ (fun s hs => ?_) (fun q hq => hl q (List.mem_cons_of_mem _ hq))
   rcases List.mem_or_eq_of_mem_set hs with h1 | h1
   · exact h s h1
   · rw [h1];exact hl p (by simp)
theorem XGood.sets {X : XD} (h : XGood X) (l : List (Nat × ByteArray)) (hl : ∀ p ∈ l,p.2.size = 512) (T : List Int) (b : Bool) : XGood ⟨l.foldl (fun K p => K.set p.1 p.2) X.Kept,[],T,b⟩ :=
 ⟨by rw [setF_len];exact h.pos,by rw [setF_len];exact h.le,setF_512 l _ h.k512 hl,fun p hp => by cases hp⟩
theorem XGood.good {X : XD} (h : XGood X) : Good (dOf X):=by
 have hn : ∀ (i : Nat) (k : ByteArray) (l : List (Nat × ByteArray)),k.size = 512 → (∀ p ∈ l,p.2.size = 512) → (nowX l i k).size = 512:=by
  intro i k l
  induction l generalizing k with
  | nil => intro h _;exact h
  | cons p l ih =>
    intro hk hl
    refine ih (if p.1 = i then p.2 else k) ?_ (fun q hq => hl q (List.mem_cons_of_mem _ hq))
    split
    · exact hl p (by simp)
    · exact hk
 refine ⟨by simp [dOf,nowL_len],by simpa [dOf] using h.pos,by simpa [dOf] using h.le,fun s hs => ?_,fun s hs => ?_,fun p hp => ?_⟩
 · simp only [dOf,List.mem_map] at hs
   obtain ⟨k,hk,rfl⟩:=hs
   exact h.k512 k hk
 · obtain ⟨i,hi,rfl⟩:=List.getElem_of_mem hs
   have hi' : i < X.Kept.length:=by have:=nowL_len X;simp only [dOf] at hi;omega
   have e : (dOf X).now[i] = (nowX X.L i X.Kept[i]).data.toList:=nowL_get X i hi'
   rw [e]
   exact hn i _ _ (h.k512 _ (List.getElem_mem hi')) (fun p hp => (h.l512 p hp).1)
 · simp only [dOf,List.mem_map] at hp
   obtain ⟨k,hk,rfl⟩:=hp
   obtain ⟨h1,h2⟩:=h.l512 k hk
   exact ⟨h1,by simpa [dOf] using h2⟩
theorem Rep.open {w : World} {d : Nat} {D : SD} {pw : Option (Nat × Nat)} {F : List Nat} (h : Rep w d D pw F) :
 ∃ kc nc lv tv k n L T,F = feet d k n L T ∧ Held w (parts d D pw (.slice (some ⟨k,0,none⟩) D.kept.length kc) (.slice (some ⟨n,0,none⟩) D.now.length nc) lv tv k n L T) ∧ D.kept.length ≤ kc ∧ D.now.length ≤ nc:=by
 obtain ⟨kv,nv,lv,tv,k,n,L,T,hF,H⟩:=h.held
 obtain ⟨kc,rfl,h1⟩ : ∃ cap,kv = .slice (some ⟨k,0,none⟩) D.kept.length cap ∧ D.kept.length ≤ cap:=by
  rcases (H.ownAt 1 rfl : Xr.Own w 512 kv D.kept.length (fl D.kept) (some k)).shape with ⟨_,_,_,h⟩ | ⟨b,cap,hb,h1,h2,h3⟩
  · cases h
  · cases hb;exact ⟨cap,h1,h2⟩
 obtain ⟨nc,rfl,h2⟩ : ∃ cap,nv = .slice (some ⟨n,0,none⟩) D.now.length cap ∧ D.now.length ≤ cap:=by
  rcases (H.ownAt 2 rfl : Xr.Own w 512 nv D.now.length (fl D.now) (some n)).shape with ⟨_,_,_,h⟩ | ⟨b,cap,hb,h1,h2,h3⟩
  · cases h
  · cases hb;exact ⟨cap,h1,h2⟩
 exact ⟨kc,nc,lv,tv,k,n,L,T,hF,H,h1,h2⟩
theorem replace_no {w : World} {d : Nat} {D : SD} {pw : Option (Nat × Nat)} {F : List Nat} (h : Rep w d D pw F) (hd : D.dead = false) :
 Calls Tryz.prog 9 #[.pointer (some ⟨d,0,none⟩)] w fun e w' => e = .returned (.int .i64 3) ∧ w' = w:=by
 obtain ⟨kc,nc,lv,tv,k,n,L,T,hF,H,h1,h2⟩:=h.open
 have hb : Blk w d [.slice (some ⟨k,0,none⟩) D.kept.length kc,.slice (some ⟨n,0,none⟩) D.now.length nc,lv,tv,.bool D.dead,pwv pw]:=H.blkAt 0 rfl
 rw [hd] at hb
 have k0:=hb.cell 0
 have k4:=hb.cell 4
 have hsn:=@Lib.run_eql_slice_nil
 clear h H hF hb
 go_enter Tryz.func9,Tryz.ntmps9
 go_wp2_with fail
 go_ret
 exact ⟨rfl,rfl⟩
theorem replace_ok {w : World} {d : Nat} {D : SD} {pw : Option (Nat × Nat)} {F : List Nat} (h : Rep w d D pw F) (hd : D.dead = true) :
 Calls Tryz.prog 9 #[.pointer (some ⟨d,0,none⟩)] w fun e w' => e = .returned (.int .i64 0) ∧ Rep w' d { D with dead:=false } pw F ∧ Fr [d] w w':=by
 have Hg:=hid (show Good { D with dead:=false } from ⟨h.good.same,h.good.pos,h.good.le,h.good.k512,h.good.n512,h.good.l512⟩)
 obtain ⟨kc,nc,lv,tv,k,n,L,T,hF,H,h1,h2⟩:=h.open
 have hb : Blk w d [.slice (some ⟨k,0,none⟩) D.kept.length kc,.slice (some ⟨n,0,none⟩) D.now.length nc,lv,tv,.bool D.dead,pwv pw]:=H.blkAt 0 rfl
 rw [hd] at hb
 have k0:=hb.cell 0
 have k4:=hb.cell 4
 have hsn:=@Lib.run_eql_slice_nil
 have HH:=hid H
 have HF:=hid hF
 clear h H hF
 go_enter Tryz.func9,Tryz.ntmps9
 go_wp2_with (refine wpList_put rfl _ _ _ rfl rfl (.bool false) rfl rfl hb (by simp) (by kernel_rfl) ?_;intro w4 f4 b4 hs4;simp only [aA,aB,Act.put,aC,aD,aE])
 go_ret
 refine ⟨rfl,?_,f4⟩
 rw [HF.out]
 refine Rep.ofHeld (D:={ D with dead:=false }) (kv:=.slice (some ⟨k,0,none⟩) D.kept.length kc) (nv:=.slice (some ⟨n,0,none⟩) D.now.length nc) (lv:=lv) (tv:=tv) Hg.out ?_
 exact Held.setAt 0 HH.out rfl f4 (fun b hb => .inl (by simpa [Res.blk] using hb)) (Res.On.blk b4) (fun b hb => .inl (by simpa [Res.blk] using hb))
theorem dlen_any {w : World} {d : Nat} {D : SD} {pw : Option (Nat × Nat)} {F : List Nat} (h : Rep w d D pw F) :
 Calls Tryz.prog 55 #[.pointer (some ⟨d,0,none⟩)] w fun e w' => e = .returned (.int .i64 (D.kept.length : Int)) ∧ w' = w:=by
 obtain ⟨kc,nc,lv,tv,k,n,L,T,hF,H,h1,h2⟩:=h.open
 have hb : Blk w d [.slice (some ⟨k,0,none⟩) D.kept.length kc,.slice (some ⟨n,0,none⟩) D.now.length nc,lv,tv,.bool D.dead,pwv pw]:=H.blkAt 0 rfl
 have k0:=hb.cell 0
 clear h H hF hb
 go_enter Tryz.func55,Tryz.ntmps55
 go_wp2_with fail
 go_ret
 exact ⟨rfl,rfl⟩
theorem dead_any {w : World} {d : Nat} {D : SD} {pw : Option (Nat × Nat)} {F : List Nat} (h : Rep w d D pw F) :
 Calls Tryz.prog 16 #[.pointer (some ⟨d,0,none⟩)] w fun e w' => e = .returned (.bool D.dead) ∧ w' = w:=by
 obtain ⟨kc,nc,lv,tv,k,n,L,T,hF,H,h1,h2⟩:=h.open
 have hb : Blk w d [.slice (some ⟨k,0,none⟩) D.kept.length kc,.slice (some ⟨n,0,none⟩) D.now.length nc,lv,tv,.bool D.dead,pwv pw]:=H.blkAt 0 rfl
 have k4:=hb.cell 4
 clear h H hF hb
 go_enter Tryz.func16,Tryz.ntmps16
 go_wp2_with fail
 go_ret
 exact ⟨rfl,rfl⟩
theorem trace_any {w : World} {d : Nat} {D : SD} {pw : Option (Nat × Nat)} {F : List Nat} (h : Rep w d D pw F) (htl : D.trace.length < 1000000) :
 Calls Tryz.prog 15 #[.pointer (some ⟨d,0,none⟩)] w fun e w' => (∃ v B,e = .returned v ∧ Rd w' 1 v D.trace.length (D.trace.map (.int .i64)) B) ∧ Fr [] w w':=by
 obtain ⟨kc,nc,lv,tv,k,n,L,T,hF,H,h1,h2⟩:=h.open
 have hb : Blk w d [.slice (some ⟨k,0,none⟩) D.kept.length kc,.slice (some ⟨n,0,none⟩) D.now.length nc,lv,tv,.bool D.dead,pwv pw]:=H.blkAt 0 rfl
 have k3:=hb.cell 3
 have ho : Xr.Own w 1 tv D.trace.length (D.trace.map (.int .i64)) T:=H.ownAt 4 rfl
 obtain ⟨tn,htn⟩ : ∃ tn,D.trace.length = tn:=⟨_,rfl⟩
 rw [htn] at ho htl ⊢
 clear h H hF hb htn
 cases T with
 | none =>
   rcases ho.shape with ⟨rfl,rfl,hx,_⟩ | ⟨b,cap,hb,_⟩
   · have hc:=clip_any (Own.nil w 1)
     have Hx:=hid hx
     clear ho hx
     go_enter Tryz.func15,Tryz.ntmps15
     go_wp2_with (first
      | (go_at_call 47;refine (cloneI_nil w).mono ?_;rintro e w' ⟨rfl,hw⟩;subst hw)
      | (go_at_call 46;refine hc.mono ?_;rintro e w' ⟨⟨v',rfl,hr⟩,hw⟩;subst hw))
     go_ret
     rw [Hx.out]
     exact ⟨⟨_,none,rfl,hr⟩,Fr.refl _ _⟩
   · cases hb
 | some b =>
   have hcl:=hid (cloneI_any ho (by intro u hu;simp at hu;obtain ⟨x,_,rfl⟩:=hu;rfl) (by unfold maxLen;omega) (by omega))
   obtain ⟨ta,tc,rfl⟩:=ho.isSlice
   clear ho
   go_enter Tryz.func15,Tryz.ntmps15
   go_wp2_with (first
    | (go_at_call 47;refine hcl.out.mono ?_;rintro e w1 ⟨v1,b1,rfl,ho1,hb1,f1⟩;have hc:=clip_any ho1;obtain ⟨va1,vc1,rfl⟩:=ho1.isSlice)
    | (go_at_call 46;refine hc.mono ?_;rintro e w' ⟨⟨v',rfl,hr⟩,hw⟩;subst hw))
   go_ret
   exact ⟨⟨_,some b1,rfl,hr⟩,f1⟩
def failed (D : SD) : SD:={ D with kept:=List.replicate D.kept.length zsec,now:=List.replicate D.kept.length zsec,loose:=[],dead:=true }
theorem failed_good {D : SD} (h : Good D) : Good (failed D):=by
 have h2:=new_good D.kept.length h.pos h.le
 exact ⟨h2.same,h2.pos,h2.le,h2.k512,h2.n512,by simp [failed]⟩
theorem zs73 : ∃ i z,Tryz.prog.info? 74 = some i ∧ i.zero = some z ∧ z.cells.toList = List.replicate 512 (bt 0):=by
 refine ⟨_,_,rfl,rfl,?_⟩
 kernel_rfl
theorem fail_ok {w : World} {d : Nat} {D : SD} {pw : Option (Nat × Nat)} {F : List Nat} (h : Rep w d D pw F) :
 Calls Tryz.prog 7 #[.pointer (some ⟨d,0,none⟩)] w fun e w' => e = .returned (.int .i64 0) ∧ ∃ F',Rep w' d (failed D) pw F' ∧ Fr F w w' ∧ ∀ x ∈ F',x ∈ F ∨ w.heap.size ≤ x:=by
 have Hg:=hid (failed_good h.good)
 have hpos:=h.good.pos
 have Hsame:=hid h.good.same
 obtain ⟨kc,nc,lv,tv,k,n,L,T,hF,H,h1,h2⟩:=h.open
 obtain ⟨xs,hxs⟩ : ∃ xs,xs = fl D.kept:=⟨_,rfl⟩
 obtain ⟨ys,hys⟩ : ∃ ys,ys = fl D.now:=⟨_,rfl⟩
 obtain ⟨kl,hkl⟩ : ∃ kl,kl = D.kept.length:=⟨_,rfl⟩
 have HF:=hid hF
 have Hkl:=hid hkl
 unfold parts at H
 rw [← hxs,← hys,← Hsame.out,← hkl] at H
 have H0:=hid H
 have hb : Blk w d [.slice (some ⟨k,0,none⟩) kl kc,.slice (some ⟨n,0,none⟩) kl nc,lv,tv,.bool D.dead,pwv pw]:=H.blkAt 0 rfl
 have ok1 : Xr.Own w 512 (.slice (some ⟨k,0,none⟩) kl kc) kl xs (some k):=H.ownAt 1 rfl
 rw [← hkl] at hpos
 have k0:=hb.cell 0
 have hsn:=@Lib.run_eql_slice_nil
 obtain ⟨i73,z73,hi,hz,hzs⟩:=zs73
 have Hi:=hid hi
 have Hz:=hid hz
 have Hzs:=hid hzs
 clear h H hF hxs hys hkl h1 h2 hi hz hzs hb
 go_enter Tryz.func7,Tryz.ntmps7
 go_wp2_with (first
  | (refine wpList_clear rfl _ _ rfl _ _ _ _ 512 Tryz.underlying67 Hi.out Hz.out Hzs.out (by decide) rfl hpos rfl ok1 ?_;intro w1 f1 o1' s1;simp only [aA,aB,Act.put,aC,aD,aE]
     have o1 : Xr.Own w1 512 (.slice (some ⟨k,0,none⟩) kl kc) kl (List.replicate (kl * 512) (bt 0)) (some k):=o1'
     have H1:=hid (Held.setAt 1 H0.out rfl f1 (fun b hb => .inl (by simpa [Res.own] using hb)) (Res.On.own o1) (fun b hb => .inl (by simpa [Res.own] using hb)))
     have on1 : Xr.Own w1 512 (.slice (some ⟨n,0,none⟩) kl nc) kl ys (some n):=H1.out.ownAt 2 rfl
     have hb1 : Blk w1 d [.slice (some ⟨k,0,none⟩) kl kc,.slice (some ⟨n,0,none⟩) kl nc,lv,tv,.bool D.dead,pwv pw]:=H1.out.blkAt 0 rfl
     have k1:=hb1.cell 1
     clear hb1 ok1 k0)
  | (refine wpList_clear rfl _ _ rfl _ _ _ _ 512 Tryz.underlying67 Hi.out Hz.out Hzs.out (by decide) rfl hpos rfl on1 ?_;intro w2 f2 o2' s2;simp only [aA,aB,Act.put,aC,aD,aE]
     have o2 : Xr.Own w2 512 (.slice (some ⟨n,0,none⟩) kl nc) kl (List.replicate (kl * 512) (bt 0)) (some n):=o2'
     have H2:=hid (Held.setAt 2 H1.out rfl f2 (fun b hb => .inl (by simpa [Res.own] using hb)) (Res.On.own o2) (fun b hb => .inl (by simpa [Res.own] using hb)))
     have hb2 : Blk w2 d [.slice (some ⟨k,0,none⟩) kl kc,.slice (some ⟨n,0,none⟩) kl nc,lv,tv,.bool D.dead,pwv pw]:=H2.out.blkAt 0 rfl
     clear k1 on1)
  | (refine wpList_put rfl _ _ _ rfl rfl (.slice none 0 0) rfl rfl hb2 (by simp) (by kernel_rfl) ?_;intro w3 f3 b3 hs3;simp only [aA,aB,Act.put,aC,aD,aE])
  | (refine wpList_put rfl _ _ _ rfl rfl (.bool true) rfl rfl b3 (by simp) (by kernel_rfl) ?_;intro w4 f4 b4 hs4;simp only [aA,aB,Act.put,aC,aD,aE]))
 go_ret
 have f34:=f3.trans f4 (fun x hx => .inl hx)
 have H3:=Held.setAt 0 H2.out rfl f34 (fun b hb => .inl (by simpa [Res.blk] using hb)) (Res.On.blk b4) (fun b hb => .inl (by simpa [Res.blk] using hb))
 have H4:=Held.setAt 3 H3 rfl (Fr.refl [] w4) (by simp) (Res.On.own (Xr.Own.nil w4 513)) (by simp [Res.own])
 have f14 : Fr F w w4:=by
  rw [HF.out]
  refine ((f1.mono (fun x hx => .inl ?_)).trans (f2.mono (fun x hx => .inl ?_)) (fun x hx => .inl hx)).trans (f34.mono (fun x hx => .inl ?_)) (fun x hx => .inl hx) <;> (simp at hx;simp [feet,hx])
 refine ⟨rfl,feet d k n none T,?_,f14,?_⟩
 · refine Rep.ofHeld (D:=failed D) (kv:=.slice (some ⟨k,0,none⟩) kl kc) (nv:=.slice (some ⟨n,0,none⟩) kl nc) (lv:=.slice none 0 0) (tv:=tv) Hg.out ?_
   unfold parts failed
   simp only [List.length_replicate,← Hkl.out,fl_zero]
   exact H4
 · intro x hx
   rw [HF.out]
   simp [feet] at hx ⊢
   rcases hx with hx | hx | hx | hx <;> simp [hx]
end Go.Proofs.YtgafefecookgaaaGreat
namespace Go.Xr
open Go Go.RowKit
end Go.Xr
namespace Go.Proofs.YtgafefecookgaaaGreat
open Go Go.Xr Go.RowKit
end Go.Proofs.YtgafefecookgaaaGreat
namespace Go.Xr
open Go Go.RowKit
end Go.Xr
namespace Go.Proofs.YtgafefecookgaaaGreat
open Go Go.Xr Go.RowKit
def mk (b : Nat) (lf : Option Nat) : Option (Nat × Nat):=lf.map fun l => (b,l)
theorem mk_dec (b : Nat) (lf : Option Nat) : pwDec (mk b lf) = mk b (lf.map (· - 1)):=by cases lf <;> rfl
theorem offB_mk (b c : Nat) (lf : Option Nat) : offB (mk b lf) = offB (mk c lf):=by
 match lf with
 | none => rfl
 | some 0 => rfl
 | some (l + 1) => rfl
theorem mayN_mk (X : XD) (b c : Nat) (lf : Option Nat) (i : Int) (s : ByteArray) (t : Bool) : mayN X (mk b lf) i s t = mayN X (mk c lf) i s t:=by
 unfold mayN
 rw [offB_mk b c]
theorem ableN_mk (X : XD) (b c : Nat) (lf : Option Nat) : ableN (dOf X) (mk b lf) = if xdead X (mk c lf) then 60 else 0:=by
 unfold ableN xdead
 have e : (dOf X).dead = X.Dead:=rfl
 rw [e]
 cases X.Dead with
 | true => rfl
 | false =>
   match lf with
   | none => rfl
   | some 0 => rfl
   | some (l + 1) => rfl
theorem outB_dOf (X : XD) (i : Int) : outB (dOf X) i = (decide (i < 0) || decide ((X.Kept.length : Int) ≤ i)):=by
 unfold outB
 simp [dOf]
theorem atN_mk (X : XD) (b c : Nat) (lf : Option Nat) (i : Int) (s : ByteArray) : atN (dOf X) (mk b lf) i (some s) = mayN X (mk c lf) i s true:=by
 unfold atN mayN
 rw [ableN_mk X b c,outB_dOf]
 unfold xdead badT
 cases X.Dead || offB (mk c lf) <;> simp
theorem atN_mk0 (X : XD) (b c : Nat) (lf : Option Nat) (i : Int) (s : ByteArray) : atN (dOf X) (mk b lf) i none = mayN X (mk c lf) i s false:=by
 unfold atN mayN
 rw [ableN_mk X b c,outB_dOf]
 unfold xdead badT
 cases X.Dead || offB (mk c lf) <;> simp
theorem mayN_cases (X : XD) (p : Option (Nat × Nat)) (i : Int) (s : ByteArray) (t : Bool) : mayN X p i s t = 0 ∨ mayN X p i s t = 60 ∨ mayN X p i s t = 2:=by
 unfold mayN
 split
 · exact .inr (.inl rfl)
 · split
   · exact .inr (.inr rfl)
   · exact .inl rfl
theorem mayN_ok {X : XD} {p : Option (Nat × Nat)} {i : Int} {s : ByteArray} {t : Bool} (h : mayN X p i s t = 0) : xdead X p = false ∧ (∃ q : Nat,i = (q : Int) ∧ q < X.Kept.length) ∧ (t = true → s.size = 512):=by
 unfold mayN at h
 unfold xdead
 cases hd : (X.Dead || offB p) with
 | true => rw [hd] at h;simp at h
 | false =>
   rw [hd] at h
   simp only [Bool.false_eq_true,if_false] at h
   split at h
   · simp at h
   · rename_i hn
     simp only [Bool.or_eq_true,not_or,decide_eq_true_eq,Bool.and_eq_true,Bool.not_eq_true',decide_eq_false_iff_not] at hn
     refine ⟨rfl,⟨i.toNat,by omega,by omega⟩,fun ht => ?_⟩
     have:=hn.2
     simpa [ht] using this
section
variable {w0 w w' : World} {rs l : List Res} {d x : Nat} {D D' : SD} {pc pc' px px' : Option (Nat × Nat)} {F F' : List Nat} {X X' : XD} {i i' : XI}
theorem Held.xpsOf (h : Held w (Res.pow px :: xps x X px i)) : Held w (xps x X px i):=Held.part [Res.pow px] [] (by rw [List.append_nil];exact h)
theorem Held.powOk (h : Held w [Res.pow pc,Res.disk d D pc F]) : pwOk w pc:=h.at 0 rfl
theorem Held.rep (h : Held w [Res.pow pc,Res.disk d D pc F]) : Rep w d D pc F:=h.at 1 rfl
theorem Held.powNe (h : Held w [Res.pow pc,Res.disk d D pc F]) : ∀ y ∈ pwF pc,y ∉ F:=h.idx_ne (i:=0) (j:=1) (by decide) rfl rfl
theorem Held.cdisk (h : Held w [Res.pow pc,Res.disk d D pc F]) (hr : Rep w' d D' pc' F') (hp : pwOk w' pc') (hpF : pwF pc' = pwF pc) (f : Fr (F ++ pwF pc) w w') (hF : ∀ y ∈ F',y ∈ F ∨ w.heap.size ≤ y) : Ev w [Res.pow pc,Res.disk d D pc F] w' [Res.pow pc',Res.disk d D' pc' F']:=by
 have hne : ∀ y ∈ pwF pc,y ∉ F ∧ y < w.heap.size:=fun y hy => ⟨Held.powNe h y hy,h.lt (Res.pow pc) (by simp) y hy⟩
 have hf : feetOf [Res.pow pc,Res.disk d D pc F] = pwF pc ++ F:=by simp [feetOf,Res.pow,Res.disk]
 refine ⟨(Held.one (On.disk hr)).new (On.pow hp) fun b hb r' hr' => ?_,f.mono (fun y hy => .inl ?_),fun b hb => ?_⟩
 · obtain rfl:=List.mem_singleton.1 hr'
   intro hb'
   have hb : b ∈ pwF pc:=by rw [← hpF];exact hb
   have hb' : b ∈ F':=hb'
   obtain ⟨h1,h2⟩:=hne b hb
   rcases hF b hb' with h3 | h3
   · exact h1 h3
   · omega
 · rw [hf]
   simp only [List.mem_append] at hy ⊢
   exact hy.symm
 · have hf' : feetOf [Res.pow pc',Res.disk d D' pc' F'] = pwF pc' ++ F':=by simp [feetOf,Res.pow,Res.disk]
   rw [hf',hpF] at hb
   rw [hf]
   simp only [List.mem_append] at hb ⊢
   rcases hb with h1 | h1
   · exact .inl (.inl h1)
   · rcases hF b h1 with h2 | h2
     · exact .inl (.inr h2)
     · exact .inr h2
end
end Go.Proofs.YtgafefecookgaaaGreat
namespace Go.Proofs.YtgafefecookgaaaGreat
open Go Go.Xr Go.RowKit Go.ChangeShapes Go.WideShapes Go.Deep
structure StepD where
 Do : Int
 I : Int
 C : UInt8
 Text : ByteArray
 Keep : Value
 ks : List Bool
 KB : Option Nat
instance : Inhabited StepD:=⟨⟨0,0,0,⟨#[]⟩,.slice none 0 0,[],none⟩⟩
end Go.Proofs.YtgafefecookgaaaGreat
namespace Go.Proofs.YtgafefecookgaaaGreat
open Go Go.Xr Go.RowKit
section
variable {w : World} {l : List Res} {d x pb qb : Nat} {X : XD} {lf : Option Nat} {F : List Nat} {i : XI}
def rdS (X : XD) (lf : Option Nat) (j : Int) : ByteArray:=if mayN X (mk 0 lf) j ⟨#[]⟩ false = 0 then nowX X.L j.toNat (X.Kept.getD j.toNat ⟨#[]⟩) else ⟨#[]⟩
def rdC (X : XD) (lf : Option Nat) (j : Int) : Int:=mayN X (mk 0 lf) j ⟨#[]⟩ false
end
def wrC (X : XD) (lf : Option Nat) (I : Int) (S : ByteArray) : Int:=mayN X (mk 0 lf) I S true
def wrX (X : XD) (lf : Option Nat) (I : Int) (S : ByteArray) : XD:=if wrC X lf I S = 0 then { X with L:=X.L ++ [(I.toNat,S)],Trace:=X.Trace ++ [I] } else X
def wrL (X : XD) (lf : Option Nat) (I : Int) (S : ByteArray) : Option Nat:=if wrC X lf I S = 0 then lf.map (· - 1) else lf
def flC (X : XD) (lf : Option Nat) : Int:=if xdead X (mk 0 lf) then 60 else 0
def flX (X : XD) (lf : Option Nat) : XD:=if xdead X (mk 0 lf) then X else { X with Kept:=setX X.Kept X.L,L:=[],Trace:=X.Trace ++ [-1] }
def flL (X : XD) (lf : Option Nat) : Option Nat:=if xdead X (mk 0 lf) then lf else lf.map (· - 1)
def crX (X : XD) (ks : List Bool) : XD:=if X.Dead then X else { X with Kept:=setX X.Kept (keptL X.L ks),L:=[] }
def faX (X : XD) : XD:={ X with Kept:=List.replicate X.Kept.length Zs,L:=[],Dead:=true }
def taC (X : XD) (lf : Option Nat) (I : Int) (S : ByteArray) : Int:=tamN X (mk 0 lf) I S
def taX (X : XD) (lf : Option Nat) (I : Int) (S : ByteArray) : XD:=if taC X lf I S = 0 then { X with Kept:=X.Kept.set I.toNat S } else X
theorem pwF_mk_dec (b : Nat) (lf : Option Nat) : pwF (mk b (lf.map (· - 1))) = pwF (mk b lf):=by cases lf <;> rfl
section
variable {w : World} {l : List Res} {d x pb qb : Nat} {X Y : XD} {lf : Option Nat} {pc px : Option (Nat × Nat)} {D : SD} {F : List Nat} {i : XI}
theorem Ev.idle {w' : World} {rs : List Res} (h : Held w rs) (f : Fr [] w w') : Ev w rs w' rs:=(Ev.refl h).step f
theorem dOf_fail (X : XD) : dOf (faX X) = failed (dOf X):=by
 unfold faX failed dOf
 rw [nowL_nil]
 simp only [List.map_replicate,List.map_nil,List.length_map]
 rfl
end
theorem dOf_crash (X : XD) (ks : List Bool) : crashed (dOf X) ks = dOf { X with Kept:=setX X.Kept (keptL X.L ks),L:=[] }:=by
 have e:=crashK_set X.L ks X.Kept (min ks.length X.L.length) rfl keptL (fun _ => by unfold keptL;rfl) (fun p l k => by rw [keptL])
 simp only [dOf,crashed,nowL_nil,List.map_nil,List.length_map]
 rw [e]
 rfl
theorem keptL_mem : ∀ (l : List (Nat × ByteArray)) (ks : List Bool),∀ p ∈ keptL l ks,p ∈ l
 | [],_,p,h => by simp [keptL] at h
 | q :: l,ks,p,h => by
   rw [keptL] at h
   split at h
   · rcases List.mem_cons.1 h with h | h
     · simp [h]
     · exact List.mem_cons_of_mem _ (keptL_mem l _ p h)
   · exact List.mem_cons_of_mem _ (keptL_mem l _ p h)
section
variable {w w' : World} {l rs : List Res} {d x pb qb : Nat} {X Y : XD} {lf : Option Nat} {pc px : Option (Nat × Nat)} {D D' : SD} {F F' : List Nat} {i i' : XI}
theorem Ev.less {w1 : World} (a m : List Res) {r : Res} (e : Ev w rs w1 (a ++ r :: m)) : Ev w rs w1 (a ++ m) :=
 ⟨Held.drop a m e.held,e.fr,fun b hb => e.low b (by
  simp only [feetOf,List.flatMap_append,List.flatMap_cons,List.mem_append] at hb ⊢
  rcases hb with h | h
  · exact .inl h
  · exact .inr (.inr h))⟩
theorem pow0 (w : World) : (Res.pow none).On w:=On.pow (pw:=none) trivial
end
section
variable {w : World} {d x pb qb : Nat} {X : XD} {lf : Option Nat} {F : List Nat} {i : XI} {I : Int} {C : UInt8} {T : ByteArray} {K : Value}
end
theorem Ev.perm {w w1 : World} {rs a b : List Res} (e : Ev w rs w1 a) (p : a.Perm b) : Ev w rs w1 b :=
 ⟨e.held.perm p,e.fr,fun x hx => e.low x ((p.flatMap_right _).mem_iff.2 hx)⟩
section
variable {w : World} {d x pb qb : Nat} {X : XD} {lf : Option Nat} {F : List Nat} {i : XI} {I : Int} {C : UInt8} {T : ByteArray} {K : Value}
end
end Go.Proofs.YtgafefecookgaaaGreat
namespace Go.Proofs.YtgafefecookgaaaGreat
open Go Go.Xr Go.RowKit Go.ChangeShapes Go.WideShapes Go.Deep
structure Nxt (Do : Int) (X X' : XD) (lf lf' : Option Nat) (pb pb' qb qb' : Nat) : Prop where
 good : XGood X'
 len : X'.Kept.length = X.Kept.length
 L : X'.L.length ≤ X.L.length + 1
 T : X'.Trace.length ≤ X.Trace.length + 1
 pw : Do ≠ 3 → Do ≠ 8 → pb' = pb ∧ qb' = qb ∧ ∀ n,lf = some n → ∃ n',lf' = some n' ∧ n' + X'.Trace.length = n + X.Trace.length
theorem Nxt.same {Do : Int} {X : XD} {lf : Option Nat} {pb qb : Nat} (h : XGood X) : Nxt Do X X lf lf pb pb qb qb:=⟨h,rfl,by omega,by omega,fun _ _ => ⟨rfl,rfl,fun n hn => ⟨n,hn,rfl⟩⟩⟩
theorem zs_len : zsec.length = 512:=by unfold zsec;exact List.length_replicate
theorem XGood.dead {X : XD} (h : XGood X) (b : Bool) : XGood { X with Dead:=b }:=⟨h.pos,h.le,h.k512,h.l512⟩
theorem faX_good {X : XD} (h : XGood X) : XGood (faX X):=⟨by simpa [faX] using h.pos,by simpa [faX] using h.le,fun s hs => by
 simp only [faX] at hs
 rw [List.eq_of_mem_replicate hs]
 show zsec.toArray.size = 512
 rw [List.size_toArray]
 exact zs_len,fun p hp => by simp [faX] at hp⟩
theorem wr_nxt {X : XD} (h : XGood X) (lf : Option Nat) (pb qb : Nat) (I : Int) (S : ByteArray) : Nxt 0 X (wrX X lf I S) lf (wrL X lf I S) pb pb qb qb:=by
 unfold wrX wrL
 by_cases hc : wrC X lf I S = 0
 · rw [if_pos hc,if_pos hc]
   obtain ⟨hd,⟨q,rfl,hq⟩,hs⟩:=mayN_ok hc
   refine ⟨?_,rfl,by simp,by simp,fun _ _ => ⟨rfl,rfl,fun n hn => ?_⟩⟩
   · exact h.write (Int.toNat (q : Int)) S (by simpa using hq) (hs rfl) _
   · subst hn
     have hn0 : n ≠ 0:=by
      rintro rfl
      unfold xdead mk offB at hd
      simp at hd
     exact ⟨n - 1,rfl,by simp;omega⟩
 · rw [if_neg hc,if_neg hc]
   exact Nxt.same h
theorem fl_nxt {X : XD} (h : XGood X) (lf : Option Nat) (pb qb : Nat) : Nxt 2 X (flX X lf) lf (flL X lf) pb pb qb qb:=by
 unfold flX flL
 cases hd : xdead X (mk 0 lf) with
 | true => exact Nxt.same h
 | false =>
   refine ⟨h.sets X.L (fun p hp => (h.l512 p hp).1) _ _,setX_len _ _,by simp,by simp,fun _ _ => ⟨rfl,rfl,fun n hn => ?_⟩⟩
   subst hn
   have hn0 : n ≠ 0:=by
    rintro rfl
    unfold xdead mk offB at hd
    simp at hd
   exact ⟨n - 1,rfl,by simp;omega⟩
theorem cr_good {X : XD} (h : XGood X) (ks : List Bool) : XGood (crX X ks) ∧ (crX X ks).Kept.length = X.Kept.length ∧ (crX X ks).L.length ≤ X.L.length ∧ (crX X ks).Trace = X.Trace:=by
 unfold crX
 cases X.Dead with
 | true => exact ⟨h,rfl,Nat.le_refl _,rfl⟩
 | false => exact ⟨h.sets (keptL X.L ks) (fun p hp => (h.l512 p (keptL_mem _ _ p hp)).1) _ _,setX_len _ _,by simp,rfl⟩
end Go.Proofs.YtgafefecookgaaaGreat
