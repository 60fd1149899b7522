/- Several texts put together: VolJ, VolK, VolL, VolM, VolN, VolO, VolP, VolQ, VolR, MirSt, VolS, VolT. What each shows stands ahead of it. -/
import Derived.Test.YtgafefecookgaaaGreatGVolA
import Derived.Test.YtgafefecookgaaaGreatGMirD
import Derived.Test.YtgafefecookgaaaGreatGArgs
open Go.World renaming size_alloc → aA,size_drew → aB
open List renaming setIfInBounds_toArray → aC,set_cons_succ → aD,set_cons_zero → aE,toList_toArray → aF,map_cons → aG,map_nil → aI,getD_cons_succ → aJ,getD_cons_zero → aK
set_option linter.unusedVariables false
set_option linter.unusedSimpArgs false
set_option maxRecDepth 20000
set_option maxHeartbeats 16000000
namespace Go.Proofs.YtgafefecookgaaaGreat
open Go Go.Xr Go.RowKit
def ixC (n e : Nat) (p a : Int) : Int:=if (0 ≤ p ∧ p < (n : Int)) ∧ (0 ≤ a ∧ a < (e : Int)) then 0 else 2
def ixN (n e : Nat) (p a : Int) : Nat:=if (0 ≤ p ∧ p < (n : Int)) ∧ (0 ≤ a ∧ a < (e : Int)) then a.toNat * n + p.toNat else 0
section
variable {w w' w0 : World} {vb n c e : Nat} {ad : Option Addr} {wr : Int}
theorem vindex_any {rb : Nat} (hb : Blk w vb (volL (some ⟨rb,0,none⟩) n c e wr)) (hn : n ≤ 8) (he : e ≤ 16384) (p a : Int) :
 Calls Tryz.prog 44 #[.pointer (some ⟨vb,0,none⟩),.int .i64 p,.int .i64 a] w fun r w' => r = .returned (.tuple #[.int .i64 (ixN n e p a : Int),.int .i64 (ixC n e p a)]) ∧ w' = w:=by
 have k0 : w.cell? ⟨vb,0,none⟩ = some (.slice (some ⟨rb,0,none⟩) n c):=hb.cell 0
 have k1 : w.cell? ⟨vb,1,none⟩ = some (.int .i64 (e : Int)):=hb.cell 1
 have hsn:=@Lib.run_eql_slice_nil
 clear hb
 unfold ixC ixN
 by_cases h0 : p < 0
 · have u0 : decide (p < 0) = true:=by simpa using h0
   rw [if_neg (by omega),if_neg (by omega)]
   go_enter Tryz.func44,Tryz.ntmps44
   go_wp2_with fail
   go_ret2
   exact ⟨rfl,rfl⟩
 · have u0 : decide (p < 0) = false:=by simpa using h0
   by_cases h1 : (n : Int) ≤ p
   · have u1 : decide ((n : Int) ≤ p) = true:=by simpa using h1
     rw [if_neg (by omega),if_neg (by omega)]
     go_enter Tryz.func44,Tryz.ntmps44
     go_wp2_with fail
     go_ret2
     exact ⟨rfl,rfl⟩
   · have u1 : decide ((n : Int) ≤ p) = false:=by simpa using h1
     by_cases h2 : a < 0
     · have u2 : decide (a < 0) = true:=by simpa using h2
       rw [if_neg (by omega),if_neg (by omega)]
       go_enter Tryz.func44,Tryz.ntmps44
       go_wp2_with fail
       go_ret2
       exact ⟨rfl,rfl⟩
     · have u2 : decide (a < 0) = false:=by simpa using h2
       by_cases h3 : (e : Int) ≤ a
       · have u3 : decide ((e : Int) ≤ a) = true:=by simpa using h3
         rw [if_neg (by omega),if_neg (by omega)]
         go_enter Tryz.func44,Tryz.ntmps44
         go_wp2_with fail
         go_ret2
         exact ⟨rfl,rfl⟩
       · have u3 : decide ((e : Int) ≤ a) = false:=by simpa using h3
         rw [if_pos (by omega),if_pos (by omega)]
         obtain ⟨q,hq⟩ : ∃ q : Nat,p = (q : Int):=⟨p.toNat,by omega⟩
         obtain ⟨b,hb⟩ : ∃ b : Nat,a = (b : Int):=⟨a.toNat,by omega⟩
         obtain ⟨t,ht⟩ : ∃ t,b * n = t:=⟨_,rfl⟩
         have hm : t ≤ 131072:=by rw [← ht];exact Nat.le_trans (Nat.mul_le_mul (show b ≤ 16384 by omega) hn) (by decide)
         have e1 : a.toNat * n + p.toNat = t + q:=by rw [hq,hb,Int.toNat_natCast,Int.toNat_natCast,ht]
         have hmul : ∀ ty,binOp .mul ty (.int .i64 a) (.int .i64 (n : Int)) = pure (.int .i64 (t : Int)):=fun ty => by
          show pure (Value.int .i64 (IntKind.i64.wrap (a * (n : Int)))) = _
          rw [IntKind.wrap_i64,show a * (n : Int) = (t : Int) by rw [← ht,hb];exact (Int.natCast_mul b n).symm]
          have h9 : ((t : Int) + 9223372036854775808) % 18446744073709551616 - 9223372036854775808 = (t : Int):=by omega
          rw [h9]
         have hadd : ∀ ty,binOp .add ty (.int .i64 (t : Int)) (.int .i64 p) = pure (.int .i64 ((t + q : Nat) : Int)):=fun ty => by
          show pure (Value.int .i64 (IntKind.i64.wrap ((t : Int) + p))) = _
          rw [IntKind.wrap_i64,hq]
          have h9 : ((t : Int) + (q : Int) + 9223372036854775808) % 18446744073709551616 - 9223372036854775808 = ((t + q : Nat) : Int):=by omega
          rw [h9]
         rw [e1]
         generalize t + q = s at *
         clear e1 hm ht hq hb h0 h1 h2 h3 hn he
         go_enter Tryz.func44,Tryz.ntmps44
         go_wp2_with fail
         go_ret2
         exact ⟨rfl,rfl⟩
end
section
variable {w w' w0 : World} {l rs : List Res} {X : VX} {Ms : List MS} {wr : Int} {k m : Nat} {M : MS}
theorem vw_at (h : VA w0 rs w l X Ms wr) (hk : Ms[k]? = some M) (hm : X.ms[k]? = some m) (ok : SysOk M.s) (ht : M.s.T < 998900) (a : Int) (S : ByteArray) (hS : S.size ≤ 9223372036854775807) :
 Calls Tryz.prog 63 #[.pointer (some ⟨m,0,none⟩),.int .i64 a,.string S] w fun e w' => e = .returned (.int .i64 (M.wrE a S)) ∧ VA w0 rs w' l X (Ms.set k (M.wrM a S)) wr:=by
 obtain ⟨m2,d,FF,l',em,ed,hh,hback⟩:=h.mir hk
 obtain rfl : m = m2:=Option.some.inj (hm.symm.trans em)
 refine (mwrite_any hh ok ht a S hS).mono ?_
 rintro e w' ⟨rfl,FF',ev⟩
 exact ⟨rfl,hback _ _ _ ev⟩
theorem vf_at (h : VA w0 rs w l X Ms wr) (hk : Ms[k]? = some M) (hm : X.ms[k]? = some m) (ok : SysOk M.s) (ht : M.s.T < 998900)  :
 Calls Tryz.prog 71 #[.pointer (some ⟨m,0,none⟩)] w fun e w' => e = .returned (.int .i64 M.flushC) ∧ VA w0 rs w' l X (Ms.set k (M.flushM)) wr:=by
 obtain ⟨m2,d,FF,l',em,ed,hh,hback⟩:=h.mir hk
 obtain rfl : m = m2:=Option.some.inj (hm.symm.trans em)
 refine (mflush_any hh ok ht).mono ?_
 rintro e w' ⟨rfl,FF',ev⟩
 exact ⟨rfl,hback _ _ _ ev⟩
theorem vr_at (h : VA w0 rs w l X Ms wr) (hk : Ms[k]? = some M) (hm : X.ms[k]? = some m) (ok : SysOk M.s) (ht : M.s.T < 998900) (a : Int) :
 Calls Tryz.prog 66 #[.pointer (some ⟨m,0,none⟩),.int .i64 a] w fun e w' => e = .returned (.tuple #[.string (M.rd a).2.1,.int .i64 (M.rd a).2.2]) ∧ VA w0 rs w' l X (Ms.set k ((M.rd a).1)) wr:=by
 obtain ⟨m2,d,FF,l',em,ed,hh,hback⟩:=h.mir hk
 obtain rfl : m = m2:=Option.some.inj (hm.symm.trans em)
 refine (mread_any hh ok ht a).mono ?_
 rintro e w' ⟨rfl,FF',ev⟩
 exact ⟨rfl,hback _ _ _ ev⟩
theorem vo_at (h : VA w0 rs w l X Ms wr) (hk : Ms[k]? = some M) (hm : X.ms[k]? = some m) (ok : SysOk M.s) (ht : M.s.T < 998900) (a : Int) :
 Calls Tryz.prog 69 #[.pointer (some ⟨m,0,none⟩),.int .i64 a] w fun e w' => e = .returned (.tuple #[.string (M.ot a).2.1,.int .i64 (M.ot a).2.2]) ∧ VA w0 rs w' l X (Ms.set k ((M.ot a).1)) wr:=by
 obtain ⟨m2,d,FF,l',em,ed,hh,hback⟩:=h.mir hk
 obtain rfl : m = m2:=Option.some.inj (hm.symm.trans em)
 refine (mother_any hh ok ht a).mono ?_
 rintro e w' ⟨rfl,FF',ev⟩
 exact ⟨rfl,hback _ _ _ ev⟩
end
section
variable {w w' w0 : World} {l rs : List Res} {X : VX} {Ms : List MS} {wr : Int} {k m a : Nat} {M : MS}
theorem vlen_v (h : VA w0 rs w l X Ms wr) (o : VOk X) : Calls Tryz.prog 17 #[.pointer (some ⟨X.vb,0,none⟩)] w fun r w' => r = .returned (.int .i64 ((X.e * X.ms.length : Nat) : Int)) ∧ Fr [] w w':=by
 obtain ⟨c,hv,h1,h2,hb,hc⟩:=h.shape o
 exact vlen_any hb o.h8 o.he
theorem vplace_v (h : VA w0 rs w l X Ms wr) (o : VOk X) (i : Int) :
 Calls Tryz.prog 42 #[.pointer (some ⟨X.vb,0,none⟩),.int .i64 i] w fun r w' => r = .returned (.tuple #[.int .i64 (plP X.ms.length X.e i : Int),.int .i64 (plA X.ms.length X.e i : Int),.int .i64 (plC X.ms.length X.e i)]) ∧ Fr [] w w':=by
 obtain ⟨c,hv,h1,h2,hb,hc⟩:=h.shape o
 exact vplace_any hb o.h1 o.h8 o.he i
theorem vindex_v (h : VA w0 rs w l X Ms wr) (o : VOk X) (p a : Int) :
 Calls Tryz.prog 44 #[.pointer (some ⟨X.vb,0,none⟩),.int .i64 p,.int .i64 a] w fun r w' => r = .returned (.tuple #[.int .i64 (ixN X.ms.length X.e p a : Int),.int .i64 (ixC X.ms.length X.e p a)]) ∧ w' = w:=by
 obtain ⟨c,hv,h1,h2,hb,hc⟩:=h.shape o
 exact vindex_any hb o.h8 o.he p a
theorem vwr_v (h : VA w0 rs w l X Ms wr) (o : VOk X) : Calls Tryz.prog 19 #[.pointer (some ⟨X.vb,0,none⟩)] w fun r w' => r = .returned (.int .i64 wr) ∧ w' = w:=by
 obtain ⟨c,hv,h1,h2,hb,hc⟩:=h.shape o
 exact vwr_any hb
theorem vwrite_off (h : VA w0 rs w l X Ms wr) (o : VOk X) (i : Int) (S : ByteArray) (hc : plC X.ms.length X.e i ≠ 0) :
 Calls Tryz.prog 32 #[.pointer (some ⟨X.vb,0,none⟩),.int .i64 i,.string S] w fun r w' => r = .returned (.int .i64 (plC X.ms.length X.e i)) ∧ VA w0 rs w' l X Ms wr:=by
 have HV:=hid h
 have HP:=hid (vplace_v h o i)
 generalize plC X.ms.length X.e i = cc at *
 have u0 : (cc == 0) = false:=by simpa using hc
 clear h hc
 go_enter Tryz.func32,Tryz.ntmps32
 go_wp2_with (go_at_call 42;refine HP.out.mono ?_;rintro r w5 ⟨rfl,f5⟩)
 go_ret
 exact ⟨rfl,HV.out.step f5⟩
theorem vwrite_in (h : VA w0 rs w l X Ms wr) (o : VOk X) (i : Int) (S : ByteArray) (hc : plC X.ms.length X.e i = 0) (hp : plP X.ms.length X.e i = k) (ha : plA X.ms.length X.e i = a) (hk : Ms[k]? = some M) (ok : SysOk M.s) (ht : M.s.T < 998900) (hS : S.size ≤ 9223372036854775807) (hw0 : 0 ≤ wr) (hw1 : wr ≤ 1000000) :
 Calls Tryz.prog 32 #[.pointer (some ⟨X.vb,0,none⟩),.int .i64 i,.string S] w fun r w' => r = .returned (.int .i64 (M.wrE (a : Int) S)) ∧ VA w0 rs w' l X (Ms.set k (M.wrM (a : Int) S)) (if M.wrE (a : Int) S = 0 then wr + 1 else wr):=by
 have HV:=hid h
 have HP:=hid (vplace_v h o i)
 rw [hc,hp,ha] at HP
 have hkl : k < X.ms.length:=by rw [← h.len.1];exact (List.getElem?_eq_some_iff.1 hk).1
 obtain ⟨m,hm⟩ : ∃ m,X.ms[k]? = some m:=⟨_,List.getElem?_eq_getElem hkl⟩
 obtain ⟨c,hv,h1,h2,hb,hcell⟩:=h.shape o
 have HC:=hid fun (w1 : World) (h1 : VA w0 rs w1 l X Ms wr) => (show w1.cell? ⟨X.vb,0,none⟩ = some (.slice (some ⟨X.rb,0,none⟩) X.ms.length c) ∧ w1.cell? ⟨X.rb,k,none⟩ = some (.pointer (some ⟨m,0,none⟩)) from by
  obtain ⟨c2,hv2,_,_,hb2,hcell2⟩:=h1.shape o
  rw [hv] at hv2
  obtain rfl : c = c2:=by simpa using hv2
  exact ⟨hb2.cell 0,hcell2 k m hm⟩)
 have HW:=hid fun (w1 : World) (h1 : VA w0 rs w1 l X Ms wr) => vw_at h1 hk hm ok ht (a : Int) S hS
 have HB:=hid fun (w1 : World) (h1 : VA w0 rs w1 l X (Ms.set k (M.wrM (a : Int) S)) wr) => h1.blk
 have hadd : ∀ ty,binOp .add ty (.int .i64 wr) (.int .i64 1) = pure (.int .i64 (wr + 1)):=fun ty => by
  show pure (Value.int .i64 (IntKind.i64.wrap (wr + 1))) = _
  rw [IntKind.wrap_i64]
  have h9 : (wr + 1 + 9223372036854775808) % 18446744073709551616 - 9223372036854775808 = wr + 1:=by omega
  rw [h9]
 obtain ⟨wr1,hwr1⟩ : ∃ x,wr + 1 = x:=⟨_,rfl⟩
 rw [hwr1] at hadd ⊢
 have HN:=hid hwr1
 have hkl2 : k < X.ms.length:=hkl
 generalize M.wrM (a : Int) S = M' at *
 generalize M.wrE (a : Int) S = cc at *
 have hvb : X.vb = X.vb:=rfl
 generalize hgn : X.ms.length = n at *
 generalize X.rb = rb at *
 have HG:=hid hgn
 clear hgn hc hp ha h hv h1 h2 hb hcell hkl hw0 hw1 hwr1 hk hm ok ht hS
 by_cases h0 : cc = 0
 · subst h0
   rw [if_pos rfl]
   go_enter Tryz.func32,Tryz.ntmps32
   go_wp2_with (first
    | (go_at_call 42;refine HP.out.mono ?_;rintro r w5 ⟨rfl,f5⟩;have V5:=hid (HV.out.step f5);obtain ⟨k0,k1⟩:=HC.out _ V5.out)
    | (go_at_call 63;refine (HW.out _ V5.out).mono ?_;rintro r w6 ⟨rfl,v6⟩;have V6:=hid v6;have B6:=HB.out _ v6;have k2 : w6.cell? ⟨X.vb,2,none⟩ = some (.int .i64 wr):=B6.cell 2;clear v6 k0 k1)
    | (refine wpList_put rfl _ _ _ rfl rfl (.int .i64 wr1) rfl rfl B6 (by simp) (by kernel_rfl) ?_;intro w7 f7 b7 hs7;simp only [aA,aB,Act.put,aC,aD,aE]))
   go_ret
   exact ⟨rfl,V6.out.put f7 b7⟩
 · have u0 : (cc == 0) = false:=by simpa using h0
   rw [if_neg h0]
   go_enter Tryz.func32,Tryz.ntmps32
   go_wp2_with (first
    | (go_at_call 42;refine HP.out.mono ?_;rintro r w5 ⟨rfl,f5⟩;have V5:=hid (HV.out.step f5);obtain ⟨k0,k1⟩:=HC.out _ V5.out)
    | (go_at_call 63;refine (HW.out _ V5.out).mono ?_;rintro r w6 ⟨rfl,v6⟩;have V6:=hid v6;clear v6 k0 k1))
   go_ret
   exact ⟨rfl,V6.out⟩
theorem vread_off (h : VA w0 rs w l X Ms wr) (o : VOk X) (i : Int) (hc : plC X.ms.length X.e i ≠ 0) :
 Calls Tryz.prog 35 #[.pointer (some ⟨X.vb,0,none⟩),.int .i64 i] w fun r w' => r = .returned (.tuple #[.string ⟨#[]⟩,.int .i64 (plC X.ms.length X.e i)]) ∧ VA w0 rs w' l X Ms wr:=by
 have HV:=hid h
 have HP:=hid (vplace_v h o i)
 generalize plC X.ms.length X.e i = cc at *
 have u0 : (cc == 0) = false:=by simpa using hc
 have u1 : (cc != 0) = true:=by simpa using hc
 clear h hc
 have HR : Hid (Calls Tryz.prog 65 #[.pointer (some ⟨X.vb,0,none⟩),.int .i64 i,.func (.func 66) #[] #[]] w fun r w' => r = .returned (.tuple #[.string ⟨#[]⟩,.int .i64 cc]) ∧ VA w0 rs w' l X Ms wr):=hid (by
  go_enter Tryz.func65,Tryz.ntmps65
  go_wp2_with (go_at_call 42;refine HP.out.mono ?_;rintro r w5 ⟨rfl,f5⟩)
  go_ret2
  exact ⟨rfl,HV.out.step f5⟩)
 clear HP
 go_enter Tryz.func35,Tryz.ntmps35
 go_wp2_with (go_at_call 65;refine HR.out.mono ?_;rintro r w5 ⟨rfl,v5⟩)
 go_ret2
 exact ⟨rfl,v5⟩
theorem vread_in (h : VA w0 rs w l X Ms wr) (o : VOk X) (i : Int) (hc : plC X.ms.length X.e i = 0) (hp : plP X.ms.length X.e i = k) (ha : plA X.ms.length X.e i = a) (hk : Ms[k]? = some M) (ok : SysOk M.s) (ht : M.s.T < 998900) :
 Calls Tryz.prog 35 #[.pointer (some ⟨X.vb,0,none⟩),.int .i64 i] w fun r w' => r = .returned (.tuple #[.string ((M.rd (a : Int)).2.1),.int .i64 ((M.rd (a : Int)).2.2)]) ∧ VA w0 rs w' l X (Ms.set k ((M.rd (a : Int)).1)) wr:=by
 have HV:=hid h
 have HP:=hid (vplace_v h o i)
 rw [hc,hp,ha] at HP
 have hkl : k < X.ms.length:=by rw [← h.len.1];exact (List.getElem?_eq_some_iff.1 hk).1
 obtain ⟨m,hm⟩ : ∃ m,X.ms[k]? = some m:=⟨_,List.getElem?_eq_getElem hkl⟩
 obtain ⟨c,hv,h1,h2,hb,hcell⟩:=h.shape o
 have HC:=hid fun (w1 : World) (h1 : VA w0 rs w1 l X Ms wr) => (show w1.cell? ⟨X.vb,0,none⟩ = some (.slice (some ⟨X.rb,0,none⟩) X.ms.length c) ∧ w1.cell? ⟨X.rb,k,none⟩ = some (.pointer (some ⟨m,0,none⟩)) from by
  obtain ⟨c2,hv2,_,_,hb2,hcell2⟩:=h1.shape o
  rw [hv] at hv2
  obtain rfl : c = c2:=by simpa using hv2
  exact ⟨hb2.cell 0,hcell2 k m hm⟩)
 have HW:=hid fun (w1 : World) (h1 : VA w0 rs w1 l X Ms wr) => vr_at h1 hk hm ok ht (a : Int)
 have hkl2 : k < X.ms.length:=hkl
 generalize (M.rd (a : Int)).1 = M' at *
 generalize (M.rd (a : Int)).2.1 = S at *
 generalize (M.rd (a : Int)).2.2 = cc at *
 generalize hgn : X.ms.length = n at *
 generalize X.rb = rb at *
 clear hgn hc hp ha h hv h1 h2 hb hcell hkl hk hm ok ht
 have HR : Hid (Calls Tryz.prog 65 #[.pointer (some ⟨X.vb,0,none⟩),.int .i64 i,.func (.func 66) #[] #[]] w fun r w' => r = .returned (.tuple #[.string S,.int .i64 cc]) ∧ VA w0 rs w' l X (Ms.set k M') wr):=hid (by
  go_enter Tryz.func65,Tryz.ntmps65
  go_wp2_with (first
   | (go_at_call 42;refine HP.out.mono ?_;rintro r w5 ⟨rfl,f5⟩;have V5:=hid (HV.out.step f5);obtain ⟨k0,k1⟩:=HC.out _ V5.out)
   | (go_at_call 66;refine (HW.out _ V5.out).mono ?_;rintro r w6 ⟨rfl,v6⟩;have V6:=hid v6;clear v6 k0 k1))
  go_ret2
  exact ⟨rfl,V6.out⟩)
 clear HP HW HC
 go_enter Tryz.func35,Tryz.ntmps35
 go_wp2_with (go_at_call 65;refine HR.out.mono ?_;rintro r w5 ⟨rfl,v5⟩)
 go_ret2
 exact ⟨rfl,v5⟩
theorem vother_off (h : VA w0 rs w l X Ms wr) (o : VOk X) (i : Int) (hc : plC X.ms.length X.e i ≠ 0) :
 Calls Tryz.prog 37 #[.pointer (some ⟨X.vb,0,none⟩),.int .i64 i] w fun r w' => r = .returned (.tuple #[.string ⟨#[]⟩,.int .i64 (plC X.ms.length X.e i)]) ∧ VA w0 rs w' l X Ms wr:=by
 have HV:=hid h
 have HP:=hid (vplace_v h o i)
 generalize plC X.ms.length X.e i = cc at *
 have u0 : (cc == 0) = false:=by simpa using hc
 have u1 : (cc != 0) = true:=by simpa using hc
 clear h hc
 have HR : Hid (Calls Tryz.prog 65 #[.pointer (some ⟨X.vb,0,none⟩),.int .i64 i,.func (.func 69) #[] #[]] w fun r w' => r = .returned (.tuple #[.string ⟨#[]⟩,.int .i64 cc]) ∧ VA w0 rs w' l X Ms wr):=hid (by
  go_enter Tryz.func65,Tryz.ntmps65
  go_wp2_with (go_at_call 42;refine HP.out.mono ?_;rintro r w5 ⟨rfl,f5⟩)
  go_ret2
  exact ⟨rfl,HV.out.step f5⟩)
 clear HP
 go_enter Tryz.func37,Tryz.ntmps37
 go_wp2_with (go_at_call 65;refine HR.out.mono ?_;rintro r w5 ⟨rfl,v5⟩)
 go_ret2
 exact ⟨rfl,v5⟩
theorem vother_in (h : VA w0 rs w l X Ms wr) (o : VOk X) (i : Int) (hc : plC X.ms.length X.e i = 0) (hp : plP X.ms.length X.e i = k) (ha : plA X.ms.length X.e i = a) (hk : Ms[k]? = some M) (ok : SysOk M.s) (ht : M.s.T < 998900) :
 Calls Tryz.prog 37 #[.pointer (some ⟨X.vb,0,none⟩),.int .i64 i] w fun r w' => r = .returned (.tuple #[.string ((M.ot (a : Int)).2.1),.int .i64 ((M.ot (a : Int)).2.2)]) ∧ VA w0 rs w' l X (Ms.set k ((M.ot (a : Int)).1)) wr:=by
 have HV:=hid h
 have HP:=hid (vplace_v h o i)
 rw [hc,hp,ha] at HP
 have hkl : k < X.ms.length:=by rw [← h.len.1];exact (List.getElem?_eq_some_iff.1 hk).1
 obtain ⟨m,hm⟩ : ∃ m,X.ms[k]? = some m:=⟨_,List.getElem?_eq_getElem hkl⟩
 obtain ⟨c,hv,h1,h2,hb,hcell⟩:=h.shape o
 have HC:=hid fun (w1 : World) (h1 : VA w0 rs w1 l X Ms wr) => (show w1.cell? ⟨X.vb,0,none⟩ = some (.slice (some ⟨X.rb,0,none⟩) X.ms.length c) ∧ w1.cell? ⟨X.rb,k,none⟩ = some (.pointer (some ⟨m,0,none⟩)) from by
  obtain ⟨c2,hv2,_,_,hb2,hcell2⟩:=h1.shape o
  rw [hv] at hv2
  obtain rfl : c = c2:=by simpa using hv2
  exact ⟨hb2.cell 0,hcell2 k m hm⟩)
 have HW:=hid fun (w1 : World) (h1 : VA w0 rs w1 l X Ms wr) => vo_at h1 hk hm ok ht (a : Int)
 have hkl2 : k < X.ms.length:=hkl
 generalize (M.ot (a : Int)).1 = M' at *
 generalize (M.ot (a : Int)).2.1 = S at *
 generalize (M.ot (a : Int)).2.2 = cc at *
 generalize hgn : X.ms.length = n at *
 generalize X.rb = rb at *
 clear hgn hc hp ha h hv h1 h2 hb hcell hkl hk hm ok ht
 have HR : Hid (Calls Tryz.prog 65 #[.pointer (some ⟨X.vb,0,none⟩),.int .i64 i,.func (.func 69) #[] #[]] w fun r w' => r = .returned (.tuple #[.string S,.int .i64 cc]) ∧ VA w0 rs w' l X (Ms.set k M') wr):=hid (by
  go_enter Tryz.func65,Tryz.ntmps65
  go_wp2_with (first
   | (go_at_call 42;refine HP.out.mono ?_;rintro r w5 ⟨rfl,f5⟩;have V5:=hid (HV.out.step f5);obtain ⟨k0,k1⟩:=HC.out _ V5.out)
   | (go_at_call 69;refine (HW.out _ V5.out).mono ?_;rintro r w6 ⟨rfl,v6⟩;have V6:=hid v6;clear v6 k0 k1))
  go_ret2
  exact ⟨rfl,V6.out⟩)
 clear HP HW HC
 go_enter Tryz.func37,Tryz.ntmps37
 go_wp2_with (go_at_call 65;refine HR.out.mono ?_;rintro r w5 ⟨rfl,v5⟩)
 go_ret2
 exact ⟨rfl,v5⟩
end
def upTo (g : MS → MS) (Ms : List MS) (q : Nat) : List MS:=(Ms.take q).map g ++ Ms.drop q
def firstC (F : MS → Int) (Ms : List MS) : Int:=Ms.foldl (fun a M => if a = 0 then F M else a) 0
theorem upTo_0 (g : MS → MS) (Ms : List MS) : upTo g Ms 0 = Ms:=by simp [upTo]
theorem upTo_all (g : MS → MS) (Ms : List MS) : upTo g Ms Ms.length = Ms.map g:=by simp [upTo]
theorem upTo_get (g : MS → MS) {Ms : List MS} {q : Nat} {M : MS} (h : Ms[q]? = some M) : (upTo g Ms q)[q]? = some M:=by
 have hlt:=(List.getElem?_eq_some_iff.1 h).1
 unfold upTo
 rw [List.getElem?_append_right (by rw [List.length_map,List.length_take];omega),List.length_map,List.length_take,List.getElem?_drop,Nat.min_eq_left (by omega),Nat.sub_self,Nat.add_zero,h]
theorem upTo_set (g : MS → MS) {Ms : List MS} {q : Nat} {M : MS} (h : Ms[q]? = some M) : (upTo g Ms q).set q (g M) = upTo g Ms (q + 1):=by
 obtain ⟨hlt,e⟩:=List.getElem?_eq_some_iff.1 h
 unfold upTo
 rw [List.set_append_right _ _ (by rw [List.length_map,List.length_take];omega),List.length_map,List.length_take,Nat.min_eq_left (by omega),Nat.sub_self,List.drop_eq_getElem_cons hlt,e,List.set_cons_zero,List.take_add_one,h]
 simp
theorem firstC_succ (F : MS → Int) {Ms : List MS} {q : Nat} {M : MS} (h : Ms[q]? = some M) : firstC F (Ms.take (q + 1)) = if firstC F (Ms.take q) = 0 then F M else firstC F (Ms.take q):=by
 unfold firstC
 rw [List.take_add_one,h]
 simp [List.foldl_append]
section
variable {w w' w0 : World} {l rs : List Res} {X : VX} {Ms : List MS} {wt : Int} {k m a : Nat} {M : MS}
theorem vall_f  {J : Nat → List Res} {g : MS → MS} {F : MS → Int} (h : VA w0 rs w (J 0) X Ms wt) (o : VOk X)
 (HT : ∀ (q : Nat) (M : MS) (m : Nat) (w1 : World),Ms[q]? = some M → X.ms[q]? = some m → VA w0 rs w1 (J q) X (upTo g Ms q) wt → Calls Tryz.prog 71 #[.pointer (some ⟨m,0,none⟩)] w1 fun e w' => e = .returned (.int .i64 (F M)) ∧ VA w0 rs w' (J (q + 1)) X (upTo g Ms (q + 1)) wt) :
 Calls Tryz.prog 70 #[.pointer (some ⟨X.vb,0,none⟩),.func (.func 71) #[] #[]] w fun e w' => e = .returned (.int .i64 (firstC F Ms)) ∧ VA w0 rs w' (J Ms.length) X (Ms.map g) wt:=by
 have hl:=h.len.1
 obtain ⟨c,hv,h1,h2,hb,hcell⟩:=h.shape o
 have k0 : w.cell? ⟨X.vb,0,none⟩ = some (.slice (some ⟨X.rb,0,none⟩) X.ms.length c):=hb.cell 0
 have HC:=hid fun (w1 : World) (q : Nat) (m : Nat) (hm : X.ms[q]? = some m) (h1 : VA w0 rs w1 (J q) X (upTo g Ms q) wt) => (show w1.cell? ⟨X.rb,q,none⟩ = some (.pointer (some ⟨m,0,none⟩)) from by
  obtain ⟨c2,hv2,_,_,hb2,hcell2⟩:=h1.shape o
  exact hcell2 q m hm)
 have HV : Hid (VA w0 rs w (J 0) X (upTo g Ms 0) wt):=hid (by rw [upTo_0];exact h)
 have HT':=hid HT
 have hsn:=@Lib.run_eql_slice_nil
 have hn8:=o.h8
 have HL:=hid hl
 obtain ⟨n,hn⟩ : ∃ n,X.ms.length = n:=⟨_,rfl⟩
 have HN:=hid hn
 rw [hn] at k0 hn8
 clear h hb hcell hv h1 h2 HT hl hn
 go_enter Tryz.func70,Tryz.ntmps70
 go_wp2_with fail
 clear k0
 go_loopw [5,23] (fun av iv wr => ∃ q : Nat,q ≤ n ∧ iv = .int .i64 (q : Int) ∧ av = .int .i64 (firstC F (Ms.take q)) ∧ Hid (VA w0 rs wr (J q) X (upTo g Ms q) wt)) (fun _ iv _ => n - (intOf iv).toNat)
 case atStart => exact ⟨0,by omega,rfl,rfl,HV⟩
 case round =>
  obtain ⟨q,hq,rfl,rfl,V⟩:=hrel
  clear HV
  by_cases hlt : q < n
  · have hd : decide ((q : Int) < (n : Int)) = true:=by simp;omega
    have hdn : decide (q < n) = true:=by simp;omega
    obtain ⟨m,hm⟩ : ∃ m,X.ms[q]? = some m:=⟨_,List.getElem?_eq_getElem (by have:=HN.out;omega)⟩
    obtain ⟨M,hM⟩ : ∃ M,Ms[q]? = some M:=⟨_,List.getElem?_eq_getElem (by have:=HN.out;have:=HL.out;omega)⟩
    have hc:=HC.out wr q m hm V.out
    have HQ:=hid (HT'.out q M m wr hM hm V.out)
    have HF:=hid (firstC_succ F hM)
    have hq8 : (q : Int) ≤ 8:=by omega
    generalize F M = fm at *
    generalize firstC F (Ms.take q) = fa at *
    clear hm hM V
    by_cases h0 : fa = 0
    · subst h0
      rw [if_pos rfl] at HF
      go_wp2_with (go_at_call 71;refine HQ.out.mono ?_;rintro e w5 ⟨rfl,v5⟩)
      go_roundw
      case rel => exact ⟨q + 1,by omega,by go_num,by rw [HF.out],hid v5⟩
      case measure => simp [intOf];omega
    · have u0 : (fa == 0) = false:=by simpa using h0
      rw [if_neg h0] at HF
      go_wp2_with (go_at_call 71;refine HQ.out.mono ?_;rintro e w5 ⟨rfl,v5⟩)
      go_roundw
      case rel => exact ⟨q + 1,by omega,by go_num,by rw [HF.out],hid v5⟩
      case measure => simp [intOf];omega
  · obtain rfl : q = n:=by omega
    have hd : decide ((q : Int) < (q : Int)) = false:=by simp
    have e1 : Ms.take q = Ms:=by rw [List.take_of_length_le (by have:=HN.out;have:=HL.out;omega)]
    have e2 : q = Ms.length:=by have:=HN.out;have:=HL.out;omega
    have V2 : Hid (VA w0 rs wr (J Ms.length) X (Ms.map g) wt):=hid (by have:=V.out;rw [e2,upTo_all] at this;exact this)
    rw [e1]
    clear hlt hq e1 e2 V
    go_wp2_with fail
    go_ret
    exact ⟨rfl,V2.out⟩
theorem vall_r {nb : Nat} {J : Nat → List Res} {g : MS → MS} {F : MS → Int} (h : VA w0 rs w (J 0) X Ms wt) (o : VOk X)
 (HT : ∀ (q : Nat) (M : MS) (m : Nat) (w1 : World),Ms[q]? = some M → X.ms[q]? = some m → VA w0 rs w1 (J q) X (upTo g Ms q) wt → Calls Tryz.prog 73 #[.pointer (some ⟨m,0,none⟩),.pointer (some ⟨nb,0,none⟩)] w1 fun e w' => e = .returned (.int .i64 (F M)) ∧ VA w0 rs w' (J (q + 1)) X (upTo g Ms (q + 1)) wt) :
 Calls Tryz.prog 70 #[.pointer (some ⟨X.vb,0,none⟩),.func (.func 73) #[] #[.pointer (some ⟨nb,0,none⟩)]] w fun e w' => e = .returned (.int .i64 (firstC F Ms)) ∧ VA w0 rs w' (J Ms.length) X (Ms.map g) wt:=by
 have hl:=h.len.1
 obtain ⟨c,hv,h1,h2,hb,hcell⟩:=h.shape o
 have k0 : w.cell? ⟨X.vb,0,none⟩ = some (.slice (some ⟨X.rb,0,none⟩) X.ms.length c):=hb.cell 0
 have HC:=hid fun (w1 : World) (q : Nat) (m : Nat) (hm : X.ms[q]? = some m) (h1 : VA w0 rs w1 (J q) X (upTo g Ms q) wt) => (show w1.cell? ⟨X.rb,q,none⟩ = some (.pointer (some ⟨m,0,none⟩)) from by
  obtain ⟨c2,hv2,_,_,hb2,hcell2⟩:=h1.shape o
  exact hcell2 q m hm)
 have HV : Hid (VA w0 rs w (J 0) X (upTo g Ms 0) wt):=hid (by rw [upTo_0];exact h)
 have HT':=hid HT
 have hsn:=@Lib.run_eql_slice_nil
 have hn8:=o.h8
 have HL:=hid hl
 obtain ⟨n,hn⟩ : ∃ n,X.ms.length = n:=⟨_,rfl⟩
 have HN:=hid hn
 rw [hn] at k0 hn8
 clear h hb hcell hv h1 h2 HT hl hn
 go_enter Tryz.func70,Tryz.ntmps70
 go_wp2_with fail
 clear k0
 go_loopw [5,23] (fun av iv wr => ∃ q : Nat,q ≤ n ∧ iv = .int .i64 (q : Int) ∧ av = .int .i64 (firstC F (Ms.take q)) ∧ Hid (VA w0 rs wr (J q) X (upTo g Ms q) wt)) (fun _ iv _ => n - (intOf iv).toNat)
 case atStart => exact ⟨0,by omega,rfl,rfl,HV⟩
 case round =>
  obtain ⟨q,hq,rfl,rfl,V⟩:=hrel
  clear HV
  by_cases hlt : q < n
  · have hd : decide ((q : Int) < (n : Int)) = true:=by simp;omega
    have hdn : decide (q < n) = true:=by simp;omega
    obtain ⟨m,hm⟩ : ∃ m,X.ms[q]? = some m:=⟨_,List.getElem?_eq_getElem (by have:=HN.out;omega)⟩
    obtain ⟨M,hM⟩ : ∃ M,Ms[q]? = some M:=⟨_,List.getElem?_eq_getElem (by have:=HN.out;have:=HL.out;omega)⟩
    have hc:=HC.out wr q m hm V.out
    have HQ:=hid (HT'.out q M m wr hM hm V.out)
    have HF:=hid (firstC_succ F hM)
    have hq8 : (q : Int) ≤ 8:=by omega
    generalize F M = fm at *
    generalize firstC F (Ms.take q) = fa at *
    clear hm hM V
    by_cases h0 : fa = 0
    · subst h0
      rw [if_pos rfl] at HF
      go_wp2_with (go_at_call 73;refine HQ.out.mono ?_;rintro e w5 ⟨rfl,v5⟩)
      go_roundw
      case rel => exact ⟨q + 1,by omega,by go_num,by rw [HF.out],hid v5⟩
      case measure => simp [intOf];omega
    · have u0 : (fa == 0) = false:=by simpa using h0
      rw [if_neg h0] at HF
      go_wp2_with (go_at_call 73;refine HQ.out.mono ?_;rintro e w5 ⟨rfl,v5⟩)
      go_roundw
      case rel => exact ⟨q + 1,by omega,by go_num,by rw [HF.out],hid v5⟩
      case measure => simp [intOf];omega
  · obtain rfl : q = n:=by omega
    have hd : decide ((q : Int) < (q : Int)) = false:=by simp
    have e1 : Ms.take q = Ms:=by rw [List.take_of_length_le (by have:=HN.out;have:=HL.out;omega)]
    have e2 : q = Ms.length:=by have:=HN.out;have:=HL.out;omega
    have V2 : Hid (VA w0 rs wr (J Ms.length) X (Ms.map g) wt):=hid (by have:=V.out;rw [e2,upTo_all] at this;exact this)
    rw [e1]
    clear hlt hq e1 e2 V
    go_wp2_with fail
    go_ret
    exact ⟨rfl,V2.out⟩
theorem vflush_any (h : VA w0 rs w l X Ms wt) (o : VOk X) (ok : ∀ M ∈ Ms,SysOk M.s) (ht : ∀ M ∈ Ms,M.s.T < 998900) :
 Calls Tryz.prog 38 #[.pointer (some ⟨X.vb,0,none⟩)] w fun e w' => e = .returned (.int .i64 (firstC MS.flushC Ms)) ∧ VA w0 rs w' l X (Ms.map MS.flushM) wt:=by
 have HA:=hid (vall_f (J:=fun _ => l) (g:=MS.flushM) (F:=MS.flushC) h o (fun q M m w1 hM hm hv => by
  have hmem:=List.mem_of_getElem? hM
  have:=vf_at hv (upTo_get _ hM) hm (ok M hmem) (ht M hmem)
  rw [upTo_set _ hM] at this
  exact this))
 clear h ok ht
 go_enter Tryz.func38,Tryz.ntmps38
 go_wp2_with (go_at_call 70;refine HA.out.mono ?_;rintro r w5 ⟨rfl,v5⟩)
 go_ret
 exact ⟨rfl,v5⟩
end
def rsN (Ms : List MS) : Int:=Ms.foldl (fun a M => IntKind.i64.wrap (a + (M.rs.2.1 : Int))) 0
theorem rsN_succ {Ms : List MS} {q : Nat} {M : MS} (h : Ms[q]? = some M) : rsN (Ms.take (q + 1)) = IntKind.i64.wrap (rsN (Ms.take q) + (M.rs.2.1 : Int)):=by
 unfold rsN
 rw [List.take_add_one,h]
 simp [List.foldl_append]
section
variable {w w' w0 : World} {l rs : List Res} {X : VX} {Ms : List MS} {wt : Int} {k m a : Nat} {M : MS}
theorem vs_at (h : VA w0 rs w l X Ms wt) (hk : Ms[k]? = some M) (hm : X.ms[k]? = some m) (ok : SysOk M.s) (ht : M.s.T + 2 * M.s.len (!M.c0) < 998800) :
 Calls Tryz.prog 74 #[.pointer (some ⟨m,0,none⟩)] w fun e w' => e = .returned (.tuple #[.int .i64 (M.rs.2.1 : Int),.int .i64 M.rs.2.2]) ∧ VA w0 rs w' l X (Ms.set k M.rs.1) wt:=by
 obtain ⟨m2,d,FF,l',em,ed,hh,hback⟩:=h.mir hk
 obtain rfl : m = m2:=Option.some.inj (hm.symm.trans em)
 refine (mresync_any hh ok ht).mono ?_
 rintro e w' ⟨rfl,FF',ev⟩
 exact ⟨rfl,hback _ _ _ ev⟩
theorem vrs1_any {nb : Nat} {t : Int} (h : VA w0 rs w (Res.blk nb [.int .i64 t] :: l) X Ms wt) (hk : Ms[k]? = some M) (hm : X.ms[k]? = some m) (ok : SysOk M.s) (ht : M.s.T + 2 * M.s.len (!M.c0) < 998800) :
 Calls Tryz.prog 73 #[.pointer (some ⟨m,0,none⟩),.pointer (some ⟨nb,0,none⟩)] w fun e w' => e = .returned (.int .i64 M.rs.2.2) ∧ VA w0 rs w' (Res.blk nb [.int .i64 (IntKind.i64.wrap (t + (M.rs.2.1 : Int)))] :: l) X (Ms.set k M.rs.1) wt:=by
 have HS:=hid (vs_at h hk hm ok ht)
 obtain ⟨d,hd⟩ : ∃ d : Int,(M.rs.2.1 : Int) = d:=⟨_,rfl⟩
 rw [hd] at HS ⊢
 obtain ⟨s,hs⟩ : ∃ s : Int,IntKind.i64.wrap (t + d) = s:=⟨_,rfl⟩
 have hadd : ∀ ty,binOp .add ty (.int .i64 t) (.int .i64 d) = pure (.int .i64 s):=fun ty => by
  show pure (Value.int .i64 (IntKind.i64.wrap (t + d))) = _
  rw [hs]
 rw [hs]
 generalize M.rs.2.2 = cc at *
 generalize Ms.set k M.rs.1 = Ms' at *
 clear h hk hm ok ht hd hs
 go_enter Tryz.func73,Tryz.ntmps73
 go_wp2_with (first
  | (go_at_call 74;refine HS.out.mono ?_;rintro r w5 ⟨rfl,v5⟩;have V5:=hid v5;have b5 : Blk w5 nb [.int .i64 t]:=v5.held.blkAt 0 rfl;have k5 : w5.cell? ⟨nb,0,none⟩ = some (.int .i64 t):=b5.cell 0;clear v5)
  | (refine wpList_put rfl _ _ _ rfl rfl (.int .i64 s) rfl rfl b5 (by simp) (by kernel_rfl) ?_;intro w7 f7 b7 hs7;simp only [aA,aB,Act.put,aC,aD,aE]))
 go_ret
 exact ⟨rfl,V5.out.ctx 0 rfl f7 (fun b hb => .inl hb) (Res.On.blk b7) (fun b hb => .inl hb)⟩
theorem vresync_any (h : VA w0 rs w l X Ms wt) (o : VOk X) (ok : ∀ M ∈ Ms,SysOk M.s) (ht : ∀ M ∈ Ms,M.s.T + 2 * M.s.len (!M.c0) < 998800) :
 Calls Tryz.prog 40 #[.pointer (some ⟨X.vb,0,none⟩)] w fun e w' => e = .returned (.tuple #[.int .i64 (rsN Ms),.int .i64 (firstC (fun M => M.rs.2.2) Ms)]) ∧ VA w0 rs w' l X (Ms.map fun M => M.rs.1) wt:=by
 have HA:=hid fun (w1 : World) (nb : Nat) (h1 : VA w0 rs w1 (Res.blk nb [.int .i64 0] :: l) X Ms wt) => vall_r (nb:=nb) (J:=fun q => Res.blk nb [.int .i64 (rsN (Ms.take q))] :: l) (g:=fun M => M.rs.1) (F:=fun M => M.rs.2.2) h1 o (fun q M m w1 hM hm hv => by
  have hmem:=List.mem_of_getElem? hM
  have:=vrs1_any hv (upTo_get _ hM) hm (ok M hmem) (ht M hmem)
  rw [upTo_set (fun M => M.rs.1) hM,← rsN_succ hM] at this
  exact this)
 have hE:=hid fun (o1 : Obj) (h1 : o1 = .cells #[.int .i64 0] 3) => (show VA w0 rs (w.alloc o1) (Res.blk w.heap.size [.int .i64 0] :: l) X Ms wt from by
  subst h1
  exact h.new ((Fr.refl [] w).alloc _) (Res.On.blk (Blk.alloc w [Value.int .i64 0] 3)) (fun b hb => by simp [Res.blk] at hb;omega))
 rw [List.take_length] at HA
 generalize rsN Ms = tot at *
 generalize firstC (fun M => M.rs.2.2) Ms = cc at *
 clear h ok ht
 go_enter Tryz.func40,Tryz.ntmps40
 go_wp2_with (go_at_call 70;refine (HA.out _ _ (hE.out _ rfl)).mono ?_;rintro r w5 ⟨rfl,v5⟩;have k5 : w5.cell? ⟨w.heap.size,0,none⟩ = some (.int .i64 tot):=(v5.held.blkAt 0 rfl).cell 0)
 go_ret2
 exact ⟨rfl,v5.less⟩
end
def dkC (n : Nat) (q : Nat × List Nat) : Res:=dk q.1 (newXD n) [] none q.2
def xkC (n : Nat) (q : Nat × XI) : List Res:=xps q.1 (newXD n) none q.2
theorem infDp : ∃ i z,Tryz.prog.info? 37 = some i ∧ i.zero = some z ∧ i.size = 1 ∧ i.bytes = 8 ∧ z.cells.size = 1:=⟨_,_,rfl,rfl,rfl,rfl,rfl⟩
theorem infXp : ∃ i z,Tryz.prog.info? 39 = some i ∧ i.zero = some z ∧ i.size = 1 ∧ i.bytes = 8 ∧ z.cells.size = 1:=⟨_,_,rfl,rfl,rfl,rfl,rfl⟩
theorem disks_perm {a b c : Res} (A B xs : List Res) : (a :: b :: c :: ((A ++ B) ++ xs)).Perm ([b,c] ++ ((A ++ [a]) ++ (B ++ xs))):=by
 have h1 : (a :: b :: c :: ((A ++ B) ++ xs)).Perm (b :: c :: a :: ((A ++ B) ++ xs)):=(List.Perm.swap b a _).trans (List.Perm.cons b (List.Perm.swap c a _))
 have h2 : (a :: ((A ++ B) ++ xs)).Perm ((A ++ [a]) ++ (B ++ xs)):=by
  rw [List.append_assoc,List.append_assoc]
  exact List.perm_middle.symm
 exact h1.trans (List.Perm.cons b (List.Perm.cons c h2))
theorem disks_any {w : World} (K n : Nat) (hK : K ≤ 40) (h1 : 1 ≤ n) (h2 : n ≤ 16384) :
 Calls Tryz.prog 4 #[.int .i64 (K : Int),.int .i64 (n : Int)] w fun e w' => ∃ (vd : Value) (Xd : Option Nat) (vx : Value) (Bx : Option Nat) (Fs : List (Nat × List Nat)) (Gs : List (Nat × XI)),e = .returned (.tuple #[vd,vx]) ∧ Fs.length = K ∧ Gs.length = K ∧
  Ev w [] w' ([Res.own 1 vd K (Fs.map fun q => pv (some q.1)) Xd,Res.own 1 vx K (Gs.map fun q => pv (some q.1)) Bx] ++ (Fs.map (dkC n) ++ Gs.flatMap (xkC n))):=by
 obtain ⟨i9,z9,hi9,hz9,hs9,hb9,hzc9⟩:=infDp
 have Hi:=hid hi9
 have Hz:=hid hz9
 have Hs:=hid hs9
 have Hb:=hid hb9
 have Hzc:=hid hzc9
 obtain ⟨i8,z8,hi8,hz8,hs8,hb8,hzc8⟩:=infXp
 have Xi:=hid hi8
 have Xz:=hid hz8
 have Xs:=hid hs8
 have Xb:=hid hb8
 have Xzc:=hid hzc8
 clear hi9 hz9 hs9 hb9 hzc9 hi8 hz8 hs8 hb8 hzc8
 have HN:=hid fun w1 : World => newp_ok (w:=w1) n h1 h2
 have HX:=hid fun w1 : World => xnew_ok (w:=w1) n h1 h2
 clear h1 h2
 go_enter Tryz.func4,Tryz.ntmps4
 go_wp2_with fail
 go_loopw [6,7,8] (fun dv xv iv wr => ∃ (i : Nat) (Xd Bx : Option Nat) (Fs : List (Nat × List Nat)) (Gs : List (Nat × XI)),i ≤ K ∧ iv = .int .i64 (i : Int) ∧ Fs.length = i ∧ Gs.length = i ∧ dv.oneCell' = true ∧ xv.oneCell' = true ∧
  Hid (Ev w [] wr ([Res.own 1 dv i (Fs.map fun q => pv (some q.1)) Xd,Res.own 1 xv i (Gs.map fun q => pv (some q.1)) Bx] ++ (Fs.map (dkC n) ++ Gs.flatMap (xkC n))))) (fun _ _ iv _ => K - (intOf iv).toNat)
 case atStart =>
  refine ⟨0,none,none,[],[],by omega,rfl,rfl,rfl,rfl,rfl,hid ?_⟩
  have e1:=((Ev.start w).new (Fr.refl [] w) (Res.On.own (Own.nil w 1)) (by simp [Res.own])).new (Fr.refl [] w) (Res.On.own (Own.nil w 1)) (by simp [Res.own])
  exact e1
 case round =>
  obtain ⟨i,Xd,Bx,Fs,Gs,hi,rfl,hFl,hGl,hd1,hx1,E⟩:=hrel
  by_cases hlt : i < K
  · have hdd : decide ((i : Int) < (K : Int)) = true:=by simp;omega
    have hdn : decide (i < K) = true:=by simp;omega
    have hi40 : (i : Int) ≤ 40:=by omega
    have HFl:=hid hFl
    have HGl:=hid hGl
    clear hFl hGl
    go_wp2_with (first
     | (go_at_call 21;refine (HN.out _).mono ?_;rintro e w5 ⟨d,F,rfl,r5,p5,f5,g5⟩;have E5:=hid (E.out.new f5 (dk_new r5 p5 []) g5);clear r5 p5 f5 g5 E HN)
     | (go_at_call 22;refine (HX.out _).mono ?_;rintro e w6 ⟨x,xi,rfl,ev6⟩;have E6:=hid (Ev.then _ [] (by rw [List.append_nil,List.append_nil];exact E5.out) ev6);clear ev6 E5 HX)
     | (refine wpList_buildSlice_r rfl _ 1 _ rfl 37 Tryz.underlying23 _ _ Hi.out Hz.out Hzc.out Hs.out (by decide) (by decide) (by decide) [.pointer (some ⟨d,0,none⟩)] rfl (by intro v hv;simp at hv;rcases hv with rfl;rfl) ?_
        intro w7 f7 hlt7 hb7
        have o7:=E6.out.held.ownAt 1 rfl
        have hz7:=w6.heap.size
        simp only [aA,aB,Act.put,aC,aD,aE])
     | (refine wpList_append_rc (m:=1) (n:=i) (news:=[.pointer (some ⟨d,0,none⟩)]) rfl _ _ _ rfl 37 _ _ 1 8 Tryz.underlying23 Hi.out Hz.out Hs.out Hb.out Hzc.out (by decide) rfl (o7.keep f7 (by simp)) rfl (rc_blk (n:=1) (xs:=[.pointer (some ⟨d,0,none⟩)]) hb7 rfl (by simp [maxLen])) (by intro u hu;simp at hu;rw [hu];rfl) (by unfold maxLen;omega) (by omega) ?_
        intro v8 w8 X8 ho8 f8 hX8
        have E8:=hid ((E6.out.step f7).at 1 rfl f8 (fun b hb => .inl hb) (Res.On.own ho8) (fun b hb => by
         rcases hX8 with rfl | ⟨b',rfl,hb'⟩
         · exact .inl hb
         · obtain rfl : b = b':=by simpa [Res.own] using hb
           exact .inr hb'))
        have hv8 : v8.oneCell' = true:=by obtain ⟨_,_,rfl⟩:=ho8.isSlice;rfl
        clear o7 hb7 f7 f8 ho8 hX8 E6
        simp only [aA,aB,Act.put,aC,aD,aE])
     | (refine wpList_buildSlice_r rfl _ 1 _ rfl 39 Tryz.underlying24 _ _ Xi.out Xz.out Xzc.out Xs.out (by decide) (by decide) (by decide) [.pointer (some ⟨x,0,none⟩)] rfl (by intro v hv;simp at hv;rcases hv with rfl;rfl) ?_
        intro w9 f9 hlt9 hb9
        have o9:=E8.out.held.ownAt 2 rfl
        simp only [aA,aB,Act.put,aC,aD,aE])
     | (refine wpList_append_rc (m:=1) (n:=i) (news:=[.pointer (some ⟨x,0,none⟩)]) rfl _ _ _ rfl 39 _ _ 1 8 Tryz.underlying24 Xi.out Xz.out Xs.out Xb.out Xzc.out (by decide) rfl (o9.keep f9 (by simp)) rfl (rc_blk (n:=1) (xs:=[.pointer (some ⟨x,0,none⟩)]) hb9 rfl (by simp [maxLen])) (by intro u hu;simp at hu;rw [hu];rfl) (by unfold maxLen;omega) (by omega) ?_
        intro v10 w10 X10 ho10 f10 hX10
        have E10:=hid ((E8.out.step f9).at 2 rfl f10 (fun b hb => .inl hb) (Res.On.own ho10) (fun b hb => by
         rcases hX10 with rfl | ⟨b',rfl,hb'⟩
         · exact .inl hb
         · obtain rfl : b = b':=by simpa [Res.own] using hb
           exact .inr hb'))
        have hv10 : v10.oneCell' = true:=by obtain ⟨_,_,rfl⟩:=ho10.isSlice;rfl
        clear o9 hb9 f9 f10 ho10 hX10 E8
        simp only [aA,aB,Act.put,aC,aD,aE]))
    go_roundw
    case rel =>
     refine ⟨i + 1,X8,X10,Fs ++ [(d,F)],Gs ++ [(x,xi)],by omega,by go_num,by simp [HFl.out],by simp [HGl.out],hv8,hv10,hid ?_⟩
     have e1:=E10.out
     rw [List.append_nil] at e1
     have e2:=Ev.perm e1 (disks_perm (Fs.map (dkC n)) (Gs.flatMap (xkC n)) (xps x (newXD n) none xi))
     simp only [List.map_append,List.flatMap_append,List.map_cons,List.map_nil,List.flatMap_cons,List.flatMap_nil,List.append_nil]
     exact e2
    case measure => simp [intOf];omega
  · obtain rfl : i = K:=by omega
    have hd : decide ((i : Int) < (i : Int)) = false:=by simp
    clear hlt hi
    go_wp2_with fail
    go_ret2
    exact ⟨_,Xd,_,Bx,Fs,Gs,rfl,hFl,hGl,E.out⟩
section
variable {w w' w0 : World} {l rs : List Res}
theorem Ev.headL {a b : List Res} (e : Ev w0 rs w (a ++ b)) : Ev w0 rs w a:=by
 induction b with
 | nil => simpa using e
 | cons r b ih => exact ih (Ev.less a b e)
theorem pair_up (n : Nat) : ∀ (k : Nat) (Fs : List (Nat × List Nat)) (l : List Res),Fs.length = 2 * k → Ev w0 rs w (l ++ Fs.map (dkC n)) → ∃ ss : List VS,ss.length = k ∧ dsOf ss = Fs.map (fun q => q.1) ∧ (∀ s ∈ ss,s.s = sy (newXD n) (newXD n) []) ∧ Ev w0 rs w (l ++ vssC ss)
 | 0,Fs,l,hl,e => by
   obtain rfl : Fs = []:=List.eq_nil_of_length_eq_zero hl
   exact ⟨[],rfl,rfl,by simp,e⟩
 | k + 1,[],l,hl,e => by simp at hl
 | k + 1,[q],l,hl,e => by simp at hl;omega
 | k + 1,q0 :: q1 :: Fs,l,hl,e => by
   have e1 : Ev w0 rs w ((Res.pows [] [] :: l) ++ (dkC n q0 :: dkC n q1 :: Fs.map (dkC n))):=e.new (Fr.refl _ _) (pows0 w) (fun b hb => by simp [Res.pows] at hb)
   have e2 : Ev w0 rs w ((l ++ vsC ⟨dd2 q0.1 q1.1,ff2 q0.2 q1.2,sy (newXD n) (newXD n) []⟩) ++ Fs.map (dkC n)):=by
    refine Ev.perm e1 ?_
    rw [List.append_assoc]
    exact List.perm_middle.symm
   obtain ⟨ss,h1,h2,h3,h4⟩:=pair_up n k Fs _ (by simp at hl;omega) e2
   refine ⟨⟨dd2 q0.1 q1.1,ff2 q0.2 q1.2,sy (newXD n) (newXD n) []⟩ :: ss,by simp [h1],?_,fun s hs => ?_,?_⟩
   · have : dsOf (⟨dd2 q0.1 q1.1,ff2 q0.2 q1.2,sy (newXD n) (newXD n) []⟩ :: ss) = q0.1 :: q1.1 :: dsOf ss:=rfl
     rw [this,h2]
     rfl
   · rcases List.mem_cons.1 hs with rfl | hs
     · rfl
     · exact h3 s hs
   · rw [List.append_assoc] at h4
     exact h4
end
section
variable {w w' w0 : World} {l rs : List Res} {ss : List VS} {v : Value} {B i0 e : Nat}
theorem mkall (mf : Sys → MS) (ev : Ev w0 rs w (l ++ vssC ss)) (hi : l[i0]? = some (Res.own 1 v (dsOf ss).length (((dsOf ss).map some).map pv) (some B))) (h1 : 1 ≤ ss.length) (h8 : ss.length ≤ 8)
 (hok : ∀ s ∈ ss,SysOk (mf s.s).s ∧ (mf s.s).s.len false = e + 1) (he : 1 ≤ e)
 (HT : ∀ s ∈ ss,∀ (l1 : List Res) (w1 : World),Held w1 (l1 ++ vsC s) → Calls Tryz.prog 24 #[.pointer (some ⟨s.d false,0,none⟩),.pointer (some ⟨s.d true,0,none⟩)] w1 fun e w' => ∃ m FF',e = .returned (.tuple #[.pointer (some ⟨m,0,none⟩),.int .i64 0]) ∧ Ev w1 (l1 ++ vsC s) w' (l1 ++ mirC [] m s.d FF' (mf s.s))) :
 Calls Tryz.prog 5 #[v] w fun r w' => ∃ X : VX,r = .returned (.tuple #[.pointer (some ⟨X.vb,0,none⟩),.int .i64 0]) ∧ X.ms.length = ss.length ∧ X.ds = ss.map VS.d ∧ X.e = e ∧ VA w0 rs w' l X (ss.map fun s => mf s.s) 0:=by
 have HO:=hid (of_Make mf ev.held hi h1 h8 (e + 1) hok (by omega) HT)
 rw [show (((e + 1 : Nat) : Int)) - 1 = (e : Int) by omega] at HO
 have EV:=hid ev
 have hh:=ev.held.ownAt i0 (by rw [List.getElem?_append_left (List.getElem?_eq_some_iff.1 hi).1];exact hi)
 obtain ⟨ad,c,rfl⟩:=hh.isSlice
 clear ev hi hok HT hh
 go_enter Tryz.func5,Tryz.ntmps5
 go_wp2_with (go_at_call 23;refine HO.out.mono ?_;rintro r w5 ⟨vb,rb,v',ps,rfl,hps,v5⟩)
 go_ret2
 have e1 : ps.map VP.d = ss.map VS.d:=by
  have:=congrArg (List.map Prod.fst) hps
  simpa [Function.comp_def] using this
 have e2 : ps.map VP.M = ss.map fun s => mf s.s:=by
  have:=congrArg (List.map Prod.snd) hps
  simpa [Function.comp_def] using this
 have e3:=VA.made EV.out v5
 refine ⟨⟨vb,rb,v',ps.map VP.m,ps.map VP.d,e⟩,rfl,?_,e1,rfl,?_⟩
 · have:=congrArg List.length hps
   simpa using this
 · rw [← e2]
   exact e3
end
theorem fill8_any (w : World) (c : UInt8) : Calls Tryz.prog 33 #[.int .u8 c.toNat] w fun e w' => e = .returned (.string (fill7 c)) ∧ Fr [] w w':=by
 obtain ⟨i5,hi5,hz5,hs5,hb5⟩:=inf5
 have Hi:=hid hi5
 have Hz:=hid hz5
 have Hs:=hid hs5
 have Hb:=hid hb5
 clear hi5 hz5 hs5 hb5
 go_enter Tryz.func33,Tryz.ntmps33
 go_wp2_with (refine wpList_make rfl _ _ _ rfl 512 512 .i64 .i64 rfl rfl 5 _ _ (bt 0) 1 1 Tryz.underlying119 Hi.out Hz.out Hs.out Hb.out rfl (by decide) (Nat.le_refl _) (by decide) (by decide) ?_;intro hb1;simp only [aA,aB,Act.put,aC,aD,aE])
 go_loopw [4] (fun i wr => ∃ m : Nat,m ≤ 512 ∧ i = .int .i64 m ∧ Blk wr w.heap.size (List.replicate m (bt c) ++ List.replicate (512 - m) (bt 0)) ∧ Fr [] w wr) (fun i _ => 512 - (intOf i).toNat)
 case atStart => exact ⟨0,by omega,rfl,by simpa using hb1,(Fr.refl [] w).alloc _⟩
 case round =>
  obtain ⟨m,hm,rfl,hb,f⟩:=hrel
  clear hb1
  by_cases hlt : m < 512
  · have hcm : wr.cell? ⟨w.heap.size,m,none⟩ = some (bt 0):=by
     rw [hb.cell,List.getElem?_append_right (by simp),List.getElem?_replicate_of_lt (by simp;omega)]
    have hf:=hb.free m (by simp;omega)
    go_wp2
    go_roundw
    case rel =>
     refine ⟨m + 1,by omega,by go_num,?_,f.setCell (.inr (Nat.le_refl _)) _⟩
     have h3:=hb.set m (bt c)
     rw [List.set_append_right _ _ (by simp)] at h3
     have e : (List.replicate (512 - m) (bt 0)).set (m - (List.replicate m (bt c)).length) (bt c) = bt c :: List.replicate (512 - (m + 1)) (bt 0):=by
      obtain ⟨k,hk⟩ : ∃ k,512 - m = k + 1:=⟨511 - m,by omega⟩
      have hk2 : 512 - (m + 1) = k:=by omega
      rw [List.length_replicate,Nat.sub_self,hk,hk2,List.replicate_succ]
      rfl
     rw [e] at h3
     have e2 : List.replicate (m + 1) (bt c) ++ List.replicate (512 - (m + 1)) (bt 0) = List.replicate m (bt c) ++ (bt c :: List.replicate (512 - (m + 1)) (bt 0)):=by
      rw [List.replicate_succ']
      simp
     rw [e2]
     exact h3
    case measure => simp [intOf];omega
  · obtain rfl : m = 512:=by omega
    have hb2 : Blk wr w.heap.size (bv (List.replicate 512 c)):=by
     have e : List.replicate (512 - 512) (bt 0) = []:=rfl
     rw [e,List.append_nil] at hb
     rw [bv_replicate]
     exact hb
    clear hb
    have HL:=hid (show (List.replicate 512 c).length = 512 from List.length_replicate)
    have HV:=hid (show ((bv (List.replicate 512 c)).drop 0).take (List.replicate 512 c).length = bv (List.replicate 512 c) by rw [List.drop_zero,← bv_length,List.take_length])
    have HE:=hid (show fill7 c = ⟨(List.replicate 512 c).toArray⟩ from rfl)
    generalize List.replicate 512 c = fl7 at *
    go_wp2_with (refine wpList_string_of_bytes rfl _ _ 5 _ rfl 512 512 rfl hb2 fl7 HL.out HV.out Tryz.underlying119 Tryz.underlying5 Tryz.underlying9 ?_;simp only [aA,aB,Act.put,aC,aD,aE])
    go_ret
    rw [HE.out]
    exact ⟨rfl,f⟩
section
variable {w w' w0 : World}
theorem of_dup {v : Value} {n : Nat} {xs : List (Option Nat)} {B K : Nat} (hrc : Rc w 1 v n (xs.map pv) (some B)) (hl : xs.length = n) (hpl : ∀ x ∈ xs,∀ b,x = some b → Pln w b) (h2 : 2 ≤ n) (h16 : n ≤ 16) (hm : n % 2 = 0) (hd : dupAt xs n) :
 Calls Tryz.prog 23 #[v,.func (.func K) #[] #[]] w fun e w' => e = .returned (.tuple #[.pointer none,.int .i64 3]) ∧ Fr [] w w':=by
 have TW:=hid fun (w1 : World) (f : Fr [] w w1) => twD_any (w:=w1) (v:=v) (xs:=xs) (LB:=some B) (by rw [hl];exact hrc.keep f (by simp)) (fun x hx b hb => f.plain b (hpl x hx b hb)) (by omega)
 rw [hl] at TW
 obtain ⟨ad,c,rfl⟩:=hrc.isSlice
 have HD:=hid hd
 have a1 : decide ((n : Int) < 2) = false:=by simp;omega
 have a2 : decide ((16 : Int) < (n : Int)) = false:=by simp;omega
 have a3 : (n : Int).tmod 2 = 0:=by rw [Int.tmod_eq_emod_of_nonneg (by omega)];omega
 have a4 : decide (n < 2) = false:=by simp;omega
 have a5 : decide (16 < n) = false:=by simp;omega
 clear hrc hl hpl hd hm h2
 go_enter Tryz.func23,Tryz.ntmps23
 go_wp2_with fail
 obtain ⟨w1,hw1⟩ : ∃ w1,((w.alloc (.cells #[Value.func (.func K) #[] #[]] 61)).alloc (.cells #[Value.pointer none] 27)).alloc (.cells #[Value.int .i64 0] 28) = w1:=⟨_,rfl⟩
 obtain ⟨c3,hc3⟩ : ∃ c3,w.heap.size = c3:=⟨_,rfl⟩
 have F1:=hid (show Fr [] w w1 by rw [← hw1];exact (((Fr.refl [] w).alloc _).alloc _).alloc _)
 rw [hw1]
 have E1:=hid (show Ev w [] w1 [Res.blk (w.heap.size + 1 + 1) [.int .i64 0],Res.blk (w.heap.size + 1) [.pointer none],Res.blk w.heap.size [.func (.func K) #[] #[]]] by
  have g1:=(Ev.start w).new ((Fr.refl [] w).alloc _) (Res.On.blk (Blk.alloc w [Value.func (.func K) #[] #[]] 61)) (by simp [Res.blk])
  have g2:=g1.new ((Fr.refl [] _).alloc _) (Res.On.blk (Blk.alloc _ [Value.pointer none] 27)) (by simp [Res.blk])
  have g3:=g2.new ((Fr.refl [] _).alloc _) (Res.On.blk (Blk.alloc _ [Value.int .i64 0] 28)) (by simp [Res.blk])
  rw [← hw1]
  simpa [World.size_alloc] using g3)
 have TW1:=hid (TW.out w1 F1.out)
 obtain ⟨c4,hc4⟩ : ∃ c4,c3 + 1 = c4:=⟨_,rfl⟩
 obtain ⟨c5,hc5⟩ : ∃ c5,c4 + 1 = c5:=⟨_,rfl⟩
 have hz1 : w1.heap.size = c5 + 1:=by rw [← hw1,← hc5,← hc4,← hc3];simp
 rw [hc3,hc4,hc5]
 rw [hc3,hc4,hc5] at E1
 clear hw1 TW
 go_wp2_with (first
  | (go_at_call 49;refine TW1.out.mono ?_;rintro e w6 ⟨b,rfl,hb,f6⟩;have hbt : b = true:=hb.2 HD.out;subst hbt;have E6:=hid (E1.out.step f6);have b4 : Blk w6 c4 [.pointer none]:=E6.out.held.blkAt 1 rfl;clear hb TW1 f6)
  | (refine wpList_put rfl _ _ _ rfl rfl (.pointer none) rfl rfl b4 (by simp) (by kernel_rfl) ?_;intro w7 f7 b7 hs7;have E7:=hid (E6.out.at 1 rfl f7 (fun b hb => .inl hb) (Res.On.blk b7) (fun b hb => .inl hb));have b5 : Blk w7 c5 [.int .i64 0]:=E7.out.held.blkAt 0 rfl;clear b4;simp only [aA,aB,Act.put,aC,aD,aE])
  | (refine wpList_put rfl _ _ _ rfl rfl (.int .i64 3) rfl rfl b5 (by simp) (by kernel_rfl) ?_;intro w8 f8 b8 hs8;have E8:=hid (E7.out.at 0 rfl f8 (fun b hb => .inl hb) (Res.On.blk b8) (fun b hb => .inl hb));clear b5;simp only [aA,aB,Act.put,aC,aD,aE]))
 have b4' : Blk w8 c4 [.pointer none]:=E8.out.held.blkAt 1 rfl
 refine ⟨rfl,_,results_cell_2 rfl _ _ rfl rfl (b4'.cell 0) (b8.cell 0) _ Tryz.underlying27 rfl _ Tryz.underlying28 rfl,rfl,E8.out.nil⟩
end
attribute [local go_sem] Oper.semAt_some
def OfF (w : World) (c3 c4 c5 c6 : Nat) (tv : Value) (bad : List Nat) (k : Nat) (W : World) : Prop :=
 k = 0 ∧ Ev w [] W (ofH c3 c4 c5 c6 tv (.slice none 0 0) [] none) ∧ ∀ b ∈ feetOf (ofH c3 c4 c5 c6 tv (.slice none 0 0) [] none),b ∉ bad
def OfX (w : World) (c4 c5 : Nat) (c : Int) (bad : List Nat) (W : World) : Prop :=
 Ev w [] W [Res.blk c5 [.int .i64 c],Res.blk c4 [.pointer none]] ∧ c4 ∉ bad ∧ c5 ∉ bad
theorem OfF.keep {w A B : World} {c3 c4 c5 c6 k : Nat} {tv : Value} {bad S : List Nat} (h : OfF w c3 c4 c5 c6 tv bad k A) (f : Fr S A B) (hS : ∀ b ∈ S,w.heap.size ≤ b ∧ b ∈ bad) : OfF w c3 c4 c5 c6 tv bad k B :=
 ⟨h.1,Ev.skip h.2.1 f (fun b hb => ⟨(hS b hb).1,fun hf => h.2.2 b hf (hS b hb).2⟩),h.2.2⟩
theorem OfX.keep {w A B : World} {c4 c5 : Nat} {c : Int} {bad S : List Nat} (h : OfX w c4 c5 c bad A) (f : Fr S A B) (hS : ∀ b ∈ S,w.heap.size ≤ b ∧ b ∈ bad) : OfX w c4 c5 c bad B :=
 ⟨Ev.skip h.1 f (fun b hb => ⟨(hS b hb).1,fun hf => by
  simp [feetOf,Res.blk] at hf
  rcases hf with rfl | rfl
  · exact h.2.2 (hS _ hb).2
  · exact h.2.1 (hS _ hb).2⟩),h.2⟩
section
variable {w w' w0 : World}
theorem mkall_dup {v : Value} {n : Nat} {xs : List (Option Nat)} {B : Nat} (hrc : Rc w 1 v n (xs.map pv) (some B)) (hl : xs.length = n) (hpl : ∀ x ∈ xs,∀ b,x = some b → Pln w b) (h2 : 2 ≤ n) (h16 : n ≤ 16) (hm : n % 2 = 0) (hd : dupAt xs n) :
 Calls Tryz.prog 5 #[v] w fun e w' => e = .returned (.tuple #[.pointer none,.int .i64 3]) ∧ Fr [] w w':=by
 have HO:=hid (of_dup (K:=24) hrc hl hpl h2 h16 hm hd)
 obtain ⟨ad,c,rfl⟩:=hrc.isSlice
 clear hrc hpl hd hl
 go_enter Tryz.func5,Tryz.ntmps5
 go_wp2_with (go_at_call 23;refine HO.out.mono ?_;rintro r w5 ⟨rfl,f5⟩)
 go_ret2
 exact ⟨rfl,f5⟩
end
end Go.Proofs.YtgafefecookgaaaGreat
namespace Go.Proofs.YtgafefecookgaaaGreat
open Go Go.Xr Go.RowKit
def newM (e : Nat) : MS:=⟨(sy (newXD (e + 1)) (newXD (e + 1)) []).made,true,true,1⟩
theorem newM_ok (e : Nat) (he : e + 1 ≤ 16384) : SysOk (newM e).s ∧ (newM e).s.T ≤ 8 ∧ (newM e).s.len false = e + 1 ∧ Snd (List.replicate e Zs) (newM e):=by
 have hok : SysOk (sy (newXD (e + 1)) (newXD (e + 1)) []):=sy_ok (mt_newXD_good (by omega) he) (mt_newXD_good (by omega) he) []
 refine ⟨(made_stp _).ok hok,(made_stp _).T hok,?_,snd_made e []⟩
 have:=(made_stp (sy (newXD (e + 1)) (newXD (e + 1)) [])).len hok false
 rw [(sy_len (e + 1) (e + 1) []).1] at this
 exact this
section
variable {w w' w0 : World} {l rs : List Res} {ss : List VS} {v : Value} {B i0 e n k : Nat} {X : VX} {Ms : List MS} {wt : Int}
theorem disks_ss {a b : Res} {Fs : List (Nat × List Nat)} {Gs : List (Nat × XI)} (E : Ev w0 rs w ([a,b] ++ (Fs.map (dkC n) ++ Gs.flatMap (xkC n)))) (hl : Fs.length = 2 * k) :
 ∃ ss : List VS,ss.length = k ∧ dsOf ss = Fs.map (fun q => q.1) ∧ (∀ s ∈ ss,s.s = sy (newXD n) (newXD n) []) ∧ Ev w0 rs w ([a,b] ++ vssC ss):=by
 rw [← List.append_assoc] at E
 exact pair_up n k Fs [a,b] hl (Ev.headL E)
theorem disks_row {Xd : Option Nat} {Fs : List (Nat × List Nat)} (h : Xr.Own w 1 v k (Fs.map fun q => pv (some q.1)) Xd) (hl : Fs.length = k) (hk : 0 < k) (hs : dsOf ss = Fs.map (fun q => q.1)) :
 ∃ B,Xd = some B ∧ Res.own 1 v k (Fs.map fun q => pv (some q.1)) Xd = Res.own 1 v (dsOf ss).length (((dsOf ss).map some).map pv) (some B):=by
 rcases h.shape with ⟨h0,_⟩ | ⟨b,_,h0,_⟩
 · omega
 · refine ⟨b,h0,?_⟩
   rw [h0,hs,List.length_map,hl,List.map_map,List.map_map]
   rfl
theorem mkall_new (ev : Ev w0 rs w (l ++ vssC ss)) (hi : l[i0]? = some (Res.own 1 v (dsOf ss).length (((dsOf ss).map some).map pv) (some B))) (h1 : 1 ≤ ss.length) (h8 : ss.length ≤ 8)
 (hs : ∀ s ∈ ss,s.s = sy (newXD (e + 1)) (newXD (e + 1)) []) (he : 1 ≤ e) (he2 : e + 1 ≤ 16384) :
 Calls Tryz.prog 5 #[v] w fun r w' => ∃ X : VX,r = .returned (.tuple #[.pointer (some ⟨X.vb,0,none⟩),.int .i64 0]) ∧ VOk X ∧ X.ms.length = ss.length ∧ X.ds = ss.map VS.d ∧ X.e = e ∧ VA w0 rs w' l X (List.replicate ss.length (newM e)) 0:=by
 obtain ⟨n1,n2,n3,n4⟩:=newM_ok e he2
 have hok : SysOk (sy (newXD (e + 1)) (newXD (e + 1)) []):=sy_ok (mt_newXD_good (by omega) he2) (mt_newXD_good (by omega) he2) []
 have hlen:=sy_len (e + 1) (e + 1) []
 refine (mkall (e:=e) (fun s => ⟨s.made,true,true,1⟩) ev hi h1 h8 (fun s h => by rw [hs s h];exact ⟨n1,n3⟩) he (fun s h l1 w1 hh => ?_)).mono ?_
 · have h2:=hs s h
   have:=make_ok (pbs:=[]) (s:=s.s) (d:=s.d) (FF:=s.FF) (l:=l1) hh (by rw [h2];exact hok) (by rw [h2,sy_T];decide) (by rw [h2,hlen.1,hlen.2]) (by rw [h2,hlen.2];omega) (by rw [h2];rfl) (by rw [h2];rfl)
   exact this
 · rintro r w' ⟨X,rfl,x1,x2,x3,va⟩
   refine ⟨X,rfl,⟨by omega,by omega,by omega⟩,x1,x2,x3,?_⟩
   have e1 : (ss.map fun s => (⟨s.s.made,true,true,1⟩ : MS)) = List.replicate ss.length (newM e):=by
    refine List.ext_getElem (by simp) fun j h3 h4 => ?_
    rw [List.getElem_map,List.getElem_replicate,hs _ (List.getElem_mem _)]
    rfl
   rw [e1] at va
   exact va
theorem VA.pln (h : VA w0 rs w l X Ms wt) {d : Bool → Nat} (hd : X.ds[k]? = some d) (b : Bool) : Pln w (d b):=by
 have hk : k < Ms.length:=by rw [h.len.1,← h.len.2];exact (List.getElem?_eq_some_iff.1 hd).1
 obtain ⟨m,d2,FF,l',em,ed,hh,_⟩:=h.mir (List.getElem?_eq_getElem hk)
 obtain rfl : d = d2:=Option.some.inj (hd.symm.trans ed)
 have h2 : Held w (sysC [] Ms[k].s d FF):=Held.part (l' ++ [mirR m d Ms[k]]) [] (by rw [List.append_nil];exact mir_sys hh)
 cases b
 · exact (h2.at 1 rfl).2
 · exact (h2.at 2 rfl).2
theorem valive_any (w : World) : Calls Tryz.prog 20 #[] w fun e w' => e = .returned (.bool true) ∧ Fr [] w w':=by
 obtain ⟨i9,z9,hi9,hz9,hs9,hb9,hzc9⟩:=infDp
 have Hi:=hid hi9
 have Hz:=hid hz9
 have Hs:=hid hs9
 have Hzc:=hid hzc9
 have hF:=hid fun w1 : World => (show Calls Tryz.prog 33 #[.int .u8 120] w1 fun e w' => e = .returned (.string (fill7 120)) ∧ Fr [] w1 w' from fill8_any w1 120)
 have hSz:=fill7_size 120
 obtain ⟨n1,n2,n3,n4⟩:=newM_ok 3 (by decide)
 obtain ⟨q1,q2,q3,_⟩:=snd_wr n4 (show 1 < (List.replicate 3 Zs).length by decide) hSz
 have HD:=hid (disks_any (w:=w) 4 4 (by decide) (by decide) (by decide))
 have HM:=hid fun (w1 : World) (ss : List VS) (v vx : Value) (B : Nat) (r2 : Res) (ev : Ev w [] w1 ([Res.own 1 v (dsOf ss).length (((dsOf ss).map some).map pv) (some B),r2] ++ vssC ss)) (hl : ss.length = 2) (hs : ∀ s ∈ ss,s.s = sy (newXD 4) (newXD 4) []) => mkall_new (e:=3) (i0:=0) ev rfl (by omega) (by omega) hs (by decide) (by decide)
 have HW:=hid fun (w1 : World) (l : List Res) (X : VX) (o : VOk X) (hn : X.ms.length = 2) (he : X.e = 3) (h : VA w [] w1 l X (List.replicate 2 (newM 3)) 0) => vwrite_in (k:=1) (a:=1) h o 3 (fill7 120) (by rw [hn,he];rfl) (by rw [hn,he];rfl) (by rw [hn,he];rfl) (show (List.replicate 2 (newM 3))[1]? = some (newM 3) from rfl) n1 (by omega) (by rw [hSz];decide) (by decide) (by decide)
 rw [show ((1 : Nat) : Int) = 1 from rfl] at HW q1
 rw [q1] at HW
 have HL:=hid fun (w1 : World) (l : List Res) (X : VX) (o : VOk X) (hn : X.ms.length = 2) (he : X.e = 3) (Ms : List MS) (h : VA w [] w1 l X Ms 0) => (show Calls Tryz.prog 17 #[.pointer (some ⟨X.vb,0,none⟩)] w1 fun r w' => r = .returned (.int .i64 6) ∧ Fr [] w1 w' from by have:=vlen_v h o;rw [hn,he] at this;exact this)
 have HP:=hid fun (w1 : World) (l : List Res) (X : VX) (o : VOk X) (hn : X.ms.length = 2) (he : X.e = 3) (Ms : List MS) (h : VA w [] w1 l X Ms 0) => (show Calls Tryz.prog 42 #[.pointer (some ⟨X.vb,0,none⟩),.int .i64 5] w1 fun r w' => r = .returned (.tuple #[.int .i64 1,.int .i64 2,.int .i64 0]) ∧ Fr [] w1 w' from by have:=vplace_v h o 5;rw [hn,he] at this;exact this)
 have HI:=hid fun (w1 : World) (l : List Res) (X : VX) (o : VOk X) (hn : X.ms.length = 2) (he : X.e = 3) (Ms : List MS) (h : VA w [] w1 l X Ms 0) => (show Calls Tryz.prog 44 #[.pointer (some ⟨X.vb,0,none⟩),.int .i64 1,.int .i64 2] w1 fun r w' => r = .returned (.tuple #[.int .i64 5,.int .i64 0]) ∧ w' = w1 from by have:=vindex_v h o 1 2;rw [hn,he] at this;exact this)
 generalize fill7 120 = S at *
 clear hi9 hz9 hs9 hb9 hzc9 n1 n2 n3 n4 q1 q2 q3 hSz
 go_enter Tryz.func20,Tryz.ntmps20
 go_wp2_with (go_at_call 4;refine HD.out.mono ?_;rintro e w1 ⟨vd,Xd,vx,Bx,Fs,Gs,rfl,hFl,hGl,ev1⟩;have nst:=hid trivial;revert nst)
 intro _
 obtain ⟨ss,s1,s2,s3,ev2⟩:=disks_ss ev1 (k:=2) hFl
 obtain ⟨B,rfl,erow⟩:=disks_row (ss:=ss) (ev2.held.ownAt 0 rfl) hFl (by decide) s2
 rw [erow] at ev2
 have HMk:=hid (HM.out w1 ss vd vx B _ ev2 s1 s3)
 rw [s1] at HMk
 obtain ⟨p0,p1,rfl⟩ : ∃ p0 p1,ss = [p0,p1]:=by
  match ss,s1 with
  | [p0,p1],_ => exact ⟨p0,p1,rfl⟩
 obtain ⟨cd,rfl⟩ : ∃ cd,vd = .slice (some ⟨B,0,none⟩) 4 cd:=by
  rcases (ev2.held.ownAt 0 rfl).shape with ⟨_,_,_,h0⟩ | ⟨b,c,h0,h1,_⟩
  · cases h0
  · cases h0
    exact ⟨c,h1⟩
 have HR:=hid fun (w2 : World) (h : Xr.Own w2 1 (.slice (some ⟨B,0,none⟩) 4 cd) (dsOf [p0,p1]).length (((dsOf [p0,p1]).map some).map pv) (some B)) => (show w2.cell? ⟨B,0,none⟩ = some (.pointer (some ⟨p0.d false,0,none⟩)) ∧ w2.cell? ⟨B,1,none⟩ = some (.pointer (some ⟨p0.d true,0,none⟩)) ∧ w2.cell? ⟨B,2,none⟩ = some (.pointer (some ⟨p1.d false,0,none⟩)) from by
  obtain ⟨b,off,c2,hB,hv2,_,_,_,h4⟩:=(h.rd.rc).some (by simp [dsOf,dsP])
  obtain ⟨⟨rfl,rfl⟩,_⟩ : (B = b ∧ 0 = off) ∧ cd = c2:=by simpa [dsOf,dsP] using hv2
  have g0:=h4 0 (by simp [dsOf,dsP])
  have g1:=h4 1 (by simp [dsOf,dsP])
  have g2:=h4 2 (by simp [dsOf,dsP])
  exact ⟨g0,g1,g2⟩)
 clear HM ev1 ev2 erow s1 s2 s3 hFl hGl HD
 go_wp2_with (first
  | (go_at_call 5;refine HMk.out.mono ?_;rintro r w2 ⟨X,rfl,o2,x1,x2,x3,va2⟩;have V2:=hid va2;have hl2:=hid (HL.out _ _ _ o2 x1 x3 _ va2);have O2:=hid o2;have X1:=hid x1;have X2:=hid x2;have X3:=hid x3;clear va2 HMk HL o2 x1 x2 x3)
  | (go_at_call 17;refine hl2.out.mono ?_;rintro r w3 ⟨rfl,f3⟩;have V3:=hid (V2.out.step f3);have hp3:=hid (HP.out _ _ _ O2.out X1.out X3.out _ V3.out);clear f3 hl2 HP V2)
  | (go_at_call 42;refine hp3.out.mono ?_;rintro r w4 ⟨rfl,f4⟩;have V4:=hid (V3.out.step f4);have hi4:=hid (HI.out _ _ _ O2.out X1.out X3.out _ V4.out);clear f4 hp3 HI V3)
  | (go_at_call 44;refine hi4.out.mono ?_;rintro r w5 ⟨rfl,hw⟩;subst hw;clear hi4))
 have V5:=hid (V4.out.step ((Fr.refl [] w5).drew))
 have hs5:=HR.out _ (V5.out.held.ownAt 0 rfl)
 refine wp_region_D (fun w' => w'.cell? ⟨B,0,none⟩ = some (.pointer (some ⟨p0.d false,0,none⟩)) ∧ w'.cell? ⟨B,1,none⟩ = some (.pointer (some ⟨p0.d true,0,none⟩)) ∧ w'.cell? ⟨B,2,none⟩ = some (.pointer (some ⟨p1.d false,0,none⟩))) false [] (by kernel_rfl) ?_
 refine WD.pure [0,1,2,3,4,5,6,7,8,9,10,11] (by kernel_rfl) hs5 ?_
 simp only [pick,aF,aG,aI,aJ,aK]
 repeat (first | (refine quiet_load_1R (by rfl) _ _ rfl rfl (.pointer (some ⟨p0.d false,0,none⟩)) (fun w0 h => h.1) _ Tryz.underlying37 rfl ?_;simp only [aA,aB,Act.put,aC,aD,aE]) | (refine quiet_load_1R (by rfl) _ _ rfl rfl (.pointer (some ⟨p0.d true,0,none⟩)) (fun w0 h => h.2.1) _ Tryz.underlying37 rfl ?_;simp only [aA,aB,Act.put,aC,aD,aE]) | (refine quiet_load_1R (by rfl) _ _ rfl rfl (.pointer (some ⟨p1.d false,0,none⟩)) (fun w0 h => h.2.2) _ Tryz.underlying37 rfl ?_;simp only [aA,aB,Act.put,aC,aD,aE]) | go_big_quiet_step (fail))
 refine wpQuiet_nil ?_
 refine WD.eff 12 (by kernel_rfl) ?_
 simp only [pick,aF,aG,aI,aJ,aK]
 go_wp2_with (refine wpList_buildSlice_r rfl _ 4 _ rfl 37 Tryz.underlying23 _ _ Hi.out Hz.out Hzc.out Hs.out (by decide) (by decide) (by decide) [.pointer (some ⟨p0.d false,0,none⟩),.pointer (some ⟨p0.d true,0,none⟩),.pointer (some ⟨p0.d false,0,none⟩),.pointer (some ⟨p1.d false,0,none⟩)] rfl (by intro v hv;simp at hv;rcases hv with rfl | rfl | rfl | rfl <;> rfl) ?_;intro w7 f7 hlt7 hb7;simp only [aA,aB,Act.put,aC,aD,aE])
 have V7:=hid (V5.out.step f7)
 have hs7:=HR.out _ (V7.out.held.ownAt 0 rfl)
 have hdup:=hid (mkall_dup (xs:=[some (p0.d false),some (p0.d true),some (p0.d false),some (p1.d false)]) (n:=4) (rc_blk hb7 rfl (by decide)) rfl (fun x hx b hb => by
  have g0 : X.ds[0]? = some p0.d:=by rw [X2.out];rfl
  have g1 : X.ds[1]? = some p1.d:=by rw [X2.out];rfl
  simp at hx
  rcases hx with rfl | rfl | rfl | rfl
  all_goals
   cases hb
   first
    | exact V7.out.pln g0 false
    | exact V7.out.pln g0 true
    | exact V7.out.pln g1 false) (by decide) (by decide) (by decide) ⟨2,by decide,p0.d false,rfl,by simp⟩)
 try refine wpList_nil ?_
 refine AfterD.on hs7 (by kernel_rfl) ?_
 try simp only [aA,aB,Act.put,aC,aD,aE]
 refine WD.eff 13 (by kernel_rfl) ?_
 simp only [pick,aF,aG,aI,aJ,aK]
 go_wp2_with (go_at_call 5;refine hdup.out.mono ?_;rintro r w8 ⟨rfl,f8⟩;have V8:=hid (V7.out.step f8);clear hdup)
 have hs8:=HR.out _ (V8.out.held.ownAt 0 rfl)
 try refine wpList_nil ?_
 refine AfterD.on hs8 (by kernel_rfl) ?_
 try simp only [aA,aB,Act.put,aC,aD,aE]
 refine WD.pure [14,15,16,17,18] (by kernel_rfl) hs8 ?_
 simp only [pick,aF,aG,aI,aJ,aK]
 repeat (first | go_big_quiet_step (fail))
 refine wpQuiet_nil ?_
 refine WD.done (by kernel_rfl) ?_
 go_wp2_with (first
  | (go_at_call 33;refine (hF.out _).mono ?_;rintro r w9 ⟨rfl,f9⟩;have V9:=hid (V8.out.step f9);have hw9:=hid (HW.out _ _ _ O2.out X1.out X3.out V9.out);clear f9)
  | (go_at_call 32;refine hw9.out.mono ?_;rintro r w10 ⟨rfl,v10⟩))
 go_ret
 exact ⟨rfl,v10.fr⟩
end
theorem v_and16 (x : Int) : ∃ q : Nat,q ≤ 65535 ∧ bits .and .i64 x 65535 = q:=by
 refine ⟨(BitVec.ofInt 64 x &&& BitVec.ofInt 64 65535).toNat,?_,?_⟩
 · rw [BitVec.toNat_and]
   exact Nat.le_trans Nat.and_le_right (by decide)
 · have h : (BitVec.ofInt 64 x &&& BitVec.ofInt 64 65535).toNat ≤ 65535:=by
    rw [BitVec.toNat_and]
    exact Nat.le_trans Nat.and_le_right (by decide)
   show IntKind.i64.wrap ((BitVec.ofInt 64 x &&& BitVec.ofInt 64 65535).toNat : Int) = _
   rw [IntKind.wrap_i64]
   omega
theorem v_add (ty : TypeId) (a b c : Nat) (h : a + b = c) (hc : c ≤ 9223372036854775807) : binOp .add ty (.int .i64 (a : Int)) (.int .i64 (b : Int)) = pure (.int .i64 (c : Int)):=by
 show pure (Value.int .i64 (IntKind.i64.wrap ((a : Int) + (b : Int)))) = _
 rw [IntKind.wrap_i64]
 have h9 : ((a : Int) + (b : Int) + 9223372036854775808) % 18446744073709551616 - 9223372036854775808 = (c : Int):=by omega
 rw [h9]
theorem v_mul (ty : TypeId) (a b c : Nat) (h : a * b = c) (hc : c ≤ 9223372036854775807) : binOp .mul ty (.int .i64 (a : Int)) (.int .i64 (b : Int)) = pure (.int .i64 (c : Int)):=by
 show pure (Value.int .i64 (IntKind.i64.wrap ((a : Int) * (b : Int)))) = _
 rw [IntKind.wrap_i64,show (a : Int) * (b : Int) = (c : Int) by rw [← h];exact (Int.natCast_mul a b).symm]
 have h9 : ((c : Int) + 9223372036854775808) % 18446744073709551616 - 9223372036854775808 = (c : Int):=by omega
 rw [h9]
end Go.Proofs.YtgafefecookgaaaGreat
namespace Go.Proofs.YtgafefecookgaaaGreat
open Go Go.Xr Go.RowKit Go.ChangeShapes Go.WideShapes Go.Deep
structure Step7 where
 Do : Int
 I : Int
 D : Int
 C : UInt8
 Text : ByteArray
 Keep : Value
 ks : List Bool
 KB : Option Nat
instance : Inhabited Step7:=⟨⟨0,0,0,0,⟨#[]⟩,.slice none 0 0,[],none⟩⟩
structure StOk7 (w : World) (s : Step7) : Prop where
 d1 : -9223372036854775808 ≤ s.Do
 d2 : s.Do ≤ 9223372036854775807
 i1 : -9223372036854775808 ≤ s.I
 i2 : s.I ≤ 9223372036854775807
 k1 : -9223372036854775808 ≤ s.D
 k2 : s.D ≤ 9223372036854775807
 t : s.Text.size ≤ maxLen
 k : Rc w 1 s.Keep s.ks.length (s.ks.map .bool) s.KB
 kl : s.ks.length ≤ maxLen
section
variable {N K : List ByteArray} {M : MS}
theorem snd_fa (h : Snd N M) (b : Bool) (hb : M.c (!b) = true) : ({ M with s:=M.s.fa b } : MS).flushC = 0 ∧ Snd N ({ M with s:=M.s.fa b } : MS).flushM ∧ (Alv M → Alv ({ M with s:=M.s.fa b } : MS).flushM):=by
 have e : ({ M with s:=M.s.fa b } : MS) = M.failB b:=by cases h <;> cases b <;> rfl
 rw [e]
 exact snd_fail h b hb
end
section
variable {w w' w0 : World} {N : List ByteArray} {l rs : List Res} {pbs : List Nat} {m : Nat} {M : MS} {d : Bool → Nat} {FF : Bool → List Nat}
theorem mir_drop (e : Ev w0 rs w (l ++ mirC pbs m d FF M)) : Ev w0 rs w (l ++ sysC pbs M.s d FF):=Ev.less l _ e
end
structure POk (bd : Nat) (N : List ByteArray) (M : MS) : Prop where
 snd : Snd N M
 alv : Alv M
 ok : SysOk M.s
 T : M.s.T ≤ bd
def NsOk (Ns : Nat → List ByteArray) : Prop:=∀ k,(Ns k).length = 3 ∧ ∀ x ∈ Ns k,x.size = 512
def AllOk (bd : Nat) (Ns : Nat → List ByteArray) (Ms : List MS) : Prop:=∀ (k : Nat) (M : MS),Ms[k]? = some M → POk bd (Ns k) M
structure FOk (bd : Nat) (N : List ByteArray) (M : MS) : Prop where
 c : M.flushC = 0
 snd : Snd N M.flushM
 alv : Alv M.flushM
 ok : SysOk M.s
 T : M.s.T ≤ bd
def AllF (bd : Nat) (Ns : Nat → List ByteArray) (Ms : List MS) : Prop:=∀ (k : Nat) (M : MS),Ms[k]? = some M → FOk bd (Ns k) M
theorem POk.f {bd : Nat} {N : List ByteArray} {M : MS} (h : POk bd N M) : FOk bd N M:=⟨(snd_flush h.snd).1,(snd_flush h.snd).2,alv_flush h.snd h.alv,h.ok,h.T⟩
theorem POk.mono {bd bd' : Nat} {N : List ByteArray} {M : MS} (h : POk bd N M) (hb : bd ≤ bd') : POk bd' N M:=⟨h.snd,h.alv,h.ok,by have:=h.T;omega⟩
theorem FOk.mono {bd bd' : Nat} {N : List ByteArray} {M : MS} (h : FOk bd N M) (hb : bd ≤ bd') : FOk bd' N M:=⟨h.c,h.snd,h.alv,h.ok,by have:=h.T;omega⟩
theorem firstC_zero {F : MS → Int} : ∀ {Ms : List MS},(∀ M ∈ Ms,F M = 0) → firstC F Ms = 0
 | [],_ => rfl
 | M :: Ms,h => by
   have e : firstC F (M :: Ms) = Ms.foldl (fun a M => if a = 0 then F M else a) (F M):=rfl
   rw [e,h M (List.mem_cons_self ..)]
   exact firstC_zero fun x hx => h x (List.mem_cons_of_mem _ hx)
theorem all_mem {p : MS → Prop} {Ms : List MS} (h : ∀ (k : Nat) (M : MS),Ms[k]? = some M → p M) : ∀ M ∈ Ms,p M:=fun M hM => by
 obtain ⟨k,hk,e⟩:=List.getElem_of_mem hM
 exact h k M (by rw [List.getElem?_eq_getElem hk,e])
theorem AllF.flush {bd : Nat} {Ns : Nat → List ByteArray} {Ms : List MS} (h : AllF bd Ns Ms) : firstC MS.flushC Ms = 0 ∧ AllOk (bd + 12) Ns (Ms.map MS.flushM):=by
 refine ⟨firstC_zero (all_mem fun k M hk => (h k M hk).c),fun k M hk => ?_⟩
 rw [List.getElem?_map] at hk
 obtain ⟨M0,h0,rfl⟩:=Option.map_eq_some_iff.1 hk
 have g:=h k M0 h0
 exact ⟨g.snd,g.alv,(flushM_stp M0).ok g.ok,by have:=(flushM_stp M0).T g.ok;have:=g.T;omega⟩
theorem AllOk.f {bd : Nat} {Ns : Nat → List ByteArray} {Ms : List MS} (h : AllOk bd Ns Ms) : AllF bd Ns Ms:=fun k M hk => (h k M hk).f
def updN (Ns : Nat → List ByteArray) (q : Nat) (N : List ByteArray) (k : Nat) : List ByteArray:=if k = q then N else Ns k
theorem AllF.set {bd q : Nat} {Ns : Nat → List ByteArray} {N : List ByteArray} {Ms : List MS} {M : MS} (h : AllF bd Ns Ms) (hM : FOk bd N M) : AllF bd (updN Ns q N) (Ms.set q M):=fun k M' hk => by
 unfold updN
 by_cases e : k = q
 · subst e
   rw [if_pos rfl]
   have hlt : k < (Ms.set k M).length:=(List.getElem?_eq_some_iff.1 hk).1
   rw [List.getElem?_set_self (by simpa using hlt)] at hk
   cases hk
   exact hM
 · rw [if_neg e]
   rw [List.getElem?_set_ne (fun x => e x.symm)] at hk
   exact h k M' hk
theorem AllF.mono {bd bd' : Nat} {Ns : Nat → List ByteArray} {Ms : List MS} (h : AllF bd Ns Ms) (hb : bd ≤ bd') : AllF bd' Ns Ms:=fun k M hk => (h k M hk).mono hb
theorem AllOk.mono {bd bd' : Nat} {Ns : Nat → List ByteArray} {Ms : List MS} (h : AllOk bd Ns Ms) (hb : bd ≤ bd') : AllOk bd' Ns Ms:=fun k M hk => (h k M hk).mono hb
theorem updN_same (Ns : Nat → List ByteArray) (q : Nat) : updN Ns q (Ns q) = Ns:=by
 funext k
 unfold updN
 split
 · rename_i e
   rw [e]
 · rfl
theorem AllOk.fail {bd q : Nat} {Ns : Nat → List ByteArray} {Ms : List MS} {M : MS} (h : AllOk bd Ns Ms) (hk : Ms[q]? = some M) (b : Bool) (hb : (M.s.X (!b)).Dead = false) : AllF bd Ns (Ms.set q { M with s:=M.s.fa b }):=by
 have g:=h q M hk
 have hc : M.c (!b) = true:=by rw [g.alv (!b),hb];rfl
 obtain ⟨h1,h2,h3⟩:=snd_fa g.snd b hc
 have:=(AllOk.f h).set (q:=q) (N:=Ns q) (M:={ M with s:=M.s.fa b }) ⟨h1,h2,h3 g.alv,(fa_stp M.s b).ok g.ok,by have h0 : (M.s.fa b).T ≤ M.s.T + 0:=(fa_stp M.s b).T g.ok;have:=g.T;show (M.s.fa b).T ≤ bd;omega⟩
 rw [updN_same] at this
 exact this
structure ROk (bd : Nat) (N : List ByteArray) (M : MS) : Prop where
 snd : Snd N M
 ok : SysOk M.s
 T : M.s.T ≤ bd
def AllR (bd : Nat) (Ns : Nat → List ByteArray) (Ms : List MS) : Prop:=∀ (k : Nat) (M : MS),Ms[k]? = some M → ROk bd (Ns k) M
theorem AllOk.r {bd : Nat} {Ns : Nat → List ByteArray} {Ms : List MS} (h : AllOk bd Ns Ms) : AllR bd Ns Ms:=fun k M hk => ⟨(h k M hk).snd,(h k M hk).ok,(h k M hk).T⟩
theorem snd_rp1 {N : List ByteArray} {M : MS} (h : Snd N M) (b : Bool) : Snd N { M with s:=M.s.rp b }:=by
 cases h with
 | both T0 T1 L g => cases b <;> exact .both T0 T1 L g
 | one0 T0 T1 K dd L g hK =>
   cases b
   · exact .one0 T0 T1 K dd L g hK
   · exact .one0 T0 T1 K false L g hK
 | one1 T0 T1 K dd L g hK =>
   cases b
   · exact .one1 T0 T1 K false L g hK
   · exact .one1 T0 T1 K dd L g hK
theorem AllR.rp {bd q : Nat} {Ns : Nat → List ByteArray} {Ms : List MS} {M : MS} (h : AllR bd Ns Ms) (hk : Ms[q]? = some M) (b : Bool) : AllR bd Ns (Ms.set q { M with s:=M.s.rp b }):=fun k M' hk' => by
 by_cases e : k = q
 · subst e
   rw [List.getElem?_set_self (List.getElem?_eq_some_iff.1 hk).1] at hk'
   cases hk'
   have g:=h k M hk
   exact ⟨snd_rp1 g.snd b,(rp_stp M.s b).ok g.ok,by have h0 : (M.s.rp b).T ≤ M.s.T + 0:=(rp_stp M.s b).T g.ok;have:=g.T;show (M.s.rp b).T ≤ bd;omega⟩
 · rw [List.getElem?_set_ne (fun x => e x.symm)] at hk'
   exact h k M' hk'
theorem snd_len3 {N : List ByteArray} {M : MS} (h : Snd N M) (hN : N.length = 3) (b : Bool) : M.s.len b = 4:=by
 have h1:=(snd_len h).1
 have h2:=(snd_len h).2
 rw [hN] at h1 h2
 cases b
 · exact h1
 · exact h2
theorem AllR.resync {bd : Nat} {Ns : Nat → List ByteArray} {Ms : List MS} (h : AllR bd Ns Ms) (hN : NsOk Ns) : firstC (fun M => M.rs.2.2) Ms = 0 ∧ AllOk (bd + 18) Ns (Ms.map fun M => M.rs.1):=by
 refine ⟨firstC_zero (all_mem fun k M hk => (snd_rs (hN k).2 (h k M hk).snd).1),fun k M hk => ?_⟩
 rw [List.getElem?_map] at hk
 obtain ⟨M0,h0,rfl⟩:=Option.map_eq_some_iff.1 hk
 have g:=h k M0 h0
 obtain ⟨_,g2,g3⟩:=snd_rs (hN k).2 g.snd
 refine ⟨g2,g3,(rs_stp M0).ok g.ok,?_⟩
 have h1:=(rs_stp M0).T g.ok
 rw [snd_len3 g.snd (hN k).1] at h1
 have:=g.T
 omega
theorem AllOk.write {bd q a : Nat} {Ns : Nat → List ByteArray} {Ms : List MS} {M : MS} (h : AllOk bd Ns Ms) (hk : Ms[q]? = some M) {S : ByteArray} (ha : a < (Ns q).length) (hS : S.size = 512) :
 M.wrE (a : Int) S = 0 ∧ AllF (bd + 12) (updN Ns q ((Ns q).set a S)) (Ms.set q (M.wrM (a : Int) S)):=by
 have g:=h q M hk
 obtain ⟨h1,h2,h3,h4⟩:=snd_wr g.snd ha hS
 refine ⟨h1,AllF.set ((AllOk.f h).mono (by omega)) ⟨h2,h3,h4 g.alv,(wrM_stp M (a : Int) S).ok g.ok,?_⟩⟩
 have:=(wrM_stp M (a : Int) S).T g.ok
 have:=g.T
 omega
theorem NsOk.upd {Ns : Nat → List ByteArray} (h : NsOk Ns) (q a : Nat) {S : ByteArray} (hS : S.size = 512) : NsOk (updN Ns q ((Ns q).set a S)):=fun k => by
 unfold updN
 split
 · refine ⟨by rw [List.length_set];exact (h q).1,fun x hx => ?_⟩
   rcases List.mem_or_eq_of_mem_set hx with hx | hx
   · exact (h q).2 x hx
   · rw [hx];exact hS
 · exact h k
section
variable {w w' w0 : World} {l rs : List Res} {X : VX} {Ms : List MS} {wt : Int} {k m a q : Nat} {M : MS} {d : Bool → Nat}
theorem VA.feet (h : VA w0 [] w l X Ms wt) (hk : Ms[q]? = some M) : ∃ (m : Nat) (d : Bool → Nat) (FF : Bool → List Nat) (l' : List Res),X.ms[q]? = some m ∧ X.ds[q]? = some d ∧ Held w (l' ++ mirC [] m d FF M) ∧ (∀ x ∈ feetOf (l' ++ mirC [] m d FF M),w0.heap.size ≤ x) ∧
 ∀ (w' : World) (FF' : Bool → List Nat) (M' : MS),Ev w (l' ++ mirC [] m d FF M) w' (l' ++ mirC [] m d FF' M') → VA w0 [] w' l X (Ms.set q M') wt:=by
 obtain ⟨ps,h1,h2,h3,ev⟩:=h
 obtain ⟨p,hp,rfl⟩ : ∃ p,ps[q]? = some p ∧ p.M = M:=by
  rw [← h3,List.getElem?_map] at hk
  exact Option.map_eq_some_iff.1 hk
 have ev1 : Ev w0 [] w ((l ++ volR X.vb X.rb X.v X.ms (X.e : Int) wt) ++ vpsC ps):=by rw [List.append_assoc];exact ev
 have ev2:=Ev.perm ev1 (vps_perm (l ++ volR X.vb X.rb X.v X.ms (X.e : Int) wt) hp)
 have em : X.ms[q]? = some p.m:=by rw [← h1,List.getElem?_map,hp];rfl
 have ed : X.ds[q]? = some p.d:=by rw [← h2,List.getElem?_map,hp];rfl
 refine ⟨p.m,p.d,p.FF,(l ++ volR X.vb X.rb X.v X.ms (X.e : Int) wt) ++ vpsC (ps.eraseIdx q),em,ed,ev2.held,fun x hx => ?_,fun w' FF' M' e => ⟨ps.set q ⟨p.m,p.d,FF',M'⟩,?_,?_,?_,?_⟩⟩
 · rcases ev2.low x hx with h4 | h4
   · cases h4
   · exact h4
 · rw [List.map_set,h1]
   exact set_same _ _ _ em
 · rw [List.map_set,h2]
   exact set_same _ _ _ ed
 · rw [List.map_set,h3]
 · have:=ev1.trans (vps_ev ev1.held hp e)
   rw [List.append_assoc] at this
   exact this
theorem dsOf_flat : ∀ ss : List VS,dsOf ss = (ss.map VS.d).flatMap fun d => [d false,d true]
 | [] => rfl
 | s :: ss => by
   have ih:=dsOf_flat ss
   have e : dsOf (s :: ss) = s.d false :: s.d true :: dsOf ss:=rfl
   rw [e,ih]
   rfl
end
section
variable {w w' w0 : World} {l rs : List Res} {X : VX} {Ms : List MS} {wt : Int} {n t q bd : Nat} {M : MS} {Ns : Nat → List ByteArray}
end
def rowD (D0 : List (Bool → Nat)) : List Value:=(((D0.flatMap fun d => [d false,d true]).map some).map pv)
theorem rowD_get : ∀ (D0 : List (Bool → Nat)) (q : Nat) (d : Bool → Nat) (b : Bool),D0[q]? = some d → (rowD D0)[2 * q + b.toNat]? = some (.pointer (some ⟨d b,0,none⟩))
 | [],q,d,b,h => by simp at h
 | d0 :: D0,0,d,b,h => by
   obtain rfl : d0 = d:=by simpa using h
   cases b <;> rfl
 | d0 :: D0,q + 1,d,b,h => by
   have ih:=rowD_get D0 q d b (by simpa using h)
   have e : rowD (d0 :: D0) = pv (some (d0 false)) :: pv (some (d0 true)) :: rowD D0:=rfl
   rw [e,show 2 * (q + 1) + b.toNat = 2 * q + b.toNat + 1 + 1 by omega]
   exact ih
theorem rowD_cell {w : World} {D0 : List (Bool → Nat)} {n B c q : Nat} {d : Bool → Nat} (h : Xr.Own w 1 (.slice (some ⟨B,0,none⟩) (2 * n) c) (2 * n) (rowD D0) (some B)) (hn : 0 < n) (hq : D0[q]? = some d) (b : Bool) (hl : q < n) : w.cell? ⟨B,2 * q + b.toNat,none⟩ = some (.pointer (some ⟨d b,0,none⟩)):=by
 have hg:=rowD_get D0 q d b hq
 obtain ⟨b2,off,c2,hB,hv2,_,_,_,h4⟩:=(h.rd.rc).some (by omega)
 obtain ⟨⟨rfl,rfl⟩,_⟩ : (B = b2 ∧ 0 = off) ∧ c = c2:=by simpa using hv2
 have:=h4 (2 * q + b.toNat) (List.getElem?_eq_some_iff.1 hg).1
 rw [Nat.zero_add] at this
 rw [this]
 exact hg
theorem half (k n : Nat) (hk : k < 2 * n) : ∃ (q : Nat) (b : Bool),q < n ∧ k = 2 * q + b.toNat:=by
 refine ⟨k / 2,decide (k % 2 = 1),by omega,?_⟩
 by_cases h : k % 2 = 1
 · simp only [h,decide_true,Bool.toNat_true];omega
 · simp only [h,decide_false,Bool.toNat_false];omega
structure Step8 where
 Do : Int
 I : Int
 D : Int
 C : UInt8
 Keep : Value
 ks : List Bool
 KB : Option Nat
instance : Inhabited Step8:=⟨⟨0,0,0,0,.slice none 0 0,[],none⟩⟩
def stc8 (s : Step8) : List Value:=[.int .i64 s.Do,.int .i64 s.I,.int .i64 s.D,bt s.C,s.Keep]
structure StOk8 (w : World) (s : Step8) : Prop where
 k : Rc w 1 s.Keep s.ks.length (s.ks.map .bool) s.KB
 kl : s.ks.length ≤ maxLen
theorem stc8_len (a : Step8) : (stc8 a).length = 5:=rfl
theorem stepT8 : AggT Tryz.prog 36 5:=⟨_,Tryz.underlying36,rfl,rfl⟩
theorem open_steps8 {H : Type} {enc : TypeId × Value → H} {w : World} {base : Nat} {spare : Nat → Bool} {held : Bool} {fuel : Nat} {cs : List Value} {x : DataW H × List MemPlace} (h : DataW.trod enc Tryz.prog w base spare held fuel 22 cs = some x) :
 ∃ (v : Value) (l : List Step8) (B : Option Nat),cs = [v] ∧ Rc w 5 v l.length (l.flatMap stc8) B ∧ (∀ a ∈ l,StOk8 w a) ∧ l.length ≤ maxLen:=by
 refine open_rows stc8 (StOk8 w) 5 (by decide) stc8_len Tryz.underlying22 rfl (fun n cs x hx => ?_) h
 obtain ⟨xs,n',_,_,hlen,hxl,hf⟩:=DataW.trod_struct Tryz.underlying36 hx
 have hlen5 : cs.length = 5:=hlen
 have hxl5 : xs.length = 5:=hxl
 match cs,hlen5,xs,hxl5 with
 | [c0,c1,c2,c3,c5],_,[x0,x1,x2,x3,x5],_ =>
   obtain ⟨n0,h0,_,w0⟩:=DataW.trod_int Tryz.underlying3 (hf 0 _ rfl)
   obtain ⟨n1,h1,_,w1⟩:=DataW.trod_int Tryz.underlying3 (hf 1 _ rfl)
   obtain ⟨n2,h2,_,w2⟩:=DataW.trod_int Tryz.underlying3 (hf 2 _ rfl)
   obtain ⟨n3,h3,_,w3⟩:=DataW.trod_int Tryz.underlying5 (hf 3 _ rfl)
   obtain ⟨v5,l5,B5,h5,r5,m5⟩:=open_bools Tryz.underlying34 Tryz.underlying4 rfl (hf 4 _ rfl)
   have e0 : c0 = .int .i64 n0:=List.singleton_inj.1 h0
   have e1 : c1 = .int .i64 n1:=List.singleton_inj.1 h1
   have e2 : c2 = .int .i64 n2:=List.singleton_inj.1 h2
   have e3 : c3 = .int .u8 n3:=List.singleton_inj.1 h3
   have e5 : c5 = v5:=List.singleton_inj.1 h5
   refine ⟨⟨n0,n1,n2,UInt8.ofNat n3.toNat,v5,l5,B5⟩,?_,⟨r5,m5⟩⟩
   rw [e0,e1,e2,e3,e5,bt_of w3]
   rfl
theorem step_cell8 {w : World} {v : Value} {l : List Step8} {B : Option Nat} (h : Rc w 5 v l.length (l.flatMap stc8) B) (i : Nat) (hi : i < l.length) :
 ∃ b off cap,v = .slice (some ⟨b,off,none⟩) l.length cap ∧ B = some b ∧ b < w.heap.size ∧ ∀ j,j < 5 → w.cell? ⟨b,off + i * 5 + j,none⟩ = (stc8 l[i])[j]?:=by
 obtain ⟨b,off,cap,hB,hv,h1,h2,h3,h4⟩:=h.some (by omega)
 refine ⟨b,off,cap,hv,hB,h3,fun j hj => ?_⟩
 rw [← flat_get stc8 5 stc8_len l i j hi hj,Nat.add_assoc]
 exact h4 _ (by rw [Go.Xr.flat_len stc8 5 stc8_len];omega)
end Go.Proofs.YtgafefecookgaaaGreat
