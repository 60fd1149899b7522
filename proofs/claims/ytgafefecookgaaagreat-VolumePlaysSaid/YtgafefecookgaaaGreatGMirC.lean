/- Several texts put together: MirV, MirW. What each shows stands ahead of it. -/
import Derived.Test.YtgafefecookgaaaGreatGMirB
open Go.World renaming size_alloc → aA,size_drew → aB
open List renaming setIfInBounds_toArray → aC,set_cons_succ → aD,set_cons_zero → aE,toList_toArray → aF,map_cons → aG,map_nil → aI,getD_cons_succ → aJ,getD_cons_zero → aK
set_option linter.unusedVariables false
set_option linter.unusedSimpArgs false
set_option maxRecDepth 20000
set_option maxHeartbeats 16000000
namespace Go.Proofs.YtgafefecookgaaaGreat
open Go Go.Xr Go.RowKit
theorem mt_eqg (op : BinOp) (t : TypeId) (x y : Operand) (a b : UInt64) : eqGuard op t x y (W64 a) (W64 b) = pure ():=by cases op <;> rfl
attribute [local go_sem] gtr_u64 mt_eqg
def MS.opR (M : MS) (b any : Bool) : MS × Bool :=
 if M.s.stO b then
  if !any || decide (M.g < M.s.stG b) then (⟨M.s,!b,b,M.s.stG b⟩,true)
  else if M.s.stG b = M.g then ({ M with c0:=if b then M.c0 else true,c1:=if b then true else M.c1 },any)
  else (M,any)
 else (M,any)
def Sys.op0 (s : Sys) : MS × Bool:=MS.opR ⟨s,false,false,0⟩ false false
def Sys.op1 (s : Sys) : MS × Bool:=MS.opR s.op0.1 true s.op0.2
theorem opR_no {M : MS} {b any : Bool} (h : M.s.stO b = false) : M.opR b any = (M,any):=by unfold MS.opR;rw [if_neg (by rw [h];decide)]
theorem opR_new {M : MS} {b any : Bool} (h : M.s.stO b = true) (h2 : (!any || decide (M.g < M.s.stG b)) = true) : M.opR b any = (⟨M.s,!b,b,M.s.stG b⟩,true):=by unfold MS.opR;rw [if_pos h,if_pos h2]
theorem opR_eq {M : MS} {b any : Bool} (h : M.s.stO b = true) (h2 : (!any || decide (M.g < M.s.stG b)) = false) (h3 : M.s.stG b = M.g) : M.opR b any = (⟨M.s,if b then M.c0 else true,if b then true else M.c1,M.g⟩,any):=by unfold MS.opR;rw [if_pos h,if_neg (by rw [h2];decide),if_pos h3]
theorem opR_old {M : MS} {b any : Bool} (h : M.s.stO b = true) (h2 : (!any || decide (M.g < M.s.stG b)) = false) (h3 : M.s.stG b ≠ M.g) : M.opR b any = (M,any):=by unfold MS.opR;rw [if_pos h,if_neg (by rw [h2];decide),if_neg h3]
theorem opR_s (M : MS) (b any : Bool) : (M.opR b any).1.s = M.s:=by
 unfold MS.opR
 split
 · split
   · rfl
   · split <;> rfl
 · rfl
theorem op0_s (s : Sys) : s.op0.1.s = s:=opR_s _ _ _
theorem op1_s (s : Sys) : s.op1.1.s = s:=(opR_s _ _ _).trans (op0_s s)
section
variable {w w' w0 : World} {l rs : List Res} {pbs : List Nat} {m : Nat} {s : Sys} {M M' : MS} {d : Bool → Nat} {FF FF' : Bool → List Nat}
theorem open_bad {a b : Value} {c : Int} (hc : c ≠ 0) (H : Calls Tryz.prog 52 #[a,b] w fun e w' => e = .returned (.tuple #[.pointer none,.int .i64 c]) ∧ w' = w) :
 Calls Tryz.prog 31 #[a,b] w fun e w' => e = .returned (.tuple #[.pointer none,.int .i64 c]) ∧ w' = w:=by
 have H':=hid H
 have u0 : (c != 0) = true:=by simpa using hc
 clear H hc
 go_enter Tryz.func31,Tryz.ntmps31
 go_wp2_with (go_at_call 52;refine H'.out.mono ?_;rintro e w5 ⟨rfl,hw⟩;subst hw)
 go_ret2
 exact ⟨rfl,rfl⟩
theorem open_lost (h : Held w (l ++ sysC pbs s d FF)) (ok : SysOk s) (hl : s.len false = s.len true) (h2 : 2 ≤ s.len true) (h0 : (s.X false).Dead = true) (h1 : (s.X true).Dead = true) :
 Calls Tryz.prog 31 #[.pointer (some ⟨d false,0,none⟩),.pointer (some ⟨d true,0,none⟩)] w fun e w' => e = .returned (.tuple #[.pointer none,.int .i64 70]) ∧ Ev w (l ++ sysC pbs s d FF) w' (l ++ sysC pbs s d FF):=by
 have HT:=hid (two_ok h ok hl h2)
 have HD:=hid fun (b : Bool) (m : Nat) (w1 : World) (h1 : Held w1 (l ++ mirC pbs m d FF ⟨s,false,false,0⟩)) => sDead b (mir_sys h1) ok
 have HP : Hid (∀ (m : Nat) (w1 : World),Ev w (l ++ sysC pbs s d FF) w1 (l ++ mirC pbs m d FF ⟨s,false,false,0⟩) → Ev w (l ++ sysC pbs s d FF) w1 (l ++ sysC pbs s d FF)):=hid fun m w1 e => by
  have e1 : Ev w (l ++ sysC pbs s d FF) w1 (mirR m d ⟨s,false,false,0⟩ :: (l ++ sysC pbs s d FF)):=Ev.perm e List.perm_middle
  exact Ev.less [] _ e1
 clear h ok hl h2
 go_enter Tryz.func31,Tryz.ntmps31
 go_wp2_with (first
  | (go_at_call 52;refine HT.out.mono ?_;rintro e w5 ⟨m5,rfl,v5,hm5⟩;have V5:=hid (HP.out _ _ v5);have hd0:=HD.out false m5 w5 v5.held;have hd1:=HD.out true m5 w5 v5.held;rw [h0] at hd0;rw [h1] at hd1;clear v5 hm5)
  | (go_at_call 16;with_reducible refine hd0.mono ?_;rintro e w6 ⟨rfl,hw⟩;subst hw;clear hd0)
  | (go_at_call 16;with_reducible refine hd1.mono ?_;rintro e w6 ⟨rfl,hw⟩;subst hw;clear hd1))
 go_ret2
 exact ⟨rfl,V5.out⟩
theorem open_ok (h : Held w (l ++ sysC pbs s d FF)) (ok : SysOk s) (hl : s.len false = s.len true) (h2 : 2 ≤ s.len true) (hd : (s.X false).Dead = false ∨ (s.X true).Dead = false) :
 Calls Tryz.prog 31 #[.pointer (some ⟨d false,0,none⟩),.pointer (some ⟨d true,0,none⟩)] w fun e w' => ∃ m,e = .returned (.tuple #[.pointer (if s.op1.2 then some ⟨m,0,none⟩ else none),.int .i64 (if s.op1.2 then 0 else 71)]) ∧ Ev w (l ++ sysC pbs s d FF) w' (l ++ mirC pbs m d FF s.op1.1):=by
 have HT:=hid (two_ok h ok hl h2)
 have HD:=hid fun (b : Bool) (m : Nat) (w1 : World) (h1 : Held w1 (l ++ mirC pbs m d FF ⟨s,false,false,0⟩)) => sDead b (mir_sys h1) ok
 have OK0:=hid ok
 have V1:=hid (op1_s s)
 have HS:=hid fun (b : Bool) (w1 : World) (M1 : MS) (m1 : Nat) (he : M1.s = s) (h1 : Held w1 (l ++ mirC pbs m1 d FF M1)) => (show Calls Tryz.prog 62 #[.pointer (some ⟨d b,0,none⟩)] w1 fun e w' => e = .returned (.tuple #[W64 (s.stG b),.bool (s.stO b)]) ∧ Fr [] w1 w' from stamp_any b (by have:=mir_sys h1;rw [he] at this;exact this) ok)
 clear ok hl h2 h
 cases h0 : (s.X false).Dead with
 | false =>
   go_enter Tryz.func31,Tryz.ntmps31
   go_wp2_with (first
    | (go_at_call 52;refine HT.out.mono ?_;rintro e w5 ⟨m5,rfl,v5,hm5⟩;have V5:=hid v5;have hd0:=HD.out false m5 w5 v5.held;have hd1:=HD.out true m5 w5 v5.held;rw [h0] at hd0;(try rw [h1] at hd1);have b5 : Blk w5 m5 [.pointer (some ⟨d false,0,none⟩),.pointer (some ⟨d true,0,none⟩),.bool false,.bool false,.int .u64 0]:=mir_blk v5.held;clear v5 hm5 HD HT h0)
    | (go_at_call 16;with_reducible refine hd0.mono ?_;rintro e w6 ⟨rfl,hw⟩;subst hw;clear hd0)
    | (go_at_call 16;with_reducible refine hd1.mono ?_;rintro e w6 ⟨rfl,hw⟩;subst hw;clear hd1)
    | (refine wpList_load_ag rfl _ _ rfl rfl [.pointer (some ⟨d false,0,none⟩),.pointer (some ⟨d true,0,none⟩)] b5 disksT rfl rfl ?_;simp only [aA,aB,Act.put,aC,aD,aE]))
   clear b5
   go_loopw [34,8] (fun iv av wr => (iv = .int .i64 0 ∧ av = .bool false ∧ Ev w (l ++ sysC pbs s d FF) wr (l ++ mirC pbs m5 d FF ⟨s,false,false,0⟩)) ∨ (iv = .int .i64 1 ∧ av = .bool s.op0.2 ∧ Ev w (l ++ sysC pbs s d FF) wr (l ++ mirC pbs m5 d FF s.op0.1)) ∨ (iv = .int .i64 2 ∧ av = .bool s.op1.2 ∧ Ev w (l ++ sysC pbs s d FF) wr (l ++ mirC pbs m5 d FF s.op1.1))) (fun iv _ _ => 2 - (intOf iv).toNat)
   case atStart => exact .inl ⟨rfl,rfl,V5.out⟩
   case round =>
    rcases hrel with ⟨rfl,rfl,ev⟩ | ⟨rfl,rfl,ev⟩ | ⟨rfl,rfl,ev⟩
    · cases ho : s.stO false with
      | false =>
        have EV:=hid ev
        have hb : Blk wr m5 [.pointer (some ⟨d false,0,none⟩),.pointer (some ⟨d true,0,none⟩),.bool false,.bool false,W64 0]:=mir_blk ev.held
        have hs:=hid (HS.out false wr _ m5 rfl ev.held)
        rw [ho] at hs
        have HR:=hid ((fun ho => (show s.op0 = (⟨s,false,false,0⟩,false) from opR_no (M:=⟨s,false,false,0⟩) ho)) ho)
        generalize s.stG false = G at *
        clear ev HS ho
        go_wp2_with (first
         | (refine wpList_index_one rfl _ _ _ rfl 37 _ 2 Tryz.underlying110 Tryz.underlying37 rfl rfl [.pointer (some ⟨d false,0,none⟩),.pointer (some ⟨d true,0,none⟩)] rfl .i64 0 _ rfl rfl (.pointer (some ⟨d false,0,none⟩)) (by decide) rfl ?_;simp only [aA,aB,Act.put,aC,aD,aE])
         | (go_at_call 62;refine hs.out.mono ?_;rintro e w6 ⟨rfl,f6⟩;have b6:=f6.blk hb (by simp);have k6 : w6.cell? ⟨m5,4,none⟩ = some (W64 0):=b6.cell 4;clear hb b6))
        go_roundw
        case rel => exact .inr <| .inl ⟨rfl,by rw [HR.out],by rw [HR.out];exact EV.out.step f6⟩
        case measure => simp [intOf]
      | true =>
        have EV:=hid ev
        have hb : Blk wr m5 [.pointer (some ⟨d false,0,none⟩),.pointer (some ⟨d true,0,none⟩),.bool false,.bool false,W64 0]:=mir_blk ev.held
        have hs:=hid (HS.out false wr _ m5 rfl ev.held)
        rw [ho] at hs
        have HR:=hid ((fun ho => (show s.op0 = (⟨s,true,false,s.stG false⟩,true) from opR_new (M:=⟨s,false,false,0⟩) ho rfl)) ho)
        generalize s.stG false = G at *
        clear ev HS ho
        go_wp2_with (first
         | (refine wpList_index_one rfl _ _ _ rfl 37 _ 2 Tryz.underlying110 Tryz.underlying37 rfl rfl [.pointer (some ⟨d false,0,none⟩),.pointer (some ⟨d true,0,none⟩)] rfl .i64 0 _ rfl rfl (.pointer (some ⟨d false,0,none⟩)) (by decide) rfl ?_;simp only [aA,aB,Act.put,aC,aD,aE])
         | (go_at_call 62;refine hs.out.mono ?_;rintro e w6 ⟨rfl,f6⟩;have b6:=f6.blk hb (by simp);have k6 : w6.cell? ⟨m5,4,none⟩ = some (W64 0):=b6.cell 4;clear hb)
         | (refine wpList_store_ag rfl _ _ _ rfl rfl [.bool false,.bool false] rfl b6 boolsT rfl (by simp) (by simp [Value.oneCell']) ?_;intro w7 f7 b7 hs7;have b7' : Blk w7 m5 [.pointer (some ⟨d false,0,none⟩),.pointer (some ⟨d true,0,none⟩),.bool false,.bool false,W64 0]:=b7;clear b6 b7;simp only [aA,aB,Act.put,aC,aD,aE])
         | (refine wpList_put rfl _ _ _ rfl rfl (W64 G) rfl rfl b7' (by simp) (by kernel_rfl) ?_;intro w8 f8 b8 hs8;have b8' : Blk w8 m5 [.pointer (some ⟨d false,0,none⟩),.pointer (some ⟨d true,0,none⟩),.bool false,.bool false,W64 G]:=b8;clear b7' b8;simp only [aA,aB,Act.put,aC,aD,aE])
         | (refine wpList_put rfl _ _ _ rfl rfl (.bool true) rfl rfl b8' (by simp) (by kernel_rfl) ?_;intro w9 f9 b9 hs9;have b9' : Blk w9 m5 [.pointer (some ⟨d false,0,none⟩),.pointer (some ⟨d true,0,none⟩),.bool true,.bool false,W64 G]:=b9;clear b8' b9;simp only [aA,aB,Act.put,aC,aD,aE]))
        go_roundw
        case rel => exact .inr <| .inl ⟨rfl,by rw [HR.out],by rw [HR.out];exact mir_put (EV.out.step f6) ((f7.trans' f8).trans' f9) b9' rfl⟩
        case measure => simp [intOf]
    · rcases hq : s.op0 with ⟨⟨s',c0,c1,g⟩,a⟩
      have hs' : s' = s:=by have:=op0_s s;rw [hq] at this;exact this
      subst hs'
      rw [hq] at ev
      have HE : s'.op1 = MS.opR ⟨s',c0,c1,g⟩ true a:=by unfold Sys.op1;rw [hq]
      clear hq
      cases ho : s'.stO true with
      | false =>
        have EV:=hid ev
        have hb : Blk wr m5 [.pointer (some ⟨d false,0,none⟩),.pointer (some ⟨d true,0,none⟩),.bool c0,.bool c1,W64 g]:=mir_blk ev.held
        have hs:=hid (HS.out true wr _ m5 rfl ev.held)
        rw [ho] at hs
        have HR:=hid ((fun ho => (show s'.op1 = (⟨s',c0,c1,g⟩,a) from HE.trans (opR_no (M:=⟨s',c0,c1,g⟩) ho))) ho)
        generalize s'.stG true = G at *
        clear ev HS ho
        go_wp2_with (first
         | (refine wpList_index_one rfl _ _ _ rfl 37 _ 2 Tryz.underlying110 Tryz.underlying37 rfl rfl [.pointer (some ⟨d false,0,none⟩),.pointer (some ⟨d true,0,none⟩)] rfl .i64 1 _ rfl rfl (.pointer (some ⟨d true,0,none⟩)) (by decide) rfl ?_;simp only [aA,aB,Act.put,aC,aD,aE])
         | (go_at_call 62;refine hs.out.mono ?_;rintro e w6 ⟨rfl,f6⟩;have b6:=f6.blk hb (by simp);have k6 : w6.cell? ⟨m5,4,none⟩ = some (W64 g):=b6.cell 4;clear hb b6))
        go_roundw
        case rel => exact .inr <| .inr ⟨rfl,by rw [HR.out],by rw [HR.out];exact EV.out.step f6⟩
        case measure => simp [intOf]
      | true =>
        cases a with
        | false =>
          have EV:=hid ev
          have hb : Blk wr m5 [.pointer (some ⟨d false,0,none⟩),.pointer (some ⟨d true,0,none⟩),.bool c0,.bool c1,W64 g]:=mir_blk ev.held
          have hs:=hid (HS.out true wr _ m5 rfl ev.held)
          rw [ho] at hs
          have HR:=hid ((fun ho => (show s'.op1 = (⟨s',false,true,s'.stG true⟩,true) from HE.trans (opR_new (M:=⟨s',c0,c1,g⟩) ho rfl))) ho)
          generalize s'.stG true = G at *
          clear ev HS ho
          go_wp2_with (first
           | (refine wpList_index_one rfl _ _ _ rfl 37 _ 2 Tryz.underlying110 Tryz.underlying37 rfl rfl [.pointer (some ⟨d false,0,none⟩),.pointer (some ⟨d true,0,none⟩)] rfl .i64 1 _ rfl rfl (.pointer (some ⟨d true,0,none⟩)) (by decide) rfl ?_;simp only [aA,aB,Act.put,aC,aD,aE])
           | (go_at_call 62;refine hs.out.mono ?_;rintro e w6 ⟨rfl,f6⟩;have b6:=f6.blk hb (by simp);have k6 : w6.cell? ⟨m5,4,none⟩ = some (W64 g):=b6.cell 4;clear hb)
           | (refine wpList_store_ag rfl _ _ _ rfl rfl [.bool false,.bool false] rfl b6 boolsT rfl (by simp) (by simp [Value.oneCell']) ?_;intro w7 f7 b7 hs7;have b7' : Blk w7 m5 [.pointer (some ⟨d false,0,none⟩),.pointer (some ⟨d true,0,none⟩),.bool false,.bool false,W64 g]:=b7;clear b6 b7;simp only [aA,aB,Act.put,aC,aD,aE])
           | (refine wpList_put rfl _ _ _ rfl rfl (W64 G) rfl rfl b7' (by simp) (by kernel_rfl) ?_;intro w8 f8 b8 hs8;have b8' : Blk w8 m5 [.pointer (some ⟨d false,0,none⟩),.pointer (some ⟨d true,0,none⟩),.bool false,.bool false,W64 G]:=b8;clear b7' b8;simp only [aA,aB,Act.put,aC,aD,aE])
           | (refine wpList_put rfl _ _ _ rfl rfl (.bool true) rfl rfl b8' (by simp) (by kernel_rfl) ?_;intro w9 f9 b9 hs9;have b9' : Blk w9 m5 [.pointer (some ⟨d false,0,none⟩),.pointer (some ⟨d true,0,none⟩),.bool false,.bool true,W64 G]:=b9;clear b8' b9;simp only [aA,aB,Act.put,aC,aD,aE]))
          go_roundw
          case rel => exact .inr <| .inr ⟨rfl,by rw [HR.out],by rw [HR.out];exact mir_put (EV.out.step f6) ((f7.trans' f8).trans' f9) b9' rfl⟩
          case measure => simp [intOf]
        | true =>
          by_cases hc : g < s'.stG true
          · have hu : decide (g < s'.stG true) = true:=decide_eq_true hc
            have EV:=hid ev
            have hb : Blk wr m5 [.pointer (some ⟨d false,0,none⟩),.pointer (some ⟨d true,0,none⟩),.bool c0,.bool c1,W64 g]:=mir_blk ev.held
            have hs:=hid (HS.out true wr _ m5 rfl ev.held)
            rw [ho] at hs
            have HR:=hid ((fun ho => (show s'.op1 = (⟨s',false,true,s'.stG true⟩,true) from HE.trans (opR_new (M:=⟨s',c0,c1,g⟩) ho (by show (!true || decide (g < s'.stG true)) = true;rw [hu];rfl)))) ho)
            generalize s'.stG true = G at *
            clear ev HS ho
            go_wp2_with (first
             | (refine wpList_index_one rfl _ _ _ rfl 37 _ 2 Tryz.underlying110 Tryz.underlying37 rfl rfl [.pointer (some ⟨d false,0,none⟩),.pointer (some ⟨d true,0,none⟩)] rfl .i64 1 _ rfl rfl (.pointer (some ⟨d true,0,none⟩)) (by decide) rfl ?_;simp only [aA,aB,Act.put,aC,aD,aE])
             | (go_at_call 62;refine hs.out.mono ?_;rintro e w6 ⟨rfl,f6⟩;have b6:=f6.blk hb (by simp);have k6 : w6.cell? ⟨m5,4,none⟩ = some (W64 g):=b6.cell 4;clear hb)
             | (refine wpList_store_ag rfl _ _ _ rfl rfl [.bool false,.bool false] rfl b6 boolsT rfl (by simp) (by simp [Value.oneCell']) ?_;intro w7 f7 b7 hs7;have b7' : Blk w7 m5 [.pointer (some ⟨d false,0,none⟩),.pointer (some ⟨d true,0,none⟩),.bool false,.bool false,W64 g]:=b7;clear b6 b7;simp only [aA,aB,Act.put,aC,aD,aE])
             | (refine wpList_put rfl _ _ _ rfl rfl (W64 G) rfl rfl b7' (by simp) (by kernel_rfl) ?_;intro w8 f8 b8 hs8;have b8' : Blk w8 m5 [.pointer (some ⟨d false,0,none⟩),.pointer (some ⟨d true,0,none⟩),.bool false,.bool false,W64 G]:=b8;clear b7' b8;simp only [aA,aB,Act.put,aC,aD,aE])
             | (refine wpList_put rfl _ _ _ rfl rfl (.bool true) rfl rfl b8' (by simp) (by kernel_rfl) ?_;intro w9 f9 b9 hs9;have b9' : Blk w9 m5 [.pointer (some ⟨d false,0,none⟩),.pointer (some ⟨d true,0,none⟩),.bool false,.bool true,W64 G]:=b9;clear b8' b9;simp only [aA,aB,Act.put,aC,aD,aE]))
            go_roundw
            case rel => exact .inr <| .inr ⟨rfl,by rw [HR.out],by rw [HR.out];exact mir_put (EV.out.step f6) ((f7.trans' f8).trans' f9) b9' rfl⟩
            case measure => simp [intOf]
          · have hu : decide (g < s'.stG true) = false:=decide_eq_false hc
            by_cases he : Hid (s'.stG true = g)
            · have hv : ∀ t : TypeId,binOp .eql t (W64 (s'.stG true)) (W64 g) = pure (.bool true):=have he':=he.out;fun t => by rw [eql_u64,show (s'.stG true == g) = true by simpa using he']
              have EV:=hid ev
              have hb : Blk wr m5 [.pointer (some ⟨d false,0,none⟩),.pointer (some ⟨d true,0,none⟩),.bool c0,.bool c1,W64 g]:=mir_blk ev.held
              have hs:=hid (HS.out true wr _ m5 rfl ev.held)
              rw [ho] at hs
              have HR:=hid ((fun ho => (show s'.op1 = (⟨s',c0,true,g⟩,true) from HE.trans (opR_eq (M:=⟨s',c0,c1,g⟩) ho (by show (!true || decide (g < s'.stG true)) = false;rw [hu];rfl) he.out))) ho)
              generalize s'.stG true = G at *
              clear ev HS ho
              go_wp2_with (first
               | (refine wpList_index_one rfl _ _ _ rfl 37 _ 2 Tryz.underlying110 Tryz.underlying37 rfl rfl [.pointer (some ⟨d false,0,none⟩),.pointer (some ⟨d true,0,none⟩)] rfl .i64 1 _ rfl rfl (.pointer (some ⟨d true,0,none⟩)) (by decide) rfl ?_;simp only [aA,aB,Act.put,aC,aD,aE])
               | (go_at_call 62;refine hs.out.mono ?_;rintro e w6 ⟨rfl,f6⟩;have b6:=f6.blk hb (by simp);have k6 : w6.cell? ⟨m5,4,none⟩ = some (W64 g):=b6.cell 4;clear hb)
               | (refine wpList_put rfl _ _ _ rfl rfl (.bool true) rfl rfl b6 (by simp) (by kernel_rfl) ?_;intro w9 f9 b9 hs9;have b9' : Blk w9 m5 [.pointer (some ⟨d false,0,none⟩),.pointer (some ⟨d true,0,none⟩),.bool c0,.bool true,W64 g]:=b9;clear b6 b9;simp only [aA,aB,Act.put,aC,aD,aE]))
              go_roundw
              case rel => exact .inr <| .inr ⟨rfl,by rw [HR.out],by rw [HR.out];exact mir_put (EV.out.step f6) f9 b9' rfl⟩
              case measure => simp [intOf]
            · have hv : ∀ t : TypeId,binOp .eql t (W64 (s'.stG true)) (W64 g) = pure (.bool false):=have he':=fun h => he (hid h);fun t => by rw [eql_u64,show (s'.stG true == g) = false by simpa using he']
              have EV:=hid ev
              have hb : Blk wr m5 [.pointer (some ⟨d false,0,none⟩),.pointer (some ⟨d true,0,none⟩),.bool c0,.bool c1,W64 g]:=mir_blk ev.held
              have hs:=hid (HS.out true wr _ m5 rfl ev.held)
              rw [ho] at hs
              have HR:=hid ((fun ho => (show s'.op1 = (⟨s',c0,c1,g⟩,true) from HE.trans (opR_old (M:=⟨s',c0,c1,g⟩) ho (by show (!true || decide (g < s'.stG true)) = false;rw [hu];rfl) (fun h => he (hid h))))) ho)
              generalize s'.stG true = G at *
              clear ev HS ho
              go_wp2_with (first
               | (refine wpList_index_one rfl _ _ _ rfl 37 _ 2 Tryz.underlying110 Tryz.underlying37 rfl rfl [.pointer (some ⟨d false,0,none⟩),.pointer (some ⟨d true,0,none⟩)] rfl .i64 1 _ rfl rfl (.pointer (some ⟨d true,0,none⟩)) (by decide) rfl ?_;simp only [aA,aB,Act.put,aC,aD,aE])
               | (go_at_call 62;refine hs.out.mono ?_;rintro e w6 ⟨rfl,f6⟩;have b6:=f6.blk hb (by simp);have k6 : w6.cell? ⟨m5,4,none⟩ = some (W64 g):=b6.cell 4;clear hb b6))
              go_roundw
              case rel => exact .inr <| .inr ⟨rfl,by rw [HR.out],by rw [HR.out];exact EV.out.step f6⟩
              case measure => simp [intOf]
    · cases ha : s.op1.2 with
      | false =>
        have EV:=hid ev
        clear ev HS
        go_wp2_with fail
        all_goals first
         | (rename_i h;exact absurd ha (by rw [h];decide))
         | (go_ret2;exact ⟨rfl,m5,EV.out⟩)
      | true =>
        have EV:=hid ev
        clear ev HS
        go_wp2_with fail
        all_goals first
         | (rename_i h;exact absurd ha h)
         | (go_ret2;exact ⟨m5,rfl,EV.out⟩)
 | true =>
   have h1 : (s.X true).Dead = false:=hd.resolve_left (by rw [h0];decide)
   go_enter Tryz.func31,Tryz.ntmps31
   go_wp2_with (first
    | (go_at_call 52;refine HT.out.mono ?_;rintro e w5 ⟨m5,rfl,v5,hm5⟩;have V5:=hid v5;have hd0:=HD.out false m5 w5 v5.held;have hd1:=HD.out true m5 w5 v5.held;rw [h0] at hd0;(try rw [h1] at hd1);have b5 : Blk w5 m5 [.pointer (some ⟨d false,0,none⟩),.pointer (some ⟨d true,0,none⟩),.bool false,.bool false,.int .u64 0]:=mir_blk v5.held;clear v5 hm5 HD HT h0)
    | (go_at_call 16;with_reducible refine hd0.mono ?_;rintro e w6 ⟨rfl,hw⟩;subst hw;clear hd0)
    | (go_at_call 16;with_reducible refine hd1.mono ?_;rintro e w6 ⟨rfl,hw⟩;subst hw;clear hd1)
    | (refine wpList_load_ag rfl _ _ rfl rfl [.pointer (some ⟨d false,0,none⟩),.pointer (some ⟨d true,0,none⟩)] b5 disksT rfl rfl ?_;simp only [aA,aB,Act.put,aC,aD,aE]))
   clear b5
   go_loopw [34,8] (fun iv av wr => (iv = .int .i64 0 ∧ av = .bool false ∧ Ev w (l ++ sysC pbs s d FF) wr (l ++ mirC pbs m5 d FF ⟨s,false,false,0⟩)) ∨ (iv = .int .i64 1 ∧ av = .bool s.op0.2 ∧ Ev w (l ++ sysC pbs s d FF) wr (l ++ mirC pbs m5 d FF s.op0.1)) ∨ (iv = .int .i64 2 ∧ av = .bool s.op1.2 ∧ Ev w (l ++ sysC pbs s d FF) wr (l ++ mirC pbs m5 d FF s.op1.1))) (fun iv _ _ => 2 - (intOf iv).toNat)
   case atStart => exact .inl ⟨rfl,rfl,V5.out⟩
   case round =>
    rcases hrel with ⟨rfl,rfl,ev⟩ | ⟨rfl,rfl,ev⟩ | ⟨rfl,rfl,ev⟩
    · cases ho : s.stO false with
      | false =>
        have EV:=hid ev
        have hb : Blk wr m5 [.pointer (some ⟨d false,0,none⟩),.pointer (some ⟨d true,0,none⟩),.bool false,.bool false,W64 0]:=mir_blk ev.held
        have hs:=hid (HS.out false wr _ m5 rfl ev.held)
        rw [ho] at hs
        have HR:=hid ((fun ho => (show s.op0 = (⟨s,false,false,0⟩,false) from opR_no (M:=⟨s,false,false,0⟩) ho)) ho)
        generalize s.stG false = G at *
        clear ev HS ho
        go_wp2_with (first
         | (refine wpList_index_one rfl _ _ _ rfl 37 _ 2 Tryz.underlying110 Tryz.underlying37 rfl rfl [.pointer (some ⟨d false,0,none⟩),.pointer (some ⟨d true,0,none⟩)] rfl .i64 0 _ rfl rfl (.pointer (some ⟨d false,0,none⟩)) (by decide) rfl ?_;simp only [aA,aB,Act.put,aC,aD,aE])
         | (go_at_call 62;refine hs.out.mono ?_;rintro e w6 ⟨rfl,f6⟩;have b6:=f6.blk hb (by simp);have k6 : w6.cell? ⟨m5,4,none⟩ = some (W64 0):=b6.cell 4;clear hb b6))
        go_roundw
        case rel => exact .inr <| .inl ⟨rfl,by rw [HR.out],by rw [HR.out];exact EV.out.step f6⟩
        case measure => simp [intOf]
      | true =>
        have EV:=hid ev
        have hb : Blk wr m5 [.pointer (some ⟨d false,0,none⟩),.pointer (some ⟨d true,0,none⟩),.bool false,.bool false,W64 0]:=mir_blk ev.held
        have hs:=hid (HS.out false wr _ m5 rfl ev.held)
        rw [ho] at hs
        have HR:=hid ((fun ho => (show s.op0 = (⟨s,true,false,s.stG false⟩,true) from opR_new (M:=⟨s,false,false,0⟩) ho rfl)) ho)
        generalize s.stG false = G at *
        clear ev HS ho
        go_wp2_with (first
         | (refine wpList_index_one rfl _ _ _ rfl 37 _ 2 Tryz.underlying110 Tryz.underlying37 rfl rfl [.pointer (some ⟨d false,0,none⟩),.pointer (some ⟨d true,0,none⟩)] rfl .i64 0 _ rfl rfl (.pointer (some ⟨d false,0,none⟩)) (by decide) rfl ?_;simp only [aA,aB,Act.put,aC,aD,aE])
         | (go_at_call 62;refine hs.out.mono ?_;rintro e w6 ⟨rfl,f6⟩;have b6:=f6.blk hb (by simp);have k6 : w6.cell? ⟨m5,4,none⟩ = some (W64 0):=b6.cell 4;clear hb)
         | (refine wpList_store_ag rfl _ _ _ rfl rfl [.bool false,.bool false] rfl b6 boolsT rfl (by simp) (by simp [Value.oneCell']) ?_;intro w7 f7 b7 hs7;have b7' : Blk w7 m5 [.pointer (some ⟨d false,0,none⟩),.pointer (some ⟨d true,0,none⟩),.bool false,.bool false,W64 0]:=b7;clear b6 b7;simp only [aA,aB,Act.put,aC,aD,aE])
         | (refine wpList_put rfl _ _ _ rfl rfl (W64 G) rfl rfl b7' (by simp) (by kernel_rfl) ?_;intro w8 f8 b8 hs8;have b8' : Blk w8 m5 [.pointer (some ⟨d false,0,none⟩),.pointer (some ⟨d true,0,none⟩),.bool false,.bool false,W64 G]:=b8;clear b7' b8;simp only [aA,aB,Act.put,aC,aD,aE])
         | (refine wpList_put rfl _ _ _ rfl rfl (.bool true) rfl rfl b8' (by simp) (by kernel_rfl) ?_;intro w9 f9 b9 hs9;have b9' : Blk w9 m5 [.pointer (some ⟨d false,0,none⟩),.pointer (some ⟨d true,0,none⟩),.bool true,.bool false,W64 G]:=b9;clear b8' b9;simp only [aA,aB,Act.put,aC,aD,aE]))
        go_roundw
        case rel => exact .inr <| .inl ⟨rfl,by rw [HR.out],by rw [HR.out];exact mir_put (EV.out.step f6) ((f7.trans' f8).trans' f9) b9' rfl⟩
        case measure => simp [intOf]
    · rcases hq : s.op0 with ⟨⟨s',c0,c1,g⟩,a⟩
      have hs' : s' = s:=by have:=op0_s s;rw [hq] at this;exact this
      subst hs'
      rw [hq] at ev
      have HE : s'.op1 = MS.opR ⟨s',c0,c1,g⟩ true a:=by unfold Sys.op1;rw [hq]
      clear hq
      cases ho : s'.stO true with
      | false =>
        have EV:=hid ev
        have hb : Blk wr m5 [.pointer (some ⟨d false,0,none⟩),.pointer (some ⟨d true,0,none⟩),.bool c0,.bool c1,W64 g]:=mir_blk ev.held
        have hs:=hid (HS.out true wr _ m5 rfl ev.held)
        rw [ho] at hs
        have HR:=hid ((fun ho => (show s'.op1 = (⟨s',c0,c1,g⟩,a) from HE.trans (opR_no (M:=⟨s',c0,c1,g⟩) ho))) ho)
        generalize s'.stG true = G at *
        clear ev HS ho
        go_wp2_with (first
         | (refine wpList_index_one rfl _ _ _ rfl 37 _ 2 Tryz.underlying110 Tryz.underlying37 rfl rfl [.pointer (some ⟨d false,0,none⟩),.pointer (some ⟨d true,0,none⟩)] rfl .i64 1 _ rfl rfl (.pointer (some ⟨d true,0,none⟩)) (by decide) rfl ?_;simp only [aA,aB,Act.put,aC,aD,aE])
         | (go_at_call 62;refine hs.out.mono ?_;rintro e w6 ⟨rfl,f6⟩;have b6:=f6.blk hb (by simp);have k6 : w6.cell? ⟨m5,4,none⟩ = some (W64 g):=b6.cell 4;clear hb b6))
        go_roundw
        case rel => exact .inr <| .inr ⟨rfl,by rw [HR.out],by rw [HR.out];exact EV.out.step f6⟩
        case measure => simp [intOf]
      | true =>
        cases a with
        | false =>
          have EV:=hid ev
          have hb : Blk wr m5 [.pointer (some ⟨d false,0,none⟩),.pointer (some ⟨d true,0,none⟩),.bool c0,.bool c1,W64 g]:=mir_blk ev.held
          have hs:=hid (HS.out true wr _ m5 rfl ev.held)
          rw [ho] at hs
          have HR:=hid ((fun ho => (show s'.op1 = (⟨s',false,true,s'.stG true⟩,true) from HE.trans (opR_new (M:=⟨s',c0,c1,g⟩) ho rfl))) ho)
          generalize s'.stG true = G at *
          clear ev HS ho
          go_wp2_with (first
           | (refine wpList_index_one rfl _ _ _ rfl 37 _ 2 Tryz.underlying110 Tryz.underlying37 rfl rfl [.pointer (some ⟨d false,0,none⟩),.pointer (some ⟨d true,0,none⟩)] rfl .i64 1 _ rfl rfl (.pointer (some ⟨d true,0,none⟩)) (by decide) rfl ?_;simp only [aA,aB,Act.put,aC,aD,aE])
           | (go_at_call 62;refine hs.out.mono ?_;rintro e w6 ⟨rfl,f6⟩;have b6:=f6.blk hb (by simp);have k6 : w6.cell? ⟨m5,4,none⟩ = some (W64 g):=b6.cell 4;clear hb)
           | (refine wpList_store_ag rfl _ _ _ rfl rfl [.bool false,.bool false] rfl b6 boolsT rfl (by simp) (by simp [Value.oneCell']) ?_;intro w7 f7 b7 hs7;have b7' : Blk w7 m5 [.pointer (some ⟨d false,0,none⟩),.pointer (some ⟨d true,0,none⟩),.bool false,.bool false,W64 g]:=b7;clear b6 b7;simp only [aA,aB,Act.put,aC,aD,aE])
           | (refine wpList_put rfl _ _ _ rfl rfl (W64 G) rfl rfl b7' (by simp) (by kernel_rfl) ?_;intro w8 f8 b8 hs8;have b8' : Blk w8 m5 [.pointer (some ⟨d false,0,none⟩),.pointer (some ⟨d true,0,none⟩),.bool false,.bool false,W64 G]:=b8;clear b7' b8;simp only [aA,aB,Act.put,aC,aD,aE])
           | (refine wpList_put rfl _ _ _ rfl rfl (.bool true) rfl rfl b8' (by simp) (by kernel_rfl) ?_;intro w9 f9 b9 hs9;have b9' : Blk w9 m5 [.pointer (some ⟨d false,0,none⟩),.pointer (some ⟨d true,0,none⟩),.bool false,.bool true,W64 G]:=b9;clear b8' b9;simp only [aA,aB,Act.put,aC,aD,aE]))
          go_roundw
          case rel => exact .inr <| .inr ⟨rfl,by rw [HR.out],by rw [HR.out];exact mir_put (EV.out.step f6) ((f7.trans' f8).trans' f9) b9' rfl⟩
          case measure => simp [intOf]
        | true =>
          by_cases hc : g < s'.stG true
          · have hu : decide (g < s'.stG true) = true:=decide_eq_true hc
            have EV:=hid ev
            have hb : Blk wr m5 [.pointer (some ⟨d false,0,none⟩),.pointer (some ⟨d true,0,none⟩),.bool c0,.bool c1,W64 g]:=mir_blk ev.held
            have hs:=hid (HS.out true wr _ m5 rfl ev.held)
            rw [ho] at hs
            have HR:=hid ((fun ho => (show s'.op1 = (⟨s',false,true,s'.stG true⟩,true) from HE.trans (opR_new (M:=⟨s',c0,c1,g⟩) ho (by show (!true || decide (g < s'.stG true)) = true;rw [hu];rfl)))) ho)
            generalize s'.stG true = G at *
            clear ev HS ho
            go_wp2_with (first
             | (refine wpList_index_one rfl _ _ _ rfl 37 _ 2 Tryz.underlying110 Tryz.underlying37 rfl rfl [.pointer (some ⟨d false,0,none⟩),.pointer (some ⟨d true,0,none⟩)] rfl .i64 1 _ rfl rfl (.pointer (some ⟨d true,0,none⟩)) (by decide) rfl ?_;simp only [aA,aB,Act.put,aC,aD,aE])
             | (go_at_call 62;refine hs.out.mono ?_;rintro e w6 ⟨rfl,f6⟩;have b6:=f6.blk hb (by simp);have k6 : w6.cell? ⟨m5,4,none⟩ = some (W64 g):=b6.cell 4;clear hb)
             | (refine wpList_store_ag rfl _ _ _ rfl rfl [.bool false,.bool false] rfl b6 boolsT rfl (by simp) (by simp [Value.oneCell']) ?_;intro w7 f7 b7 hs7;have b7' : Blk w7 m5 [.pointer (some ⟨d false,0,none⟩),.pointer (some ⟨d true,0,none⟩),.bool false,.bool false,W64 g]:=b7;clear b6 b7;simp only [aA,aB,Act.put,aC,aD,aE])
             | (refine wpList_put rfl _ _ _ rfl rfl (W64 G) rfl rfl b7' (by simp) (by kernel_rfl) ?_;intro w8 f8 b8 hs8;have b8' : Blk w8 m5 [.pointer (some ⟨d false,0,none⟩),.pointer (some ⟨d true,0,none⟩),.bool false,.bool false,W64 G]:=b8;clear b7' b8;simp only [aA,aB,Act.put,aC,aD,aE])
             | (refine wpList_put rfl _ _ _ rfl rfl (.bool true) rfl rfl b8' (by simp) (by kernel_rfl) ?_;intro w9 f9 b9 hs9;have b9' : Blk w9 m5 [.pointer (some ⟨d false,0,none⟩),.pointer (some ⟨d true,0,none⟩),.bool false,.bool true,W64 G]:=b9;clear b8' b9;simp only [aA,aB,Act.put,aC,aD,aE]))
            go_roundw
            case rel => exact .inr <| .inr ⟨rfl,by rw [HR.out],by rw [HR.out];exact mir_put (EV.out.step f6) ((f7.trans' f8).trans' f9) b9' rfl⟩
            case measure => simp [intOf]
          · have hu : decide (g < s'.stG true) = false:=decide_eq_false hc
            by_cases he : Hid (s'.stG true = g)
            · have hv : ∀ t : TypeId,binOp .eql t (W64 (s'.stG true)) (W64 g) = pure (.bool true):=have he':=he.out;fun t => by rw [eql_u64,show (s'.stG true == g) = true by simpa using he']
              have EV:=hid ev
              have hb : Blk wr m5 [.pointer (some ⟨d false,0,none⟩),.pointer (some ⟨d true,0,none⟩),.bool c0,.bool c1,W64 g]:=mir_blk ev.held
              have hs:=hid (HS.out true wr _ m5 rfl ev.held)
              rw [ho] at hs
              have HR:=hid ((fun ho => (show s'.op1 = (⟨s',c0,true,g⟩,true) from HE.trans (opR_eq (M:=⟨s',c0,c1,g⟩) ho (by show (!true || decide (g < s'.stG true)) = false;rw [hu];rfl) he.out))) ho)
              generalize s'.stG true = G at *
              clear ev HS ho
              go_wp2_with (first
               | (refine wpList_index_one rfl _ _ _ rfl 37 _ 2 Tryz.underlying110 Tryz.underlying37 rfl rfl [.pointer (some ⟨d false,0,none⟩),.pointer (some ⟨d true,0,none⟩)] rfl .i64 1 _ rfl rfl (.pointer (some ⟨d true,0,none⟩)) (by decide) rfl ?_;simp only [aA,aB,Act.put,aC,aD,aE])
               | (go_at_call 62;refine hs.out.mono ?_;rintro e w6 ⟨rfl,f6⟩;have b6:=f6.blk hb (by simp);have k6 : w6.cell? ⟨m5,4,none⟩ = some (W64 g):=b6.cell 4;clear hb)
               | (refine wpList_put rfl _ _ _ rfl rfl (.bool true) rfl rfl b6 (by simp) (by kernel_rfl) ?_;intro w9 f9 b9 hs9;have b9' : Blk w9 m5 [.pointer (some ⟨d false,0,none⟩),.pointer (some ⟨d true,0,none⟩),.bool c0,.bool true,W64 g]:=b9;clear b6 b9;simp only [aA,aB,Act.put,aC,aD,aE]))
              go_roundw
              case rel => exact .inr <| .inr ⟨rfl,by rw [HR.out],by rw [HR.out];exact mir_put (EV.out.step f6) f9 b9' rfl⟩
              case measure => simp [intOf]
            · have hv : ∀ t : TypeId,binOp .eql t (W64 (s'.stG true)) (W64 g) = pure (.bool false):=have he':=fun h => he (hid h);fun t => by rw [eql_u64,show (s'.stG true == g) = false by simpa using he']
              have EV:=hid ev
              have hb : Blk wr m5 [.pointer (some ⟨d false,0,none⟩),.pointer (some ⟨d true,0,none⟩),.bool c0,.bool c1,W64 g]:=mir_blk ev.held
              have hs:=hid (HS.out true wr _ m5 rfl ev.held)
              rw [ho] at hs
              have HR:=hid ((fun ho => (show s'.op1 = (⟨s',c0,c1,g⟩,true) from HE.trans (opR_old (M:=⟨s',c0,c1,g⟩) ho (by show (!true || decide (g < s'.stG true)) = false;rw [hu];rfl) (fun h => he (hid h))))) ho)
              generalize s'.stG true = G at *
              clear ev HS ho
              go_wp2_with (first
               | (refine wpList_index_one rfl _ _ _ rfl 37 _ 2 Tryz.underlying110 Tryz.underlying37 rfl rfl [.pointer (some ⟨d false,0,none⟩),.pointer (some ⟨d true,0,none⟩)] rfl .i64 1 _ rfl rfl (.pointer (some ⟨d true,0,none⟩)) (by decide) rfl ?_;simp only [aA,aB,Act.put,aC,aD,aE])
               | (go_at_call 62;refine hs.out.mono ?_;rintro e w6 ⟨rfl,f6⟩;have b6:=f6.blk hb (by simp);have k6 : w6.cell? ⟨m5,4,none⟩ = some (W64 g):=b6.cell 4;clear hb b6))
              go_roundw
              case rel => exact .inr <| .inr ⟨rfl,by rw [HR.out],by rw [HR.out];exact EV.out.step f6⟩
              case measure => simp [intOf]
    · cases ha : s.op1.2 with
      | false =>
        have EV:=hid ev
        clear ev HS
        go_wp2_with fail
        all_goals first
         | (rename_i h;exact absurd ha (by rw [h];decide))
         | (go_ret2;exact ⟨rfl,m5,EV.out⟩)
      | true =>
        have EV:=hid ev
        clear ev HS
        go_wp2_with fail
        all_goals first
         | (rename_i h;exact absurd ha h)
         | (go_ret2;exact ⟨m5,rfl,EV.out⟩)
end
end Go.Proofs.YtgafefecookgaaaGreat
namespace Go.Proofs.YtgafefecookgaaaGreat
open Go Go.Xr Go.RowKit
structure RS where
 s : Sys
 n : Nat
def RS.step (r : RS) (f : Bool) (i : Nat) : RS:=if r.s.rdS f i = r.s.rdS (!f) i then r else ⟨r.s.wr (!f) i (r.s.rdS f i),r.n + 1⟩
def RS.run (f : Bool) : Nat → Nat → RS → RS × Bool
 | 0,_,r => (r,true)
 | k + 1,i,r => if r.s.rdC f i = 0 then RS.run f k (i + 1) (r.step f i) else (r,false)
def MS.rsEnd (M : MS) (f : Bool) : MS × Int :=
 if (M.s.fl (!f)).wrC f 0 (supS (M.g + 1) ((M.s.fl (!f)).len f)) = 0
 then (⟨((((M.s.fl (!f)).wr f 0 (supS (M.g + 1) ((M.s.fl (!f)).len f))).wr (!f) 0 (supS (M.g + 1) ((M.s.fl (!f)).len f))).fl f).fl (!f),true,true,M.g + 1⟩,0)
 else (MS.lose ⟨(M.s.fl (!f)).wr f 0 (supS (M.g + 1) ((M.s.fl (!f)).len f)),M.c0,M.c1,M.g + 1⟩ f,(MS.lose ⟨(M.s.fl (!f)).wr f 0 (supS (M.g + 1) ((M.s.fl (!f)).len f)),M.c0,M.c1,M.g + 1⟩ f).leftC)
def MS.rsDead (M : MS) (f : Bool) : MS:=if M.c (!f) then M.lose (!f) else M
def MS.rsMain (M : MS) (f : Bool) (q : RS × Bool) : MS × Nat × Int :=
 if q.2 then ((MS.rsEnd { M with s:=q.1.s } f).1,q.1.n,(MS.rsEnd { M with s:=q.1.s } f).2) else (MS.lose { M with s:=q.1.s } f,q.1.n,(MS.lose { M with s:=q.1.s } f).leftC)
def MS.rsF (M : MS) (f : Bool) : MS × Nat × Int :=
 if (M.s.X (!f)).Dead then (M.rsDead f,0,(M.rsDead f).leftC) else M.rsMain f (RS.run f (M.s.len f - 1) 1 ⟨M.s,0⟩)
def MS.rs (M : MS) : MS × Nat × Int:=if M.any then M.rsF (!M.c0) else (M,0,70)
theorem step_stp (r : RS) (f : Bool) (i : Nat) : Stp 2 r.s (r.step f i).s:=by
 unfold RS.step
 split
 · exact (Stp.refl _).mono (by omega)
 · exact wr_stp _ _ _ _
theorem run_stp (f : Bool) : ∀ (k i : Nat) (r : RS),Stp (2 * k) r.s (RS.run f k i r).1.s
 | 0,_,r => Stp.refl _
 | k + 1,i,r => by
   unfold RS.run
   split
   · exact ((step_stp r f i).trans (run_stp f k (i + 1) _)).mono (by omega)
   · exact (Stp.refl _).mono (by omega)
theorem rsEnd_stp (M : MS) (f : Bool) : Stp 10 M.s (M.rsEnd f).1.s:=by
 unfold MS.rsEnd
 split
 · exact ((((fl_stp M.s _).trans (wr_stp _ _ _ _)).trans (wr_stp _ _ _ _)).trans (fl_stp _ _)).trans (fl_stp _ _)
 · refine Stp.mono (n:=2 + 2 + 4) ?_ (by decide)
   exact ((fl_stp M.s (!f)).trans (wr_stp _ _ _ _)).trans (lose_stp ⟨_,_,_,_⟩ f)
theorem rsF_stp (M : MS) (f : Bool) : Stp (2 * M.s.len f + 10) M.s (M.rsF f).1.s:=by
 unfold MS.rsF
 split
 · unfold MS.rsDead
   split
   · exact (lose_stp M (!f)).mono (by omega)
   · exact (Stp.refl _).mono (by omega)
 · unfold MS.rsMain
   split
   · exact ((run_stp f _ 1 ⟨M.s,0⟩).trans (rsEnd_stp { M with s:=_ } f)).mono (by omega)
   · exact ((run_stp f _ 1 ⟨M.s,0⟩).trans (lose_stp { M with s:=_ } f)).mono (by omega)
theorem rs_stp (M : MS) : Stp (2 * M.s.len (!M.c0) + 10) M.s M.rs.1.s:=by
 unfold MS.rs
 split
 · exact rsF_stp _ _
 · exact (Stp.refl _).mono (by omega)
section
variable {w w' w0 : World} {l rs : List Res} {pbs : List Nat} {m : Nat} {s : Sys} {M M' : MS} {d : Bool → Nat} {FF FF' : Bool → List Nat}
theorem mresync_lost (h : Held w (l ++ mirC pbs m d FF M)) (hl : M.any = false) :
 Calls Tryz.prog 74 #[.pointer (some ⟨m,0,none⟩)] w fun e w' => e = .returned (.tuple #[.int .i64 0,.int .i64 70]) ∧ w' = w:=by
 have hb:=mir_blk h
 have k0 : w.cell? ⟨m,0,none⟩ = some (.pointer (some ⟨d false,0,none⟩)):=hb.cell 0
 have hF:=hid (mleft_any h)
 rw [show M.leftC = 70 by unfold MS.leftC;rw [hl];rfl] at hF
 generalize d false = da at k0
 clear h hb hl
 go_enter Tryz.func74,Tryz.ntmps74
 go_wp2_with (go_at_call 105;refine hF.out.mono ?_;rintro e w5 ⟨rfl,hw⟩;subst hw)
 go_ret2
 exact ⟨rfl,rfl⟩
theorem mresync_dead (f : Bool) (h : Held w (l ++ mirC pbs m d FF M)) (ok : SysOk M.s) (ht : M.s.T < 998900) (hf : M.c0 = !f) (hc : M.c f = true) (hd : (M.s.X (!f)).Dead = true) :
 Calls Tryz.prog 74 #[.pointer (some ⟨m,0,none⟩)] w fun e w' => e = .returned (.tuple #[.int .i64 0,.int .i64 (M.rsDead f).leftC]) ∧ ∃ FF',Ev w (l ++ mirC pbs m d FF M) w' (l ++ mirC pbs m d FF' (M.rsDead f)):=by
 have HH:=hid h
 have hb:=mir_blk h
 have hF:=hid (mleft_any h)
 have HL:=hid fun (w1 : World) (FF1 : Bool → List Nat) (h1 : Held w1 (l ++ mirC pbs m d FF1 (M.rsDead f))) => mleft_any h1
 have ha : M.leftC = 0:=by
  unfold MS.leftC MS.any
  cases f
  · rw [show M.c0 = true from hc];rfl
  · rw [show M.c1 = true from hc];cases M.c0 <;> rfl
 rw [ha] at hF
 have k0 : w.cell? ⟨m,0,none⟩ = some (.pointer (some ⟨d false,0,none⟩)):=hb.cell 0
 have k1 : w.cell? ⟨m,1,none⟩ = some (.pointer (some ⟨d true,0,none⟩)):=hb.cell 1
 have k2 : w.cell? ⟨m,2,none⟩ = some (.bool M.c0):=hb.cell 2
 have k3 : w.cell? ⟨m,3,none⟩ = some (.bool M.c1):=hb.cell 3
 have HS:=hid (show (w.drew.cell? ⟨m,0,none⟩ = some (.pointer (some ⟨d false,0,none⟩))) ∧ (w.drew.cell? ⟨m,1,none⟩ = some (.pointer (some ⟨d true,0,none⟩))) from ⟨k0,k1⟩)
 have E0:=hid (show Ev w (l ++ mirC pbs m d FF M) w.drew (l ++ mirC pbs m d FF M) from (Ev.refl h).step (Fr.refl [] w).drew)
 have hD:=hid (sDead (!f) (mir_sys E0.out.held) ok)
 rw [hd] at hD
 have hlo:=hid (loseOk1 (l:=l) (pbs:=pbs) (m:=m) (d:=d) (B:=999000) (Nat.le_refl _) w.drew (!f) M FF E0.out.held ok (by omega) (fun h => by cases h))
 have hl2:=hid (mleft_any E0.out.held)
 rw [ha] at hl2
 have HR:=hid (show M.rsDead f = if M.c (!f) then M.lose (!f) else M from rfl)
 have HA:=hid ha
 generalize M.rsDead f = MD at *
 clear h hb ok ht hd ha
 cases f with
 | false =>
   have e0 : M.c0 = true:=hf
   rw [e0] at k2
   cases hn : M.c1 with
   | false =>
     rw [hn] at k3
     have HR1:=hid (show MD = M by rw [HR.out,show M.c (!false) = M.c1 from rfl,hn];rfl)
     clear hlo HL hn HR
     go_enter Tryz.func74,Tryz.ntmps74
     go_wp2_with (go_at_call 105;refine hF.out.mono ?_;rintro e w5 ⟨rfl,hw⟩;subst hw)
     refine wp_region_D (fun w' => w'.cell? ⟨m,0,none⟩ = some (.pointer (some ⟨d false,0,none⟩)) ∧ w'.cell? ⟨m,1,none⟩ = some (.pointer (some ⟨d true,0,none⟩))) false [] (by kernel_rfl) ?_
     refine WD.pure [0,1,2,3,4,5,6,7,8,9,10,11,12,13,14] (by kernel_rfl) HS.out ?_
     simp only [pick,aF,aG,aI,aJ,aK]
     repeat (first | (refine quiet_load_1R (by rfl) _ _ rfl rfl (.pointer (some ⟨d false,0,none⟩)) (fun w0 h => h.1) _ Tryz.underlying37 rfl ?_;simp only [aA,aB,Act.put,aC,aD,aE]) | (refine quiet_load_1R (by rfl) _ _ rfl rfl (.pointer (some ⟨d true,0,none⟩)) (fun w0 h => h.2) _ Tryz.underlying37 rfl ?_;simp only [aA,aB,Act.put,aC,aD,aE]) | go_big_quiet_step (fail))
     refine wpQuiet_nil ?_
     refine WD.done (by kernel_rfl) ?_
     go_wp2_with (first
      | (go_at_call 16;refine hD.out.mono ?_;rintro e w6 ⟨rfl,hw⟩;subst hw)
      | (go_at_call 105;refine hl2.out.mono ?_;rintro e w7 ⟨rfl,hw⟩;subst hw))
     go_ret2
     rw [HR1.out,HA.out]
     exact ⟨rfl,FF,E0.out⟩
   | true =>
     rw [hn] at k3
     have HR1:=hid (show M.lose true = MD by rw [HR.out,show M.c (!false) = M.c1 from rfl,hn];rfl)
     rw [show (!false) = true from rfl,HR1.out] at hlo
     clear hl2 hn HR HR1
     go_enter Tryz.func74,Tryz.ntmps74
     go_wp2_with (go_at_call 105;refine hF.out.mono ?_;rintro e w5 ⟨rfl,hw⟩;subst hw)
     refine wp_region_D (fun w' => w'.cell? ⟨m,0,none⟩ = some (.pointer (some ⟨d false,0,none⟩)) ∧ w'.cell? ⟨m,1,none⟩ = some (.pointer (some ⟨d true,0,none⟩))) false [] (by kernel_rfl) ?_
     refine WD.pure [0,1,2,3,4,5,6,7,8,9,10,11,12,13,14] (by kernel_rfl) HS.out ?_
     simp only [pick,aF,aG,aI,aJ,aK]
     repeat (first | (refine quiet_load_1R (by rfl) _ _ rfl rfl (.pointer (some ⟨d false,0,none⟩)) (fun w0 h => h.1) _ Tryz.underlying37 rfl ?_;simp only [aA,aB,Act.put,aC,aD,aE]) | (refine quiet_load_1R (by rfl) _ _ rfl rfl (.pointer (some ⟨d true,0,none⟩)) (fun w0 h => h.2) _ Tryz.underlying37 rfl ?_;simp only [aA,aB,Act.put,aC,aD,aE]) | go_big_quiet_step (fail))
     refine wpQuiet_nil ?_
     refine WD.done (by kernel_rfl) ?_
     go_wp2_with (first
      | (go_at_call 16;refine hD.out.mono ?_;rintro e w6 ⟨rfl,hw⟩;subst hw)
      | (go_at_call 104;refine hlo.out.mono ?_;rintro e w7 ⟨rfl,FF7,v7⟩;have E7:=hid (E0.out.trans v7);have hlf:=HL.out w7 FF7 v7.held;clear HL)
      | (go_at_call 105;refine hlf.mono ?_;rintro e w8 ⟨rfl,hw⟩;subst hw))
     go_ret2
     exact ⟨rfl,FF7,E7.out⟩
 | true =>
   have e0 : M.c0 = false:=hf
   rw [e0] at k2
   have HR1:=hid (show MD = M by rw [HR.out,show M.c (!true) = M.c0 from rfl,e0];rfl)
   clear hlo HL HR
   go_enter Tryz.func74,Tryz.ntmps74
   go_wp2_with (go_at_call 105;refine hF.out.mono ?_;rintro e w5 ⟨rfl,hw⟩;subst hw)
   refine wp_region_D (fun w' => w'.cell? ⟨m,0,none⟩ = some (.pointer (some ⟨d false,0,none⟩)) ∧ w'.cell? ⟨m,1,none⟩ = some (.pointer (some ⟨d true,0,none⟩))) false [] (by kernel_rfl) ?_
   refine WD.pure [0,1,2,3,4,5,6,7,8,9,10,11,12,13,14] (by kernel_rfl) HS.out ?_
   simp only [pick,aF,aG,aI,aJ,aK]
   repeat (first | (refine quiet_load_1R (by rfl) _ _ rfl rfl (.pointer (some ⟨d false,0,none⟩)) (fun w0 h => h.1) _ Tryz.underlying37 rfl ?_;simp only [aA,aB,Act.put,aC,aD,aE]) | (refine quiet_load_1R (by rfl) _ _ rfl rfl (.pointer (some ⟨d true,0,none⟩)) (fun w0 h => h.2) _ Tryz.underlying37 rfl ?_;simp only [aA,aB,Act.put,aC,aD,aE]) | go_big_quiet_step (fail))
   refine wpQuiet_nil ?_
   refine WD.done (by kernel_rfl) ?_
   go_wp2_with (first
    | (go_at_call 16;refine hD.out.mono ?_;rintro e w6 ⟨rfl,hw⟩;subst hw)
    | (go_at_call 105;refine hl2.out.mono ?_;rintro e w7 ⟨rfl,hw⟩;subst hw))
   go_ret2
   rw [HR1.out,HA.out]
   exact ⟨rfl,FF,E0.out⟩
end
end Go.Proofs.YtgafefecookgaaaGreat
