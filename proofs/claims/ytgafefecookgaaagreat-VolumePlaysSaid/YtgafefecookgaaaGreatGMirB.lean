/- Several texts put together: MirM, MirN, MirO, MirP, MirQ, MirK, MirR, MirS, MirT, MirU. What each shows stands ahead of it. -/
import Derived.Test.YtgafefecookgaaaGreatGMirA
import Derived.Test.YtgafefecookgaaaGreatGRef
import Derived.LaidEqlPtr
open Go.World renaming size_alloc → aA,size_drew → aB
open List renaming setIfInBounds_toArray → aC,set_cons_succ → aD,set_cons_zero → aE,toList_toArray → aF,map_cons → aG,map_nil → aI,getD_cons_succ → aJ,getD_cons_zero → aK
set_option linter.unusedVariables false
set_option linter.unusedSimpArgs false
set_option maxRecDepth 20000
set_option maxHeartbeats 16000000
namespace Go.Proofs.YtgafefecookgaaaGreat
open Go Go.Xr Go.RowKit
section
variable {w w' w0 : World} {l rs : List Res} {pbs : List Nat} {m : Nat} {M M' : MS} {d : Bool → Nat} {FF FF' : Bool → List Nat}
def MS.flushC (M : MS) : Int:=if M.any then M.eachF.leftC else 70
def MS.flushM (M : MS) : MS:=if M.any then M.eachF else M
theorem mflush_any (h : Held w (l ++ mirC pbs m d FF M)) (ok : SysOk M.s) (ht : M.s.T < 998900) :
 Calls Tryz.prog 71 #[.pointer (some ⟨m,0,none⟩)] w fun e w' => e = .returned (.int .i64 M.flushC) ∧ ∃ FF',Ev w (l ++ mirC pbs m d FF M) w' (l ++ mirC pbs m d FF' M.flushM):=by
 have hb:=mir_blk h
 have HH:=hid h
 have k0 : w.cell? ⟨m,0,none⟩ = some (.pointer (some ⟨d false,0,none⟩)):=hb.cell 0
 have hF:=hid (mleft_any h)
 have hE:=hid (eachF_any true (Bd:=999000) (by omega) (loseOk1 (Nat.le_refl _)) h ok (by omega) (fun h => by cases h))
 rw [doGN_F] at hE
 unfold MS.flushC MS.flushM
 unfold MS.leftC at hF
 generalize d false = da at k0
 clear h hb ok
 cases ha : M.any with
 | false =>
   rw [ha] at hF
   rw [if_neg (by simp)] at hF ⊢
   rw [if_neg (by simp)]
   clear hE ha
   go_enter Tryz.func71,Tryz.ntmps71
   go_wp2_with (go_at_call 105;refine hF.out.mono ?_;rintro e w5 ⟨rfl,hw⟩;subst hw)
   go_ret
   exact ⟨rfl,FF,Ev.refl HH.out⟩
 | true =>
   rw [ha] at hF
   rw [if_pos rfl] at hF ⊢
   rw [if_pos rfl]
   clear ha
   go_enter Tryz.func71,Tryz.ntmps71
   go_wp2_with (first
    | (go_at_call 105;refine hF.out.mono ?_;rintro e w5 ⟨rfl,hw⟩;subst hw)
    | (go_at_call 99;refine hE.out.mono ?_;rintro e w6 ⟨rfl,FF6,v6⟩))
   go_ret
   exact ⟨rfl,FF6,v6⟩
end
section
variable {w w' w0 : World} {l rs : List Res} {pbs : List Nat} {m : Nat} {M M' : MS} {d : Bool → Nat} {FF FF' : Bool → List Nat}
def MS.rd1 (M : MS) (i : Int) : MS × ByteArray × Int :=
 if M.c1 then (if M.s.rdC true (i + 1) = 0 then (M,M.s.rdS true (i + 1),0) else (M.lose true,⟨#[]⟩,70)) else (M,⟨#[]⟩,70)
def MS.rd0 (M : MS) (i : Int) : MS × ByteArray × Int :=
 if M.c0 then (if M.s.rdC false (i + 1) = 0 then (M,M.s.rdS false (i + 1),0) else (M.lose false).rd1 i) else M.rd1 i
def MS.rd (M : MS) (i : Int) : MS × ByteArray × Int:=if M.atC i = 0 then M.rd0 i else (M,⟨#[]⟩,M.atC i)
theorem atC_zero {M : MS} {i : Int} (h : M.atC i = 0) : 0 ≤ i ∧ i < (M.s.len false : Int) - 1:=by
 unfold MS.atC at h
 split at h
 · cases h
 · omega
theorem mread_any (h : Held w (l ++ mirC pbs m d FF M)) (ok : SysOk M.s) (ht : M.s.T < 998900) (i : Int) :
 Calls Tryz.prog 66 #[.pointer (some ⟨m,0,none⟩),.int .i64 i] w fun e w' => e = .returned (.tuple #[.string (M.rd i).2.1,.int .i64 (M.rd i).2.2]) ∧ ∃ FF',Ev w (l ++ mirC pbs m d FF M) w' (l ++ mirC pbs m d FF' (M.rd i).1):=by
 have hA:=hid (mat_any h ok i)
 have HH:=hid h
 by_cases h0 : M.atC i ≠ 0
 · have u0 : (M.atC i != 0) = true:=by simpa using h0
   unfold MS.rd
   rw [if_neg h0]
   generalize M.atC i = c at *
   clear h ok h0
   go_enter Tryz.func66,Tryz.ntmps66
   go_wp2_with (go_at_call 98;refine hA.out.mono ?_;rintro e w5 ⟨rfl,hw⟩;subst hw)
   go_ret2
   exact ⟨rfl,FF,Ev.refl HH.out⟩
 · replace h0 : M.atC i = 0:=Decidable.of_not_not h0
   obtain ⟨hi0,hi1⟩:=atC_zero h0
   have hlen:=len_le ok false
   rw [h0] at hA
   unfold MS.rd
   rw [if_pos h0]
   have hb2 : Blk w m [.pointer (some ⟨d false,0,none⟩),.pointer (some ⟨d true,0,none⟩),.bool M.c0,.bool M.c1,W64 M.g]:=mir_blk h
   have OK:=hid ok
   have hadd1 : -9223372036854775808 ≤ i + 1:=by omega
   have hadd2 : i + 1 ≤ 9223372036854775807:=by omega
   clear h ok h0
   go_enter Tryz.func66,Tryz.ntmps66
   go_wp2_with (first
    | (go_at_call 98;refine hA.out.mono ?_;rintro e w5 ⟨rfl,hw⟩;subst hw)
    | (refine wpList_load_ag rfl _ _ rfl rfl [.pointer (some ⟨d false,0,none⟩),.pointer (some ⟨d true,0,none⟩)] hb2 disksT rfl rfl ?_;simp only [aA,aB,Act.put,aC,aD,aE]))
   clear hb2
   go_loopw [21] (fun iv wr => (iv = .int .i64 0 ∧ ∃ FF',Ev w5 (l ++ mirC pbs m d FF M) wr (l ++ mirC pbs m d FF' M)) ∨ (iv = .int .i64 1 ∧ ∃ M1 FF',M.rd0 i = M1.rd1 i ∧ SysOk M1.s ∧ M1.s.T < 998910 ∧ Ev w5 (l ++ mirC pbs m d FF M) wr (l ++ mirC pbs m d FF' M1)) ∨ (iv = .int .i64 2 ∧ ∃ M2 FF',M.rd0 i = (M2,⟨#[]⟩,70) ∧ Ev w5 (l ++ mirC pbs m d FF M) wr (l ++ mirC pbs m d FF' M2))) (fun iv _ => 2 - (intOf iv).toNat)
   case atStart => exact .inl ⟨rfl,FF,Ev.refl HH.out⟩
   case round =>
    rcases hrel with ⟨rfl,FF1,ev⟩ | ⟨rfl,M1,FF1,h1,ok1,t1,ev⟩ | ⟨rfl,M2,FF1,h2,ev⟩
    · have EV:=hid ev
      have H : Held wr (l ++ mirC pbs m d FF1 M):=ev.held
      have hbr : Blk wr m [.pointer (some ⟨d false,0,none⟩),.pointer (some ⟨d true,0,none⟩),.bool (M).c0,.bool (M).c1,W64 (M).g]:=mir_blk H
      have kc:=hbr.cell (2 + 0)
      clear ev
      cases hc : (M).c false with
      | false =>
        have kc' : wr.cell? ⟨m,2 + 0,none⟩ = some (.bool false):=by rw [← hc];exact kc
        clear kc hbr
        go_wp2_with (refine wpList_index_one rfl _ _ _ rfl 37 _ 2 Tryz.underlying110 Tryz.underlying37 rfl rfl [.pointer (some ⟨d false,0,none⟩),.pointer (some ⟨d true,0,none⟩)] rfl .i64 0 _ rfl rfl (.pointer (some ⟨d false,0,none⟩)) (by decide) rfl ?_;simp only [aA,aB,Act.put,aC,aD,aE])
        go_roundw
        case rel => exact (.inr (.inl ⟨rfl,M,FF1,by unfold MS.rd0;rw [if_neg (by rw [show M.c0 = false from hc];decide)],OK.out,by omega,EV.out⟩))
        case measure => simp [intOf]
      | true =>
        have kc' : wr.cell? ⟨m,2 + 0,none⟩ = some (.bool true):=by rw [← hc];exact kc
        have hcl:=hid (sR false (mir_sys H) OK.out (i + 1) (by omega) (by omega))
        have hlo:=hid (loseOk1 (l:=l) (pbs:=pbs) (m:=m) (d:=d) (B:=999000) (Nat.le_refl _) wr false M FF1 H OK.out (Nat.lt_of_lt_of_le (show M.s.T < 998910 by omega) (by omega)) (fun h => by cases h))
        clear kc hbr
        by_cases hz : (M).s.rdC false (i + 1) = 0
        · have u0 : ((M).s.rdC false (i + 1) == 0) = true:=by simpa using hz
          have HE:=hid (show M.rd0 i = (M,M.s.rdS false (i + 1),0) by unfold MS.rd0;rw [if_pos (show M.c0 = true from hc),if_pos hz])
          generalize (M).s.rdC false (i + 1) = ec at *
          generalize (M).s.rdS false (i + 1) = sc at *
          clear hlo hz
          go_wp2_with (first
           | (refine wpList_index_one rfl _ _ _ rfl 37 _ 2 Tryz.underlying110 Tryz.underlying37 rfl rfl [.pointer (some ⟨d false,0,none⟩),.pointer (some ⟨d true,0,none⟩)] rfl .i64 0 _ rfl rfl (.pointer (some ⟨d false,0,none⟩)) (by decide) rfl ?_;simp only [aA,aB,Act.put,aC,aD,aE])
           | (go_at_call 95;refine hcl.out.mono ?_;rintro e w6 ⟨rfl,hw⟩;subst hw))
          go_ret2
          rw [HE.out]
          exact ⟨rfl,FF1,EV.out⟩
        · have u0 : ((M).s.rdC false (i + 1) == 0) = false:=by simpa using hz
          have HE:=hid (show M.rd0 i = (M.lose false).rd1 i by unfold MS.rd0;rw [if_pos (show M.c0 = true from hc),if_neg hz])
          generalize (M).s.rdC false (i + 1) = ec at *
          generalize (M).s.rdS false (i + 1) = sc at *
          clear hz
          go_wp2_with (first
           | (refine wpList_index_one rfl _ _ _ rfl 37 _ 2 Tryz.underlying110 Tryz.underlying37 rfl rfl [.pointer (some ⟨d false,0,none⟩),.pointer (some ⟨d true,0,none⟩)] rfl .i64 0 _ rfl rfl (.pointer (some ⟨d false,0,none⟩)) (by decide) rfl ?_;simp only [aA,aB,Act.put,aC,aD,aE])
           | (go_at_call 95;refine hcl.out.mono ?_;rintro e w6 ⟨rfl,hw⟩;subst hw)
           | (go_at_call 104;refine hlo.out.mono ?_;rintro e w7 ⟨rfl,FF7,v7⟩))
          go_roundw
          case rel => exact (.inr (.inl ⟨rfl,M.lose false,FF7,HE.out,(lose_stp M false).ok OK.out,Nat.lt_of_le_of_lt ((lose_stp M false).T OK.out) (by omega),EV.out.trans v7⟩))
          case measure => simp [intOf]
    · have EV:=hid ev
      have H : Held wr (l ++ mirC pbs m d FF1 M1):=ev.held
      have hbr : Blk wr m [.pointer (some ⟨d false,0,none⟩),.pointer (some ⟨d true,0,none⟩),.bool (M1).c0,.bool (M1).c1,W64 (M1).g]:=mir_blk H
      have kc:=hbr.cell (2 + 1)
      clear ev
      cases hc : (M1).c true with
      | false =>
        have kc' : wr.cell? ⟨m,2 + 1,none⟩ = some (.bool false):=by rw [← hc];exact kc
        clear kc hbr
        go_wp2_with (refine wpList_index_one rfl _ _ _ rfl 37 _ 2 Tryz.underlying110 Tryz.underlying37 rfl rfl [.pointer (some ⟨d false,0,none⟩),.pointer (some ⟨d true,0,none⟩)] rfl .i64 1 _ rfl rfl (.pointer (some ⟨d true,0,none⟩)) (by decide) rfl ?_;simp only [aA,aB,Act.put,aC,aD,aE])
        go_roundw
        case rel => exact (.inr (.inr ⟨rfl,M1,FF1,by rw [h1];unfold MS.rd1;rw [if_neg (by rw [show M1.c1 = false from hc];decide)],EV.out⟩))
        case measure => simp [intOf]
      | true =>
        have kc' : wr.cell? ⟨m,2 + 1,none⟩ = some (.bool true):=by rw [← hc];exact kc
        have hcl:=hid (sR true (mir_sys H) ok1 (i + 1) (by omega) (by omega))
        have hlo:=hid (loseOk1 (l:=l) (pbs:=pbs) (m:=m) (d:=d) (B:=999000) (Nat.le_refl _) wr true M1 FF1 H ok1 (Nat.lt_of_lt_of_le t1 (by omega)) (fun h => by cases h))
        clear kc hbr
        by_cases hz : (M1).s.rdC true (i + 1) = 0
        · have u0 : ((M1).s.rdC true (i + 1) == 0) = true:=by simpa using hz
          have HE:=hid (show M.rd0 i = (M1,M1.s.rdS true (i + 1),0) by rw [h1];unfold MS.rd1;rw [if_pos (show M1.c1 = true from hc),if_pos hz])
          generalize (M1).s.rdC true (i + 1) = ec at *
          generalize (M1).s.rdS true (i + 1) = sc at *
          clear hlo hz
          go_wp2_with (first
           | (refine wpList_index_one rfl _ _ _ rfl 37 _ 2 Tryz.underlying110 Tryz.underlying37 rfl rfl [.pointer (some ⟨d false,0,none⟩),.pointer (some ⟨d true,0,none⟩)] rfl .i64 1 _ rfl rfl (.pointer (some ⟨d true,0,none⟩)) (by decide) rfl ?_;simp only [aA,aB,Act.put,aC,aD,aE])
           | (go_at_call 95;refine hcl.out.mono ?_;rintro e w6 ⟨rfl,hw⟩;subst hw))
          go_ret2
          rw [HE.out]
          exact ⟨rfl,FF1,EV.out⟩
        · have u0 : ((M1).s.rdC true (i + 1) == 0) = false:=by simpa using hz
          have HE:=hid (show M.rd0 i = (M1.lose true,⟨#[]⟩,70) by rw [h1];unfold MS.rd1;rw [if_pos (show M1.c1 = true from hc),if_neg hz])
          generalize (M1).s.rdC true (i + 1) = ec at *
          generalize (M1).s.rdS true (i + 1) = sc at *
          clear hz
          go_wp2_with (first
           | (refine wpList_index_one rfl _ _ _ rfl 37 _ 2 Tryz.underlying110 Tryz.underlying37 rfl rfl [.pointer (some ⟨d false,0,none⟩),.pointer (some ⟨d true,0,none⟩)] rfl .i64 1 _ rfl rfl (.pointer (some ⟨d true,0,none⟩)) (by decide) rfl ?_;simp only [aA,aB,Act.put,aC,aD,aE])
           | (go_at_call 95;refine hcl.out.mono ?_;rintro e w6 ⟨rfl,hw⟩;subst hw)
           | (go_at_call 104;refine hlo.out.mono ?_;rintro e w7 ⟨rfl,FF7,v7⟩))
          go_roundw
          case rel => exact (.inr (.inr ⟨rfl,M1.lose true,FF7,HE.out,EV.out.trans v7⟩))
          case measure => simp [intOf]
    · go_wp2_with fail
      go_ret2
      rw [h2]
      exact ⟨rfl,FF1,ev⟩
end
section
variable {w w' w0 : World} {l rs : List Res} {pbs : List Nat} {m : Nat} {M M' : MS} {d : Bool → Nat} {FF FF' : Bool → List Nat}
def MS.wrE (M : MS) (i : Int) (S : ByteArray) : Int:=if S.size = 512 then (if M.atC i = 0 then (M.eachW (i + 1) S).leftC else M.atC i) else 2
def MS.wrM (M : MS) (i : Int) (S : ByteArray) : MS:=if S.size = 512 then (if M.atC i = 0 then M.eachW (i + 1) S else M) else M
theorem atC_one (M : MS) (i : Int) : M.atC i ≠ 1:=by
 unfold MS.atC MS.leftC
 split
 · decide
 · split <;> decide
theorem mwrite_any (h : Held w (l ++ mirC pbs m d FF M)) (ok : SysOk M.s) (ht : M.s.T < 998900) (i : Int) (S : ByteArray) (hS : S.size ≤ 9223372036854775807) :
 Calls Tryz.prog 63 #[.pointer (some ⟨m,0,none⟩),.int .i64 i,.string S] w fun e w' => e = .returned (.int .i64 (M.wrE i S)) ∧ ∃ FF',Ev w (l ++ mirC pbs m d FF M) w' (l ++ mirC pbs m d FF' (M.wrM i S)):=by
 have h1:=atC_one M i
 have hlen:=len_le ok false
 have E1 : Hid (∀ (o1 o2 : Obj),o1 = .cells #[.int .i64 i] 3 → o2 = .cells #[.string S] 9 → Ev w (l ++ mirC pbs m d FF M) ((w.alloc o1).alloc o2) ((Res.blk (w.heap.size + 1) [.string S] :: Res.blk w.heap.size [.int .i64 i] :: l) ++ mirC pbs m d FF M)):=hid fun o1 o2 h1 h2 => by
  subst h1 h2
  have e1:=(Ev.refl h).new ((Fr.refl [] w).alloc _) (Res.On.blk (Blk.alloc w [.int .i64 i] 3)) (fun b hb => by simp [Res.blk] at hb;omega)
  have b2:=Blk.alloc (w.alloc (.cells #[.int .i64 i] 3)) [.string S] 9
  have e2:=e1.new ((Fr.refl [] _).alloc _) (Res.On.blk b2) (fun b hb => by simp [Res.blk] at hb;simp;omega)
  rw [World.size_alloc] at e2
  exact e2
 have HA : Hid (∀ (w1 : World),Held w1 ((Res.blk (w.heap.size + 1) [.string S] :: Res.blk w.heap.size [.int .i64 i] :: l) ++ mirC pbs m d FF M) → _):=hid fun w1 h1 => mat_any h1 ok i
 have HB1 : Hid (∀ (w1 : World),Held w1 ((Res.blk (w.heap.size + 1) [.string S] :: Res.blk w.heap.size [.int .i64 i] :: l) ++ mirC pbs m d FF M) → w1.cell? ⟨w.heap.size + 1,0,none⟩ = some (.string S)):=hid fun w1 h1 => (h1.blkAt 0 rfl : Blk w1 _ [.string S]).cell 0
 have HS:=hid hS
 unfold MS.wrE MS.wrM
 obtain ⟨c,hc⟩ : ∃ c,M.atC i = c:=⟨_,rfl⟩
 rw [hc] at HA h1
 by_cases h5 : S.size = 512
 · by_cases h0 : c = 0
   · obtain ⟨hi0,hi1⟩:=atC_zero (hc.trans h0)
     obtain ⟨I,rfl⟩:=Int.eq_ofNat_of_zero_le hi0
     have HE:=hid fun (w1 : World) (h1 : Held w1 ((Res.blk (w.heap.size + 1) [.string S] :: Res.blk w.heap.size [.int .i64 (I : Int)] :: l) ++ mirC pbs m d FF M)) => eachW_any (ib:=w.heap.size) (sb:=w.heap.size + 1) (I:=I) (S:=S) true (Bd:=999000) (by omega) (loseOk1 (Nat.le_refl _)) h1 ok (by omega) (fun h => by cases h) (by omega) hS (fun w2 r h2 => (h2.blkAt 1 rfl : Blk w2 _ [.int .i64 (I : Int)]).cell 0) (fun w2 r h2 => (h2.blkAt 0 rfl : Blk w2 _ [.string S]).cell 0)
     rw [doGN_W] at HE
     rw [hc,if_pos h5,if_pos h0,if_pos h5,if_pos h0]
     subst h0
     have u5 : ((S.size : Int) != 512) = false:=by simp;omega
     clear h ok hc hS h5
     go_enter Tryz.func63,Tryz.ntmps63
     go_wp2_with (first
      | (go_at_call 98;have E2:=hid (E1.out _ _ rfl rfl);have hat:=HA.out _ E2.out.held;refine hat.mono ?_;rintro e w5 ⟨rfl,hw⟩;have hk:=HB1.out _ E2.out.held;have hee:=HE.out _ E2.out.held;subst hw;clear hat)
      | (go_at_call 99;refine hee.mono ?_;rintro e w6 ⟨rfl,FF6,v6⟩))
     go_ret
     exact ⟨rfl,FF6,Ev.less [] _ (Ev.less [] _ (E2.out.trans v6))⟩
   · rw [hc,if_pos h5,if_neg h0,if_pos h5,if_neg h0]
     have u5 : ((S.size : Int) != 512) = false:=by simp;omega
     have u0 : (c != 0) = true:=by simpa using h0
     have u1 : (c != 1) = true:=by simpa using h1
     clear h ok hc hS h5 h0
     go_enter Tryz.func63,Tryz.ntmps63
     go_wp2_with (go_at_call 98;have E2:=hid (E1.out _ _ rfl rfl);have hat:=HA.out _ E2.out.held;refine hat.mono ?_;rintro e w5 ⟨rfl,hw⟩;have hk:=HB1.out _ E2.out.held;subst hw;clear hat)
     go_ret
     exact ⟨rfl,FF,Ev.less [] _ (Ev.less [] _ E2.out)⟩
 · rw [if_neg h5,if_neg h5]
   have u5 : ((S.size : Int) != 512) = true:=by simp;omega
   have u1 : (c != 1) = true:=by simpa using h1
   clear h ok hc hS h5
   go_enter Tryz.func63,Tryz.ntmps63
   go_wp2_with (go_at_call 98;have E2:=hid (E1.out _ _ rfl rfl);have hat:=HA.out _ E2.out.held;refine hat.mono ?_;rintro e w5 ⟨rfl,hw⟩;have hk:=HB1.out _ E2.out.held;subst hw;clear hat)
   go_ret
   exact ⟨rfl,FF,Ev.less [] _ (Ev.less [] _ E2.out)⟩
end
theorem eq_bools1 (a b : Bool) (w : World) : (Op.equalIn 10000 108 (.agg #[.bool a,.bool b]) (.agg #[.bool true,.bool true])).run Tryz.prog w = .ok (a && b) w:=by
 have hsz : ∀ w,(sizeOf 4).run Tryz.prog w = .ok 1 w:=fun w => rfl
 rw [show (10000 : Nat) = 9999 + 1 from rfl,Op.equalIn]
 simp only [Sem.run_bind,run_underlying Tryz.underlying108,Result.andThen_ok,hsz,Std.Legacy.Range.forIn_eq_forIn_range',Std.Legacy.Range.size,Nat.sub_zero,Nat.add_sub_cancel,Nat.div_one]
 have px : ∀ (vs : Array Value) (i : Nat) (v : Value),vs[i]? = some v → (part 4 vs (i * 1)).run Tryz.prog w = .ok v w:=by
  intro vs i v h
  simp [part,isAgg,run_underlying Tryz.underlying4,h]
 have h0:=px #[.bool a,.bool b] 0 (.bool a) rfl
 have h1:=px #[.bool a,.bool b] 1 (.bool b) rfl
 have g0:=px #[.bool true,.bool true] 0 (.bool true) rfl
 have g1:=px #[.bool true,.bool true] 1 (.bool true) rfl
 rw [show List.range' 0 2 1 = [0,1] from rfl]
 simp only [List.forIn_cons,List.forIn_nil,Sem.run_bind,h0,h1,g0,g1,eqb,Result.andThen_ok]
 cases a <;> cases b <;> simp [Sem.run_bind,h1,g1,eqb]
section
variable {w w' w0 : World} {l rs : List Res} {pbs : List Nat} {m : Nat} {M M' : MS} {d : Bool → Nat} {FF FF' : Bool → List Nat}
def MS.ot1 (M : MS) (i : Int) : MS × ByteArray × Int :=
 if M.s.rdC true (i + 1) = 0 then (M,M.s.rdS true (i + 1),0) else (M.lose true,⟨#[]⟩,if (M.lose true).leftC = 0 then 5 else (M.lose true).leftC)
def MS.ot (M : MS) (i : Int) : MS × ByteArray × Int:=if M.atC i = 0 then (if M.c0 && M.c1 then M.ot1 i else (M,⟨#[]⟩,5)) else (M,⟨#[]⟩,M.atC i)
theorem mother_any (h : Held w (l ++ mirC pbs m d FF M)) (ok : SysOk M.s) (ht : M.s.T < 998900) (i : Int) :
 Calls Tryz.prog 69 #[.pointer (some ⟨m,0,none⟩),.int .i64 i] w fun e w' => e = .returned (.tuple #[.string (M.ot i).2.1,.int .i64 (M.ot i).2.2]) ∧ ∃ FF',Ev w (l ++ mirC pbs m d FF M) w' (l ++ mirC pbs m d FF' (M.ot i).1):=by
 have hA:=hid (mat_any h ok i)
 have HH:=hid h
 by_cases h0 : M.atC i ≠ 0
 · have u0 : (M.atC i != 0) = true:=by simpa using h0
   unfold MS.ot
   rw [if_neg h0]
   generalize M.atC i = c at *
   clear h ok h0
   go_enter Tryz.func69,Tryz.ntmps69
   go_wp2_with (go_at_call 98;refine hA.out.mono ?_;rintro e w5 ⟨rfl,hw⟩;subst hw)
   go_ret2
   exact ⟨rfl,FF,Ev.refl HH.out⟩
 · replace h0 : M.atC i = 0:=Decidable.of_not_not h0
   obtain ⟨hi0,hi1⟩:=atC_zero h0
   have hlen:=len_le ok false
   rw [h0] at hA
   unfold MS.ot
   rw [if_pos h0]
   have hb2 : Blk w m [.pointer (some ⟨d false,0,none⟩),.pointer (some ⟨d true,0,none⟩),.bool M.c0,.bool M.c1,W64 M.g]:=mir_blk h
   have k1 : w.cell? ⟨m,1,none⟩ = some (.pointer (some ⟨d true,0,none⟩)):=hb2.cell 1
   have hadd1 : -9223372036854775808 ≤ i + 1:=by omega
   have hadd2 : i + 1 ≤ 9223372036854775807:=by omega
   have hcl:=hid (sR true (mir_sys h) ok (i + 1) (by omega) (by omega))
   have hlo:=hid (loseOk1 (l:=l) (pbs:=pbs) (m:=m) (d:=d) (B:=999000) (Nat.le_refl _) w true M FF h ok (by omega) (fun h => by cases h))
   have heq:=eq_bools1
   by_cases hcc : (M.c0 && M.c1) = true
   · rw [if_pos hcc]
     obtain ⟨e0,e1⟩ : M.c0 = true ∧ M.c1 = true:=by simpa using hcc
     rw [e0,e1] at hb2
     have HL:=hid fun (w1 : World) (FF1 : Bool → List Nat) (h1 : Held w1 (l ++ mirC pbs m d FF1 (M.lose true))) => mleft_any h1
     unfold MS.ot1
     clear h ok h0 e0 e1 hcc
     by_cases hz : M.s.rdC true (i + 1) = 0
     · have u0 : (M.s.rdC true (i + 1) == 0) = true:=by simpa using hz
       rw [if_pos hz]
       generalize M.s.rdC true (i + 1) = ec at *
       clear hlo hz HL
       go_enter Tryz.func69,Tryz.ntmps69
       go_wp2_with (first
        | (go_at_call 98;refine hA.out.mono ?_;rintro e w5 ⟨rfl,hw⟩;subst hw)
        | (refine wpList_load_ag rfl _ _ rfl rfl [.bool true,.bool true] hb2 boolsT rfl rfl ?_;simp only [aA,aB,Act.put,aC,aD,aE])
        | (go_at_call 95;refine hcl.out.mono ?_;rintro e w6 ⟨rfl,hw⟩;subst hw))
       go_ret2
       exact ⟨rfl,FF,Ev.refl HH.out⟩
     · have u0 : (M.s.rdC true (i + 1) == 0) = false:=by simpa using hz
       rw [if_neg hz]
       generalize M.s.rdC true (i + 1) = ec at *
       generalize M.lose true = M2 at *
       obtain ⟨lc,hlc⟩ : ∃ lc,M2.leftC = lc:=⟨_,rfl⟩
       rw [hlc] at HL ⊢
       clear hz hlc
       by_cases h7 : lc = 0
       · have u7 : (lc != 0) = false:=by simpa using h7
         rw [if_pos h7]
         clear h7
         go_enter Tryz.func69,Tryz.ntmps69
         go_wp2_with (first
          | (go_at_call 98;refine hA.out.mono ?_;rintro e w5 ⟨rfl,hw⟩;subst hw)
          | (refine wpList_load_ag rfl _ _ rfl rfl [.bool true,.bool true] hb2 boolsT rfl rfl ?_;simp only [aA,aB,Act.put,aC,aD,aE])
          | (go_at_call 95;refine hcl.out.mono ?_;rintro e w6 ⟨rfl,hw⟩;subst hw)
          | (go_at_call 104;refine hlo.out.mono ?_;rintro e w7 ⟨rfl,FF7,v7⟩;have V7:=hid v7;have hlf:=HL.out w7 FF7 v7.held;clear HL)
          | (go_at_call 105;refine hlf.mono ?_;rintro e w8 ⟨rfl,hw⟩;subst hw))
         go_ret2
         exact ⟨rfl,FF7,V7.out⟩
       · have u7 : (lc != 0) = true:=by simpa using h7
         rw [if_neg h7]
         clear h7
         go_enter Tryz.func69,Tryz.ntmps69
         go_wp2_with (first
          | (go_at_call 98;refine hA.out.mono ?_;rintro e w5 ⟨rfl,hw⟩;subst hw)
          | (refine wpList_load_ag rfl _ _ rfl rfl [.bool true,.bool true] hb2 boolsT rfl rfl ?_;simp only [aA,aB,Act.put,aC,aD,aE])
          | (go_at_call 95;refine hcl.out.mono ?_;rintro e w6 ⟨rfl,hw⟩;subst hw)
          | (go_at_call 104;refine hlo.out.mono ?_;rintro e w7 ⟨rfl,FF7,v7⟩;have V7:=hid v7;have hlf:=HL.out w7 FF7 v7.held;clear HL)
          | (go_at_call 105;refine hlf.mono ?_;rintro e w8 ⟨rfl,hw⟩;subst hw))
         go_ret2
         exact ⟨rfl,FF7,V7.out⟩
   · rw [if_neg hcc]
     have hcf : (M.c0 && M.c1) = false:=by simpa using hcc
     generalize M.c0 = a at *
     generalize M.c1 = b at *
     clear h ok h0 hlo hcl k1 hcc
     go_enter Tryz.func69,Tryz.ntmps69
     go_wp2_with (first
      | (go_at_call 98;refine hA.out.mono ?_;rintro e w5 ⟨rfl,hw⟩;subst hw)
      | (refine wpList_load_ag rfl _ _ rfl rfl [.bool a,.bool b] hb2 boolsT rfl rfl ?_;simp only [aA,aB,Act.put,aC,aD,aE]))
     go_ret2
     exact ⟨rfl,FF,Ev.refl HH.out⟩
end
end Go.Proofs.YtgafefecookgaaaGreat
namespace Go.Xr
open Go
theorem run_ptr_ne {P : Program} {w : World} {a b : Nat} (ha : Pln w a) (hb : Pln w b) (hne : a ≠ b) {tp te : TypeId} {j : TypeInfo} (hp : P.underlying tp = some (.pointer te)) (hte : P.info? te = some j) (hsz : j.size ≠ 0) :
 (binOp .eql tp (.pointer (some ⟨a,0,none⟩)) (.pointer (some ⟨b,0,none⟩))).run P w = .ok (.bool false) w:=by
 obtain ⟨ta,ca,ha⟩:=ha
 obtain ⟨tb,cb,hb⟩:=hb
 exact run_eql_ptr_other w hp hte hsz (fun e => hne (by injection e)) ha hb
end Go.Xr
namespace Go.Proofs.YtgafefecookgaaaGreat
open Go Go.Xr Go.RowKit
section
variable {w w' w0 : World} {l rs : List Res} {pbs : List Nat} {m : Nat} {s : Sys} {M M' : MS} {d : Bool → Nat} {FF FF' : Bool → List Nat}
theorem len_pos (ok : SysOk s) (b : Bool) : 1 ≤ s.len b ∧ s.len b ≤ 16384:=⟨(ok.g b).pos,(ok.g b).le⟩
theorem disks_ne (h : Held w (l ++ sysC pbs s d FF)) : d false ≠ d true:=by
 have h2 : Held w (sysC pbs s d FF):=Held.part l [] (by simpa using h)
 have e1:=rep_mem (h2.at 1 rfl).1
 have e2:=rep_mem (h2.at 2 rfl).1
 intro e
 rw [e] at e1
 exact h2.idx_ne (i:=1) (j:=2) (by decide) rfl rfl (d true) e1 e2
theorem disk_pln (b : Bool) (h : Held w (l ++ sysC pbs s d FF)) : Pln w (d b):=by
 have h2 : Held w (sysC pbs s d FF):=Held.part l [] (by simpa using h)
 cases b
 · exact (h2.at 1 rfl).2
 · exact (h2.at 2 rfl).2
theorem ptrs_ne (h : Held w (l ++ sysC pbs s d FF)) : (binOp .eql 37 (.pointer (some ⟨d false,0,none⟩)) (.pointer (some ⟨d true,0,none⟩))).run Tryz.prog w = .ok (.bool false) w:=by
 exact run_ptr_ne (disk_pln false h) (disk_pln true h) (disks_ne h) Tryz.underlying37 rfl (by decide)
theorem two_ok (h : Held w (l ++ sysC pbs s d FF)) (ok : SysOk s) (hl : s.len false = s.len true) (h2 : 2 ≤ s.len true) :
 Calls Tryz.prog 52 #[.pointer (some ⟨d false,0,none⟩),.pointer (some ⟨d true,0,none⟩)] w fun e w' => ∃ m,e = .returned (.tuple #[.pointer (some ⟨m,0,none⟩),.int .i64 0]) ∧ Ev w (l ++ sysC pbs s d FF) w' (l ++ mirC pbs m d FF ⟨s,false,false,0⟩) ∧ w.heap.size ≤ m:=by
 have hL0:=hid (sLen false h ok)
 have hL1:=hid (sLen true h ok)
 rw [hl] at hL0
 have hne:=ptrs_ne h
 have hp:=len_pos ok true
 have HH:=hid h
 generalize s.len true = n at *
 have u1 : ((n : Int) == 0) = false:=by simp;omega
 have u2 : ((n : Int) != (n : Int)) = false:=by simp
 have u3 : decide ((n : Int) < 2) = false:=by simp;omega
 obtain ⟨da,hda⟩ : ∃ da,d false = da:=⟨_,rfl⟩
 obtain ⟨db,hdb⟩ : ∃ db,d true = db:=⟨_,rfl⟩
 rw [hda] at hL0 hne ⊢
 rw [hdb] at hL1 hne ⊢
 have HD:=hid (And.intro hda hdb)
 clear h ok hl hda hdb
 go_enter Tryz.func52,Tryz.ntmps52
 go_wp2_with (first
  | (go_at_call 55;with_reducible refine hL0.out.mono ?_;rintro e w5 ⟨rfl,hw⟩;subst hw)
  | (go_at_call 55;with_reducible refine hL1.out.mono ?_;rintro e w5 ⟨rfl,hw⟩;subst hw))
 go_ret2
 have eb : Blk (w5.alloc (.cells #[.pointer (some ⟨da,0,none⟩),.pointer (some ⟨db,0,none⟩),.bool false,.bool false,.int .u64 0] 112)) w5.heap.size (mirL d ⟨s,false,false,0⟩):=by
  have:=Blk.alloc w5 [.pointer (some ⟨da,0,none⟩),.pointer (some ⟨db,0,none⟩),.bool false,.bool false,.int .u64 0] 112
  unfold mirL
  rw [HD.out.1,HD.out.2]
  exact this
 refine ⟨_,rfl,?_,Nat.le_refl _⟩
 have e1:=(Ev.refl HH.out).new ((Fr.refl [] w5).alloc _) (mirR_on (M:=⟨s,false,false,0⟩) eb (Pln.alloc w5 _ _)) (fun b hb => by simp [mirR] at hb;omega)
 exact Ev.perm e1 List.perm_middle.symm
end
section
variable {w w' w0 : World} {l rs : List Res} {pbs : List Nat} {m : Nat} {s : Sys} {M M' : MS} {d : Bool → Nat} {FF FF' : Bool → List Nat}
theorem two_arg (h : Held w (l ++ sysC pbs s d FF)) (ok : SysOk s) (hl : s.len false = s.len true → s.len true < 2) :
 Calls Tryz.prog 52 #[.pointer (some ⟨d false,0,none⟩),.pointer (some ⟨d true,0,none⟩)] w fun e w' => e = .returned (.tuple #[.pointer none,.int .i64 2]) ∧ w' = w:=by
 have hL0:=hid (sLen false h ok)
 have hL1:=hid (sLen true h ok)
 have hne:=ptrs_ne h
 have hp0:=len_pos ok false
 have hp1:=len_pos ok true
 generalize s.len false = n0 at *
 generalize s.len true = n1 at *
 generalize d false = da at *
 generalize d true = db at *
 have u0 : ((n0 : Int) == 0) = false:=by simp;omega
 have u1 : ((n1 : Int) == 0) = false:=by simp;omega
 clear h ok
 by_cases he : n0 = n1
 · have h2:=hl he
   have u2 : ((n0 : Int) != (n1 : Int)) = false:=by simp;omega
   have u3 : decide ((n0 : Int) < 2) = true:=by simp;omega
   clear he hl h2
   go_enter Tryz.func52,Tryz.ntmps52
   go_wp2_with (first
    | (go_at_call 55;with_reducible refine hL0.out.mono ?_;rintro e w5 ⟨rfl,hw⟩;subst hw)
    | (go_at_call 55;with_reducible refine hL1.out.mono ?_;rintro e w5 ⟨rfl,hw⟩;subst hw))
   go_ret2
   exact ⟨rfl,rfl⟩
 · have u2 : ((n0 : Int) != (n1 : Int)) = true:=by simp;omega
   clear he hl
   go_enter Tryz.func52,Tryz.ntmps52
   go_wp2_with (first
    | (go_at_call 55;with_reducible refine hL0.out.mono ?_;rintro e w5 ⟨rfl,hw⟩;subst hw)
    | (go_at_call 55;with_reducible refine hL1.out.mono ?_;rintro e w5 ⟨rfl,hw⟩;subst hw))
   go_ret2
   exact ⟨rfl,rfl⟩
end
section
variable {w w' w0 : World} {l rs : List Res} {pbs : List Nat} {m : Nat} {s : Sys} {M M' : MS} {d : Bool → Nat} {FF FF' : Bool → List Nat}
end
theorem mt_now_size : ∀ (l : List (Nat × ByteArray)) (i : Nat) (k : ByteArray),k.size = 512 → (∀ p ∈ l,p.2.size = 512) → (nowX l i k).size = 512
 | [],_,_,h,_ => h
 | p :: l,i,k,h,hl => by
   show (nowX l i (if p.1 = i then p.2 else k)).size = 512
   refine mt_now_size l i _ ?_ (fun q hq => hl q (List.mem_cons_of_mem _ hq))
   split
   · exact hl p (List.mem_cons_self ..)
   · exact h
theorem mt_rd_size {X : XD} (g : XGood X) (lf : Option Nat) (j : Int) (h : rdC X lf j = 0) : (rdS X lf j).size = 512:=by
 obtain ⟨_,⟨q,rfl,hq⟩,_⟩:=mayN_ok h
 unfold rdS
 rw [if_pos (show mayN X (mk 0 lf) (q : Int) ⟨#[]⟩ false = 0 from h),Int.toNat_natCast]
 refine mt_now_size _ _ _ ?_ (fun p hp => (g.l512 p hp).1)
 have : X.Kept.getD q ⟨#[]⟩ = X.Kept[q]:=by simp [hq]
 rw [this]
 exact g.k512 _ (List.getElem_mem hq)
theorem mt_beq (a b : ByteArray) : (a.toList == b.toList) = decide (a = b):=by
 rw [Bool.eq_iff_iff]
 simp only [beq_iff_eq,decide_eq_true_eq,ByteArray.toList_eq]
 constructor
 · intro h
   apply ByteArray.ext
   apply Array.ext'
   exact h
 · rintro rfl
   rfl
def Sys.stG (s : Sys) (b : Bool) : UInt64:=if s.rdC b 0 = 0 then genS (s.rdS b 0) else 0
def Sys.stO (s : Sys) (b : Bool) : Bool:=if s.rdC b 0 = 0 then decide (supS (genS (s.rdS b 0)) (s.len b) = s.rdS b 0) else false
section
variable {w w' w0 : World} {l rs : List Res} {pbs : List Nat} {m : Nat} {s : Sys} {M M' : MS} {d : Bool → Nat} {FF FF' : Bool → List Nat}
theorem stamp_any (b : Bool) (h : Held w (l ++ sysC pbs s d FF)) (ok : SysOk s) :
 Calls Tryz.prog 62 #[.pointer (some ⟨d b,0,none⟩)] w fun e w' => e = .returned (.tuple #[W64 (s.stG b),.bool (s.stO b)]) ∧ Fr [] w w':=by
 have hR:=hid (sR b h ok 0 (by decide) (by decide))
 have hsz:=mt_rd_size (ok.g b) (s.lf b) 0
 unfold Sys.stG Sys.stO
 by_cases hz : s.rdC b 0 = 0
 · have hS : (s.rdS b 0).size = 512:=hsz hz
   rw [if_pos hz,if_pos hz]
   rw [hz] at hR
   have HL:=hid fun (w1 : World) (f : Fr [] w w1) => sLen b (h.keep0 f) ok
   have hn:=(len_pos ok b).2
   generalize s.rdS b 0 = S at *
   generalize s.len b = n at *
   generalize d b = db at *
   have hX : (S.extract 4 S.size).size = 508:=by simp;omega
   have h2:=hid fun (w1 : World) (p : Nat) (hb : Blk w1 p (rdrL (S.extract 4 S.size) 0 0)) => mir.ru64_any (S.extract 4 S.size) hb (by rw [hX];decide) (by rw [hX];decide)
   have HG : UInt64.ofNat (tell8 (S.extract 4 S.size)) = genS S:=rfl
   rw [HG] at h2
   have h1:=hid fun w1 : World => rcd.rnew_any (w:=w1) (S.extract 4 S.size)
   have h3:=hid fun w1 : World => super_any (w:=w1) (genS S) n hn
   rw [hS] at h1 h2
   generalize genS S = g at *
   generalize supS g n = Z at *
   clear h ok hsz hz hX HG
   go_enter Tryz.func62,Tryz.ntmps62
   go_wp2_with (first
    | (go_at_call 95;with_reducible refine hR.out.mono ?_;rintro e w5 ⟨rfl,hw⟩;subst hw)
    | (go_at_call 96;refine (h1.out _).mono ?_;rintro e w6 ⟨rfl,b6,hlt6,f6⟩)
    | (go_at_call 97;refine (h2.out _ _ b6).mono ?_;rintro e w7 ⟨rfl,b7,f7⟩;have F7:=hid (f6.trans f7 (fun x hx => .inr (by simp at hx;omega))))
    | (go_at_call 55;refine (HL.out _ F7.out).mono ?_;rintro e w8 ⟨rfl,hw⟩;subst hw)
    | (go_at_call 54;refine (h3.out _).mono ?_;rintro e w9 ⟨rfl,f9⟩))
   go_ret2
   rw [← mt_beq]
   exact ⟨rfl,F7.out.trans' f9⟩
 · rw [if_neg hz,if_neg hz]
   have u0 : (s.rdC b 0 != 0) = true:=by simpa using hz
   generalize s.rdC b 0 = c at *
   generalize d b = db at *
   clear h ok hsz hz
   go_enter Tryz.func62,Tryz.ntmps62
   go_wp2_with (first
    | (go_at_call 95;with_reducible refine hR.out.mono ?_;rintro e w5 ⟨rfl,hw⟩;subst hw))
   go_ret2
   exact ⟨rfl,Fr.refl [] _⟩
end
def Sys.st (s : Sys) (b : Bool) (g : UInt64) : Sys:=s.wr b 0 (supS g (s.len b))
theorem st_stp (s : Sys) (b : Bool) (g : UInt64) : Stp 2 s (s.st b g):=wr_stp _ _ _ _
def Sys.made (s : Sys) : Sys:=(((s.st false 1).st true 1).fl false).fl true
theorem made_stp (s : Sys) : Stp 8 s s.made:=(((st_stp s false 1).trans (st_stp _ true 1)).trans (fl_stp _ false)).trans (fl_stp _ true)
section
variable {w w' w0 : World} {l rs : List Res} {pbs : List Nat} {m : Nat} {s : Sys} {M M' : MS} {d : Bool → Nat} {FF FF' : Bool → List Nat}
theorem slen_le (ok : SysOk s) (b : Bool) : s.len b ≤ 16384:=(ok.g b).le
theorem make_ok (h : Held w (l ++ sysC pbs s d FF)) (ok : SysOk s) (ht : s.T < 998900) (hl : s.len false = s.len true) (h2 : 2 ≤ s.len true) (h0 : (s.X false).Dead = false) (h1 : (s.X true).Dead = false) :
 Calls Tryz.prog 24 #[.pointer (some ⟨d false,0,none⟩),.pointer (some ⟨d true,0,none⟩)] w fun e w' => ∃ m FF',e = .returned (.tuple #[.pointer (some ⟨m,0,none⟩),.int .i64 0]) ∧ Ev w (l ++ sysC pbs s d FF) w' (l ++ mirC pbs m d FF' ⟨s.made,true,true,1⟩):=by
 have HT:=hid (two_ok h ok hl h2)
 have HD:=hid fun (b : Bool) (m : Nat) (w1 : World) (h1 : Held w1 (l ++ mirC pbs m d FF ⟨s,false,false,0⟩)) => sDead b (mir_sys h1) ok
 have OK0:=hid ok
 have OK1:=hid ((st_stp s false 1).ok ok)
 have OK2:=hid ((st_stp _ true 1).ok OK1.out)
 have OK3:=hid ((fl_stp _ false).ok OK2.out)
 have T0:=hid ht
 have T1 : Hid ((s.st false 1).T < 999000):=hid (by have:=(st_stp s false 1).T ok;omega)
 have T2 : Hid (((s.st false 1).st true 1).T < 999100):=hid (by have:=(st_stp (s.st false 1) true 1).T OK1.out;have:=(st_stp s false 1).T ok;omega)
 have T3 : Hid ((((s.st false 1).st true 1).fl false).T < 999100):=hid (by have:=(fl_stp ((s.st false 1).st true 1) false).T OK2.out;have:=(st_stp (s.st false 1) true 1).T OK1.out;have:=(st_stp s false 1).T ok;omega)
 unfold Sys.made
 clear ok hl h2 h ht
 go_enter Tryz.func24,Tryz.ntmps24
 go_wp2_with (first
  | (go_at_call 52;refine HT.out.mono ?_;rintro e w5 ⟨m5,rfl,v5,hm5⟩;have V5:=hid v5;have hd0:=HD.out false m5 w5 v5.held;have hd1:=HD.out true m5 w5 v5.held;rw [h0] at hd0;rw [h1] at hd1;have b5 : Blk w5 m5 [.pointer (some ⟨d false,0,none⟩),.pointer (some ⟨d true,0,none⟩),.bool false,.bool false,.int .u64 0]:=mir_blk v5.held;clear v5 hm5 HD HT h0 h1)
  | (go_at_call 16;with_reducible refine hd0.mono ?_;rintro e w6 ⟨rfl,hw⟩;subst hw;clear hd0)
  | (go_at_call 16;with_reducible refine hd1.mono ?_;rintro e w6 ⟨rfl,hw⟩;subst hw;clear hd1)
  | (refine wpList_store_ag rfl _ _ _ rfl rfl [.bool true,.bool true] rfl b5 boolsT rfl (by simp) (by simp [Value.oneCell']) ?_;intro w8 f8 b8 hs8;have b8' : Blk w8 m5 [.pointer (some ⟨d false,0,none⟩),.pointer (some ⟨d true,0,none⟩),.bool true,.bool true,.int .u64 0]:=b8;clear b5 b8;simp only [aA,aB,Act.put,aC,aD,aE])
  | (refine wpList_put rfl _ _ _ rfl rfl (.int .u64 1) rfl rfl b8' (by simp) (by kernel_rfl) ?_;intro w9 f9 b9 hs9;have b9' : Blk w9 m5 [.pointer (some ⟨d false,0,none⟩),.pointer (some ⟨d true,0,none⟩),.bool true,.bool true,.int .u64 1]:=b9;have E9:=hid (mir_put (M':=⟨s,true,true,1⟩) V5.out (f8.trans' f9) b9' rfl);clear b9 b8' f8 f9;simp only [aA,aB,Act.put,aC,aD,aE])
  | (refine wpList_load_ag rfl _ _ rfl rfl [.pointer (some ⟨d false,0,none⟩),.pointer (some ⟨d true,0,none⟩)] b9' disksT rfl rfl ?_;simp only [aA,aB,Act.put,aC,aD,aE]))
 clear b9'
 go_loopw [38] (fun iv wr => (iv = .int .i64 0 ∧ ∃ FF',Ev w (l ++ sysC pbs s d FF) wr (l ++ mirC pbs m5 d FF' ⟨s,true,true,1⟩)) ∨ (iv = .int .i64 1 ∧ ∃ FF',Ev w (l ++ sysC pbs s d FF) wr (l ++ mirC pbs m5 d FF' ⟨s.st false 1,true,true,1⟩)) ∨ (iv = .int .i64 2 ∧ ∃ FF',Ev w (l ++ sysC pbs s d FF) wr (l ++ mirC pbs m5 d FF' ⟨(s.st false 1).st true 1,true,true,1⟩))) (fun iv _ => 2 - (intOf iv).toNat)
 case atStart => exact .inl ⟨rfl,FF,E9.out⟩
 case round =>
  rcases hrel with ⟨rfl,FF1,ev⟩ | ⟨rfl,FF1,ev⟩ | ⟨rfl,FF1,ev⟩
  · have EV:=hid ev
    have H : Held wr (l ++ mirC pbs m5 d FF1 ⟨s,true,true,1⟩):=ev.held
    have hL:=hid (sLen false (mir_sys H) OK0.out)
    have hS : Hid (∀ w1 : World,Calls Tryz.prog 54 #[.int .u64 1,.int .i64 ((s).len false : Int)] w1 fun e w' => e = .returned (.string (supS 1 ((s).len false))) ∧ Fr [] w1 w'):=hid fun w1 : World => super_any (w:=w1) 1 ((s).len false) (slen_le OK0.out false)
    have hW : Hid (∀ w1 : World,Fr [] wr w1 → Calls Tryz.prog 53 #[.pointer (some ⟨d false,0,none⟩),.int .i64 0,.string (supS 1 ((s).len false))] w1 fun e w' => ∃ c FF',e = .returned (.int .i64 c) ∧ Ev w1 (l ++ mirC pbs m5 d FF1 ⟨s,true,true,1⟩) w' (l ++ mirC pbs m5 d FF' ⟨(s).st false 1,true,true,1⟩)):=hid fun w1 f => (mW false (H.keep0 f) OK0.out (Nat.lt_of_lt_of_le T0.out (by decide)) 0 (by decide) (by decide) (supS 1 ((s).len false)) (by rw [supS_size];decide)).mono (fun e w' h => ⟨_,h.2.choose,h.1,h.2.choose_spec⟩)
    clear ev H
    generalize supS 1 ((s).len false) = Z at *
    generalize (s).len false = n at *
    go_wp2_with (first
     | (refine wpList_index_one rfl _ _ _ rfl 37 _ 2 Tryz.underlying110 Tryz.underlying37 rfl rfl [.pointer (some ⟨d false,0,none⟩),.pointer (some ⟨d true,0,none⟩)] rfl .i64 0 _ rfl rfl (.pointer (some ⟨d false,0,none⟩)) (by decide) rfl ?_;simp only [aA,aB,Act.put,aC,aD,aE])
     | (go_at_call 55;with_reducible refine hL.out.mono ?_;rintro e w6 ⟨rfl,hw⟩;subst hw)
     | (go_at_call 54;refine (hS.out _).mono ?_;rintro e w7 ⟨rfl,f7⟩)
     | (go_at_call 53;refine (hW.out _ f7).mono ?_;rintro e w8 ⟨c,FF8,rfl,v8⟩))
    go_roundw
    case rel => exact .inr <| .inl ⟨rfl,FF8,(EV.out.step f7).trans v8⟩
    case measure => simp [intOf]
  · have EV:=hid ev
    have H : Held wr (l ++ mirC pbs m5 d FF1 ⟨s.st false 1,true,true,1⟩):=ev.held
    have hL:=hid (sLen true (mir_sys H) OK1.out)
    have hS : Hid (∀ w1 : World,Calls Tryz.prog 54 #[.int .u64 1,.int .i64 ((s.st false 1).len true : Int)] w1 fun e w' => e = .returned (.string (supS 1 ((s.st false 1).len true))) ∧ Fr [] w1 w'):=hid fun w1 : World => super_any (w:=w1) 1 ((s.st false 1).len true) (slen_le OK1.out true)
    have hW : Hid (∀ w1 : World,Fr [] wr w1 → Calls Tryz.prog 53 #[.pointer (some ⟨d true,0,none⟩),.int .i64 0,.string (supS 1 ((s.st false 1).len true))] w1 fun e w' => ∃ c FF',e = .returned (.int .i64 c) ∧ Ev w1 (l ++ mirC pbs m5 d FF1 ⟨s.st false 1,true,true,1⟩) w' (l ++ mirC pbs m5 d FF' ⟨(s.st false 1).st true 1,true,true,1⟩)):=hid fun w1 f => (mW true (H.keep0 f) OK1.out (Nat.lt_of_lt_of_le T1.out (by decide)) 0 (by decide) (by decide) (supS 1 ((s.st false 1).len true)) (by rw [supS_size];decide)).mono (fun e w' h => ⟨_,h.2.choose,h.1,h.2.choose_spec⟩)
    clear ev H
    generalize supS 1 ((s.st false 1).len true) = Z at *
    generalize (s.st false 1).len true = n at *
    go_wp2_with (first
     | (refine wpList_index_one rfl _ _ _ rfl 37 _ 2 Tryz.underlying110 Tryz.underlying37 rfl rfl [.pointer (some ⟨d false,0,none⟩),.pointer (some ⟨d true,0,none⟩)] rfl .i64 1 _ rfl rfl (.pointer (some ⟨d true,0,none⟩)) (by decide) rfl ?_;simp only [aA,aB,Act.put,aC,aD,aE])
     | (go_at_call 55;with_reducible refine hL.out.mono ?_;rintro e w6 ⟨rfl,hw⟩;subst hw)
     | (go_at_call 54;refine (hS.out _).mono ?_;rintro e w7 ⟨rfl,f7⟩)
     | (go_at_call 53;refine (hW.out _ f7).mono ?_;rintro e w8 ⟨c,FF8,rfl,v8⟩))
    go_roundw
    case rel => exact .inr <| .inr ⟨rfl,FF8,(EV.out.step f7).trans v8⟩
    case measure => simp [intOf]
  · have EV:=hid ev
    have hF0:=hid (mF false ev.held OK2.out (Nat.lt_of_lt_of_le T2.out (by decide)))
    have hF1:=hid fun (w1 : World) (FF2 : Bool → List Nat) (h1 : Held w1 (l ++ mirC pbs m5 d FF2 ⟨((s.st false 1).st true 1).fl false,true,true,1⟩)) => mF true h1 OK3.out (Nat.lt_of_lt_of_le T3.out (by decide))
    clear ev
    go_wp2_with (first
     | (go_at_call 56;with_reducible refine hF0.out.mono ?_;rintro e w6 ⟨rfl,FF6,v6⟩;have E6:=hid (EV.out.trans v6);have hf1:=hF1.out _ _ E6.out.held;clear v6 hF0)
     | (go_at_call 56;with_reducible refine hf1.mono ?_;rintro e w7 ⟨rfl,FF7,v7⟩))
    go_ret2
    exact ⟨_,FF7,rfl,E6.out.trans v7⟩
end
end Go.Proofs.YtgafefecookgaaaGreat
