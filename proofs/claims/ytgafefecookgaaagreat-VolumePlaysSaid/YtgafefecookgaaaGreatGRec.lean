/- Several texts put together: RecA, RecB, RecC. What each shows stands ahead of it. -/
import Derived.Test.YtgafefecookgaaaGreatGCore
import Derived.Test.YtgafefecookgaaaGreatProg
import Derived.LoopN
import Derived.WalkLawsBesides
import Derived.WalkSpells
import Derived.OwnWalk
open Go.World renaming size_alloc → aA,size_drew → aB
open List renaming setIfInBounds_toArray → aC,set_cons_succ → aD,set_cons_zero → aE,toList_toArray → aF,map_cons → aG,map_nil → aI,getD_cons_succ → aJ,getD_cons_zero → aK
set_option linter.unusedVariables false
set_option linter.unusedSimpArgs false
set_option maxRecDepth 20000
set_option maxHeartbeats 16000000
namespace Go.Xr
open Go
set_option linter.unusedVariables false
def leN (m n : Nat) : List UInt8:=(List.range n).map fun i => UInt8.ofNat (m / 2 ^ (8 * i))
theorem leN_len (m n : Nat) : (leN m n).length = n:=by simp [leN]
theorem leN_get (m n i : Nat) (h : i < n) : (leN m n)[i]? = some (UInt8.ofNat (m / 2 ^ (8 * i))):=by simp [leN,h]
theorem shr64_b (a : UInt64) (n : Nat) : (shr64 a n).toUInt8 = UInt8.ofNat (a.toNat / 2 ^ n):=by
 apply UInt8.toNat_inj.1
 have h1 : (shr64 a n).toNat = a.toNat / 2 ^ n:=by
  show (a.toBitVec >>> n).toNat = a.toNat / 2 ^ n
  rw [BitVec.toNat_ushiftRight,Nat.shiftRight_eq_div_pow]
  rfl
 rw [UInt64.toNat_toUInt8,h1,UInt8.toNat_ofNat']
def upL (l : List UInt8) (i : Nat) : List UInt8:=l.take i ++ List.replicate (l.length - i) 0
theorem upL_len (l : List UInt8) (i : Nat) (h : i ≤ l.length) : (upL l i).length = l.length:=by simp [upL];omega
theorem upL_zero (l : List UInt8) : upL l 0 = List.replicate l.length 0:=by simp [upL]
theorem upL_all (l : List UInt8) : upL l l.length = l:=by simp [upL]
theorem upL_set (l : List UInt8) (i : Nat) (c : UInt8) (h : l[i]? = some c) : (upL l i).set i c = upL l (i + 1):=by
 obtain ⟨hi,hc⟩:=List.getElem?_eq_some_iff.1 h
 unfold upL
 have e : l.length - i = (l.length - (i + 1)) + 1:=by omega
 rw [List.set_append_right _ _ (by rw [List.length_take];omega),List.length_take,Nat.min_eq_left (by omega),Nat.sub_self,e,List.replicate_succ,List.set_cons_zero,List.take_succ_eq_append_getElem hi,List.append_assoc,hc]
 rfl
end Go.Xr
namespace Go.Proofs.YtgafefecookgaaaGreat.rcd
open Go Go.Xr Go.RowKit
theorem infB8 : ∃ i,Tryz.prog.info? 5 = some i ∧ i.zero = some (bt 0) ∧ i.size = 1 ∧ i.bytes = 1:=⟨_,rfl,rfl,rfl,rfl⟩
theorem cv32_64 (w : World) (a : UInt32) : (convert 137 109 (W32 a)).run Tryz.prog w = .ok (W64 a.toUInt64) w:=conv_u32_u64 w _ _ a Tryz.underlying137 Tryz.underlying109 rfl
theorem cv64_b (w : World) (a : UInt64) : (convert 109 5 (W64 a)).run Tryz.prog w = .ok (bt a.toUInt8) w:=conv_u64_u8 w _ _ a Tryz.underlying109 Tryz.underlying5 rfl
attribute [local go_sem] shr_u64 cv64_b cv32_64
theorem num_any {w : World} (x : UInt64) (n : Nat) (hn : n ≤ 8) : Calls Tryz.prog 88 #[W64 x,.int .i64 (n : Int)] w fun e w' => e = .returned (.string ⟨(leN x.toNat n).toArray⟩) ∧ Fr [] w w':=by
 obtain ⟨i5,hi5,hz5,hs5,hb5⟩:=infB8
 have Hi:=hid hi5
 have Hz:=hid hz5
 have Hs:=hid hs5
 have Hb:=hid hb5
 clear hi5 hz5 hs5 hb5
 obtain ⟨L,hL⟩ : ∃ L,leN x.toNat n = L:=⟨_,rfl⟩
 have HLl:=hid (show L.length = n by rw [← hL,leN_len])
 have HLg:=hid (show ∀ i,i < n → L[i]? = some (UInt8.ofNat (x.toNat / 2 ^ (8 * i))) from fun i hi => by rw [← hL];exact leN_get _ _ _ hi)
 rw [hL]
 clear hL
 go_enter Tryz.func88,Tryz.ntmps88
 go_wp2_with (refine wpList_make_blk rfl _ _ _ rfl n n .i64 .i64 rfl rfl 5 _ _ 1 Tryz.underlying119 Hi.out Hz.out Hs.out Hb.out rfl (Nat.le_refl _) (by omega) (by omega) ?_;intro w1 f1 hlt1 hb1;simp only [aA,aB,Act.put,aC,aD,aE])
 obtain ⟨N,hN⟩ : ∃ N,w.heap.size = N:=⟨_,rfl⟩
 rw [hN] at hb1 hlt1 ⊢
 have HN:=hid hN
 have q1 : Blk w1 N (bv (upL L 0)):=by rw [upL_zero,HLl.out,bv_replicate];exact hb1
 clear hb1 hN
 go_loopw [6] (fun iv wr => ∃ i : Nat,i ≤ n ∧ iv = .int .i64 i ∧ Blk wr N (bv (upL L i)) ∧ Fr [] w wr) (fun iv _ => n - (intOf iv).toNat)
 case atStart => exact ⟨0,by omega,rfl,q1,f1⟩
 case round =>
  obtain ⟨i,hi,rfl,b1,f⟩:=hrel
  clear q1 f1
  by_cases hli : i < n
  · have hd : decide (i < n) = true:=by simp;omega
    have hm : 8 * (i : Int) ≤ 56:=by omega
    have hm0 : (0 : Int) ≤ 8 * (i : Int):=by omega
    have hsr : ∀ (t : TypeId) (a : UInt64),binOp .shr t (W64 a) (.int .u64 (8 * (i : Int))) = pure (W64 (shr64 a (8 * i))):=fun t a => by
     have:=shr_u64 t a .u64 (8 * (i : Int)) hm0
     rw [show (8 * (i : Int)).toNat = 8 * i by omega] at this
     exact this
    obtain ⟨X,hX⟩ : ∃ X,UInt8.ofNat (x.toNat / 2 ^ (8 * i)) = X:=⟨_,rfl⟩
    have Hset:=hid (show (upL L i).set i X = upL L (i + 1) from upL_set _ _ _ (by rw [HLg.out i hli,hX]))
    have HX:=hid hX
    have Hbl:=hid (show i < (bv (upL L i)).length by rw [bv_length,upL_len _ _ (by rw [HLl.out];exact hi),HLl.out];exact hli)
    clear hX
    go_wp2_with (refine wpList_put rfl _ _ _ rfl rfl (bt X) (by rw [← HX.out];first | exact congrArg bt (shr64_b _ _) | exact congrArg bt ((shr64_b _ _).trans (by rw [UInt32.toNat_toUInt64]))) rfl b1 Hbl.out (by kernel_rfl) ?_;intro w2 f2 b2 hs2;simp only [aA,aB,Act.put,aC,aD,aE])
    rw [← bv_set,Hset.out] at b2
    go_roundw
    case rel => exact ⟨i + 1,by omega,by go_num,b2,f.trans f2 (by simp;have:=HN.out;omega)⟩
    case measure => simp [intOf];omega
  · have hd : decide (i < n) = false:=by simp;omega
    have ei : i = L.length:=by rw [HLl.out];omega
    rw [ei,upL_all] at b1
    clear ei hi hli
    go_wp2_with (refine wpList_string_of_bytes rfl 119 9 5 _ rfl n n rfl b1 L HLl.out (by rw [List.drop_zero,← bv_length,List.take_length]) Tryz.underlying119 Tryz.underlying5 Tryz.underlying9 ?_;simp only [aA,aB,Act.put,aC,aD,aE])
    go_ret
    exact ⟨rfl,f⟩
theorem put32_any {w : World} (x : UInt32) (n : Nat) (hn : n ≤ 8) : Calls Tryz.prog 111 #[W32 x,.int .i64 (n : Int)] w fun e w' => e = .returned (.string ⟨(leN x.toNat n).toArray⟩) ∧ Fr [] w w':=by
 obtain ⟨i5,hi5,hz5,hs5,hb5⟩:=infB8
 have Hi:=hid hi5
 have Hz:=hid hz5
 have Hs:=hid hs5
 have Hb:=hid hb5
 clear hi5 hz5 hs5 hb5
 obtain ⟨L,hL⟩ : ∃ L,leN x.toNat n = L:=⟨_,rfl⟩
 have HLl:=hid (show L.length = n by rw [← hL,leN_len])
 have HLg:=hid (show ∀ i,i < n → L[i]? = some (UInt8.ofNat (x.toNat / 2 ^ (8 * i))) from fun i hi => by rw [← hL];exact leN_get _ _ _ hi)
 rw [hL]
 clear hL
 go_enter Tryz.func111,Tryz.ntmps111
 go_wp2_with (refine wpList_make_blk rfl _ _ _ rfl n n .i64 .i64 rfl rfl 5 _ _ 1 Tryz.underlying119 Hi.out Hz.out Hs.out Hb.out rfl (Nat.le_refl _) (by omega) (by omega) ?_;intro w1 f1 hlt1 hb1;simp only [aA,aB,Act.put,aC,aD,aE])
 obtain ⟨N,hN⟩ : ∃ N,w.heap.size = N:=⟨_,rfl⟩
 rw [hN] at hb1 hlt1 ⊢
 have HN:=hid hN
 have q1 : Blk w1 N (bv (upL L 0)):=by rw [upL_zero,HLl.out,bv_replicate];exact hb1
 clear hb1 hN
 go_loopw [11] (fun iv wr => ∃ i : Nat,i ≤ n ∧ iv = .int .i64 i ∧ Blk wr N (bv (upL L i)) ∧ Fr [] w wr) (fun iv _ => n - (intOf iv).toNat)
 case atStart => exact ⟨0,by omega,rfl,q1,f1⟩
 case round =>
  obtain ⟨i,hi,rfl,b1,f⟩:=hrel
  clear q1 f1
  by_cases hli : i < n
  · have hd : decide (i < n) = true:=by simp;omega
    have hm : 8 * (i : Int) ≤ 56:=by omega
    have hm0 : (0 : Int) ≤ 8 * (i : Int):=by omega
    have hsr : ∀ (t : TypeId) (a : UInt64),binOp .shr t (W64 a) (.int .u64 (8 * (i : Int))) = pure (W64 (shr64 a (8 * i))):=fun t a => by
     have:=shr_u64 t a .u64 (8 * (i : Int)) hm0
     rw [show (8 * (i : Int)).toNat = 8 * i by omega] at this
     exact this
    obtain ⟨X,hX⟩ : ∃ X,UInt8.ofNat (x.toNat / 2 ^ (8 * i)) = X:=⟨_,rfl⟩
    have Hset:=hid (show (upL L i).set i X = upL L (i + 1) from upL_set _ _ _ (by rw [HLg.out i hli,hX]))
    have HX:=hid hX
    have Hbl:=hid (show i < (bv (upL L i)).length by rw [bv_length,upL_len _ _ (by rw [HLl.out];exact hi),HLl.out];exact hli)
    clear hX
    go_wp2_with (refine wpList_put rfl _ _ _ rfl rfl (bt X) (by rw [← HX.out];first | exact congrArg bt (shr64_b _ _) | exact congrArg bt ((shr64_b _ _).trans (by rw [UInt32.toNat_toUInt64]))) rfl b1 Hbl.out (by kernel_rfl) ?_;intro w2 f2 b2 hs2;simp only [aA,aB,Act.put,aC,aD,aE])
    rw [← bv_set,Hset.out] at b2
    go_roundw
    case rel => exact ⟨i + 1,by omega,by go_num,b2,f.trans f2 (by simp;have:=HN.out;omega)⟩
    case measure => simp [intOf];omega
  · have hd : decide (i < n) = false:=by simp;omega
    have ei : i = L.length:=by rw [HLl.out];omega
    rw [ei,upL_all] at b1
    clear ei hi hli
    go_wp2_with (refine wpList_string_of_bytes rfl 119 9 5 _ rfl n n rfl b1 L HLl.out (by rw [List.drop_zero,← bv_length,List.take_length]) Tryz.underlying119 Tryz.underlying5 Tryz.underlying9 ?_;simp only [aA,aB,Act.put,aC,aD,aE])
    go_ret
    exact ⟨rfl,f⟩
theorem put64_any {w : World} (x : UInt64) (n : Nat) (hn : n ≤ 8) : Calls Tryz.prog 110 #[W64 x,.int .i64 (n : Int)] w fun e w' => e = .returned (.string ⟨(leN x.toNat n).toArray⟩) ∧ Fr [] w w':=by
 obtain ⟨i5,hi5,hz5,hs5,hb5⟩:=infB8
 have Hi:=hid hi5
 have Hz:=hid hz5
 have Hs:=hid hs5
 have Hb:=hid hb5
 clear hi5 hz5 hs5 hb5
 obtain ⟨L,hL⟩ : ∃ L,leN x.toNat n = L:=⟨_,rfl⟩
 have HLl:=hid (show L.length = n by rw [← hL,leN_len])
 have HLg:=hid (show ∀ i,i < n → L[i]? = some (UInt8.ofNat (x.toNat / 2 ^ (8 * i))) from fun i hi => by rw [← hL];exact leN_get _ _ _ hi)
 rw [hL]
 clear hL
 go_enter Tryz.func110,Tryz.ntmps110
 go_wp2_with (refine wpList_make_blk rfl _ _ _ rfl n n .i64 .i64 rfl rfl 5 _ _ 1 Tryz.underlying119 Hi.out Hz.out Hs.out Hb.out rfl (Nat.le_refl _) (by omega) (by omega) ?_;intro w1 f1 hlt1 hb1;simp only [aA,aB,Act.put,aC,aD,aE])
 obtain ⟨N,hN⟩ : ∃ N,w.heap.size = N:=⟨_,rfl⟩
 rw [hN] at hb1 hlt1 ⊢
 have HN:=hid hN
 have q1 : Blk w1 N (bv (upL L 0)):=by rw [upL_zero,HLl.out,bv_replicate];exact hb1
 clear hb1 hN
 go_loopw [11] (fun iv wr => ∃ i : Nat,i ≤ n ∧ iv = .int .i64 i ∧ Blk wr N (bv (upL L i)) ∧ Fr [] w wr) (fun iv _ => n - (intOf iv).toNat)
 case atStart => exact ⟨0,by omega,rfl,q1,f1⟩
 case round =>
  obtain ⟨i,hi,rfl,b1,f⟩:=hrel
  clear q1 f1
  by_cases hli : i < n
  · have hd : decide (i < n) = true:=by simp;omega
    have hm : 8 * (i : Int) ≤ 56:=by omega
    have hm0 : (0 : Int) ≤ 8 * (i : Int):=by omega
    have hsr : ∀ (t : TypeId) (a : UInt64),binOp .shr t (W64 a) (.int .u64 (8 * (i : Int))) = pure (W64 (shr64 a (8 * i))):=fun t a => by
     have:=shr_u64 t a .u64 (8 * (i : Int)) hm0
     rw [show (8 * (i : Int)).toNat = 8 * i by omega] at this
     exact this
    obtain ⟨X,hX⟩ : ∃ X,UInt8.ofNat (x.toNat / 2 ^ (8 * i)) = X:=⟨_,rfl⟩
    have Hset:=hid (show (upL L i).set i X = upL L (i + 1) from upL_set _ _ _ (by rw [HLg.out i hli,hX]))
    have HX:=hid hX
    have Hbl:=hid (show i < (bv (upL L i)).length by rw [bv_length,upL_len _ _ (by rw [HLl.out];exact hi),HLl.out];exact hli)
    clear hX
    go_wp2_with (refine wpList_put rfl _ _ _ rfl rfl (bt X) (by rw [← HX.out];first | exact congrArg bt (shr64_b _ _) | exact congrArg bt ((shr64_b _ _).trans (by rw [UInt32.toNat_toUInt64]))) rfl b1 Hbl.out (by kernel_rfl) ?_;intro w2 f2 b2 hs2;simp only [aA,aB,Act.put,aC,aD,aE])
    rw [← bv_set,Hset.out] at b2
    go_roundw
    case rel => exact ⟨i + 1,by omega,by go_num,b2,f.trans f2 (by simp;have:=HN.out;omega)⟩
    case measure => simp [intOf];omega
  · have hd : decide (i < n) = false:=by simp;omega
    have ei : i = L.length:=by rw [HLl.out];omega
    rw [ei,upL_all] at b1
    clear ei hi hli
    go_wp2_with (refine wpList_string_of_bytes rfl 119 9 5 _ rfl n n rfl b1 L HLl.out (by rw [List.drop_zero,← bv_length,List.take_length]) Tryz.underlying119 Tryz.underlying5 Tryz.underlying9 ?_;simp only [aA,aB,Act.put,aC,aD,aE])
    go_ret
    exact ⟨rfl,f⟩
theorem u32_any {w : World} (x : UInt32) : Calls Tryz.prog 85 #[W32 x] w fun e w' => e = .returned (.string ⟨(leN x.toNat 4).toArray⟩) ∧ Fr [] w w':=by
 go_enter Tryz.func85,Tryz.ntmps85
 go_wp2_with fail
 refine (put32_any x 4 (by decide)).mono ?_
 rintro e w1 ⟨rfl,f1⟩
 go_wp2_with fail
 go_ret
 exact ⟨rfl,f1⟩
theorem u64_any {w : World} (x : UInt64) : Calls Tryz.prog 84 #[W64 x] w fun e w' => e = .returned (.string ⟨(leN x.toNat 8).toArray⟩) ∧ Fr [] w w':=by
 go_enter Tryz.func84,Tryz.ntmps84
 go_wp2_with fail
 refine (put64_any x 8 (by decide)).mono ?_
 rintro e w1 ⟨rfl,f1⟩
 go_wp2_with fail
 go_ret
 exact ⟨rfl,f1⟩
end Go.Proofs.YtgafefecookgaaaGreat.rcd
namespace Go.Xr
open Go
set_option linter.unusedVariables false
end Go.Xr
namespace Go.Proofs.YtgafefecookgaaaGreat.rcd
open Go Go.Xr Go.RowKit
end Go.Proofs.YtgafefecookgaaaGreat.rcd
namespace Go.Xr
open Go
set_option linter.unusedVariables false
def leV : List UInt8 → Nat
 | [] => 0
 | b :: r => b.toNat + 256 * leV r
theorem leV_lt : ∀ l : List UInt8,leV l < 256 ^ l.length
 | [] => by simp [leV]
 | b :: r => by
   have h:=leV_lt r
   have hb:=b.toNat_lt
   rw [leV,List.length_cons,Nat.pow_succ]
   omega
theorem leV_snoc : ∀ (l : List UInt8) (b : UInt8),leV (l ++ [b]) = leV l + b.toNat * 256 ^ l.length
 | [],b => by simp [leV]
 | a :: r,b => by
   rw [List.cons_append,leV,leV,leV_snoc r b,List.length_cons,Nat.pow_succ,Nat.mul_add]
   rw [show 256 * (b.toNat * 256 ^ r.length) = b.toNat * (256 ^ r.length * 256) by ac_rfl]
   omega
theorem shl64_nat (a : UInt64) (n : Nat) : (shl64 a n).toNat = a.toNat * 2 ^ n % 2 ^ 64:=by
 show (a.toBitVec <<< n).toNat = _
 rw [BitVec.toNat_shiftLeft,Nat.shiftLeft_eq]
 rfl
theorem or_nat (a b : UInt64) : (a ||| b).toNat = a.toNat ||| b.toNat:=UInt64.toNat_or a b
def rdrL (s : ByteArray) (at' : Nat) (fault : Int) : List Value:=[.string s,.int .i64 (at' : Int),.int .i64 fault,.bool true]
end Go.Xr
namespace Go.Proofs.YtgafefecookgaaaGreat.rcd
open Go Go.Xr Go.RowKit
theorem rnew_any {w : World} (s : ByteArray) : Calls Tryz.prog 96 #[.string s] w fun e w' => e = .returned (.pointer (some ⟨w.heap.size,0,none⟩)) ∧ Blk w' w.heap.size (rdrL s 0 0) ∧ w.heap.size < w'.heap.size ∧ Fr [] w w':=by
 go_enter Tryz.func96,Tryz.ntmps96
 go_wp2_with fail
 go_ret
 exact ⟨rfl,Blk.alloc w (rdrL s 0 0) _,by simp,(Fr.refl [] w).alloc _⟩
theorem bytes_any {w : World} {p at' : Nat} (s : ByteArray) (n : Nat) (h : Blk w p (rdrL s at' 0)) (hn : at' + n ≤ s.size) (hs : s.size ≤ 140737488355328) : Calls Tryz.prog 137 #[.pointer (some ⟨p,0,none⟩),.int .i64 (n : Int)] w fun e w' => e = .returned (.string (s.extract at' (at' + n))) ∧ Blk w' p (rdrL s (at' + n) 0) ∧ Fr [p] w w':=by
 have k0 : w.cell? ⟨p,0,none⟩ = some (.string s):=h.cell 0
 have k1 : w.cell? ⟨p,1,none⟩ = some (.int .i64 (at' : Int)):=h.cell 1
 have k2 : w.cell? ⟨p,2,none⟩ = some (.int .i64 0):=h.cell 2
 have k3 : w.cell? ⟨p,3,none⟩ = some (.bool true):=h.cell 3
 have h0 : w.drew.cell? ⟨p,0,none⟩ = some (.string s):=k0
 have h1 : w.drew.cell? ⟨p,1,none⟩ = some (.int .i64 (at' : Int)):=k1
 have hd1 : decide ((n : Int) < 0) = false:=by simp
 have hd2 : decide ((s.size : Int) - (at' : Int) < (n : Int)) = false:=by simp;omega
 have h3 : (at' : Int) + (n : Int) ≤ 140737488355328:=by omega
 have hb:=h.drew
 have hlen : 1 < (rdrL s at' 0).length:=by simp [rdrL]
 go_enter Tryz.func137,Tryz.ntmps137
 go_wp2_with fail
 refine wp_region_D (fun _ => True) false [] (by kernel_rfl) ?_
 refine WD.pure [0,1,2,3,4,5,6,7,8,9,10,11,12] (by kernel_rfl) trivial ?_
 simp only [pick,aF,aG,aI,aJ,aK]
 repeat (first | go_big_quiet_step (fail))
 refine wpQuiet_nil ?_
 refine WD.done (by kernel_rfl) ?_
 clear h0 h1 k0 k1 k2 k3
 have k1 : w.drew.cell? ⟨p,1,none⟩ = some (.int .i64 (at' : Int)):=hb.cell 1
 go_wp2_with (refine wpList_put rfl _ _ _ rfl rfl (.int .i64 ((at' + n : Nat) : Int)) (by rw [Int.natCast_add];rfl) rfl hb hlen (by kernel_rfl) ?_;intro w2 f2 b2 hs2;simp only [aA,aB,Act.put,aC,aD,aE])
 have j0 : w2.drew.cell? ⟨p,0,none⟩ = some (.string s):=b2.cell 0
 have j1 : w2.drew.cell? ⟨p,1,none⟩ = some (.int .i64 ((at' + n : Nat) : Int)):=b2.cell 1
 have hsub : ((at' + n : Nat) : Int) - (n : Int) = (at' : Int):=by omega
 refine wp_region_D (fun _ => True) false [] (by kernel_rfl) ?_
 refine WD.pure [0,1,2,3,4,5,6,7,8,9,10,11,12,13,14,15] (by kernel_rfl) trivial ?_
 simp only [pick,aF,aG,aI,aJ,aK]
 repeat (first | (refine quiet_slice_vW (by rfl) _ _ _ _ rfl _ rfl _ _ rfl rfl (.string (s.extract at' (at' + n))) (fun w0 _ => run_slice_s w0 _ Tryz.underlying9 s .i64 .i64 _ _ at' (at' + n) (by omega) rfl (by omega) hn) ?_;simp only [aA,aB,Act.put,aC,aD,aE]) | go_big_quiet_step (fail))
 refine wpQuiet_nil ?_
 refine WD.done (by kernel_rfl) ?_
 go_wp2_with fail
 go_ret
 exact ⟨rfl,b2.drew,(((Fr.refl [p] w).drew).trans' f2).drew⟩
end Go.Proofs.YtgafefecookgaaaGreat.rcd
