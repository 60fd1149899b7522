/- Several texts put together: ShaS, ShaA, ShaB, ShaT, ShaC, ShaD, ShaE, ShaF, ShaR, ShaG, ShaQ. What each shows stands ahead of it. -/
import Derived.Test.YtgafefecookgaaaGreatGCore
import Derived.Test.YtgafefecookgaaaGreatProg
import Derived.WalkLawsBesides
import Derived.WalkSpells
import Derived.LoopN
import Derived.Outline
import Derived.Shelf.Bits.Mul64
import Derived.Deep.LoopGhost
open Go.World renaming size_alloc → aA,size_drew → aB
open List renaming setIfInBounds_toArray → aC,set_cons_succ → aD,set_cons_zero → aE,toList_toArray → aF,map_cons → aG,map_nil → aI,getD_cons_succ → aJ,getD_cons_zero → aK
set_option linter.unusedVariables false
set_option linter.unusedSimpArgs false
set_option maxRecDepth 20000
set_option maxHeartbeats 16000000
namespace Go.Xr
open Go
set_option linter.unusedVariables false
def rotr (x : UInt32) (n : Nat) : UInt32:=shr32 x n ||| shl32 x (32 - n)
theorem rotr_alt (x : UInt32) (n : Nat) : shl32 x (32 - n) ||| shr32 x n = rotr x n:=UInt32.or_comm _ _
def g8 (p : List UInt8) (i : Nat) : UInt8:=p.getD i 0
def g32 (l : List UInt32) (i : Nat) : UInt32:=l.getD i 0
def ldw (p : List UInt8) (i : Nat) : Nat → UInt32
 | 0 => 0
 | k + 1 => shl32 (ldw p i k) 8 ||| (g8 p (4 * i + k)).toUInt32
def ldl (p : List UInt8) (i : Nat) : List UInt32:=(List.range i).map fun j => ldw p j 4
def sg0 (x : UInt32) : UInt32:=rotr x 7 ^^^ rotr x 18 ^^^ shr32 x 3
def sg1 (x : UInt32) : UInt32:=rotr x 17 ^^^ rotr x 19 ^^^ shr32 x 10
def bg0 (x : UInt32) : UInt32:=rotr x 2 ^^^ rotr x 13 ^^^ rotr x 22
def bg1 (x : UInt32) : UInt32:=rotr x 6 ^^^ rotr x 11 ^^^ rotr x 25
def schW (l : List UInt32) (i : Nat) : UInt32:=g32 l (i - 16) + g32 l (i - 7) + sg0 (g32 l (i - 15)) + sg1 (g32 l (i - 2))
def sch (p : List UInt8) : Nat → List UInt32
 | 0 => ldl p 16
 | j + 1 => sch p j ++ [schW (sch p j) (16 + j)]
structure St where
 a : UInt32
 b : UInt32
 c : UInt32
 d : UInt32
 e : UInt32
 f : UInt32
 g : UInt32
 h : UInt32
def rndT (k x : UInt32) (s : St) : UInt32:=s.h + bg1 s.e + ((s.e &&& s.f) ^^^ (~~~s.e &&& s.g)) + k + x
def rndU (s : St) : UInt32:=bg0 s.a + ((s.a &&& s.b) ^^^ (s.a &&& s.c) ^^^ (s.b &&& s.c))
def rnd (k x : UInt32) (s : St) : St:=⟨rndT k x s + rndU s,s.a,s.b,s.c,s.d + rndT k x s,s.e,s.f,s.g⟩
def rnds (K W : List UInt32) : Nat → St → St
 | 0,s => s
 | i + 1,s => rnd (g32 K i) (g32 W i) (rnds K W i s)
def St.of (v : List UInt32) : St:=⟨g32 v 0,g32 v 1,g32 v 2,g32 v 3,g32 v 4,g32 v 5,g32 v 6,g32 v 7⟩
def St.list (s : St) : List UInt32:=[s.a,s.b,s.c,s.d,s.e,s.f,s.g,s.h]
def addW (v : List UInt32) (s : St) (m : Nat) : List UInt32:=(List.range 8).map fun i => if i < m then g32 v i + g32 s.list i else g32 v i
def compress (K v : List UInt32) (p : List UInt8) : List UInt32:=addW v (rnds K (sch p 48) 64 (St.of v)) 8
theorem ldl_length (p : List UInt8) (i : Nat) : (ldl p i).length = i:=by simp [ldl]
theorem ldl_succ (p : List UInt8) (i : Nat) : ldl p (i + 1) = ldl p i ++ [ldw p i 4]:=by simp [ldl,List.range_succ]
theorem sch_length (p : List UInt8) (j : Nat) : (sch p j).length = 16 + j:=by
 induction j with
 | zero => simp [sch,ldl_length]
 | succ j ih => simp [sch,ih];omega
theorem addW_length (v : List UInt32) (s : St) (m : Nat) : (addW v s m).length = 8:=by simp [addW]
theorem compress_length (K v : List UInt32) (p : List UInt8) : (compress K v p).length = 8:=addW_length _ _ _
theorem getD_eq {α : Type} (l : List α) (i : Nat) (d : α) (h : i < l.length) : l[i]? = some (l.getD i d):=by
 simp [List.getD,h]
theorem g8_eq (l : List UInt8) (i : Nat) (h : i < l.length) : l[i]? = some (g8 l i):=getD_eq l i 0 h
theorem g32_eq (l : List UInt32) (i : Nat) (h : i < l.length) : l[i]? = some (g32 l i):=getD_eq l i 0 h
theorem list8 (v : List UInt32) (h : v.length = 8) : v = [g32 v 0,g32 v 1,g32 v 2,g32 v 3,g32 v 4,g32 v 5,g32 v 6,g32 v 7]:=by
 match v,h with
 | [_,_,_,_,_,_,_,_],_ => rfl
theorem addW_zero (v : List UInt32) (s : St) (h : v.length = 8) : addW v s 0 = v:=by
 match v,h with
 | [_,_,_,_,_,_,_,_],_ => rfl
theorem addW_set (v : List UInt32) (s : St) (m : Nat) (hm : m < 8) : (addW v s m).set m (g32 v m + g32 s.list m) = addW v s (m + 1):=by
 have h : m = 0 ∨ m = 1 ∨ m = 2 ∨ m = 3 ∨ m = 4 ∨ m = 5 ∨ m = 6 ∨ m = 7:=by omega
 rcases h with rfl | rfl | rfl | rfl | rfl | rfl | rfl | rfl <;> rfl
theorem addW_get (v : List UInt32) (s : St) (m : Nat) (hm : m < 8) : g32 (addW v s m) m = g32 v m:=by
 have h : m = 0 ∨ m = 1 ∨ m = 2 ∨ m = 3 ∨ m = 4 ∨ m = 5 ∨ m = 6 ∨ m = 7:=by omega
 rcases h with rfl | rfl | rfl | rfl | rfl | rfl | rfl | rfl <;> rfl
end Go.Xr
namespace Go.Proofs.YtgafefecookgaaaGreat
open Go Go.Xr Go.RowKit
def turns : List Nat:=[2,6,7,11,13,17,18,19,22,25]
attribute [local go_sem] shl_u32 shr_u32 or_u32
theorem rotl_any (x : UInt32) (n : Nat) (hn : n ∈ turns) (w : World) :
 Calls Tryz.prog 143 #[W32 x,.int .i64 (-(n : Int))] w fun e w' => e = .returned (W32 (rotr x n)) ∧ w = w':=by
 rw [← rotr_alt]
 have hb : bits .and .u64 (IntKind.u64.wrap (-(n : Int))) 31 = 32 - (n : Int):=by
  revert n
  decide
 simp only [turns,List.mem_cons,List.not_mem_nil,or_false] at hn
 rcases hn with rfl | rfl | rfl | rfl | rfl | rfl | rfl | rfl | rfl | rfl
 all_goals
  simp only [Int.cast_ofNat_Int,Int.reduceSub] at hb
  go_enter Tryz.func143,Tryz.ntmps143
  go_wp2
  go_ret
  exact ⟨rfl,rfl⟩
theorem turn_any (x : UInt32) (n : Nat) (hn : n ∈ turns) (w : World) :
 Calls Tryz.prog 142 #[W32 x,.int .i64 n] w fun e w' => e = .returned (W32 (rotr x n)) ∧ w = w':=by
 have hb : n < 32:=by
  simp only [turns,List.mem_cons,List.not_mem_nil,or_false] at hn
  omega
 have h:=rotl_any x n hn w
 go_enter Tryz.func142,Tryz.ntmps142
 go_wp2_with (go_at_call 143;refine h.mono ?_;rintro e w' ⟨rfl,rfl⟩)
 go_ret
 exact ⟨rfl,rfl⟩
theorem turn_at (x : UInt32) (k : Int) (hk : k ∈ turns.map fun n : Nat => (n : Int)) (w : World) :
 Calls Tryz.prog 142 #[W32 x,.int .i64 k] w fun e w' => e = .returned (W32 (rotr x k.toNat)) ∧ w = w':=by
 obtain ⟨n,hn,rfl⟩:=List.mem_map.1 hk
 exact turn_any x n hn w
end Go.Proofs.YtgafefecookgaaaGreat
namespace Go.Proofs.YtgafefecookgaaaGreat
open Go Go.Xr Go.RowKit
def w32s (l : List UInt32) : List Value:=l.map W32
def hcs (tp : Nat) (v : List UInt32) (p : List UInt8) (n : Nat) : List Value:=.pointer (some ⟨tp,0,none⟩) :: (w32s v ++ (bv p ++ [.int .u64 (n : Int)]))
def tcs (B K : List UInt32) : List Value:=w32s B ++ w32s K
theorem hcs_v (tp : Nat) (v : List UInt32) (p : List UInt8) (n : Nat) (hv : v.length = 8) (i : Nat) (hi : i < 8) : (hcs tp v p n)[1 + i]? = some (W32 (g32 v i)):=by
 unfold hcs w32s
 rw [Nat.add_comm,List.getElem?_cons_succ,List.getElem?_append_left (by simpa using (by omega)),List.getElem?_map,g32_eq v i (by omega)]
 rfl
theorem hcs_p (tp : Nat) (v : List UInt32) (p : List UInt8) (n : Nat) (hv : v.length = 8) (hp : p.length = 64) (i : Nat) (hi : i < 64) : (hcs tp v p n)[9 + i]? = some (bt (g8 p i)):=by
 unfold hcs w32s
 rw [show 9 + i = (8 + i) + 1 by omega,List.getElem?_cons_succ,List.getElem?_append_right (by simpa using (by omega)),List.getElem?_append_left (by simp;omega),bv_getElem?]
 simp only [List.length_map,hv]
 rw [show 8 + i - 8 = i by omega,g8_eq p i (by omega)]
 rfl
theorem cv8_32 (w : World) (a : UInt8) : (convert 5 137 (bt a)).run Tryz.prog w = .ok (W32 a.toUInt32) w:=conv_u8_u32 w _ _ a Tryz.underlying5 Tryz.underlying137 rfl
attribute [local go_sem] store_u32 store_u64 store_u8 put_u8 put_u32 put_u64 cells_u8 cells_u32 cells_u64 cv8_32 shl_u32 shr_u32 or_u32 xor_u32 and_u32 add_u32 not_u32
theorem hcs_length (tp : Nat) (v : List UInt32) (p : List UInt8) (n : Nat) (hv : v.length = 8) (hp : p.length = 64) : (hcs tp v p n).length = 74:=by
 simp [hcs,w32s,hv,hp]
theorem hcs_set (tp : Nat) (v : List UInt32) (p : List UInt8) (n : Nat) (i : Nat) (hv : v.length = 8) (hi : i < 8) (x : UInt32) : (hcs tp v p n).set (1 + i) (W32 x) = hcs tp (v.set i x) p n:=by
 unfold hcs w32s
 rw [Nat.add_comm,List.set_cons_succ,List.set_append_left _ _ (by simpa using (by omega)),List.map_set]
theorem w32s_one (l : List UInt32) : ∀ u ∈ w32s l,u.oneCell' = true:=by
 intro u hu
 obtain ⟨c,_,rfl⟩:=List.mem_map.1 hu
 rfl
theorem inf8 : ∃ i,Tryz.prog.info? 184 = some i ∧ i.zero = some (.agg (List.replicate 8 (W32 0)).toArray):=⟨_,rfl,rfl⟩
theorem inf62 : ∃ i,Tryz.prog.info? 186 = some i ∧ i.zero = some (.agg (List.replicate 64 (W32 0)).toArray) ∧ i.size = 64:=⟨_,rfl,rfl,rfl⟩
def ldm (p : List UInt8) (i k : Nat) : List UInt32:=ldl p i ++ ldw p i k :: List.replicate (63 - i) 0
theorem ldm_get (p : List UInt8) (i k : Nat) : (w32s (ldm p i k))[i]? = some (W32 (ldw p i k)):=by
 unfold w32s ldm
 rw [List.getElem?_map,List.getElem?_append_right (by rw [ldl_length];exact Nat.le_refl _),ldl_length,Nat.sub_self]
 rfl
theorem ldm_set (p : List UInt8) (i k : Nat) : (w32s (ldm p i k)).set i (W32 (shl32 (ldw p i k) 8 ||| (g8 p (4 * i + k)).toUInt32)) = w32s (ldm p i (k + 1)):=by
 unfold w32s ldm
 rw [← List.map_set,List.set_append_right _ _ (by rw [ldl_length];exact Nat.le_refl _),ldl_length,Nat.sub_self]
 rfl
theorem ldm_start (p : List UInt8) : w32s (ldm p 0 0) = List.replicate 64 (W32 0):=by
 simp [ldm,ldl,ldw,w32s]
def ldo (p : List UInt8) (i : Nat) : List UInt32:=ldl p i ++ List.replicate (64 - i) 0
theorem ldo_lt (p : List UInt8) (i : Nat) (hi : i < 64) : ldo p i = ldm p i 0:=by
 unfold ldo ldm
 rw [show 64 - i = (63 - i) + 1 by omega,List.replicate_succ]
 rfl
theorem ldo_succ (p : List UInt8) (i : Nat) (hi : i < 64) : ldm p i 4 = ldo p (i + 1):=by
 unfold ldo ldm
 rw [ldl_succ,List.append_assoc,show 64 - (i + 1) = 63 - i by omega]
 rfl
def schm (p : List UInt8) (j : Nat) : List UInt32:=sch p j ++ List.replicate (48 - j) 0
theorem schm_get (p : List UInt8) (j i : Nat) (h : i < 16 + j) : (w32s (schm p j))[i]? = some (W32 (g32 (sch p j) i)):=by
 unfold w32s schm
 rw [List.getElem?_map,List.getElem?_append_left (by rw [sch_length];exact h),g32_eq _ _ (by rw [sch_length];exact h)]
 rfl
theorem schm_length (p : List UInt8) (j : Nat) (h : j ≤ 48) : (w32s (schm p j)).length = 64:=by
 unfold w32s schm
 rw [List.length_map,List.length_append,sch_length,List.length_replicate]
 omega
theorem schm_set (p : List UInt8) (j : Nat) (h : j < 48) : (w32s (schm p j)).set (16 + j) (W32 (schW (sch p j) (16 + j))) = w32s (schm p (j + 1)):=by
 unfold w32s schm
 rw [← List.map_set,List.set_append_right _ _ (by rw [sch_length];exact Nat.le_refl _),sch_length,Nat.sub_self,show 48 - j = (48 - (j + 1)) + 1 by omega,List.replicate_succ,List.set_cons_zero]
 rw [sch,List.append_assoc]
 rfl
def schi (p : List UInt8) (i : Nat) : List UInt32:=schm p (i - 16)
theorem schi_get (p : List UInt8) (i x : Nat) (h : 16 ≤ i) (hx : x < i) : (w32s (schi p i))[x]? = some (W32 (g32 (sch p (i - 16)) x)):=schm_get p (i - 16) x (by omega)
theorem schi_length (p : List UInt8) (i : Nat) (h : i ≤ 64) : (w32s (schi p i)).length = 64:=schm_length p (i - 16) (by omega)
theorem schi_set (p : List UInt8) (i : Nat) (h : 16 ≤ i) (h2 : i < 64) : (w32s (schi p i)).set i (W32 (schW (sch p (i - 16)) i)) = w32s (schi p (i + 1)):=by
 have:=schm_set p (i - 16) (by omega)
 rw [show 16 + (i - 16) = i by omega] at this
 unfold schi
 rw [this,show i + 1 - 16 = i - 16 + 1 by omega]
set_option maxRecDepth 100000 in
theorem block_any {w : World} {hb tp : Nat} {v : List UInt32} {p : List UInt8} {n : Nat} {B K : List UInt32} (hH : Blk w hb (hcs tp v p n)) (hT : Blk w tp (tcs B K)) (hv : v.length = 8) (hp : p.length = 64) (hK : K.length = 64) (hB : B.length = 8) :
 Calls Tryz.prog 130 #[.pointer (some ⟨hb,0,none⟩)] w fun e w' => e = .returned (.tuple #[]) ∧ Blk w' hb (hcs tp (compress K v p) p n) ∧ Fr [hb] w w':=by
 obtain ⟨i62,hi62,hz62,hs62⟩:=inf62
 have Hi:=hid hi62
 have Hz:=hid hz62
 have Hs:=hid hs62
 have Hv:=hid hv
 have Hp:=hid hp
 have HK:=hid hK
 have HB:=hid hB
 obtain ⟨i8,hi8,hz8⟩:=inf8
 have Hi8:=hid hi8
 have Hz8:=hid hz8
 clear hi62 hz62 hs62 hv hp hK hB hi8 hz8
 go_enter Tryz.func130,Tryz.ntmps130
 go_wp2_with (refine wpList_alloc_agg rfl _ rfl _ _ 64 Hi.out Hz.out rfl ?_;intro zs hzl hze hbz;have Hze:=hid hze;clear hzl hze;simp only [aA,aB,Act.put,aC,aD,aE])
 have HB0 : Hid (Blk (w.alloc (.cells zs.toArray 186)) w.heap.size (w32s (ldo p 0))):=by
  have e : zs = w32s (ldo p 0):=by
   rw [Hze.out,ldo_lt p 0 (by decide),ldm_start]
   show (List.replicate 64 (W32 0)).toArray.toList = _
   rw [List.toList_toArray]
  rw [← e]
  exact hbz
 clear hbz
 have f0 : Fr [] w (w.alloc (.cells zs.toArray 186)):=(Fr.refl [] w).alloc _
 generalize w.alloc (.cells zs.toArray 186) = w1 at *
 have Hlt:=hid hH.lt
 go_loopw [23] (fun i wr => ∃ m : Nat,m ≤ 16 ∧ i = .int .i64 m ∧ Blk wr w.heap.size (w32s (ldo p m)) ∧ Fr [] w wr) (fun i _ => 16 - (intOf i).toNat)
 case atStart => exact ⟨0,by omega,rfl,HB0.out,f0⟩
 case round =>
  obtain ⟨m,hm,rfl,hb1,f⟩:=hrel
  clear f0 HB0
  by_cases hlt : m < 16
  · have hd1 : decide ((m : Int) < 16) = true:=by simp;omega
    go_wp2_with fail
    obtain ⟨wo,rfl⟩ : ∃ wo : World,wo = wr:=⟨_,rfl⟩
    have Hb1 : Hid (Blk wo w.heap.size (w32s (ldm p m 0))):=by
     rw [← ldo_lt p m (by omega)]
     exact hb1
    clear hb1
    go_loopw [26] (fun k wr => ∃ j : Nat,j ≤ 4 ∧ k = .int .i64 j ∧ Blk wr w.heap.size (w32s (ldm p m j)) ∧ Fr [] w wr) (fun k _ => 4 - (intOf k).toNat)
    case atStart => exact ⟨0,by omega,rfl,Hb1.out,f⟩
    case round =>
     obtain ⟨j,hj,rfl,hb2,f2⟩:=hrel
     clear f Hb1
     by_cases hlt2 : j < 4
     · have hbH:=f2.blk hH (by simp)
       have hc2 : wr.cell? ⟨w.heap.size,m,none⟩ = some (W32 (ldw p m j)):=by rw [hb2.cell];exact ldm_get p m j
       have hcp : wr.cell? ⟨hb,9 + (4 * m + j),none⟩ = some (bt (g8 p (4 * m + j))):=by rw [hbH.cell];exact hcs_p tp v p n Hv.out Hp.out _ (by omega)
       have hf2:=hb2.free m (by unfold w32s ldm;simp [ldl_length])
       go_wp2_with fail
       obtain ⟨ι,W,hι,hW1,hW2,hW0⟩:=family (fun w' => Blk w' hb (hcs tp v p n) ∧ Blk w' w.heap.size (w32s (ldm p m j))) (w:=wr.drew) ⟨hbH,hb2⟩
       have HW1:=hid hW1
       have HW2:=hid hW2
       have HW0:=hid hW0
       clear hW1 hW2 hW0
       have hS1 : ∀ i,(W i).cell? ⟨w.heap.size,m,none⟩ = some (W32 (ldw p m j)):=fun i => by rw [(HW1.out i).2.cell];exact ldm_get p m j
       have hS2 : ∀ i,(W i).cell? ⟨hb,9 + (4 * m + j),none⟩ = some (bt (g8 p (4 * m + j))):=fun i => by rw [(HW1.out i).1.cell];exact hcs_p tp v p n Hv.out Hp.out _ (by omega)
       refine wp_region_X (fun w' => ∃ j,w' = W j) true (by kernel_rfl) ?_
       refine WX.pure [0,1,2,3,4,5,6,7,8,9,10,11,12,13,14,15,16] (by kernel_rfl) HW0.out ?_
       simp only [pick,aF,aG,aI,aJ,aK]
       repeat (go_big_quiet_step (fail))
       refine wpQuiet_nil ?_
       refine WX.eff 17 (by kernel_rfl) ?_
       simp only [pick,aF,aG,aI,aJ,aK]
       refine wpList_put rfl _ _ _ rfl rfl _ rfl rfl hb2.drew (by unfold w32s ldm;simp [ldl_length]) (by kernel_rfl) ?_
       intro w5 f5 hb5 _
       refine wpList_nil ?_
       refine After.end rfl ?_
       refine WX.done (by kernel_rfl) ?_
       clear hS1 hS2
       clear HW1 HW2 HW0 hι W ι
       go_wp2_with fail
       go_roundw
       case rel => exact ⟨j + 1,by omega,by go_num,by rw [← ldm_set];exact hb5,(f2.drew).trans f5 (by simp)⟩
       case measure => simp [intOf];omega
     · obtain rfl : j = 4:=by omega
       have Hb3 : Hid (Blk wr w.heap.size (w32s (ldo p (m + 1)))):=by
        rw [← ldo_succ p m (by omega)]
        exact hb2
       clear hb2
       go_wp2_with fail
       go_roundw
       case rel => exact ⟨m + 1,by omega,by go_num,Hb3.out,f2⟩
       case measure => simp [intOf];omega
  · have em : m = 16:=by omega
    have hge : (16 : Int) ≤ m:=by omega
    have hd1 : decide ((m : Int) < 16) = false:=by simp;omega
    have hb2 : Blk wr w.heap.size (w32s (schi p 16)):=by
     rw [em] at hb1
     exact hb1
    clear hb1 em
    go_wp2_with fail
    go_loopw [6] (fun k wr => ∃ i : Nat,16 ≤ i ∧ i ≤ 64 ∧ k = .int .i64 i ∧ Blk wr w.heap.size (w32s (schi p i)) ∧ Fr [] w wr) (fun k _ => 64 - (intOf k).toNat)
    case atStart => exact ⟨16,by omega,by omega,rfl,hb2,f⟩
    case round =>
     obtain ⟨i,hi1,hi2,rfl,hb3,f3⟩:=hrel
     clear f hb2
     by_cases hlt : i < 64
     · have hd1 : decide ((i : Int) < 64) = true:=by simp;omega
       have c15 : wr.cell? ⟨w.heap.size,i - 15,none⟩ = some (W32 (g32 (sch p (i - 16)) (i - 15))):=by rw [hb3.cell];exact schi_get p i _ hi1 (by omega)
       have c2 : wr.cell? ⟨w.heap.size,i - 2,none⟩ = some (W32 (g32 (sch p (i - 16)) (i - 2))):=by rw [hb3.cell];exact schi_get p i _ hi1 (by omega)
       go_wp2_with fail
       go_quiet (fail)
       clear c15 c2
       have hb4:=hb3.drewN nq
       have f4:=f3.drewN nq
       generalize wr.drewN nq = w4 at *
       go_wp2_with fail
       obtain ⟨ι,W,hι,hW1,hW2,hW0⟩:=family (fun w' => Blk w' w.heap.size (w32s (schi p i))) (w:=w4.drew) hb4.drew
       have HW1:=hid hW1
       have HW2:=hid hW2
       have HW0:=hid hW0
       clear hW1 hW2 hW0
       have hS1 : ∀ k,(W k).cell? ⟨w.heap.size,i - 16,none⟩ = some (W32 (g32 (sch p (i - 16)) (i - 16))):=fun k => by rw [(HW1.out k).cell];exact schi_get p i _ hi1 (by omega)
       have hS2 : ∀ k,(W k).cell? ⟨w.heap.size,i - 7,none⟩ = some (W32 (g32 (sch p (i - 16)) (i - 7))):=fun k => by rw [(HW1.out k).cell];exact schi_get p i _ hi1 (by omega)
       refine wp_region_X (fun w' => ∃ j,w' = W j) true (by kernel_rfl) ?_
       refine WX.pure [0,1,2,3,4,5,6,7,8,9,10,11,13,14,17,18,21,22,24,25,28,29] (by kernel_rfl) HW0.out ?_
       simp only [pick,aF,aG,aI,aJ,aK]
       repeat (go_big_quiet_step (fail))
       refine wpQuiet_nil ?_
       refine WX.eff 12 (by kernel_rfl) ?_
       simp only [pick,aF,aG,aI,aJ,aK]
       go_wp2_with (go_at_call 142;refine (turn_at _ _ (by decide) _).mono ?_;rintro e w' ⟨rfl,rfl⟩)
       refine After.on HW0.out ?_
       refine WX.eff 15 (by kernel_rfl) ?_
       simp only [pick,aF,aG,aI,aJ,aK]
       go_wp2_with (go_at_call 142;refine (turn_at _ _ (by decide) _).mono ?_;rintro e w' ⟨rfl,rfl⟩)
       refine After.on HW0.out ?_
       refine WX.pure [16,19,20] (by kernel_rfl) HW0.out ?_
       simp only [pick,aF,aG,aI,aJ,aK]
       repeat (go_big_quiet_step (fail))
       refine wpQuiet_nil ?_
       refine WX.eff 23 (by kernel_rfl) ?_
       simp only [pick,aF,aG,aI,aJ,aK]
       go_wp2_with (go_at_call 142;refine (turn_at _ _ (by decide) _).mono ?_;rintro e w' ⟨rfl,rfl⟩)
       refine After.on HW0.out ?_
       refine WX.eff 26 (by kernel_rfl) ?_
       simp only [pick,aF,aG,aI,aJ,aK]
       go_wp2_with (go_at_call 142;refine (turn_at _ _ (by decide) _).mono ?_;rintro e w' ⟨rfl,rfl⟩)
       refine After.on HW0.out ?_
       refine WX.pure [27,30,31,32] (by kernel_rfl) HW0.out ?_
       simp only [pick,aF,aG,aI,aJ,aK]
       repeat (go_big_quiet_step (fail))
       refine wpQuiet_nil ?_
       refine WX.eff 33 (by kernel_rfl) ?_
       simp only [pick,aF,aG,aI,aJ,aK]
       refine wpList_put rfl _ _ _ rfl rfl (W32 (schW (sch p (i - 16)) i)) rfl rfl hb4.drew (by rw [schi_length p i hi2];exact hlt) (by kernel_rfl) ?_
       intro w5 f5 hb5 _
       refine wpList_nil ?_
       refine After.end rfl ?_
       refine WX.done (by kernel_rfl) ?_
       clear hS1 hS2
       clear HW1 HW2 HW0 hι W ι
       rw [schi_set p i hi1 hlt] at hb5
       go_wp2_with fail
       go_roundw
       case rel => exact ⟨i + 1,by omega,by omega,by go_num,hb5,(f4.drew).trans f5 (by simp)⟩
       case measure => simp [intOf];omega
     · have ei : i = 64:=by omega
       have hge2 : (64 : Int) ≤ i:=by omega
       have hd2 : decide ((i : Int) < 64) = false:=by simp;omega
       rw [ei] at hb3
       clear ei
       have hbH:=f3.blk hH (by simp)
       have hbT:=f3.blk hT (by simp)
       have hcv : ∀ x,x < 8 → wr.cell? ⟨hb,1 + x,none⟩ = some (W32 (g32 v x)):=fun x hx => by rw [hbH.cell];exact hcs_v tp v p n Hv.out x hx
       have c0:=hcv 0 (by decide)
       have c1:=hcv 1 (by decide)
       have c2:=hcv 2 (by decide)
       have c3:=hcv 3 (by decide)
       have c4:=hcv 4 (by decide)
       have c5:=hcv 5 (by decide)
       have c6:=hcv 6 (by decide)
       have c7:=hcv 7 (by decide)
       clear hcv
       simp only [Nat.reduceAdd] at c0 c1 c2 c3 c4 c5 c6 c7
       go_wp2_with fail
       go_quiet (fail)
       clear c0 c1 c2 c3 c4 c5 c6 c7
       have hb4:=hb3.drewN nq
       have hbH4:=hbH.drewN nq
       have hbT4:=hbT.drewN nq
       have f4:=f3.drewN nq
       clear hb3 hbH hbT f3
       generalize wr.drewN nq = w4 at *
       go_wp2_with (refine wpList_load_agg rfl _ _ rfl rfl (w32s (schi p 64)) hb4 _ Tryz.underlying186 rfl (by rw [schi_length p 64 (by decide)];kernel_rfl) (by rw [List.drop_zero,List.take_length]) ?_;simp only [aA,aB,Act.put,aC,aD,aE])
       have hKk : ∀ x,x < 64 → (tcs B K)[8 + x]? = some (W32 (g32 K x)):=fun x hx => by
        unfold tcs w32s
        rw [List.getElem?_append_right (by rw [List.length_map,HB.out];omega),List.length_map,HB.out,show 8 + x - 8 = x by omega,List.getElem?_map,g32_eq K x (by rw [HK.out];exact hx)]
        rfl
       have HKk:=hid hKk
       clear hKk hge hge2 hd1 hd2
       go_loopw [9,10,11,12,13,14,15,16,134] (fun a b c d e f g h k wr => ∃ (q : Nat) (s : St),q ≤ 64 ∧ k = .int .i64 q ∧ Hid (s = rnds K (sch p 48) q (St.of v)) ∧ a = W32 s.a ∧ b = W32 s.b ∧ c = W32 s.c ∧ d = W32 s.d ∧ e = W32 s.e ∧ f = W32 s.f ∧ g = W32 s.g ∧ h = W32 s.h ∧ Blk wr hb (hcs tp v p n) ∧ Blk wr tp (tcs B K) ∧ Fr [] w wr) (fun _ _ _ _ _ _ _ _ k _ => 64 - (intOf k).toNat)
       case atStart => exact ⟨0,St.of v,by omega,rfl,rfl,rfl,rfl,rfl,rfl,rfl,rfl,rfl,rfl,hbH4,hbT4,f4⟩
       case round =>
        obtain ⟨q,s,hq,rfl,hs,rfl,rfl,rfl,rfl,rfl,rfl,rfl,rfl,hbH5,hbT5,f5⟩:=hrel
        clear hbH4 hbT4 f4 hb4
        by_cases hlt : q < 64
        · have hix : ∀ w0 : World,(Instr.index 186 (.agg (w32s (schi p 64)).toArray) (.int .i64 q)).run Tryz.prog w0 = .ok (W32 (g32 (sch p 48) q)) w0:=fun w0 =>
           index_agg w0 _ _ _ _ _ _ Tryz.underlying186 (by kernel_rfl) (by rw [List.size_toArray];exact schi_length p 64 (by decide)) _ (by omega) (by omega) (by rw [List.toList_toArray,Int.toNat_natCast];exact schi_get p 64 q (by decide) (by omega)) (by kernel_rfl)
          have cH:=hbH5.cell 0
          have cT : wr.cell? ⟨tp,8 + q,none⟩ = some (W32 (g32 K q)):=by rw [hbT5.cell];exact HKk.out q hlt
          rw [show (hcs tp v p n)[0]? = some (.pointer (some ⟨tp,0,none⟩)) from rfl] at cH
          have hd1 : decide ((q : Int) < 64) = true:=by simp;omega
          go_wp2_with fail
          clear cH cT
          obtain ⟨ι,W,hι,hW1,hW2,hW0⟩:=family (fun w' => Blk w' hb (hcs tp v p n) ∧ Blk w' tp (tcs B K)) (w:=wr.drew) ⟨hbH5.drew,hbT5.drew⟩
          have HW1:=hid hW1
          have HW2:=hid hW2
          have HW0:=hid hW0
          clear hW1 hW2 hW0
          have hS1 : ∀ k,(W k).cell? ⟨hb,0,none⟩ = some (.pointer (some ⟨tp,0,none⟩)):=fun k => (HW1.out k).1.cell 0
          have hS2 : ∀ k,(W k).cell? ⟨tp,8 + q,none⟩ = some (W32 (g32 K q)):=fun k => by rw [(HW1.out k).2.cell];exact HKk.out q hlt
          refine wp_region_X (fun w' => ∃ j,w' = W j) false (by kernel_rfl) ?_
          refine WX.pure [0,1,2,4,5,8,9,13,14,15,16,17,18,19,20,22,23,24,25,26,27,28,29,30,32] (by kernel_rfl) HW0.out ?_
          simp only [pick,aF,aG,aI,aJ,aK]
          repeat (go_big_quiet_step (fail))
          refine wpQuiet_nil ?_
          refine WX.eff 3 (by kernel_rfl) ?_
          simp only [pick,aF,aG,aI,aJ,aK]
          go_wp2_with (go_at_call 142;refine (turn_at _ _ (by decide) _).mono ?_;rintro e w' ⟨rfl,rfl⟩)
          refine After.on HW0.out ?_
          refine WX.eff 6 (by kernel_rfl) ?_
          simp only [pick,aF,aG,aI,aJ,aK]
          go_wp2_with (go_at_call 142;refine (turn_at _ _ (by decide) _).mono ?_;rintro e w' ⟨rfl,rfl⟩)
          refine After.on HW0.out ?_
          refine WX.pure [7] (by kernel_rfl) HW0.out ?_
          simp only [pick,aF,aG,aI,aJ,aK]
          repeat (go_big_quiet_step (fail))
          refine wpQuiet_nil ?_
          refine WX.eff 10 (by kernel_rfl) ?_
          simp only [pick,aF,aG,aI,aJ,aK]
          go_wp2_with (go_at_call 142;refine (turn_at _ _ (by decide) _).mono ?_;rintro e w' ⟨rfl,rfl⟩)
          refine After.on HW0.out ?_
          refine WX.pure [11,12,21,31,33,34] (by kernel_rfl) HW0.out ?_
          simp only [pick,aF,aG,aI,aJ,aK]
          repeat (go_big_quiet_step (fail))
          refine wpQuiet_nil ?_
          refine WX.done (by kernel_rfl) ?_
          clear hS1 hS2
          clear HW1 HW2 HW0 hι W ι
          have hbH6:=hbH5.drew
          have hbT6:=hbT5.drew
          have f6:=f5.drew
          clear hbH5 hbT5 f5
          generalize wr.drew = w6 at *
          go_wp2_with (go_at_call 142;refine (turn_at _ _ (by decide) _).mono ?_;rintro e w' ⟨rfl,rfl⟩)
          go_roundw
          case rel => exact ⟨q + 1,rnd (g32 K q) (g32 (sch p 48) q) s,by omega,by go_num,by rw [hs];rfl,rfl,rfl,rfl,rfl,rfl,rfl,rfl,rfl,hbH6,hbT6,f6⟩
          case measure => simp [intOf];omega
        · have eq : q = 64:=by omega
          have hge3 : (64 : Int) ≤ q:=by omega
          have hd3 : decide ((q : Int) < 64) = false:=by simp;omega
          rw [eq] at hs
          clear eq
          go_wp2_with (refine wpList_build_arr rfl _ _ rfl 8 137 Tryz.underlying184 _ _ Hi8.out Hz8.out rfl (by kernel_rfl) rfl (w32s s.list) rfl (w32s_one _) ?_;simp only [aA,aB,Act.put,aC,aD,aE])
          clear hd3 hge3
          go_loopw [217] (fun k wr => ∃ r : Nat,r ≤ 8 ∧ k = .int .i64 r ∧ Blk wr hb (hcs tp (addW v s r) p n) ∧ Fr [hb] w wr) (fun k _ => 8 - (intOf k).toNat)
          case atStart => exact ⟨0,by omega,rfl,by rw [addW_zero v s Hv.out];exact hbH5,f5.mono (by simp)⟩
          case round =>
           obtain ⟨r,hr,rfl,hb6,f6⟩:=hrel
           clear hbH5 hbT5 f5
           by_cases hlt3 : r < 8
           · have hix : ∀ w0 : World,(Instr.index 184 (.agg (w32s s.list).toArray) (.int .i64 r)).run Tryz.prog w0 = .ok (W32 (g32 s.list r)) w0:=fun w0 =>
              index_agg w0 _ _ _ _ _ _ Tryz.underlying184 (by kernel_rfl) rfl _ (by omega) (by omega) (by rw [List.toList_toArray,Int.toNat_natCast];unfold w32s;rw [List.getElem?_map,g32_eq _ _ hlt3];rfl) (by kernel_rfl)
             have hd1 : decide ((r : Int) < 8) = true:=by simp;omega
             go_wp2_with fail
             clear hix
             obtain ⟨ι,W,hι,hW1,hW2,hW0⟩:=family (fun w' => Blk w' hb (hcs tp (addW v s r) p n)) (w:=wr.drew) hb6.drew
             have HW1:=hid hW1
             have HW2:=hid hW2
             have HW0:=hid hW0
             clear hW1 hW2 hW0
             have hS1 : ∀ k,(W k).cell? ⟨hb,1 + r,none⟩ = some (W32 (g32 v r)):=fun k => by rw [(HW1.out k).cell,hcs_v tp _ p n (addW_length _ _ _) r hlt3,addW_get v s r hlt3]
             refine wp_region_X (fun w' => ∃ j,w' = W j) true (by kernel_rfl) ?_
             refine WX.pure [0,1,2,3,4,5,6,7,8,9,10] (by kernel_rfl) HW0.out ?_
             simp only [pick,aF,aG,aI,aJ,aK]
             repeat (go_big_quiet_step (fail))
             refine wpQuiet_nil ?_
             refine WX.eff 11 (by kernel_rfl) ?_
             simp only [pick,aF,aG,aI,aJ,aK]
             refine wpList_put rfl _ _ _ rfl rfl (W32 (g32 v r + g32 s.list r)) rfl rfl hb6.drew (by rw [hcs_length tp _ p n (addW_length _ _ _) Hp.out];omega) (by kernel_rfl) ?_
             intro w7 f7 hb7 _
             refine wpList_nil ?_
             refine After.end rfl ?_
             refine WX.done (by kernel_rfl) ?_
             clear hS1
             clear HW1 HW2 HW0 hι W ι
             rw [hcs_set tp _ p n r (addW_length _ _ _) hlt3,addW_set v s r hlt3] at hb7
             go_wp2_with fail
             go_roundw
             case rel => exact ⟨r + 1,by omega,by go_num,hb7,f6.drew.trans' f7⟩
             case measure => simp [intOf];omega
           · have er : r = 8:=by omega
             have hd1 : decide ((r : Int) < 8) = false:=by simp;omega
             rw [er] at hb6
             clear er
             go_wp2_with fail
             go_end0
             refine ⟨rfl,?_,f6⟩
             unfold compress
             rw [← hs.out]
             exact hb6
end Go.Proofs.YtgafefecookgaaaGreat
namespace Go.Xr
open Go
set_option linter.unusedVariables false
def B0 : List UInt32:=[0x6a09e667,0xbb67ae85,0x3c6ef372,0xa54ff53a,0x510e527f,0x9b05688c,0x1f83d9ab,0x5be0cd19]
def K0 : List UInt32:=[
 0x428a2f98,0x71374491,0xb5c0fbcf,0xe9b5dba5,0x3956c25b,0x59f111f1,0x923f82a4,0xab1c5ed5,
 0xd807aa98,0x12835b01,0x243185be,0x550c7dc3,0x72be5d74,0x80deb1fe,0x9bdc06a7,0xc19bf174,
 0xe49b69c1,0xefbe4786,0xfc19dc6,0x240ca1cc,0x2de92c6f,0x4a7484aa,0x5cb0a9dc,0x76f988da,
 0x983e5152,0xa831c66d,0xb00327c8,0xbf597fc7,0xc6e00bf3,0xd5a79147,0x6ca6351,0x14292967,
 0x27b70a85,0x2e1b2138,0x4d2c6dfc,0x53380d13,0x650a7354,0x766a0abb,0x81c2c92e,0x92722c85,
 0xa2bfe8a1,0xa81a664b,0xc24b8b70,0xc76c51a3,0xd192e819,0xd6990624,0xf40e3585,0x106aa070,
 0x19a4c116,0x1e376c08,0x2748774c,0x34b0bcb5,0x391c0cb3,0x4ed8aa4a,0x5b9cca4f,0x682e6ff3,
 0x748f82ee,0x78a5636f,0x84c87814,0x8cc70208,0x90befffa,0xa4506ceb,0xbef9a3f7,0xc67178f2]
theorem B0_len : B0.length = 8:=rfl
theorem K0_len : K0.length = 64:=rfl
def hv : Nat → List UInt8 → List UInt32
 | 0,_ => B0
 | q + 1,bs => compress K0 (hv q bs) ((bs.drop (64 * q)).take 64)
def zlen (n : Nat) : Nat:=(119 - n % 64) % 64
def be8 (m : Nat) : List UInt8:=(List.range 8).map fun i => UInt8.ofNat (m / 2 ^ (56 - 8 * i))
def padL (bs : List UInt8) : List UInt8:=bs ++ (0x80 :: (List.replicate (zlen bs.length) 0 ++ be8 (8 * bs.length)))
def outB (v : List UInt32) (m : Nat) : List UInt8:=(List.range m).map fun i => (shr32 (g32 v (i / 4)) (24 - i % 4 * 8)).toUInt8
def shaL (bs : List UInt8) : List UInt8:=outB (hv ((padL bs).length / 64) (padL bs)) 32
theorem hv_len (q : Nat) (bs : List UInt8) : (hv q bs).length = 8:=by
 cases q with
 | zero => rfl
 | succ q => exact compress_length _ _ _
theorem hv_append (c : List UInt8) : ∀ (q : Nat) (bs : List UInt8),64 * q ≤ bs.length → hv q (bs ++ c) = hv q bs
 | 0,_,_ => rfl
 | q + 1,bs,h => by
   simp only [hv]
   rw [hv_append c q bs (by omega),List.drop_append_of_le_length (by omega),List.take_append_of_le_length (by rw [List.length_drop];omega)]
def spl (p : List UInt8) (r : Nat) (c : List UInt8) : List UInt8:=p.take r ++ c ++ p.drop (r + c.length)
theorem spl_len (p : List UInt8) (r : Nat) (c : List UInt8) (h : r + c.length ≤ p.length) : (spl p r c).length = p.length:=by
 simp [spl];omega
structure Inv (bs : List UInt8) (v : List UInt32) (p : List UInt8) : Prop where
 vl : v = hv (bs.length / 64) bs
 pl : p.length = 64
 pt : p.take (bs.length % 64) = bs.drop (bs.length - bs.length % 64)
theorem Inv.start (p : List UInt8) (h : p.length = 64) : Inv [] B0 p:=⟨rfl,h,by simp⟩
theorem Inv.v8 {bs : List UInt8} {v : List UInt32} {p : List UInt8} (h : Inv bs v p) : v.length = 8:=by rw [h.vl];exact hv_len _ _
theorem Inv.part {bs : List UInt8} {v : List UInt32} {p : List UInt8} (h : Inv bs v p) (c : List UInt8) (hc : bs.length % 64 + c.length < 64) : Inv (bs ++ c) v (spl p (bs.length % 64) c):=by
 have e1 : (bs ++ c).length = bs.length + c.length:=List.length_append
 have e2 : (bs.length + c.length) / 64 = bs.length / 64:=by omega
 have e3 : (bs.length + c.length) % 64 = bs.length % 64 + c.length:=by omega
 have hl : (p.take (bs.length % 64)).length = bs.length % 64:=by rw [List.length_take,h.pl];omega
 refine ⟨?_,by rw [spl_len p _ c (by rw [h.pl];omega)];exact h.pl,?_⟩
 · rw [e1,e2,hv_append c _ bs (by omega)]
   exact h.vl
 · rw [e1,e3,show bs.length + c.length - (bs.length % 64 + c.length) = bs.length - bs.length % 64 by omega,List.drop_append_of_le_length (by omega),← h.pt]
   unfold spl
   have:=List.take_left (l₁:=p.take (bs.length % 64) ++ c) (l₂:=p.drop (bs.length % 64 + c.length))
   rw [List.length_append,hl] at this
   exact this
theorem Inv.whole {bs : List UInt8} {v : List UInt32} {p : List UInt8} (h : Inv bs v p) (c : List UInt8) (hc : bs.length % 64 + c.length = 64) (hc0 : 0 < c.length) : Inv (bs ++ c) (compress K0 v (spl p (bs.length % 64) c)) (spl p (bs.length % 64) c):=by
 have e1 : (bs ++ c).length = bs.length + c.length:=List.length_append
 have e2 : (bs.length + c.length) / 64 = bs.length / 64 + 1:=by omega
 have e3 : (bs.length + c.length) % 64 = 0:=by omega
 have hd : p.drop (bs.length % 64 + c.length) = []:=List.drop_eq_nil_of_le (by rw [h.pl];omega)
 refine ⟨?_,by rw [spl_len p _ c (by rw [h.pl];omega)];exact h.pl,?_⟩
 · rw [e1,e2]
   simp only [hv]
   rw [hv_append c _ bs (by omega),← h.vl]
   congr 1
   have e4 : 64 * (bs.length / 64) = bs.length - bs.length % 64:=by omega
   unfold spl
   rw [hd,List.append_nil,h.pt,e4,List.drop_append_of_le_length (by omega)]
   have hl : (bs.drop (bs.length - bs.length % 64) ++ c).length = 64:=by rw [List.length_append,List.length_drop];omega
   exact (List.take_of_length_le (by omega)).symm
 · rw [e1,e3]
   simp
theorem pad_len (bs : List UInt8) : (padL bs).length % 64 = 0:=by
 simp only [padL,be8,zlen,List.length_append,List.length_cons,List.length_replicate,List.length_map,List.length_range]
 omega
theorem outB_len (v : List UInt32) (m : Nat) : (outB v m).length = m:=by simp [outB]
theorem shaL_len (bs : List UInt8) : (shaL bs).length = 32:=outB_len _ _
theorem outB_succ (v : List UInt32) (m : Nat) : outB v (m + 1) = outB v m ++ [(shr32 (g32 v (m / 4)) (24 - m % 4 * 8)).toUInt8]:=by simp [outB,List.range_succ]
theorem shaL_of {bs : List UInt8} {v : List UInt32} {p : List UInt8} (h : Inv (padL bs) v p) : outB v 32 = shaL bs:=by rw [h.vl];rfl
end Go.Xr
namespace Go.Proofs.YtgafefecookgaaaGreat
open Go Go.Xr Go.RowKit
theorem hcs_splice (tp : Nat) (v : List UInt32) (p : List UInt8) (n r : Nat) (c : List UInt8) (hv : v.length = 8) (hp : p.length = 64) (h : r + c.length ≤ 64) :
 splice (hcs tp v p n) (9 + r) (bv c) = hcs tp v (spl p r c) n:=by
 unfold splice hcs spl
 have e1 : 9 + r = (Value.pointer (some ⟨tp,0,none⟩) :: w32s v).length + r:=by simp [w32s,hv]
 have e2 : Value.pointer (some ⟨tp,0,none⟩) :: (w32s v ++ (bv p ++ [.int .u64 (n : Int)])) = (Value.pointer (some ⟨tp,0,none⟩) :: w32s v) ++ (bv p ++ [.int .u64 (n : Int)]):=rfl
 rw [e2,e1,Nat.add_assoc,List.take_length_add_append,List.drop_length_add_append,bv_length,List.take_append_of_le_length (by simp [hp];omega),List.drop_append_of_le_length (by simp [hp];omega),bv_take,bv_drop,bv_append,bv_append]
 simp
theorem hcs_n (tp : Nat) (v : List UInt32) (p : List UInt8) (n : Nat) (hv : v.length = 8) (hp : p.length = 64) : (hcs tp v p n)[73]? = some (.int .u64 n):=by
 unfold hcs w32s
 rw [show 73 = (8 + 64) + 1 by omega,List.getElem?_cons_succ,List.getElem?_append_right (by simp [hv]),List.getElem?_append_right (by simp [hv,hp])]
 simp [hv,hp]
theorem hcs_setn (tp : Nat) (v : List UInt32) (p : List UInt8) (n m : Nat) (hv : v.length = 8) (hp : p.length = 64) : (hcs tp v p n).set 73 (.int .u64 m) = hcs tp v p m:=by
 unfold hcs w32s
 rw [show 73 = (8 + 64) + 1 by omega,List.set_cons_succ,List.set_append_right _ _ (by simp [hv]),List.set_append_right _ _ (by simp [hv,hp])]
 simp [hv,hp]
structure HR (w : World) (hb tp : Nat) (bs : List UInt8) : Prop where
 mem : ∃ v p,Blk w hb (hcs tp v p bs.length) ∧ Inv bs v p
 tab : Blk w tp (tcs B0 K0)
theorem HR.ne {w : World} {hb tp : Nat} {bs : List UInt8} (h : HR w hb tp bs) : hb ≠ tp:=by
 intro e
 obtain ⟨v,p,h1,h2⟩:=h.mem
 have:=congrArg List.length (Blk.eq h1 (e ▸ h.tab))
 rw [hcs_length tp v p _ h2.v8 h2.pl] at this
 exact absurd this (by decide)
theorem HR.keep {w w' : World} {hb tp : Nat} {bs : List UInt8} {S : List Nat} (h : HR w hb tp bs) (f : Fr S w w') (h1 : hb ∉ S) (h2 : tp ∉ S) : HR w' hb tp bs:=by
 obtain ⟨v,p,h3,h4⟩:=h.mem
 exact ⟨⟨v,p,f.blk h3 h1,h4⟩,f.blk h.tab h2⟩
theorem extract_drop (x : ByteArray) (k : Nat) : (x.extract k x.size).data.toList = x.data.toList.drop k:=by
 have e : x.data.toList.length = x.size:=bytes_len x
 simp only [ByteArray.data_extract,Array.toList_extract,List.extract]
 rw [← e]
 exact List.take_of_length_le (by simp)
def strLen : Value → Nat
 | .string t => t.size
 | _ => 0
theorem strLen_eq (t : ByteArray) : strLen (.string t) = t.size:=rfl
theorem extract_size (t : ByteArray) (k : Nat) : (t.extract k t.size).size = t.size - k:=by simp
theorem add_any {w : World} {hb tp : Nat} {bs : List UInt8} (h : HR w hb tp bs) (s : ByteArray) (hs : bs.length + s.size < 1152921504606846976) :
 Calls Tryz.prog 113 #[.pointer (some ⟨hb,0,none⟩),.string s] w fun e w' => e = .returned (.int .i64 0) ∧ HR w' hb tp (bs ++ s.data.toList) ∧ Fr [hb] w w':=by
 obtain ⟨v,p,hH,hI⟩:=h.mem
 have hc0:=hH.cell 0
 rw [show (hcs tp v p bs.length)[0]? = some (.pointer (some ⟨tp,0,none⟩)) from rfl] at hc0
 have H:=hid h
 clear h hH hI
 go_enter Tryz.func113,Tryz.ntmps113
 go_wp2_with fail
 clear hc0
 go_loopw [1] (fun x wr => ∃ (t : ByteArray) (d : List UInt8),x = .string t ∧ Hid (s.data.toList = d ++ t.data.toList) ∧ d.length + t.size ≤ s.size ∧ HR wr hb tp (bs ++ d) ∧ Fr [hb] w wr) (fun x _ => strLen x)
 case atStart => exact ⟨s,[],rfl,rfl,by simp,by rw [List.append_nil];exact H.out,Fr.refl _ _⟩
 case round =>
  obtain ⟨t,d,rfl,hd,hdl,hr,f⟩:=hrel
  obtain ⟨v1,p1,hH,hI⟩:=hr.mem
  have hT:=hr.tab
  have hne:=hid hr.ne
  have hbl:=bytes_len t
  have Hbl:=hid hbl
  have hte : t.toList = t.data.toList:=ByteArray.toList_eq t
  clear H hr hbl
  obtain ⟨N,hN,hN2⟩ : ∃ N : Nat,(bs ++ d).length = N ∧ N + t.size < 1152921504606846976:=⟨_,rfl,by rw [List.length_append];omega⟩
  rw [hN] at hH
  have HN:=hid hN
  clear hN
  by_cases ht : t.size = 0
  · have hnil : t.data.toList = []:=List.eq_nil_of_length_eq_zero (by rw [Hbl.out];exact ht)
    have ht1 : t.toList.isEmpty = true:=by rw [hte,hnil];rfl
    have Hd : Hid (s.data.toList = d):=by
     rw [hd.out,hnil,List.append_nil]
     exact hid rfl
    clear hnil hte ht
    go_wp2_with fail
    go_ret
    refine ⟨rfl,⟨⟨v1,p1,?_,?_⟩,hT⟩,f⟩
    · rw [Hd.out,HN.out]
      exact hH
    · rw [Hd.out]
      exact hI
  · have ht1 : t.toList.isEmpty = false:=by
     rw [hte]
     cases e : t.data.toList with
     | nil => rw [e] at Hbl;exact absurd Hbl.out.symm ht
     | cons _ _ => rfl
    have HI:=hid hI
    clear hte hI
    have hm1 : N % 64 < 64:=Nat.mod_lt _ (by decide)
    have hm2 : (0 : Int) ≤ (N : Int) % 64:=by omega
    have hm4 : (N : Int) % 64 ≤ 64:=by omega
    have hm6 : ¬ (64 = N % 64):=by omega
    have hm5 : ((N : Int) % 64).toNat = N % 64:=by omega
    go_wp2_with fail
    obtain ⟨ι,W,hι,hW1,hW2,hW0⟩:=family (fun w' => w'.cell? ⟨hb,73,none⟩ = some (.int .u64 (N : Int))) (w:=wr.drew) (by rw [World.cell?_drew,hH.cell];exact hcs_n tp v1 p1 N HI.out.v8 HI.out.pl)
    have HW1:=hid hW1
    have HW2:=hid hW2
    have HW0:=hid hW0
    clear hW1 hW2 hW0
    have hS1:=HW1.out
    refine wp_region_X (fun w' => ∃ j,w' = W j) false (by kernel_rfl) ?_
    refine WX.pure [0,1,2,3,4,5,6,7,8,9] (by kernel_rfl) HW0.out ?_
    simp only [pick,aF,aG,aI,aJ,aK]
    repeat (go_big_quiet_step (fail))
    refine wpQuiet_nil ?_
    refine WX.eff 10 (by kernel_rfl) ?_
    simp only [pick,aF,aG,aI,aJ,aK]
    obtain ⟨k,hk,hk1,hk2,hk3,hk4⟩ : ∃ k : Nat,Nat.min t.size (64 - N % 64) = k ∧ 0 < k ∧ k ≤ t.size ∧ N % 64 + k ≤ 64 ∧ (k = t.size ∨ N % 64 + k = 64):=by
     refine ⟨min t.size (64 - N % 64),rfl,?_,?_,?_,?_⟩ <;> omega
    refine wpList_copy_str rfl _ _ 5 _ _ rfl (64 - N % 64) _ t k hk rfl rfl hH.drew Tryz.underlying119 (by kernel_rfl) (by rw [hcs_length tp v1 p1 N HI.out.v8 HI.out.pl];omega) ?_
    intro w2 f2 hb2 hs2
    have hcl : (t.data.toList.take k).length = k:=by rw [List.length_take,Hbl.out];omega
    rw [hcs_splice tp v1 p1 N (N % 64) _ HI.out.v8 HI.out.pl (by rw [hcl];exact hk3)] at hb2
    have Hcl:=hid hcl
    have Hk4:=hid hk4
    clear hcl hk hk4
    have hpl2 : (spl p1 (N % 64) (t.data.toList.take k)).length = 64:=by rw [spl_len p1 _ _ (by rw [HI.out.pl,Hcl.out];exact hk3)];exact HI.out.pl
    have Hpl2:=hid hpl2
    clear hpl2
    refine wpList_nil ?_
    refine After.on (HW2.out _ (by rw [hb2.cell];exact hcs_n tp v1 _ N HI.out.v8 Hpl2.out)) ?_
    simp only [Act.put,List.setIfInBounds_toArray,List.set_cons_succ,List.set_cons_zero]
    refine WX.pure [11] (by kernel_rfl) (HW2.out _ (by rw [hb2.cell];exact hcs_n tp v1 _ N HI.out.v8 Hpl2.out)) ?_
    simp only [pick,aF,aG,aI,aJ,aK]
    repeat (go_big_quiet_step (fail))
    refine wpQuiet_nil ?_
    refine WX.done (by kernel_rfl) ?_
    clear hS1
    clear HW1 HW2 HW0 hι W ι
    have hT2:=f2.blk hT.drew (by simp;exact fun e => hne.out e.symm)
    have g2 : Fr [hb] w w2:=f.drew.trans' f2
    have Hd : Hid (s.data.toList = (d ++ t.data.toList.take k) ++ (t.extract k t.size).data.toList):=by
     rw [extract_drop,List.append_assoc,List.take_append_drop]
     exact hd
    have HNk : Hid ((bs ++ (d ++ t.data.toList.take k)).length = N + k):=by
     rw [← List.append_assoc,List.length_append,HN.out,Hcl.out]
     exact hid rfl
    clear hT f hm2 hm4 hm5 hm6 ht1 hd
    have c73 : w2.cell? ⟨hb,73,none⟩ = some (.int .u64 (N : Int)):=by rw [hb2.cell];exact hcs_n tp v1 _ N HI.out.v8 Hpl2.out
    generalize hp2 : spl p1 (N % 64) (t.data.toList.take k) = p2 at *
    have Hp2:=hid hp2
    clear hp2
    go_wp2_with (refine wpList_put rfl _ _ _ rfl rfl (.int .u64 ((N + k : Nat) : Int)) (by rfl) rfl hb2 (by rw [hcs_length tp v1 _ N HI.out.v8 Hpl2.out];decide) (by kernel_rfl) ?_;intro w3 f3 hb3 hs3;rw [hcs_setn tp v1 _ N _ HI.out.v8 Hpl2.out] at hb3;clear c73;have c73 : w3.cell? ⟨hb,73,none⟩ = some (.int .u64 ((N + k : Nat) : Int)):=(by rw [hb3.cell];exact hcs_n tp v1 _ _ HI.out.v8 Hpl2.out);simp only [aA,aB,Act.put,aC,aD,aE])
    all_goals have hne2:=hne.out
    all_goals have hT3 : Blk w3 tp (tcs B0 K0):=f3.blk hT2 (by simp;exact fun e => hne2 e.symm)
    all_goals have hes:=extract_size t k
    · have hz : (N + k) % 64 = 0:=by
       have h0 : (((N : Int) + k) % 64 == 0) = true:=by assumption
       simp at h0
       omega
      refine (block_any hb3 hT3 HI.out.v8 Hpl2.out K0_len B0_len).mono ?_
      rintro e w4 ⟨rfl,hb4,f4⟩
      clear hne2 hes
      go_wp2_with fail
      refine ⟨⟨t.extract k t.size,d ++ t.data.toList.take k,rfl,Hd,?_,⟨⟨_,_,by rw [HNk.out];exact hb4,?_⟩,f4.blk hT3 (by simp;exact fun e => hne.out e.symm)⟩,(g2.trans' f3).trans' f4⟩,?_⟩
      · rw [List.length_append,Hcl.out,extract_size];omega
      · have hi:=HI.out.whole (t.data.toList.take k) (by rw [HN.out,Hcl.out];omega) (by rw [Hcl.out];exact hk1)
        rw [HN.out,Hp2.out] at hi
        rw [← List.append_assoc]
        exact hi
      · rw [strLen_eq,strLen_eq,extract_size];omega
    · have hz : ¬ (N + k) % 64 = 0:=by
       have h0 : (((N : Int) + k) % 64 == 0) = false:=by assumption
       simp at h0
       omega
      refine ⟨⟨t.extract k t.size,d ++ t.data.toList.take k,rfl,Hd,?_,⟨⟨_,_,by rw [HNk.out];exact hb3,?_⟩,hT3⟩,g2.trans' f3⟩,?_⟩
      · rw [List.length_append,Hcl.out,extract_size];omega
      · have hi:=HI.out.part (t.data.toList.take k) (by rw [HN.out,Hcl.out];omega)
        rw [HN.out,Hp2.out] at hi
        rw [← List.append_assoc]
        exact hi
      · rw [strLen_eq,strLen_eq,extract_size];omega
theorem mul64_any (x y : Nat) (hx : x < 18446744073709551616) (hy : y < 18446744073709551616) (w : World) :
 Calls Tryz.prog 132 #[.int .u64 x,.int .u64 y] w fun e w' => e = .returned (.tuple #[.int .u64 ((x * y / 18446744073709551616 : Nat) : Int),.int .u64 ((x * y % 18446744073709551616 : Nat) : Int)]) ∧ w = w':=by
 obtain ⟨bd,bt,bw,hhi⟩:=Lib.mul64_hi x y hx hy
 have ba:=Lib.half_mul_le (a:=x / 4294967296) (b:=y / 4294967296) (by omega) (by omega)
 have bb:=Lib.half_mul_le (a:=x / 4294967296) (b:=y % 4294967296) (by omega) (by omega)
 have bc:=Lib.half_mul_le (a:=x % 4294967296) (b:=y / 4294967296) (by omega) (by omega)
 have ba' : x / 4294967296 * (y / 4294967296) < 18446744073709551616:=by omega
 have bb' : x / 4294967296 * (y % 4294967296) < 18446744073709551616:=by omega
 have bc' : x % 4294967296 * (y / 4294967296) < 18446744073709551616:=by omega
 have bh1 : x / 4294967296 * (y / 4294967296) + (x / 4294967296 * (y % 4294967296) + x % 4294967296 * (y % 4294967296) / 4294967296) / 4294967296 < 18446744073709551616:=by omega
 have bh : x / 4294967296 * (y / 4294967296) + (x / 4294967296 * (y % 4294967296) + x % 4294967296 * (y % 4294967296) / 4294967296) / 4294967296 + ((x / 4294967296 * (y % 4294967296) + x % 4294967296 * (y % 4294967296) / 4294967296) % 4294967296 + x % 4294967296 * (y / 4294967296)) / 4294967296 < 18446744073709551616:=by omega
 go_enter Tryz.func132,Tryz.ntmps132
 go_wp2
 simp only [Mul64.maskN x hx,Mul64.maskN y hy,Mul64.divN,Mul64.mulN,Mul64.addN,Mul64.wrapN _ bd,Mul64.wrapN _ bb',Mul64.wrapN _ bt,Mul64.maskN _ bt,Mul64.wrapN _ bc',Mul64.wrapN _ bw,Mul64.wrapN _ ba',Mul64.wrapN _ bh1,Mul64.wrapN _ bh,Mul64.wrapM (x * y)]
 rw [hhi]
 go_ret2
 exact ⟨rfl,rfl⟩
def sqB (x p : Nat) : Bool:=decide (x * x ≤ p * 18446744073709551616)
def cuB (x p : Nat) : Bool:=decide (x * x * x ≤ p * 79228162514264337593543950336)
theorem square_any (x p : Nat) (hx : x < 18446744073709551616) (hp : p < 18446744073709551616) (w : World) :
 Calls Tryz.prog 140 #[.int .u64 x,.int .u64 p] w fun e w' => e = .returned (.bool (sqB x p)) ∧ w = w':=by
 have hm:=mul64_any x x hx hx w
 have hq : x * x = x * x / 18446744073709551616 * 18446744073709551616 + x * x % 18446744073709551616:=by omega
 have hl : x * x % 18446744073709551616 < 18446744073709551616:=Nat.mod_lt _ (by decide)
 generalize x * x / 18446744073709551616 = H at *
 generalize x * x % 18446744073709551616 = L at *
 have Hq:=hid hq
 clear hq
 have fin : ∀ b : Bool,(b = true ↔ (H < p ∨ (H = p ∧ L = 0))) → Ending.returned (.bool b) = .returned (.bool (sqB x p)):=by
  intro b hb
  have : b = sqB x p:=by
   rw [Bool.eq_iff_iff,hb]
   unfold sqB
   rw [decide_eq_true_iff,Hq.out]
   omega
  rw [this]
 have Fin:=hid fin
 clear fin
 by_cases h1 : H < p
 · have e1 : decide ((H : Int) < (p : Int)) = true:=by simp;omega
   go_enter Tryz.func140,Tryz.ntmps140
   go_wp2_with (go_at_call 132;refine hm.mono ?_;rintro e w' ⟨rfl,rfl⟩)
   go_ret
   exact ⟨Fin.out _ (by simp [h1]),rfl⟩
 · have e1 : decide ((H : Int) < (p : Int)) = false:=by simp;omega
   by_cases h2 : H = p
   · subst h2
     have e2 : ((H : Int) == (H : Int)) = true:=by simp
     go_enter Tryz.func140,Tryz.ntmps140
     go_wp2_with (go_at_call 132;refine hm.mono ?_;rintro e w' ⟨rfl,rfl⟩)
     go_ret
     exact ⟨Fin.out _ (by simp),rfl⟩
   · have e2 : ((H : Int) == (p : Int)) = false:=by simp;omega
     go_enter Tryz.func140,Tryz.ntmps140
     go_wp2_with (go_at_call 132;refine hm.mono ?_;rintro e w' ⟨rfl,rfl⟩)
     go_ret
     exact ⟨Fin.out _ (by simp [h2,h1]),rfl⟩
theorem cube_parts (x H L H2 L2 : Nat) (h1 : x * x = H * 18446744073709551616 + L) (h2 : L * x = H2 * 18446744073709551616 + L2) : x * x * x = (H * x + H2) * 18446744073709551616 + L2:=by
 rw [h1,Nat.add_mul,h2,Nat.add_mul,Nat.mul_right_comm]
 omega
theorem cube_any (x p : Nat) (hx : x < 137438953472) (hp : p < 1048576) (w : World) :
 Calls Tryz.prog 141 #[.int .u64 x,.int .u64 p] w fun e w' => e = .returned (.bool (cuB x p)) ∧ w = w':=by
 have hm:=mul64_any x x (by omega) (by omega) w
 have hq : x * x = x * x / 18446744073709551616 * 18446744073709551616 + x * x % 18446744073709551616:=by omega
 have hl : x * x % 18446744073709551616 < 18446744073709551616:=Nat.mod_lt _ (by decide)
 have hHx : x * x / 18446744073709551616 < 1024:=by
  have : x * x < 137438953472 * 137438953472:=Nat.mul_lt_mul'' hx hx
  omega
 generalize x * x / 18446744073709551616 = H at *
 generalize x * x % 18446744073709551616 = L at *
 have hm2:=mul64_any L x hl (by omega) w
 have hq2 : L * x = L * x / 18446744073709551616 * 18446744073709551616 + L * x % 18446744073709551616:=by omega
 have hl2 : L * x % 18446744073709551616 < 18446744073709551616:=Nat.mod_lt _ (by decide)
 have hH2 : L * x / 18446744073709551616 < 137438953472:=by
  have : L * x < 18446744073709551616 * 137438953472:=Nat.mul_lt_mul'' hl hx
  omega
 generalize L * x / 18446744073709551616 = H2 at *
 generalize L * x % 18446744073709551616 = L2 at *
 have hc:=cube_parts x H L H2 L2 hq hq2
 have hG : H * x < 140737488355328:=by
  have : H * x < 1024 * 137438953472:=Nat.mul_lt_mul'' hHx hx
  omega
 have hwG : IntKind.u64.wrap ((H : Int) * (x : Int)) = ((H * x : Nat) : Int):=by
  rw [← Int.natCast_mul]
  exact IntWalk.u64_in _ (by omega)
 obtain ⟨G,hGe⟩ : ∃ G,H * x = G:=⟨_,rfl⟩
 rw [hGe] at hc hG hwG
 have Hc:=hid hc
 clear hq hq2 hc hGe
 have fin : ∀ b : Bool,(b = true ↔ (G + H2 < p * 4294967296 ∨ (G + H2 = p * 4294967296 ∧ L2 = 0))) → Ending.returned (.bool b) = .returned (.bool (cuB x p)):=by
  intro b hb
  have : b = cuB x p:=by
   rw [Bool.eq_iff_iff,hb]
   unfold cuB
   rw [decide_eq_true_iff,Hc.out]
   omega
  rw [this]
 have Fin:=hid fin
 clear fin
 by_cases h1 : G + H2 < p * 4294967296
 · have e1 : decide ((G : Int) + (H2 : Int) < (p : Int) * 4294967296) = true:=by simp;omega
   go_enter Tryz.func141,Tryz.ntmps141
   go_wp2_with fail
   refine hm.mono ?_
   rintro e w' ⟨rfl,rfl⟩
   go_wp2_with fail
   refine hm2.mono ?_
   rintro e w' ⟨rfl,rfl⟩
   go_wp2_with fail
   go_ret
   exact ⟨Fin.out _ (by simp [h1]),rfl⟩
 · have e1 : decide ((G : Int) + (H2 : Int) < (p : Int) * 4294967296) = false:=by simp;omega
   by_cases h2 : G + H2 = p * 4294967296
   · have e2 : ((G : Int) + (H2 : Int) == (p : Int) * 4294967296) = true:=by simp;omega
     have Hh2:=hid h2
     clear h2
     go_enter Tryz.func141,Tryz.ntmps141
     go_wp2_with fail
     refine hm.mono ?_
     rintro e w' ⟨rfl,rfl⟩
     go_wp2_with fail
     refine hm2.mono ?_
     rintro e w' ⟨rfl,rfl⟩
     go_wp2_with fail
     go_ret
     exact ⟨Fin.out _ (by simp [Hh2.out]),rfl⟩
   · have e2 : ((G : Int) + (H2 : Int) == (p : Int) * 4294967296) = false:=by simp;omega
     go_enter Tryz.func141,Tryz.ntmps141
     go_wp2_with fail
     refine hm.mono ?_
     rintro e w' ⟨rfl,rfl⟩
     go_wp2_with fail
     refine hm2.mono ?_
     rintro e w' ⟨rfl,rfl⟩
     go_wp2_with fail
     go_ret
     exact ⟨Fin.out _ (by simp [h2,h1]),rfl⟩
def rootF (t : Nat → Bool) : Nat → Nat → Nat
 | 0,x => x
 | b + 1,x => rootF t b (if t (x + 2 ^ b) then x + 2 ^ b else x)
theorem or_bit (x : UInt64) (c : Nat) (hc : c < 37) (hx : x.toNat % 2 ^ (c + 1) = 0) : (x ||| shl64 1 c).toNat = x.toNat + 2 ^ c:=by
 have h1 : (shl64 1 c).toNat = 2 ^ c:=by
  unfold shl64
  show ((1 : UInt64).toBitVec <<< c).toNat = 2 ^ c
  rw [BitVec.toNat_shiftLeft,Nat.shiftLeft_eq]
  have : (1 : UInt64).toBitVec.toNat = 1:=rfl
  rw [this,Nat.one_mul]
  exact Nat.mod_eq_of_lt (Nat.pow_lt_pow_right (by decide) (by omega))
 rw [UInt64.toNat_or,h1]
 obtain ⟨q,hq⟩ : ∃ q,x.toNat = 2 ^ (c + 1) * q:=⟨x.toNat / 2 ^ (c + 1),by have:=Nat.div_add_mod x.toNat (2 ^ (c + 1));omega⟩
 rw [hq,Nat.two_pow_add_eq_or_of_lt (Nat.pow_lt_pow_right (by decide) (Nat.lt_succ_self c))]
def fracW (t : Nat → Bool) : UInt32:=(rootF t 37 0).toUInt32
theorem shl1 (c : Nat) (hc : c < 37) (t : TypeId) : binOp .shl t (.int .u64 1) (.int .u64 (c : Int)) = pure (W64 (shl64 1 c)):=by
 have:=shl_u64 t 1 .u64 c (by omega)
 rw [Int.toNat_natCast] at this
 exact this
attribute [local go_sem] or_u64
theorem cv64_32 (w : World) (a : UInt64) : (convert 109 137 (W64 a)).run Tryz.prog w = .ok (W32 a.toUInt32) w:=conv_u64_u32 w _ _ a Tryz.underlying109 Tryz.underlying137 rfl
attribute [local go_sem] cv64_32
theorem frac_any (F : Nat) (p : Nat) (t : Nat → Bool) (hF : ∀ (x : Nat) (w : World),x < 137438953472 → Calls Tryz.prog F #[.int .u64 x,.int .u64 p] w fun e w' => e = .returned (.bool (t x)) ∧ w = w') (hFn : F = 140 ∨ F = 141) (w : World) :
 Calls Tryz.prog 139 #[.int .u64 p,.func (.func F) #[] #[]] w fun e w' => e = .returned (W32 (fracW t)) ∧ w = w':=by
 have HF:=hid hF
 clear hF
 rcases hFn with rfl | rfl
 all_goals
  go_enter Tryz.func139,Tryz.ntmps139
  go_wp2_with fail
  go_loop [5,6] (fun xv bv => ∃ (b : Nat) (x : UInt64),b ≤ 37 ∧ bv = .int .i64 ((b : Int) - 1) ∧ xv = W64 x ∧ x.toNat % 2 ^ b = 0 ∧ x.toNat + 2 ^ b ≤ 137438953472 ∧ Hid (rootF t b x.toNat = rootF t 37 0)) (fun _ bv => (intOf bv + 1).toNat)
  case atStart => exact ⟨37,0,by omega,rfl,rfl,rfl,by decide,rfl⟩
  case round =>
   obtain ⟨b,x,hb,rfl,rfl,hx1,hx2,hr⟩:=hrel
   cases b with
   | zero =>
     clear hx1 hx2
     go_wp2_with fail
     go_ret
     refine ⟨?_,rfl⟩
     have : x.toUInt32 = fracW t:=by
      unfold fracW
      rw [← hr.out]
      rfl
     rw [this]
     rfl
   | succ c =>
     have em : ((c + 1 : Nat) : Int) - 1 = (c : Int):=by omega
     have hy:=or_bit x c (by omega) hx1
     have hsh:=shl1 c (by omega) 109
     have hp2 : 2 ^ (c + 1) = 2 ^ c + 2 ^ c:=by rw [Nat.pow_succ];omega
     have hxc : x.toNat % 2 ^ c = 0:=by
      have h1 : x.toNat % 2 ^ c = x.toNat % 2 ^ (c + 1) % 2 ^ c:=(Nat.mod_mod_of_dvd _ (Nat.pow_dvd_pow 2 (Nat.le_succ c))).symm
      rw [h1,hx1,Nat.zero_mod]
     have hyc : (x ||| shl64 1 c).toNat % 2 ^ c = 0:=by rw [hy,Nat.add_mod_right];exact hxc
     have hb1 : x.toNat + 2 ^ c ≤ 137438953472:=by omega
     have hb2 : (x ||| shl64 1 c).toNat + 2 ^ c ≤ 137438953472:=by omega
     have hb3 : (x ||| shl64 1 c).toNat < 137438953472:=by have:=Nat.two_pow_pos c;omega
     have Hy:=hid hy
     have Hxc:=hid hxc
     have Hyc:=hid hyc
     have Hb1:=hid hb1
     have Hb2:=hid hb2
     have HC:=hid (HF.out (x ||| shl64 1 c).toNat)
     clear hx1 hx2 hp2 hy hxc hyc hb1 hb2
     rw [em]
     have hc0 : (0 : Int) ≤ c:=by omega
     clear em
     cases htx : t (x ||| shl64 1 c).toNat with
     | true =>
       rw [htx] at HC
       have Ht:=hid htx
       clear htx
       go_wp2_with fail
       refine (HC.out _ hb3).mono ?_
       rintro e w' ⟨rfl,rfl⟩
       go_wp2_with fail
       go_round
       case rel => exact ⟨c,_,by omega,rfl,rfl,Hyc.out,Hb2.out,by
        have h2:=hr.out
        rw [rootF,← Hy.out,Ht.out,if_pos rfl] at h2
        exact h2⟩
       case measure => simp [intOf]
     | false =>
       rw [htx] at HC
       have Ht:=hid htx
       clear htx
       go_wp2_with fail
       refine (HC.out _ hb3).mono ?_
       rintro e w' ⟨rfl,rfl⟩
       go_wp2_with fail
       go_round
       case rel => exact ⟨c,_,by omega,rfl,rfl,Hxc.out,Hb1.out,by
        have h2:=hr.out
        rw [rootF,← Hy.out,Ht.out,if_neg (by decide)] at h2
        exact h2⟩
       case measure => simp [intOf]
end Go.Proofs.YtgafefecookgaaaGreat
namespace Go.Proofs.YtgafefecookgaaaGreat
open Go Go.Xr Go.RowKit
def pB (p : Nat) : Bool:=(List.range p).all fun q => decide (q < 2) || decide (p < q * q) || !decide (p % q = 0)
def prs (p : Nat) : List Nat:=(List.range p).filter fun x => decide (2 ≤ x) && pB x
theorem prs_succ (p : Nat) (h : 2 ≤ p) : prs (p + 1) = if pB p then prs p ++ [p] else prs p:=by
 unfold prs
 rw [List.range_succ,List.filter_append]
 have h2 : decide (2 ≤ p) = true:=by simp;omega
 cases hp : pB p <;> simp [hp,h2]
def tb (f : Nat → UInt32) (m : Nat) (ps : List Nat) : List UInt32:=(List.range m).map fun i => match ps[i]? with | some p => f p | none => 0
theorem tb_len (f : Nat → UInt32) (m : Nat) (ps : List Nat) : (tb f m ps).length = m:=by simp [tb]
theorem tb_set (f : Nat → UInt32) (m : Nat) (ps : List Nat) (p : Nat) (h : ps.length < m) : (tb f m ps).set ps.length (f p) = tb f m (ps ++ [p]):=by
 unfold tb
 apply List.ext_getElem (by simp)
 intro i h1 h2
 simp only [List.length_set,List.length_map,List.length_range] at h1
 rw [List.getElem_set]
 simp only [List.getElem_map,List.getElem_range]
 by_cases hi : ps.length = i
 · subst hi
   simp
 · rw [if_neg hi]
   by_cases hlt : i < ps.length
   · rw [List.getElem?_append_left hlt]
   · rw [List.getElem?_append_right (by omega),List.getElem?_eq_none (by omega),List.getElem?_eq_none (by simp;omega)]
theorem tb_full (f : Nat → UInt32) (m : Nat) (ps : List Nat) (p : Nat) (h : m ≤ ps.length) : tb f m (ps ++ [p]) = tb f m ps:=by
 unfold tb
 apply List.map_congr_left
 intro i hi
 have:=List.mem_range.1 hi
 rw [List.getElem?_append_left (by omega)]
def f2 (p : Nat) : UInt32:=fracW fun x => sqB x p
def f3 (p : Nat) : UInt32:=fracW fun x => cuB x p
theorem prs_end : (prs 312).length = 64:=by decide +kernel
theorem prs_most : ∀ p,p < 312 → (prs p).length < 64:=by decide +kernel
theorem tabB : tb f2 8 (prs 312) = B0:=by decide +kernel
theorem tabK : tb f3 64 (prs 312) = K0:=by decide +kernel
theorem tb_nil (f : Nat → UInt32) (m : Nat) : tb f m [] = List.replicate m 0:=by
 unfold tb
 apply List.ext_getElem (by simp)
 intro i h1 h2
 simp
def zag72 : Array Value:=(List.replicate 72 (W32 0)).toArray
theorem zero64 (w : World) : (zeroValue 188).run Tryz.prog w = .ok (.agg zag72) w:=by kernel_rfl
theorem tcs_len (B K : List UInt32) : (tcs B K).length = B.length + K.length:=by simp [tcs,w32s]
theorem tcs_setB (B K : List UInt32) (n : Nat) (x : UInt32) (h : n < B.length) : (tcs B K).set n (W32 x) = tcs (B.set n x) K:=by
 unfold tcs w32s
 rw [List.set_append_left _ _ (by simpa using h),List.map_set]
theorem tcs_setK (B K : List UInt32) (n : Nat) (x : UInt32) (h : B.length = 8) : (tcs B K).set (8 + n) (W32 x) = tcs B (K.set n x):=by
 unfold tcs w32s
 rw [List.set_append_right _ _ (by simp [h]),List.length_map,h,show 8 + n - 8 = n by omega,List.map_set]
theorem zag_tcs : zag72.toList = tcs (tb f2 8 (prs 2)) (tb f3 64 (prs 2)):=by
 have e : prs 2 = []:=by decide +kernel
 rw [e,tb_nil,tb_nil]
 simp [zag72,tcs,w32s]
theorem fixed_any {w : World} :
 Calls Tryz.prog 129 #[] w fun e w' => e = .returned (.pointer (some ⟨w.heap.size,0,none⟩)) ∧ Blk w' w.heap.size (tcs B0 K0) ∧ Fr [] w w':=by
 go_enter Tryz.func129,Tryz.ntmps129
 go_wp2_with fail
 go_step3
 have hz:=zero64
 go_wp2_with fail
 go_step3
 go_wp2_with fail
 clear hz
 have hb0:=Blk.allocArr w zag72 188
 rw [zag_tcs] at hb0
 have f0 : Fr [] w (w.alloc (.cells zag72 188)):=(Fr.refl [] w).alloc _
 generalize w.alloc (.cells zag72 188) = w1 at *
 go_loopg [2,3] 310 (fun g nv pv wr => ∃ p n : Nat,2 ≤ p ∧ p + g = 312 ∧ pv = .int .u64 p ∧ nv = .int .i64 n ∧ Hid ((prs p).length = n) ∧ Blk wr w.heap.size (tcs (tb f2 8 (prs p)) (tb f3 64 (prs p))) ∧ Fr [] w wr)
 case atStart => exact ⟨2,0,by omega,by omega,rfl,rfl,hid (by decide +kernel),hb0,f0⟩
 case round =>
  obtain ⟨p,n,hp2,hpg,rfl,rfl,hn,hb,f⟩:=hrel
  obtain ⟨G,rfl⟩ : ∃ G,G = gk:=⟨_,rfl⟩
  clear hb0 f0
  by_cases hlt : n < 64
  · have hd1 : decide ((n : Int) < 64) = true:=by simp;omega
    have hg : 0 < G:=by
     rcases Nat.eq_zero_or_pos G with h | h
     · have e : p = 312:=by omega
       have:=hn.out
       rw [e,prs_end] at this
       omega
     · exact h
    go_wp2_with fail
    obtain ⟨wo,rfl⟩ : ∃ wo : World,wo = wr:=⟨_,rfl⟩
    go_loopg [4] p (fun g2 qv wx => ∃ q : Nat,2 ≤ q ∧ q + g2 = p + 2 ∧ qv = .int .u64 q ∧ wx = wo ∧ Hid (∀ r,2 ≤ r → r < q → p % r ≠ 0))
    case atStart => exact ⟨2,by omega,by omega,rfl,rfl,hid (fun r h1 h2 => by omega)⟩
    case round =>
     obtain ⟨q,hq2,hqg,rfl,rfl,hdiv⟩:=hrel
     have hS : q * q ≤ 313 * 313 ∨ p + 1 < q:=by
      by_cases h : p + 1 < q
      · exact .inr h
      · exact .inl (Nat.mul_le_mul (by omega) (by omega))
     have hq1 : q ≤ p + 2:=by omega
     have hSw : IntKind.u64.wrap ((q : Int) * (q : Int)) = ((q * q : Nat) : Int):=by
      rw [← Int.natCast_mul]
      have : q * q ≤ 314 * 314:=Nat.mul_le_mul (by omega) (by omega)
      exact IntWalk.u64_in _ (by omega)
     have hRw : ((p : Int)).tmod (q : Int) = ((p % q : Nat) : Int):=by rw [Int.tmod_eq_emod_of_nonneg (by omega)];rfl
     have hRb : p % q < q:=Nat.mod_lt _ (by omega)
     obtain ⟨S,hSe⟩ : ∃ S,q * q = S:=⟨_,rfl⟩
     obtain ⟨R,hRe⟩ : ∃ R,p % q = R:=⟨_,rfl⟩
     rw [hSe] at hSw
     rw [hRe] at hRw hRb
     have HSe:=hid hSe
     have HRe:=hid hRe
     clear hSe hRe hS
     by_cases hle : S ≤ p
     · have e1 : decide (S ≤ p) = true:=by simp;omega
       have hqp : q ≤ p:=by
        have : q * 1 ≤ q * q:=Nat.mul_le_mul_left _ (by omega)
        have:=HSe.out
        omega
       by_cases hR : R = 0
       · have e2 : ((R : Int) == 0) = true:=by simp;omega
         have HR:=hid hR
         clear hR
         go_wp2_with fail
         go_roundg (G - 1)
         case rel =>
          have hnp : pB p = false:=by
           unfold pB
           rw [List.all_eq_false]
           refine ⟨q,List.mem_range.2 (by
            have h1:=HSe.out
            have h2 : q * 2 ≤ q * q:=Nat.mul_le_mul_left _ hq2
            omega),?_⟩
           have h1:=HSe.out
           have h2:=HRe.out
           rw [HR.out] at h2
           simp only [Bool.or_eq_true,decide_eq_true_eq,Bool.not_eq_true',decide_eq_false_iff_not,not_or,Decidable.not_not]
           exact ⟨⟨by omega,by omega⟩,h2⟩
          have he:=prs_succ p hp2
          rw [hnp] at he
          simp only [Bool.false_eq_true,if_false] at he
          exact ⟨p + 1,n,by omega,by omega,by go_num,rfl,by rw [he];exact hn,by rw [he];exact hb,f⟩
         case measure => omega
       · have e2 : ((R : Int) == 0) = false:=by simp;omega
         go_wp2_with fail
         go_roundg (gk - 1)
         case rel => exact ⟨q + 1,by omega,by omega,by go_num,rfl,hid (fun r h1 h2 => by
          by_cases h : r < q
          · exact hdiv.out r h1 h
          · obtain rfl : r = q:=by omega
            rw [HRe.out]
            exact hR)⟩
         case measure => omega
     · have e1 : decide (S ≤ p) = false:=by simp;omega
       have HP : Hid (pB p = true):=by
        refine hid ?_
        unfold pB
        rw [List.all_eq_true]
        intro r hr
        have hr2:=List.mem_range.1 hr
        simp only [Bool.or_eq_true,decide_eq_true_eq,Bool.not_eq_true',decide_eq_false_iff_not]
        by_cases h1 : r < 2
        · exact .inl (.inl h1)
        · by_cases h2 : r < q
          · exact .inr (hdiv.out r (by omega) h2)
          · refine .inl (.inr ?_)
            have h3 : q * q ≤ r * r:=Nat.mul_le_mul (by omega) (by omega)
            have:=HSe.out
            omega
       have HPS : Hid (prs (p + 1) = prs p ++ [p]):=by
        have he:=prs_succ p hp2
        rw [HP.out,if_pos rfl] at he
        exact hid he
       have h2 : ∀ w0 : World,Calls Tryz.prog 139 #[.int .u64 p,.func (.func 140) #[] #[]] w0 fun e w' => e = .returned (W32 (f2 p)) ∧ w0 = w' :=
        fun w0 => frac_any _ p _ (fun x w1 hx => square_any x p (by omega) (by omega) w1) (.inl rfl) w0
       have h3 : ∀ w0 : World,Calls Tryz.prog 139 #[.int .u64 p,.func (.func 141) #[] #[]] w0 fun e w' => e = .returned (W32 (f3 p)) ∧ w0 = w' :=
        fun w0 => frac_any _ p _ (fun x w1 hx => cube_any x p hx (by omega) w1) (.inr rfl) w0
       have HH2:=hid h2
       have HH3:=hid h3
       clear h2 h3 hRw hdiv hqg hq1 hRb hle
       by_cases h8 : n < 8
       · have e8 : decide ((n : Int) < 8) = true:=by simp;omega
         go_wp2_with fail
         obtain ⟨ι,W,hι,hW1,hW2,hW0⟩:=family (fun w' => Blk w' w.heap.size (tcs (tb f2 8 (prs p)) (tb f3 64 (prs p)))) (w:=wr.drew) hb.drew
         have HW1:=hid hW1
         have HW2:=hid hW2
         have HW0:=hid hW0
         clear hW1 hW2 hW0
         refine wp_region_X (fun w' => ∃ j,w' = W j) true (by kernel_rfl) ?_
         refine WX.pure [0,1,2,4,5] (by kernel_rfl) HW0.out ?_
         simp only [pick,aF,aG,aI,aJ,aK]
         repeat (go_big_quiet_step (fail))
         refine wpQuiet_nil ?_
         refine WX.eff 3 (by kernel_rfl) ?_
         simp only [pick,aF,aG,aI,aJ,aK]
         go_wp2_with (go_at_call 139;refine (HH2.out _).mono ?_;rintro e w' ⟨rfl,rfl⟩)
         refine After.on HW0.out ?_
         refine WX.pure [6] (by kernel_rfl) HW0.out ?_
         simp only [pick,aF,aG,aI,aJ,aK]
         repeat (go_big_quiet_step (fail))
         refine wpQuiet_nil ?_
         refine WX.eff 7 (by kernel_rfl) ?_
         simp only [pick,aF,aG,aI,aJ,aK]
         refine wpList_put rfl _ _ _ rfl rfl (W32 (f2 p)) rfl rfl hb.drew (by rw [tcs_len,tb_len,tb_len];omega) (by kernel_rfl) ?_
         intro w5 f5 hb5 _
         refine wpList_nil ?_
         refine After.end rfl ?_
         refine WX.done (by kernel_rfl) ?_
         simp only [Act.put]
         clear HW1 HW2 HW0 hι W ι
         rw [tcs_setB _ _ _ _ (by rw [tb_len];exact h8)] at hb5
         have g5:=(f.drew).trans f5 (by simp)
         obtain ⟨BB,HBB,HBe,hb5'⟩ : ∃ BB,Hid (BB.length = 8) ∧ Hid (BB = tb f2 8 (prs p ++ [p])) ∧ Blk w5 w.heap.size (tcs BB (tb f3 64 (prs p))):=by
          refine ⟨_,hid ?_,hid ?_,hb5⟩
          · rw [List.length_set,tb_len]
          · rw [← tb_set f2 8 (prs p) p (by rw [hn.out];exact h8),hn.out]
         clear hb5
         have hb5:=hb5'
         clear hb5'
         go_wp2_with fail
         obtain ⟨ι,W,hι,hW1,hW2,hW0⟩:=family (fun w' => Blk w' w.heap.size (tcs BB (tb f3 64 (prs p)))) (w:=w5.drew) hb5.drew
         have HW1:=hid hW1
         have HW2:=hid hW2
         have HW0:=hid hW0
         clear hW1 hW2 hW0
         refine wp_region_X (fun w' => ∃ j,w' = W j) true (by kernel_rfl) ?_
         refine WX.pure [0,1,2,4,5] (by kernel_rfl) HW0.out ?_
         simp only [pick,aF,aG,aI,aJ,aK]
         repeat (go_big_quiet_step (fail))
         refine wpQuiet_nil ?_
         refine WX.eff 3 (by kernel_rfl) ?_
         simp only [pick,aF,aG,aI,aJ,aK]
         go_wp2_with (go_at_call 139;refine (HH3.out _).mono ?_;rintro e w' ⟨rfl,rfl⟩)
         refine After.on HW0.out ?_
         refine WX.pure [6] (by kernel_rfl) HW0.out ?_
         simp only [pick,aF,aG,aI,aJ,aK]
         repeat (go_big_quiet_step (fail))
         refine wpQuiet_nil ?_
         refine WX.eff 7 (by kernel_rfl) ?_
         simp only [pick,aF,aG,aI,aJ,aK]
         refine wpList_put rfl _ _ _ rfl rfl (W32 (f3 p)) rfl rfl hb5.drew (by rw [tcs_len,HBB.out,tb_len];omega) (by kernel_rfl) ?_
         intro w6 f6 hb6 _
         refine wpList_nil ?_
         refine After.end rfl ?_
         refine WX.done (by kernel_rfl) ?_
         clear HW1 HW2 HW0 hι W ι
         rw [tcs_setK _ _ _ _ HBB.out] at hb6
         go_wp2_with fail
         go_roundg (G - 1)
         case rel =>
          refine ⟨p + 1,n + 1,by omega,by omega,by go_num,by go_num,by rw [HPS.out];exact hid (by rw [List.length_append,hn.out];rfl),?_,(g5.drew).trans f6 (by simp)⟩
          have hs3:=tb_set f3 64 (prs p) p (by rw [hn.out];exact hlt)
          rw [hn.out] at hs3
          rw [HPS.out,← hs3,← HBe.out]
          exact hb6
         case measure => omega
       · have e8 : decide ((n : Int) < 8) = false:=by simp;omega
         obtain ⟨BB,HBB,HBe,hb5⟩ : ∃ BB,Hid (BB.length = 8) ∧ Hid (BB = tb f2 8 (prs p ++ [p])) ∧ Blk wr w.heap.size (tcs BB (tb f3 64 (prs p))):=by
          refine ⟨_,hid ?_,hid ?_,hb⟩
          · exact tb_len _ _ _
          · rw [tb_full f2 8 (prs p) p (by rw [hn.out];omega)]
         have g5:=f
         obtain ⟨w5,rfl⟩ : ∃ w5,w5 = wr:=⟨_,rfl⟩
         go_wp2_with fail
         obtain ⟨ι,W,hι,hW1,hW2,hW0⟩:=family (fun w' => Blk w' w.heap.size (tcs BB (tb f3 64 (prs p)))) (w:=w5.drew) hb5.drew
         have HW1:=hid hW1
         have HW2:=hid hW2
         have HW0:=hid hW0
         clear hW1 hW2 hW0
         refine wp_region_X (fun w' => ∃ j,w' = W j) true (by kernel_rfl) ?_
         refine WX.pure [0,1,2,4,5] (by kernel_rfl) HW0.out ?_
         simp only [pick,aF,aG,aI,aJ,aK]
         repeat (go_big_quiet_step (fail))
         refine wpQuiet_nil ?_
         refine WX.eff 3 (by kernel_rfl) ?_
         simp only [pick,aF,aG,aI,aJ,aK]
         go_wp2_with (go_at_call 139;refine (HH3.out _).mono ?_;rintro e w' ⟨rfl,rfl⟩)
         refine After.on HW0.out ?_
         refine WX.pure [6] (by kernel_rfl) HW0.out ?_
         simp only [pick,aF,aG,aI,aJ,aK]
         repeat (go_big_quiet_step (fail))
         refine wpQuiet_nil ?_
         refine WX.eff 7 (by kernel_rfl) ?_
         simp only [pick,aF,aG,aI,aJ,aK]
         refine wpList_put rfl _ _ _ rfl rfl (W32 (f3 p)) rfl rfl hb5.drew (by rw [tcs_len,HBB.out,tb_len];omega) (by kernel_rfl) ?_
         intro w6 f6 hb6 _
         refine wpList_nil ?_
         refine After.end rfl ?_
         refine WX.done (by kernel_rfl) ?_
         clear HW1 HW2 HW0 hι W ι
         rw [tcs_setK _ _ _ _ HBB.out] at hb6
         go_wp2_with fail
         go_roundg (G - 1)
         case rel =>
          refine ⟨p + 1,n + 1,by omega,by omega,by go_num,by go_num,by rw [HPS.out];exact hid (by rw [List.length_append,hn.out];rfl),?_,(g5.drew).trans f6 (by simp)⟩
          have hs3:=tb_set f3 64 (prs p) p (by rw [hn.out];exact hlt)
          rw [hn.out] at hs3
          rw [HPS.out,← hs3,← HBe.out]
          exact hb6
         case measure => omega
  · have hd1 : decide ((n : Int) < 64) = false:=by simp;omega
    have e : p = 312:=by
     by_cases h : p < 312
     · have h1:=prs_most p h
       rw [hn.out] at h1
       omega
     · omega
    rw [e,tabB,tabK] at hb
    clear e
    go_wp2_with fail
    (try rw [Exit.noGoto_ret])
    go_ret
    exact ⟨rfl,hb,f⟩
def zcs : List Value:=.pointer none :: (w32s (List.replicate 8 0) ++ (bv (List.replicate 64 0) ++ [.int .u64 0]))
theorem inf67 : ∃ i,Tryz.prog.info? 191 = some i ∧ i.zero = some (.agg zcs.toArray) ∧ i.size = 74:=⟨_,rfl,by kernel_rfl,rfl⟩
theorem inf61 : (Tryz.prog.info? 185).map (·.size) = some 8:=by kernel_rfl
theorem fill_hash (tp : Nat) (place : Nat → Option (Nat × Nat)) (h0 : place 0 = some (0,1)) (h1 : place 1 = some (1,8)) :
 Instr.fill place zcs.toArray [(0,.pointer (some ⟨tp,0,none⟩)),(1,.agg (w32s B0).toArray)] = some (hcs tp B0 (List.replicate 64 0) 0).toArray:=by
 rw [fill_step place _ 0 0 1 _ _ h0 rfl (by rw [List.size_toArray];decide),fill_step place _ 1 1 8 _ _ h1 rfl (by rw [List.size_toArray,splice_length _ _ _ (by simp [zcs,w32s,Value.cells])];decide)]
 rfl
theorem tcs_begin (B K : List UInt32) : ((tcs B K).drop 0).take (w32s B).length = w32s B:=by
 unfold tcs
 rw [List.drop_zero]
 exact List.take_left
theorem new_any {w : World} : Calls Tryz.prog 112 #[] w fun e w' => ∃ hb,e = .returned (.pointer (some ⟨hb,0,none⟩)) ∧ HR w' hb w.heap.size [] ∧ w.heap.size < hb ∧ Fr [] w w':=by
 obtain ⟨i,hi,hz,hs⟩:=inf67
 have Hi:=hid hi
 have Hz:=hid hz
 have Hs:=hid hs
 clear hi hz hs
 have hp := fun w => Xr.run_places (P := Tryz.prog) [{ name := "t", type := 182, offset := 0, embedded := false, tag := "", pkgPath := "coffer/sha", byteOffset := 0 }, { name := "v", type := 185, offset := 1, embedded := false, tag := "", pkgPath := "coffer/sha", byteOffset := 8 }, { name := "part", type := 189, offset := 9, embedded := false, tag := "", pkgPath := "coffer/sha", byteOffset := 40 }, { name := "n", type := 109, offset := 73, embedded := false, tag := "", pkgPath := "coffer/sha", byteOffset := 104 }] [(0, 1), (1, 8), (9, 64), (73, 1)] rfl w
 have Hp:=hid hp
 clear hp
 go_enter Tryz.func112,Tryz.ntmps112
 go_wp2_with (first
  | (go_at_call 129;refine fixed_any.mono ?_;rintro e w1 ⟨rfl,hT,f1⟩)
  | (refine wpList_load_agg rfl _ _ rfl rfl (w32s B0) hT _ Tryz.underlying185 rfl inf61 (tcs_begin _ _) ?_;simp only [aA,aB,Act.put,aC,aD,aE])
  | (refine wpList_build_struct rfl _ _ rfl _ _ _ _ Tryz.underlying191 Hi.out Hz.out Hp.out (hcs w.heap.size B0 (List.replicate 64 0) 0) (fill_hash _ _ rfl rfl) ?_;simp only [aA,aB,Act.put,aC,aD,aE]))
 go_ret
 have hlt:=hT.lt
 have f2 : Fr [] w1 (w1.alloc (.cells (hcs w.heap.size B0 (List.replicate 64 0) 0).toArray 191)):=(Fr.refl [] w1).alloc _
 exact ⟨w1.heap.size,rfl,⟨⟨B0,List.replicate 64 0,Blk.alloc w1 _ _,Inv.start _ (List.length_replicate)⟩,f2.blk hT (by simp)⟩,hlt,f1.trans' f2⟩
theorem zlen_hit (n : Nat) : (n + 1 + zlen n) % 64 = 56:=by unfold zlen;omega
theorem zlen_miss (n k : Nat) (h : k < zlen n) : ¬ (n + 1 + k) % 64 = 56:=by unfold zlen at h;omega
theorem hcs_load (tp : Nat) (v : List UInt32) (p : List UInt8) (n : Nat) : ((hcs tp v p n).drop 0).take (hcs tp v p n).length = hcs tp v p n:=by rw [List.drop_zero,List.take_length]
theorem hcs_one (tp : Nat) (v : List UInt32) (p : List UInt8) (n : Nat) : ∀ u ∈ hcs tp v p n,u.oneCell' = true:=by
 intro u hu
 unfold hcs at hu
 simp only [List.mem_cons,List.mem_append,List.not_mem_nil,or_false] at hu
 rcases hu with rfl | hu | hu | rfl
 · rfl
 · exact w32s_one _ u hu
 · exact bv_one _ u hu
 · rfl
theorem inf56 : ∃ i,Tryz.prog.info? 193 = some i ∧ i.zero = some (.agg (List.replicate 32 (bt 0)).toArray):=⟨_,rfl,rfl⟩
theorem cv32_8 (w : World) (a : UInt32) : (convert 137 5 (W32 a)).run Tryz.prog w = .ok (bt a.toUInt8) w:=conv_u32_u8 w _ _ a Tryz.underlying137 Tryz.underlying5 rfl
attribute [local go_sem] cv32_8 shr_u32
theorem shr_nat (t : TypeId) (a c : Nat) (yk : IntKind) (h : c ≤ 64) : binOp .shr t (.int .u64 (a : Int)) (.int yk (c : Int)) = pure (.int .u64 ((a / 2 ^ c : Nat) : Int)):=by
 have hn : ¬ ((c : Int) < 0):=by omega
 simp only [binOp,Op.shift,hn,if_false,IntKind.bits,Int.toNat_natCast,Nat.min_eq_left h]
 rw [Int.fdiv_eq_ediv_of_nonneg _ (by exact Int.pow_nonneg (by decide)),Int.natCast_ediv,Int.natCast_pow]
 rfl
theorem cvn_8 (w : World) (x : Nat) : (convert 109 5 (.int .u64 (x : Int))).run Tryz.prog w = .ok (bt (UInt8.ofNat x)) w:=by
 have e : Value.int .u8 (IntKind.u8.wrap (x : Int)) = bt (UInt8.ofNat x):=by
  rw [int_u8]
  refine congrArg bt (UInt8.toNat_inj.1 ?_)
  have h1 : (UInt8.ofBitVec (BitVec.ofInt 8 (x : Int))).toNat = (BitVec.ofInt 8 (x : Int)).toNat:=rfl
  rw [UInt8.toNat_ofNat',h1,BitVec.toNat_ofInt]
  omega
 simp only [convert,Sem.run_bind,run_underlying Tryz.underlying109,run_underlying Tryz.underlying5,Result.andThen_ok,Conv.intToInt,e,Sem.run_pure]
def bz (m i : Nat) : List UInt8:=(be8 m).take i ++ List.replicate (8 - i) 0
theorem bz_len (m i : Nat) (h : i ≤ 8) : (bz m i).length = 8:=by simp [bz,be8];omega
theorem bz_set (m i : Nat) (h : i < 8) : (bz m i).set i (UInt8.ofNat (m / 2 ^ (56 - 8 * i))) = bz m (i + 1):=by
 have hb : (be8 m).length = 8:=by simp [be8]
 have hl : ((be8 m).take i).length = i:=by rw [List.length_take,hb];omega
 unfold bz
 rw [List.set_append_right _ _ (by omega),hl,Nat.sub_self,show 8 - i = (8 - (i + 1)) + 1 by omega,List.replicate_succ,List.set_cons_zero,List.take_succ_eq_append_getElem (by omega),List.append_assoc]
 have e : (be8 m)[i]'(by omega) = UInt8.ofNat (m / 2 ^ (56 - 8 * i)):=by simp [be8]
 rw [e]
 rfl
theorem bz_full (m : Nat) : bz m 8 = be8 m:=by
 unfold bz
 rw [List.take_of_length_le (by simp [be8])]
 simp
theorem outB_set (v : List UInt32) (i m : Nat) (h : i < m) : (outB v i ++ List.replicate (m - i) 0).set i ((shr32 (g32 v (i / 4)) (24 - i % 4 * 8)).toUInt8) = outB v (i + 1) ++ List.replicate (m - (i + 1)) 0:=by
 rw [List.set_append_right _ _ (by rw [outB_len];exact Nat.le_refl _),outB_len,Nat.sub_self,show m - i = (m - (i + 1)) + 1 by omega,List.replicate_succ,List.set_cons_zero,outB_succ,List.append_assoc]
 rfl
theorem sum_any {w : World} {hb tp : Nat} {bs : List UInt8} (h : HR w hb tp bs) (hn : bs.length < 1099511627776) :
 Calls Tryz.prog 114 #[.pointer (some ⟨hb,0,none⟩)] w fun e w' => e = .returned (.string ⟨(shaL bs).toArray⟩) ∧ Fr [] w w':=by
 obtain ⟨i,hi,hz,hs⟩:=inf67
 have Hi:=hid hi
 have Hz:=hid hz
 have Hs:=hid hs
 clear hi hz hs
 obtain ⟨v,p,hH,hI⟩:=h.mem
 have hT:=h.tab
 have HI:=hid hI
 have hc0:=hH.cell 0
 rw [show (hcs tp v p bs.length)[0]? = some (.pointer (some ⟨tp,0,none⟩)) from rfl] at hc0
 have H:=hid h
 have HS:=hid (show (Tryz.prog.info? 191).map (·.size) = some (hcs tp v p bs.length).length by rw [hcs_length tp v p _ hI.v8 hI.pl,Hi.out];exact congrArg some Hs.out)
 obtain ⟨n,hnn,hn2⟩ : ∃ n,bs.length = n ∧ n < 1099511627776:=⟨_,rfl,hn⟩
 rw [hnn] at hH HS
 have Hn:=hid hnn
 clear h hI hnn hn
 go_enter Tryz.func114,Tryz.ntmps114
 go_wp2_with (first
  | (refine wpList_load_agg rfl _ _ rfl rfl (hcs tp v p n) hH _ Tryz.underlying191 rfl HS.out (hcs_load _ _ _ _) ?_;simp only [aA,aB,Act.put,aC,aD,aE])
  | (refine wpList_alloc_agg rfl _ rfl _ _ 74 Hi.out Hz.out rfl ?_;intro zs hzl hze hbz;have Hzl:=hid hzl;clear hzl hze;simp only [aA,aB,Act.put,aC,aD,aE])
  | (refine wpList_store_agg rfl _ _ _ rfl rfl (hcs tp v p n) rfl hbz HS.out (by rw [Hzl.out,hcs_length tp v p _ HI.out.v8 HI.out.pl];exact Nat.le_refl _) (hcs_one _ _ _ _) ?_;intro w2 f2 hb2 hs2;rw [splice_all _ _ (by rw [Hzl.out,hcs_length tp v p _ HI.out.v8 HI.out.pl])] at hb2;have g2 : Fr [] w w2:=((Fr.refl [] w).alloc _).trans f2 (by simp);(try simp only [aA,aB,Act.put,aC,aD,aE])))
 have hr2 : HR w2 w.heap.size tp bs:=⟨⟨v,p,by rw [Hn.out];exact hb2,HI.out⟩,g2.blk hT (by simp)⟩
 have hH2:=g2.blk hH (by simp)
 have hlt2 : w.heap.size < w2.heap.size:=hb2.lt
 clear hH hT hc0 hb2 hbz f2
 refine (add_any hr2 ⟨#[128]⟩ (by rw [Hn.out];show n + 1 < _;omega)).mono ?_
 rintro e w3 ⟨rfl,hr3,f3⟩
 have g3 : Fr [] w w3:=g2.trans f3 (fun x hx => .inr (by simp at hx;omega))
 have hH3:=f3.blk hH2 (by simp;have:=H.out.mem;obtain ⟨_,_,hh,_⟩:=this;have:=hh.lt;omega)
 have Hhb:=hid (show hb < w.heap.size by obtain ⟨_,_,hh,_⟩:=H.out.mem;exact hh.lt)
 clear hr2 hH2 f3 g2 hlt2
 go_wp2_with fail
 go_loopg [] (zlen n) (fun g wr => ∃ k : Nat,k + g = zlen n ∧ HR wr w.heap.size tp (bs ++ 0x80 :: List.replicate k 0) ∧ Blk wr hb (hcs tp v p n) ∧ Fr [] w wr)
 case atStart => exact ⟨0,by omega,hr3,hH3,g3⟩
 case round =>
  obtain ⟨k,hk,hr4,hH4,g4⟩:=hrel
  obtain ⟨G,rfl⟩ : ∃ G,G = gk:=⟨_,rfl⟩
  clear hr3 hH3 g3
  have hlen : (bs ++ 0x80 :: List.replicate k 0).length = n + 1 + k:=by
   rw [List.length_append,List.length_cons,List.length_replicate,Hn.out]
   omega
  obtain ⟨vc,pc,hC,hIc⟩:=hr4.mem
  have hzl : zlen n < 64:=by unfold zlen;omega
  have hc73 : wr.cell? ⟨w.heap.size,73,none⟩ = some (.int .u64 ((n + 1 + k : Nat) : Int)):=by
   rw [hC.cell,hlen]
   exact hcs_n tp vc pc _ hIc.v8 hIc.pl
  have Hlen:=hid hlen
  have Hr4:=hid hr4
  clear hlen hr4 hC hIc
  cases G with
  | succ G =>
    have hne : (((n + 1 + k : Nat) : Int) % 64 != 56) = true:=by
     have:=zlen_miss n k (by omega)
     simp
     omega
    go_wp2_with fail
    refine (add_any Hr4.out ⟨#[0]⟩ (by rw [Hlen.out];show n + 1 + k + 1 < _;omega)).mono ?_
    rintro e w5 ⟨rfl,hr5,f5⟩
    go_wp2_with fail
    go_roundg G
    case rel =>
     refine ⟨k + 1,by omega,?_,f5.blk hH4 (by simp;have:=Hhb.out;omega),g4.trans f5 (fun x hx => .inr (by simp at hx;omega))⟩
     have e : (bs ++ 0x80 :: List.replicate k 0) ++ (⟨#[0]⟩ : ByteArray).data.toList = bs ++ 0x80 :: List.replicate (k + 1) 0:=by
      rw [List.replicate_succ',List.append_assoc]
      rfl
     rw [← e]
     exact hr5
    case measure => omega
  | zero =>
    obtain rfl : k = zlen n:=by omega
    have hne : (((n + 1 + zlen n : Nat) : Int) % 64 != 56) = false:=by
     have:=zlen_hit n
     simp
     omega
    go_wp2_with fail
    have hL0 : Blk _ wr.heap.size (bv (bz (8 * n) 0)):=Blk.alloc wr [.int .u8 0,.int .u8 0,.int .u8 0,.int .u8 0,.int .u8 0,.int .u8 0,.int .u8 0,.int .u8 0] 192
    have fA : Fr [] wr (wr.alloc (.cells [.int .u8 0,.int .u8 0,.int .u8 0,.int .u8 0,.int .u8 0,.int .u8 0,.int .u8 0,.int .u8 0].toArray 192)):=(Fr.refl [] wr).alloc _
    have hlw:=g4.size
    have hCl : w.heap.size < wr.heap.size:=by obtain ⟨_,_,hh,_⟩:=Hr4.out.mem;exact hh.lt
    have hbl:=Hhb.out
    generalize wr.heap.size = LB at *
    have hr5:=Hr4.out.keep fA (by simp) (by simp)
    have hH5:=fA.blk hH4 (by simp)
    have g5:=g4.trans' fA
    clear hH4 g4
    generalize wr.alloc (.cells [.int .u8 0,.int .u8 0,.int .u8 0,.int .u8 0,.int .u8 0,.int .u8 0,.int .u8 0,.int .u8 0].toArray 192) = wA at *
    clear fA hc73 Hr4
    go_loopw [26] (fun iv wr => ∃ i : Nat,i ≤ 8 ∧ iv = .int .i64 i ∧ HR wr w.heap.size tp (bs ++ 0x80 :: List.replicate (zlen n) 0) ∧ Blk wr hb (hcs tp v p n) ∧ Blk wr LB (bv (bz (8 * n) i)) ∧ Fr [] w wr) (fun iv _ => 8 - (intOf iv).toNat)
    case atStart => exact ⟨0,by omega,rfl,hr5,hH5,hL0,g5⟩
    case round =>
     obtain ⟨i,hi8,rfl,hr6,hH6,hL6,g6⟩:=hrel
     clear hr5 hH5 hL0 g5
     have Hr6:=hid hr6
     have Hg6:=hid g6
     clear hr6 g6
     by_cases hlt : i < 8
     · have hd1 : decide ((i : Int) < 8) = true:=by simp;omega
       have hc73 : wr.cell? ⟨hb,73,none⟩ = some (.int .u64 (n : Int)):=by rw [hH6.cell];exact hcs_n tp v p n HI.out.v8 HI.out.pl
       obtain ⟨X,hX⟩ : ∃ X,8 * n / 2 ^ (56 - 8 * i) = X:=⟨_,rfl⟩
       have hsr : ∀ t,binOp .shr t (.int .u64 (8 * (n : Int))) (.int .u64 (56 - 8 * (i : Int))) = pure (.int .u64 (X : Int)):=by
        intro t
        have:=shr_nat t (8 * n) (56 - 8 * i) .u64 (by omega)
        rw [hX] at this
        have e1 : ((8 * n : Nat) : Int) = 8 * (n : Int):=by omega
        have e2 : ((56 - 8 * i : Nat) : Int) = 56 - 8 * (i : Int):=by omega
        rw [e1,e2] at this
        exact this
       have hcv:=cvn_8
       have HX:=hid hX
       clear hX
       go_wp2_with (refine wpList_put rfl _ _ _ rfl rfl (bt (UInt8.ofNat X)) rfl rfl hL6 (by rw [bv_length,bz_len _ _ hi8];exact hlt) (by kernel_rfl) ?_;intro w7 f7 hL7 hs7;(try simp only [aA,aB,Act.put,aC,aD,aE]))
       rw [← bv_set,← HX.out,bz_set _ _ hlt] at hL7
       go_roundw
       case rel => exact ⟨i + 1,by omega,by go_num,Hr6.out.keep f7 (by simp;omega) (by simp;obtain ⟨_,_,hh,_⟩:=H.out.mem;have:=H.out.tab.lt;omega),f7.blk hH6 (by simp;omega),hL7,Hg6.out.trans f7 (fun x hx => .inr (by simp at hx;omega))⟩
       case measure => simp [intOf];omega
     · have ei : i = 8:=by omega
       have hd1 : decide ((i : Int) < 8) = false:=by simp;omega
       rw [ei,bz_full] at hL6
       clear ei
       have hLn : (be8 (8 * n)).length = 8:=by simp [be8]
       have hLv : ((bv (be8 (8 * n))).drop 0).take (be8 (8 * n)).length = bv (be8 (8 * n)):=by rw [List.drop_zero,← bv_length,List.take_length]
       have HLn:=hid hLn
       have HLv:=hid hLv
       clear hLn hLv
       go_wp2_with (refine wpList_string_of_bytes rfl _ _ 5 _ rfl 8 8 rfl hL6 (be8 (8 * n)) HLn.out HLv.out Tryz.underlying119 Tryz.underlying5 Tryz.underlying9 ?_;(try simp only [aA,aB,Act.put,aC,aD,aE]))
       have hpl : bs.length + 1 + zlen n + 8 < 1152921504606846976:=by
        rw [Hn.out]
        unfold zlen
        omega
       refine (add_any Hr6.out ⟨(be8 (8 * n)).toArray⟩ (by rw [size_mk',HLn.out,List.length_append,List.length_cons,List.length_replicate];omega)).mono ?_
       rintro e w7 ⟨rfl,hr7,f7⟩
       have epad : (bs ++ 0x80 :: List.replicate (zlen n) 0) ++ (⟨(be8 (8 * n)).toArray⟩ : ByteArray).data.toList = padL bs:=by
        unfold padL
        rw [Hn.out,List.append_assoc]
        rfl
       rw [epad] at hr7
       have g7 : Fr [] w w7:=Hg6.out.trans f7 (fun x hx => .inr (by simp at hx;omega))
       obtain ⟨vv,pp,hC7,hI7⟩:=hr7.mem
       have HI7:=hid hI7
       clear epad hpl hr7 f7 hH6 hL6 Hr6 Hg6 hI7
       obtain ⟨i56,hi56,hz56⟩:=inf56
       have Hi56:=hid hi56
       have Hz56:=hid hz56
       clear hi56 hz56
       go_wp2_with (refine wpList_alloc_agg rfl _ rfl _ _ 32 Hi56.out Hz56.out rfl ?_;intro zs hzl hze hbz;have Hze:=hid hze;clear hzl hze;(try simp only [aA,aB,Act.put,aC,aD,aE]))
       have HO : Hid (Blk (w7.alloc (.cells zs.toArray 193)) w7.heap.size (bv (outB vv 0 ++ List.replicate 32 0))):=by
        have e : zs = bv (outB vv 0 ++ List.replicate 32 0):=by
         rw [Hze.out]
         rfl
        rw [← e]
        exact hbz
       have f8 : Fr [] w7 (w7.alloc (.cells zs.toArray 193)):=(Fr.refl [] w7).alloc _
       have hC8:=f8.blk hC7 (by simp)
       have hCl8:=hC7.lt
       have hlw8:=g7.size
       generalize w7.heap.size = OB at *
       generalize w7.alloc (.cells zs.toArray 193) = w8 at *
       have g8:=g7.trans' f8
       clear hbz hC7 f8 g7
       go_loopw [46] (fun iv wr => ∃ i : Nat,i ≤ 32 ∧ iv = .int .i64 i ∧ Blk wr w.heap.size (hcs tp vv pp (padL bs).length) ∧ Blk wr OB (bv (outB vv i ++ List.replicate (32 - i) 0)) ∧ Fr [] w wr) (fun iv _ => 32 - (intOf iv).toNat)
       case atStart => exact ⟨0,by omega,rfl,hC8,HO.out,g8⟩
       case round =>
        obtain ⟨i,hi32,rfl,hC9,hO9,g9⟩:=hrel
        clear hC8 HO g8
        by_cases hlt : i < 32
        · have hd1 : decide ((i : Int) < 32) = true:=by simp;omega
          have hcv : wr.cell? ⟨w.heap.size,1 + i / 4,none⟩ = some (W32 (g32 vv (i / 4))):=by rw [hC9.cell];exact hcs_v tp vv pp _ HI7.out.v8 _ (by omega)
          have hm1 : (0 : Int) ≤ 24 - (i : Int) % 4 * 8:=by omega
          have hm3 : (i : Int) % 4 * 8 ≤ 24:=by omega
          have hm2 : (24 - (i : Int) % 4 * 8).toNat = 24 - i % 4 * 8:=by omega
          go_wp2_with (refine wpList_put rfl _ _ _ rfl rfl (bt ((shr32 (g32 vv (i / 4)) (24 - i % 4 * 8)).toUInt8)) rfl rfl hO9 (by rw [bv_length,List.length_append,outB_len,List.length_replicate];omega) (by kernel_rfl) ?_;intro w10 f10 hO10 hs10;(try simp only [aA,aB,Act.put,aC,aD,aE]))
          rw [← bv_set,outB_set _ _ _ hlt] at hO10
          go_roundw
          case rel => exact ⟨i + 1,by omega,by go_num,f10.blk hC9 (by simp;omega),hO10,g9.trans f10 (fun x hx => .inr (by simp at hx;omega))⟩
          case measure => simp [intOf];omega
        · have ei : i = 32:=by omega
          have hd1 : decide ((i : Int) < 32) = false:=by simp;omega
          rw [ei,List.replicate_zero,List.append_nil,shaL_of HI7.out] at hO9
          clear ei
          have HSl:=hid (shaL_len bs)
          have HSv:=hid (show ((bv (shaL bs)).drop 0).take (shaL bs).length = bv (shaL bs) by rw [List.drop_zero,← bv_length,List.take_length])
          go_wp2_with (refine wpList_string_of_bytes rfl _ _ 5 _ rfl 32 32 rfl hO9 (shaL bs) HSl.out HSv.out Tryz.underlying119 Tryz.underlying5 Tryz.underlying9 ?_;(try simp only [aA,aB,Act.put,aC,aD,aE]))
          go_ret
          exact ⟨rfl,g9⟩
end Go.Proofs.YtgafefecookgaaaGreat
namespace Go.Xr
open Go
theorem shl32_or (a b : UInt32) (n : Nat) : shl32 (a ||| b) n = shl32 a n ||| shl32 b n:=by
 unfold shl32
 apply UInt32.toBitVec_inj.1
 show (a.toBitVec ||| b.toBitVec) <<< n = a.toBitVec <<< n ||| b.toBitVec <<< n
 exact BitVec.shiftLeft_or_distrib _ _ _
theorem shl32_shl (a : UInt32) (n m : Nat) : shl32 (shl32 a n) m = shl32 a (n + m):=by
 unfold shl32
 apply UInt32.toBitVec_inj.1
 show (a.toBitVec <<< n) <<< m = a.toBitVec <<< (n + m)
 exact (BitVec.shiftLeft_add _ _ _).symm
theorem shl32_zero (n : Nat) : shl32 0 n = 0:=by
 unfold shl32
 apply UInt32.toBitVec_inj.1
 show (0#32) <<< n = 0#32
 simp
theorem ldw_four (p : List UInt8) (i : Nat) : ldw p i 4 = shl32 (g8 p (4 * i)).toUInt32 24 ||| shl32 (g8 p (4 * i + 1)).toUInt32 16 ||| shl32 (g8 p (4 * i + 2)).toUInt32 8 ||| (g8 p (4 * i + 3)).toUInt32:=by
 simp only [ldw,shl32_or,shl32_shl,shl32_zero,UInt32.zero_or,Nat.add_zero]
theorem schW_alt (l : List UInt32) (i : Nat) : g32 l (i - 16) + sg0 (g32 l (i - 15)) + g32 l (i - 7) + sg1 (g32 l (i - 2)) = schW l i:=by
 unfold schW
 rw [UInt32.add_assoc (g32 l (i - 16)),UInt32.add_comm (sg0 _),← UInt32.add_assoc]
end Go.Xr
namespace Go.Proofs.YtgafefecookgaaaGreat
open Go Go.Xr Go.RowKit
attribute [local go_sem] cv8_32 shl_u32 shr_u32 or_u32 xor_u32 and_u32 add_u32 not_u32
theorem rturn_any (x : UInt32) (k : Int) (hk : k ∈ turns.map fun n : Nat => (n : Int)) (w : World) :
 Calls Tryz.prog 136 #[W32 x,.int .u64 k] w fun e w' => e = .returned (W32 (rotr x k.toNat)) ∧ w = w':=by
 obtain ⟨n,hn,rfl⟩:=List.mem_map.1 hk
 simp only [turns,List.mem_cons,List.not_mem_nil,or_false] at hn
 rcases hn with rfl | rfl | rfl | rfl | rfl | rfl | rfl | rfl | rfl | rfl
 all_goals
  simp only [Int.cast_ofNat_Int]
  go_enter Tryz.func136,Tryz.ntmps136
  go_wp2
  go_ret
  exact ⟨rfl,rfl⟩
theorem ldo_set (p : List UInt8) (i : Nat) (h : i < 64) : (w32s (ldo p i)).set i (W32 (ldw p i 4)) = w32s (ldo p (i + 1)):=by
 unfold w32s ldo
 rw [← List.map_set,List.set_append_right _ _ (by rw [ldl_length];exact Nat.le_refl _),ldl_length,Nat.sub_self,show 64 - i = (64 - (i + 1)) + 1 by omega,List.replicate_succ,List.set_cons_zero,ldl_succ,List.append_assoc]
 rfl
theorem ldo_length (p : List UInt8) (i : Nat) (h : i ≤ 64) : (w32s (ldo p i)).length = 64:=by
 unfold w32s ldo
 rw [List.length_map,List.length_append,ldl_length,List.length_replicate]
 omega
theorem inf28 : ∃ i,Tryz.prog.info? 137 = some i ∧ i.zero = some (W32 0) ∧ i.size = 1 ∧ i.bytes = 4:=⟨_,rfl,rfl,rfl,rfl⟩
theorem w32s_get (l : List UInt32) (i : Nat) (h : i < l.length) : (w32s l)[i]? = some (W32 (g32 l i)):=by
 unfold w32s
 rw [List.getElem?_map,g32_eq l i h]
 rfl
theorem w32s_len (l : List UInt32) : (w32s l).length = l.length:=by simp [w32s]
def radd (v : List UInt32) (s : St) (m : Nat) : List UInt32:=(List.range 8).map fun i => if i < m then g32 v i + g32 s.list i else g32 s.list i
theorem radd_full (v : List UInt32) (s : St) : radd v s 8 = addW v s 8:=rfl
theorem radd_len (v : List UInt32) (s : St) (m : Nat) : (radd v s m).length = 8:=by simp [radd]
theorem radd_set (v : List UInt32) (s : St) (m : Nat) (hm : m < 8) : (radd v s m).set m (g32 s.list m + g32 v m) = radd v s (m + 1):=by
 rw [UInt32.add_comm]
 have h : m = 0 ∨ m = 1 ∨ m = 2 ∨ m = 3 ∨ m = 4 ∨ m = 5 ∨ m = 6 ∨ m = 7:=by omega
 rcases h with rfl | rfl | rfl | rfl | rfl | rfl | rfl | rfl <;> rfl
theorem radd_get (v : List UInt32) (s : St) (m : Nat) (hm : m < 8) : g32 (radd v s m) m = g32 s.list m:=by
 have h : m = 0 ∨ m = 1 ∨ m = 2 ∨ m = 3 ∨ m = 4 ∨ m = 5 ∨ m = 6 ∨ m = 7:=by omega
 rcases h with rfl | rfl | rfl | rfl | rfl | rfl | rfl | rfl <;> rfl
set_option maxRecDepth 100000 in
theorem rblock_any {w : World} {vv : Value} {vb kb : Nat} {v K : List UInt32} {kc : Nat} (hV : Xr.Own w 1 vv 8 (w32s v) (some vb)) (hK : Blk w kb (w32s K)) (s : ByteArray) (hs : s.size = 64) (hKl : K.length = 64) (hVl : v.length = 8) :
 Calls Tryz.prog 123 #[vv,.slice (some ⟨kb,0,none⟩) 64 kc,.string s] w fun e w' => ∃ rv rb,e = .returned rv ∧ Xr.Own w' 1 rv 8 (w32s (compress K v s.data.toList)) (some rb) ∧ w.heap.size ≤ rb ∧ Fr [] w w':=by
 obtain ⟨p,hp⟩ : ∃ p,s.data.toList = p:=⟨_,rfl⟩
 rw [hp]
 have Hp:=hid hp
 clear hp
 obtain ⟨i28,hi28,hz28,hs28,hb28⟩:=inf28
 have Hi:=hid hi28
 have Hz:=hid hz28
 have Hs:=hid hs28
 have Hb:=hid hb28
 have Hss:=hid hs
 have HKl:=hid hKl
 have HVl:=hid hVl
 obtain ⟨vb',vcap,hvb,rfl,hvc1,hvc2,hvcell⟩:=hV.opened (by decide)
 cases hvb
 have HV:=hid hV
 have Hvb:=hid (hV.lt vb rfl)
 have Hkb:=hid hK.lt
 have Hvcell:=hid hvcell
 clear hi28 hz28 hs28 hb28 hKl hVl hs hV hvcell
 go_enter Tryz.func123,Tryz.ntmps123
 go_wp2_with (refine wpList_make rfl _ _ _ rfl 64 64 .i64 .i64 rfl rfl 137 _ _ (W32 0) 1 4 Tryz.underlying172 Hi.out Hz.out Hs.out Hb.out rfl (by decide) (Nat.le_refl _) (by decide) (by decide) ?_;intro hb1;simp only [aA,aB,Act.put,aC,aD,aE])
 have HB0 : Hid (Blk (w.alloc (.cells (List.replicate (64 * 1) (W32 0)).toArray 137)) w.heap.size (w32s (ldo p 0))):=by
  have e : List.replicate (64 * 1) (W32 0) = w32s (ldo p 0):=by simp [w32s,ldo,ldl]
  rw [← e]
  exact hb1
 clear hb1
 have f0 : Fr [] w (w.alloc (.cells (List.replicate (64 * 1) (W32 0)).toArray 137)):=(Fr.refl [] w).alloc _
 generalize w.alloc (.cells (List.replicate (64 * 1) (W32 0)).toArray 137) = w1 at *
 go_loopw [8] (fun iv wr => ∃ m : Nat,m ≤ 16 ∧ iv = .int .i64 m ∧ Blk wr w.heap.size (w32s (ldo p m)) ∧ Fr [] w wr) (fun iv _ => 16 - (intOf iv).toNat)
 case atStart => exact ⟨0,by omega,rfl,HB0.out,f0⟩
 case round =>
  obtain ⟨m,hm,rfl,hb1,f⟩:=hrel
  clear HB0 f0
  by_cases hlt : m < 16
  · --< a
    have hd1 : decide ((m : Int) < 16) = true:=by simp;omega
    have hix : ∀ (i : Int) (j : Nat),i = j → j < 64 → ∀ w0 : World,(Instr.index 9 (.string s) (.int .i64 i)).run Tryz.prog w0 = .ok (bt (g8 p j)) w0:=fun i j h1 h2 w0 => by
     have:=index_str (P:=Tryz.prog) w0 9 s .i64 i j Tryz.underlying9 h1 (by rw [Hss.out];exact h2) 0
     rw [Hp.out] at this
     exact this
    have hx0:=hix (4 * (m : Int)) (4 * m) (by omega) (by omega)
    have hx1:=hix (4 * (m : Int) + 1) (4 * m + 1) (by omega) (by omega)
    have hx2:=hix (4 * (m : Int) + 2) (4 * m + 2) (by omega) (by omega)
    have hx3:=hix (4 * (m : Int) + 3) (4 * m + 3) (by omega) (by omega)
    clear hix
    go_wp2_with fail
    obtain ⟨ι,W,hι,hW1,hW2,hW0⟩:=family (fun w' => Blk w' w.heap.size (w32s (ldo p m))) (w:=wr.drew) hb1.drew
    have HW1:=hid hW1
    have HW2:=hid hW2
    have HW0:=hid hW0
    clear hW1 hW2 hW0
    refine wp_region_X (fun w' => ∃ j,w' = W j) true (by kernel_rfl) ?_
    refine WX.pure [0,1,2,3,4,5,6,7,8,9,10,11,12,13,14,15,16,17,18,19,20,21,22,23,24,25,26,27,28,29,30,31] (by kernel_rfl) HW0.out ?_
    simp only [pick,aF,aG,aI,aJ,aK]
    repeat (go_big_quiet_step (fail))
    refine wpQuiet_nil ?_
    refine WX.eff 32 (by kernel_rfl) ?_
    simp only [pick,aF,aG,aI,aJ,aK]
    refine wpList_put rfl _ _ _ rfl rfl (W32 (ldw p m 4)) (by rw [ldw_four];rfl) rfl hb1.drew (by rw [ldo_length p m (by omega)];omega) (by kernel_rfl) ?_
    intro w5 f5 hb5 _
    refine wpList_nil ?_
    refine After.end rfl ?_
    refine WX.done (by kernel_rfl) ?_
    clear HW1 HW2 HW0 hι W ι
    clear hx0 hx1 hx2 hx3
    rw [ldo_set p m (by omega)] at hb5
    go_wp2_with fail
    go_roundw
    case rel => exact ⟨m + 1,by omega,by go_num,hb5,(f.drew).trans f5 (by simp)⟩
    case measure => simp [intOf];omega
  · have em : m = 16:=by omega
    have hge : (16 : Int) ≤ m:=by omega
    have hd1 : decide ((m : Int) < 16) = false:=by simp;omega
    have hb2 : Blk wr w.heap.size (w32s (schi p 16)):=by
     rw [em] at hb1
     exact hb1
    clear hb1 em
    go_wp2_with fail
    go_loopw [9] (fun k wr => ∃ i : Nat,16 ≤ i ∧ i ≤ 64 ∧ k = .int .i64 i ∧ Blk wr w.heap.size (w32s (schi p i)) ∧ Fr [] w wr) (fun k _ => 64 - (intOf k).toNat)
    case atStart => exact ⟨16,by omega,by omega,rfl,hb2,f⟩
    case round =>
     obtain ⟨i,hi1,hi2,rfl,hb3,f3⟩:=hrel
     clear f hb2
     by_cases hlt : i < 64
     · --< b
       have hd2 : decide ((i : Int) < 64) = true:=by simp;omega
       go_wp2_with fail
       obtain ⟨ι,W,hι,hW1,hW2,hW0⟩:=family (fun w' => Blk w' w.heap.size (w32s (schi p i))) (w:=wr.drew) hb3.drew
       have HW1:=hid hW1
       have HW2:=hid hW2
       have HW0:=hid hW0
       clear hW1 hW2 hW0
       have hS1 : ∀ k,(W k).cell? ⟨w.heap.size,i - 15,none⟩ = some (W32 (g32 (sch p (i - 16)) (i - 15))):=fun k => by rw [(HW1.out k).cell];exact schi_get p i _ hi1 (by omega)
       have hS2 : ∀ k,(W k).cell? ⟨w.heap.size,i - 2,none⟩ = some (W32 (g32 (sch p (i - 16)) (i - 2))):=fun k => by rw [(HW1.out k).cell];exact schi_get p i _ hi1 (by omega)
       refine wp_region_X (fun w' => ∃ j,w' = W j) false (by kernel_rfl) ?_
       refine WX.pure [0,1,2,3,4,5,6,7,8,9,10,11] (by kernel_rfl) HW0.out ?_
       simp only [pick,aF,aG,aI,aJ,aK]
       repeat (go_big_quiet_step (fail))
       refine wpQuiet_nil ?_
       refine WX.done (by kernel_rfl) ?_
       clear hS1 hS2
       clear HW1 HW2 HW0 hι W ι
       have hb4:=hb3.drew
       have f4:=f3.drew
       generalize wr.drew = w4 at *
       go_wp2_with fail
       obtain ⟨ι,W,hι,hW1,hW2,hW0⟩:=family (fun w' => Blk w' w.heap.size (w32s (schi p i))) (w:=w4.drew) hb4.drew
       have HW1:=hid hW1
       have HW2:=hid hW2
       have HW0:=hid hW0
       clear hW1 hW2 hW0
       have hS1 : ∀ k,(W k).cell? ⟨w.heap.size,i - 16,none⟩ = some (W32 (g32 (sch p (i - 16)) (i - 16))):=fun k => by rw [(HW1.out k).cell];exact schi_get p i _ hi1 (by omega)
       have hS2 : ∀ k,(W k).cell? ⟨w.heap.size,i - 7,none⟩ = some (W32 (g32 (sch p (i - 16)) (i - 7))):=fun k => by rw [(HW1.out k).cell];exact schi_get p i _ hi1 (by omega)
       refine wp_region_X (fun w' => ∃ j,w' = W j) true (by kernel_rfl) ?_
       refine WX.pure [0,1,2,3,4,5,6,7,9,12,13,16,17,18,19,20,22,24,27,28] (by kernel_rfl) HW0.out ?_
       simp only [pick,aF,aG,aI,aJ,aK]
       repeat (go_big_quiet_step (fail))
       refine wpQuiet_nil ?_
       refine WX.eff 8 (by kernel_rfl) ?_
       simp only [pick,aF,aG,aI,aJ,aK]
       go_wp2_with (go_at_call 136;refine (rturn_any _ _ (by decide) _).mono ?_;rintro e w' ⟨rfl,rfl⟩)
       refine After.on HW0.out ?_
       refine WX.eff 10 (by kernel_rfl) ?_
       simp only [pick,aF,aG,aI,aJ,aK]
       go_wp2_with (go_at_call 136;refine (rturn_any _ _ (by decide) _).mono ?_;rintro e w' ⟨rfl,rfl⟩)
       refine After.on HW0.out ?_
       refine WX.pure [11,14,15,21] (by kernel_rfl) HW0.out ?_
       simp only [pick,aF,aG,aI,aJ,aK]
       repeat (go_big_quiet_step (fail))
       refine wpQuiet_nil ?_
       refine WX.eff 23 (by kernel_rfl) ?_
       simp only [pick,aF,aG,aI,aJ,aK]
       go_wp2_with (go_at_call 136;refine (rturn_any _ _ (by decide) _).mono ?_;rintro e w' ⟨rfl,rfl⟩)
       refine After.on HW0.out ?_
       refine WX.eff 25 (by kernel_rfl) ?_
       simp only [pick,aF,aG,aI,aJ,aK]
       go_wp2_with (go_at_call 136;refine (rturn_any _ _ (by decide) _).mono ?_;rintro e w' ⟨rfl,rfl⟩)
       refine After.on HW0.out ?_
       refine WX.pure [26,29,30,31] (by kernel_rfl) HW0.out ?_
       simp only [pick,aF,aG,aI,aJ,aK]
       repeat (go_big_quiet_step (fail))
       refine wpQuiet_nil ?_
       refine WX.eff 32 (by kernel_rfl) ?_
       simp only [pick,aF,aG,aI,aJ,aK]
       refine wpList_put rfl _ _ _ rfl rfl (W32 (schW (sch p (i - 16)) i)) (by rw [← schW_alt];rfl) rfl hb4.drew (by rw [schi_length p i hi2];exact hlt) (by kernel_rfl) ?_
       intro w5 f5 hb5 _
       refine wpList_nil ?_
       refine After.end rfl ?_
       refine WX.done (by kernel_rfl) ?_
       clear hS1 hS2
       clear HW1 HW2 HW0 hι W ι
       rw [schi_set p i hi1 hlt] at hb5
       go_wp2_with fail
       go_roundw
       case rel => exact ⟨i + 1,by omega,by omega,by go_num,hb5,(f4.drew).trans f5 (by simp)⟩
       case measure => simp [intOf];omega
     · have ei : i = 64:=by omega
       have hge2 : (64 : Int) ≤ i:=by omega
       have hd2 : decide ((i : Int) < 64) = false:=by simp;omega
       rw [ei] at hb3
       clear ei
       have HO0 : Hid (Xr.Own (wr.alloc (.cells #[] 137)) 1 (.slice (some ⟨wr.heap.size,0,none⟩) 0 0) 0 [] (some wr.heap.size)):=hid (Xr.Own.blk (cs:=[]) (Blk.alloc wr [] _) (Nat.le_refl _) (by simp) (by simp))
       have fa : Fr [] wr (wr.alloc (.cells #[] 137)):=(Fr.refl [] wr).alloc _
       have Hnews : Hid (∀ j u,(w32s v)[j]? = some u → (wr.alloc (.cells #[] 137)).cell? ((⟨vb,0,none⟩ : Addr).add j) = some u):=by
        obtain ⟨cs,hcs,_,hct,_⟩:=(HV.out.keep (f3.trans' fa) (by simp)).blkOf
        exact hid (hcs.cells (by rw [List.drop_zero,w32s_len,HVl.out];exact hct))
       have Hvl:=hid (show (w32s v).length = 8 * 1 by rw [w32s_len,HVl.out])
       go_wp2_with (refine wpList_append rfl _ _ _ rfl 137 _ _ 1 4 Tryz.underlying172 Hi.out Hz.out Hs.out Hb.out rfl (by decide) rfl HO0.out ⟨vb,0,none⟩ 8 vcap (w32s v) rfl Hvl.out Hnews.out (w32s_one _) (by decide) (by decide) ?_;intro rv0 w5 B0' ho1 f5 hB';simp only [aA,aB,Act.put,aC,aD,aE])
       have HO1 : Hid (∃ rb,Xr.Own w5 1 rv0 8 (w32s (St.of v).list) (some rb) ∧ w.heap.size < rb):=by
        have e : w32s (St.of v).list = [] ++ w32s v:=by
         rw [List.nil_append]
         exact congrArg w32s (list8 v HVl.out).symm
        rw [e]
        have hlt : w.heap.size < wr.heap.size:=hb3.lt
        rcases hB' with rfl | ⟨b,rfl,hge⟩
        · exact hid ⟨_,by simpa using ho1,hlt⟩
        · exact hid ⟨b,by simpa using ho1,by simp at hge;omega⟩
       have g5 : Fr [] w w5:=(f3.trans' fa).trans f5 (fun x hx => .inr (by have:=f3.size;simp at hx;omega))
       have hW5:=(fa.blk hb3 (by simp)).same (f5.block w.heap.size (by simp;have:=hb3.lt;omega) (by simp;have:=hb3.lt;omega))
       clear hB' f5 ho1 hb3 f3 fa HO0 Hnews
       go_wp2_with fail
       go_loopw [12,13] (fun rv iv wr => ∃ (q : Nat) (st : St) (rb : Nat),q ≤ 64 ∧ iv = .int .i64 q ∧ Hid (st = rnds K (sch p 48) q (St.of v)) ∧ Xr.Own wr 1 rv 8 (w32s st.list) (some rb) ∧ w.heap.size < rb ∧ Blk wr w.heap.size (w32s (schi p 64)) ∧ Fr [] w wr) (fun _ iv _ => 64 - (intOf iv).toNat)
       case atStart =>
        obtain ⟨rb,h1,h2⟩:=HO1.out
        exact ⟨0,St.of v,rb,by omega,rfl,rfl,h1,h2,hW5,g5⟩
       case round =>
        obtain ⟨q,st,rb,hq,rfl,hst,ho,hrb,hW,g⟩:=hrel
        clear HO1 hW5 g5
        obtain ⟨rb',rcap,hrb',rfl,_,_,_⟩:=ho.opened (by decide)
        cases hrb'
        obtain ⟨cs,hcs,hcl,hct,hback⟩:=ho.blkOf
        have hcj : ∀ j,j < 8 → cs[j]? = some (W32 (g32 st.list j)):=fun j hj => by
         have h1 : (cs.take 8)[j]? = cs[j]?:=List.getElem?_take_of_lt hj
         rw [← h1,hct]
         exact w32s_get _ j hj
        have hKr:=g.blk hK (by simp)
        have Hback:=hid hback
        have Hcj:=hid hcj
        clear hback hcj hct
        by_cases hlt : q < 64
        · --< c
          have hd3 : decide ((q : Int) < 64) = true:=by simp;omega
          go_wp2_with fail
          obtain ⟨ι,W,hι,hW1,hW2,hW0⟩:=family (fun w' => Blk w' rb cs) (w:=wr.drew) hcs.drew
          have HW1:=hid hW1
          have HW2:=hid hW2
          have HW0:=hid hW0
          clear hW1 hW2 hW0
          have hS0 : ∀ k,(W k).cell? ⟨rb,0,none⟩ = some (W32 st.a):=fun k => by rw [(HW1.out k).cell];exact Hcj.out 0 (by decide)
          have hS1 : ∀ k,(W k).cell? ⟨rb,1,none⟩ = some (W32 st.b):=fun k => by rw [(HW1.out k).cell];exact Hcj.out 1 (by decide)
          have hS2 : ∀ k,(W k).cell? ⟨rb,2,none⟩ = some (W32 st.c):=fun k => by rw [(HW1.out k).cell];exact Hcj.out 2 (by decide)
          have hS4 : ∀ k,(W k).cell? ⟨rb,4,none⟩ = some (W32 st.e):=fun k => by rw [(HW1.out k).cell];exact Hcj.out 4 (by decide)
          have hS5 : ∀ k,(W k).cell? ⟨rb,5,none⟩ = some (W32 st.f):=fun k => by rw [(HW1.out k).cell];exact Hcj.out 5 (by decide)
          have hS6 : ∀ k,(W k).cell? ⟨rb,6,none⟩ = some (W32 st.g):=fun k => by rw [(HW1.out k).cell];exact Hcj.out 6 (by decide)
          refine wp_region_X (fun w' => ∃ j,w' = W j) false (by kernel_rfl) ?_
          refine WX.pure [0,1,2,3,4,5,6,7,8,9,10,11,12,13,14,15,16,17,18,19,20,21,22,23] (by kernel_rfl) HW0.out ?_
          simp only [pick,aF,aG,aI,aJ,aK]
          repeat (go_big_quiet_step (fail))
          refine wpQuiet_nil ?_
          refine WX.done (by kernel_rfl) ?_
          clear hS0 hS1 hS2 hS4 hS5 hS6
          clear HW1 HW2 HW0 hι W ι
          have hcs2:=hcs.drew
          have hK2:=hKr.drew
          have hW2:=hW.drew
          have g2:=g.drew
          clear hcs hKr hW g ho
          generalize wr.drew = w6 at *
          go_wp2_with fail
          obtain ⟨ι,W,hι,hW1,hW2,hW0⟩:=family (fun w' => Blk w' rb cs ∧ Blk w' kb (w32s K) ∧ Blk w' w.heap.size (w32s (schi p 64))) (w:=w6.drew) ⟨hcs2.drew,hK2.drew,hW2.drew⟩
          have HW1:=hid hW1
          have HW2:=hid hW2
          have HW0:=hid hW0
          clear hW1 hW2 hW0
          have hS0 : ∀ k,(W k).cell? ⟨rb,7,none⟩ = some (W32 st.h):=fun k => by rw [(HW1.out k).1.cell];exact Hcj.out 7 (by decide)
          have hS1 : ∀ k,(W k).cell? ⟨kb,q,none⟩ = some (W32 (g32 K q)):=fun k => by rw [(HW1.out k).2.1.cell];exact w32s_get K q (by rw [HKl.out];exact hlt)
          have hS2 : ∀ k,(W k).cell? ⟨w.heap.size,q,none⟩ = some (W32 (g32 (sch p 48) q)):=fun k => by rw [(HW1.out k).2.2.cell];exact schi_get p 64 q (by decide) (by omega)
          refine wp_region_X (fun w' => ∃ j,w' = W j) false (by kernel_rfl) ?_
          refine WX.pure [0,1,2,3,5,8,12,13,14,15,16,17,18,19,21,22,23,24,26,27,28,29] (by kernel_rfl) HW0.out ?_
          simp only [pick,aF,aG,aI,aJ,aK]
          repeat (go_big_quiet_step (fail))
          refine wpQuiet_nil ?_
          refine WX.eff 4 (by kernel_rfl) ?_
          simp only [pick,aF,aG,aI,aJ,aK]
          go_wp2_with (go_at_call 136;refine (rturn_any _ _ (by decide) _).mono ?_;rintro e w' ⟨rfl,rfl⟩)
          refine After.on HW0.out ?_
          refine WX.eff 6 (by kernel_rfl) ?_
          simp only [pick,aF,aG,aI,aJ,aK]
          go_wp2_with (go_at_call 136;refine (rturn_any _ _ (by decide) _).mono ?_;rintro e w' ⟨rfl,rfl⟩)
          refine After.on HW0.out ?_
          refine WX.pure [7] (by kernel_rfl) HW0.out ?_
          simp only [pick,aF,aG,aI,aJ,aK]
          repeat (go_big_quiet_step (fail))
          refine wpQuiet_nil ?_
          refine WX.eff 9 (by kernel_rfl) ?_
          simp only [pick,aF,aG,aI,aJ,aK]
          go_wp2_with (go_at_call 136;refine (rturn_any _ _ (by decide) _).mono ?_;rintro e w' ⟨rfl,rfl⟩)
          refine After.on HW0.out ?_
          refine WX.pure [10,11,20,25,30,31] (by kernel_rfl) HW0.out ?_
          simp only [pick,aF,aG,aI,aJ,aK]
          repeat (go_big_quiet_step (fail))
          refine wpQuiet_nil ?_
          refine WX.done (by kernel_rfl) ?_
          clear hS0 hS1 hS2
          clear HW1 HW2 HW0 hι W ι
          have hcs3:=hcs2.drew
          have hW3:=hW2.drew
          have g3:=g2.drew
          clear hcs2 hK2 hW2 g2
          generalize w6.drew = w7 at *
          have c3 : w7.cell? ⟨rb,3,none⟩ = some (W32 st.d):=by rw [hcs3.cell];exact Hcj.out 3 (by decide)
          go_wp2_with (first
           | (go_at_call 136;refine (rturn_any _ _ (by decide) _).mono ?_;rintro e w' ⟨rfl,rfl⟩)
           | (refine wpList_buildSlice_ones rfl _ 8 _ rfl 137 Tryz.underlying172 _ _ Hi.out Hz.out rfl Hs.out (by decide) (by decide) rfl (w32s (rnd (g32 K q) (g32 (sch p 48) q) st).list) rfl (w32s_one _) ?_;intro hbN;simp only [aA,aB,Act.put,aC,aD,aE]))
          go_roundw
          case rel =>
           refine ⟨q + 1,rnd (g32 K q) (g32 (sch p 48) q) st,w7.heap.size,by omega,by go_num,by rw [hst];rfl,?_,hW3.lt,hW3.old _,g3.alloc _⟩
           exact Xr.Own.blk (size:=1) (n:=8) (cap:=8) hbN (Nat.le_refl _) (by decide) rfl
          case measure => simp [intOf];omega
        · have eq : q = 64:=by omega
          have hd3 : decide ((q : Int) < 64) = false:=by simp;omega
          rw [eq] at hst
          clear eq
          have hct2 : cs.take 8 = w32s (radd v st 0):=by
           have h1:=Xr.Own.cells1 ho hcs
           rw [h1]
           rfl
          have Hct2:=hid hct2
          have Hcl8:=hid (show 8 ≤ cs.length from hcl)
          clear hct2 hKr hW ho hcl hd3
          go_wp2_with fail
          obtain ⟨wo,rfl⟩ : ∃ wo : World,wo = wr:=⟨_,rfl⟩
          go_loopw [22] (fun iv wx => ∃ (r : Nat) (cs' : List Value),r ≤ 8 ∧ iv = .int .i64 r ∧ Blk wx rb cs' ∧ Hid (cs'.length = cs.length) ∧ Hid (cs'.take 8 = w32s (radd v st r)) ∧ Fr [rb] wo wx) (fun iv _ => 8 - (intOf iv).toNat)
          case atStart => exact ⟨0,cs,by omega,rfl,hcs,rfl,Hct2,Fr.refl _ _⟩
          case round =>
           obtain ⟨r,cs',hr,rfl,hcs',hl',ht',g'⟩:=hrel
           clear hcs
           have gg : Fr [] w wr:=g.trans g' (fun x hx => .inr (by simp at hx;omega))
           have hcr : r < 8 → cs'[r]? = some (W32 (g32 st.list r)):=fun h => by
            have h1 : (cs'.take 8)[r]? = cs'[r]?:=List.getElem?_take_of_lt h
            rw [← h1,ht'.out,w32s_get _ _ (by rw [radd_len];exact h),radd_get v st r h]
           have Hcr:=hid hcr
           clear hcr
           by_cases hlt4 : r < 8
           · have hd4 : decide ((r : Int) < 8) = true:=by simp;omega
             have hvv : wr.cell? ⟨vb,r,none⟩ = some (W32 (g32 v r)):=by
              rw [gg.cell_old (a:=⟨vb,r,none⟩) Hvb.out,(Hvcell.out r (by rw [w32s_len,HVl.out];exact hlt4)).1]
              exact w32s_get _ _ (by rw [HVl.out];exact hlt4)
             go_wp2_with fail
             obtain ⟨ι,W,hι,hW1,hW2,hW0⟩:=family (fun w' => Blk w' rb cs' ∧ w'.cell? ⟨vb,r,none⟩ = some (W32 (g32 v r))) (w:=wr.drew) ⟨hcs'.drew,by rw [World.cell?_drew];exact hvv⟩
             have HW1:=hid hW1
             have HW2:=hid hW2
             have HW0:=hid hW0
             clear hW1 hW2 hW0
             have hS1 : ∀ k,(W k).cell? ⟨rb,r,none⟩ = some (W32 (g32 st.list r)):=fun k => by rw [(HW1.out k).1.cell];exact Hcr.out hlt4
             have hS2 : ∀ k,(W k).cell? ⟨vb,r,none⟩ = some (W32 (g32 v r)):=fun k => (HW1.out k).2
             clear hvv
             refine wp_region_X (fun w' => ∃ j,w' = W j) true (by kernel_rfl) ?_
             refine WX.pure [0,1,2,3,4,5,6,7,8,9,10,11] (by kernel_rfl) HW0.out ?_
             simp only [pick,aF,aG,aI,aJ,aK]
             repeat (go_big_quiet_step (fail))
             refine wpQuiet_nil ?_
             refine WX.eff 12 (by kernel_rfl) ?_
             simp only [pick,aF,aG,aI,aJ,aK]
             refine wpList_put rfl _ _ _ rfl rfl (W32 (g32 st.list r + g32 v r)) rfl rfl hcs'.drew (by have:=hl'.out;have:=Hcl8.out;omega) (by kernel_rfl) ?_
             intro w7 f7 hb7 _
             refine wpList_nil ?_
             refine After.end rfl ?_
             refine WX.done (by kernel_rfl) ?_
             clear hS1 hS2
             clear HW1 HW2 HW0 hι W ι
             have hn : Hid ((cs'.set r (W32 (g32 st.list r + g32 v r))).take 8 = w32s (radd v st (r + 1))):=by
              rw [List.take_set,ht'.out,← radd_set v st r hlt4]
              unfold w32s
              rw [List.map_set]
              exact hid rfl
             go_wp2_with fail
             go_roundw
             case rel => exact ⟨r + 1,_,by omega,by go_num,hb7,by rw [List.length_set];exact hl',hn,g'.drew.trans' f7⟩
             case measure => simp [intOf];omega
           · have er : r = 8:=by omega
             have hd4 : decide ((r : Int) < 8) = false:=by simp;omega
             rw [er,radd_full] at ht'
             clear er
             go_wp2_with fail
             go_ret
             have ho':=Hback.out wr cs' hcs' hl'.out
             rw [ht'.out] at ho'
             refine ⟨_,rb,rfl,?_,Nat.le_of_lt hrb,gg⟩
             unfold compress
             rw [← hst.out]
             exact ho'
end Go.Proofs.YtgafefecookgaaaGreat
namespace Go.Proofs.YtgafefecookgaaaGreat
open Go Go.Xr Go.RowKit
def shaS (s : ByteArray) : ByteArray:=⟨(shaL s.data.toList).toArray⟩
theorem shaS_size (s : ByteArray) : (shaS s).size = 32:=by
 unfold shaS
 rw [size_mk']
 exact shaL_len _
theorem of_any {w : World} (s : ByteArray) (hs : s.size < 1099511627776) :
 Calls Tryz.prog 86 #[.string s] w fun e w' => e = .returned (.string (shaS s)) ∧ Fr [] w w':=by
 have hbl:=hid (bytes_len s)
 go_enter Tryz.func86,Tryz.ntmps86
 go_wp2_with fail
 refine new_any.mono ?_
 rintro e w1 ⟨hb,rfl,hr1,hlt,f1⟩
 go_wp2_with fail
 refine (add_any hr1 s (by simp;omega)).mono ?_
 rintro e w2 ⟨rfl,hr2,f2⟩
 rw [List.nil_append] at hr2
 go_wp2_with fail
 refine (sum_any hr2 (by rw [hbl.out];exact hs)).mono ?_
 rintro e w3 ⟨rfl,f3⟩
 go_wp2_with fail
 go_ret
 exact ⟨rfl,(f1.trans f2 (fun x hx => .inr (by simp at hx;omega))).trans' f3⟩
attribute [local go_sem] cv32_8 shr_u32
theorem k_any {w : World} : Calls Tryz.prog 122 #[] w fun e w' => e = .returned (.slice (some ⟨w.heap.size,0,none⟩) 64 64) ∧ Blk w' w.heap.size (w32s K0) ∧ Fr [] w w':=by
 obtain ⟨i28,hi28,hz28,hs28,hb28⟩:=inf28
 have Hi:=hid hi28
 have Hz:=hid hz28
 have Hs:=hid hs28
 clear hi28 hz28 hs28 hb28
 go_enter Tryz.func122,Tryz.ntmps122
 go_wp2_with (refine wpList_buildSlice_ones rfl _ 64 _ rfl 137 Tryz.underlying172 _ _ Hi.out Hz.out rfl Hs.out (by decide) (by decide) rfl (w32s K0) rfl (w32s_one _) ?_;intro hbN;simp only [aA,aB,Act.put,aC,aD,aE])
 go_ret
 exact ⟨rfl,hbN,(Fr.refl _ _).alloc _⟩
theorem begin_any {w : World} : Calls Tryz.prog 121 #[] w fun e w' => e = .returned (.slice (some ⟨w.heap.size,0,none⟩) 8 8) ∧ Blk w' w.heap.size (w32s B0) ∧ Fr [] w w':=by
 obtain ⟨i28,hi28,hz28,hs28,hb28⟩:=inf28
 have Hi:=hid hi28
 have Hz:=hid hz28
 have Hs:=hid hs28
 clear hi28 hz28 hs28 hb28
 go_enter Tryz.func121,Tryz.ntmps121
 go_wp2_with (refine wpList_buildSlice_ones rfl _ 8 _ rfl 137 Tryz.underlying172 _ _ Hi.out Hz.out rfl Hs.out (by decide) (by decide) rfl (w32s B0) rfl (w32s_one _) ?_;intro hbN;simp only [aA,aB,Act.put,aC,aD,aE])
 go_ret
 exact ⟨rfl,hbN,(Fr.refl _ _).alloc _⟩
theorem inf5q : ∃ i,Tryz.prog.info? 5 = some i ∧ i.zero = some (bt 0) ∧ i.size = 1 ∧ i.bytes = 1:=⟨_,rfl,rfl,rfl,rfl⟩
theorem rof_any {w : World} (s : ByteArray) (hs : s.size < 1099511627776) :
 Calls Tryz.prog 89 #[.string s] w fun e w' => e = .returned (.string (shaS s)) ∧ Fr [] w w':=by
 obtain ⟨i28,hi28,hz28,hs28,hb28⟩:=inf5q
 have Hi:=hid hi28
 have Hz:=hid hz28
 have Hs:=hid hs28
 have Hb:=hid hb28
 clear hi28 hz28 hs28 hb28
 have Hbl:=hid (show s.data.toList.length = s.size from bytes_len s)
 unfold shaS
 generalize hbs : s.data.toList = bs at *
 have Hbs:=hid hbs
 clear hbs
 go_enter Tryz.func89,Tryz.ntmps89
 go_wp2_with (first
  | (refine wpList_bytes_own rfl _ _ 5 _ rfl s rfl (by unfold maxLen;omega) Tryz.underlying9 Tryz.underlying119 Tryz.underlying5 ?_;intro w1 cap1 f1 hlt1 ho1;rw [Hbs.out] at ho1;have hFr1 : Fresh w (some w.heap.size):=(fun b h => by cases h;exact Nat.le_refl _);simp only [aA,aB,Act.put,aC,aD,aE])
  | (refine wpList_append1 rfl rfl 119 _ _ _ rfl rfl 5 _ _ 1 Tryz.underlying119 Hi.out Hz.out Hs.out Hb.out rfl (.int .u8 128) rfl rfl rfl rfl ho1 (by unfold maxLen;omega) (by omega) ?_;intro v2 w2 B2 ho2 f2 hB2;simp only [aA,aB,Act.put,aC,aD,aE]))
 have g2:=hFr1.fr f1 f2
 have hF2:=hFr1.step f1 hB2
 have hzl : zlen s.size < 64:=by unfold zlen;omega
 clear ho1 f1 hlt1 hB2 hFr1 f2
 go_loopg [3] (zlen s.size) (fun g bv0 wr => ∃ (k : Nat) (B : Option Nat),k + g = zlen s.size ∧ Xr.Own wr 1 bv0 (s.size + 1 + k) (bv (bs ++ 0x80 :: List.replicate k 0)) B ∧ Fresh w B ∧ Fr [] w wr)
 case atStart => exact ⟨0,B2,by omega,by rw [show bs ++ (0x80 : UInt8) :: List.replicate 0 0 = bs ++ [0x80] from rfl,bv_append];exact ho2,hF2,g2⟩
 case round =>
  obtain ⟨k,B,hk,ho,hF,g⟩:=hrel
  obtain ⟨G,rfl⟩ : ∃ G,G = gk:=⟨_,rfl⟩
  clear ho2 g2 hF2
  obtain ⟨ba,bc,rfl⟩:=ho.isSlice
  cases G with
  | succ G =>
    have hne : (((s.size + 1 + k : Nat) : Int) % 64 != 56) = true:=by
     have:=zlen_miss s.size k (by omega)
     simp
     omega
    go_wp2_with (refine wpList_append1 rfl rfl 119 _ _ _ rfl rfl 5 _ _ 1 Tryz.underlying119 Hi.out Hz.out Hs.out Hb.out rfl (.int .u8 0) rfl rfl rfl rfl ho (by unfold maxLen;omega) (by omega) ?_;intro v3 w3 B3 ho3 f3 hB3;simp only [aA,aB,Act.put,aC,aD,aE])
    go_roundg G
    case rel =>
     refine ⟨k + 1,B3,by omega,?_,hF.step g hB3,hF.fr g f3⟩
     have e : bv (bs ++ 0x80 :: List.replicate (k + 1) 0) = bv (bs ++ 0x80 :: List.replicate k 0) ++ [.int .u8 0]:=by
      rw [List.replicate_succ']
      simp only [bv_append,← List.cons_append,← List.append_assoc]
      rfl
     rw [e]
     exact ho3
    case measure => omega
  | zero =>
    obtain rfl : k = zlen s.size:=by omega
    have hne : (((s.size + 1 + zlen s.size : Nat) : Int) % 64 != 56) = false:=by
     have:=zlen_hit s.size
     simp
     omega
    go_wp2_with fail
    obtain ⟨A0,hA0⟩ : ∃ A0,bs ++ 0x80 :: List.replicate (zlen s.size) 0 = A0:=⟨_,rfl⟩
    rw [hA0] at ho
    have HA0:=hid hA0
    clear hA0 hne
    go_loopw [3,5] (fun bv0 iv wr => ∃ (i : Nat) (B : Option Nat),i ≤ 8 ∧ iv = .int .i64 i ∧ Xr.Own wr 1 bv0 (s.size + 1 + zlen s.size + i) (bv (A0 ++ (be8 (8 * s.size)).take i)) B ∧ Fresh w B ∧ Fr [] w wr) (fun _ iv _ => 8 - (intOf iv).toNat)
    case atStart => exact ⟨0,B,by omega,rfl,by rw [List.take_zero,List.append_nil];exact ho,hF,g⟩
    case round =>
     obtain ⟨i,B,hi8,rfl,ho,hF,g⟩:=hrel
     obtain ⟨ba,bc,rfl⟩:=ho.isSlice
     by_cases hlt : i < 8
     · have hd1 : decide ((i : Int) < 8) = true:=by simp;omega
       obtain ⟨X,hX⟩ : ∃ X,8 * s.size / 2 ^ (56 - 8 * i) = X:=⟨_,rfl⟩
       have hsr : ∀ t,binOp .shr t (.int .u64 (8 * (s.size : Int))) (.int .u64 (56 - 8 * (i : Int))) = pure (.int .u64 (X : Int)):=by
        intro t
        have:=shr_nat t (8 * s.size) (56 - 8 * i) .u64 (by omega)
        rw [hX] at this
        have e1 : ((8 * s.size : Nat) : Int) = 8 * (s.size : Int):=by omega
        have e2 : ((56 - 8 * i : Nat) : Int) = 56 - 8 * (i : Int):=by omega
        rw [e1,e2] at this
        exact this
       have hcv:=cvn_8
       have HX:=hid hX
       clear hX
       go_wp2_with (refine wpList_append1 rfl rfl 119 _ _ _ rfl rfl 5 _ _ 1 Tryz.underlying119 Hi.out Hz.out Hs.out Hb.out rfl (bt (UInt8.ofNat X)) rfl rfl rfl rfl ho (by unfold maxLen;omega) (by omega) ?_;intro v3 w3 B3 ho3 f3 hB3;simp only [aA,aB,Act.put,aC,aD,aE])
       go_roundw
       case rel =>
        refine ⟨i + 1,B3,by omega,by go_num,?_,hF.step g hB3,hF.fr g f3⟩
        have e : bv (A0 ++ (be8 (8 * s.size)).take (i + 1)) = bv (A0 ++ (be8 (8 * s.size)).take i) ++ [bt (UInt8.ofNat X)]:=by
         rw [List.take_succ_eq_append_getElem (by simp [be8];omega)]
         have e2 : (be8 (8 * s.size))[i]'(by simp [be8];omega) = UInt8.ofNat (8 * s.size / 2 ^ (56 - 8 * i)):=by simp [be8]
         rw [e2,HX.out]
         simp only [bv_append,← List.append_assoc]
         rfl
        rw [e]
        exact ho3
       case measure => simp [intOf];omega
     · have ei : i = 8:=by omega
       have hd1 : decide ((i : Int) < 8) = false:=by simp;omega
       have ho9 : Xr.Own wr 1 (.slice ba (s.size + 1 + zlen s.size + i) bc) (s.size + 1 + zlen s.size + i) (bv (padL bs)) B:=by
        have e : A0 ++ (be8 (8 * s.size)).take i = padL bs:=by
         rw [ei,List.take_of_length_le (by simp [be8]),← HA0.out]
         unfold padL
         rw [Hbl.out,List.append_assoc]
         rfl
        rw [← e]
        exact ho
       have hQ : ∃ Q,s.size + 1 + zlen s.size + i = 64 * Q ∧ (padL bs).length = 64 * Q ∧ Q < 17592186044417:=by
        have h1:=ho9.1
        rw [bv_length] at h1
        have h2:=pad_len bs
        exact ⟨(padL bs).length / 64,by omega,by omega,by omega⟩
       obtain ⟨Q,hQ1,hQ2,hQ3⟩:=hQ
       rw [hQ1] at ho9 ⊢
       have HQ2:=hid hQ2
       clear ei ho hQ2 hQ1
       go_wp2_with (first
        | (go_at_call 121;refine begin_any.mono ?_;rintro e w4 ⟨rfl,hBe,f4⟩)
        | (go_at_call 122;refine k_any.mono ?_;rintro e w5 ⟨rfl,hKe,f5⟩))
       have ho10:=(ho9.keep f4 (by simp)).keep f5 (by simp)
       have hB5 : Xr.Own w5 1 (.slice (some ⟨wr.heap.size,0,none⟩) 8 8) 8 (w32s (hv 0 (padL bs))) (some wr.heap.size):=Xr.Own.blk (size:=1) (n:=8) (cap:=8) (f5.blk hBe (by simp)) (Nat.le_refl _) (by decide) rfl
       have g5:=(g.trans' f4).trans' f5
       have hlw:=g.size
       have hk4:=f4.size
       have hkl : w4.heap.size < w5.heap.size:=hKe.lt
       generalize w4.heap.size = kb at *
       clear ho9 hBe g f4 f5
       go_loopw [6,8] (fun vv iv wr => ∃ (q vb : Nat),q ≤ Q ∧ iv = .int .i64 ((64 * q : Nat) : Int) ∧ Xr.Own wr 1 vv 8 (w32s (hv q (padL bs))) (some vb) ∧ Xr.Own wr 1 (.slice ba (64 * Q) bc) (64 * Q) (bv (padL bs)) B ∧ Blk wr kb (w32s K0) ∧ Fr [] w wr) (fun _ iv _ => 64 * Q - (intOf iv).toNat)
       case atStart => exact ⟨0,_,by omega,rfl,hB5,ho10,hKe,g5⟩
       case round =>
        obtain ⟨q,vb,hq,rfl,hV,hP,hK,g⟩:=hrel
        clear hB5 ho10 hKe g5
        by_cases hlt : q < Q
        · have hd2 : decide (((64 * q : Nat) : Int) < ((64 * Q : Nat) : Int)) = true:=by simp;omega
          obtain ⟨pb,pcap,rfl,hsl,hpc1,hpc2,_⟩:=hP.opened (by omega)
          obtain ⟨rfl,rfl⟩ : ba = some ⟨pb,0,none⟩ ∧ bc = pcap:=by simpa using hsl
          obtain ⟨cs,hcs,hcl,hct,_⟩:=hP.blkOf
          obtain ⟨ch,hch⟩ : ∃ ch,((padL bs).drop (64 * q)).take 64 = ch:=⟨_,rfl⟩
          have hchl : ch.length = 64:=by rw [← hch,List.length_take,List.length_drop,HQ2.out];omega
          have hcv : (cs.drop (64 * q)).take ch.length = bv ch:=by
           rw [hchl,← hch,← bv_take,← bv_drop,← hct,List.drop_take,List.take_take,Nat.min_eq_left (by omega)]
          have Hch:=hid hch
          have Hchl:=hid hchl
          have Hcv:=hid hcv
          clear hsl hct hch hchl hcv
          obtain ⟨va,vc,rfl⟩:=hV.isSlice
          have hm7 : ¬ (bc = 64 * q):=by omega
          go_wp2_with (first
           | (refine wpList_slice_lh rfl _ _ _ _ rfl rfl .i64 .i64 _ _ (64 * q) (64 * q + 64) rfl rfl (by omega) (by omega) (by omega) (by omega) (by omega) 5 Tryz.underlying119 (by kernel_rfl) ?_;rw [Nat.zero_add,Nat.add_sub_cancel_left];simp only [aA,aB,Act.put,aC,aD,aE])
           | (refine wpList_string_of_bytes rfl _ _ 5 _ rfl 64 (bc - 64 * q) rfl hcs ch Hchl.out Hcv.out Tryz.underlying119 Tryz.underlying5 Tryz.underlying9 ?_;(try simp only [aA,aB,Act.put,aC,aD,aE]))
           | (go_at_call 123;refine (rblock_any hV hK ⟨ch.toArray⟩ (by rw [size_mk'];exact Hchl.out) K0_len (hv_len _ _)).mono ?_;rintro e w7 ⟨rv,rb,rfl,hV7,hrb,f7⟩))
          go_roundw
          case rel =>
           refine ⟨q + 1,rb,by omega,by go_num,?_,hP.keep f7 (by simp),f7.blk hK (by simp),g.trans' f7⟩
           rw [hv,Hch.out]
           exact hV7
          case measure => simp [intOf];omega
        · have eq : q = Q:=by omega
          have hd2 : decide (((64 * q : Nat) : Int) < ((64 * Q : Nat) : Int)) = false:=by simp;omega
          rw [eq] at hV
          obtain ⟨vb',vcap,hvb,rfl,_,_,hvc⟩:=hV.opened (by decide)
          cases hvb
          have Hvb:=hid (hV.lt vb rfl)
          obtain ⟨V,hVe⟩ : ∃ V,hv Q (padL bs) = V:=⟨_,rfl⟩
          rw [hVe] at hvc
          have Hvc : Hid (∀ j,j < 8 → wr.cell? ⟨vb,j,none⟩ = some (W32 (g32 V j))):=hid fun j hj => by
           have hVl : V.length = 8:=by rw [← hVe];exact hv_len _ _
           rw [(hvc j (by rw [w32s_len,hVl];exact hj)).1]
           exact w32s_get V j (by rw [hVl];exact hj)
          have HV : Hid (outB V 32 = shaL bs):=by
           unfold shaL
           rw [HQ2.out,Nat.mul_div_cancel_left _ (by decide),hVe]
           exact hid rfl
          clear eq hV hvc hVe hP hK
          go_wp2_with fail
          obtain ⟨wo,rfl⟩ : ∃ wo : World,wo = wr:=⟨_,rfl⟩
          clear hd2
          go_loopw [9,10] (fun ov iv wr => ∃ (i : Nat) (B' : Option Nat),i ≤ 8 ∧ iv = .int .i64 i ∧ Xr.Own wr 1 ov (4 * i) (bv (outB V (4 * i))) B' ∧ Fresh wo B' ∧ Fr [] wo wr) (fun _ iv _ => 8 - (intOf iv).toNat)
          case atStart => exact ⟨0,none,by omega,rfl,Xr.Own.nil _ 1,Fresh.none _,Fr.refl _ _⟩
          case round =>
           obtain ⟨i,B',hi8,rfl,hoo,hFo,go⟩:=hrel
           by_cases hlt4 : i < 8
           · have hd4 : decide ((i : Int) < 8) = true:=by simp;omega
             go_wp2_with fail
             obtain ⟨wp,rfl⟩ : ∃ wp : World,wp = wr:=⟨_,rfl⟩
             have hoo' : ∃ ov,Hid (ov = bv (outB V (4 * i))):=⟨_,rfl⟩
             go_loopw [9,11] (fun ov jv wr => ∃ (j : Nat) (B' : Option Nat),j ≤ 4 ∧ jv = .int .i64 j ∧ Xr.Own wr 1 ov (4 * i + j) (bv (outB V (4 * i + j))) B' ∧ Fresh wo B' ∧ Fr [] wo wr) (fun _ jv _ => 4 - (intOf jv).toNat)
             case atStart => exact ⟨0,B',by omega,rfl,hoo,hFo,go⟩
             case round =>
              obtain ⟨j,B2',hj4,rfl,hoo2,hFo2,go2⟩:=hrel
              clear hoo hFo go hoo'
              obtain ⟨oa,oc,rfl⟩:=hoo2.isSlice
              by_cases hlt5 : j < 4
              · have hd5 : decide ((j : Int) < 4) = true:=by simp;omega
                have hvi : wr.cell? ⟨vb,i,none⟩ = some (W32 (g32 V i)):=by
                 rw [go2.cell_old (a:=⟨vb,i,none⟩) Hvb.out]
                 exact Hvc.out i hlt4
                have hm1 : 8 * (j : Int) ≤ 24:=by omega
                have hm2 : (24 - 8 * (j : Int)).toNat = 24 - 8 * j:=by omega
                go_wp2_with (refine wpList_append1 rfl rfl 119 _ _ _ rfl rfl 5 _ _ 1 Tryz.underlying119 Hi.out Hz.out Hs.out Hb.out rfl (bt ((shr32 (g32 V i) (24 - 8 * j)).toUInt8)) rfl rfl rfl rfl hoo2 (by unfold maxLen;omega) (by omega) ?_;intro v3 w3 B3 ho3 f3 hB3;simp only [aA,aB,Act.put,aC,aD,aE])
                go_roundw
                case rel =>
                 refine ⟨j + 1,B3,by omega,by go_num,?_,hFo2.step go2 hB3,hFo2.fr go2 f3⟩
                 have e : bv (outB V (4 * i + (j + 1))) = bv (outB V (4 * i + j)) ++ [bt ((shr32 (g32 V i) (24 - 8 * j)).toUInt8)]:=by
                  rw [← Nat.add_assoc,outB_succ,show (4 * i + j) / 4 = i by omega,show (4 * i + j) % 4 * 8 = 8 * j by omega,bv_append]
                  rfl
                 rw [e]
                 exact ho3
                case measure => simp [intOf];omega
              · have ej : j = 4:=by omega
                have hd5 : decide ((j : Int) < 4) = false:=by simp;omega
                have h4 : 4 * i + j = 4 * (i + 1):=by omega
                rw [h4] at hoo2 ⊢
                clear ej h4
                go_wp2_with fail
                go_roundw
                case rel => exact ⟨i + 1,B2',by omega,by go_num,hoo2,hFo2,go2⟩
                case measure => simp [intOf];omega
           · have ei : i = 8:=by omega
             have hd4 : decide ((i : Int) < 8) = false:=by simp;omega
             have h4 : 4 * i = 32:=by omega
             rw [h4,HV.out] at hoo
             obtain ⟨ob,oc,rfl,rfl,_,_,_⟩:=hoo.opened (by decide)
             obtain ⟨cs,hcs,hcl,hct,_⟩:=hoo.blkOf
             have HSl:=hid (shaL_len bs)
             have HSv:=hid (show (cs.drop 0).take (shaL bs).length = bv (shaL bs) by rw [List.drop_zero,HSl.out];exact hct)
             clear ei h4 hct
             go_wp2_with (refine wpList_string_of_bytes rfl _ _ 5 _ rfl 32 oc rfl hcs (shaL bs) HSl.out HSv.out Tryz.underlying119 Tryz.underlying5 Tryz.underlying9 ?_;(try simp only [aA,aB,Act.put,aC,aD,aE]))
             go_ret
             exact ⟨rfl,g.trans' go⟩
end Go.Proofs.YtgafefecookgaaaGreat
