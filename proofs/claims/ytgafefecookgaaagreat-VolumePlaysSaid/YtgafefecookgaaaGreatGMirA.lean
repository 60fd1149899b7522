/- Several texts put together: MirA, Rep, MirB, MirC, MirD, MirE, MirF, MirG, MirH, MirI, MirJ, MirL. What each shows stands ahead of it. -/
import Derived.Test.YtgafefecookgaaaGreatGRec
import Derived.Test.YtgafefecookgaaaGreatGCore
import Derived.Test.YtgafefecookgaaaGreatGSha
import Derived.Test.YtgafefecookgaaaGreatProg
import Derived.Test.YtgafefecookgaaaGreatGRef
import Derived.Shelf.Strings.Repeat
import Derived.WalkLawsBesides
import Derived.WalkSpells
import Derived.Stop.BytesEq
open Go.World renaming size_alloc → aA,size_drew → aB
open List renaming setIfInBounds_toArray → aC,set_cons_succ → aD,set_cons_zero → aE,toList_toArray → aF,map_cons → aG,map_nil → aI,getD_cons_succ → aJ,getD_cons_zero → aK
set_option linter.unusedVariables false
set_option linter.unusedSimpArgs false
set_option maxRecDepth 20000
set_option maxHeartbeats 16000000
namespace Go.Xr
open Go
set_option linter.unusedVariables false
theorem get_step8 (l : List UInt8) (i : Nat) (h : i < l.length) (h8 : i < 8) :
 UInt64.ofNat (leV (l.take i)) ||| shl64 (l[i]).toUInt64 (8 * i) = UInt64.ofNat (leV (l.take (i + 1))):=by
 have e : l.take (i + 1) = l.take i ++ [l[i]]:=List.take_succ_eq_append_getElem h
 have hl : (l.take i).length = i:=by rw [List.length_take];omega
 have h1:=leV_lt (l.take i)
 have h2:=leV_lt (l.take (i + 1))
 rw [hl] at h1
 rw [show (l.take (i + 1)).length = i + 1 by rw [List.length_take];omega] at h2
 have hp : ∀ j,(256 : Nat) ^ j = 2 ^ (8 * j):=fun j => by rw [show (256 : Nat) = 2 ^ 8 from rfl,← Nat.pow_mul]
 rw [hp] at h1 h2
 have hb:=(l[i]).toNat_lt
 have h64 : 2 ^ (8 * (i + 1)) ≤ (2 : Nat) ^ 64:=Nat.pow_le_pow_right (by decide) (by omega)
 have h56 : 2 ^ (8 * i) ≤ (2 : Nat) ^ 56:=Nat.pow_le_pow_right (by decide) (by omega)
 have hbm : (l[i]).toNat * 2 ^ (8 * i) < 2 ^ 64:=by
  have : (l[i]).toNat * 2 ^ (8 * i) ≤ 255 * 2 ^ 56:=Nat.mul_le_mul (by omega) h56
  omega
 apply UInt64.toNat_inj.1
 rw [or_nat,shl64_nat,UInt64.toNat_ofNat',UInt64.toNat_ofNat',UInt8.toNat_toUInt64,Nat.mod_eq_of_lt (by omega),Nat.mod_eq_of_lt (by omega),Nat.mod_eq_of_lt (by omega),e,leV_snoc,hl,hp]
 rw [Nat.or_comm,Nat.mul_comm,← Nat.two_pow_add_eq_or_of_lt h1]
 omega
theorem ext_take8 (s : ByteArray) (n : Nat) : (s.extract 0 n).data.toList = s.data.toList.take n:=by
 rw [ByteArray.data_extract,Array.toList_extract,List.extract_eq_take_drop,List.drop_zero,Nat.sub_zero]
def tell8 (s : ByteArray) : Nat:=leV (s.data.toList.take 8)
end Go.Xr
namespace Go.Proofs.YtgafefecookgaaaGreat.mir
open Go Go.Xr Go.RowKit
theorem cv8_64r (w : World) (a : UInt8) : (convert 5 109 (bt a)).run Tryz.prog w = .ok (W64 a.toUInt64) w:=conv_u8_u64 w _ _ a Tryz.underlying5 Tryz.underlying109 rfl
attribute [local go_sem] or_u64 shl_u64 cv8_64r
theorem get64_any {w : World} {p : Nat} (s : ByteArray) (h : Blk w p (rdrL s 0 0)) (hs : 8 ≤ s.size) (hm : s.size ≤ 140737488355328) : Calls Tryz.prog 126 #[.pointer (some ⟨p,0,none⟩),.int .i64 8] w fun e w' => e = .returned (W64 (UInt64.ofNat (tell8 s))) ∧ Blk w' p (rdrL s 8 0) ∧ Fr [p] w w':=by
 have Hb:=hid (rcd.bytes_any s 8 h (by omega) hm)
 obtain ⟨D,hD⟩ : ∃ D,s.extract 0 (0 + 8) = D:=⟨_,rfl⟩
 obtain ⟨L,hL⟩ : ∃ L,s.data.toList.take 8 = L:=⟨_,rfl⟩
 have HLl:=hid (show L.length = 8 by rw [← hL,List.length_take,Array.length_toList];exact Nat.min_eq_left hs)
 have HDs:=hid (show D.size = 8 by rw [← hD];simp;omega)
 have HDl:=hid (show D.data.toList = L by rw [← hD,ext_take8,hL])
 have Hmx:=hid (show D.size ≤ maxLen by rw [HDs.out];decide)
 have Hfin:=hid (show UInt64.ofNat (leV (L.take 8)) = UInt64.ofNat (tell8 s) by rw [List.take_of_length_le (by rw [HLl.out];exact Nat.le_refl _),← hL];rfl)
 rw [hD] at Hb
 have hpw:=h.lt
 clear hD hL h
 go_enter Tryz.func126,Tryz.ntmps126
 go_wp2_with fail
 refine Hb.out.mono ?_
 rintro e w1 ⟨rfl,b1,f1⟩
 have hp1 : p < w1.heap.size:=Nat.lt_of_lt_of_le hpw f1.size
 go_wp2_with (refine wpList_bytes_own rfl 9 119 5 _ rfl D rfl Hmx.out Tryz.underlying9 Tryz.underlying119 Tryz.underlying5 ?_;intro w2 c2 f2 hlt2 ho2;rw [HDl.out] at ho2;simp only [aA,aB,Act.put,aC,aD,aE])
 obtain ⟨N,hN⟩ : ∃ N,w1.heap.size = N:=⟨_,rfl⟩
 rw [hN] at ho2 hlt2 hp1 ⊢
 obtain ⟨cs,hcs1,hcs2,hcs3,_⟩:=ho2.blkOf
 rw [HDs.out] at hcs3 hcs2
 have b2:=f2.blk b1 (by simp)
 have g2 : Fr [p] w w2:=f1.trans' (f2.mono (by simp))
 have hcell : Hid (∀ i,i < 8 → w2.cell? ⟨N,i,none⟩ = some (bt (g8 L i))):=hid fun i hi => by
  rw [hcs1.cell]
  have : (cs.take 8)[i]? = (bv L)[i]?:=by rw [hcs3]
  rw [List.getElem?_take,if_pos hi,bv_getElem?,g8_eq L i (by rw [HLl.out];exact hi)] at this
  exact this
 have hDi : ((D.size : Nat) : Int) = 8:=by rw [HDs.out];rfl
 clear ho2 hcs1 hcs2 hcs3 f1 f2 b1 hlt2
 go_loopw [5,13] (fun xv iv wr => ∃ i : Nat,i ≤ 8 ∧ iv = .int .i64 i ∧ xv = W64 (UInt64.ofNat (leV (L.take i))) ∧ wr = w2) (fun _ iv _ => 8 - (intOf iv).toNat)
 case atStart => exact ⟨0,by omega,rfl,rfl,rfl⟩
 case round =>
  obtain ⟨i,hi,rfl,rfl,rfl⟩:=hrel
  by_cases hli : i < 8
  · have hd : decide ((i : Int) < 8) = true:=by simp;omega
    have k1:=hcell.out i hli
    obtain ⟨X,hX⟩ : ∃ X,g8 L i = X:=⟨_,rfl⟩
    rw [hX] at k1
    obtain ⟨V,hV⟩ : ∃ V,UInt64.ofNat (leV (L.take i)) = V:=⟨_,rfl⟩
    have hli2 : i < L.length:=by rw [HLl.out];exact hli
    have hge : L[i] = X:=by
     have:=g8_eq L i hli2
     rw [List.getElem?_eq_getElem hli2,hX] at this
     exact Option.some.inj this
    have Hst:=hid (get_step8 L i hli2 hli)
    rw [hV,hge] at Hst
    have hm0 : (0 : Int) ≤ 8 * (i : Int):=by omega
    have hsl : ∀ (t : TypeId) (a : UInt64),binOp .shl t (W64 a) (.int .u64 (8 * (i : Int))) = pure (W64 (shl64 a (8 * i))):=fun t a => by
     have:=shl_u64 t a .u64 (8 * (i : Int)) hm0
     rw [show (8 * (i : Int)).toNat = 8 * i by omega] at this
     exact this
    have hi4 : (i : Int) ≤ 8:=by omega
    have hiD : i < D.size:=by rw [HDs.out];exact hli
    rw [hV]
    clear hX hV hge
    go_wp2_with fail
    go_roundw
    case rel => exact ⟨i + 1,by omega,by go_num,by rw [Hst.out],by first | rfl | trivial⟩
    case measure => simp [intOf];omega
  · have hd : decide ((i : Int) < 8) = false:=by simp;omega
    obtain rfl : i = 8:=by omega
    rw [Hfin.out]
    clear hi hli
    go_wp2_with fail
    go_ret
    exact ⟨rfl,b2,g2⟩
theorem ru64_any {w : World} {p : Nat} (s : ByteArray) (h : Blk w p (rdrL s 0 0)) (hs : 8 ≤ s.size) (hm : s.size ≤ 140737488355328) : Calls Tryz.prog 97 #[.pointer (some ⟨p,0,none⟩)] w fun e w' => e = .returned (W64 (UInt64.ofNat (tell8 s))) ∧ Blk w' p (rdrL s 8 0) ∧ Fr [p] w w':=by
 have Hb:=hid (get64_any s h hs hm)
 go_enter Tryz.func97,Tryz.ntmps97
 go_wp2_with fail
 refine Hb.out.mono ?_
 rintro e w1 ⟨rfl,b1,f1⟩
 go_wp2_with fail
 go_ret
 exact ⟨rfl,b1,f1⟩
end Go.Proofs.YtgafefecookgaaaGreat.mir
namespace Go.Proofs.YtgafefecookgaaaGreat
open Go Go.Proofs Go.Shelf
set_option linter.unusedVariables false
def shf_lays105_ren : Go.Shelf.Ren:=⟨fun | 105 => 87 | 212 => 115 | 99 => 116 | 165 => 117 | 166 => 118 | 170 => 119 | 169 => 120 | 263 => 131 | 264 => 132 | 206 => 133 | 240 => 134 | 241 => 135 | 276 => 144 | 277 => 145 | n => n,fun | 9 => 9 | 3 => 3 | 4 => 4 | 20 => 20 | 0 => 0 | 46 => 161 | 109 => 162 | 5 => 5 | 72 => 167 | 76 => 170 | 51 => 137 | 146 => 194 | 53 => 109 | 148 => 196 | 70 => 165 | 37 => 119 | 75 => 169 | 127 => 198 | 164 => 203 | 80 => 72 | n => n,fun | n => n⟩
theorem shf_lays105 : Go.Proofs.Lays.n105 Tryz.prog shf_lays105_ren:={
 mixed:=by kernel_rfl
 f99:=Tryz.func116.trans (congrArg some (by kernel_rfl))
 f105:=Tryz.func87.trans (congrArg some (by kernel_rfl))
 f165:=Tryz.func117.trans (congrArg some (by kernel_rfl))
 f166:=Tryz.func118.trans (congrArg some (by kernel_rfl))
 f169:=Tryz.func120.trans (congrArg some (by kernel_rfl))
 f170:=Tryz.func119.trans (congrArg some (by kernel_rfl))
 f206:=Tryz.func133.trans (congrArg some (by kernel_rfl))
 f212:=Tryz.func115.trans (congrArg some (by kernel_rfl))
 f240:=Tryz.func134.trans (congrArg some (by kernel_rfl))
 f241:=Tryz.func135.trans (congrArg some (by kernel_rfl))
 f263:=Tryz.func131.trans (congrArg some (by kernel_rfl))
 f264:=Tryz.func132.trans (congrArg some (by kernel_rfl))
 f276:=Tryz.func144.trans (congrArg some (by kernel_rfl))
 f277:=Tryz.func145.trans (congrArg some (by kernel_rfl))
 t0:=Tryz.underlying0
 a0:=Tryz.isAgg0
 z0:=Tryz.sizeOf0
 v0:=Tryz.zeroValue0
 t3:=Tryz.underlying3
 a3:=Tryz.isAgg3
 z3:=Tryz.sizeOf3
 v3:=Tryz.zeroValue3
 t4:=Tryz.underlying4
 a4:=Tryz.isAgg4
 z4:=Tryz.sizeOf4
 v4:=Tryz.zeroValue4
 t5:=Tryz.underlying5
 a5:=Tryz.isAgg5
 z5:=Tryz.sizeOf5
 v5:=Tryz.zeroValue5
 t9:=Tryz.underlying9
 a9:=Tryz.isAgg9
 z9:=Tryz.sizeOf9
 v9:=Tryz.zeroValue9
 t20:=Tryz.underlying20
 a20:=Tryz.isAgg20
 z20:=Tryz.sizeOf20
 v20:=Tryz.zeroValue20
 t37:=Tryz.underlying119
 a37:=Tryz.isAgg119
 z37:=Tryz.sizeOf119
 v37:=Tryz.zeroValue119
 t46:=Tryz.underlying161
 a46:=Tryz.isAgg161
 z46:=Tryz.sizeOf161
 v46:=Tryz.zeroValue161
 t51:=Tryz.underlying137
 a51:=Tryz.isAgg137
 z51:=Tryz.sizeOf137
 v51:=Tryz.zeroValue137
 t53:=Tryz.underlying109
 a53:=Tryz.isAgg109
 z53:=Tryz.sizeOf109
 v53:=Tryz.zeroValue109
 t70:=Tryz.underlying165
 a70:=Tryz.isAgg165
 z70:=Tryz.sizeOf165
 v70:=Tryz.zeroValue165
 t72:=Tryz.underlying167
 a72:=Tryz.isAgg167
 z72:=Tryz.sizeOf167
 v72:=Tryz.zeroValue167
 t75:=Tryz.underlying169
 a75:=Tryz.isAgg169
 z75:=Tryz.sizeOf169
 v75:=Tryz.zeroValue169
 t76:=Tryz.underlying170
 a76:=Tryz.isAgg170
 z76:=Tryz.sizeOf170
 v76:=Tryz.zeroValue170
 t109:=Tryz.underlying162
 a109:=Tryz.isAgg162
 z109:=Tryz.sizeOf162
 v109:=Tryz.zeroValue162
 t127:=Tryz.underlying198
 a127:=Tryz.isAgg198
 z127:=Tryz.sizeOf198
 v127:=Tryz.zeroValue198
 t146:=Tryz.underlying194
 a146:=Tryz.isAgg194
 z146:=Tryz.sizeOf194
 v146:=Tryz.zeroValue194
 t148:=Tryz.underlying196
 a148:=Tryz.isAgg196
 z148:=Tryz.sizeOf196
 v148:=Tryz.zeroValue196
 t164:=Tryz.underlying203
 a164:=Tryz.isAgg203
 z164:=Tryz.sizeOf203
 v164:=Tryz.zeroValue203 }
theorem shf_Builder_Extra_105 : Builder.Extra Tryz.prog shf_lays105_ren:={
 sizeBuilder:=by kernel_rfl
 liesBuilder:=by kernel_rfl
 t5:=Tryz.underlying5
 a5:=Tryz.isAgg5
 z5:=Tryz.sizeOf5
 v5:=Tryz.zeroValue5
 infoByte:=by kernel_rfl
 cellsByte:=by kernel_rfl
 sizeByte:=by kernel_rfl
 neB5:=by decide }
open Go.RowKit Go.Lib in
theorem shf_strings_Repeat_main (s : ByteArray) (c : Nat) (w : World) (hc2 : 2 ≤ c) (hc : c ≤ 9223372036854775807) (hlen : s.size * c ≤ 140737488355328) (h0 : 0 < s.size) :
 Calls Tryz.prog 87 #[.string s,.int .i64 c] w fun e w' => e = .returned (.string ⟨(Lib.repeatL s.data.toList c).toArray⟩) ∧ Below w.heap.size w w':=Any.strings_Repeat_main shf_lays105 shf_Builder_Extra_105 s c w hc2 hc hlen h0
end Go.Proofs.YtgafefecookgaaaGreat
namespace Go.Xr
open Go
theorem repeatL_zero (c : Nat) : Lib.repeatL [0] c = List.replicate c 0:=by
 induction c with
 | zero => rfl
 | succ c ih => rw [Lib.repeatL,ih];rfl
end Go.Xr
namespace Go.Proofs.YtgafefecookgaaaGreat
open Go Go.Xr Go.RowKit
def supH (gen : UInt64) (n : Nat) : ByteArray:=(⟨#[67,79,70,77]⟩ ++ ⟨(leN gen.toNat 8).toArray⟩) ++ ⟨(leN n 4).toArray⟩
def supS (gen : UInt64) (n : Nat) : ByteArray:=(supH gen n ++ shaS (supH gen n)) ++ ⟨(List.replicate 464 0).toArray⟩
theorem supH_size (gen : UInt64) (n : Nat) : (supH gen n).size = 16:=by
 unfold supH
 rw [ByteArray.size_append,ByteArray.size_append,size_mk' (leN gen.toNat 8),size_mk' (leN n 4),leN_len,leN_len]
 rfl
theorem supH2_size (gen : UInt64) (n : Nat) : (supH gen n ++ shaS (supH gen n)).size = 48:=by
 rw [ByteArray.size_append,supH_size,shaS_size]
theorem supS_size (gen : UInt64) (n : Nat) : (supS gen n).size = 512:=by
 unfold supS
 rw [ByteArray.size_append,supH2_size,size_mk',List.length_replicate]
theorem cvi_32 (w : World) (n : Nat) (h : n ≤ 4294967295) : (convert 3 137 (.int .i64 (n : Int))).run Tryz.prog w = .ok (W32 (UInt32.ofNat n)) w:=by
 have e : Value.int .u32 (IntKind.u32.wrap (n : Int)) = W32 (UInt32.ofNat n):=by
  rw [wrap_u32']
  unfold W32
  refine congrArg (Value.int _) ?_
  rw [UInt32.toNat_ofNat']
  omega
 simp only [convert,Sem.run_bind,run_underlying Tryz.underlying3,run_underlying Tryz.underlying137,Result.andThen_ok,Conv.intToInt,e,Sem.run_pure]
theorem super_any {w : World} (gen : UInt64) (n : Nat) (hn : n ≤ 16384) : Calls Tryz.prog 54 #[W64 gen,.int .i64 (n : Int)] w fun e w' => e = .returned (.string (supS gen n)) ∧ Fr [] w w':=by
 have hcv:=fun w : World => cvi_32 w n (by omega)
 have h4 : (UInt32.ofNat n).toNat = n:=by rw [UInt32.toNat_ofNat'];omega
 have H1:=hid (show (⟨#[67,79,70,77]⟩ ++ ⟨(leN gen.toNat 8).toArray⟩ ++ ⟨(leN n 4).toArray⟩ : ByteArray) = supH gen n from rfl)
 have H2:=hid (show (supH gen n ++ shaS (supH gen n)) ++ ⟨(List.replicate 464 0).toArray⟩ = supS gen n from rfl)
 have H3:=hid (supH_size gen n)
 have H4:=supH2_size gen n
 have h32:=fun w : World => rcd.u32_any (w:=w) (UInt32.ofNat n)
 rw [h4] at h32
 have h64:=fun w : World => rcd.u64_any (w:=w) gen
 have hrp:=fun w : World => shf_strings_Repeat_main ⟨#[0]⟩ 464 w (by decide) (by decide) (by decide) (by decide)
 rw [show (⟨#[0]⟩ : ByteArray).data.toList = [0] from rfl,repeatL_zero] at hrp
 have g1 : (⟨(leN gen.toNat 8).toArray⟩ : ByteArray).size ≤ 8:=by rw [size_mk',leN_len];omega
 have g2 : (⟨(leN n 4).toArray⟩ : ByteArray).size ≤ 4:=by rw [size_mk',leN_len];omega
 have g3 : (⟨(List.replicate 464 0).toArray⟩ : ByteArray).size ≤ 464:=by rw [size_mk',List.length_replicate];omega
 have g4 : (supH gen n).size ≤ 16:=by rw [supH_size];omega
 generalize supS gen n = Z at *
 generalize (⟨(List.replicate 464 0).toArray⟩ : ByteArray) = R at *
 generalize supH gen n = H at *
 generalize (⟨(leN gen.toNat 8).toArray⟩ : ByteArray) = G at *
 generalize (⟨(leN n 4).toArray⟩ : ByteArray) = M at *
 have g5 : (⟨#[67,79,70,77]⟩ ++ G ++ M : ByteArray).size ≤ 16:=by rw [H1.out];exact g4
 have hof:=fun w : World => of_any (w:=w) H (by omega)
 have g6 : (shaS H).size ≤ 32:=by rw [shaS_size];omega
 generalize shaS H = D at *
 have h48 : (⟨#[67,79,70,77]⟩ ++ G ++ M ++ D : ByteArray).size = 48:=by rw [H1.out];exact H4
 have HZ:=hid (show ⟨#[67,79,70,77]⟩ ++ G ++ M ++ D ++ R = Z by rw [H1.out,H2.out])
 rw [← H1.out] at hof
 clear H4 H3 g4 H1 H2
 go_enter Tryz.func54,Tryz.ntmps54
 go_wp2_with (first
  | (go_at_call 84;refine (h64 _).mono ?_;rintro e w1 ⟨rfl,f1⟩)
  | (go_at_call 85;refine (h32 _).mono ?_;rintro e w2 ⟨rfl,f2⟩)
  | (go_at_call 86;refine (hof _).mono ?_;rintro e w3 ⟨rfl,f3⟩)
  | (go_at_call 87;refine (hrp _).mono ?_;rintro e w4 ⟨rfl,f4⟩))
 go_ret
 rw [HZ.out]
 exact ⟨rfl,((f1.trans' f2).trans' f3).trans' (Fr.of_below f4 (Nat.le_refl _))⟩
def genS (s : ByteArray) : UInt64:=UInt64.ofNat (tell8 (s.extract 4 s.size))
section
variable {w : World} {d pb : Nat} {X : XD} {lf : Option Nat} {pc : Option (Nat × Nat)} {F : List Nat}
theorem cwrite_c (hc : Held w [Res.pow (mk pb lf),Res.disk d (dOf X) (mk pb lf) F]) (hX : XGood X) (hl : X.L.length < 1000000) (ht : X.Trace.length < 1000000) (I : Int) (h1 : -9223372036854775808 ≤ I) (h2 : I ≤ 9223372036854775807) (S : ByteArray) (hS : S.size ≤ 9223372036854775807) :
 Calls Tryz.prog 53 #[.pointer (some ⟨d,0,none⟩),.int .i64 I,.string S] w fun e w' => e = .returned (.int .i64 (wrC X lf I S)) ∧ ∃ F',Ev w [Res.pow (mk pb lf),Res.disk d (dOf X) (mk pb lf) F] w' [Res.pow (mk pb (wrL X lf I S)),Res.disk d (dOf (wrX X lf I S)) (mk pb (wrL X lf I S)) F']:=by
 rcases mayN_cases X (mk 0 lf) I S true with h3 | h3
 · obtain ⟨hd,⟨q,rfl,hq⟩,hs⟩:=mayN_ok h3
   have ha : ableN (dOf X) (mk pb lf) = 0:=by rw [ableN_mk X pb 0,hd];rfl
   have e1 : wrC X lf q S = 0:=h3
   have e2 : wrX X lf q S = { X with L:=X.L ++ [(q,S)],Trace:=X.Trace ++ [(q : Int)] }:=by unfold wrX;rw [if_pos e1,Int.toNat_natCast]
   have e3 : wrL X lf q S = lf.map (· - 1):=by unfold wrL;rw [if_pos e1]
   refine (write_ok (Held.rep hc) (Held.powOk hc) (Held.powNe hc) q (by simpa [dOf] using hq) S (hs rfl) ha (by simpa [dOf] using hl) (by simpa [dOf] using ht)).mono ?_
   rintro e w' ⟨rfl,F',hr,hp,f,hF⟩
   rw [e1,e2,e3,dOf_write X q S hq]
   rw [mk_dec] at hr hp
   exact ⟨rfl,F',(Held.cdisk hc hr hp (pwF_mk_dec pb lf) f hF)⟩
 · have h4 : atN (dOf X) (mk pb lf) I (some S) = mayN X (mk 0 lf) I S true:=atN_mk X pb 0 lf I S
   have hne : wrC X lf I S ≠ 0:=by show mayN X (mk 0 lf) I S true ≠ 0;rcases h3 with h | h <;> omega
   refine (write_err (Held.rep hc) (Held.powOk hc) I h1 h2 S hS _ h4 h3).mono ?_
   rintro e w' ⟨rfl,f⟩
   refine ⟨rfl,F,?_⟩
   unfold wrX wrL
   rw [if_neg hne,if_neg hne]
   exact Ev.idle hc f
theorem cflush_c (hc : Held w [Res.pow (mk pb lf),Res.disk d (dOf X) (mk pb lf) F]) (hX : XGood X) (ht : X.Trace.length < 1000000) :
 Calls Tryz.prog 56 #[.pointer (some ⟨d,0,none⟩)] w fun e w' => e = .returned (.int .i64 (flC X lf)) ∧ ∃ F',Ev w [Res.pow (mk pb lf),Res.disk d (dOf X) (mk pb lf) F] w' [Res.pow (mk pb (flL X lf)),Res.disk d (dOf (flX X lf)) (mk pb (flL X lf)) F']:=by
 have ha:=ableN_mk X pb 0 lf
 unfold flC flX flL
 cases hd : xdead X (mk 0 lf) with
 | true =>
   rw [hd] at ha
   refine (flush_err (Held.rep hc) (Held.powOk hc) ha).mono ?_
   rintro e w' ⟨rfl,rfl⟩
   exact ⟨rfl,F,Ev.refl hc⟩
 | false =>
   rw [hd] at ha
   refine (flush_ok (Held.rep hc) (Held.powOk hc) (Held.powNe hc) ha (by simpa [dOf] using ht)).mono ?_
   rintro e w' ⟨rfl,F',hr,hp,f,hF⟩
   rw [mk_dec] at hr hp
   have e1 : flushed (dOf X) = dOf { X with Kept:=setX X.Kept X.L,L:=[],Trace:=X.Trace ++ [-1] }:=(dOf_flush X).symm
   rw [e1] at hr
   exact ⟨rfl,F',(Held.cdisk hc hr hp (pwF_mk_dec pb lf) f hF)⟩
theorem cfail_c (hc : Held w [Res.pow pc,Res.disk d (dOf X) pc F]) :
 Calls Tryz.prog 7 #[.pointer (some ⟨d,0,none⟩)] w fun e w' => e = .returned (.int .i64 0) ∧ ∃ F',Ev w [Res.pow pc,Res.disk d (dOf X) pc F] w' [Res.pow pc,Res.disk d (dOf (faX X)) pc F']:=by
 refine (fail_ok (Held.rep hc)).mono ?_
 rintro e w' ⟨rfl,F',hr,f,hF⟩
 rw [← dOf_fail] at hr
 have hp : pwOk w' pc:=(On.pow (Held.powOk hc)).loc w w' (fun b hb hlt => f.block b hlt (Held.powNe hc b hb)) (Held.powOk hc)
 exact ⟨rfl,F',(Held.cdisk hc hr hp rfl (f.mono (fun y hy => .inl (List.mem_append_left _ hy))) hF)⟩
theorem creplace_c (hc : Held w [Res.pow pc,Res.disk d (dOf X) pc F]) :
 Calls Tryz.prog 9 #[.pointer (some ⟨d,0,none⟩)] w fun e w' => e = .returned (.int .i64 (if X.Dead then 0 else 3)) ∧ Ev w [Res.pow pc,Res.disk d (dOf X) pc F] w' [Res.pow pc,Res.disk d (dOf { X with Dead:=false }) pc F]:=by
 cases hd : X.Dead with
 | true =>
   refine (replace_ok (Held.rep hc) hd).mono ?_
   rintro e w' ⟨rfl,hr,f⟩
   have hlt : d ∈ F:=by obtain ⟨kc,nc,lv,tv,k,n,L,T,hF,_⟩:=(Held.rep hc).open;rw [hF];simp [feet]
   have f2 : Fr F w w':=f.mono (fun y hy => .inl (by simp at hy;rw [hy];exact hlt))
   have hp : pwOk w' pc:=(On.pow (Held.powOk hc)).loc w w' (fun b hb hlt => f2.block b hlt (Held.powNe hc b hb)) (Held.powOk hc)
   exact ⟨rfl,(Held.cdisk hc hr hp rfl (f2.mono (fun y hy => .inl (List.mem_append_left _ hy))) (fun y hy => .inl hy))⟩
 | false =>
   refine (replace_no (Held.rep hc) hd).mono ?_
   rintro e w' ⟨rfl,rfl⟩
   have e1 : ({ X with Dead:=false } : XD) = X:=by cases X;cases hd;rfl
   rw [e1]
   exact ⟨rfl,Ev.refl hc⟩
theorem cread_c (hc : Held w [Res.pow (mk pb lf),Res.disk d (dOf X) (mk pb lf) F]) (hX : XGood X) (j : Int) (h1 : -9223372036854775808 ≤ j) (h2 : j ≤ 9223372036854775807) :
 Calls Tryz.prog 95 #[.pointer (some ⟨d,0,none⟩),.int .i64 j] w fun e w' => e = .returned (.tuple #[.string (rdS X lf j),.int .i64 (rdC X lf j)]) ∧ w' = w:=by
 have e0 : rdC X lf j = mayN X (mk 0 lf) j ⟨#[]⟩ false:=rfl
 rcases mayN_cases X (mk 0 lf) j ⟨#[]⟩ false with h3 | h3
 · obtain ⟨hd,⟨q,rfl,hq⟩,_⟩:=mayN_ok h3
   have hq' : q < (dOf X).now.length:=by have:=nowL_len X;simpa [dOf] using (by omega : q < (nowL X).length)
   have ha : ableN (dOf X) (mk pb lf) = 0:=by rw [ableN_mk X pb 0,hd];rfl
   have:=read_ok (Held.rep hc) (Held.powOk hc) q hq' ha
   refine this.mono ?_
   rintro e w' ⟨rfl,rfl⟩
   refine ⟨?_,rfl⟩
   have e1 : (dOf X).now[q] = (nowX X.L q X.Kept[q]).data.toList:=nowL_get X q hq
   have e2 : rdS X lf (q : Int) = nowX X.L q X.Kept[q]:=by
    unfold rdS
    rw [if_pos h3,Int.toNat_natCast]
    simp [hq]
   rw [e1,e0,h3,e2]
 · have h4 : atN (dOf X) (mk pb lf) j none = mayN X (mk 0 lf) j ⟨#[]⟩ false:=atN_mk0 X pb 0 lf j _
   have:=read_err (Held.rep hc) (Held.powOk hc) j h1 h2 _ h4 h3
   refine this.mono ?_
   rintro e w' ⟨rfl,rfl⟩
   have e2 : rdS X lf j = ⟨#[]⟩:=by
    unfold rdS
    rw [if_neg (by rcases h3 with h | h <;> omega)]
   rw [e0,e2]
   exact ⟨rfl,rfl⟩
theorem clen_c (hc : Held w [Res.pow pc,Res.disk d (dOf X) pc F]) : Calls Tryz.prog 55 #[.pointer (some ⟨d,0,none⟩)] w fun e w' => e = .returned (.int .i64 (X.Kept.length : Int)) ∧ w' = w:=by
 have:=dlen_any (Held.rep hc)
 rw [show (dOf X).kept.length = X.Kept.length by simp [dOf]] at this
 exact this
theorem cdead_c (hc : Held w [Res.pow pc,Res.disk d (dOf X) pc F]) : Calls Tryz.prog 16 #[.pointer (some ⟨d,0,none⟩)] w fun e w' => e = .returned (.bool X.Dead) ∧ w' = w:=dead_any (Held.rep hc)
end
structure Sys where
 X0 : XD
 X1 : XD
 k0 : Option Nat
 k1 : Option Nat
 L : List Nat
def Sys.X (s : Sys) (b : Bool) : XD:=if b then s.X1 else s.X0
def Sys.k (s : Sys) (b : Bool) : Option Nat:=if b then s.k1 else s.k0
def lfk (L : List Nat) (k : Option Nat) : Option Nat:=k.map fun j => L.getD j 0
def setk (L : List Nat) : Option Nat → Option Nat → List Nat
 | some j,some n => L.set j n
 | _,_ => L
def pbk (pbs : List Nat) (k : Option Nat) : Nat:=pbs.getD (k.getD 0) 0
def Sys.lf (s : Sys) (b : Bool) : Option Nat:=lfk s.L (s.k b)
def Sys.put (s : Sys) (b : Bool) (X : XD) (lf : Option Nat) : Sys :=
 { X0:=if b then s.X0 else X,X1:=if b then X else s.X1,k0:=s.k0,k1:=s.k1,L:=setk s.L (s.k b) lf }
structure SysOk (s : Sys) : Prop where
 g : ∀ b,XGood (s.X b)
 k : ∀ b j,s.k b = some j → j < s.L.length
def Sys.T (s : Sys) : Nat:=s.X0.L.length + s.X0.Trace.length + s.X1.L.length + s.X1.Trace.length
def Res.pows (pbs L : List Nat) : Res:=⟨pbs,fun w => pbs.length = L.length ∧ ∀ (j b n : Nat),pbs[j]? = some b → L[j]? = some n → pwOk w (some (b,n))⟩
def dk (d : Nat) (X : XD) (pbs : List Nat) (k : Option Nat) (F : List Nat) : Res:=⟨F,fun w => Rep w d (dOf X) (k.map fun j => (pbs.getD j 0,0)) F ∧ Pln w d⟩
theorem nodup_inj {l : List Nat} (h : l.Nodup) {i j : Nat} (hi : i < l.length) (hj : j < l.length) (e : l[i] = l[j]) : i = j:=by
 have hp:=List.pairwise_iff_getElem.1 h
 rcases Nat.lt_trichotomy i j with h1 | h1 | h1
 · exact absurd e (hp i j hi hj h1)
 · exact h1
 · exact absurd e.symm (hp j i hj hi h1)
theorem rep_left (d : Nat) (X : XD) (pbs : List Nat) (k lf : Option Nat) (h : lf.isSome = k.isSome) (F : List Nat) (w : World) : Rep w d (dOf X) (k.map fun j => (pbs.getD j 0,0)) F ↔ Rep w d (dOf X) (mk (pbk pbs k) lf) F:=by
 cases k with
 | none =>
   cases lf with
   | none => exact Iff.rfl
   | some n => cases h
 | some j =>
   cases lf with
   | none => cases h
   | some n => exact ⟨fun h => ⟨h.good,h.mem⟩,fun h => ⟨h.good,h.mem⟩⟩
theorem rep_mem {w : World} {d : Nat} {D : SD} {pw : Option (Nat × Nat)} {F : List Nat} (h : Rep w d D pw F) : d ∈ F:=by
 obtain ⟨kc,nc,lv,tv,k,n,L,T,hF,_⟩:=h.open
 rw [hF]
 simp [feet]
theorem On.dk {w : World} {d : Nat} {X : XD} {pbs : List Nat} {k lf : Option Nat} {F : List Nat} (h : Rep w d (dOf X) (mk (pbk pbs k) lf) F) (hl : lf.isSome = k.isSome) (hp : Pln w d) : (dk d X pbs k F).On w:=by
 have h1:=(rep_left d X pbs k lf hl F w).2 h
 have o:=On.disk h1
 exact ⟨fun w w' hs h => ⟨o.loc w w' hs h.1,h.2.same (hs d (rep_mem h.1) h.2.lt)⟩,⟨h1,hp⟩,o.lt,o.nodup⟩
theorem pows_loc {w w' : World} {pbs L : List Nat} (hs : ∀ b ∈ pbs,b < w.heap.size → w'.heap[b]? = w.heap[b]?) (h : (Res.pows pbs L).P w) : (Res.pows pbs L).P w':=by
 refine ⟨h.1,fun j b n hb hn => ?_⟩
 have h1:=h.2 j b n hb hn
 exact ⟨h1.1.same (hs b (List.mem_of_getElem? hb) h1.1.lt),h1.2⟩
section
variable {w w' : World} {pbs L : List Nat} {d : Nat} {X X' : XD} {k lf' : Option Nat} {F F' : List Nat}
theorem one_op (h : Held w [Res.pows pbs L,dk d X pbs k F]) (hk : ∀ j,k = some j → j < L.length) : Held w [Res.pow (mk (pbk pbs k) (lfk L k)),Res.disk d (dOf X) (mk (pbk pbs k) (lfk L k)) F]:=by
 have hp:=h.at 0 rfl
 have h2 : Held w [Res.disk d (dOf X) (mk (pbk pbs k) (lfk L k)) F]:=Held.one (On.disk ((rep_left d X pbs k (lfk L k) (by cases k <;> rfl) F w).1 (h.at 1 rfl).1))
 cases k with
 | none => exact h2.new (pow0 w) (fun b hb => by cases hb)
 | some j =>
   have hj:=hk j rfl
   have hj' : j < pbs.length:=by rw [hp.1];exact hj
   have e1 : pbs.getD j 0 = pbs[j]:=by simp [hj']
   have e2 : L.getD j 0 = L[j]:=by simp [hj]
   refine h2.new (On.pow ?_) (fun b hb r hr => ?_)
   · show pwOk w (some (pbs.getD j 0,L.getD j 0))
     rw [e1,e2]
     exact hp.2 j _ _ (List.getElem?_eq_getElem hj') (List.getElem?_eq_getElem hj)
   · obtain rfl:=List.mem_singleton.1 hr
     have hb : b = pbs[j]:=by simpa [Res.pow,pwF,mk,lfk,pbk,hj'] using hb
     have:=h.idx_ne (i:=0) (j:=1) (by decide) rfl rfl b (by rw [hb];exact List.getElem_mem hj')
     exact this
theorem one_put (h : Held w [Res.pows pbs L,dk d X pbs k F]) (hk : ∀ j,k = some j → j < L.length) (hs : lf'.isSome = k.isSome)
 (ev : Ev w [Res.pow (mk (pbk pbs k) (lfk L k)),Res.disk d (dOf X) (mk (pbk pbs k) (lfk L k)) F] w' [Res.pow (mk (pbk pbs k) lf'),Res.disk d (dOf X') (mk (pbk pbs k) lf') F']) :
 Ev w [Res.pows pbs L,dk d X pbs k F] w' [Res.pows pbs (setk L k lf'),dk d X' pbs k F']:=by
 have hp:=h.at 0 rfl
 have hnd:=h.nodup1 (a:=Res.pows pbs L) (by simp)
 have hne:=h.idx_ne (i:=0) (j:=1) (by decide) rfl rfl
 have hlt : ∀ b ∈ pbs,b < w.heap.size:=h.lt (Res.pows pbs L) (by simp)
 have h0:=one_op h hk
 have hF : feetOf [Res.pow (mk (pbk pbs k) (lfk L k)),Res.disk d (dOf X) (mk (pbk pbs k) (lfk L k)) F] = pwF (mk (pbk pbs k) (lfk L k)) ++ F:=by simp [feetOf,Res.pow,Res.disk]
 have hF' : feetOf [Res.pow (mk (pbk pbs k) lf'),Res.disk d (dOf X') (mk (pbk pbs k) lf') F'] = pwF (mk (pbk pbs k) lf') ++ F':=by simp [feetOf,Res.pow,Res.disk]
 have hlow:=ev.low
 have hfr:=ev.fr
 rw [hF] at hlow hfr
 rw [hF'] at hlow
 have hpin : ∀ b ∈ pwF (mk (pbk pbs k) (lfk L k)),b ∈ pbs:=by
  intro b hb
  cases k with
  | none => cases hb
  | some j =>
    have hj' : j < pbs.length:=by rw [hp.1];exact hk j rfl
    have hb : b = pbs[j]:=by simpa [pwF,mk,lfk,pbk,hj'] using hb
    rw [hb]
    exact List.getElem_mem hj'
 have hd' : (dk d X' pbs k F').On w':=On.dk (Held.rep ev.held) hs (hfr.plain d (h.at 1 rfl).2)
 have hFn : ∀ b ∈ F',b ∈ F ∨ w.heap.size ≤ b:=by
  intro b hb
  rcases hlow b (List.mem_append_right _ hb) with h1 | h1
  · rcases List.mem_append.1 h1 with h2 | h2
    · have hb2:=Held.powNe ev.held b
      have e : pwF (mk (pbk pbs k) lf') = pwF (mk (pbk pbs k) (lfk L k)):=by
       cases k with
       | none => cases lf' with
         | none => rfl
         | some n => cases hs
       | some j => cases lf' with
         | none => cases hs
         | some n => rfl
      rw [e] at hb2
      exact absurd hb (hb2 h2)
    · exact .inl h2
  · exact .inr h1
 have hpow : (Res.pows pbs (setk L k lf')).On w':=by
  refine ⟨fun w w' hs h => pows_loc hs h,⟨?_,fun j b n hb hn => ?_⟩,fun b hb => Nat.lt_of_lt_of_le (hlt b hb) hfr.size,hnd⟩
  · rw [hp.1]
    unfold setk
    split <;> simp
  · by_cases hj : k = some j
    · subst hj
      cases lf' with
      | none => cases hs
      | some n' =>
        have hjl:=hk j rfl
        have e1 : (L.set j n')[j]? = some n':=by rw [List.getElem?_set_self hjl]
        have hn' : n = n':=by
         have : (L.set j n')[j]? = some n:=hn
         rw [e1] at this
         exact (Option.some.inj this).symm
        have hj' : j < pbs.length:=by rw [hp.1];exact hjl
        have e2 : pbk pbs (some j) = b:=by
         unfold pbk
         simp only [Option.getD_some,List.getD_eq_getElem?_getD,hb]
        have:=Held.powOk ev.held
        rw [e2] at this
        rw [hn']
        exact this
    · have hn2 : L[j]? = some n:=by
       unfold setk at hn
       split at hn
       · rename_i j' n'
         rw [List.getElem?_set_ne (fun e => hj (by rw [e]))] at hn
         exact hn
       · exact hn
      have h1:=hp.2 j b n hb hn2
      refine ⟨h1.1.same (hfr.block b h1.1.lt ?_),h1.2⟩
      intro hbm
      rcases List.mem_append.1 hbm with h2 | h2
      · cases k with
        | none => cases h2
        | some j' =>
          have hj' : j' < pbs.length:=by rw [hp.1];exact hk j' rfl
          have hb2 : b = pbs[j']:=by simpa [pwF,mk,lfk,pbk,hj'] using h2
          obtain ⟨hjl,hjb⟩:=List.getElem?_eq_some_iff.1 hb
          have : j = j':=nodup_inj hnd hjl hj' (hjb.trans hb2)
          exact hj (by rw [this])
      · exact hne b (List.mem_of_getElem? hb) h2
 refine ⟨(Held.one hd').new hpow fun b hb r hr => ?_,hfr.mono (fun y hy => .inl ?_),fun b hb => ?_⟩
 · obtain rfl:=List.mem_singleton.1 hr
   intro hb'
   rcases hFn b hb' with h1 | h1
   · exact hne b hb h1
   · have:=hlt b hb
     omega
 · have e : feetOf [Res.pows pbs L,dk d X pbs k F] = pbs ++ F:=by simp [feetOf,Res.pows,dk,Res.disk]
   rw [e]
   rcases List.mem_append.1 hy with h2 | h2
   · exact List.mem_append_left _ (hpin y h2)
   · exact List.mem_append_right _ h2
 · have e : feetOf [Res.pows pbs L,dk d X pbs k F] = pbs ++ F:=by simp [feetOf,Res.pows,dk,Res.disk]
   have e' : feetOf [Res.pows pbs (setk L k lf'),dk d X' pbs k F'] = pbs ++ F':=by simp [feetOf,Res.pows,dk,Res.disk]
   rw [e'] at hb
   rw [e]
   rcases List.mem_append.1 hb with h2 | h2
   · exact .inl (List.mem_append_left _ h2)
   · rcases hFn b h2 with h3 | h3
     · exact .inl (List.mem_append_right _ h3)
     · exact .inr h3
end
def sysC (pbs : List Nat) (s : Sys) (d : Bool → Nat) (FF : Bool → List Nat) : List Res :=
 [Res.pows pbs s.L,dk (d false) (s.X false) pbs (s.k false) (FF false),dk (d true) (s.X true) pbs (s.k true) (FF true)]
def Sys.wrC (s : Sys) (b : Bool) (I : Int) (S : ByteArray) : Int:=Go.Proofs.YtgafefecookgaaaGreat.wrC (s.X b) (s.lf b) I S
def Sys.wr (s : Sys) (b : Bool) (I : Int) (S : ByteArray) : Sys:=s.put b (wrX (s.X b) (s.lf b) I S) (wrL (s.X b) (s.lf b) I S)
def Sys.flC (s : Sys) (b : Bool) : Int:=Go.Proofs.YtgafefecookgaaaGreat.flC (s.X b) (s.lf b)
def Sys.fl (s : Sys) (b : Bool) : Sys:=s.put b (flX (s.X b) (s.lf b)) (flL (s.X b) (s.lf b))
def Sys.rdS (s : Sys) (b : Bool) (j : Int) : ByteArray:=Go.Proofs.YtgafefecookgaaaGreat.rdS (s.X b) (s.lf b) j
def Sys.rdC (s : Sys) (b : Bool) (j : Int) : Int:=Go.Proofs.YtgafefecookgaaaGreat.rdC (s.X b) (s.lf b) j
def Sys.len (s : Sys) (b : Bool) : Nat:=(s.X b).Kept.length
structure Stp (n : Nat) (s s' : Sys) : Prop where
 ok : SysOk s → SysOk s'
 T : SysOk s → s'.T ≤ s.T + n
 len : SysOk s → ∀ b,s'.len b = s.len b
theorem Stp.refl (s : Sys) : Stp 0 s s:=⟨id,fun _ => Nat.le_refl _,fun _ _ => rfl⟩
theorem Stp.trans {n m : Nat} {s s1 s2 : Sys} (h : Stp n s s1) (k : Stp m s1 s2) : Stp (n + m) s s2 :=
 ⟨fun o => k.ok (h.ok o),fun o => by have:=h.T o;have:=k.T (h.ok o);omega,fun o b => (k.len (h.ok o) b).trans (h.len o b)⟩
theorem Stp.mono {n m : Nat} {s s1 : Sys} (h : Stp n s s1) (hm : n ≤ m) : Stp m s s1:=⟨h.ok,fun o => by have:=h.T o;omega,h.len⟩
theorem put_X (s : Sys) (b : Bool) (X : XD) (lf : Option Nat) (c : Bool) : (s.put b X lf).X c = if c = b then X else s.X c:=by cases b <;> cases c <;> rfl
theorem put_k (s : Sys) (b : Bool) (X : XD) (lf : Option Nat) (c : Bool) : (s.put b X lf).k c = s.k c:=by cases b <;> cases c <;> rfl
theorem setk_len (L : List Nat) (k lf : Option Nat) : (setk L k lf).length = L.length:=by unfold setk;split <;> simp
theorem put_stp {s : Sys} {b : Bool} {X' : XD} {lf : Option Nat} {n : Nat} (hg : XGood (s.X b) → XGood X') (hl : XGood (s.X b) → X'.Kept.length = (s.X b).Kept.length) (hT : XGood (s.X b) → X'.L.length + X'.Trace.length ≤ (s.X b).L.length + (s.X b).Trace.length + n) : Stp n s (s.put b X' lf):=by
 refine ⟨fun o => ⟨fun c => ?_,fun c j hj => ?_⟩,fun o => ?_,fun o c => ?_⟩
 · rw [put_X]
   split
   · exact hg (o.g b)
   · exact o.g c
 · rw [put_k] at hj
   have:=o.k c j hj
   show j < (setk s.L (s.k b) lf).length
   rw [setk_len]
   exact this
 · have:=hT (o.g b)
   cases b
   · simp only [Sys.T,Sys.put,Sys.X] at this ⊢
     simp at this ⊢
     omega
   · simp only [Sys.T,Sys.put,Sys.X] at this ⊢
     simp at this ⊢
     omega
 · unfold Sys.len
   rw [put_X]
   split
   · rename_i e
     rw [e]
     exact hl (o.g b)
   · rfl
theorem wr_stp (s : Sys) (b : Bool) (I : Int) (S : ByteArray) : Stp 2 s (s.wr b I S):=by
 refine put_stp (fun g => (wr_nxt g (s.lf b) 0 0 I S).good) (fun g => (wr_nxt g (s.lf b) 0 0 I S).len) (fun g => ?_)
 have h1:=(wr_nxt g (s.lf b) 0 0 I S).L
 have h2:=(wr_nxt g (s.lf b) 0 0 I S).T
 omega
theorem fl_stp (s : Sys) (b : Bool) : Stp 2 s (s.fl b):=by
 refine put_stp (fun g => (fl_nxt g (s.lf b) 0 0).good) (fun g => (fl_nxt g (s.lf b) 0 0).len) (fun g => ?_)
 have h1:=(fl_nxt g (s.lf b) 0 0).L
 have h2:=(fl_nxt g (s.lf b) 0 0).T
 omega
section
variable {w w' w0 : World} {l rs : List Res} {pbs : List Nat} {s : Sys} {d : Bool → Nat} {FF : Bool → List Nat}
theorem sys_part (b : Bool) (h : Held w (l ++ sysC pbs s d FF)) : Held w [Res.pows pbs s.L,dk (d b) (s.X b) pbs (s.k b) (FF b)]:=by
 have h2 : Held w (sysC pbs s d FF):=Held.part l [] (by simpa using h)
 cases b
 · exact h2.pick [0,1] (by decide) rfl
 · exact h2.pick [0,2] (by decide) rfl
theorem sys_lift (b : Bool) (e : Ev w0 rs w (l ++ sysC pbs s d FF)) {X' : XD} {lf' : Option Nat} {F' : List Nat} (ev : Ev w [Res.pows pbs s.L,dk (d b) (s.X b) pbs (s.k b) (FF b)] w' [Res.pows pbs (setk s.L (s.k b) lf'),dk (d b) X' pbs (s.k b) F']) :
 Ev w0 rs w' (l ++ sysC pbs (s.put b X' lf') d (fun c => if c = b then F' else FF c)):=by
 cases b
 · have:=Ev.then l [dk (d true) (s.X true) pbs (s.k true) (FF true)] (by rw [List.append_assoc];exact e) ev
   rw [List.append_assoc] at this
   exact this
 · have p : (sysC pbs s d FF).Perm ([Res.pows pbs s.L,dk (d true) (s.X true) pbs (s.k true) (FF true)] ++ [dk (d false) (s.X false) pbs (s.k false) (FF false)]):=List.Perm.cons _ (List.Perm.swap _ _ _)
   have e1:=Ev.perm e (p.append_left l)
   have:=Ev.then l [dk (d false) (s.X false) pbs (s.k false) (FF false)] (by rw [List.append_assoc];exact e1) ev
   rw [List.append_assoc] at this
   exact Ev.perm this (List.Perm.append_left l (List.Perm.cons _ (List.Perm.swap _ _ _)))
theorem wrL_some (X : XD) (lf : Option Nat) (I : Int) (S : ByteArray) : (wrL X lf I S).isSome = lf.isSome:=by
 unfold wrL
 split
 · cases lf <;> rfl
 · rfl
theorem flL_some (X : XD) (lf : Option Nat) : (flL X lf).isSome = lf.isSome:=by
 unfold flL
 split
 · rfl
 · cases lf <;> rfl
theorem lf_some (s : Sys) (b : Bool) : (s.lf b).isSome = (s.k b).isSome:=by unfold Sys.lf lfk;cases s.k b <;> rfl
theorem T_le (s : Sys) (b : Bool) : (s.X b).L.length + (s.X b).Trace.length ≤ s.T:=by
 cases b
 · simp only [Sys.T,Sys.X];first | omega | (simp;done) | (simp;omega)
 · simp only [Sys.T,Sys.X];first | omega | (simp;done) | (simp;omega)
theorem sW (b : Bool) (h : Held w (l ++ sysC pbs s d FF)) (ok : SysOk s) (ht : s.T < 1000000) (I : Int) (h1 : -9223372036854775808 ≤ I) (h2 : I ≤ 9223372036854775807) (S : ByteArray) (hS : S.size ≤ 9223372036854775807) :
 Calls Tryz.prog 53 #[.pointer (some ⟨d b,0,none⟩),.int .i64 I,.string S] w fun e w' => e = .returned (.int .i64 (s.wrC b I S)) ∧ ∃ FF',Ev w (l ++ sysC pbs s d FF) w' (l ++ sysC pbs (s.wr b I S) d FF'):=by
 have hp:=sys_part b h
 have hT:=T_le s b
 refine (cwrite_c (one_op hp (ok.k b)) (ok.g b) (by omega) (by omega) I h1 h2 S hS).mono ?_
 rintro e w' ⟨rfl,F',ev⟩
 exact ⟨rfl,_,sys_lift b (Ev.refl h) (one_put hp (ok.k b) (by rw [wrL_some];exact lf_some s b) ev)⟩
theorem sF (b : Bool) (h : Held w (l ++ sysC pbs s d FF)) (ok : SysOk s) (ht : s.T < 1000000) :
 Calls Tryz.prog 56 #[.pointer (some ⟨d b,0,none⟩)] w fun e w' => e = .returned (.int .i64 (s.flC b)) ∧ ∃ FF',Ev w (l ++ sysC pbs s d FF) w' (l ++ sysC pbs (s.fl b) d FF'):=by
 have hp:=sys_part b h
 have hT:=T_le s b
 refine (cflush_c (one_op hp (ok.k b)) (ok.g b) (by omega)).mono ?_
 rintro e w' ⟨rfl,F',ev⟩
 exact ⟨rfl,_,sys_lift b (Ev.refl h) (one_put hp (ok.k b) (by rw [flL_some];exact lf_some s b) ev)⟩
theorem sR (b : Bool) (h : Held w (l ++ sysC pbs s d FF)) (ok : SysOk s) (j : Int) (h1 : -9223372036854775808 ≤ j) (h2 : j ≤ 9223372036854775807) :
 Calls Tryz.prog 95 #[.pointer (some ⟨d b,0,none⟩),.int .i64 j] w fun e w' => e = .returned (.tuple #[.string (s.rdS b j),.int .i64 (s.rdC b j)]) ∧ w' = w :=
 cread_c (one_op (sys_part b h) (ok.k b)) (ok.g b) j h1 h2
theorem sLen (b : Bool) (h : Held w (l ++ sysC pbs s d FF)) (ok : SysOk s) :
 Calls Tryz.prog 55 #[.pointer (some ⟨d b,0,none⟩)] w fun e w' => e = .returned (.int .i64 (s.len b : Int)) ∧ w' = w:=clen_c (one_op (sys_part b h) (ok.k b))
theorem sDead (b : Bool) (h : Held w (l ++ sysC pbs s d FF)) (ok : SysOk s) :
 Calls Tryz.prog 16 #[.pointer (some ⟨d b,0,none⟩)] w fun e w' => e = .returned (.bool (s.X b).Dead) ∧ w' = w:=cdead_c (one_op (sys_part b h) (ok.k b))
end
structure MS where
 s : Sys
 c0 : Bool
 c1 : Bool
 g : UInt64
def MS.c (M : MS) (b : Bool) : Bool:=if b then M.c1 else M.c0
def MS.off (M : MS) (b : Bool) : MS:={ M with c0:=if b then M.c0 else false,c1:=if b then false else M.c1 }
def MS.any (M : MS) : Bool:=M.c0 || M.c1
def MS.after (M : MS) (b : Bool) (e : Int) (s' : Sys) (lose : MS → MS) : MS:=if e = 0 then { M with s:=s' } else lose { M with s:=s' }
def MS.stampW (M : MS) (b : Bool) : MS:=M.after b (M.s.wrC b 0 (supS M.g (M.s.len b))) (M.s.wr b 0 (supS M.g (M.s.len b))) (·.off b)
def MS.flush1 (M : MS) (b : Bool) : MS:=if M.c b then M.after b (M.s.flC b) (M.s.fl b) (·.off b) else M
def MS.stamp1 (M : MS) (b : Bool) : MS:=(MS.stampW { M with g:=M.g + 1 } b).flush1 b
def MS.lose (M : MS) (b : Bool) : MS:=if (M.off b).c (!b) then (M.off b).stamp1 (!b) else M.off b
def MS.doW (M : MS) (I : Int) (S : ByteArray) (b : Bool) : MS:=if M.c b then M.after b (M.s.wrC b I S) (M.s.wr b I S) (·.lose b) else M
def MS.doF (M : MS) (b : Bool) : MS:=if M.c b then M.after b (M.s.flC b) (M.s.fl b) (·.lose b) else M
def MS.doS (M : MS) (b : Bool) : MS:=if M.c b then M.after b (M.s.wrC b 0 (supS M.g (M.s.len b))) (M.s.wr b 0 (supS M.g (M.s.len b))) (·.lose b) else M
def MS.eachW (M : MS) (I : Int) (S : ByteArray) : MS:=(M.doW I S false).doW I S true
def MS.eachF (M : MS) : MS:=(M.doF false).doF true
def MS.eachS (M : MS) : MS:=(M.doS false).doS true
def MS.leftC (M : MS) : Int:=if M.any then 0 else 70
theorem off_c (M : MS) (b c : Bool) : (M.off b).c c = if c = b then false else M.c c:=by cases b <;> cases c <;> rfl
theorem after_stp {M : MS} {b : Bool} {e : Int} {s' : Sys} {lose : MS → MS} {n m : Nat} (h : Stp n M.s s') (hl : Stp m s' (lose { M with s:=s' }).s) : Stp (n + m) M.s (M.after b e s' lose).s:=by
 unfold MS.after
 split
 · exact h.mono (by omega)
 · exact h.trans hl
theorem stampW_stp (M : MS) (b : Bool) : Stp 2 M.s (M.stampW b).s:=after_stp (m:=0) (wr_stp _ _ _ _) (Stp.refl _)
theorem flush1_stp (M : MS) (b : Bool) : Stp 2 M.s (M.flush1 b).s:=by
 unfold MS.flush1
 split
 · exact after_stp (m:=0) (fl_stp _ _) (Stp.refl _)
 · exact (Stp.refl _).mono (by omega)
theorem stamp1_stp (M : MS) (b : Bool) : Stp 4 M.s (M.stamp1 b).s:=(stampW_stp { M with g:=M.g + 1 } b).trans (flush1_stp _ b)
theorem lose_stp (M : MS) (b : Bool) : Stp 4 M.s (M.lose b).s:=by
 unfold MS.lose
 split
 · exact stamp1_stp (M.off b) _
 · exact (Stp.refl _).mono (by omega)
theorem doW_stp (M : MS) (I : Int) (S : ByteArray) (b : Bool) : Stp 6 M.s (M.doW I S b).s:=by
 unfold MS.doW
 split
 · exact after_stp (m:=4) (wr_stp _ _ _ _) (lose_stp { M with s:=_ } _)
 · exact (Stp.refl _).mono (by omega)
theorem doF_stp (M : MS) (b : Bool) : Stp 6 M.s (M.doF b).s:=by
 unfold MS.doF
 split
 · exact after_stp (m:=4) (fl_stp _ _) (lose_stp { M with s:=_ } _)
 · exact (Stp.refl _).mono (by omega)
theorem doS_stp (M : MS) (b : Bool) : Stp 6 M.s (M.doS b).s:=by
 unfold MS.doS
 split
 · exact after_stp (m:=4) (wr_stp _ _ _ _) (lose_stp { M with s:=_ } _)
 · exact (Stp.refl _).mono (by omega)
theorem lose0 {M : MS} {b : Bool} (h : M.c (!b) = false) : M.lose b = M.off b:=by
 unfold MS.lose
 rw [off_c,h]
 cases b <;> rfl
theorem doS_off {M : MS} {b : Bool} (h : M.c b = false) : M.doS b = M:=by unfold MS.doS;rw [h];rfl
theorem doF_off {M : MS} {b : Bool} (h : M.c b = false) : M.doF b = M:=by unfold MS.doF;rw [h];rfl
theorem doS_one {M : MS} {b : Bool} (hb : M.c b = true) (h : M.c (!b) = false) : M.doS b = M.stampW b:=by
 unfold MS.doS MS.stampW MS.after
 rw [hb,if_pos rfl]
 split
 · rfl
 · exact lose0 (M:={ M with s:=_ }) h
theorem doF_one {M : MS} {b : Bool} (h : M.c (!b) = false) : M.doF b = M.flush1 b:=by
 unfold MS.doF MS.flush1 MS.after
 split
 · split
   · rfl
   · exact lose0 (M:={ M with s:=_ }) h
 · rfl
theorem stampW_c (M : MS) (b : Bool) : (M.stampW b).c (!b) = M.c (!b):=by
 unfold MS.stampW MS.after
 split
 · rfl
 · rw [off_c]
   cases b <;> rfl
theorem flush1_c (M : MS) (b : Bool) : (M.flush1 b).c (!b) = M.c (!b):=by
 unfold MS.flush1 MS.after
 split
 · split
   · rfl
   · rw [off_c]
     cases b <;> rfl
 · rfl
theorem stamp1_each {M : MS} {b : Bool} (hb : M.c b = true) (hn : M.c (!b) = false) : (MS.eachS { M with g:=M.g + 1 }).eachF = M.stamp1 b:=by
 have h1 : MS.eachS { M with g:=M.g + 1 } = MS.stampW { M with g:=M.g + 1 } b:=by
  unfold MS.eachS
  cases b
  · rw [doS_one (M:={ M with g:=M.g + 1 }) hb hn]
    exact doS_off (by have:=stampW_c { M with g:=M.g + 1 } false;exact this.trans hn)
  · rw [doS_off (M:={ M with g:=M.g + 1 }) (b:=false) hn]
    exact doS_one (M:={ M with g:=M.g + 1 }) (b:=true) hb hn
 have h2 : (MS.stampW { M with g:=M.g + 1 } b).c (!b) = false:=(stampW_c _ b).trans hn
 rw [h1]
 unfold MS.stamp1 MS.eachF
 generalize MS.stampW { M with g:=M.g + 1 } b = M2 at *
 cases b
 · rw [doF_one (b:=false) h2]
   exact doF_off ((flush1_c M2 false).trans h2)
 · rw [doF_off (b:=false) h2]
   exact doF_one (b:=true) h2
def mirL (d : Bool → Nat) (M : MS) : List Value:=[.pointer (some ⟨d false,0,none⟩),.pointer (some ⟨d true,0,none⟩),.bool M.c0,.bool M.c1,W64 M.g]
def mirR (m : Nat) (d : Bool → Nat) (M : MS) : Res:=⟨[m],fun w => Blk w m (mirL d M) ∧ Pln w m⟩
theorem mirR_on {w : World} {m : Nat} {d : Bool → Nat} {M : MS} (hb : Blk w m (mirL d M)) (hp : Pln w m) : (mirR m d M).On w :=
 ⟨fun w w' hs h => ⟨h.1.same (hs m (List.mem_singleton.2 rfl) h.1.lt),h.2.same (hs m (List.mem_singleton.2 rfl) h.1.lt)⟩,⟨hb,hp⟩,fun b hb2 => by
  obtain rfl:=List.mem_singleton.1 hb2
  exact hb.lt,List.pairwise_singleton _ _⟩
def mirC (pbs : List Nat) (m : Nat) (d : Bool → Nat) (FF : Bool → List Nat) (M : MS) : List Res:=mirR m d M :: sysC pbs M.s d FF
theorem boolsT : AggT Tryz.prog 108 2:=⟨_,Tryz.underlying108,rfl,rfl⟩
theorem disksT : AggT Tryz.prog 110 2:=⟨_,Tryz.underlying110,rfl,rfl⟩
theorem eqb (a b : Bool) (w : World) : (Op.equalIn 9999 4 (.bool a) (.bool b)).run Tryz.prog w = .ok (a == b) w:=by
 rw [show (9999 : Nat) = 9998 + 1 from rfl,Op.equalIn]
 simp [Sem.run_bind,run_underlying Tryz.underlying4]
theorem eq_bools (a b : Bool) (w : World) : (Op.equalIn 10000 108 (.agg #[.bool a,.bool b]) (.agg #[.bool false,.bool false])).run Tryz.prog w = .ok (!a && !b) w:=by
 have hsz : ∀ w,(sizeOf 4).run Tryz.prog w = .ok 1 w:=fun w => rfl
 rw [show (10000 : Nat) = 9999 + 1 from rfl,Op.equalIn]
 simp only [Sem.run_bind,run_underlying Tryz.underlying108,Result.andThen_ok,hsz,Std.Legacy.Range.forIn_eq_forIn_range',Std.Legacy.Range.size,Nat.sub_zero,Nat.add_sub_cancel,Nat.div_one]
 have px : ∀ (vs : Array Value) (i : Nat) (v : Value),vs[i]? = some v → (part 4 vs (i * 1)).run Tryz.prog w = .ok v w:=by
  intro vs i v h
  simp [part,isAgg,run_underlying Tryz.underlying4,h]
 have h0:=px #[.bool a,.bool b] 0 (.bool a) rfl
 have h1:=px #[.bool a,.bool b] 1 (.bool b) rfl
 have g0:=px #[.bool false,.bool false] 0 (.bool false) rfl
 have g1:=px #[.bool false,.bool false] 1 (.bool false) rfl
 rw [show List.range' 0 2 1 = [0,1] from rfl]
 simp only [List.forIn_cons,List.forIn_nil,Sem.run_bind,h0,h1,g0,g1,eqb,Result.andThen_ok]
 cases a <;> cases b <;> simp [Sem.run_bind,h1,g1,eqb]
section
variable {w w' w0 : World} {l rs : List Res} {pbs : List Nat} {m : Nat} {M M' : MS} {d : Bool → Nat} {FF FF' : Bool → List Nat}
theorem mir_sys (h : Held w (l ++ mirC pbs m d FF M)) : Held w ((l ++ [mirR m d M]) ++ sysC pbs M.s d FF):=by rw [List.append_assoc];exact h
theorem mir_blk (h : Held w (l ++ mirC pbs m d FF M)) : Blk w m (mirL d M):=(Held.part l (sysC pbs M.s d FF) (ps:=[mirR m d M]) (by rw [List.append_assoc];exact h)).at 0 rfl |>.1
theorem mir_pln (h : Held w (l ++ mirC pbs m d FF M)) : Pln w m:=(Held.part l (sysC pbs M.s d FF) (ps:=[mirR m d M]) (by rw [List.append_assoc];exact h)).at 0 rfl |>.2
theorem mir_ev {s' : Sys} (ev : Ev w ((l ++ [mirR m d M]) ++ sysC pbs M.s d FF) w' ((l ++ [mirR m d M]) ++ sysC pbs s' d FF')) : Ev w (l ++ mirC pbs m d FF M) w' (l ++ mirC pbs m d FF' { M with s:=s' }):=by
 rw [List.append_assoc,List.append_assoc] at ev
 exact ev
theorem mir_put (e : Ev w0 rs w (l ++ mirC pbs m d FF M)) (f : Fr [m] w w') (hb : Blk w' m (mirL d M')) (hs : M'.s = M.s) : Ev w0 rs w' (l ++ mirC pbs m d FF M'):=by
 have e2:=Ev.then l (sysC pbs M.s d FF) (ps:=[mirR m d M]) (by rw [List.append_assoc];exact e) ((Ev.refl (Held.part l (sysC pbs M.s d FF) (ps:=[mirR m d M]) (by rw [List.append_assoc];exact e.held))).at 0 rfl f (fun b hb => .inl hb) (mirR_on hb (f.plain m (mir_pln e.held))) (fun b hb => .inl hb))
 rw [List.append_assoc] at e2
 unfold mirC
 rw [hs]
 exact e2
theorem mW (b : Bool) (h : Held w (l ++ mirC pbs m d FF M)) (ok : SysOk M.s) (ht : M.s.T < 1000000) (I : Int) (h1 : -9223372036854775808 ≤ I) (h2 : I ≤ 9223372036854775807) (S : ByteArray) (hS : S.size ≤ 9223372036854775807) :
 Calls Tryz.prog 53 #[.pointer (some ⟨d b,0,none⟩),.int .i64 I,.string S] w fun e w' => e = .returned (.int .i64 (M.s.wrC b I S)) ∧ ∃ FF',Ev w (l ++ mirC pbs m d FF M) w' (l ++ mirC pbs m d FF' { M with s:=M.s.wr b I S }):=by
 refine (sW b (mir_sys h) ok ht I h1 h2 S hS).mono ?_
 rintro e w' ⟨rfl,FF',ev⟩
 exact ⟨rfl,FF',mir_ev ev⟩
theorem mF (b : Bool) (h : Held w (l ++ mirC pbs m d FF M)) (ok : SysOk M.s) (ht : M.s.T < 1000000) :
 Calls Tryz.prog 56 #[.pointer (some ⟨d b,0,none⟩)] w fun e w' => e = .returned (.int .i64 (M.s.flC b)) ∧ ∃ FF',Ev w (l ++ mirC pbs m d FF M) w' (l ++ mirC pbs m d FF' { M with s:=M.s.fl b }):=by
 refine (sF b (mir_sys h) ok ht).mono ?_
 rintro e w' ⟨rfl,FF',ev⟩
 exact ⟨rfl,FF',mir_ev ev⟩
theorem len_le (ok : SysOk M.s) (b : Bool) : M.s.len b ≤ 16384:=(ok.g b).le
theorem mleft_any (h : Held w (l ++ mirC pbs m d FF M)) : Calls Tryz.prog 105 #[.pointer (some ⟨m,0,none⟩)] w fun e w' => e = .returned (.int .i64 M.leftC) ∧ w' = w:=by
 have hb:=mir_blk h
 obtain ⟨s,c0,c1,g⟩:=M
 simp only [mirL] at hb
 clear h
 cases c0 <;> cases c1
 · have heq:=eq_bools
   go_enter Tryz.func105,Tryz.ntmps105
   go_wp2_with (refine wpList_load_ag rfl _ _ rfl rfl [.bool false,.bool false] hb boolsT rfl rfl ?_;simp only [aA,aB,Act.put,aC,aD,aE])
   go_ret
   exact ⟨rfl,rfl⟩
 · have heq:=eq_bools
   go_enter Tryz.func105,Tryz.ntmps105
   go_wp2_with (refine wpList_load_ag rfl _ _ rfl rfl [.bool false,.bool true] hb boolsT rfl rfl ?_;simp only [aA,aB,Act.put,aC,aD,aE])
   go_ret
   exact ⟨rfl,rfl⟩
 · have heq:=eq_bools
   go_enter Tryz.func105,Tryz.ntmps105
   go_wp2_with (refine wpList_load_ag rfl _ _ rfl rfl [.bool true,.bool false] hb boolsT rfl rfl ?_;simp only [aA,aB,Act.put,aC,aD,aE])
   go_ret
   exact ⟨rfl,rfl⟩
 · have heq:=eq_bools
   go_enter Tryz.func105,Tryz.ntmps105
   go_wp2_with (refine wpList_load_ag rfl _ _ rfl rfl [.bool true,.bool true] hb boolsT rfl rfl ?_;simp only [aA,aB,Act.put,aC,aD,aE])
   go_ret
   exact ⟨rfl,rfl⟩
end
section
variable {w w' w0 : World} {l rs : List Res} {pbs : List Nat} {m : Nat} {M M' : MS} {d : Bool → Nat} {FF FF' : Bool → List Nat}
def Box (l : List Res) (b : Nat) (v : Value) : Prop:=∀ (w : World) (r : List Res),Held w (l ++ r) → w.cell? ⟨b,0,none⟩ = some v
theorem clW_any (b : Bool) (h : Held w (l ++ mirC pbs m d FF M)) (ok : SysOk M.s) (ht : M.s.T < 1000000) (I : Nat) (hI : I ≤ 1000000) (S : ByteArray) (hS : S.size ≤ 9223372036854775807) {ib sb : Nat} (h1 : Box l ib (.int .i64 (I : Int))) (h2 : Box l sb (.string S)) :
 Calls Tryz.prog 100 #[.pointer (some ⟨d b,0,none⟩),.pointer (some ⟨ib,0,none⟩),.pointer (some ⟨sb,0,none⟩)] w fun e w' => e = .returned (.int .i64 (M.s.wrC b ((I : Int) + 1) S)) ∧ ∃ FF',Ev w (l ++ mirC pbs m d FF M) w' (l ++ mirC pbs m d FF' { M with s:=M.s.wr b ((I : Int) + 1) S }):=by
 have k1:=h1 _ _ h
 have k2:=h2 _ _ h
 have HW:=hid (mW b h ok ht ((I : Int) + 1) (by omega) (by omega) S hS)
 generalize M.s.wrC b ((I : Int) + 1) S = c at *
 generalize M.s.wr b ((I : Int) + 1) S = s' at *
 generalize d b = db at *
 clear h ok ht h1 h2
 go_enter Tryz.func100,Tryz.ntmps100
 go_wp2_with (go_at_call 53;refine HW.out.mono ?_;rintro e w5 ⟨rfl,FF5,v5⟩)
 go_ret
 exact ⟨rfl,FF5,v5⟩
theorem clS_any (b : Bool) (h : Held w (l ++ mirC pbs m d FF M)) (ok : SysOk M.s) (ht : M.s.T < 1000000) {mb : Nat} (h1 : Box l mb (.pointer (some ⟨m,0,none⟩))) :
 Calls Tryz.prog 138 #[.pointer (some ⟨d b,0,none⟩),.pointer (some ⟨mb,0,none⟩)] w fun e w' => e = .returned (.int .i64 (M.s.wrC b 0 (supS M.g (M.s.len b)))) ∧ ∃ FF',Ev w (l ++ mirC pbs m d FF M) w' (l ++ mirC pbs m d FF' { M with s:=M.s.wr b 0 (supS M.g (M.s.len b)) }):=by
 have HS : Hid (∀ (w1 : World) (FF : Bool → List Nat) (s : Sys),Held w1 (l ++ mirC pbs m d FF { M with s:=s }) → w1.cell? ⟨mb,0,none⟩ = some (.pointer (some ⟨m,0,none⟩)) ∧ w1.cell? ⟨m,4,none⟩ = some (W64 M.g)) :=
  hid fun w1 FF s h => ⟨h1 _ _ h,(mir_blk h).cell 4⟩
 have E0:=hid (show Ev w (l ++ mirC pbs m d FF M) w.drew (l ++ mirC pbs m d FF M) from (Ev.refl h).step (Fr.refl [] w).drew)
 have hs0:=HS.out w.drew FF M.s E0.out.held
 have HL:=hid (sLen b (mir_sys E0.out.held) ok)
 have HU:=hid fun w1 : World => super_any (w:=w1) M.g (M.s.len b) (len_le ok b)
 have HW:=hid fun (w1 : World) (h : Held w1 (l ++ mirC pbs m d FF M)) => mW b h ok ht 0 (by decide) (by decide) (supS M.g (M.s.len b)) (by rw [supS_size];decide)
 generalize supS M.g (M.s.len b) = S at *
 generalize M.s.len b = n at *
 generalize M.s.wrC b 0 S = c at *
 generalize M.s.wr b 0 S = s' at *
 generalize d b = db at *
 clear h ok ht h1
 go_enter Tryz.func138,Tryz.ntmps138
 go_wp2_with fail
 refine wp_region_D (fun w' => w'.cell? ⟨mb,0,none⟩ = some (.pointer (some ⟨m,0,none⟩)) ∧ w'.cell? ⟨m,4,none⟩ = some (W64 M.g)) false [] (by kernel_rfl) ?_
 refine WD.pure [5] (by kernel_rfl) hs0 ?_
 simp only [pick,aF,aG,aI,aJ,aK]
 repeat (first | go_big_quiet_step (fail))
 refine wpQuiet_nil ?_
 refine WD.free [0] (by kernel_rfl) hs0 ?_
 simp only [pick,aF,aG,aI,aJ,aK]
 repeat (first | go_big_quiet_step (fail))
 refine wpQuiet_nil ?_
 refine WD.held [1] (by kernel_rfl) hs0 ?_
 simp only [pick,aF,aG,aI,aJ,aK]
 repeat (first | (refine quiet_load_1R (by rfl) _ _ rfl rfl (.pointer (some ⟨m,0,none⟩)) (fun w0 h => h.1) _ Tryz.underlying105 rfl ?_;simp only [aA,aB,Act.put,aC,aD,aE]) | (refine quiet_load_1R (by rfl) _ _ rfl rfl (W64 M.g) (fun w0 h => h.2) _ Tryz.underlying109 rfl ?_;simp only [aA,aB,Act.put,aC,aD,aE]) | go_big_quiet_step (fail))
 refine wpQuiet_nil ?_
 refine WD.free [2,3] (by kernel_rfl) hs0 ?_
 simp only [pick,aF,aG,aI,aJ,aK]
 repeat (first | go_big_quiet_step (fail))
 refine wpQuiet_nil ?_
 refine WD.held [4] (by kernel_rfl) hs0 ?_
 simp only [pick,aF,aG,aI,aJ,aK]
 repeat (first | (refine quiet_load_1R (by rfl) _ _ rfl rfl (.pointer (some ⟨m,0,none⟩)) (fun w0 h => h.1) _ Tryz.underlying105 rfl ?_;simp only [aA,aB,Act.put,aC,aD,aE]) | (refine quiet_load_1R (by rfl) _ _ rfl rfl (W64 M.g) (fun w0 h => h.2) _ Tryz.underlying109 rfl ?_;simp only [aA,aB,Act.put,aC,aD,aE]) | go_big_quiet_step (fail))
 refine wpQuiet_nil ?_
 refine WD.eff 6 (by kernel_rfl) ?_
 simp only [pick,aF,aG,aI,aJ,aK]
 go_wp2_with (go_at_call 55;refine HL.out.mono ?_;rintro e w5 ⟨rfl,hw⟩;subst hw)
 try refine wpList_nil ?_
 refine AfterD.on hs0 (by kernel_rfl) ?_
 try simp only [aA,aB,Act.put,aC,aD,aE]
 refine WD.eff 7 (by kernel_rfl) ?_
 simp only [pick,aF,aG,aI,aJ,aK]
 go_wp2_with (go_at_call 54;refine (HU.out _).mono ?_;rintro e w6 ⟨rfl,f6⟩)
 have E6:=hid (E0.out.step f6)
 have hs6:=HS.out w6 FF M.s E6.out.held
 try refine wpList_nil ?_
 refine AfterD.on hs6 (by kernel_rfl) ?_
 try simp only [aA,aB,Act.put,aC,aD,aE]
 refine WD.eff 8 (by kernel_rfl) ?_
 simp only [pick,aF,aG,aI,aJ,aK]
 go_wp2_with (go_at_call 53;refine (HW.out _ E6.out.held).mono ?_;rintro e w7 ⟨rfl,FF7,v7⟩)
 have E7:=hid (E6.out.trans v7)
 have hs7:=HS.out w7 FF7 s' E7.out.held
 try refine wpList_nil ?_
 refine AfterD.on hs7 (by kernel_rfl) ?_
 try simp only [aA,aB,Act.put,aC,aD,aE]
 refine WD.pure [9] (by kernel_rfl) hs7 ?_
 simp only [pick,aF,aG,aI,aJ,aK]
 repeat (first | go_big_quiet_step (fail))
 refine wpQuiet_nil ?_
 refine WD.done (by kernel_rfl) ?_
 go_wp2_with fail
 go_ret
 exact ⟨rfl,FF7,E7.out⟩
def ixB (b : Bool) : Int:=if b then 1 else 0
theorem lose0_any (b : Bool) (h : Held w (l ++ mirC pbs m d FF M)) (hc : M.c (!b) = false) :
 Calls Tryz.prog 104 #[.pointer (some ⟨m,0,none⟩),.int .i64 (ixB b)] w fun e w' => e = .returned (.tuple #[]) ∧ Ev w (l ++ mirC pbs m d FF M) w' (l ++ mirC pbs m d FF (M.off b)):=by
 have hb:=mir_blk h
 have HH:=hid h
 obtain ⟨s,c0,c1,g⟩:=M
 clear h
 cases b
 · have hc' : c1 = false:=hc
   subst hc'
   simp only [mirL] at hb
   rw [show ixB false = 0 from rfl]
   have heq:=eq_bools
   go_enter Tryz.func104,Tryz.ntmps104
   go_wp2_with (first
    | (refine wpList_put rfl _ _ _ rfl rfl (.bool false) rfl rfl hb (by simp) (by kernel_rfl) ?_;intro w4 f4 b4 hs4;have b4' : Blk w4 m [.pointer (some ⟨d false,0,none⟩),.pointer (some ⟨d true,0,none⟩),.bool false,.bool false,W64 g]:=b4;simp only [aA,aB,Act.put,aC,aD,aE])
    | (refine wpList_load_ag rfl _ _ rfl rfl [.bool false,.bool false] b4' boolsT rfl rfl ?_;simp only [aA,aB,Act.put,aC,aD,aE]))
   go_end0
   exact ⟨rfl,mir_put (Ev.refl HH.out) f4 b4' rfl⟩
 · have hc' : c0 = false:=hc
   subst hc'
   simp only [mirL] at hb
   rw [show ixB true = 1 from rfl]
   have heq:=eq_bools
   go_enter Tryz.func104,Tryz.ntmps104
   go_wp2_with (first
    | (refine wpList_put rfl _ _ _ rfl rfl (.bool false) rfl rfl hb (by simp) (by kernel_rfl) ?_;intro w4 f4 b4 hs4;have b4' : Blk w4 m [.pointer (some ⟨d false,0,none⟩),.pointer (some ⟨d true,0,none⟩),.bool false,.bool false,W64 g]:=b4;simp only [aA,aB,Act.put,aC,aD,aE])
    | (refine wpList_load_ag rfl _ _ rfl rfl [.bool false,.bool false] b4' boolsT rfl rfl ?_;simp only [aA,aB,Act.put,aC,aD,aE]))
   go_end0
   exact ⟨rfl,mir_put (Ev.refl HH.out) f4 b4' rfl⟩
end
section
variable {w w' w0 : World} {l rs : List Res} {pbs : List Nat} {m : Nat} {M M' : MS} {d : Bool → Nat} {FF FF' : Bool → List Nat}
def LoseOk (lv : Bool) (B : Nat) (l : List Res) (pbs : List Nat) (m : Nat) (d : Bool → Nat) : Prop:=∀ (w1 : World) (b : Bool) (M1 : MS) (FF1 : Bool → List Nat),Held w1 (l ++ mirC pbs m d FF1 M1) → SysOk M1.s → M1.s.T < B → (lv = false → M1.c (!b) = false) →
 Calls Tryz.prog 104 #[.pointer (some ⟨m,0,none⟩),.int .i64 (ixB b)] w1 fun e w' => e = .returned (.tuple #[]) ∧ ∃ FF',Ev w1 (l ++ mirC pbs m d FF1 M1) w' (l ++ mirC pbs m d FF' (M1.lose b))
theorem loseOk0 (B : Nat) : LoseOk false B l pbs m d:=by
 intro w1 b M1 FF1 h ok ht hc
 rw [lose0 (hc rfl)]
 refine (lose0_any b h (hc rfl)).mono ?_
 rintro e w' ⟨rfl,ev⟩
 exact ⟨rfl,FF1,ev⟩
def MS.doG (e : MS → Bool → Int) (f : MS → Bool → Sys) (M : MS) (b : Bool) : MS:=if M.c b then M.after b (e M b) (f M b) (·.lose b) else M
def MS.doGN (e : MS → Bool → Int) (f : MS → Bool → Sys) (M : MS) : Nat → MS
 | 0 => M
 | 1 => M.doG e f false
 | _ => (M.doG e f false).doG e f true
theorem doG_stp {e : MS → Bool → Int} {f : MS → Bool → Sys} (hf : ∀ M b,Stp 2 M.s (f M b)) (M : MS) (b : Bool) : Stp 6 M.s (M.doG e f b).s:=by
 unfold MS.doG
 split
 · exact after_stp (m:=4) (hf M b) (lose_stp { M with s:=_ } _)
 · exact (Stp.refl _).mono (by omega)
theorem doG_on {e : MS → Bool → Int} {f : MS → Bool → Sys} {M : MS} {b : Bool} (h : M.c b = true) (he : e M b = 0) : M.doG e f b = { M with s:=f M b }:=by
 unfold MS.doG MS.after
 rw [if_pos h,if_pos he]
theorem doG_bad {e : MS → Bool → Int} {f : MS → Bool → Sys} {M : MS} {b : Bool} (h : M.c b = true) (he : e M b ≠ 0) : M.doG e f b = MS.lose { M with s:=f M b } b:=by
 unfold MS.doG MS.after
 rw [if_pos h,if_neg he]
theorem doG_skip {e : MS → Bool → Int} {f : MS → Bool → Sys} {M : MS} {b : Bool} (h : M.c b = false) : M.doG e f b = M:=by
 unfold MS.doG
 rw [h]
 rfl
theorem doG_c1 {e : MS → Bool → Int} {f : MS → Bool → Sys} {M : MS} (h : M.c1 = false) : (M.doG e f false).c1 = false:=by
 unfold MS.doG MS.after
 split
 · split
   · exact h
   · have hh : (MS.lose { M with s:=f M false } false).c1 = false:=by
      rw [lose0 (M:={ M with s:=f M false }) (b:=false) h]
      exact h
     exact hh
 · exact h
theorem doG_one {e : MS → Bool → Int} {f : MS → Bool → Sys} {M : MS} (h : M.c0 = true → M.c1 = false) (h1 : (M.doG e f false).c true = true) : (M.doG e f false).c (!true) = false:=by
 cases h0 : M.c0 with
 | true =>
   have h2 : (M.doG e f false).c1 = true:=h1
   rw [doG_c1 (h h0)] at h2
   cases h2
 | false =>
   rw [doG_skip (b:=false) h0]
   exact h0
theorem eachF_any (lv : Bool) {Bd : Nat} (hBd : Bd ≤ 999990) (HL : LoseOk lv Bd l pbs m d) (h : Held w (l ++ mirC pbs m d FF M)) (ok : SysOk M.s) (ht : M.s.T + 20 < Bd) (hlv : lv = false → M.c0 = true → M.c1 = false)  :
 Calls Tryz.prog 99 #[.pointer (some ⟨m,0,none⟩),.func (.func 56) #[] #[]] w fun e w' => e = .returned (.int .i64 (M.doGN (fun M b => M.s.flC b) (fun M b => M.s.fl b) 2).leftC) ∧ ∃ FF',Ev w (l ++ mirC pbs m d FF M) w' (l ++ mirC pbs m d FF' (M.doGN (fun M b => M.s.flC b) (fun M b => M.s.fl b) 2)):=by
 have hb:=mir_blk h
 have hb2 : Blk w m [.pointer (some ⟨d false,0,none⟩),.pointer (some ⟨d true,0,none⟩),.bool M.c0,.bool M.c1,W64 M.g]:=hb
 have HH:=hid h
 have HL':=hid HL
 have OK:=hid ok
 have HV:=hid hlv
 clear h hb HL ok hlv
 go_enter Tryz.func99,Tryz.ntmps99
 go_wp2_with (refine wpList_load_ag rfl _ _ rfl rfl [.pointer (some ⟨d false,0,none⟩),.pointer (some ⟨d true,0,none⟩)] hb2 disksT rfl rfl ?_;simp only [aA,aB,Act.put,aC,aD,aE])
 clear hb2
 go_loopw [11] (fun iv wr => (iv = .int .i64 0 ∧ ∃ FF',Ev w (l ++ mirC pbs m d FF M) wr (l ++ mirC pbs m d FF' M)) ∨ (iv = .int .i64 1 ∧ ∃ FF',Ev w (l ++ mirC pbs m d FF M) wr (l ++ mirC pbs m d FF' (M.doG (fun M b => M.s.flC b) (fun M b => M.s.fl b) false))) ∨ (iv = .int .i64 2 ∧ ∃ FF',Ev w (l ++ mirC pbs m d FF M) wr (l ++ mirC pbs m d FF' (M.doGN (fun M b => M.s.flC b) (fun M b => M.s.fl b) 2)))) (fun iv _ => 2 - (intOf iv).toNat)
 case atStart => exact .inl ⟨rfl,FF,Ev.refl HH.out⟩
 case round =>
  rcases hrel with ⟨rfl,FF1,ev⟩ | ⟨rfl,FF1,ev⟩ | ⟨rfl,FF1,ev⟩
  · have EV:=hid ev
    have H : Held wr (l ++ mirC pbs m d FF1 M):=ev.held
    have hbr : Blk wr m [.pointer (some ⟨d false,0,none⟩),.pointer (some ⟨d true,0,none⟩),.bool (M).c0,.bool (M).c1,W64 (M).g]:=mir_blk H
    have kc:=hbr.cell (2 + 0)
    clear ev
    cases hc : (M).c false with
    | false =>
      have kc' : wr.cell? ⟨m,2 + 0,none⟩ = some (.bool false):=by rw [← hc];exact kc
      clear kc hbr
      go_wp2_with (refine wpList_index_one rfl _ _ _ rfl 37 _ 2 Tryz.underlying110 Tryz.underlying37 rfl rfl [.pointer (some ⟨d false,0,none⟩),.pointer (some ⟨d true,0,none⟩)] rfl .i64 0 _ rfl rfl (.pointer (some ⟨d false,0,none⟩)) (by decide) rfl ?_;simp only [aA,aB,Act.put,aC,aD,aE])
      go_roundw
      case rel => exact (fun h => .inr (.inl h)) ⟨rfl,FF1,by have:=EV.out;show Ev _ _ _ (l ++ mirC pbs m d FF1 ((M).doG (fun M b => M.s.flC b) (fun M b => M.s.fl b) false));rw [doG_skip hc];exact this⟩
      case measure => simp [intOf]
    | true =>
      have kc' : wr.cell? ⟨m,2 + 0,none⟩ = some (.bool true):=by rw [← hc];exact kc
      have ok' : SysOk (M).s:=OK.out
      have ht' : (M).s.T + 8 < Bd:=(by omega)
      have hcl:=mF false H ok' (by omega)
      clear kc hbr
      have HLs:=fun (w1 : World) (FF2 : Bool → List Nat) (h : Held w1 (l ++ mirC pbs m d FF2 { M with s:=(fun M b => M.s.fl b) M false })) (hlv : lv = false → (M).c (!false) = false) => HL'.out w1 false { M with s:=(fun M b => M.s.fl b) M false } FF2 h (((fun M b => fl_stp M.s b) M false).ok ok') (Nat.lt_of_le_of_lt (((fun M b => fl_stp M.s b) M false).T ok') (by omega)) hlv
      have hlv' : lv = false → (M).c (!false) = false:=(fun h => HV.out h hc)
      obtain ⟨ec,hec⟩ : ∃ ec,(fun M b => M.s.flC b) M false = ec:=⟨_,rfl⟩
      simp only at hcl hec HLs
      rw [hec] at hcl
      by_cases h0 : ec = 0
      · have u0 : (ec != 0) = false:=by simp [h0]
        have HE:=hid (doG_on (e:=(fun M b => M.s.flC b)) (f:=(fun M b => M.s.fl b)) hc (hec.trans h0))
        clear hec h0 HLs
        go_wp2_with (first
         | (refine wpList_index_one rfl _ _ _ rfl 37 _ 2 Tryz.underlying110 Tryz.underlying37 rfl rfl [.pointer (some ⟨d false,0,none⟩),.pointer (some ⟨d true,0,none⟩)] rfl .i64 0 _ rfl rfl (.pointer (some ⟨d false,0,none⟩)) (by decide) rfl ?_;simp only [aA,aB,Act.put,aC,aD,aE])
         | (go_at_call 56;refine hcl.mono ?_;rintro e w5 ⟨rfl,FF5,v5⟩))
        go_roundw
        case rel => exact (fun h => .inr (.inl h)) ⟨rfl,FF5,by have:=EV.out.trans v5;show Ev _ _ _ (l ++ mirC pbs m d FF5 ((M).doG (fun M b => M.s.flC b) (fun M b => M.s.fl b) false));rw [HE.out];exact this⟩
        case measure => simp [intOf]
      · have u0 : (ec != 0) = true:=by simpa using h0
        have HE:=hid (doG_bad (e:=(fun M b => M.s.flC b)) (f:=(fun M b => M.s.fl b)) hc (fun e => h0 (hec.symm.trans e)))
        clear hec h0
        go_wp2_with (first
         | (refine wpList_index_one rfl _ _ _ rfl 37 _ 2 Tryz.underlying110 Tryz.underlying37 rfl rfl [.pointer (some ⟨d false,0,none⟩),.pointer (some ⟨d true,0,none⟩)] rfl .i64 0 _ rfl rfl (.pointer (some ⟨d false,0,none⟩)) (by decide) rfl ?_;simp only [aA,aB,Act.put,aC,aD,aE])
         | (go_at_call 56;refine hcl.mono ?_;rintro e w5 ⟨rfl,FF5,v5⟩;have E5:=hid (EV.out.trans v5);have hlo:=HLs w5 FF5 E5.out.held hlv';clear HLs)
         | (go_at_call 104;refine hlo.mono ?_;rintro e w6 ⟨rfl,FF6,v6⟩))
        go_roundw
        case rel => exact (fun h => .inr (.inl h)) ⟨rfl,FF6,by have:=E5.out.trans v6;show Ev _ _ _ (l ++ mirC pbs m d FF6 ((M).doG (fun M b => M.s.flC b) (fun M b => M.s.fl b) false));rw [HE.out];exact this⟩
        case measure => simp [intOf]
  · have EV:=hid ev
    have H : Held wr (l ++ mirC pbs m d FF1 (M.doG (fun M b => M.s.flC b) (fun M b => M.s.fl b) false)):=ev.held
    have hbr : Blk wr m [.pointer (some ⟨d false,0,none⟩),.pointer (some ⟨d true,0,none⟩),.bool ((M.doG (fun M b => M.s.flC b) (fun M b => M.s.fl b) false)).c0,.bool ((M.doG (fun M b => M.s.flC b) (fun M b => M.s.fl b) false)).c1,W64 ((M.doG (fun M b => M.s.flC b) (fun M b => M.s.fl b) false)).g]:=mir_blk H
    have kc:=hbr.cell (2 + 1)
    clear ev
    cases hc : ((M.doG (fun M b => M.s.flC b) (fun M b => M.s.fl b) false)).c true with
    | false =>
      have kc' : wr.cell? ⟨m,2 + 1,none⟩ = some (.bool false):=by rw [← hc];exact kc
      clear kc hbr
      go_wp2_with (refine wpList_index_one rfl _ _ _ rfl 37 _ 2 Tryz.underlying110 Tryz.underlying37 rfl rfl [.pointer (some ⟨d false,0,none⟩),.pointer (some ⟨d true,0,none⟩)] rfl .i64 1 _ rfl rfl (.pointer (some ⟨d true,0,none⟩)) (by decide) rfl ?_;simp only [aA,aB,Act.put,aC,aD,aE])
      go_roundw
      case rel => exact (fun h => .inr (.inr h)) ⟨rfl,FF1,by have:=EV.out;show Ev _ _ _ (l ++ mirC pbs m d FF1 (((M.doG (fun M b => M.s.flC b) (fun M b => M.s.fl b) false)).doG (fun M b => M.s.flC b) (fun M b => M.s.fl b) true));rw [doG_skip hc];exact this⟩
      case measure => simp [intOf]
    | true =>
      have kc' : wr.cell? ⟨m,2 + 1,none⟩ = some (.bool true):=by rw [← hc];exact kc
      have ok' : SysOk ((M.doG (fun M b => M.s.flC b) (fun M b => M.s.fl b) false)).s:=((doG_stp (fun M b => fl_stp M.s b) M false).ok OK.out)
      have ht' : ((M.doG (fun M b => M.s.flC b) (fun M b => M.s.fl b) false)).s.T + 8 < Bd:=(Nat.lt_of_le_of_lt (Nat.add_le_add_right ((doG_stp (e:=(fun M b => M.s.flC b)) (fun M b => fl_stp M.s b) M false).T OK.out) 8) (by omega))
      have hcl:=mF true H ok' (by omega)
      clear kc hbr
      have HLs:=fun (w1 : World) (FF2 : Bool → List Nat) (h : Held w1 (l ++ mirC pbs m d FF2 { (M.doG (fun M b => M.s.flC b) (fun M b => M.s.fl b) false) with s:=(fun M b => M.s.fl b) (M.doG (fun M b => M.s.flC b) (fun M b => M.s.fl b) false) true })) (hlv : lv = false → ((M.doG (fun M b => M.s.flC b) (fun M b => M.s.fl b) false)).c (!true) = false) => HL'.out w1 true { (M.doG (fun M b => M.s.flC b) (fun M b => M.s.fl b) false) with s:=(fun M b => M.s.fl b) (M.doG (fun M b => M.s.flC b) (fun M b => M.s.fl b) false) true } FF2 h (((fun M b => fl_stp M.s b) (M.doG (fun M b => M.s.flC b) (fun M b => M.s.fl b) false) true).ok ok') (Nat.lt_of_le_of_lt (((fun M b => fl_stp M.s b) (M.doG (fun M b => M.s.flC b) (fun M b => M.s.fl b) false) true).T ok') (by omega)) hlv
      have hlv' : lv = false → ((M.doG (fun M b => M.s.flC b) (fun M b => M.s.fl b) false)).c (!true) = false:=(fun h => doG_one (HV.out h) hc)
      obtain ⟨ec,hec⟩ : ∃ ec,(fun M b => M.s.flC b) (M.doG (fun M b => M.s.flC b) (fun M b => M.s.fl b) false) true = ec:=⟨_,rfl⟩
      simp only at hcl hec HLs
      rw [hec] at hcl
      by_cases h0 : ec = 0
      · have u0 : (ec != 0) = false:=by simp [h0]
        have HE:=hid (doG_on (e:=(fun M b => M.s.flC b)) (f:=(fun M b => M.s.fl b)) hc (hec.trans h0))
        clear hec h0 HLs
        go_wp2_with (first
         | (refine wpList_index_one rfl _ _ _ rfl 37 _ 2 Tryz.underlying110 Tryz.underlying37 rfl rfl [.pointer (some ⟨d false,0,none⟩),.pointer (some ⟨d true,0,none⟩)] rfl .i64 1 _ rfl rfl (.pointer (some ⟨d true,0,none⟩)) (by decide) rfl ?_;simp only [aA,aB,Act.put,aC,aD,aE])
         | (go_at_call 56;refine hcl.mono ?_;rintro e w5 ⟨rfl,FF5,v5⟩))
        go_roundw
        case rel => exact (fun h => .inr (.inr h)) ⟨rfl,FF5,by have:=EV.out.trans v5;show Ev _ _ _ (l ++ mirC pbs m d FF5 (((M.doG (fun M b => M.s.flC b) (fun M b => M.s.fl b) false)).doG (fun M b => M.s.flC b) (fun M b => M.s.fl b) true));rw [HE.out];exact this⟩
        case measure => simp [intOf]
      · have u0 : (ec != 0) = true:=by simpa using h0
        have HE:=hid (doG_bad (e:=(fun M b => M.s.flC b)) (f:=(fun M b => M.s.fl b)) hc (fun e => h0 (hec.symm.trans e)))
        clear hec h0
        go_wp2_with (first
         | (refine wpList_index_one rfl _ _ _ rfl 37 _ 2 Tryz.underlying110 Tryz.underlying37 rfl rfl [.pointer (some ⟨d false,0,none⟩),.pointer (some ⟨d true,0,none⟩)] rfl .i64 1 _ rfl rfl (.pointer (some ⟨d true,0,none⟩)) (by decide) rfl ?_;simp only [aA,aB,Act.put,aC,aD,aE])
         | (go_at_call 56;refine hcl.mono ?_;rintro e w5 ⟨rfl,FF5,v5⟩;have E5:=hid (EV.out.trans v5);have hlo:=HLs w5 FF5 E5.out.held hlv';clear HLs)
         | (go_at_call 104;refine hlo.mono ?_;rintro e w6 ⟨rfl,FF6,v6⟩))
        go_roundw
        case rel => exact (fun h => .inr (.inr h)) ⟨rfl,FF6,by have:=E5.out.trans v6;show Ev _ _ _ (l ++ mirC pbs m d FF6 (((M.doG (fun M b => M.s.flC b) (fun M b => M.s.fl b) false)).doG (fun M b => M.s.flC b) (fun M b => M.s.fl b) true));rw [HE.out];exact this⟩
        case measure => simp [intOf]
  · have hlf:=mleft_any ev.held
    go_wp2_with (go_at_call 105;refine hlf.mono ?_;rintro e w5 ⟨rfl,hw⟩;subst hw)
    go_ret
    exact ⟨rfl,FF1,ev⟩
theorem eachS_any (lv : Bool) {Bd : Nat} (hBd : Bd ≤ 999990) (HL : LoseOk lv Bd l pbs m d) (h : Held w (l ++ mirC pbs m d FF M)) (ok : SysOk M.s) (ht : M.s.T + 20 < Bd) (hlv : lv = false → M.c0 = true → M.c1 = false) {mb : Nat} (hm : Box l mb (.pointer (some ⟨m,0,none⟩))) :
 Calls Tryz.prog 99 #[.pointer (some ⟨m,0,none⟩),.func (.func 138) #[] #[.pointer (some ⟨mb,0,none⟩)]] w fun e w' => e = .returned (.int .i64 (M.doGN (fun M b => M.s.wrC b 0 (supS M.g (M.s.len b))) (fun M b => M.s.wr b 0 (supS M.g (M.s.len b))) 2).leftC) ∧ ∃ FF',Ev w (l ++ mirC pbs m d FF M) w' (l ++ mirC pbs m d FF' (M.doGN (fun M b => M.s.wrC b 0 (supS M.g (M.s.len b))) (fun M b => M.s.wr b 0 (supS M.g (M.s.len b))) 2)):=by
 have hb:=mir_blk h
 have hb2 : Blk w m [.pointer (some ⟨d false,0,none⟩),.pointer (some ⟨d true,0,none⟩),.bool M.c0,.bool M.c1,W64 M.g]:=hb
 have HH:=hid h
 have HL':=hid HL
 have OK:=hid ok
 have HV:=hid hlv
 clear h hb HL ok hlv
 go_enter Tryz.func99,Tryz.ntmps99
 go_wp2_with (refine wpList_load_ag rfl _ _ rfl rfl [.pointer (some ⟨d false,0,none⟩),.pointer (some ⟨d true,0,none⟩)] hb2 disksT rfl rfl ?_;simp only [aA,aB,Act.put,aC,aD,aE])
 clear hb2
 go_loopw [11] (fun iv wr => (iv = .int .i64 0 ∧ ∃ FF',Ev w (l ++ mirC pbs m d FF M) wr (l ++ mirC pbs m d FF' M)) ∨ (iv = .int .i64 1 ∧ ∃ FF',Ev w (l ++ mirC pbs m d FF M) wr (l ++ mirC pbs m d FF' (M.doG (fun M b => M.s.wrC b 0 (supS M.g (M.s.len b))) (fun M b => M.s.wr b 0 (supS M.g (M.s.len b))) false))) ∨ (iv = .int .i64 2 ∧ ∃ FF',Ev w (l ++ mirC pbs m d FF M) wr (l ++ mirC pbs m d FF' (M.doGN (fun M b => M.s.wrC b 0 (supS M.g (M.s.len b))) (fun M b => M.s.wr b 0 (supS M.g (M.s.len b))) 2)))) (fun iv _ => 2 - (intOf iv).toNat)
 case atStart => exact .inl ⟨rfl,FF,Ev.refl HH.out⟩
 case round =>
  rcases hrel with ⟨rfl,FF1,ev⟩ | ⟨rfl,FF1,ev⟩ | ⟨rfl,FF1,ev⟩
  · have EV:=hid ev
    have H : Held wr (l ++ mirC pbs m d FF1 M):=ev.held
    have hbr : Blk wr m [.pointer (some ⟨d false,0,none⟩),.pointer (some ⟨d true,0,none⟩),.bool (M).c0,.bool (M).c1,W64 (M).g]:=mir_blk H
    have kc:=hbr.cell (2 + 0)
    clear ev
    cases hc : (M).c false with
    | false =>
      have kc' : wr.cell? ⟨m,2 + 0,none⟩ = some (.bool false):=by rw [← hc];exact kc
      clear kc hbr
      go_wp2_with (refine wpList_index_one rfl _ _ _ rfl 37 _ 2 Tryz.underlying110 Tryz.underlying37 rfl rfl [.pointer (some ⟨d false,0,none⟩),.pointer (some ⟨d true,0,none⟩)] rfl .i64 0 _ rfl rfl (.pointer (some ⟨d false,0,none⟩)) (by decide) rfl ?_;simp only [aA,aB,Act.put,aC,aD,aE])
      go_roundw
      case rel => exact (fun h => .inr (.inl h)) ⟨rfl,FF1,by have:=EV.out;show Ev _ _ _ (l ++ mirC pbs m d FF1 ((M).doG (fun M b => M.s.wrC b 0 (supS M.g (M.s.len b))) (fun M b => M.s.wr b 0 (supS M.g (M.s.len b))) false));rw [doG_skip hc];exact this⟩
      case measure => simp [intOf]
    | true =>
      have kc' : wr.cell? ⟨m,2 + 0,none⟩ = some (.bool true):=by rw [← hc];exact kc
      have ok' : SysOk (M).s:=OK.out
      have ht' : (M).s.T + 8 < Bd:=(by omega)
      have hcl:=clS_any false H ok' (by omega) hm
      clear kc hbr
      have HLs:=fun (w1 : World) (FF2 : Bool → List Nat) (h : Held w1 (l ++ mirC pbs m d FF2 { M with s:=(fun M b => M.s.wr b 0 (supS M.g (M.s.len b))) M false })) (hlv : lv = false → (M).c (!false) = false) => HL'.out w1 false { M with s:=(fun M b => M.s.wr b 0 (supS M.g (M.s.len b))) M false } FF2 h (((fun M b => wr_stp M.s b 0 (supS M.g (M.s.len b))) M false).ok ok') (Nat.lt_of_le_of_lt (((fun M b => wr_stp M.s b 0 (supS M.g (M.s.len b))) M false).T ok') (by omega)) hlv
      have hlv' : lv = false → (M).c (!false) = false:=(fun h => HV.out h hc)
      obtain ⟨ec,hec⟩ : ∃ ec,(fun M b => M.s.wrC b 0 (supS M.g (M.s.len b))) M false = ec:=⟨_,rfl⟩
      simp only at hcl hec HLs
      rw [hec] at hcl
      by_cases h0 : ec = 0
      · have u0 : (ec != 0) = false:=by simp [h0]
        have HE:=hid (doG_on (e:=(fun M b => M.s.wrC b 0 (supS M.g (M.s.len b)))) (f:=(fun M b => M.s.wr b 0 (supS M.g (M.s.len b)))) hc (hec.trans h0))
        clear hec h0 HLs
        go_wp2_with (first
         | (refine wpList_index_one rfl _ _ _ rfl 37 _ 2 Tryz.underlying110 Tryz.underlying37 rfl rfl [.pointer (some ⟨d false,0,none⟩),.pointer (some ⟨d true,0,none⟩)] rfl .i64 0 _ rfl rfl (.pointer (some ⟨d false,0,none⟩)) (by decide) rfl ?_;simp only [aA,aB,Act.put,aC,aD,aE])
         | (go_at_call 138;refine hcl.mono ?_;rintro e w5 ⟨rfl,FF5,v5⟩))
        go_roundw
        case rel => exact (fun h => .inr (.inl h)) ⟨rfl,FF5,by have:=EV.out.trans v5;show Ev _ _ _ (l ++ mirC pbs m d FF5 ((M).doG (fun M b => M.s.wrC b 0 (supS M.g (M.s.len b))) (fun M b => M.s.wr b 0 (supS M.g (M.s.len b))) false));rw [HE.out];exact this⟩
        case measure => simp [intOf]
      · have u0 : (ec != 0) = true:=by simpa using h0
        have HE:=hid (doG_bad (e:=(fun M b => M.s.wrC b 0 (supS M.g (M.s.len b)))) (f:=(fun M b => M.s.wr b 0 (supS M.g (M.s.len b)))) hc (fun e => h0 (hec.symm.trans e)))
        clear hec h0
        go_wp2_with (first
         | (refine wpList_index_one rfl _ _ _ rfl 37 _ 2 Tryz.underlying110 Tryz.underlying37 rfl rfl [.pointer (some ⟨d false,0,none⟩),.pointer (some ⟨d true,0,none⟩)] rfl .i64 0 _ rfl rfl (.pointer (some ⟨d false,0,none⟩)) (by decide) rfl ?_;simp only [aA,aB,Act.put,aC,aD,aE])
         | (go_at_call 138;refine hcl.mono ?_;rintro e w5 ⟨rfl,FF5,v5⟩;have E5:=hid (EV.out.trans v5);have hlo:=HLs w5 FF5 E5.out.held hlv';clear HLs)
         | (go_at_call 104;refine hlo.mono ?_;rintro e w6 ⟨rfl,FF6,v6⟩))
        go_roundw
        case rel => exact (fun h => .inr (.inl h)) ⟨rfl,FF6,by have:=E5.out.trans v6;show Ev _ _ _ (l ++ mirC pbs m d FF6 ((M).doG (fun M b => M.s.wrC b 0 (supS M.g (M.s.len b))) (fun M b => M.s.wr b 0 (supS M.g (M.s.len b))) false));rw [HE.out];exact this⟩
        case measure => simp [intOf]
  · have EV:=hid ev
    have H : Held wr (l ++ mirC pbs m d FF1 (M.doG (fun M b => M.s.wrC b 0 (supS M.g (M.s.len b))) (fun M b => M.s.wr b 0 (supS M.g (M.s.len b))) false)):=ev.held
    have hbr : Blk wr m [.pointer (some ⟨d false,0,none⟩),.pointer (some ⟨d true,0,none⟩),.bool ((M.doG (fun M b => M.s.wrC b 0 (supS M.g (M.s.len b))) (fun M b => M.s.wr b 0 (supS M.g (M.s.len b))) false)).c0,.bool ((M.doG (fun M b => M.s.wrC b 0 (supS M.g (M.s.len b))) (fun M b => M.s.wr b 0 (supS M.g (M.s.len b))) false)).c1,W64 ((M.doG (fun M b => M.s.wrC b 0 (supS M.g (M.s.len b))) (fun M b => M.s.wr b 0 (supS M.g (M.s.len b))) false)).g]:=mir_blk H
    have kc:=hbr.cell (2 + 1)
    clear ev
    cases hc : ((M.doG (fun M b => M.s.wrC b 0 (supS M.g (M.s.len b))) (fun M b => M.s.wr b 0 (supS M.g (M.s.len b))) false)).c true with
    | false =>
      have kc' : wr.cell? ⟨m,2 + 1,none⟩ = some (.bool false):=by rw [← hc];exact kc
      clear kc hbr
      go_wp2_with (refine wpList_index_one rfl _ _ _ rfl 37 _ 2 Tryz.underlying110 Tryz.underlying37 rfl rfl [.pointer (some ⟨d false,0,none⟩),.pointer (some ⟨d true,0,none⟩)] rfl .i64 1 _ rfl rfl (.pointer (some ⟨d true,0,none⟩)) (by decide) rfl ?_;simp only [aA,aB,Act.put,aC,aD,aE])
      go_roundw
      case rel => exact (fun h => .inr (.inr h)) ⟨rfl,FF1,by have:=EV.out;show Ev _ _ _ (l ++ mirC pbs m d FF1 (((M.doG (fun M b => M.s.wrC b 0 (supS M.g (M.s.len b))) (fun M b => M.s.wr b 0 (supS M.g (M.s.len b))) false)).doG (fun M b => M.s.wrC b 0 (supS M.g (M.s.len b))) (fun M b => M.s.wr b 0 (supS M.g (M.s.len b))) true));rw [doG_skip hc];exact this⟩
      case measure => simp [intOf]
    | true =>
      have kc' : wr.cell? ⟨m,2 + 1,none⟩ = some (.bool true):=by rw [← hc];exact kc
      have ok' : SysOk ((M.doG (fun M b => M.s.wrC b 0 (supS M.g (M.s.len b))) (fun M b => M.s.wr b 0 (supS M.g (M.s.len b))) false)).s:=((doG_stp (fun M b => wr_stp M.s b 0 (supS M.g (M.s.len b))) M false).ok OK.out)
      have ht' : ((M.doG (fun M b => M.s.wrC b 0 (supS M.g (M.s.len b))) (fun M b => M.s.wr b 0 (supS M.g (M.s.len b))) false)).s.T + 8 < Bd:=(Nat.lt_of_le_of_lt (Nat.add_le_add_right ((doG_stp (e:=(fun M b => M.s.wrC b 0 (supS M.g (M.s.len b)))) (fun M b => wr_stp M.s b 0 (supS M.g (M.s.len b))) M false).T OK.out) 8) (by omega))
      have hcl:=clS_any true H ok' (by omega) hm
      clear kc hbr
      have HLs:=fun (w1 : World) (FF2 : Bool → List Nat) (h : Held w1 (l ++ mirC pbs m d FF2 { (M.doG (fun M b => M.s.wrC b 0 (supS M.g (M.s.len b))) (fun M b => M.s.wr b 0 (supS M.g (M.s.len b))) false) with s:=(fun M b => M.s.wr b 0 (supS M.g (M.s.len b))) (M.doG (fun M b => M.s.wrC b 0 (supS M.g (M.s.len b))) (fun M b => M.s.wr b 0 (supS M.g (M.s.len b))) false) true })) (hlv : lv = false → ((M.doG (fun M b => M.s.wrC b 0 (supS M.g (M.s.len b))) (fun M b => M.s.wr b 0 (supS M.g (M.s.len b))) false)).c (!true) = false) => HL'.out w1 true { (M.doG (fun M b => M.s.wrC b 0 (supS M.g (M.s.len b))) (fun M b => M.s.wr b 0 (supS M.g (M.s.len b))) false) with s:=(fun M b => M.s.wr b 0 (supS M.g (M.s.len b))) (M.doG (fun M b => M.s.wrC b 0 (supS M.g (M.s.len b))) (fun M b => M.s.wr b 0 (supS M.g (M.s.len b))) false) true } FF2 h (((fun M b => wr_stp M.s b 0 (supS M.g (M.s.len b))) (M.doG (fun M b => M.s.wrC b 0 (supS M.g (M.s.len b))) (fun M b => M.s.wr b 0 (supS M.g (M.s.len b))) false) true).ok ok') (Nat.lt_of_le_of_lt (((fun M b => wr_stp M.s b 0 (supS M.g (M.s.len b))) (M.doG (fun M b => M.s.wrC b 0 (supS M.g (M.s.len b))) (fun M b => M.s.wr b 0 (supS M.g (M.s.len b))) false) true).T ok') (by omega)) hlv
      have hlv' : lv = false → ((M.doG (fun M b => M.s.wrC b 0 (supS M.g (M.s.len b))) (fun M b => M.s.wr b 0 (supS M.g (M.s.len b))) false)).c (!true) = false:=(fun h => doG_one (HV.out h) hc)
      obtain ⟨ec,hec⟩ : ∃ ec,(fun M b => M.s.wrC b 0 (supS M.g (M.s.len b))) (M.doG (fun M b => M.s.wrC b 0 (supS M.g (M.s.len b))) (fun M b => M.s.wr b 0 (supS M.g (M.s.len b))) false) true = ec:=⟨_,rfl⟩
      simp only at hcl hec HLs
      rw [hec] at hcl
      by_cases h0 : ec = 0
      · have u0 : (ec != 0) = false:=by simp [h0]
        have HE:=hid (doG_on (e:=(fun M b => M.s.wrC b 0 (supS M.g (M.s.len b)))) (f:=(fun M b => M.s.wr b 0 (supS M.g (M.s.len b)))) hc (hec.trans h0))
        clear hec h0 HLs
        go_wp2_with (first
         | (refine wpList_index_one rfl _ _ _ rfl 37 _ 2 Tryz.underlying110 Tryz.underlying37 rfl rfl [.pointer (some ⟨d false,0,none⟩),.pointer (some ⟨d true,0,none⟩)] rfl .i64 1 _ rfl rfl (.pointer (some ⟨d true,0,none⟩)) (by decide) rfl ?_;simp only [aA,aB,Act.put,aC,aD,aE])
         | (go_at_call 138;refine hcl.mono ?_;rintro e w5 ⟨rfl,FF5,v5⟩))
        go_roundw
        case rel => exact (fun h => .inr (.inr h)) ⟨rfl,FF5,by have:=EV.out.trans v5;show Ev _ _ _ (l ++ mirC pbs m d FF5 (((M.doG (fun M b => M.s.wrC b 0 (supS M.g (M.s.len b))) (fun M b => M.s.wr b 0 (supS M.g (M.s.len b))) false)).doG (fun M b => M.s.wrC b 0 (supS M.g (M.s.len b))) (fun M b => M.s.wr b 0 (supS M.g (M.s.len b))) true));rw [HE.out];exact this⟩
        case measure => simp [intOf]
      · have u0 : (ec != 0) = true:=by simpa using h0
        have HE:=hid (doG_bad (e:=(fun M b => M.s.wrC b 0 (supS M.g (M.s.len b)))) (f:=(fun M b => M.s.wr b 0 (supS M.g (M.s.len b)))) hc (fun e => h0 (hec.symm.trans e)))
        clear hec h0
        go_wp2_with (first
         | (refine wpList_index_one rfl _ _ _ rfl 37 _ 2 Tryz.underlying110 Tryz.underlying37 rfl rfl [.pointer (some ⟨d false,0,none⟩),.pointer (some ⟨d true,0,none⟩)] rfl .i64 1 _ rfl rfl (.pointer (some ⟨d true,0,none⟩)) (by decide) rfl ?_;simp only [aA,aB,Act.put,aC,aD,aE])
         | (go_at_call 138;refine hcl.mono ?_;rintro e w5 ⟨rfl,FF5,v5⟩;have E5:=hid (EV.out.trans v5);have hlo:=HLs w5 FF5 E5.out.held hlv';clear HLs)
         | (go_at_call 104;refine hlo.mono ?_;rintro e w6 ⟨rfl,FF6,v6⟩))
        go_roundw
        case rel => exact (fun h => .inr (.inr h)) ⟨rfl,FF6,by have:=E5.out.trans v6;show Ev _ _ _ (l ++ mirC pbs m d FF6 (((M.doG (fun M b => M.s.wrC b 0 (supS M.g (M.s.len b))) (fun M b => M.s.wr b 0 (supS M.g (M.s.len b))) false)).doG (fun M b => M.s.wrC b 0 (supS M.g (M.s.len b))) (fun M b => M.s.wr b 0 (supS M.g (M.s.len b))) true));rw [HE.out];exact this⟩
        case measure => simp [intOf]
  · have hlf:=mleft_any ev.held
    go_wp2_with (go_at_call 105;refine hlf.mono ?_;rintro e w5 ⟨rfl,hw⟩;subst hw)
    go_ret
    exact ⟨rfl,FF1,ev⟩
theorem eachW_any (lv : Bool) {Bd : Nat} (hBd : Bd ≤ 999990) (HL : LoseOk lv Bd l pbs m d) (h : Held w (l ++ mirC pbs m d FF M)) (ok : SysOk M.s) (ht : M.s.T + 20 < Bd) (hlv : lv = false → M.c0 = true → M.c1 = false) {ib sb I : Nat} {S : ByteArray} (hI : I ≤ 1000000) (hS : S.size ≤ 9223372036854775807) (hi : Box l ib (.int .i64 (I : Int))) (hs : Box l sb (.string S)) :
 Calls Tryz.prog 99 #[.pointer (some ⟨m,0,none⟩),.func (.func 100) #[] #[.pointer (some ⟨ib,0,none⟩),.pointer (some ⟨sb,0,none⟩)]] w fun e w' => e = .returned (.int .i64 (M.doGN (fun M b => M.s.wrC b ((I : Int) + 1) S) (fun M b => M.s.wr b ((I : Int) + 1) S) 2).leftC) ∧ ∃ FF',Ev w (l ++ mirC pbs m d FF M) w' (l ++ mirC pbs m d FF' (M.doGN (fun M b => M.s.wrC b ((I : Int) + 1) S) (fun M b => M.s.wr b ((I : Int) + 1) S) 2)):=by
 have hb:=mir_blk h
 have hb2 : Blk w m [.pointer (some ⟨d false,0,none⟩),.pointer (some ⟨d true,0,none⟩),.bool M.c0,.bool M.c1,W64 M.g]:=hb
 have HH:=hid h
 have HL':=hid HL
 have OK:=hid ok
 have HV:=hid hlv
 clear h hb HL ok hlv
 go_enter Tryz.func99,Tryz.ntmps99
 go_wp2_with (refine wpList_load_ag rfl _ _ rfl rfl [.pointer (some ⟨d false,0,none⟩),.pointer (some ⟨d true,0,none⟩)] hb2 disksT rfl rfl ?_;simp only [aA,aB,Act.put,aC,aD,aE])
 clear hb2
 go_loopw [11] (fun iv wr => (iv = .int .i64 0 ∧ ∃ FF',Ev w (l ++ mirC pbs m d FF M) wr (l ++ mirC pbs m d FF' M)) ∨ (iv = .int .i64 1 ∧ ∃ FF',Ev w (l ++ mirC pbs m d FF M) wr (l ++ mirC pbs m d FF' (M.doG (fun M b => M.s.wrC b ((I : Int) + 1) S) (fun M b => M.s.wr b ((I : Int) + 1) S) false))) ∨ (iv = .int .i64 2 ∧ ∃ FF',Ev w (l ++ mirC pbs m d FF M) wr (l ++ mirC pbs m d FF' (M.doGN (fun M b => M.s.wrC b ((I : Int) + 1) S) (fun M b => M.s.wr b ((I : Int) + 1) S) 2)))) (fun iv _ => 2 - (intOf iv).toNat)
 case atStart => exact .inl ⟨rfl,FF,Ev.refl HH.out⟩
 case round =>
  rcases hrel with ⟨rfl,FF1,ev⟩ | ⟨rfl,FF1,ev⟩ | ⟨rfl,FF1,ev⟩
  · have EV:=hid ev
    have H : Held wr (l ++ mirC pbs m d FF1 M):=ev.held
    have hbr : Blk wr m [.pointer (some ⟨d false,0,none⟩),.pointer (some ⟨d true,0,none⟩),.bool (M).c0,.bool (M).c1,W64 (M).g]:=mir_blk H
    have kc:=hbr.cell (2 + 0)
    clear ev
    cases hc : (M).c false with
    | false =>
      have kc' : wr.cell? ⟨m,2 + 0,none⟩ = some (.bool false):=by rw [← hc];exact kc
      clear kc hbr
      go_wp2_with (refine wpList_index_one rfl _ _ _ rfl 37 _ 2 Tryz.underlying110 Tryz.underlying37 rfl rfl [.pointer (some ⟨d false,0,none⟩),.pointer (some ⟨d true,0,none⟩)] rfl .i64 0 _ rfl rfl (.pointer (some ⟨d false,0,none⟩)) (by decide) rfl ?_;simp only [aA,aB,Act.put,aC,aD,aE])
      go_roundw
      case rel => exact (fun h => .inr (.inl h)) ⟨rfl,FF1,by have:=EV.out;show Ev _ _ _ (l ++ mirC pbs m d FF1 ((M).doG (fun M b => M.s.wrC b ((I : Int) + 1) S) (fun M b => M.s.wr b ((I : Int) + 1) S) false));rw [doG_skip hc];exact this⟩
      case measure => simp [intOf]
    | true =>
      have kc' : wr.cell? ⟨m,2 + 0,none⟩ = some (.bool true):=by rw [← hc];exact kc
      have ok' : SysOk (M).s:=OK.out
      have ht' : (M).s.T + 8 < Bd:=(by omega)
      have hcl:=clW_any false H ok' (by omega) I hI S hS hi hs
      clear kc hbr
      have HLs:=fun (w1 : World) (FF2 : Bool → List Nat) (h : Held w1 (l ++ mirC pbs m d FF2 { M with s:=(fun M b => M.s.wr b ((I : Int) + 1) S) M false })) (hlv : lv = false → (M).c (!false) = false) => HL'.out w1 false { M with s:=(fun M b => M.s.wr b ((I : Int) + 1) S) M false } FF2 h (((fun M b => wr_stp M.s b ((I : Int) + 1) S) M false).ok ok') (Nat.lt_of_le_of_lt (((fun M b => wr_stp M.s b ((I : Int) + 1) S) M false).T ok') (by omega)) hlv
      have hlv' : lv = false → (M).c (!false) = false:=(fun h => HV.out h hc)
      obtain ⟨ec,hec⟩ : ∃ ec,(fun M b => M.s.wrC b ((I : Int) + 1) S) M false = ec:=⟨_,rfl⟩
      simp only at hcl hec HLs
      rw [hec] at hcl
      by_cases h0 : ec = 0
      · have u0 : (ec != 0) = false:=by simp [h0]
        have HE:=hid (doG_on (e:=(fun M b => M.s.wrC b ((I : Int) + 1) S)) (f:=(fun M b => M.s.wr b ((I : Int) + 1) S)) hc (hec.trans h0))
        clear hec h0 HLs
        go_wp2_with (first
         | (refine wpList_index_one rfl _ _ _ rfl 37 _ 2 Tryz.underlying110 Tryz.underlying37 rfl rfl [.pointer (some ⟨d false,0,none⟩),.pointer (some ⟨d true,0,none⟩)] rfl .i64 0 _ rfl rfl (.pointer (some ⟨d false,0,none⟩)) (by decide) rfl ?_;simp only [aA,aB,Act.put,aC,aD,aE])
         | (go_at_call 100;refine hcl.mono ?_;rintro e w5 ⟨rfl,FF5,v5⟩))
        go_roundw
        case rel => exact (fun h => .inr (.inl h)) ⟨rfl,FF5,by have:=EV.out.trans v5;show Ev _ _ _ (l ++ mirC pbs m d FF5 ((M).doG (fun M b => M.s.wrC b ((I : Int) + 1) S) (fun M b => M.s.wr b ((I : Int) + 1) S) false));rw [HE.out];exact this⟩
        case measure => simp [intOf]
      · have u0 : (ec != 0) = true:=by simpa using h0
        have HE:=hid (doG_bad (e:=(fun M b => M.s.wrC b ((I : Int) + 1) S)) (f:=(fun M b => M.s.wr b ((I : Int) + 1) S)) hc (fun e => h0 (hec.symm.trans e)))
        clear hec h0
        go_wp2_with (first
         | (refine wpList_index_one rfl _ _ _ rfl 37 _ 2 Tryz.underlying110 Tryz.underlying37 rfl rfl [.pointer (some ⟨d false,0,none⟩),.pointer (some ⟨d true,0,none⟩)] rfl .i64 0 _ rfl rfl (.pointer (some ⟨d false,0,none⟩)) (by decide) rfl ?_;simp only [aA,aB,Act.put,aC,aD,aE])
         | (go_at_call 100;refine hcl.mono ?_;rintro e w5 ⟨rfl,FF5,v5⟩;have E5:=hid (EV.out.trans v5);have hlo:=HLs w5 FF5 E5.out.held hlv';clear HLs)
         | (go_at_call 104;refine hlo.mono ?_;rintro e w6 ⟨rfl,FF6,v6⟩))
        go_roundw
        case rel => exact (fun h => .inr (.inl h)) ⟨rfl,FF6,by have:=E5.out.trans v6;show Ev _ _ _ (l ++ mirC pbs m d FF6 ((M).doG (fun M b => M.s.wrC b ((I : Int) + 1) S) (fun M b => M.s.wr b ((I : Int) + 1) S) false));rw [HE.out];exact this⟩
        case measure => simp [intOf]
  · have EV:=hid ev
    have H : Held wr (l ++ mirC pbs m d FF1 (M.doG (fun M b => M.s.wrC b ((I : Int) + 1) S) (fun M b => M.s.wr b ((I : Int) + 1) S) false)):=ev.held
    have hbr : Blk wr m [.pointer (some ⟨d false,0,none⟩),.pointer (some ⟨d true,0,none⟩),.bool ((M.doG (fun M b => M.s.wrC b ((I : Int) + 1) S) (fun M b => M.s.wr b ((I : Int) + 1) S) false)).c0,.bool ((M.doG (fun M b => M.s.wrC b ((I : Int) + 1) S) (fun M b => M.s.wr b ((I : Int) + 1) S) false)).c1,W64 ((M.doG (fun M b => M.s.wrC b ((I : Int) + 1) S) (fun M b => M.s.wr b ((I : Int) + 1) S) false)).g]:=mir_blk H
    have kc:=hbr.cell (2 + 1)
    clear ev
    cases hc : ((M.doG (fun M b => M.s.wrC b ((I : Int) + 1) S) (fun M b => M.s.wr b ((I : Int) + 1) S) false)).c true with
    | false =>
      have kc' : wr.cell? ⟨m,2 + 1,none⟩ = some (.bool false):=by rw [← hc];exact kc
      clear kc hbr
      go_wp2_with (refine wpList_index_one rfl _ _ _ rfl 37 _ 2 Tryz.underlying110 Tryz.underlying37 rfl rfl [.pointer (some ⟨d false,0,none⟩),.pointer (some ⟨d true,0,none⟩)] rfl .i64 1 _ rfl rfl (.pointer (some ⟨d true,0,none⟩)) (by decide) rfl ?_;simp only [aA,aB,Act.put,aC,aD,aE])
      go_roundw
      case rel => exact (fun h => .inr (.inr h)) ⟨rfl,FF1,by have:=EV.out;show Ev _ _ _ (l ++ mirC pbs m d FF1 (((M.doG (fun M b => M.s.wrC b ((I : Int) + 1) S) (fun M b => M.s.wr b ((I : Int) + 1) S) false)).doG (fun M b => M.s.wrC b ((I : Int) + 1) S) (fun M b => M.s.wr b ((I : Int) + 1) S) true));rw [doG_skip hc];exact this⟩
      case measure => simp [intOf]
    | true =>
      have kc' : wr.cell? ⟨m,2 + 1,none⟩ = some (.bool true):=by rw [← hc];exact kc
      have ok' : SysOk ((M.doG (fun M b => M.s.wrC b ((I : Int) + 1) S) (fun M b => M.s.wr b ((I : Int) + 1) S) false)).s:=((doG_stp (fun M b => wr_stp M.s b ((I : Int) + 1) S) M false).ok OK.out)
      have ht' : ((M.doG (fun M b => M.s.wrC b ((I : Int) + 1) S) (fun M b => M.s.wr b ((I : Int) + 1) S) false)).s.T + 8 < Bd:=(Nat.lt_of_le_of_lt (Nat.add_le_add_right ((doG_stp (e:=(fun M b => M.s.wrC b ((I : Int) + 1) S)) (fun M b => wr_stp M.s b ((I : Int) + 1) S) M false).T OK.out) 8) (by omega))
      have hcl:=clW_any true H ok' (by omega) I hI S hS hi hs
      clear kc hbr
      have HLs:=fun (w1 : World) (FF2 : Bool → List Nat) (h : Held w1 (l ++ mirC pbs m d FF2 { (M.doG (fun M b => M.s.wrC b ((I : Int) + 1) S) (fun M b => M.s.wr b ((I : Int) + 1) S) false) with s:=(fun M b => M.s.wr b ((I : Int) + 1) S) (M.doG (fun M b => M.s.wrC b ((I : Int) + 1) S) (fun M b => M.s.wr b ((I : Int) + 1) S) false) true })) (hlv : lv = false → ((M.doG (fun M b => M.s.wrC b ((I : Int) + 1) S) (fun M b => M.s.wr b ((I : Int) + 1) S) false)).c (!true) = false) => HL'.out w1 true { (M.doG (fun M b => M.s.wrC b ((I : Int) + 1) S) (fun M b => M.s.wr b ((I : Int) + 1) S) false) with s:=(fun M b => M.s.wr b ((I : Int) + 1) S) (M.doG (fun M b => M.s.wrC b ((I : Int) + 1) S) (fun M b => M.s.wr b ((I : Int) + 1) S) false) true } FF2 h (((fun M b => wr_stp M.s b ((I : Int) + 1) S) (M.doG (fun M b => M.s.wrC b ((I : Int) + 1) S) (fun M b => M.s.wr b ((I : Int) + 1) S) false) true).ok ok') (Nat.lt_of_le_of_lt (((fun M b => wr_stp M.s b ((I : Int) + 1) S) (M.doG (fun M b => M.s.wrC b ((I : Int) + 1) S) (fun M b => M.s.wr b ((I : Int) + 1) S) false) true).T ok') (by omega)) hlv
      have hlv' : lv = false → ((M.doG (fun M b => M.s.wrC b ((I : Int) + 1) S) (fun M b => M.s.wr b ((I : Int) + 1) S) false)).c (!true) = false:=(fun h => doG_one (HV.out h) hc)
      obtain ⟨ec,hec⟩ : ∃ ec,(fun M b => M.s.wrC b ((I : Int) + 1) S) (M.doG (fun M b => M.s.wrC b ((I : Int) + 1) S) (fun M b => M.s.wr b ((I : Int) + 1) S) false) true = ec:=⟨_,rfl⟩
      simp only at hcl hec HLs
      rw [hec] at hcl
      by_cases h0 : ec = 0
      · have u0 : (ec != 0) = false:=by simp [h0]
        have HE:=hid (doG_on (e:=(fun M b => M.s.wrC b ((I : Int) + 1) S)) (f:=(fun M b => M.s.wr b ((I : Int) + 1) S)) hc (hec.trans h0))
        clear hec h0 HLs
        go_wp2_with (first
         | (refine wpList_index_one rfl _ _ _ rfl 37 _ 2 Tryz.underlying110 Tryz.underlying37 rfl rfl [.pointer (some ⟨d false,0,none⟩),.pointer (some ⟨d true,0,none⟩)] rfl .i64 1 _ rfl rfl (.pointer (some ⟨d true,0,none⟩)) (by decide) rfl ?_;simp only [aA,aB,Act.put,aC,aD,aE])
         | (go_at_call 100;refine hcl.mono ?_;rintro e w5 ⟨rfl,FF5,v5⟩))
        go_roundw
        case rel => exact (fun h => .inr (.inr h)) ⟨rfl,FF5,by have:=EV.out.trans v5;show Ev _ _ _ (l ++ mirC pbs m d FF5 (((M.doG (fun M b => M.s.wrC b ((I : Int) + 1) S) (fun M b => M.s.wr b ((I : Int) + 1) S) false)).doG (fun M b => M.s.wrC b ((I : Int) + 1) S) (fun M b => M.s.wr b ((I : Int) + 1) S) true));rw [HE.out];exact this⟩
        case measure => simp [intOf]
      · have u0 : (ec != 0) = true:=by simpa using h0
        have HE:=hid (doG_bad (e:=(fun M b => M.s.wrC b ((I : Int) + 1) S)) (f:=(fun M b => M.s.wr b ((I : Int) + 1) S)) hc (fun e => h0 (hec.symm.trans e)))
        clear hec h0
        go_wp2_with (first
         | (refine wpList_index_one rfl _ _ _ rfl 37 _ 2 Tryz.underlying110 Tryz.underlying37 rfl rfl [.pointer (some ⟨d false,0,none⟩),.pointer (some ⟨d true,0,none⟩)] rfl .i64 1 _ rfl rfl (.pointer (some ⟨d true,0,none⟩)) (by decide) rfl ?_;simp only [aA,aB,Act.put,aC,aD,aE])
         | (go_at_call 100;refine hcl.mono ?_;rintro e w5 ⟨rfl,FF5,v5⟩;have E5:=hid (EV.out.trans v5);have hlo:=HLs w5 FF5 E5.out.held hlv';clear HLs)
         | (go_at_call 104;refine hlo.mono ?_;rintro e w6 ⟨rfl,FF6,v6⟩))
        go_roundw
        case rel => exact (fun h => .inr (.inr h)) ⟨rfl,FF6,by have:=E5.out.trans v6;show Ev _ _ _ (l ++ mirC pbs m d FF6 (((M.doG (fun M b => M.s.wrC b ((I : Int) + 1) S) (fun M b => M.s.wr b ((I : Int) + 1) S) false)).doG (fun M b => M.s.wrC b ((I : Int) + 1) S) (fun M b => M.s.wr b ((I : Int) + 1) S) true));rw [HE.out];exact this⟩
        case measure => simp [intOf]
  · have hlf:=mleft_any ev.held
    go_wp2_with (go_at_call 105;refine hlf.mono ?_;rintro e w5 ⟨rfl,hw⟩;subst hw)
    go_ret
    exact ⟨rfl,FF1,ev⟩
end
section
variable {w w' w0 : World} {l rs : List Res} {pbs : List Nat} {m : Nat} {M M' : MS} {d : Bool → Nat} {FF FF' : Bool → List Nat}
theorem doGN_F (M : MS) : M.doGN (fun M b => M.s.flC b) (fun M b => M.s.fl b) 2 = M.eachF:=rfl
theorem doGN_S (M : MS) : M.doGN (fun M b => M.s.wrC b 0 (supS M.g (M.s.len b))) (fun M b => M.s.wr b 0 (supS M.g (M.s.len b))) 2 = M.eachS:=rfl
theorem doGN_W (M : MS) (I : Int) (S : ByteArray) : M.doGN (fun M b => M.s.wrC b I S) (fun M b => M.s.wr b I S) 2 = M.eachW I S:=rfl
theorem box_hd {b : Nat} {v : Value} : Box (Res.blk b [v] :: l) b v:=fun w r h => (h.blkAt 0 rfl : Blk w b [v]).cell 0
theorem eachS_stp (M : MS) : Stp 12 M.s M.eachS.s:=(doS_stp M false).trans (doS_stp _ true)
theorem eachF_stp (M : MS) : Stp 12 M.s M.eachF.s:=(doF_stp M false).trans (doF_stp _ true)
theorem eachW_stp (M : MS) (I : Int) (S : ByteArray) : Stp 12 M.s (M.eachW I S).s:=(doW_stp M I S false).trans (doW_stp _ I S true)
theorem eachS_one {M : MS} (h : M.c0 = true → M.c1 = false) : M.eachS.c0 = true → M.eachS.c1 = false:=by
 have key : ∀ (M : MS) (b : Bool),(M.c0 = true → M.c1 = false) → ((M.doS b).c0 = true → (M.doS b).c1 = false):=by
  intro M b h
  cases hc : M.c b with
  | false => rw [doS_off hc];exact h
  | true =>
    have hn : M.c (!b) = false:=by
     cases b
     · exact h hc
     · cases h0 : M.c0 with
       | false => exact h0
       | true => have:=h h0;rw [show M.c1 = true from hc] at this;cases this
    rw [doS_one hc hn]
    have h2:=(stampW_c M b).trans hn
    cases b
    · exact fun _ => h2
    · intro h3
      rw [show (M.stampW true).c0 = false from h2] at h3
      cases h3
 exact key _ true (key M false h)
theorem stamps_any (b : Bool) (h : Held w (l ++ mirC pbs m d FF M)) (ok : SysOk M.s) (ht : M.s.T < 999000) (hb1 : M.c b = true) (hn : M.c (!b) = false) :
 Calls Tryz.prog 127 #[.pointer (some ⟨m,0,none⟩)] w fun e w' => e = .returned (.tuple #[]) ∧ ∃ FF',Ev w (l ++ mirC pbs m d FF M) w' (l ++ mirC pbs m d FF' (M.stamp1 b)):=by
 have hone : M.c0 = true → M.c1 = false:=by
  intro h0
  cases b
  · exact hn
  · rw [show M.c0 = false from hn] at h0;cases h0
 have hadd : ∀ t,binOp .add t (W64 M.g) (.int .u64 1) = pure (W64 (M.g + 1)):=fun t => add_u64 t M.g 1
 have hmb:=mir_blk h
 have k4 : ∀ o : Obj,(w.alloc o).cell? ⟨m,4,none⟩ = some (W64 M.g):=fun o => (hmb.old o).cell 4
 have E1 : Hid (∀ o : Obj,o = .cells #[.pointer (some ⟨m,0,none⟩)] 105 → Ev w (l ++ mirC pbs m d FF M) (w.alloc o) ((Res.blk w.heap.size [.pointer (some ⟨m,0,none⟩)] :: l) ++ mirC pbs m d FF M)):=hid fun o ho => by
  subst ho
  exact (Ev.refl h).new ((Fr.refl [] w).alloc _) (Res.On.blk (Blk.alloc w [.pointer (some ⟨m,0,none⟩)] _)) (fun b hb => by simp [Res.blk] at hb;omega)
 have hbl : Hid (∀ o : Obj,Blk (w.alloc o) m (mirL d M)):=hid fun o => hmb.old o
 have HE:=hid (stamp1_each hb1 hn)
 have OK:=hid ok
 have HO:=hid hone
 have hlen : 4 < (mirL d M).length:=by simp [mirL]
 have HB : Hid (∀ (w1 : World) (M1 : MS) (FF1 : Bool → List Nat),Held w1 ((Res.blk w.heap.size [.pointer (some ⟨m,0,none⟩)] :: l) ++ mirC pbs m d FF1 M1) → w1.cell? ⟨w.heap.size,0,none⟩ = some (.pointer (some ⟨m,0,none⟩))):=hid fun w1 M1 FF1 h => box_hd w1 _ h
 have H1:=hid fun (w1 : World) (FF1 : Bool → List Nat) (h1 : Held w1 ((Res.blk w.heap.size [.pointer (some ⟨m,0,none⟩)] :: l) ++ mirC pbs m d FF1 { M with g:=M.g + 1 })) => eachS_any (mb:=w.heap.size) false (Bd:=999990) (Nat.le_refl _) (loseOk0 _) h1 ok (by show M.s.T + 20 < 999990;omega) (fun _ => hone) box_hd
 have ok2 : SysOk (MS.eachS { M with g:=M.g + 1 }).s:=(eachS_stp { M with g:=M.g + 1 }).ok ok
 have t2 : (MS.eachS { M with g:=M.g + 1 }).s.T + 20 < 999990:=Nat.lt_of_le_of_lt (Nat.add_le_add_right ((eachS_stp { M with g:=M.g + 1 }).T ok) 20) (by show M.s.T + 12 + 20 < 999990;omega)
 have o2:=eachS_one (M:={ M with g:=M.g + 1 }) hone
 have H2:=hid fun (w1 : World) (FF1 : Bool → List Nat) (h1 : Held w1 ((Res.blk w.heap.size [.pointer (some ⟨m,0,none⟩)] :: l) ++ mirC pbs m d FF1 (MS.eachS { M with g:=M.g + 1 }))) => eachF_any false (Bd:=999990) (Nat.le_refl _) (loseOk0 _) h1 ok2 t2 (fun _ => o2)
 rw [doGN_S] at H1
 rw [doGN_F,HE.out] at H2
 clear h ok hone hb1 hn hmb ok2 t2 o2
 generalize MS.eachS { M with g:=M.g + 1 } = M2 at *
 generalize M.stamp1 b = M3 at *
 go_enter Tryz.func127,Tryz.ntmps127
 go_wp2_with (first
  | (refine wpList_put rfl _ _ _ rfl rfl (W64 (M.g + 1)) rfl rfl (hbl.out _) hlen (by kernel_rfl) ?_;intro w4 f4 b4 hs4;have E4:=hid (mir_put (M':={ M with g:=M.g + 1 }) (E1.out _ rfl) f4 b4 rfl);have kb4:=HB.out _ _ _ E4.out.held;have hc4:=H1.out _ _ E4.out.held;clear H1;simp only [aA,aB,Act.put,aC,aD,aE])
  | (go_at_call 99;refine hc4.mono ?_;rintro e w5 ⟨rfl,FF5,v5⟩;have E5:=hid (E4.out.trans v5);have kb5:=HB.out _ _ _ E5.out.held;have hc5:=H2.out _ _ E5.out.held;clear H2 hc4)
  | (go_at_call 99;refine hc5.mono ?_;rintro e w6 ⟨rfl,FF6,v6⟩))
 go_end0
 exact ⟨rfl,FF6,Ev.less [] _ (E5.out.trans v6)⟩
theorem lose1_any (b : Bool) (h : Held w (l ++ mirC pbs m d FF M)) (ok : SysOk M.s) (ht : M.s.T < 999000) (hn : M.c (!b) = true) :
 Calls Tryz.prog 104 #[.pointer (some ⟨m,0,none⟩),.int .i64 (ixB b)] w fun e w' => e = .returned (.tuple #[]) ∧ ∃ FF',Ev w (l ++ mirC pbs m d FF M) w' (l ++ mirC pbs m d FF' (M.lose b)):=by
 have hb:=mir_blk h
 have HH:=hid h
 have heq:=eq_bools
 have HS:=hid fun (w1 : World) (h1 : Held w1 (l ++ mirC pbs m d FF (M.off b))) => stamps_any (!b) h1 ok ht (by rw [off_c];cases b <;> exact hn) (by rw [off_c];cases b <;> rfl)
 have HE : M.lose b = (M.off b).stamp1 (!b):=by unfold MS.lose;rw [off_c];cases b <;> (rw [if_pos];exact hn)
 rw [HE]
 generalize (M.off b).stamp1 (!b) = M3 at *
 obtain ⟨s,c0,c1,g⟩:=M
 clear h HE ok ht
 cases b
 · have hc' : c1 = true:=hn
   subst hc'
   simp only [mirL] at hb
   rw [show ixB false = 0 from rfl]
   go_enter Tryz.func104,Tryz.ntmps104
   go_wp2_with (first
    | (refine wpList_put rfl _ _ _ rfl rfl (.bool false) rfl rfl hb (by simp) (by kernel_rfl) ?_;intro w4 f4 b4 hs4;have b4' : Blk w4 m [.pointer (some ⟨d false,0,none⟩),.pointer (some ⟨d true,0,none⟩),.bool false,.bool true,W64 g]:=b4;simp only [aA,aB,Act.put,aC,aD,aE])
    | (refine wpList_load_ag rfl _ _ rfl rfl [.bool false,.bool true] b4' boolsT rfl rfl ?_;have E4:=hid (mir_put (M':=MS.off ⟨s,c0,true,g⟩ false) (Ev.refl HH.out) f4 b4' rfl);have hst:=HS.out w4 E4.out.held;simp only [aA,aB,Act.put,aC,aD,aE])
    | (go_at_call 127;refine hst.mono ?_;rintro e w5 ⟨rfl,FF5,v5⟩))
   go_end0
   exact ⟨rfl,FF5,E4.out.trans v5⟩
 · have hc' : c0 = true:=hn
   subst hc'
   simp only [mirL] at hb
   rw [show ixB true = 1 from rfl]
   go_enter Tryz.func104,Tryz.ntmps104
   go_wp2_with (first
    | (refine wpList_put rfl _ _ _ rfl rfl (.bool false) rfl rfl hb (by simp) (by kernel_rfl) ?_;intro w4 f4 b4 hs4;have b4' : Blk w4 m [.pointer (some ⟨d false,0,none⟩),.pointer (some ⟨d true,0,none⟩),.bool true,.bool false,W64 g]:=b4;simp only [aA,aB,Act.put,aC,aD,aE])
    | (refine wpList_load_ag rfl _ _ rfl rfl [.bool true,.bool false] b4' boolsT rfl rfl ?_;have E4:=hid (mir_put (M':=MS.off ⟨s,true,c1,g⟩ true) (Ev.refl HH.out) f4 b4' rfl);have hst:=HS.out w4 E4.out.held;simp only [aA,aB,Act.put,aC,aD,aE])
    | (go_at_call 127;refine hst.mono ?_;rintro e w5 ⟨rfl,FF5,v5⟩))
   go_end0
   exact ⟨rfl,FF5,E4.out.trans v5⟩
theorem loseOk1 {B : Nat} (hB : B ≤ 999000) : LoseOk true B l pbs m d:=by
 intro w b M FF h ok ht _
 cases hn : M.c (!b) with
 | false =>
   rw [lose0 hn]
   refine (lose0_any b h hn).mono ?_
   rintro e w' ⟨rfl,ev⟩
   exact ⟨rfl,FF,ev⟩
 | true => exact lose1_any b h ok (by omega) hn
end
section
variable {w w' w0 : World} {l rs : List Res} {pbs : List Nat} {m : Nat} {M M' : MS} {d : Bool → Nat} {FF FF' : Bool → List Nat}
def MS.atC (M : MS) (i : Int) : Int:=if i < 0 ∨ (M.s.len false : Int) - 1 ≤ i then 2 else M.leftC
theorem mlen_any (h : Held w (l ++ mirC pbs m d FF M)) (ok : SysOk M.s) : Calls Tryz.prog 79 #[.pointer (some ⟨m,0,none⟩)] w fun e w' => e = .returned (.int .i64 ((M.s.len false : Int) - 1)) ∧ w' = w:=by
 have hb:=mir_blk h
 have hL:=hid (sLen false (mir_sys h) ok)
 have hp : 1 ≤ M.s.len false:=(ok.g false).pos
 have hq:=len_le ok false
 have k0 : w.cell? ⟨m,0,none⟩ = some (.pointer (some ⟨d false,0,none⟩)):=hb.cell 0
 generalize M.s.len false = n at *
 generalize d false = da at *
 clear h ok hb
 have hi1 : -9223372036854775808 ≤ (n : Int) - 1:=by omega
 have hi2 : (n : Int) - 1 ≤ 9223372036854775807:=by omega
 go_enter Tryz.func79,Tryz.ntmps79
 go_wp2_with (go_at_call 55;refine hL.out.mono ?_;rintro e w5 ⟨rfl,hw⟩;subst hw)
 go_ret
 exact ⟨rfl,rfl⟩
theorem mat_any (h : Held w (l ++ mirC pbs m d FF M)) (ok : SysOk M.s) (i : Int) : Calls Tryz.prog 98 #[.pointer (some ⟨m,0,none⟩),.int .i64 i] w fun e w' => e = .returned (.int .i64 (M.atC i)) ∧ w' = w:=by
 have hb:=mir_blk h
 have hL:=hid (mlen_any h ok)
 have hF:=hid (mleft_any h)
 have k0 : w.cell? ⟨m,0,none⟩ = some (.pointer (some ⟨d false,0,none⟩)):=hb.cell 0
 unfold MS.atC
 generalize M.leftC = c at *
 generalize (M.s.len false : Int) - 1 = n at *
 generalize d false = da at *
 clear h ok hb
 by_cases h1 : i < 0
 · have u1 : decide (i < 0) = true:=by simpa using h1
   rw [if_pos (.inl h1)]
   go_enter Tryz.func98,Tryz.ntmps98
   go_wp2_with fail
   go_ret
   exact ⟨rfl,rfl⟩
 · have u1 : decide (i < 0) = false:=by simpa using h1
   by_cases h2 : n ≤ i
   · have u2 : decide (n ≤ i) = true:=by simpa using h2
     rw [if_pos (.inr h2)]
     go_enter Tryz.func98,Tryz.ntmps98
     go_wp2_with (go_at_call 79;refine hL.out.mono ?_;rintro e w5 ⟨rfl,hw⟩;subst hw)
     go_ret
     exact ⟨rfl,rfl⟩
   · have u2 : decide (n ≤ i) = false:=by simpa using h2
     rw [if_neg (fun h => h.elim h1 h2)]
     go_enter Tryz.func98,Tryz.ntmps98
     go_wp2_with (first
      | (go_at_call 79;refine hL.out.mono ?_;rintro e w5 ⟨rfl,hw⟩;subst hw)
      | (go_at_call 105;refine hF.out.mono ?_;rintro e w6 ⟨rfl,hw⟩;subst hw))
     go_ret
     exact ⟨rfl,rfl⟩
end
end Go.Proofs.YtgafefecookgaaaGreat
