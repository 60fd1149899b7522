/- Several texts put together: SecA, SecW, SecB, SecC, SecD, SecE, SecF, SecG. What each shows stands ahead of it. -/
import Derived.Test.YtgafefecookgaaaGreatProg
import Derived.Test.YtgafefecookgaaaGreatGCore
import Derived.WalkLawsBesides
import Derived.WalkSpells
import Derived.LoopN
open Go.World renaming size_alloc → aA,size_drew → aB
open List renaming setIfInBounds_toArray → aC,set_cons_succ → aD,set_cons_zero → aE,toList_toArray → aF,map_cons → aG,map_nil → aI,getD_cons_succ → aJ,getD_cons_zero → aK
set_option linter.unusedVariables false
set_option linter.unusedSimpArgs false
set_option maxRecDepth 20000
set_option maxHeartbeats 16000000
namespace Go.Proofs.YtgafefecookgaaaGreat
open Go Go.Xr Go.RowKit
structure SD where
 kept : List (List UInt8)
 now : List (List UInt8)
 loose : List (Nat × List UInt8)
 trace : List Int
 dead : Bool
def fl (l : List (List UInt8)) : List Value:=bv l.flatten
def wlc (l : List (Nat × List UInt8)) : List Value:=l.flatMap fun p => Value.int .i64 (p.1 : Int) :: bv p.2
def pwv : Option (Nat × Nat) → Value
 | none => .pointer none
 | some (p,_) => .pointer (some ⟨p,0,none⟩)
def pwOk (w : World) : Option (Nat × Nat) → Prop
 | none => True
 | some (p,l) => Blk w p [.int .i64 l] ∧ l ≤ 9223372036854775807
structure Good (D : SD) : Prop where
 same : D.kept.length = D.now.length
 pos : 0 < D.kept.length
 le : D.kept.length ≤ 16384
 k512 : ∀ s ∈ D.kept,s.length = 512
 n512 : ∀ s ∈ D.now,s.length = 512
 l512 : ∀ p ∈ D.loose,p.2.length = 512 ∧ p.1 < D.kept.length
def feet (d k n : Nat) (L T : Option Nat) : List Nat:=d :: k :: n :: (L.toList ++ T.toList)
structure Rep (w : World) (d : Nat) (D : SD) (pw : Option (Nat × Nat)) (F : List Nat) : Prop where
 good : Good D
 mem : ∃ kv nv lv tv k n L T,F = feet d k n L T ∧ F.Nodup ∧ Blk w d [kv,nv,lv,tv,.bool D.dead,pwv pw] ∧
  Xr.Own w 512 kv D.kept.length (fl D.kept) (some k) ∧ Xr.Own w 512 nv D.now.length (fl D.now) (some n) ∧
  Xr.Own w 513 lv D.loose.length (wlc D.loose) L ∧ Xr.Own w 1 tv D.trace.length (D.trace.map (.int .i64)) T
def ableN (D : SD) (pw : Option (Nat × Nat)) : Int :=
 if D.dead then 60 else match pw with
  | some (_,0) => 60
  | _ => 0
theorem able_any {w : World} {d : Nat} {D : SD} {pw : Option (Nat × Nat)} {F : List Nat} (h : Rep w d D pw F) (hp : pwOk w pw) :
 Calls Tryz.prog 29 #[.pointer (some ⟨d,0,none⟩)] w fun e w' => e = .returned (.int .i64 (ableN D pw)) ∧ w = w':=by
 obtain ⟨kv,nv,lv,tv,k,n,L,T,hF,hnd,hb,hk,hn,hl,ht⟩:=h.mem
 obtain ⟨kcap,hkv,_,_⟩ : ∃ cap,kv = .slice (some ⟨k,0,none⟩) D.kept.length cap ∧ D.kept.length ≤ cap ∧ cap ≤ maxLen:=by
  rcases hk.shape with ⟨_,_,_,h⟩ | ⟨b,cap,hb,h1,h2,h3⟩
  · cases h
  · cases hb;exact ⟨cap,h1,h2,h3⟩
 subst hkv
 have hc:=hb.cell
 clear hb hk hn hl ht hF hnd h
 obtain ⟨kept,now,loose,trace,dead⟩:=D
 have hsn:=@Lib.run_eql_slice_nil
 cases dead with
 | true =>
   go_enter Tryz.func29,Tryz.ntmps29
   go_wp2
   go_ret
   exact ⟨rfl,rfl⟩
 | false =>
   match pw,hp with
   | none,_ =>
     simp only [pwv] at hc
     go_enter Tryz.func29,Tryz.ntmps29
     go_wp2
     go_ret
     exact ⟨rfl,rfl⟩
   | some (p,0),hp =>
     simp only [pwv] at hc
     have hpc:=hp.1.cell
     clear hp
     go_enter Tryz.func29,Tryz.ntmps29
     go_wp2
     go_ret
     exact ⟨rfl,rfl⟩
   | some (p,l + 1),hp =>
     simp only [pwv] at hc
     have hpc:=hp.1.cell
     clear hp
     have hne : (((l + 1 : Nat) : Int) == 0) = false:=by simp;omega
     go_enter Tryz.func29,Tryz.ntmps29
     go_wp2
     go_ret
     exact ⟨rfl,rfl⟩
theorem notsec (s : ByteArray) (_hs : s.size ≤ 9223372036854775807) (w : World) :
 Calls Tryz.prog 109 #[.string s] w fun e w' => e = .returned (.bool (!decide (s.size = 512))) ∧ w = w':=by
 go_enter Tryz.func109,Tryz.ntmps109
 go_wp2
 go_ret
 refine ⟨?_,rfl⟩
 have e : ((s.size : Int) == 512) = decide (s.size = 512):=by rw [Bool.eq_iff_iff];simp;omega
 simp [bne,e]
theorem idx_nil (w : World) :
 Calls Tryz.prog 128 #[.slice none 0 0,.func (.func 109) #[] #[]] w fun e w' => e = .returned (.int .i64 (-1)) ∧ w = w':=by
 go_enter Tryz.func128,Tryz.ntmps128
 go_wp2
 refine wp_loop_rounds 1 ?_
 rw [rounds_succ]
 go_wp2
 go_ret
 exact ⟨rfl,rfl⟩
theorem idx_one (s : ByteArray) (hs : s.size ≤ 9223372036854775807) (b c : Nat) (w : World) (hb : w.cell? ⟨b,0,none⟩ = some (.string s)) :
 Calls Tryz.prog 128 #[.slice (some ⟨b,0,none⟩) 1 c,.func (.func 109) #[] #[]] w fun e w' => e = .returned (.int .i64 (if s.size = 512 then -1 else 0)) ∧ w = w':=by
 have hn:=notsec s hs w
 by_cases h : s.size = 512
 · have hd : decide (s.size = 512) = true:=by simp [h]
   rw [hd] at hn
   have H:=hid h
   clear h hd
   go_enter Tryz.func128,Tryz.ntmps128
   go_wp2
   refine wp_loop_rounds 2 ?_
   rw [rounds_succ]
   go_wp2_with fail
   refine hn.mono ?_
   rintro e w' ⟨rfl,rfl⟩
   go_wp2
   rw [rounds_succ]
   go_wp2
   go_ret
   exact ⟨by first | rfl | (rw [if_pos H.out];rfl),rfl⟩
 · have hd : decide (s.size = 512) = false:=by simp [h]
   rw [hd] at hn
   have H:=hid h
   clear h hd
   go_enter Tryz.func128,Tryz.ntmps128
   go_wp2
   refine wp_loop_rounds 2 ?_
   rw [rounds_succ]
   go_wp2_with fail
   refine hn.mono ?_
   rintro e w' ⟨rfl,rfl⟩
   go_wp2
   go_ret
   exact ⟨by first | rfl | (rw [if_neg H.out];rfl),rfl⟩
def txt (w : World) (v : Value) : Option ByteArray → Prop
 | none => v = .slice none 0 0
 | some s => ∃ b c,v = .slice (some ⟨b,0,none⟩) 1 c ∧ w.cell? ⟨b,0,none⟩ = some (.string s) ∧ s.size ≤ 9223372036854775807
def badT : Option ByteArray → Bool
 | none => false
 | some s => !decide (s.size = 512)
theorem cont_any {w : World} {v : Value} {os : Option ByteArray} (h : txt w v os) :
 Calls Tryz.prog 108 #[v,.func (.func 109) #[] #[]] w fun e w' => e = .returned (.bool (badT os)) ∧ w = w':=by
 cases os with
 | none =>
   simp only [txt] at h
   subst h
   go_enter Tryz.func108,Tryz.ntmps108
   go_wp2_with fail
   refine (idx_nil w).mono ?_
   rintro e w' ⟨rfl,rfl⟩
   go_wp2
   go_ret
   exact ⟨rfl,rfl⟩
 | some s =>
   obtain ⟨b,c,rfl,hb,hs⟩:=h
   have hi:=idx_one s hs b c w hb
   by_cases h : s.size = 512
   · have e : badT (some s) = false:=by simp [badT,h]
     rw [e]
     rw [if_pos h] at hi
     clear h e
     go_enter Tryz.func108,Tryz.ntmps108
     go_wp2_with fail
     refine hi.mono ?_
     rintro e w' ⟨rfl,rfl⟩
     go_wp2
     go_ret
     exact ⟨rfl,rfl⟩
   · have e : badT (some s) = true:=by simp [badT,h]
     rw [e]
     rw [if_neg h] at hi
     clear h e
     go_enter Tryz.func108,Tryz.ntmps108
     go_wp2_with fail
     refine hi.mono ?_
     rintro e w' ⟨rfl,rfl⟩
     go_wp2
     go_ret
     exact ⟨rfl,rfl⟩
def outB (D : SD) (i : Int) : Bool:=decide (i < 0) || decide ((D.kept.length : Int) ≤ i)
def atN (D : SD) (pw : Option (Nat × Nat)) (i : Int) (os : Option ByteArray) : Int :=
 if ableN D pw = 0 then (if outB D i || badT os then 2 else 0) else ableN D pw
theorem ableN_cases (D : SD) (pw : Option (Nat × Nat)) : ableN D pw = 0 ∨ ableN D pw = 60:=by
 unfold ableN
 split
 · exact .inr rfl
 · split
   · exact .inr rfl
   · exact .inl rfl
theorem Rep.keptSlice {w : World} {d : Nat} {D : SD} {pw : Option (Nat × Nat)} {F : List Nat} (h : Rep w d D pw F) :
 ∃ k cap nv lv tv,Blk w d [.slice (some ⟨k,0,none⟩) D.kept.length cap,nv,lv,tv,.bool D.dead,pwv pw] ∧ D.kept.length ≤ 16384:=by
 obtain ⟨kv,nv,lv,tv,k,n,L,T,hF,hnd,hb,hk,hn,hl,ht⟩:=h.mem
 rcases hk.shape with ⟨_,_,_,h1⟩ | ⟨b,cap,hb1,h1,h2,h3⟩
 · cases h1
 · cases hb1
   subst h1
   exact ⟨k,cap,nv,lv,tv,hb,h.good.le⟩
theorem at_any {w : World} {d : Nat} {D : SD} {pw : Option (Nat × Nat)} {F : List Nat} (h : Rep w d D pw F) (hp : pwOk w pw) (i : Int) (hi1 : -9223372036854775808 ≤ i) (hi2 : i ≤ 9223372036854775807) {v : Value} {os : Option ByteArray} (ho : txt w v os) :
 Calls Tryz.prog 82 #[.pointer (some ⟨d,0,none⟩),.int .i64 i,v] w fun e w' => e = .returned (.int .i64 (atN D pw i os)) ∧ w = w':=by
 have ha:=able_any h hp
 obtain ⟨k,cap,nv,lv,tv,hb,hle⟩:=h.keptSlice
 have hc:=hb.cell
 have hco:=cont_any ho
 clear hb h hp ho
 rcases ableN_cases D pw with h0 | h0
 · have e0 : atN D pw i os = (if outB D i || badT os then 2 else 0):=by simp [atN,h0]
   rw [e0]
   rw [h0] at ha
   clear e0 h0
   by_cases h1 : i < 0
   · have e1 : outB D i = true:=by simp [outB,h1]
     rw [e1]
     clear e1
     go_enter Tryz.func82,Tryz.ntmps82
     go_wp2_with (go_at_call 29;refine ha.mono ?_;rintro e w' ⟨rfl,rfl⟩)
     go_ret
     exact ⟨rfl,rfl⟩
   · by_cases h2 : (D.kept.length : Int) ≤ i
     · have e1 : outB D i = true:=by simp [outB,h2]
       rw [e1]
       clear e1
       go_enter Tryz.func82,Tryz.ntmps82
       go_wp2_with (go_at_call 29;refine ha.mono ?_;rintro e w' ⟨rfl,rfl⟩)
       go_ret
       exact ⟨rfl,rfl⟩
     · have e1 : outB D i = false:=by simp [outB];omega
       rw [e1,Bool.false_or]
       clear e1
       cases hbt : badT os with
       | true =>
         rw [hbt] at hco
         clear hbt
         go_enter Tryz.func82,Tryz.ntmps82
         go_wp2_with (first | (go_at_call 29;refine ha.mono ?_;rintro e w' ⟨rfl,rfl⟩) | (go_at_call 108;refine hco.mono ?_;rintro e w' ⟨rfl,rfl⟩))
         go_ret
         exact ⟨rfl,rfl⟩
       | false =>
         rw [hbt] at hco
         clear hbt
         go_enter Tryz.func82,Tryz.ntmps82
         go_wp2_with (first | (go_at_call 29;refine ha.mono ?_;rintro e w' ⟨rfl,rfl⟩) | (go_at_call 108;refine hco.mono ?_;rintro e w' ⟨rfl,rfl⟩))
         go_ret
         exact ⟨rfl,rfl⟩
 · have e0 : atN D pw i os = 60:=by simp [atN,h0]
   rw [e0]
   rw [h0] at ha
   clear e0 h0
   go_enter Tryz.func82,Tryz.ntmps82
   go_wp2_with (go_at_call 29;refine ha.mono ?_;rintro e w' ⟨rfl,rfl⟩)
   go_ret
   exact ⟨rfl,rfl⟩
def pwDec : Option (Nat × Nat) → Option (Nat × Nat)
 | none => none
 | some (p,l) => some (p,l - 1)
def pwF (pw : Option (Nat × Nat)) : List Nat:=(pw.map (·.1)).toList
theorem took_any {w : World} {pw : Option (Nat × Nat)} (hp : pwOk w pw) (h0 : ∀ p,pw ≠ some (p,0)) :
 Calls Tryz.prog 83 #[pwv pw] w fun e w' => e = .returned (.tuple #[]) ∧ Fr (pwF pw) w w' ∧ pwOk w' (pwDec pw) ∧ w'.heap.size = w.heap.size:=by
 match pw,hp,h0 with
 | none,_,_ =>
   simp only [pwv]
   go_enter Tryz.func83,Tryz.ntmps83
   go_wp2
   go_end0
   exact ⟨rfl,Fr.refl _ _,trivial,rfl⟩
 | some (p,0),_,h0 => exact absurd rfl (h0 p)
 | some (p,l + 1),hp,_ =>
   have hb:=hp.1
   have hl:=hp.2
   have hc:=hb.cell
   have hf:=hb.free 0 (by simp)
   clear hp
   simp only [pwv]
   go_enter Tryz.func83,Tryz.ntmps83
   go_wp2
   go_end0
   refine ⟨rfl,(Fr.refl _ _).setCell (.inl (by simp [pwF])) _,?_,by simp⟩
   refine ⟨?_,by simp;omega⟩
   have:=hb.set 0 (.int .i64 (l : Int))
   simpa using this
theorem Rep.keep {w w' : World} {d : Nat} {D : SD} {pw : Option (Nat × Nat)} {F S : List Nat} (h : Rep w d D pw F) (f : Fr S w w') (hS : ∀ x ∈ F,x ∉ S) : Rep w' d D pw F:=by
 refine ⟨h.good,?_⟩
 obtain ⟨kv,nv,lv,tv,k,n,L,T,hF,hnd,hb,hk,hn,hl,ht⟩:=h.mem
 subst hF
 have m : ∀ x,x ∈ feet d k n L T → x ∉ S:=hS
 exact ⟨kv,nv,lv,tv,k,n,L,T,rfl,hnd,f.blk hb (m d (by simp [feet])),hk.keep f (fun b e => by cases e;exact m k (by simp [feet])),
  hn.keep f (fun b e => by cases e;exact m n (by simp [feet])),hl.keep f (fun b e => m b (by simp [feet,e])),ht.keep f (fun b e => m b (by simp [feet,e]))⟩
theorem pwOk.keep {w w' : World} {pw : Option (Nat × Nat)} {S : List Nat} (h : pwOk w pw) (f : Fr S w w') (hS : ∀ x ∈ pwF pw,x ∉ S) : pwOk w' pw:=by
 match pw,h with
 | none,_ => trivial
 | some (p,l),h => exact ⟨f.blk h.1 (hS p (by simp [pwF])),h.2⟩
theorem Rep.lt {w : World} {d : Nat} {D : SD} {pw : Option (Nat × Nat)} {F : List Nat} (h : Rep w d D pw F) : ∀ x ∈ F,x < w.heap.size:=by
 obtain ⟨kv,nv,lv,tv,k,n,L,T,hF,hnd,hb,hk,hn,hl,ht⟩:=h.mem
 subst hF
 intro x hx
 simp only [feet,List.mem_cons,List.mem_append,Option.mem_toList] at hx
 rcases hx with rfl | rfl | rfl | hx | hx
 · exact hb.lt
 · exact hk.lt _ rfl
 · exact hn.lt _ rfl
 · exact hl.lt _ hx
 · exact ht.lt _ hx
theorem flat_len (l : List (List UInt8)) (h : ∀ x ∈ l,x.length = 512) : l.flatten.length = l.length * 512:=by
 induction l with
 | nil => rfl
 | cons a l ih =>
   simp only [List.flatten_cons,List.length_append,List.length_cons]
   rw [h a (by simp),ih (fun x hx => h x (by simp [hx]))]
   omega
theorem fl_cons (a : List UInt8) (l : List (List UInt8)) : fl (a :: l) = bv a ++ fl l:=by simp [fl]
theorem splice_flat : ∀ (l : List (List UInt8)) (i : Nat) (s : List UInt8),(∀ x ∈ l,x.length = 512) → i < l.length → s.length = 512 → splice (fl l) (i * 512) (bv s) = fl (l.set i s)
 | [],i,s,_,hi,_ => by simp at hi
 | a :: l,0,s,h,_,hs => by
   have ha:=h a (by simp)
   rw [fl_cons,List.set_cons_zero,fl_cons]
   unfold splice
   simp [hs,ha]
 | a :: l,i + 1,s,h,hi,hs => by
   have ha:=h a (by simp)
   have ih:=splice_flat l i s (fun x hx => h x (by simp [hx])) (by simpa using hi) hs
   rw [fl_cons,List.set_cons_succ,fl_cons,← ih]
   have e : (i + 1) * 512 = (bv a).length + i * 512:=by rw [bv_length,ha];omega
   unfold splice
   rw [e,Nat.add_assoc,List.take_length_add_append,List.drop_length_add_append]
   simp
theorem take_splice (cs vs : List Value) (off m : Nat) (h : off + vs.length ≤ m) : (splice cs off vs).take m = splice (cs.take m) off vs:=by
 unfold splice
 by_cases hl : off ≤ cs.length
 · have e1 : (cs.take off).length = off:=by simp;omega
   have e : m = (cs.take off ++ vs).length + (m - (off + vs.length)):=by simp;omega
   rw [e,List.take_length_add_append,← e]
   rw [List.take_take,Nat.min_eq_left (by omega),List.drop_take]
 · have e1 : cs.take off = cs:=List.take_of_length_le (by omega)
   have e2 : cs.drop (off + vs.length) = []:=List.drop_eq_nil_of_le (by omega)
   have e3 : cs.take m = cs:=List.take_of_length_le (by omega)
   rw [e3,e1,e2,List.take_of_length_le (by simp;omega)]
theorem feet_ne {F : List Nat} {d k n : Nat} {L T : Option Nat} (hF : F = feet d k n L T) (h : F.Nodup) :
 d ≠ k ∧ d ≠ n ∧ k ≠ n ∧ (∀ b,L = some b → b ≠ d ∧ b ≠ k ∧ b ≠ n) ∧ (∀ b,T = some b → b ≠ d ∧ b ≠ k ∧ b ≠ n) ∧ (∀ b c,L = some b → T = some c → b ≠ c):=by
 subst hF
 simp only [feet,List.nodup_cons,List.mem_cons,List.mem_append,Option.mem_toList,not_or,List.nodup_append] at h
 obtain ⟨⟨h1,h2,h3,h4⟩,⟨h5,h6,h7⟩,⟨h8,h9⟩,h10⟩:=h
 refine ⟨h1,h2,h5,fun b e => ⟨fun e2 => h3 (by simp [e,e2]),fun e2 => h6 (by simp [e,e2]),fun e2 => h8 (by simp [e,e2])⟩,
  fun b e => ⟨fun e2 => h4 (by simp [e,e2]),fun e2 => h7 (by simp [e,e2]),fun e2 => h9 (by simp [e,e2])⟩,fun b c e1 e2 => ?_⟩
 exact h10.2.2 b (by simp [e1]) c (by simp [e2])
theorem feet_nodup {d k n : Nat} {L T : Option Nat} (h1 : d ≠ k) (h2 : d ≠ n) (h3 : k ≠ n) (h4 : ∀ b,L = some b → b ≠ d ∧ b ≠ k ∧ b ≠ n) (h5 : ∀ b,T = some b → b ≠ d ∧ b ≠ k ∧ b ≠ n) (h6 : ∀ b c,L = some b → T = some c → b ≠ c) : (feet d k n L T).Nodup:=by
 simp only [feet,List.nodup_cons,List.mem_cons,List.mem_append,Option.mem_toList,not_or,List.nodup_append]
 refine ⟨⟨h1,h2,fun e => (h4 d e).1 rfl,fun e => (h5 d e).1 rfl⟩,⟨h3,fun e => (h4 k e).2.1 rfl,fun e => (h5 k e).2.1 rfl⟩,⟨fun e => (h4 n e).2.2 rfl,fun e => (h5 n e).2.2 rfl⟩,?_,?_,fun a ha b hb => h6 a b ha hb⟩
 · cases L <;> simp
 · cases T <;> simp
theorem inf77 : ∃ i z,Tryz.prog.info? 76 = some i ∧ i.zero = some z ∧ i.size = 513 ∧ i.bytes = 520 ∧ z.cells.size = 513:=by
 refine ⟨_,_,rfl,rfl,rfl,rfl,?_⟩
 kernel_rfl
theorem inf73 : ∃ i z,Tryz.prog.info? 74 = some i ∧ i.zero = some z ∧ i.size = 512 ∧ i.bytes = 512 ∧ z.cells.toList = List.replicate 512 (bt 0):=by
 refine ⟨_,_,rfl,rfl,rfl,rfl,?_⟩
 kernel_rfl
theorem inf3 : ∃ i,Tryz.prog.info? 3 = some i ∧ i.zero = some (.int .i64 0) ∧ i.size = 1 ∧ i.bytes = 8:=⟨_,rfl,rfl,rfl,rfl⟩
theorem write_ok {w : World} {d : Nat} {D : SD} {pw : Option (Nat × Nat)} {F : List Nat} (h : Rep w d D pw F) (hp : pwOk w pw) (hpF : ∀ x ∈ pwF pw,x ∉ F) (i : Nat) (hi : i < D.kept.length) (s : ByteArray) (hs : s.size = 512) (ha : ableN D pw = 0)
 (hll : D.loose.length < 1000000) (htl : D.trace.length < 1000000) :
 Calls Tryz.prog 53 #[.pointer (some ⟨d,0,none⟩),.int .i64 i,.string s] w fun e w' => e = .returned (.int .i64 0) ∧
  ∃ F',Rep w' d { D with now:=D.now.set i s.data.toList,loose:=D.loose ++ [(i,s.data.toList)],trace:=D.trace ++ [(i : Int)] } (pwDec pw) F' ∧ pwOk w' (pwDec pw) ∧ Fr (F ++ pwF pw) w w' ∧ ∀ x ∈ F',x ∈ F ∨ w.heap.size ≤ x:=by
 have hat : atN D pw i (some s) = 0:=by
  have e1 : outB D i = false:=by simp [outB];omega
  have e2 : badT (some s) = false:=by simp [badT,hs]
  simp [atN,ha,e1,e2]
 have hle:=h.good.le
 have hat2 : ∀ w1 : World,Fr [] w w1 → ∀ v,txt w1 v (some s) → Calls Tryz.prog 82 #[.pointer (some ⟨d,0,none⟩),.int .i64 i,v] w1 fun e w' => e = .returned (.int .i64 0) ∧ w1 = w':=by
  intro w1 f v hv
  have:=at_any (h.keep f (by simp)) (hp.keep f (by simp)) i (by omega) (by omega) hv
  rw [hat] at this
  exact this
 obtain ⟨kv,nv,lv,tv,k,n,L,T,hF,hnd,hb,hk,hn,hl,ht⟩:=h.mem
 obtain ⟨ncap,rfl,hncap,hncm⟩ : ∃ cap,nv = .slice (some ⟨n,0,none⟩) D.now.length cap ∧ D.now.length ≤ cap ∧ cap ≤ maxLen:=by
  rcases hn.shape with ⟨_,_,_,h1⟩ | ⟨b,cap,hb1,h1,h2,h3⟩
  · cases h1
  · cases hb1;exact ⟨cap,h1,h2,h3⟩
 have hi2 : i < D.now.length:=by rw [← h.good.same];exact hi
 have hc:=hb.cell
 have hsz : s.size ≤ 9223372036854775807:=by omega
 clear hat
 have HS:=hid hs
 have Ha:=hid ha
 clear hs ha
 have hdl : s.data.toList.length = 512:=by rw [Array.length_toList];exact HS.out
 have h73:=hid (show (Tryz.prog.info? 74).map (·.size) = some (bv s.data.toList).length by rw [bv_length,hdl];rfl)
 have h77:=hid (show (Tryz.prog.info? 76).map (·.size) = some (Value.int .i64 (i : Int) :: bv s.data.toList).length by rw [List.length_cons,bv_length,hdl];rfl)
 have Hsc:=hid (show 512 ≤ s.size by rw [HS.out];decide)
 have Hdl:=hid hdl
 clear hdl
 obtain ⟨i77,z77,hi77,hz77,hs77,hb77,hzc77⟩:=inf77
 have hp77 := fun w => Xr.run_places (P := Tryz.prog) [{ name := "i", type := 3, offset := 0, embedded := false, tag := "", pkgPath := "coffer/sector", byteOffset := 0 }, { name := "b", type := 74, offset := 1, embedded := false, tag := "", pkgPath := "coffer/sector", byteOffset := 8 }] [(0, 1), (1, 512)] rfl w
 have Hp77:=hid hp77
 clear hp77
 have Hi77:=hid hi77
 have Hz77:=hid hz77
 have Hs77:=hid hs77
 have Hb77:=hid hb77
 have Hzc77:=hid hzc77
 clear hi77 hz77 hs77 hb77 hzc77
 go_enter Tryz.func53,Tryz.ntmps53
 go_wp2_with fail
 refine (hat2 _ ((Fr.refl _ _).alloc _) _ ⟨_,_,rfl,by simp,hsz⟩).mono ?_
 rintro e w1 ⟨rfl,rfl⟩
 clear hat2
 go_wp2_with (first
  | (refine wpList_bytes_of_string rfl _ _ 5 _ rfl _ rfl Tryz.underlying9 Tryz.underlying119 Tryz.underlying5 ?_;intro w2 cap2 f2 hlt2 hb2 hcap2;(try simp only [World.size_alloc] at hlt2 hb2);simp only [World.size_alloc,Act.put,List.setIfInBounds_toArray,List.set_cons_succ,List.set_cons_zero])
  | (refine wpList_arrayAt rfl _ _ rfl 512 _ Tryz.underlying74 rfl Hsc.out ?_;all_goals (try simp only [World.size_alloc,Act.put,List.setIfInBounds_toArray,List.set_cons_succ,List.set_cons_zero]))
  | (refine wpList_load_agg rfl _ _ rfl rfl (bv s.data.toList) (by assumption) _ Tryz.underlying74 rfl h73.out ?hv1 ?_;all_goals (try simp only [World.size_alloc,Act.put,List.setIfInBounds_toArray,List.set_cons_succ,List.set_cons_zero]))
  | (refine wpList_build_struct rfl _ _ rfl _ _ _ _ Tryz.underlying76 Hi77.out Hz77.out Hp77.out (Value.int .i64 (i : Int) :: bv s.data.toList) ?hf1 ?_;all_goals (try simp only [World.size_alloc,Act.put,List.setIfInBounds_toArray,List.set_cons_succ,List.set_cons_zero]))
  | (refine wpList_alloc_agg rfl _ rfl _ _ _ Hi77.out Hz77.out Hzc77.out ?_;intro zs hzl hze hbz;(try simp only [World.size_alloc] at hbz);have Hzl:=hid hzl;clear hzl hze;simp only [World.size_alloc,Act.put,List.setIfInBounds_toArray,List.set_cons_succ,List.set_cons_zero];refine wpList_store_agg rfl _ _ _ rfl rfl (Value.int .i64 (i : Int) :: bv s.data.toList) rfl hbz h77.out ?hn1 ?h11 ?_;rotate_left 2;intro w3 f3 hb3 hs3;all_goals (try simp only [World.size_alloc,Act.put,List.setIfInBounds_toArray,List.set_cons_succ,List.set_cons_zero])))
 case hv1 => simp
 case hf1 => exact fill2 (fun x => #[(0,1),(1,512)][x]?) _ 1 512 Hzc77.out (Value.int .i64 (i : Int)) (Value.agg (bv s.data.toList).toArray) rfl (by simp [Value.cells];exact HS.out) rfl rfl
 case hn1 => have:=Hzl.out;have:=Hdl.out;simp;simp at this;omega
 case h11 =>
  intro u hu
  rcases List.mem_cons.1 hu with rfl | hu
  · rfl
  · exact bv_one _ u hu
 have f3' : Fr [] w w3:=(((Fr.refl [] w).alloc _).trans' f2).trans ((Fr.refl [] w2).alloc _ |>.trans f3 (by simp)) (by simp)
 have hq1 : w.heap.size ≤ w2.heap.size:=by omega
 have hb3' : Blk w3 w2.heap.size (Value.int .i64 (i : Int) :: bv s.data.toList):=by
  rw [splice_all _ _ (by rw [Hzl.out,List.length_cons,bv_length,Hdl.out])] at hb3
  exact hb3
 have hq3 : w2.heap.size < w3.heap.size:=by rw [hs3];simp
 clear hb3 hbz f3 hs3 hb2 f2 hlt2 hcap2
 generalize w2.heap.size = q at *
 have hF3 : ∀ x ∈ F,x < w.heap.size:=h.lt
 have hb4:=f3'.blk hb (by simp)
 have hn4:=hn.keep f3' (by simp)
 have hl4:=hl.keep f3' (by simp)
 have ht4:=ht.keep f3' (by simp)
 have hk4:=hk.keep f3' (by simp)
 have hp4:=hp.keep f3' (by simp)
 clear hb hn hl ht hk hc
 obtain ⟨ι,W,hι,hW1,hW2,hW0⟩:=family (fun w' => Blk w' d [kv,.slice (some ⟨n,0,none⟩) D.now.length ncap,lv,tv,.bool D.dead,pwv pw] ∧ Blk w' q (Value.int .i64 (i : Int) :: bv s.data.toList)) (w:=w3.drew) ⟨hb4,hb3'⟩
 have hS1 : ∀ j o,(W j).cell? ⟨d,o,none⟩ = [kv,.slice (some ⟨n,0,none⟩) D.now.length ncap,lv,tv,.bool D.dead,pwv pw][o]?:=fun j => (hW1 j).1.cell
 have HW1:=hid hW1
 have HW2:=hid hW2
 have HW0:=hid hW0
 clear hW1 hW2 hW0
 refine wp_region_X (fun w' => ∃ j,w' = W j) true (by kernel_rfl) ?_
 refine WX.pure [0,1,2,3,4,5,6,7] (by kernel_rfl) HW0.out ?_
 simp only [pick,aF,aG,aI,aJ,aK]
 repeat (go_big_quiet_step (fail))
 refine quiet_load_agg rfl _ _ rfl (by rfl) (bv s.data.toList) (fun w' hw => (by obtain ⟨j,rfl⟩:=hw;exact (HW1.out j).2)) _ Tryz.underlying74 rfl h73.out ?hv2 ?_
 case hv2 => simp;rw [List.take_of_length_le (by simp)]
 simp only [Act.put,List.setIfInBounds_toArray,List.set_cons_succ,List.set_cons_zero]
 repeat (go_big_quiet_step (fail))
 refine wpQuiet_nil ?_
 refine WX.eff 8 (by kernel_rfl) ?_
 simp only [pick,aF,aG,aI,aJ,aK]
 obtain ⟨ncs,hnb,hncl,hnt⟩ : ∃ cs,Blk w3 n cs ∧ cs.length = ncap * 512 ∧ cs.take (D.now.length * 512) = fl D.now:=by
  rcases hn4.2 with ⟨h1,_,_⟩ | ⟨b,cap,cs,h1,h2,_,_,h3,h4,h5⟩
  · cases h1
  · cases h1;cases h2;exact ⟨cs,h3,h4,h5⟩
 have hfit : i * 512 + (bv s.data.toList).length ≤ D.now.length * 512:=by rw [bv_length,Hdl.out];omega
 have hfit2 : i * 512 + (bv s.data.toList).length ≤ ncs.length:=by
  rw [hncl]
  exact Nat.le_trans hfit (Nat.mul_le_mul_right _ hncap)
 refine wpList_store_agg rfl _ _ _ rfl rfl (bv s.data.toList) rfl hnb.drew h73.out hfit2 (bv_one _) ?_
 intro w4 f4 hb5 hs4
 refine wpList_nil ?_
 refine After.end rfl ?_
 refine WX.done (by kernel_rfl) ?_
 simp only [Act.put]
 have f4' : Fr [n] w w4:=(f3'.drew.mono (T:=[n]) (by simp)).trans' f4
 obtain ⟨hdk,hnd1,hkn,hLn,hTn,hLT⟩:=feet_ne hF hnd
 have hn6 : Xr.Own w4 512 (.slice (some ⟨n,0,none⟩) D.now.length ncap) (D.now.set i s.data.toList).length (fl (D.now.set i s.data.toList)) (some n):=by
  have h1:=Xr.Own.blk (n:=D.now.length) (cap:=ncap) (size:=512) hb5 hncap hncm (by rw [splice_length _ _ _ hfit2,hncl])
  rw [take_splice _ _ _ _ hfit,hnt,splice_flat D.now i s.data.toList h.good.n512 hi2 Hdl.out] at h1
  simpa using h1
 have hq4 : q ≠ n:=by
  have:=hF3 n (by rw [hF];simp [feet])
  omega
 have f4'' : Fr [n] w3 w4:=((Fr.refl [n] w3).drew).trans' f4
 have hb6:=f4.blk hb4.drew (by simpa using hnd1)
 have hb3:=f4.blk hb3'.drew (by simpa using hq4)
 have hl6:=hl4.keep (f4'' : Fr [n] w3 w4) (fun b e => by simpa using (hLn b e).2.2)
 have ht6:=ht4.keep f4'' (fun b e => by simpa using (hTn b e).2.2)
 have hk6:=hk4.keep f4'' (fun b e => by cases e;simpa using hkn)
 have hp6:=hp4.keep f4'' (fun x hx => by simp;exact fun e => hpF x hx (by rw [hF,e];simp [feet]))
 have hq5 : q < w4.heap.size:=by have:=f4''.size;omega
 clear hS1 HW1 HW2 HW0 hι W ι hnb hncl hnt hn4 hl4 ht4 hk4 hp4 hb4 hb3' hb5
 go_wp2_with fail
 obtain ⟨ι,W,hι,hW1,hW2,hW0⟩:=family (fun w' => Blk w' d [kv,.slice (some ⟨n,0,none⟩) D.now.length ncap,lv,tv,.bool D.dead,pwv pw] ∧ Blk w' q (Value.int .i64 (i : Int) :: bv s.data.toList)) (w:=w4.drew) ⟨hb6,hb3⟩
 have hS1 : ∀ j o,(W j).cell? ⟨d,o,none⟩ = [kv,.slice (some ⟨n,0,none⟩) D.now.length ncap,lv,tv,.bool D.dead,pwv pw][o]?:=fun j => (hW1 j).1.cell
 have HW1:=hid hW1
 have HW2:=hid hW2
 have HW0:=hid hW0
 clear hW1 hW2 hW0
 refine wp_region_X (fun w' => ∃ j,w' = W j) true (by kernel_rfl) ?_
 refine WX.pure [0,1,2,3,4,5] (by kernel_rfl) HW0.out ?_
 simp only [pick,aF,aG,aI,aJ,aK]
 repeat (go_big_quiet_step (fail))
 refine quiet_load_agg rfl _ _ rfl (by rfl) (Value.int .i64 (i : Int) :: bv s.data.toList) (fun w' hw => (by obtain ⟨j,rfl⟩:=hw;exact (HW1.out j).2)) _ Tryz.underlying76 rfl h77.out ?hv3 ?_
 case hv3 => rw [List.drop_zero,List.take_length]
 simp only [Act.put,List.setIfInBounds_toArray,List.set_cons_succ,List.set_cons_zero]
 refine wpQuiet_nil ?_
 refine WX.eff 6 (by kernel_rfl) ?_
 simp only [pick,aF,aG,aI,aJ,aK]
 refine wpList_buildSlice_one rfl _ _ rfl _ _ _ 513 (Value.int .i64 (i : Int) :: bv s.data.toList) Tryz.underlying68 Hi77.out Hz77.out Hs77.out (by rfl) (by rw [List.length_cons,bv_length,Hdl.out]) Hzc77.out (by decide) (by decide) ?_
 intro hb7
 refine wpList_nil ?_
 simp only [Act.put,List.setIfInBounds_toArray,List.set_cons_succ,List.set_cons_zero]
 have f7 : Fr [] w4 (w4.drew.alloc (.cells (Value.int .i64 (i : Int) :: bv s.data.toList).toArray 76)):=((Fr.refl [] w4).drew).alloc _
 refine After.on (HW2.out _ ⟨f7.blk hb6 (by simp),f7.blk hb3 (by simp)⟩) ?_
 refine WX.eff 7 (by kernel_rfl) ?_
 simp only [pick,aF,aG,aI,aJ,aK]
 have hqF : ∀ b,b ∈ F → b ≠ q:=fun b hb e => by have:=hF3 b hb;omega
 have hl7:=hl6.keep f7 (by simp)
 refine wpList_append rfl _ _ _ rfl _ _ _ 513 520 Tryz.underlying68 Hi77.out Hz77.out Hs77.out Hb77.out Hzc77.out (by decide) rfl hl7 _ 1 1 (Value.int .i64 (i : Int) :: bv s.data.toList) rfl (by rw [List.length_cons,bv_length,Hdl.out]) (hb7.cells (by rw [List.drop_zero,List.take_length])) ?h1c (by unfold maxLen;omega) (by omega) ?_
 case h1c =>
  intro u hu
  rcases List.mem_cons.1 hu with rfl | hu
  · rfl
  · exact bv_one _ u hu
 intro lv' w6 L' hl8 f8 hL'
 refine wpList_nil ?_
 simp only [Act.put,List.setIfInBounds_toArray,List.set_cons_succ,List.set_cons_zero]
 obtain ⟨la,lc,rfl⟩:=hl8.isSlice
 have f8' : Fr L.toList w4 w6:=(f7.mono (T:=L.toList) (by simp)).trans' f8
 have hdL : d ∉ L.toList:=by simp;exact fun e => (hLn d e).1 rfl
 have hqL : q ∉ L.toList:=by simp;exact fun e => hqF q (by rw [hF];simp [feet,e]) rfl
 have hb8:=f8'.blk hb6 hdL
 have hb9:=f8'.blk hb3 hqL
 refine After.on (HW2.out _ ⟨hb8,hb9⟩) ?_
 refine WX.pure [8,9] (by kernel_rfl) (HW2.out _ ⟨hb8,hb9⟩) ?_
 simp only [pick,aF,aG,aI,aJ,aK]
 repeat (go_big_quiet_step (fail))
 refine wpQuiet_nil ?_
 refine WX.eff 10 (by kernel_rfl) ?_
 simp only [pick,aF,aG,aI,aJ,aK]
 have hc8:=hb8.cell
 have hf8:=hb8.free 2 (by simp)
 go_wp2_with fail
 refine After.end rfl ?_
 refine WX.done (by kernel_rfl) ?_
 have hb10:=hb8.set 2 (.slice la (D.loose.length + 1) lc)
 have f9 : Fr [d] w6 (w6.setCell ⟨d,2,none⟩ (.slice la (D.loose.length + 1) lc)):=(Fr.refl _ _).setCell (.inl (by simp)) _
 generalize w6.setCell ⟨d,2,none⟩ (.slice la (D.loose.length + 1) lc) = w7 at *
 simp only [List.set_cons_succ,List.set_cons_zero] at hb10
 have hdF : ∀ x ∈ pwF pw,x ∉ [d]:=fun x hx => by simp;exact fun e => hpF x hx (by rw [hF,e];simp [feet])
 have hpL : ∀ x ∈ pwF pw,x ∉ L.toList:=fun x hx e => hpF x hx (by rw [hF];simp [feet] at *;simp [e])
 have hpT : ∀ x ∈ pwF pw,x ∉ T.toList:=fun x hx e => hpF x hx (by rw [hF];simp [feet] at *;simp [e])
 have hp8:=(hp6.keep f8' hpL).keep f9 hdF
 have hk8:=(hk6.keep f8' (fun b e => by cases e;simp;exact fun e => (hLn k e).2.1 rfl)).keep f9 (fun b e => by cases e;simpa using hdk.symm)
 have hn8:=(hn6.keep f8' (fun b e => by cases e;simp;exact fun e => (hLn n e).2.2 rfl)).keep f9 (fun b e => by cases e;simpa using hnd1.symm)
 have ht8:=(ht6.keep f8' (fun b e => by simp;exact fun e2 => hLT b b e2 e rfl)).keep f9 (fun b e => by simpa using (hTn b e).1)
 have hL'd : ∀ b,L' = some b → b ≠ d ∧ b ≠ k ∧ b ≠ n ∧ (∀ c,T = some c → b ≠ c):=by
  intro b e
  rcases hL' with rfl | ⟨b',e',hge⟩
  · exact ⟨(hLn b e).1,(hLn b e).2.1,(hLn b e).2.2,fun c e3 => hLT b c e e3⟩
  · rw [e'] at e
    cases e
    have hge' : w.heap.size ≤ b:=Nat.le_trans f4'.size (Nat.le_trans f7.size hge)
    have hFb : ∀ x ∈ F,b ≠ x:=fun x hx e => by have:=hF3 x hx;omega
    exact ⟨hFb d (by rw [hF];simp [feet]),hFb k (by rw [hF];simp [feet]),hFb n (by rw [hF];simp [feet]),fun c e3 => hFb c (by rw [hF];simp [feet,e3])⟩
 have hl9:=hl8.keep f9 (fun b e => by simpa using (hL'd b e).1)
 have g7 : Fr (d :: n :: L.toList) w w7:=((f4'.mono (T:=d :: n :: L.toList) (by simp)).trans f8' (fun x hx => .inl (by simp at hx ⊢;simp [hx]))).trans f9 (by simp)
 have hc10:=hb10.cell
 clear hS1 HW1 HW2 HW0 hι W ι hc8 hf8 hb8 hb9 hl8 hl7 hl6 ht6 hk6 hn6 hp6 hb7 hb3 hb6
 obtain ⟨i3,hi3,hz3,hs3,hb3⟩:=inf3
 have Hi3:=hid hi3
 have Hz3:=hid hz3
 have Hs3:=hid hs3
 have Hb3:=hid hb3
 clear hi3 hz3 hs3 hb3
 go_wp2_with (refine wpList_append rfl _ _ _ rfl 3 _ _ 1 8 Tryz.underlying44 Hi3.out Hz3.out Hs3.out Hb3.out rfl (by decide) rfl (ht8.keep ((Fr.refl [] _).alloc _) (by simp)) _ 1 1 [.int .i64 (i : Int)] rfl rfl ((Blk.alloc w7 [.int .i64 (i : Int)] _).cells rfl) (by simp [Value.oneCell']) (by unfold maxLen;omega) (by omega) ?_;intro tv' w8 T' ht9 f10 hT';simp only [Act.put,List.setIfInBounds_toArray,List.set_cons_succ,List.set_cons_zero];obtain ⟨ta,tc,rfl⟩:=ht9.isSlice;have hb11:=f10.blk ((((Fr.refl [] w7).alloc _)).blk hb10 (by simp)) (show d ∉ T.toList by simp;exact fun e => (hTn d e).1 rfl);have hc11:=hb11.cell;have hf11:=hb11.free 3 (by simp))
 have hb12:=hb11.set 3 (.slice ta (D.trace.length + 1) tc)
 have f12 : Fr [d] w8 (w8.setCell ⟨d,3,none⟩ (.slice ta (D.trace.length + 1) tc)):=(Fr.refl _ _).setCell (.inl (by simp)) _
 have f10' : Fr T.toList w7 w8:=((Fr.refl (T.toList) w7).alloc (.cells #[Value.int .i64 (i : Int)] 3)).trans' f10
 have hT'd : ∀ b,T' = some b → b ≠ d ∧ b ≠ k ∧ b ≠ n ∧ (∀ c,L' = some c → c ≠ b):=by
  intro b e
  rcases hT' with rfl | ⟨b',e',hge⟩
  · exact ⟨(hTn b e).1,(hTn b e).2.1,(hTn b e).2.2,fun c e3 => (hL'd c e3).2.2.2 b e⟩
  · rw [e'] at e
    cases e
    have hge' : w7.heap.size ≤ b:=by simp at hge;omega
    have hFb : ∀ x ∈ F,b ≠ x:=fun x hx e => by have:=hF3 x hx;have:=g7.size;omega
    exact ⟨hFb d (by rw [hF];simp [feet]),hFb k (by rw [hF];simp [feet]),hFb n (by rw [hF];simp [feet]),fun c e3 e4 => by have:=hl9.lt c e3;omega⟩
 have hp9:=(hp8.keep f10' hpT).keep f12 hdF
 have hk9:=(hk8.keep f10' (fun b e => by cases e;simp;exact fun e => (hTn k e).2.1 rfl)).keep f12 (fun b e => by cases e;simpa using hdk.symm)
 have hn9:=(hn8.keep f10' (fun b e => by cases e;simp;exact fun e => (hTn n e).2.2 rfl)).keep f12 (fun b e => by cases e;simpa using hnd1.symm)
 have hl10:=(hl9.keep f10' (fun b e => by simp;exact fun e2 => (hL'd b e).2.2.2 b e2 rfl)).keep f12 (fun b e => by simpa using (hL'd b e).1)
 have ht10:=ht9.keep f12 (fun b e => by simpa using (hT'd b e).1)
 have g9 : Fr F w (w8.setCell ⟨d,3,none⟩ (.slice ta (D.trace.length + 1) tc)):=by
  have hsub : ∀ x,x ∈ d :: n :: L.toList ∨ x ∈ T.toList ∨ x = d → x ∈ F:=by
   intro x hx
   rw [hF]
   simp [feet] at hx ⊢
   rcases hx with (h | h | h) | h | h <;> simp [h]
  exact ((g7.mono (T:=F) (fun x hx => .inl (hsub x (.inl hx)))).trans f10' (fun x hx => .inl (hsub x (.inr (.inl hx))))).trans f12 (fun x hx => .inl (hsub x (.inr (.inr (by simpa using hx)))))
 generalize w8.setCell ⟨d,3,none⟩ (.slice ta (D.trace.length + 1) tc) = w9 at *
 simp only [List.set_cons_succ,List.set_cons_zero] at hb12
 have h0 : ∀ p,pw ≠ some (p,0):=by
  intro p e
  have:=Ha.out
  rw [e] at this
  simp [ableN] at this
 refine (took_any hp9 h0).mono ?_
 rintro e w10 ⟨rfl,f13,hp10,hs10⟩
 go_wp2_with fail
 go_ret
 refine ⟨rfl,feet d k n L' T',⟨⟨?_,?_,?_,?_,?_,?_⟩,?_⟩,hp10,?_,?_⟩
 · simp only [List.length_set];exact h.good.same
 · exact h.good.pos
 · exact h.good.le
 · exact h.good.k512
 · intro x hx
   rcases List.mem_or_eq_of_mem_set hx with h1 | h1
   · exact h.good.n512 x h1
   · rw [h1];exact Hdl.out
 · intro p hp
   rcases List.mem_append.1 hp with h1 | h1
   · exact h.good.l512 p h1
   · simp only [List.mem_singleton] at h1
     rw [h1]
     exact ⟨Hdl.out,hi⟩
 · have hmem : ∀ x,x ∈ feet d k n L' T' → x ∉ pwF pw:=by
    intro x hx hx2
    have hxF:=hpF x hx2
    have hxlt : x < w.heap.size:=by
     match pw,hp,hx2 with
     | some (p,l),hp,hx2 =>
       simp [pwF] at hx2
       subst hx2
       exact hp.1.lt
    simp only [feet,List.mem_cons,List.mem_append,Option.mem_toList] at hx
    rcases hx with rfl | rfl | rfl | hx | hx
    · exact hxF (by rw [hF];simp [feet])
    · exact hxF (by rw [hF];simp [feet])
    · exact hxF (by rw [hF];simp [feet])
    · rcases hL' with rfl | ⟨b',e',hge⟩
      · exact hxF (by rw [hF];simp [feet,hx])
      · rw [e'] at hx
        cases hx
        have:=f4'.size
        have:=f7.size
        omega
    · rcases hT' with rfl | ⟨b',e',hge⟩
      · exact hxF (by rw [hF];simp [feet,hx])
      · rw [e'] at hx
        cases hx
        have:=g7.size
        simp at hge
        omega
   have hpe : pwv (pwDec pw) = pwv pw:=by cases pw <;> rfl
   refine ⟨kv,.slice (some ⟨n,0,none⟩) D.now.length ncap,.slice la (D.loose.length + 1) lc,.slice ta (D.trace.length + 1) tc,k,n,L',T',rfl,feet_nodup hdk hnd1 hkn (fun b e => ⟨(hL'd b e).1,(hL'd b e).2.1,(hL'd b e).2.2.1⟩) (fun b e => ⟨(hT'd b e).1,(hT'd b e).2.1,(hT'd b e).2.2.1⟩) (fun b c e1 e2 => (hT'd c e2).2.2.2 b e1),?_,?_,?_,?_,?_⟩
   · rw [hpe]
     exact f13.blk hb12 (hmem d (by simp [feet]))
   · exact hk9.keep f13 (fun b e => by cases e;exact hmem k (by simp [feet]))
   · have:=hn9.keep f13 (fun b e => by cases e;exact hmem n (by simp [feet]))
     exact this
   · have:=hl10.keep f13 (fun b e => hmem b (by simp [feet,e]))
     simpa [wlc] using this
   · have:=ht10.keep f13 (fun b e => hmem b (by simp [feet,e]))
     simpa using this
 · exact (g9.mono (T:=F ++ pwF pw) (fun x hx => .inl (by simp [hx]))).trans f13 (fun x hx => .inl (by simp [hx]))
 · intro x hx
   simp only [feet,List.mem_cons,List.mem_append,Option.mem_toList] at hx
   rcases hx with rfl | rfl | rfl | hx | hx
   · exact .inl (by rw [hF];simp [feet])
   · exact .inl (by rw [hF];simp [feet])
   · exact .inl (by rw [hF];simp [feet])
   · rcases hL' with rfl | ⟨b',e',hge⟩
     · exact .inl (by rw [hF];simp [feet,hx])
     · rw [e'] at hx
       cases hx
       exact .inr (Nat.le_trans f4'.size (Nat.le_trans f7.size hge))
   · rcases hT' with rfl | ⟨b',e',hge⟩
     · exact .inl (by rw [hF];simp [feet,hx])
     · rw [e'] at hx
       cases hx
       have:=g7.size
       simp at hge
       exact .inr (by omega)
theorem inf73' : ∃ i z,Tryz.prog.info? 74 = some i ∧ i.zero = some z ∧ i.size = 512 ∧ i.bytes = 512 ∧ z.cells.size = 512:=by
 refine ⟨_,_,rfl,rfl,rfl,rfl,?_⟩
 kernel_rfl
theorem inf3' : ∃ i z,Tryz.prog.info? 3 = some i ∧ i.zero = some z ∧ i.size = 1 ∧ i.bytes = 8 ∧ z.cells.size = 1:=⟨_,_,rfl,rfl,rfl,rfl,rfl⟩
theorem cloneS_any {w : World} {v : Value} {n : Nat} {xs : List Value} {b : Nat} (h : Own w 512 v n xs (some b)) (h1 : ∀ u ∈ xs,u.oneCell' = true) (hm : n ≤ maxLen) (hb : n * 512 ≤ 140737488355328) :
 Calls Tryz.prog 30 #[v] w fun e w' => ∃ v' b',e = .returned v' ∧ Own w' 512 v' n xs (some b') ∧ w.heap.size ≤ b' ∧ Fr [] w w':=by
 obtain ⟨i0,z0,hi0,hz0,hs0,hb0,hzc0⟩:=inf73'
 have Hi:=hid hi0
 have Hz:=hid hz0
 have Hs:=hid hs0
 have Hb:=hid hb0
 have Hzc:=hid hzc0
 clear hi0 hz0 hs0 hb0 hzc0
 have hsn:=@Lib.run_eql_slice_nil
 have HX:=hid h.1
 obtain ⟨cap,cs,rfl,h2,h3,h4,h5,h6⟩ : ∃ cap cs,v = .slice (some ⟨b,0,none⟩) n cap ∧ n ≤ cap ∧ cap ≤ maxLen ∧ Blk w b cs ∧ cs.length = cap * 512 ∧ cs.take (n * 512) = xs:=by
  rcases h.2 with ⟨_,_,h2⟩ | ⟨b',cap,cs,h1,h2⟩
  · cases h2
  · cases h1;exact ⟨cap,cs,h2⟩
 have H6:=hid h6
 have H5:=hid h5
 clear h6 h5 h
 have ho : Own (w.alloc (.cells #[] 74)) 512 (.slice (some ⟨w.heap.size,0,none⟩) 0 0) 0 [] (some w.heap.size) :=
  Own.blk (cs:=[]) (Blk.alloc w [] _) (Nat.le_refl _) (by simp) (by simp)
 have hcl:=(h4.old (.cells #[] 74)).cells (off:=0) (vs:=xs) (by rw [List.drop_zero,HX.out];exact H6.out)
 go_enter Tryz.func30,Tryz.ntmps30
 go_wp2_with (refine wpList_append rfl _ _ _ rfl 74 _ _ 512 512 Tryz.underlying67 Hi.out Hz.out Hs.out Hb.out Hzc.out (by decide) rfl ho _ n cap xs rfl HX.out hcl h1 (by omega) (by omega) ?_;intro v' w1 B' ho1 f1 hB';simp only [aA,aB,Act.put,aC,aD,aE])
 go_ret
 simp only [Nat.zero_add,List.nil_append] at ho1
 have f2 : Fr [] w w1:=((Fr.refl [] w).alloc _).trans f1 (fun x hx => .inr (by simp at hx;omega))
 rcases hB' with rfl | ⟨b',rfl,hge⟩
 · exact ⟨v',_,rfl,ho1,Nat.le_refl _,f2⟩
 · exact ⟨v',b',rfl,ho1,by simp at hge;omega,f2⟩
theorem cloneI_nil (w : World) : Calls Tryz.prog 47 #[.slice none 0 0] w fun e w' => e = .returned (.slice none 0 0) ∧ w = w':=by
 have hsn:=@Lib.run_eql_slice_nil
 go_enter Tryz.func47,Tryz.ntmps47
 go_wp2
 go_ret
 exact ⟨rfl,rfl⟩
theorem cloneI_any {w : World} {v : Value} {n : Nat} {xs : List Value} {b : Nat} (h : Own w 1 v n xs (some b)) (h1 : ∀ u ∈ xs,u.oneCell' = true) (hm : n ≤ maxLen) (hb : n * 8 ≤ 140737488355328) :
 Calls Tryz.prog 47 #[v] w fun e w' => ∃ v' b',e = .returned v' ∧ Own w' 1 v' n xs (some b') ∧ w.heap.size ≤ b' ∧ Fr [] w w':=by
 obtain ⟨i0,z0,hi0,hz0,hs0,hb0,hzc0⟩:=inf3'
 have Hi:=hid hi0
 have Hz:=hid hz0
 have Hs:=hid hs0
 have Hb:=hid hb0
 have Hzc:=hid hzc0
 clear hi0 hz0 hs0 hb0 hzc0
 have hsn:=@Lib.run_eql_slice_nil
 have HX:=hid h.1
 obtain ⟨cap,cs,rfl,h2,h3,h4,h5,h6⟩ : ∃ cap cs,v = .slice (some ⟨b,0,none⟩) n cap ∧ n ≤ cap ∧ cap ≤ maxLen ∧ Blk w b cs ∧ cs.length = cap * 1 ∧ cs.take (n * 1) = xs:=by
  rcases h.2 with ⟨_,_,h2⟩ | ⟨b',cap,cs,h1,h2⟩
  · cases h2
  · cases h1;exact ⟨cap,cs,h2⟩
 have H6:=hid h6
 have H5:=hid h5
 clear h6 h5 h
 have ho : Own (w.alloc (.cells #[] 3)) 1 (.slice (some ⟨w.heap.size,0,none⟩) 0 0) 0 [] (some w.heap.size) :=
  Own.blk (cs:=[]) (Blk.alloc w [] _) (Nat.le_refl _) (by simp) (by simp)
 have hcl:=(h4.old (.cells #[] 3)).cells (off:=0) (vs:=xs) (by rw [List.drop_zero,HX.out];exact H6.out)
 go_enter Tryz.func47,Tryz.ntmps47
 go_wp2_with (refine wpList_append rfl _ _ _ rfl 3 _ _ 1 8 Tryz.underlying44 Hi.out Hz.out Hs.out Hb.out Hzc.out (by decide) rfl ho _ n cap xs rfl HX.out hcl h1 (by omega) (by omega) ?_;intro v' w1 B' ho1 f1 hB';simp only [aA,aB,Act.put,aC,aD,aE])
 go_ret
 simp only [Nat.zero_add,List.nil_append] at ho1
 have f2 : Fr [] w w1:=((Fr.refl [] w).alloc _).trans f1 (fun x hx => .inr (by simp at hx;omega))
 rcases hB' with rfl | ⟨b',rfl,hge⟩
 · exact ⟨v',_,rfl,ho1,Nat.le_refl _,f2⟩
 · exact ⟨v',b',rfl,ho1,by simp at hge;omega,f2⟩
def zsec : List UInt8:=List.replicate 512 0
def newSD (n : Nat) : SD:=⟨List.replicate n zsec,List.replicate n zsec,[],[],false⟩
theorem fl_zero (n : Nat) : fl (List.replicate n zsec) = List.replicate (n * 512) (bt 0):=by
 unfold fl zsec
 rw [List.flatten_replicate_replicate,bv_replicate]
theorem new_good (n : Nat) (h1 : 1 ≤ n) (h2 : n ≤ 16384) : Good (newSD n):=by
 refine ⟨by simp [newSD],by simp [newSD];omega,by simp [newSD];omega,?_,?_,?_⟩
 · intro s hs
   rw [List.eq_of_mem_replicate hs]
   exact List.length_replicate
 · intro s hs
   rw [List.eq_of_mem_replicate hs]
   exact List.length_replicate
 · intro p hp
   simp [newSD] at hp
theorem new_fin {w' : World} {a b d n : Nat} (h1 : 1 ≤ n) (h2 : n ≤ 16384) (ha : Blk w' a (List.replicate (n * 512) (bt 0))) (hb : Blk w' b (List.replicate (n * 512) (bt 0)))
 (hd : Blk w' d [.slice (some ⟨a,0,none⟩) n n,.slice (some ⟨b,0,none⟩) n n,.slice none 0 0,.slice none 0 0,.bool false,.pointer none]) (hab : a ≠ b) (had : d ≠ a) (hbd : d ≠ b) :
 Rep w' d (newSD n) none [d,a,b]:=by
 have hm : n ≤ maxLen:=by unfold maxLen;omega
 refine ⟨new_good n h1 h2,_,_,_,_,a,b,none,none,rfl,by simp [had,hbd,hab],hd,?_,?_,Xr.Own.nil _ _,Xr.Own.nil _ _⟩
 · have:=Xr.Own.blk (n:=n) (cap:=n) (size:=512) ha (Nat.le_refl _) hm (by simp)
   simpa [newSD,fl_zero] using this
 · have:=Xr.Own.blk (n:=n) (cap:=n) (size:=512) hb (Nat.le_refl _) hm (by simp)
   simpa [newSD,fl_zero] using this
def parts (d : Nat) (D : SD) (pw : Option (Nat × Nat)) (kv nv lv tv : Value) (k n : Nat) (L T : Option Nat) : List Res :=
 [Res.blk d [kv,nv,lv,tv,.bool D.dead,pwv pw],Res.own 512 kv D.kept.length (fl D.kept) (some k),Res.own 512 nv D.now.length (fl D.now) (some n),Res.own 513 lv D.loose.length (wlc D.loose) L,Res.own 1 tv D.trace.length (D.trace.map (.int .i64)) T]
theorem feet_parts (d : Nat) (D : SD) (pw : Option (Nat × Nat)) (kv nv lv tv : Value) (k n : Nat) (L T : Option Nat) : feetOf (parts d D pw kv nv lv tv k n L T) = feet d k n L T:=by
 simp [feetOf,parts,feet,Res.blk,Res.own]
theorem Rep.held {w : World} {d : Nat} {D : SD} {pw : Option (Nat × Nat)} {F : List Nat} (h : Rep w d D pw F) :
 ∃ kv nv lv tv k n L T,F = feet d k n L T ∧ Held w (parts d D pw kv nv lv tv k n L T):=by
 obtain ⟨kv,nv,lv,tv,k,n,L,T,hF,hnd,hb,hk,hn,hl,ht⟩:=h.mem
 refine ⟨kv,nv,lv,tv,k,n,L,T,hF,?_,?_,?_,?_⟩
 · intro r hr
   simp only [parts,List.mem_cons,List.not_mem_nil,or_false] at hr
   rcases hr with rfl | rfl | rfl | rfl | rfl
   · exact (Res.On.blk hb).loc
   · exact (Res.On.own hk).loc
   · exact (Res.On.own hn).loc
   · exact (Res.On.own hl).loc
   · exact (Res.On.own ht).loc
 · intro r hr
   simp only [parts,List.mem_cons,List.not_mem_nil,or_false] at hr
   rcases hr with rfl | rfl | rfl | rfl | rfl
   · exact hb
   · exact hk
   · exact hn
   · exact hl
   · exact ht
 · intro r hr
   simp only [parts,List.mem_cons,List.not_mem_nil,or_false] at hr
   rcases hr with rfl | rfl | rfl | rfl | rfl
   · exact (Res.On.blk hb).lt
   · exact (Res.On.own hk).lt
   · exact (Res.On.own hn).lt
   · exact (Res.On.own hl).lt
   · exact (Res.On.own ht).lt
 · have:=feet_parts d D pw kv nv lv tv k n L T
   unfold feetOf at this
   rw [this,← hF]
   exact hnd
theorem Rep.ofHeld {w : World} {d : Nat} {D : SD} {pw : Option (Nat × Nat)} {kv nv lv tv : Value} {k n : Nat} {L T : Option Nat} (hg : Good D) (h : Held w (parts d D pw kv nv lv tv k n L T)) : Rep w d D pw (feet d k n L T):=by
 refine ⟨hg,kv,nv,lv,tv,k,n,L,T,rfl,?_,h.so (.blk _ _) (by simp [parts]),h.so (.own 512 kv _ _ _) (by simp [parts]),h.so (.own 512 nv _ _ _) (by simp [parts]),h.so (.own 513 _ _ _ _) (by simp [parts]),h.so (.own 1 _ _ _ _) (by simp [parts])⟩
 rw [← feet_parts d D pw kv nv lv tv k n L T]
 exact h.apart
def Res.disk (d : Nat) (D : SD) (pw : Option (Nat × Nat)) (F : List Nat) : Res:=⟨F,fun w => Rep w d D pw F⟩
def Res.pow (pw : Option (Nat × Nat)) : Res:=⟨pwF pw,fun w => pwOk w pw⟩
theorem On.disk {w : World} {d : Nat} {D : SD} {pw : Option (Nat × Nat)} {F : List Nat} (h : Rep w d D pw F) : (Res.disk d D pw F).On w:=by
 obtain ⟨kv,nv,lv,tv,k,n,L,T,hF,H⟩:=h.held
 refine ⟨?_,h,h.lt,by rw [hF,← feet_parts d D pw kv nv lv tv];exact H.apart⟩
 intro w w' hs h
 obtain ⟨kv,nv,lv,tv,k,n,L,T,hF,H⟩:=h.held
 have hF2:=feet_parts d D pw kv nv lv tv k n L T
 have H' : Held w' (parts d D pw kv nv lv tv k n L T):=by
  refine ⟨H.loc,fun r hr => H.loc r hr w w' (fun b hb hlt => hs b ?_ hlt) (H.so r hr),fun r hr b hb => ?_,H.apart⟩
  · show b ∈ F
    rw [hF,← hF2]
    exact List.mem_flatMap.2 ⟨r,hr,hb⟩
  · have h1:=H.lt r hr b hb
    have h2:=hs b (show b ∈ F by rw [hF,← hF2];exact List.mem_flatMap.2 ⟨r,hr,hb⟩) h1
    by_cases h3 : b < w'.heap.size
    · exact h3
    · rw [Array.getElem?_eq_none (by omega),Array.getElem?_eq_getElem h1] at h2
      cases h2
 show Rep w' d D pw F
 rw [hF]
 exact Rep.ofHeld h.good H'
theorem On.pow {w : World} {pw : Option (Nat × Nat)} (h : pwOk w pw) : (Res.pow pw).On w:=by
 match pw,h with
 | none,_ => exact ⟨fun _ _ _ _ => trivial,trivial,fun b hb => by simp [Res.pow,pwF] at hb,by simp [Res.pow,pwF]⟩
 | some (p,l),h =>
   refine ⟨fun w w' hs h => ?_,h,fun b hb => ?_,by simp [Res.pow,pwF]⟩
   · exact ⟨h.1.same (hs p (by simp [Res.pow,pwF]) h.1.lt),h.2⟩
   · simp [Res.pow,pwF] at hb
     rw [hb]
     exact h.1.lt
theorem Rep.full {w : World} {d : Nat} {D : SD} {pw : Option (Nat × Nat)} {F : List Nat} (h : Rep w d D pw F) (hp : pwOk w pw) (hpF : ∀ x ∈ pwF pw,x ∉ F) :
 ∃ kv nv lv tv k n L T,F = feet d k n L T ∧ Held w (Res.pow pw :: parts d D pw kv nv lv tv k n L T):=by
 obtain ⟨kv,nv,lv,tv,k,n,L,T,hF,H⟩:=h.held
 refine ⟨kv,nv,lv,tv,k,n,L,T,hF,H.new (On.pow hp) fun b hb r' hr' hbr => ?_⟩
 refine hpF b hb ?_
 rw [hF,← feet_parts d D pw kv nv lv tv]
 exact List.mem_flatMap.2 ⟨r',hr',hbr⟩
theorem pwv_dec (pw : Option (Nat × Nat)) : pwv (pwDec pw) = pwv pw:=by cases pw <;> rfl
theorem pwF_dec (pw : Option (Nat × Nat)) : pwF (pwDec pw) = pwF pw:=by cases pw <;> rfl
theorem fl_drop : ∀ (l : List (List UInt8)) (i : Nat) (hi : i < l.length),(∀ x ∈ l,x.length = 512) → ((fl l).drop (i * 512)).take 512 = bv l[i]
 | [],i,hi,_ => by simp at hi
 | a :: l,0,_,h => by
   have ha:=h a (by simp)
   rw [fl_cons,Nat.zero_mul,List.drop_zero,List.take_append_of_le_length (by rw [bv_length,ha];exact Nat.le_refl _),List.take_of_length_le (by rw [bv_length,ha];exact Nat.le_refl _)]
   rfl
 | a :: l,i + 1,hi,h => by
   have ha:=h a (by simp)
   have ih:=fl_drop l i (by simpa using hi) (fun x hx => h x (by simp [hx]))
   have e : (i + 1) * 512 = (bv a).length + i * 512:=by rw [bv_length,ha];omega
   rw [fl_cons,e,List.drop_length_add_append,ih]
   rfl
theorem take_drop_of (cs xs : List Value) (m off k : Nat) (h : cs.take m = xs) (hle : off + k ≤ m) : (cs.drop off).take k = (xs.drop off).take k:=by
 rw [← h,List.drop_take,List.take_take,Nat.min_eq_left (by omega)]
theorem Rep.nowSlice {w : World} {d : Nat} {D : SD} {pw : Option (Nat × Nat)} {F : List Nat} (h : Rep w d D pw F) :
 ∃ kv n cap lv tv cs,Blk w d [kv,.slice (some ⟨n,0,none⟩) D.now.length cap,lv,tv,.bool D.dead,pwv pw] ∧ Blk w n cs ∧ cs.take (D.now.length * 512) = fl D.now:=by
 obtain ⟨kv,nv,lv,tv,k,n,L,T,hF,hnd,hb,hk,hn,hl,ht⟩:=h.mem
 rcases hn.2 with ⟨_,_,h1⟩ | ⟨b,cap,cs,hb1,h1,h2,h3,h4,h5,h6⟩
 · cases h1
 · cases hb1
   subst h1
   exact ⟨kv,n,cap,lv,tv,cs,hb,h4,h6⟩
theorem read_err {w : World} {d : Nat} {D : SD} {pw : Option (Nat × Nat)} {F : List Nat} (h : Rep w d D pw F) (hp : pwOk w pw) (i : Int) (hi1 : -9223372036854775808 ≤ i) (hi2 : i ≤ 9223372036854775807) (x : Int) (hx : atN D pw i none = x) (h0 : x = 60 ∨ x = 2) :
 Calls Tryz.prog 95 #[.pointer (some ⟨d,0,none⟩),.int .i64 i] w fun e w' => e = .returned (.tuple #[.string ⟨#[]⟩,.int .i64 x]) ∧ w = w':=by
 have hat:=at_any h hp i hi1 hi2 (v:=.slice none 0 0) (os:=none) rfl
 rw [hx] at hat
 clear hx h hp
 rcases h0 with rfl | rfl
 · go_enter Tryz.func95,Tryz.ntmps95
   go_wp2_with (go_at_call 82;refine hat.mono ?_;rintro e w' ⟨rfl,rfl⟩)
   go_ret2
   exact ⟨rfl,rfl⟩
 · go_enter Tryz.func95,Tryz.ntmps95
   go_wp2_with (go_at_call 82;refine hat.mono ?_;rintro e w' ⟨rfl,rfl⟩)
   go_ret2
   exact ⟨rfl,rfl⟩
theorem read_ok {w : World} {d : Nat} {D : SD} {pw : Option (Nat × Nat)} {F : List Nat} (h : Rep w d D pw F) (hp : pwOk w pw) (i : Nat) (hi : i < D.now.length) (ha : ableN D pw = 0) :
 Calls Tryz.prog 95 #[.pointer (some ⟨d,0,none⟩),.int .i64 i] w fun e w' => e = .returned (.tuple #[.string ⟨(D.now[i]).toArray⟩,.int .i64 0]) ∧ w = w':=by
 have hle:=h.good.le
 have hsame:=h.good.same
 have hat : atN D pw i none = 0:=by
  have e1 : outB D i = false:=by simp [outB];omega
  simp [atN,ha,e1,badT]
 have hat2:=at_any h hp i (by omega) (by omega) (v:=.slice none 0 0) (os:=none) rfl
 rw [hat] at hat2
 have hn512:=h.good.n512
 have hl512:=hid (hn512 _ (List.getElem_mem hi))
 obtain ⟨kv,n,cap,lv,tv,cs,hb,hnb,hcs⟩:=h.nowSlice
 have hv : (cs.drop (i * 512)).take (D.now[i]).length = bv D.now[i]:=by
  rw [hl512.out,take_drop_of cs _ (D.now.length * 512) (i * 512) 512 hcs (by omega),fl_drop D.now i hi hn512]
 have Hv:=hid hv
 have hc:=hb.cell
 clear hat h hp ha hv hcs hn512 hb hsame
 go_enter Tryz.func95,Tryz.ntmps95
 go_wp2_with (first
  | (go_at_call 82;refine hat2.mono ?_;rintro e w' ⟨rfl,rfl⟩)
  | (refine wpList_string_of_bytes rfl _ _ 5 _ rfl 512 512 rfl hnb (D.now[i]) hl512.out Hv.out Tryz.underlying119 Tryz.underlying5 Tryz.underlying9 ?_;(all_goals (try simp only [aA,aB,Act.put,aC,aD,aE]))))
 go_ret2
 exact ⟨rfl,rfl⟩
def flushed (D : SD) : SD:={ D with kept:=D.now,loose:=[],trace:=D.trace ++ [-1] }
theorem flush_err {w : World} {d : Nat} {D : SD} {pw : Option (Nat × Nat)} {F : List Nat} (h : Rep w d D pw F) (hp : pwOk w pw) (ha : ableN D pw = 60) :
 Calls Tryz.prog 56 #[.pointer (some ⟨d,0,none⟩)] w fun e w' => e = .returned (.int .i64 60) ∧ w = w':=by
 have hab:=able_any h hp
 rw [ha] at hab
 clear ha h hp
 go_enter Tryz.func56,Tryz.ntmps56
 go_wp2_with (go_at_call 29;refine hab.mono ?_;rintro e w' ⟨rfl,rfl⟩)
 go_ret
 exact ⟨rfl,rfl⟩
theorem fl_one (l : List (List UInt8)) : ∀ u ∈ fl l,u.oneCell' = true:=bv_one _
theorem flush_ok {w : World} {d : Nat} {D : SD} {pw : Option (Nat × Nat)} {F : List Nat} (h : Rep w d D pw F) (hp : pwOk w pw) (hpF : ∀ x ∈ pwF pw,x ∉ F) (ha : ableN D pw = 0) (htl : D.trace.length < 1000000) :
 Calls Tryz.prog 56 #[.pointer (some ⟨d,0,none⟩)] w fun e w' => e = .returned (.int .i64 0) ∧
  ∃ F',Rep w' d (flushed D) (pwDec pw) F' ∧ pwOk w' (pwDec pw) ∧ Fr (F ++ pwF pw) w w' ∧ ∀ x ∈ F',x ∈ F ∨ w.heap.size ≤ x:=by
 have hab:=able_any h hp
 rw [ha] at hab
 have h0 : ∀ p,pw ≠ some (p,0):=by
  intro p e
  rw [e] at ha
  simp [ableN] at ha
 have Hg:=hid h.good
 have hle:=h.good.le
 have hnle : D.now.length ≤ 16384:=by rw [← h.good.same];exact hle
 obtain ⟨kv,nv,lv,tv,k,n,L,T,hF,H0⟩:=h.full hp hpF
 have hb : Blk w d [kv,nv,lv,tv,.bool D.dead,pwv pw]:=H0.blkAt 1 rfl
 have hn : Xr.Own w 512 nv D.now.length (fl D.now) (some n):=H0.ownAt 3 rfl
 have hc:=hb.cell
 have hcl:=cloneS_any hn (fl_one _) (by unfold maxLen;omega) (by omega)
 have HF:=hid hF
 clear ha h hp hpF hF
 obtain ⟨i3,hi3,hz3,hs3,hb3⟩:=inf3
 have Hi3:=hid hi3
 have Hz3:=hid hz3
 have Hs3:=hid hs3
 have Hb3:=hid hb3
 clear hi3 hz3 hs3 hb3
 go_enter Tryz.func56,Tryz.ntmps56
 go_wp2_with (go_at_call 29;refine hab.mono ?_;rintro e w' ⟨rfl,rfl⟩)
 refine hcl.mono ?_
 rintro e w1 ⟨kv',k',rfl,hk1,hk',f1⟩
 have H1:=H0.fresh f1 (Res.On.own hk1) (fun b hb => by simp [Res.own] at hb;omega)
 obtain ⟨ka,kc,rfl⟩:=hk1.isSlice
 have hb1:=f1.blk hb (by simp)
 have hc1:=hb1.cell
 have hf10:=hb1.free 0 (by simp)
 have hf12:=hb1.free 2 (by simp)
 clear hcl hab hc H0 hn hb
 go_upto_region 6 with fail
 refine wp_world (fun w2 => Held w2 [Res.own 512 (.slice ka D.now.length kc) D.now.length (fl D.now) (some k'),Res.pow pw,Res.blk d [.slice ka D.now.length kc,nv,.slice none 0 0,tv,.bool D.dead,pwv pw],Res.own 512 kv D.kept.length (fl D.kept) (some k),Res.own 512 nv D.now.length (fl D.now) (some n),Res.own 513 lv D.loose.length (wlc D.loose) L,Res.own 1 tv D.trace.length (D.trace.map (.int .i64)) T] ∧ Fr [d] w1 w2) ?_ ?_
 · have fs : Fr [d] w1 ((w1.setCell ⟨d,0,none⟩ (.slice ka D.now.length kc)).setCell ⟨d,2,none⟩ (.slice none 0 0)):=((Fr.refl [d] w1).setCell (.inl (by simp)) _).setCell (.inl (by simp)) _
   exact ⟨Held.upd [_,_] _ H1 fs (by simp [Res.blk]) (Res.On.blk ((hb1.set 0 _).set 2 _)) (by simp [Res.blk]),fs⟩
 rintro w2 ⟨H2,f2⟩
 clear hb1 hc1 hf10 hf12 H1 hk1
 have hb2 : Blk w2 d [.slice ka D.now.length kc,nv,.slice none 0 0,tv,.bool D.dead,pwv pw]:=H2.blkAt 2 rfl
 have ht2 : Xr.Own w2 1 tv D.trace.length (D.trace.map (.int .i64)) T:=H2.ownAt 6 rfl
 have hc2:=hb2.cell
 have H2':=H2.keep0 ((Fr.refl [] w2).alloc (.cells #[.int .i64 (-1)] 3))
 go_wp2_with (refine wpList_append rfl _ _ _ rfl 3 _ _ 1 8 Tryz.underlying44 Hi3.out Hz3.out Hs3.out Hb3.out rfl (by decide) rfl (ht2.keep ((Fr.refl [] _).alloc _) (by simp)) _ 1 1 [.int .i64 (-1)] rfl rfl ((Blk.alloc w2 [.int .i64 (-1)] _).cells rfl) (by simp [Value.oneCell']) (by unfold maxLen;omega) (by omega) ?_;intro tv' w3 T' ht3 f3 hT';simp only [aA,aB,Act.put,aC,aD,aE];obtain ⟨ta,tc,rfl⟩:=ht3.isSlice;have H3:=Held.upd [_,_,_,_,_,_] [] H2' f3 (fun b hb => .inl hb) (Res.On.own ht3) (fun b hb => by rcases hT' with rfl | ⟨x,rfl,hx⟩;exact .inl hb;simp [Res.own] at hb;subst hb;exact .inr hx);have hb3 : Blk w3 d [.slice ka D.now.length kc,nv,.slice none 0 0,tv,.bool D.dead,pwv pw]:=H3.blkAt 2 rfl;have hc3:=hb3.cell;have hf3:=hb3.free 3 (by simp))
 have fs : Fr [d] w3 (w3.setCell ⟨d,3,none⟩ (.slice ta (D.trace.length + 1) tc)):=(Fr.refl [d] w3).setCell (.inl (by simp)) _
 have H4:=Held.upd [_,_] _ H3 fs (by simp [Res.blk]) (Res.On.blk (hb3.set 3 (.slice ta (D.trace.length + 1) tc))) (by simp [Res.blk])
 have hp4 : pwOk _ pw:=H4.at 1 rfl
 refine (took_any hp4 h0).mono ?_
 rintro e w5 ⟨rfl,f5,hp5,hs5⟩
 go_wp2_with fail
 go_ret
 have H5:=Held.upd [_] _ H4 f5 (fun b hb => .inl hb) (On.pow hp5) (fun b hb => .inl (by simpa [Res.pow,pwF_dec] using hb))
 simp only [List.cons_append,List.nil_append,List.append_eq,List.append_nil,List.set_cons_succ,List.set_cons_zero] at H5
 have H6 : Held w5 (parts d (flushed D) (pwDec pw) (.slice ka D.now.length kc) nv (.slice none 0 0) (.slice ta (D.trace.length + 1) tc) k' n none T'):=by
  have H8:=Held.new (r:=Res.own 513 (.slice none 0 0) 0 [] none) H5 (Res.On.own (Xr.Own.nil _ _)) (by simp [Res.own])
  have H9 : Held w5 [_,_,_,_,_]:=Held.pick [3,1,5,0,7] H8 (by decide) rfl
  have e : (flushed D).trace.length = D.trace.length + 1 ∧ (flushed D).trace.map (Value.int .i64) = D.trace.map (Value.int .i64) ++ [Value.int .i64 (-1)]:=by simp [flushed]
  unfold parts
  rw [e.1,e.2,pwv_dec]
  exact H9
 refine ⟨rfl,_,Rep.ofHeld ⟨rfl,by have:=Hg.out.pos;have:=Hg.out.same;simp only [flushed];omega,hnle,Hg.out.n512,Hg.out.n512,by simp [flushed]⟩ H6,hp5,?_,?_⟩
 · have hFm : ∀ x,x ∈ feet d k n L T → x ∈ F ++ pwF pw:=fun x hx => by rw [HF.out];simp [hx]
   refine (((((f1.mono (T:=F ++ pwF pw) (by simp)).trans f2 (fun x hx => .inl (hFm x (by simp at hx;simp [feet,hx])))).trans ((Fr.refl [] w2).alloc (.cells #[.int .i64 (-1)] 3)) (by simp)).trans f3 (fun x hx => .inl (hFm x (by simp at hx;simp [feet,hx])))).trans fs (fun x hx => .inl (hFm x (by simp at hx;simp [feet,hx])))).trans f5 (fun x hx => .inl (by simp [hx]))
 · intro x hx
   simp only [feet,List.mem_cons,List.mem_append,Option.mem_toList] at hx
   rcases hx with rfl | rfl | rfl | hx | hx
   · exact .inl (by rw [HF.out];simp [feet])
   · exact .inr hk'
   · exact .inl (by rw [HF.out];simp [feet])
   · cases hx
   · rcases hT' with rfl | ⟨b,rfl,hge⟩
     · exact .inl (by rw [HF.out];simp [feet,hx])
     · cases hx
       have:=f1.size
       have:=f2.size
       simp at hge
       exact .inr (by omega)
theorem clip_any {w : World} {v : Value} {n : Nat} {xs : List Value} {B : Option Nat} (h : Xr.Own w 1 v n xs B) :
 Calls Tryz.prog 46 #[v] w fun e w' => (∃ v',e = .returned v' ∧ Rd w 1 v' n xs B) ∧ w = w':=by
 rcases h.2 with ⟨rfl,rfl,rfl⟩ | ⟨b,cap,cs,rfl,rfl,h2,h3,h4,h5,h6⟩
 · have hx:=h.1
   go_enter Tryz.func46,Tryz.ntmps46
   go_wp2
   go_ret
   exact ⟨⟨_,rfl,by simpa using hx,.inl ⟨rfl,rfl,rfl⟩⟩,rfl⟩
 · have hx:=hid h.1
   have H6:=hid h6
   have H5:=hid h5
   clear h h6 h5
   by_cases hn : n = cap
   · subst hn
     go_enter Tryz.func46,Tryz.ntmps46
     go_wp2
     go_ret
     exact ⟨⟨_,rfl,hx.out,.inr ⟨b,0,n,cs,rfl,rfl,Nat.le_refl _,h3,h4,by have:=H5.out;omega,by rw [List.drop_zero];exact H6.out⟩⟩,rfl⟩
   · go_enter Tryz.func46,Tryz.ntmps46
     go_wp2
     go_ret
     exact ⟨⟨_,rfl,hx.out,.inr ⟨b,0,n,cs,rfl,rfl,Nat.le_refl _,by omega,h4,by have:=H5.out;omega,by rw [List.drop_zero];exact H6.out⟩⟩,rfl⟩
theorem wlc_cons (a : Nat × List UInt8) (l : List (Nat × List UInt8)) : wlc (a :: l) = (Value.int .i64 (a.1 : Int) :: bv a.2) ++ wlc l:=by simp [wlc]
theorem wlc_drop : ∀ (l : List (Nat × List UInt8)) (i : Nat) (hi : i < l.length),(∀ p ∈ l,p.2.length = 512) → ((wlc l).drop (i * 513)).take 513 = Value.int .i64 (l[i].1 : Int) :: bv l[i].2
 | [],i,hi,_ => by simp at hi
 | a :: l,0,_,h => by
   have ha:=h a (by simp)
   rw [wlc_cons,Nat.zero_mul,List.drop_zero,List.take_append_of_le_length (by rw [List.length_cons,bv_length,ha];exact Nat.le_refl _),List.take_of_length_le (by rw [List.length_cons,bv_length,ha];exact Nat.le_refl _)]
   rfl
 | a :: l,i + 1,hi,h => by
   have ha:=h a (by simp)
   have ih:=wlc_drop l i (by simpa using hi) (fun x hx => h x (by simp [hx]))
   have e : (i + 1) * 513 = (Value.int .i64 (a.1 : Int) :: bv a.2).length + i * 513:=by rw [List.length_cons,bv_length,ha];omega
   rw [wlc_cons,e,List.drop_length_add_append,ih]
   rfl
def crashK : List (List UInt8) → List (Nat × List UInt8) → List Bool → List (List UInt8)
 | kept,(i,b) :: l,k :: ks => crashK (if k then kept.set i b else kept) l ks
 | kept,_,_ => kept
theorem crashK_snoc : ∀ (l : List (Nat × List UInt8)) (ks : List Bool) (kept : List (List UInt8)) (p : Nat × List UInt8) (k : Bool),l.length = ks.length →
 crashK kept (l ++ [p]) (ks ++ [k]) = if k then (crashK kept l ks).set p.1 p.2 else crashK kept l ks
 | [],[],kept,p,k,_ => by obtain ⟨i,b⟩:=p;simp [crashK]
 | [],_ :: _,_,_,_,h => by simp at h
 | _ :: _,[],_,_,_,h => by simp at h
 | (i,b) :: l,x :: ks,kept,p,k,h => by
   simp only [List.cons_append,crashK]
   exact crashK_snoc l ks _ p k (by simpa using h)
theorem crashK_len : ∀ (l : List (Nat × List UInt8)) (ks : List Bool) (kept : List (List UInt8)),(crashK kept l ks).length = kept.length
 | [],_,kept => by simp [crashK]
 | _ :: _,[],kept => by simp [crashK]
 | (i,b) :: l,x :: ks,kept => by
   simp only [crashK]
   rw [crashK_len l ks]
   split <;> simp
theorem crashK_512 : ∀ (l : List (Nat × List UInt8)) (ks : List Bool) (kept : List (List UInt8)),(∀ s ∈ kept,s.length = 512) → (∀ p ∈ l,p.2.length = 512) → ∀ s ∈ crashK kept l ks,s.length = 512
 | [],_,kept,h,_ => by simpa [crashK] using h
 | _ :: _,[],kept,h,_ => by simpa [crashK] using h
 | (i,b) :: l,x :: ks,kept,h,hl => by
   simp only [crashK]
   refine crashK_512 l ks _ ?_ (fun p hp => hl p (by simp [hp]))
   split
   · intro s hs
     rcases List.mem_or_eq_of_mem_set hs with h1 | h1
     · exact h s h1
     · rw [h1];exact hl (i,b) (by simp)
   · exact h
def crashed (D : SD) (ks : List Bool) : SD :=
 { D with kept:=crashK D.kept (D.loose.take (min ks.length D.loose.length)) (ks.take (min ks.length D.loose.length)),now:=crashK D.kept (D.loose.take (min ks.length D.loose.length)) (ks.take (min ks.length D.loose.length)),loose:=[] }
theorem crash_dead {w : World} {d : Nat} {D : SD} {pw : Option (Nat × Nat)} {F : List Nat} (h : Rep w d D pw F) (v : Value) (hd : D.dead = true) :
 Calls Tryz.prog 11 #[.pointer (some ⟨d,0,none⟩),v] w fun e w' => e = .returned (.int .i64 60) ∧ Rep w' d D none F ∧ Fr F w w':=by
 obtain ⟨kv,nv,lv,tv,k,n,L,T,hF,H0⟩:=h.held
 have hb : Blk w d [kv,nv,lv,tv,.bool D.dead,pwv pw]:=H0.blkAt 0 rfl
 have hc:=hb.cell
 have hf:=hb.free 5 (by simp)
 have Hg:=hid h.good
 have HF:=hid hF
 have Hd:=hid hd
 clear h hF hd
 go_enter Tryz.func11,Tryz.ntmps11
 go_upto_region 3 with fail
 have fs : Fr [d] w (w.setCell ⟨d,5,none⟩ (.pointer none)):=(Fr.refl [d] w).setCell (.inl (by simp)) _
 have H1:=Held.upd [] _ H0 fs (by simp [Res.blk]) (Res.On.blk (hb.set 5 (.pointer none))) (by simp [Res.blk])
 refine wp_world (fun w2 => Rep w2 d D none F ∧ Fr F w w2) ⟨?_,?_⟩ ?_
 · rw [HF.out]
   exact Rep.ofHeld Hg.out H1
 · exact fs.mono (fun x hx => .inl (by rw [HF.out];simp at hx;simp [feet,hx]))
 rintro w2 ⟨hr,f2⟩
 have hab:=able_any hr (pw:=none) trivial
 rw [show ableN D none = 60 by simp [ableN,Hd.out]] at hab
 go_wp2_with (go_at_call 29;refine hab.mono ?_;rintro e w' ⟨rfl,rfl⟩)
 go_ret
 exact ⟨rfl,hr,f2⟩
theorem crash_ok {w : World} {d : Nat} {D : SD} {pw : Option (Nat × Nat)} {F : List Nat} (h : Rep w d D pw F) (hd : D.dead = false) (hll : D.loose.length < 1000000) {kv0 : Value} {ks : List Bool} {KB : Option Nat} (hk0 : Rc w 1 kv0 ks.length (ks.map .bool) KB) (hKB : ∀ b,KB = some b → b ∉ F) (hkl : ks.length ≤ maxLen) :
 Calls Tryz.prog 11 #[.pointer (some ⟨d,0,none⟩),kv0] w fun e w' => e = .returned (.int .i64 0) ∧ ∃ F',Rep w' d (crashed D ks) none F' ∧ Fr F w w' ∧ ∀ x ∈ F',x ∈ F ∨ w.heap.size ≤ x:=by
 obtain ⟨kv,nv,lv,tv,k,n,L,T,hF,H0⟩:=h.held
 have hb : Blk w d [kv,nv,lv,tv,.bool D.dead,pwv pw]:=H0.blkAt 0 rfl
 have hc:=hb.cell
 have hf:=hb.free 5 (by simp)
 have Hg:=hid h.good
 have HF:=hid hF
 have Hd:=hid hd
 have hks : ks.length ≤ 9223372036854775807:=by unfold maxLen at hkl;omega
 have hkle : D.kept.length ≤ 16384:=h.good.le
 obtain ⟨ka0,kc0,rfl⟩:=hk0.isSlice
 clear h hF hd hkl
 go_enter Tryz.func11,Tryz.ntmps11
 go_upto_region 3 with fail
 refine wp_world (fun w2 => Held w2 (parts d D none kv nv lv tv k n L T) ∧ Fr F w w2) ⟨?_,?_⟩ ?_
 · exact Held.upd [] _ H0 ((Fr.refl [d] w).setCell (a:=⟨d,5,none⟩) (.inl (by simp)) (.pointer none)) (by simp [Res.blk]) (Res.On.blk (hb.set 5 (.pointer none))) (by simp [Res.blk])
 · exact ((Fr.refl [d] w).setCell (a:=⟨d,5,none⟩) (.inl (by simp)) (.pointer none)).mono (fun x hx => .inl (by rw [HF.out];simp at hx;simp [feet,hx]))
 rintro w2 ⟨H2,f2⟩
 have hr : Rep w2 d D none F:=by rw [HF.out];exact Rep.ofHeld Hg.out H2
 have hab:=able_any hr (pw:=none) trivial
 rw [show ableN D none = 0 by simp [ableN,Hd.out]] at hab
 have hk2:=hk0.keep f2 hKB
 clear hc hf hb H0 hk0 hr
 have hb2 : Blk w2 d [kv,nv,lv,tv,.bool D.dead,.pointer none]:=H2.blkAt 0 rfl
 have hc2:=hb2.cell
 have hl2:=(H2.ownAt 3 rfl : Xr.Own w2 513 lv D.loose.length (wlc D.loose) L).rd
 obtain ⟨kcap,hkv,hkcap,hkcm⟩ : ∃ cap,kv = .slice (some ⟨k,0,none⟩) D.kept.length cap ∧ D.kept.length ≤ cap ∧ cap ≤ maxLen:=by
  rcases (H2.ownAt 1 rfl : Xr.Own w2 512 kv D.kept.length (fl D.kept) (some k)).shape with ⟨_,_,_,h1⟩ | ⟨b,cap,hb1,h1,h2,h3⟩
  · cases h1
  · cases hb1;exact ⟨cap,h1,h2,h3⟩
 subst hkv
 have hlc : ∃ la lc,lv = .slice la D.loose.length lc ∧ D.loose.length ≤ lc ∧ lc ≤ maxLen:=by
  rcases hl2.2 with ⟨h1,h2,_⟩ | ⟨b,off,cap,cs,_,h2,h3,h4,_⟩
  · exact ⟨none,0,by rw [h1,h2],by omega,by simp⟩
  · exact ⟨_,_,h2,h3,h4⟩
 obtain ⟨la,lc,rfl,hlc1,hlc2⟩:=hlc
 unfold maxLen at hlc2
 obtain ⟨M,hM1,hM2,hMm,hif⟩ : ∃ M : Nat,M ≤ ks.length ∧ M ≤ D.loose.length ∧ M = min ks.length D.loose.length ∧ (if D.loose.length < ks.length then (D.loose.length : Int) else (ks.length : Int)) = (M : Int):=by
  refine ⟨min ks.length D.loose.length,by omega,by omega,rfl,?_⟩
  split <;> omega
 have HMm:=hid hMm
 clear hMm
 go_wp2_with (go_at_call 29;refine hab.mono ?_;rintro e w' ⟨rfl,rfl⟩)
 go_quiet (fail)
 go_wp2_with fail
 have H2n:=H2.keep0 ((Fr.refl [] w2).drewN nq)
 have f2n:=f2.drewN nq
 have hk2n:=hk2.keep ((Fr.refl [] w2).drewN nq) (by simp)
 generalize w2.drewN nq = w3 at *
 clear H2 hl2 hc2 hb2 hab
 have Hl512:=hid (show ∀ p ∈ D.loose,p.2.length = 512 from fun p hp => (Hg.out.l512 p hp).1)
 obtain ⟨i77,z77,hi77,hz77,hs77,hb77,hzc77⟩:=inf77
 have Hi:=hid hi77
 have Hz:=hid hz77
 have Hs:=hid hs77
 have Hzc:=hid hzc77
 clear hi77 hz77 hs77 hb77 hzc77
 go_loopw [32] (fun i wr => ∃ m : Nat,m ≤ M ∧ i = .int .i64 m ∧ Held wr (parts d { D with kept:=crashK D.kept (D.loose.take m) (ks.take m) } none (.slice (some ⟨k,0,none⟩) D.kept.length kcap) nv (.slice la D.loose.length lc) tv k n L T) ∧ Fr F w wr ∧ Rc wr 1 (.slice ka0 ks.length kc0) ks.length (ks.map .bool) KB) (fun i _ => M - (intOf i).toNat)
 case atStart => exact ⟨0,Nat.zero_le _,rfl,by simpa [crashK] using H2n,f2n,hk2n⟩
 case round =>
  obtain ⟨m,hm,rfl,H,f,hkr⟩:=hrel
  clear H2n f2n hk2n f2 hk2
  have hKl : (crashK D.kept (D.loose.take m) (ks.take m)).length = D.kept.length:=crashK_len _ _ _
  have hK512:=crashK_512 (D.loose.take m) (ks.take m) D.kept Hg.out.k512 (fun p hp => Hl512.out p (List.mem_of_mem_take hp))
  have hbr : Blk wr d [.slice (some ⟨k,0,none⟩) D.kept.length kcap,nv,.slice la D.loose.length lc,tv,.bool D.dead,.pointer none]:=H.blkAt 0 rfl
  have hkr2 : Xr.Own wr 512 (.slice (some ⟨k,0,none⟩) D.kept.length kcap) (crashK D.kept (D.loose.take m) (ks.take m)).length (fl (crashK D.kept (D.loose.take m) (ks.take m))) (some k):=H.ownAt 1 rfl
  have hlr:=(H.ownAt 3 rfl : Xr.Own wr 513 (.slice la D.loose.length lc) D.loose.length (wlc D.loose) L).rd
  by_cases hlt : m < M
  · have hml : m < D.loose.length:=by omega
    have hmk : m < ks.length:=by omega
    obtain ⟨b,off,cap,cs,hB2,hv,hcap,hcm,hbb,hlen,hcs⟩:=hlr.some (by omega)
    obtain ⟨rfl,rfl⟩ : la = some ⟨b,off,none⟩ ∧ lc = cap:=by simpa using hv
    obtain ⟨b2,off2,cap2,hB3,hv2,hcap2,hcm2,hblt2,hcs2⟩:=hkr.some (by omega)
    obtain ⟨rfl,rfl⟩ : ka0 = some ⟨b2,off2,none⟩ ∧ kc0 = cap2:=by simpa using hv2
    have h512:=hid (Hl512.out _ (List.getElem_mem hml))
    have hix : D.loose[m].1 < D.kept.length:=(Hg.out.l512 _ (List.getElem_mem hml)).2
    have H77:=hid (show (Tryz.prog.info? 76).map (·.size) = some (Value.int .i64 (D.loose[m].1 : Int) :: bv D.loose[m].2).length by rw [List.length_cons,bv_length,h512.out,Hi.out];exact congrArg some Hs.out)
    have H73:=hid (show (Tryz.prog.info? 74).map (·.size) = some (bv D.loose[m].2).length by rw [bv_length,h512.out];rfl)
    have HV:=hid (show (cs.drop (off + m * 513)).take (Value.int .i64 (D.loose[m].1 : Int) :: bv D.loose[m].2).length = Value.int .i64 (D.loose[m].1 : Int) :: bv D.loose[m].2 by
     rw [List.length_cons,bv_length,h512.out,← List.drop_drop,take_drop_of (cs.drop off) _ (D.loose.length * 513) (m * 513) 513 hcs (by omega)]
     exact wlc_drop D.loose m hml Hl512.out)
    have hkcell:=hcs2 m (by simpa using hmk)
    have hkm0 : (ks.map Value.bool)[m]? = some (Value.bool ks[m]):=by simp [hmk]
    rw [hkm0] at hkcell
    have Hsn : Hid (crashK D.kept (D.loose.take (m + 1)) (ks.take (m + 1)) = if ks[m] then (crashK D.kept (D.loose.take m) (ks.take m)).set D.loose[m].1 D.loose[m].2 else crashK D.kept (D.loose.take m) (ks.take m)):=by
     rw [List.take_succ_eq_append_getElem hml,List.take_succ_eq_append_getElem hmk]
     exact crashK_snoc _ _ _ _ _ (by simp;omega)
    have hone : ∀ u ∈ Value.int .i64 (D.loose[m].1 : Int) :: bv D.loose[m].2,u.oneCell' = true:=by
     intro u hu
     rcases List.mem_cons.1 hu with rfl | hu
     · rfl
     · exact bv_one _ u hu
    generalize hK : crashK D.kept (D.loose.take m) (ks.take m) = K at *
    have HK:=hid hK
    have HK512:=hid hK512
    have HKl:=hid hKl
    clear hK hK512 hKl hcs hlen hv hcs2 hkm0 hv2 hlr
    cases hkm : ks[m] with
    | true =>
      rw [hkm] at hkcell Hsn
      clear hkm
      go_wp2_with (first
       | (refine wpList_load_agg rfl _ _ rfl rfl (Value.int .i64 (D.loose[m].1 : Int) :: bv D.loose[m].2) hbb _ Tryz.underlying76 rfl H77.out HV.out ?_;simp only [aA,aB,Act.put,aC,aD,aE])
       | (refine wpList_alloc_agg rfl _ rfl _ _ _ Hi.out Hz.out Hzc.out ?_;intro zs hzl hze hbz;have Hzl:=hid hzl;clear hzl hze;(try simp only [aA,aB,Act.put,aC,aD,aE]))
       | (refine wpList_store_agg rfl _ _ _ rfl rfl (Value.int .i64 (D.loose[m].1 : Int) :: bv D.loose[m].2) rfl hbz H77.out (by rw [List.length_cons,bv_length,h512.out,Hzl.out];exact Nat.le_refl _) hone ?_;intro w4 f3 hb3 hs3;rw [splice_all _ _ (by rw [Hzl.out,List.length_cons,bv_length,h512.out])] at hb3;have g3 : Fr [] wr w4:=((Fr.refl [] wr).alloc _).trans f3 (by simp);have hkcell4:=hkcell;rw [← g3.cell_old (a:=⟨b2,off2 + m,none⟩) (by exact hblt2)] at hkcell4;clear hkcell;(try simp only [aA,aB,Act.put,aC,aD,aE])))
      have hb4:=g3.blk hbr (by simp)
      obtain ⟨kcs,hkb,hkcl,hkt⟩ : ∃ cs,Blk wr k cs ∧ cs.length = kcap * 512 ∧ cs.take (K.length * 512) = fl K:=by
       rcases hkr2.2 with ⟨h1,_,_⟩ | ⟨b,cap,cs,h1,h2,_,_,h3,h4,h5⟩
       · cases h1
       · cases h1
         obtain ⟨_,_,rfl⟩:=Value.slice.inj h2
         exact ⟨cs,h3,h4,h5⟩
      have Hkcl:=hid hkcl
      have Hkt:=hid hkt
      clear hkcl hkt
      obtain ⟨ι,W,hι,hW1,hW2,hW0⟩:=family (fun w' => Blk w' d [.slice (some ⟨k,0,none⟩) D.kept.length kcap,nv,.slice (some ⟨b,off,none⟩) D.loose.length lc,tv,.bool D.dead,.pointer none] ∧ Blk w' wr.heap.size (Value.int .i64 (D.loose[m].1 : Int) :: bv D.loose[m].2)) (w:=w4.drew) ⟨hb4,hb3⟩
      have HW1:=hid hW1
      have HW2:=hid hW2
      have HW0:=hid hW0
      clear hW1 hW2 hW0
      have hS1:=fun j => (HW1.out j).1.cell
      have hS2:=fun j => (HW1.out j).2.cell
      refine wp_region_X (fun w' => ∃ j,w' = W j) true (by kernel_rfl) ?_
      refine WX.pure [0,1,2,3,4,5,6,7,8] (by kernel_rfl) HW0.out ?_
      simp only [pick,aF,aG,aI,aJ,aK]
      repeat (go_big_quiet_step (fail))
      refine quiet_load_agg rfl _ _ rfl (by rfl) (bv D.loose[m].2) (fun w' hw => (by obtain ⟨j,rfl⟩:=hw;exact (HW1.out j).2)) _ Tryz.underlying74 rfl H73.out ?hv4 ?_
      case hv4 => rw [List.drop_succ_cons,List.drop_zero,List.take_length]
      simp only [aA,aB,Act.put,aC,aD,aE]
      repeat (go_big_quiet_step (fail))
      refine wpQuiet_nil ?_
      refine WX.eff 9 (by kernel_rfl) ?_
      simp only [pick,aF,aG,aI,aJ,aK]
      have hfit : D.loose[m].1 * 512 + (bv D.loose[m].2).length ≤ K.length * 512:=by rw [bv_length,h512.out,HKl.out];omega
      have hfit2 : D.loose[m].1 * 512 + (bv D.loose[m].2).length ≤ kcs.length:=by
       rw [Hkcl.out]
       exact Nat.le_trans hfit (Nat.mul_le_mul_right _ (by rw [HKl.out];exact hkcap))
      refine wpList_store_agg rfl _ _ _ rfl rfl (bv D.loose[m].2) rfl (g3.blk hkb (by simp)).drew H73.out hfit2 (bv_one _) ?_
      intro w5 f5 hb5 hs5
      refine wpList_nil ?_
      refine After.end rfl ?_
      refine WX.done (by kernel_rfl) ?_
      simp only [Act.put]
      have H4:=(H.keep0 g3).keep0 (Fr.refl [] w4).drew
      have hown : Xr.Own w5 512 (.slice (some ⟨k,0,none⟩) D.kept.length kcap) (K.set D.loose[m].1 D.loose[m].2).length (fl (K.set D.loose[m].1 D.loose[m].2)) (some k):=by
       have h1:=Xr.Own.blk (n:=K.length) (cap:=kcap) (size:=512) hb5 (by rw [HKl.out];exact hkcap) hkcm (by rw [splice_length _ _ _ hfit2,Hkcl.out])
       rw [take_splice _ _ _ _ hfit,Hkt.out,splice_flat K D.loose[m].1 D.loose[m].2 HK512.out (by rw [HKl.out];exact hix) h512.out] at h1
       rw [List.length_set]
       rw [HKl.out] at h1 ⊢
       exact h1
      have H5:=Held.upd [_] _ H4 f5 (by simp [Res.own]) (Res.On.own hown) (fun b hb => .inl hb)
      have hkF : k ∈ F:=by rw [HF.out];simp [feet]
      have f6 : Fr F w w5:=((f.trans g3 (by simp)).drew).trans f5 (fun x hx => .inl (by simp at hx;rw [hx];exact hkF))
      have hkr5:=((hkr.keep g3 (by simp)).keep (Fr.refl [] w4).drew (by simp)).keep f5 (fun x hx => by simp;exact fun e => hKB x hx (by rw [e];exact hkF))
      clear hS1 hS2
      clear HW1 HW2 HW0 hι W ι
      go_wp2_with fail
      go_roundw
      case rel => exact ⟨m + 1,by omega,by go_num,by rw [Hsn.out];exact H5,f6,hkr5⟩
      case measure => simp [intOf];omega
    | false =>
      rw [hkm] at hkcell Hsn
      clear hkm
      go_wp2_with (first
       | (refine wpList_load_agg rfl _ _ rfl rfl (Value.int .i64 (D.loose[m].1 : Int) :: bv D.loose[m].2) hbb _ Tryz.underlying76 rfl H77.out HV.out ?_;simp only [aA,aB,Act.put,aC,aD,aE])
       | (refine wpList_alloc_agg rfl _ rfl _ _ _ Hi.out Hz.out Hzc.out ?_;intro zs hzl hze hbz;have Hzl:=hid hzl;clear hzl hze;(try simp only [aA,aB,Act.put,aC,aD,aE]))
       | (refine wpList_store_agg rfl _ _ _ rfl rfl (Value.int .i64 (D.loose[m].1 : Int) :: bv D.loose[m].2) rfl hbz H77.out (by rw [List.length_cons,bv_length,h512.out,Hzl.out];exact Nat.le_refl _) hone ?_;intro w4 f3 hb3 hs3;rw [splice_all _ _ (by rw [Hzl.out,List.length_cons,bv_length,h512.out])] at hb3;have g3 : Fr [] wr w4:=((Fr.refl [] wr).alloc _).trans f3 (by simp);have hkcell4:=hkcell;rw [← g3.cell_old (a:=⟨b2,off2 + m,none⟩) (by exact hblt2)] at hkcell4;clear hkcell;(try simp only [aA,aB,Act.put,aC,aD,aE])))
      go_roundw
      case rel => exact ⟨m + 1,by omega,by go_num,by rw [Hsn.out];exact H.keep0 g3,f.trans g3 (by simp),hkr.keep g3 (by simp)⟩
      case measure => simp [intOf];omega
  · obtain rfl : m = M:=by omega
    generalize hK : crashK D.kept (D.loose.take m) (ks.take m) = K at *
    have HK:=hid hK
    have HK512:=hid hK512
    have HKl:=hid hKl
    clear hK hKl hlr
    have hKle : K.length ≤ 16384:=by rw [HKl.out];exact hkle
    have hcl:=cloneS_any hkr2 (fl_one _) (by unfold maxLen;omega) (by omega)
    have hcr:=hbr.cell
    go_wp2_with fail
    refine hcl.mono ?_
    rintro e w5 ⟨nv',n',rfl,hn1,hn',f1⟩
    have H1:=H.fresh f1 (Res.On.own hn1) (fun b hb => by simp [Res.own] at hb;omega)
    obtain ⟨na,nc,rfl⟩:=hn1.isSlice
    have hb1:=f1.blk hbr (by simp)
    have hc1:=hb1.cell
    have hf11:=hb1.free 1 (by simp)
    have hf12:=hb1.free 2 (by simp)
    go_wp2_with fail
    go_ret
    have fs : Fr [d] w5 ((w5.setCell ⟨d,1,none⟩ (.slice na K.length nc)).setCell ⟨d,2,none⟩ (.slice none 0 0)):=((Fr.refl [d] w5).setCell (.inl (by simp)) _).setCell (.inl (by simp)) _
    have H2:=Held.upd [_] _ H1 fs (by simp [Res.blk]) (Res.On.blk ((hb1.set 1 (.slice na K.length nc)).set 2 (.slice none 0 0))) (by simp [Res.blk])
    have H3:=Held.new (r:=Res.own 513 (.slice none 0 0) 0 [] none) H2 (Res.On.own (Xr.Own.nil _ _)) (by simp [Res.own])
    have H4 : Held _ [_,_,_,_,_]:=Held.pick [2,3,1,0,6] H3 (by decide) rfl
    have hcr : crashed D ks = { D with kept:=K,now:=K,loose:=[] }:=by
     unfold crashed
     rw [← HMm.out,HK.out]
    refine ⟨rfl,feet d k n' none T,?_,?_,?_⟩
    · rw [hcr]
      refine Rep.ofHeld ⟨rfl,?_,hKle,HK512.out,HK512.out,by simp⟩ H4
      show 0 < K.length
      rw [HKl.out]
      exact Hg.out.pos
    · exact (f.trans f1 (by simp)).trans fs (fun x hx => .inl (by rw [HF.out];simp at hx;simp [feet,hx]))
    · intro x hx
      simp only [feet,List.mem_cons,List.mem_append,Option.mem_toList] at hx
      rcases hx with rfl | rfl | rfl | hx | hx
      · exact .inl (by rw [HF.out];simp [feet])
      · exact .inl (by rw [HF.out];simp [feet])
      · have:=f.size
        exact .inr (by omega)
      · cases hx
      · exact .inl (by rw [HF.out];simp [feet,hx])
theorem inf5 : ∃ i,Tryz.prog.info? 5 = some i ∧ i.zero = some (.int .u8 0) ∧ i.size = 1 ∧ i.bytes = 1:=⟨_,rfl,rfl,rfl,rfl⟩
theorem write_err {w : World} {d : Nat} {D : SD} {pw : Option (Nat × Nat)} {F : List Nat} (h : Rep w d D pw F) (hp : pwOk w pw) (i : Int) (hi1 : -9223372036854775808 ≤ i) (hi2 : i ≤ 9223372036854775807) (s : ByteArray) (hs : s.size ≤ 9223372036854775807) (x : Int) (hx : atN D pw i (some s) = x) (h0 : x = 60 ∨ x = 2) :
 Calls Tryz.prog 53 #[.pointer (some ⟨d,0,none⟩),.int .i64 i,.string s] w fun e w' => e = .returned (.int .i64 x) ∧ Fr [] w w':=by
 have hat2 : ∀ w1 : World,Fr [] w w1 → ∀ v,txt w1 v (some s) → Calls Tryz.prog 82 #[.pointer (some ⟨d,0,none⟩),.int .i64 i,v] w1 fun e w' => e = .returned (.int .i64 x) ∧ w1 = w':=by
  intro w1 f v hv
  have:=at_any (h.keep f (by simp)) (hp.keep f (by simp)) i hi1 hi2 hv
  rw [hx] at this
  exact this
 clear h hp hx
 rcases h0 with rfl | rfl
 · go_enter Tryz.func53,Tryz.ntmps53
   go_wp2_with fail
   refine (hat2 _ ((Fr.refl _ _).alloc _) _ ⟨_,_,rfl,by simp,hs⟩).mono ?_
   rintro e w1 ⟨rfl,rfl⟩
   go_wp2_with fail
   go_ret
   exact ⟨rfl,(Fr.refl _ _).alloc _⟩
 · go_enter Tryz.func53,Tryz.ntmps53
   go_wp2_with fail
   refine (hat2 _ ((Fr.refl _ _).alloc _) _ ⟨_,_,rfl,by simp,hs⟩).mono ?_
   rintro e w1 ⟨rfl,rfl⟩
   go_wp2_with fail
   go_ret
   exact ⟨rfl,(Fr.refl _ _).alloc _⟩
end Go.Proofs.YtgafefecookgaaaGreat
