/- Several texts put together: Mem, Reg, Own, Word, Build, Copy, Slice, Slice2, Det, One, Three, AppR, AppS, Rws, Held, Ev, Clr, Par, Max, Zero, Idx, Pmap. What each shows stands ahead of it. -/
import Derived.WalkKit
import Derived.ArgAppend
import Derived.Laws.IdiomStrings
import Derived.Laws.MakeOwn
import Derived.Deep.Quiet
import Derived.OrdersHeld
import Derived.Tactics
import Derived.Deep.QuietTactic
import Derived.BigQuiet
import Derived.Deep.DeepCutAuto
import Derived.Deep.CutBlock
import Derived.Lib.AppendStr
import Derived.Great.Ranges
import Derived.Laws.BitsLemmas
import Derived.LaidEqlPtr
set_option linter.unusedVariables false
set_option linter.unusedSimpArgs false
set_option maxRecDepth 20000
set_option maxHeartbeats 16000000
namespace Go.Xr
open Go Go.RowKit
theorem hid {p : Prop} (h : p) : Hid p:=h
def Blk (w : World) (b : Nat) (cs : List Value) : Prop :=
 ∃ (t : TypeId) (fr : Nat × Nat),w.heap[b]? = some (.cells cs.toArray t fr) ∧ ∀ i,i < cs.length → (decide (fr.1 ≤ i) && decide (i < fr.2)) = false
def Pln (w : World) (b : Nat) : Prop:=∃ (t : TypeId) (cs : Array Value),w.heap[b]? = some (.cells cs t (0,0))
structure Fr (S : List Nat) (w w' : World) : Prop where
 os : w'.os = w.os
 tape : w'.tape = w.tape
 output : w'.output = w.output
 size : w.heap.size ≤ w'.heap.size
 block : ∀ k,k < w.heap.size → k ∉ S → w'.heap[k]? = w.heap[k]?
 plain : ∀ k,Pln w k → Pln w' k
section
variable {w w' w1 w2 : World} {b : Nat} {cs : List Value} {S T : List Nat}
theorem Blk.cell (h : Blk w b cs) (o : Nat) : w.cell? ⟨b,o,none⟩ = cs[o]?:=by
 obtain ⟨t,fr,hh,_⟩:=h
 simp [World.cell?,hh]
theorem Blk.free (h : Blk w b cs) (o : Nat) (ho : o < cs.length) : w.frozen? ⟨b,o,none⟩ = false:=by
 obtain ⟨t,fr,hh,hf⟩:=h
 simp only [World.frozen?,hh]
 exact hf o ho
theorem Blk.lt (h : Blk w b cs) : b < w.heap.size:=by
 obtain ⟨t,fr,hh,_⟩:=h
 exact (Array.getElem?_eq_some_iff.1 hh).1
theorem Blk.same (h : Blk w b cs) (e : w'.heap[b]? = w.heap[b]?) : Blk w' b cs:=by
 obtain ⟨t,fr,hh,hf⟩:=h
 exact ⟨t,fr,e.trans hh,hf⟩
theorem Blk.eq {cs' : List Value} (h : Blk w b cs) (h' : Blk w b cs') : cs = cs':=by
 obtain ⟨t,fr,hh,_⟩:=h
 obtain ⟨t',fr',hh',_⟩:=h'
 rw [hh] at hh'
 exact (by simpa using (Option.some.inj hh') : cs = cs' ∧ _).1
theorem Blk.alloc (w : World) (cs : List Value) (t : TypeId) : Blk (w.alloc (.cells cs.toArray t)) w.heap.size cs :=
 ⟨t,(0,0),heap_alloc_new w _,fun i _ => by simp⟩
theorem Blk.allocArr (w : World) (cs : Array Value) (t : TypeId) : Blk (w.alloc (.cells cs t)) w.heap.size cs.toList:=by
 have:=Blk.alloc w cs.toList t
 simpa using this
theorem Blk.old (h : Blk w b cs) (o : Obj) : Blk (w.alloc o) b cs:=h.same (Below.heap_alloc w o b h.lt)
theorem Blk.drew (h : Blk w b cs) : Blk w.drew b cs:=h
theorem Blk.drewN (h : Blk w b cs) (n : Nat) : Blk (w.drewN n) b cs:=h
theorem Blk.set (h : Blk w b cs) (o : Nat) (v : Value) : Blk (w.setCell ⟨b,o,none⟩ v) b (cs.set o v):=by
 obtain ⟨t,fr,hh,hf⟩:=h
 refine ⟨t,fr,?_,by simpa using hf⟩
 simp [World.setCell,Array.getElem?_modify,hh]
theorem Pln.lt (h : Pln w b) : b < w.heap.size:=by
 obtain ⟨t,cs,hh⟩:=h
 exact (Array.getElem?_eq_some_iff.1 hh).1
theorem Pln.same (h : Pln w b) (e : w'.heap[b]? = w.heap[b]?) : Pln w' b:=by
 obtain ⟨t,cs,hh⟩:=h
 exact ⟨t,cs,e.trans hh⟩
theorem Pln.alloc (w : World) (cs : Array Value) (t : TypeId) : Pln (w.alloc (.cells cs t)) w.heap.size:=⟨t,cs,heap_alloc_new w _⟩
theorem Pln.old (h : Pln w b) (o : Obj) : Pln (w.alloc o) b:=h.same (Below.heap_alloc w o b h.lt)
theorem Pln.setCell (h : Pln w b) (a : Addr) (v : Value) : Pln (w.setCell a v) b:=by
 by_cases hb : b = a.block
 · obtain ⟨t,cs,hh⟩:=h
   subst hb
   exact ⟨t,(if a.spot.isSome = true then cs else cs.setIfInBounds a.off v),by simp only [World.setCell,Array.getElem?_modify,hh,if_true,Option.map_some]⟩
 · exact h.same (heap_setCell_other w a b v hb)
theorem Fr.refl (S : List Nat) (w : World) : Fr S w w:=⟨rfl,rfl,rfl,Nat.le_refl _,fun _ _ _ => rfl,fun _ h => h⟩
theorem Fr.trans (h : Fr S w w1) (k : Fr T w1 w2) (hT : ∀ x ∈ T,x ∈ S ∨ w.heap.size ≤ x) : Fr S w w2 :=
 ⟨k.os.trans h.os,k.tape.trans h.tape,k.output.trans h.output,Nat.le_trans h.size k.size,fun i hi hn =>
  (k.block i (Nat.lt_of_lt_of_le hi h.size) (fun hx => by rcases hT i hx with h1 | h1;exact hn h1;omega)).trans (h.block i hi hn),fun i hi => k.plain i (h.plain i hi)⟩
theorem Fr.trans' (h : Fr S w w1) (k : Fr S w1 w2) : Fr S w w2:=h.trans k (fun _ hx => .inl hx)
theorem Fr.mono (h : Fr S w w') (hs : ∀ x ∈ S,x ∈ T ∨ w.heap.size ≤ x) : Fr T w w' :=
 ⟨h.os,h.tape,h.output,h.size,fun k hk hn => h.block k hk (fun hx => by rcases hs k hx with h1 | h1;exact hn h1;omega),h.plain⟩
theorem Fr.drew (h : Fr S w w') : Fr S w w'.drew:=⟨h.os,h.tape,h.output,h.size,h.block,h.plain⟩
theorem Fr.drewN (h : Fr S w w') (n : Nat) : Fr S w (w'.drewN n):=⟨h.os,h.tape,h.output,h.size,h.block,h.plain⟩
theorem Fr.alloc (h : Fr S w w') (o : Obj) : Fr S w (w'.alloc o) :=
 ⟨h.os,h.tape,h.output,by simp;exact Nat.le_succ_of_le h.size,fun k hk hn => (Below.heap_alloc w' o k (Nat.lt_of_lt_of_le hk h.size)).trans (h.block k hk hn),fun k hk => (h.plain k hk).old o⟩
theorem Fr.setCell (h : Fr S w w') {a : Addr} (ha : a.block ∈ S ∨ w.heap.size ≤ a.block) (v : Value) : Fr S w (w'.setCell a v) :=
 ⟨h.os,h.tape,h.output,by simp;exact h.size,fun k hk hn => (heap_setCell_other w' a k v (fun e => by rcases ha with h1 | h1;exact hn (e ▸ h1);omega)).trans (h.block k hk hn),fun k hk => (h.plain k hk).setCell a v⟩
theorem Fr.blk (h : Fr S w w') (hb : Blk w b cs) (hn : b ∉ S) : Blk w' b cs:=hb.same (h.block b hb.lt hn)
theorem Fr.below {B : Nat} (h : Fr S w w') (hB : B ≤ w.heap.size) (hS : ∀ x ∈ S,B ≤ x) : Below B w w' :=
 ⟨h.os,h.tape,h.output,h.size,fun k hk => h.block k (by omega) (fun hx => by have:=hS k hx;omega)⟩
theorem Fr.of_below {B : Nat} (h : Below B w w') (hB : w.heap.size ≤ B) : Fr S w w' :=
 ⟨h.os,h.tape,h.output,h.size,fun k hk _ => h.block k (by omega),fun k hk => hk.same (h.block k (by have:=hk.lt;omega))⟩
theorem Fr.cell_old {a : Addr} (h : Fr [] w w') (ha : a.block < w.heap.size) : w'.cell? a = w.cell? a:=World.cell?_of_block (w:=w) (h.block a.block ha (by simp))
theorem Fr.cell_some {w w' : World} {a : Addr} {v : Value} (f : Fr [] w w') (h : w.cell? a = some v) : w'.cell? a = some v:=by
 rw [f.cell_old (World.block_lt_of_cell? _ _ h)]
 exact h
theorem Fr.lt (h : Fr S w w') (hb : b < w.heap.size) : b < w'.heap.size:=Nat.lt_of_lt_of_le hb h.size
def splice (cs : List Value) (off : Nat) (vs : List Value) : List Value:=cs.take off ++ vs ++ cs.drop (off + vs.length)
theorem splice_length (cs : List Value) (off : Nat) (vs : List Value) (h : off + vs.length ≤ cs.length) : (splice cs off vs).length = cs.length:=by
 simp [splice];omega
theorem splice_cons (cs : List Value) (off : Nat) (v : Value) (vs : List Value) (h : off < cs.length) : splice (cs.set off v) (off + 1) vs = splice cs off (v :: vs):=by
 unfold splice
 have e1 : (cs.set off v).take (off + 1) = cs.take off ++ [v]:=by
  rw [List.take_set,List.take_succ_eq_append_getElem h,List.set_append_right _ _ (by simp;omega)]
  simp [Nat.min_eq_left (Nat.le_of_lt h)]
 have e2 : (cs.set off v).drop (off + 1 + vs.length) = cs.drop (off + 1 + vs.length):=by
  rw [List.drop_set,if_pos (by omega)]
 rw [e1,e2]
 simp [Nat.add_comm,Nat.add_left_comm]
theorem Blk.setCells : ∀ (vs : List Value) (off : Nat) {w : World} {b : Nat} {cs : List Value},Blk w b cs → off + vs.length ≤ cs.length → Blk (w.setCells b off vs) b (splice cs off vs) ∧ Fr [b] w (w.setCells b off vs)
 | [],off,w,b,cs,h,_ => by
   simp only [World.setCells,splice,List.append_nil,List.length_nil,Nat.add_zero,List.take_append_drop]
   exact ⟨h,Fr.refl _ _⟩
 | v :: vs,off,w,b,cs,h,hl => by
   simp only [List.length_cons] at hl
   have h1:=h.set off v
   obtain ⟨h2,h3⟩:=Blk.setCells vs (off + 1) h1 (by simp;omega)
   simp only [World.setCells]
   refine ⟨?_,(Fr.setCell (Fr.refl [b] w) (.inl (by simp)) v).trans' h3⟩
   rw [← splice_cons cs off v vs (by omega)]
   exact h2
end
def bt (c : UInt8) : Value:=.int .u8 c.toNat
def bv (l : List UInt8) : List Value:=l.map bt
@[simp] theorem bv_length (l : List UInt8) : (bv l).length = l.length:=by simp [bv]
@[simp] theorem bv_append (l k : List UInt8) : bv (l ++ k) = bv l ++ bv k:=by simp [bv]
theorem bv_take (l : List UInt8) (n : Nat) : (bv l).take n = bv (l.take n):=by simp [bv]
theorem bv_drop (l : List UInt8) (n : Nat) : (bv l).drop n = bv (l.drop n):=by simp [bv]
theorem bv_getElem? (l : List UInt8) (i : Nat) : (bv l)[i]? = l[i]?.map bt:=by simp [bv]
theorem bv_set (l : List UInt8) (i : Nat) (c : UInt8) : bv (l.set i c) = (bv l).set i (bt c):=by simp [bv]
theorem bv_replicate (n : Nat) (c : UInt8) : bv (List.replicate n c) = List.replicate n (bt c):=by simp [bv]
theorem bv_one (l : List UInt8) : ∀ u ∈ bv l,u.oneCell' = true:=by
 intro u hu
 obtain ⟨c,_,rfl⟩:=List.mem_map.1 hu
 rfl
theorem size_mk' (l : List UInt8) : (ByteArray.mk l.toArray).size = l.length:=by simp [ByteArray.size]
section
variable {P : Program} {ops : Array Oper} {Q : Exit → Act → World → Prop} {a : Act} {w : World} {K : Act → World → Prop} {rest : List Oper} {o : Oper}
theorem Blk.cells {w : World} {b : Nat} {cs : List Value} (h : Blk w b cs) {off : Nat} {vs : List Value} (hv : (cs.drop off).take vs.length = vs) :
 ∀ j u,vs[j]? = some u → w.cell? ((⟨b,off,none⟩ : Addr).add j) = some u:=by
 intro j u hu
 have hadd : (⟨b,off,none⟩ : Addr).add j = ⟨b,off + j,none⟩:=by unfold Addr.add;split <;> simp_all
 rw [hadd,h.cell]
 have hj : j < vs.length:=(List.getElem?_eq_some_iff.1 hu).1
 rw [← hv,List.getElem?_take,if_pos hj,List.getElem?_drop] at hu
 exact hu
def aggDesc : TypeDesc → Bool
 | .struct _ | .array _ _ => true
 | _ => false
theorem run_loadVar_agg (w : World) (ty : TypeId) (d : TypeDesc) (hu : P.underlying ty = some d) (hd : aggDesc d = true) {b off : Nat} {cs vs : List Value} (hb : Blk w b cs)
 (hv : (cs.drop off).take vs.length = vs) (hs : (P.info? ty).map (·.size) = some vs.length) : (loadVar ty ⟨b,off,none⟩).run P w = .ok (.agg vs.toArray) w:=by
 have hl:=run_loadCells_list (P:=P) w ⟨b,off,none⟩ vs (hb.cells hv)
 cases hq : P.info? ty with
 | none => simp [hq] at hs
 | some i =>
   have hs' : i.size = vs.length:=by simpa [hq] using hs
   have hagg : (isAgg ty).run P w = .ok true w:=by
    unfold isAgg
    rw [Sem.run_bind,run_underlying hu w]
    cases d <;> simp_all [aggDesc]
   simp [loadVar,Sem.run_bind,hagg,sizeOf,typeInfo,hq,hs',hl]
theorem wp_load_agg (ty : TypeId) (x : Operand) (ho : o.op = .load ty x) {b off : Nat} (hx : a.eval x = .pointer (some ⟨b,off,none⟩)) {cs : List Value} (vs : List Value) (hb : Blk w b cs)
 (d : TypeDesc) (hu : P.underlying ty = some d) (hd : aggDesc d = true) (hs : (P.info? ty).map (·.size) = some vs.length) (hv : (cs.drop off).take vs.length = vs)
 (h : K (a.put o.dst (.agg vs.toArray)) w) : o.wp P a w K Q:=by
 unfold Oper.wp execOp
 simp only [ho,hx,Instr.loadAt,Instr.sureAddr,Sem.run_bind,Sem.run_pure,Result.andThen_ok,run_loadVar_agg w ty d hu hd hb hv hs]
 exact h
theorem wpList_load_agg (hg : o.guard = none) (ty : TypeId) (x : Operand) (ho : o.op = .load ty x) {b off : Nat} (hx : a.eval x = .pointer (some ⟨b,off,none⟩)) {cs : List Value} (vs : List Value) (hb : Blk w b cs)
 (d : TypeDesc) (hu : P.underlying ty = some d) (hd : aggDesc d = true) (hs : (P.info? ty).map (·.size) = some vs.length) (hv : (cs.drop off).take vs.length = vs)
 (h : wpList P ops Q rest (a.put o.dst (.agg vs.toArray)) w) : wpList P ops Q (o :: rest) a w :=
 wpList_plain hg fun _ hK => wp_load_agg ty x ho hx vs hb d hu hd hs hv (hK _ _ h)
theorem quiet_load_agg {C : World → Prop} {Q' : Act → Prop} (hg : o.guard = none) (ty : TypeId) (x : Operand) (ho : o.op = .load ty x) {b off : Nat} (hx : a.eval x = .pointer (some ⟨b,off,none⟩)) {cs : List Value} (vs : List Value)
 (hb : ∀ w,C w → Blk w b cs) (d : TypeDesc) (hu : P.underlying ty = some d) (hd : aggDesc d = true) (hs : (P.info? ty).map (·.size) = some vs.length) (hv : (cs.drop off).take vs.length = vs)
 (h : wpQuiet P ops C Q' rest (a.put o.dst (.agg vs.toArray))) : wpQuiet P ops C Q' (o :: rest) a:=by
 refine wpQuiet_step fun K hK => ?_
 rw [if_pos (by simp [Region.wanted,hg])]
 refine ⟨.agg vs.toArray,fun w hC => ?_,hK _ h⟩
 unfold Oper.quietAt execOp
 simp only [ho,hx,Instr.loadAt,Instr.sureAddr,Sem.run_bind,Sem.run_pure,Result.andThen_ok,run_loadVar_agg w ty d hu hd (hb w hC) hv hs]
 exact ⟨rfl,rfl⟩
theorem run_storeVar_agg (w : World) (ty : TypeId) {b off : Nat} {cs vs : List Value} (hb : Blk w b cs) (hs : (P.info? ty).map (·.size) = some vs.length) (hn : off + vs.length ≤ cs.length) (h1 : ∀ u ∈ vs,u.oneCell' = true) :
 (storeVar ty ⟨b,off,none⟩ (.agg vs.toArray)).run P w = .ok () (w.setCells b off vs):=by
 cases hq : P.info? ty with
 | none => simp [hq] at hs
 | some i =>
   have hs' : i.size = vs.length:=by simpa [hq] using hs
   have hst:=run_storeCells_cells (P:=P) b off vs 0 w (fun j hj => by rw [hb.cell];simp;omega) (fun j hj => hb.free _ (by omega)) h1
   simp only [Nat.add_zero] at hst
   simp [storeVar,sizeOf,typeInfo,hq,hs',Value.cells,hst]
theorem wp_store_agg (ty : TypeId) (x y : Operand) (ho : o.op = .store ty x y) {b off : Nat} (hx : a.eval x = .pointer (some ⟨b,off,none⟩)) {cs : List Value} (vs : List Value) (hy : a.eval y = .agg vs.toArray) (hb : Blk w b cs)
 (hs : (P.info? ty).map (·.size) = some vs.length) (hn : off + vs.length ≤ cs.length) (h1 : ∀ u ∈ vs,u.oneCell' = true)
 (h : ∀ w',Fr [b] w w' → Blk w' b (splice cs off vs) → w'.heap.size = w.heap.size → K (a.put o.dst undef) w') : o.wp P a w K Q:=by
 unfold Oper.wp execOp
 simp only [ho,hx,hy,Instr.storeAt,Instr.sureAddr,Sem.run_bind,Sem.run_pure,Result.andThen_ok,run_storeVar_agg w ty hb hs hn h1]
 obtain ⟨h2,h3⟩:=Blk.setCells vs off hb hn
 have hsz : ∀ (vs : List Value) (off : Nat) (w : World),(w.setCells b off vs).heap.size = w.heap.size:=by
  intro vs
  induction vs with
  | nil => intro _ _;rfl
  | cons v r ih => intro off w;simp only [World.setCells,ih,World.size_setCell]
 exact h _ h3 h2 (hsz _ _ _)
theorem wpList_store_agg (hg : o.guard = none) (ty : TypeId) (x y : Operand) (ho : o.op = .store ty x y) {b off : Nat} (hx : a.eval x = .pointer (some ⟨b,off,none⟩)) {cs : List Value} (vs : List Value) (hy : a.eval y = .agg vs.toArray) (hb : Blk w b cs)
 (hs : (P.info? ty).map (·.size) = some vs.length) (hn : off + vs.length ≤ cs.length) (h1 : ∀ u ∈ vs,u.oneCell' = true)
 (h : ∀ w',Fr [b] w w' → Blk w' b (splice cs off vs) → w'.heap.size = w.heap.size → wpList P ops Q rest (a.put o.dst undef) w') : wpList P ops Q (o :: rest) a w :=
 wpList_plain hg fun _ hK => wp_store_agg ty x y ho hx vs hy hb hs hn h1 fun w' h2 h3 h4 => hK _ _ (h w' h2 h3 h4)
theorem bytesRow_toList (s : ByteArray) (cap : Nat) : (bytesRow s cap).toList = bv s.data.toList ++ List.replicate (cap - s.size) (bt 0):=by
 simp [bytesRow,bv,bt]
theorem wp_bytes_of_string (src dst e : TypeId) (x : Operand) (ho : o.op = .convert src dst x) (s : ByteArray) (hx : a.eval x = .string s)
 (hs : P.underlying src = some .string) (hd : P.underlying dst = some (.slice e)) (he : P.underlying e = some (.int .u8))
 (h : ∀ w' cap,Fr [] w w' → w.heap.size < w'.heap.size → Blk w' w.heap.size (bv s.data.toList ++ List.replicate (cap - s.size) (bt 0)) → s.size ≤ cap →
   K (a.put o.dst (.slice (some ⟨w.heap.size,0,none⟩) s.size cap)) w') : o.wp P a w K Q:=by
 unfold Oper.wp execOp
 simp only [ho,hx,Sem.run_bind,run_bytes_of_string w src dst e s hs hd he,Result.andThen_ok,Sem.run_pure]
 refine h _ _ ?_ (by simp) ?_ (grownCap_ge w s.size 0 e)
 · exact ((Fr.refl [] w).drew).alloc _
 · refine ⟨e,_,by rw [← bytesRow_toList];exact heap_alloc_new w.drew _,fun i hi => ?_⟩
   rw [← bytesRow_toList,Array.length_toList] at hi
   have : ¬ ((bytesRow s (grownCap w s.size 0 e)).size ≤ i):=by omega
   simp [this]
theorem wpList_bytes_of_string (hg : o.guard = none) (src dst e : TypeId) (x : Operand) (ho : o.op = .convert src dst x) (s : ByteArray) (hx : a.eval x = .string s)
 (hs : P.underlying src = some .string) (hd : P.underlying dst = some (.slice e)) (he : P.underlying e = some (.int .u8))
 (h : ∀ w' cap,Fr [] w w' → w.heap.size < w'.heap.size → Blk w' w.heap.size (bv s.data.toList ++ List.replicate (cap - s.size) (bt 0)) → s.size ≤ cap →
   wpList P ops Q rest (a.put o.dst (.slice (some ⟨w.heap.size,0,none⟩) s.size cap)) w') : wpList P ops Q (o :: rest) a w :=
 wpList_plain hg fun _ hK => wp_bytes_of_string src dst e x ho s hx hs hd he fun w' cap h1 h2 h3 h4 => hK _ _ (h w' cap h1 h2 h3 h4)
theorem run_string_of_bytes (w : World) (src dst e : TypeId) {b off : Nat} {cs : List Value} (hb : Blk w b cs) (l : List UInt8) (cap : Nat) (hv : (cs.drop off).take l.length = bv l)
 (hs : P.underlying src = some (.slice e)) (he : P.underlying e = some (.int .u8)) (hd : P.underlying dst = some .string) :
 (convert src dst (.slice (some ⟨b,off,none⟩) l.length cap)).run P w = .ok (.string ⟨l.toArray⟩) w :=
 run_convert_bytes_back w src dst e ⟨b,off,none⟩ cap l hs he hd fun j hj => hb.cells (vs:=bv l) (by simpa using hv) j _ (by simp [bv,bt,hj])
theorem wp_string_of_bytes (src dst e : TypeId) (x : Operand) (ho : o.op = .convert src dst x) {b off : Nat} (n cap : Nat) (hx : a.eval x = .slice (some ⟨b,off,none⟩) n cap) {cs : List Value} (hb : Blk w b cs) (l : List UInt8) (hn : l.length = n)
 (hv : (cs.drop off).take l.length = bv l) (hs : P.underlying src = some (.slice e)) (he : P.underlying e = some (.int .u8)) (hd : P.underlying dst = some .string)
 (h : K (a.put o.dst (.string ⟨l.toArray⟩)) w) : o.wp P a w K Q:=by
 subst hn
 unfold Oper.wp execOp
 simp only [ho,hx,Sem.run_bind,run_string_of_bytes w src dst e hb l cap hv hs he hd,Result.andThen_ok,Sem.run_pure]
 exact h
theorem wpList_string_of_bytes (hg : o.guard = none) (src dst e : TypeId) (x : Operand) (ho : o.op = .convert src dst x) {b off : Nat} (n cap : Nat) (hx : a.eval x = .slice (some ⟨b,off,none⟩) n cap) {cs : List Value} (hb : Blk w b cs) (l : List UInt8) (hn : l.length = n)
 (hv : (cs.drop off).take l.length = bv l) (hs : P.underlying src = some (.slice e)) (he : P.underlying e = some (.int .u8)) (hd : P.underlying dst = some .string)
 (h : wpList P ops Q rest (a.put o.dst (.string ⟨l.toArray⟩)) w) : wpList P ops Q (o :: rest) a w :=
 wpList_plain hg fun _ hK => wp_string_of_bytes src dst e x ho n cap hx hb l hn hv hs he hd (hK _ _ h)
end
end Go.Xr
namespace Go.Xr
open Go
section
variable {P : Program} {ops : Array Oper} {Q : Exit → Act → World → Prop} {S : World → Prop} {last : Bool}
def waitsFor (ops : Array Oper) (j i : Nat) : Bool :=
 match ops[j]? with
 | some oj => oj.after.any fun e => Region.binds .any e && e.on == i
 | none => false
theorem waitsFor_spec {j i : Nat} (h : waitsFor ops j i = true) : ∃ oj,ops[j]? = some oj ∧ ∃ e ∈ oj.after,Region.binds .any e = true ∧ e.on = i:=by
 unfold waitsFor at h
 split at h
 · rename_i oj hj
   obtain ⟨e,he,hb⟩:=Array.any_eq_true'.1 h
   simp only [Bool.and_eq_true,beq_iff_eq] at hb
   exact ⟨oj,hj,e,he,hb.1,hb.2⟩
 · cases h
def sinkB (ops : Array Oper) (n : Nat) : Bool :=
 (List.range n).all fun i => (List.range (n + 1)).any fun j => decide (i < j) && waitsFor ops j i
theorem getD_both {listed : Array Bool} {i : Nat} (h : listed.getD i true = false) : listed.getD i false = false:=by
 rcases Nat.lt_or_ge i listed.size with h' | h'
 · simp [h'] at h ⊢;exact h
 · simp [Array.getElem?_eq_none h'] at h
theorem getD_in {listed : Array Bool} {i : Nat} (hi : i < listed.size) (h : listed.getD i false = false) : listed.getD i true = false:=by
 simp [hi] at h ⊢;exact h
theorem getD_replicate_false (m j : Nat) : (Array.replicate m false).getD j false = false:=by
 rcases Nat.lt_or_ge j m with h | h
 · simp [h]
 · simp [h]
def wpAnyX (P : Program) (ops : Array Oper) (Q : Exit → Act → World → Prop) (S : World → Prop) (last : Bool) : Nat → Array Bool → Act → World → Prop
 | 0,listed,a,w => Region.ready .any ops listed = [] ∧ Q .normal a w
 | fuel + 1,listed,a,w =>
   (Region.ready .any ops listed = [] → Q .normal a w) ∧
   ∀ i ∈ Region.ready .any ops listed,wpOp P ops Q i (fun a' w' => ((last = true ∧ i + 1 = ops.size) ∨ S w') ∧ wpAnyX P ops Q S last fuel (listed.setIfInBounds i true) a' w') a w
theorem wpAny_of_X : ∀ (fuel : Nat) (listed : Array Bool) (a : Act) (w : World),wpAnyX P ops Q S last fuel listed a w → wpAny P .any ops Q fuel listed a w
 | 0,_,_,_,h => h
 | fuel + 1,_,_,_,h => ⟨h.1,fun i hi => wpOp_mono (fun a' w' h' => wpAny_of_X fuel _ a' w' h'.2) (h.2 i hi)⟩
structure Closed (ops : Array Oper) (listed : Array Bool) : Prop where
 size : listed.size = ops.size
 closed : ∀ j oj,ops[j]? = some oj → listed.getD j false = true → ∀ e ∈ oj.after,Region.binds .any e = true → listed.getD e.on false = true
theorem Closed.start (ops : Array Oper) : Closed ops (Array.replicate ops.size false) :=
 ⟨by simp,fun j oj _ hl => by rw [getD_replicate_false] at hl;cases hl⟩
theorem Closed.set {listed : Array Bool} {i : Nat} (inv : Closed ops listed) (hi : i ∈ Region.ready .any ops listed) : Closed ops (listed.setIfInBounds i true):=by
 obtain ⟨_,oi,hoi,hall⟩:=mem_ready.1 hi
 refine ⟨by simp [inv.size],fun j oj hj hl e he hb => ?_⟩
 by_cases hij : i = j
 · subst hij
   have : oj = oi:=Option.some.inj (hj.symm.trans hoi)
   subst this
   exact getD_set_true (hall e he hb)
 · rw [getD_set_ne false hij] at hl
   exact getD_set_true (inv.closed j oj hj hl e he hb)
theorem sink_waits {n : Nat} {listed : Array Bool} (hs : sinkB ops n = true) (hn : n < ops.size) (inv : Closed ops listed) :
 ∀ (d i : Nat),n - i = d → i < n → listed.getD i true = false → n ∉ Region.ready .any ops listed:=by
 intro d
 induction d using Nat.strongRecOn with
 | _ d ih =>
   intro i hd hi hun hr
   obtain ⟨_,ot,hot,hall⟩:=mem_ready.1 hr
   have h1:=List.all_eq_true.1 hs i (List.mem_range.2 hi)
   obtain ⟨j,hj,hj2⟩:=List.any_eq_true.1 h1
   simp only [Bool.and_eq_true,decide_eq_true_eq] at hj2
   obtain ⟨oj,hoj,e,he,hb,hon⟩:=waitsFor_spec hj2.2
   have hjle : j ≤ n:=by have:=List.mem_range.1 hj;omega
   by_cases hjt : j = n
   · subst hjt
     have : oj = ot:=Option.some.inj (hoj.symm.trans hot)
     subst this
     have h2:=hall e he hb
     rw [hon,getD_both hun] at h2
     cases h2
   · cases hl : listed.getD j false with
     | true =>
       have h2:=inv.closed j oj hoj hl e he hb
       rw [hon,getD_both hun] at h2
       cases h2
     | false =>
       have hjs : j < listed.size:=by rw [inv.size];omega
       exact ih (n - j) (by omega) j rfl (by omega) (getD_in hjs hl) hr
theorem wpAnyX_first {i : Nat} {oi : Oper} {v : Value} (hi : ops[i]? = some oi) (hsel : ∀ (j : Nat) (o : Oper) cs b,ops[j]? = some o → o.op ≠ .select cs b)
 (hQ : ∀ c a w,Q (.panic c) (a.put oi.dst v) w → Q (.panic c) a w) (hlast : last = true → sinkB ops (ops.size - 1) = true) :
 ∀ (fuel : Nat) (listed : Array Bool) (a : Act) (w : World),Closed ops listed →
   (∀ j oj,ops[j]? = some oj → j ≠ i → listed.getD j true = false → (∀ e ∈ oj.after,Region.binds .any e = true → e.on ≠ i) → oi.apart ops oj = true) →
   i ∈ Region.ready .any ops listed → YieldsIf P ops S oi v a → S w →
   wpAnyX P ops Q S last fuel (listed.setIfInBounds i true) (a.put oi.dst v) w → wpAnyX P ops Q S last (fuel + 1) listed a w:=by
 intro fuel
 induction fuel with
 | zero =>
   intro listed a w _ _ hr hy hS H
   refine ⟨fun h => (by rw [h] at hr;cases hr),fun j hj => ?_⟩
   by_cases hji : j = i
   · subst hji;exact hy.wpOp hi hS ⟨.inr hS,H⟩
   · have:=ready_mono hj hji
     rw [H.1] at this
     cases this
 | succ fuel ih =>
   intro listed a w inv hfree hr hy hS H
   refine ⟨fun h => (by rw [h] at hr;cases hr),fun j hj => ?_⟩
   by_cases hji : j = i
   · subst hji;exact hy.wpOp hi hS ⟨.inr hS,H⟩
   · have h1:=H.2 j (ready_mono hj hji)
     obtain ⟨hjun,oj,hoj,hall⟩:=mem_ready.1 hj
     have hiun:=(mem_ready.1 hr).1
     have hilt : i < ops.size:=(Array.getElem?_eq_some_iff.1 hi).1
     have hjlt : j < ops.size:=(Array.getElem?_eq_some_iff.1 hoj).1
     have hnot : ∀ e ∈ oj.after,Region.binds .any e = true → e.on ≠ i:=fun e he hb heq => by
      have h1:=hall e he hb
      have h0:=(mem_ready.1 hr).1
      rw [heq] at h1
      rcases Nat.lt_or_ge i listed.size with h' | h'
      · simp [h'] at h0 h1;rw [h0] at h1;cases h1
      · simp [Array.getElem?_eq_none h'] at h1
     have hnl : ¬ (last = true ∧ j + 1 = ops.size):=fun ⟨hl,hj1⟩ => by
      have hjn : j = ops.size - 1:=by omega
      have hs:=hlast hl
      exact sink_waits hs (by omega) inv _ i rfl (by omega) hiun (hjn ▸ hj)
     have h2:=wpOp_putIf hoj (hfree j oj hoj hji hjun hnot) (fun cs b => hsel i oi cs b hi) (fun cs b => hsel j oj cs b hoj) hQ hy h1
     have hfree' : ∀ k ok,ops[k]? = some ok → k ≠ i → (listed.setIfInBounds j true).getD k true = false →
      (∀ e ∈ ok.after,Region.binds .any e = true → e.on ≠ i) → oi.apart ops ok = true:=fun k ok hk hki hun hno => by
      refine hfree k ok hk hki ?_ hno
      by_cases hjk : j = k
      · subst hjk;exact hjun
      · rw [getD_set_ne true hjk] at hun;exact hun
     refine wpOp_mono (fun a' w' h3 => ?_) h2
     obtain ⟨hy',h4,h5⟩:=h3
     have h4:=h4.resolve_left hnl
     exact ⟨.inr h4,ih (listed.setIfInBounds j true) a' w' (inv.set hj) hfree' (ready_mono hr (Ne.symm hji)) hy' h4 (by rw [Array.setIfInBounds_comm _ _ hji];exact h5)⟩
def marks (n : Nat) (done : List Nat) : Array Bool:=done.foldl (fun m i => m.setIfInBounds i true) (Array.replicate n false)
theorem marks_snoc (n : Nat) (done : List Nat) (i : Nat) : marks n (done ++ [i]) = (marks n done).setIfInBounds i true:=by
 simp [marks]
def WX (P : Program) (ops : Array Oper) (Q : Exit → Act → World → Prop) (S : World → Prop) (last : Bool) (done : List Nat) (a : Act) (w : World) : Prop :=
 Closed ops (marks ops.size done) → wpAnyX P ops (fun e a w => e = .normal ∧ Q .normal a w) S last (ops.size - done.length) (marks ops.size done) a w
def pick (l : List Oper) (seg : List Nat) : List Oper:=seg.map fun i => l.getD i default
def plainOp (o : Oper) : Bool :=
 match o.op with
 | .move _ | .assign _ | .pick .. | .build .. | .load .. | .nilCheck _ | .binOp .. | .unOp .. | .convert .. | .sliceToArrayPointer .. | .slice .. | .fieldAddr .. | .field .. | .indexAddr .. | .index .. | .extract .. | .lookup .. | .makeInterface .. | .makeFunc .. | .typeAssert .. => true
 | .call { callee:=.builtin .len,.. } | .call { callee:=.builtin .cap,.. } | .call { callee:=.builtin .min,.. } | .call { callee:=.builtin .max,.. } => true
 | _ => false
theorem value_of_bind {s : Sem Value} {w w' : World} {nx : Next} (h : (do pure (.value (← s)) : Sem Next).run P w = .ok nx w') : ∃ v,nx = .value v:=by
 have h2 : (Sem.bind s (fun x => Sem.pure (Next.value x))).run P w = .ok nx w':=h
 have e : (Sem.bind s (fun x => Sem.pure (Next.value x))).run P w = (s.run P w).andThen (fun v w => .ok (.value v) w):=by
  rw [Sem.run_bind'];rfl
 rw [e] at h2
 cases hs : s.run P w with
 | ok v w1 => rw [hs] at h2;simp [Result.andThen] at h2;exact ⟨v,h2.1.symm⟩
 | halt x w1 => rw [hs] at h2;simp [Result.andThen] at h2
theorem plain_value {ρ : Operand → Value} {o : Oper} {w w' : World} {nx : Next} (hp : plainOp o = true) (h : (execOp ρ o).run P w = .ok nx w') : ∃ v,nx = .value v:=by
 obtain ⟨dst,op,ty,pos,after,guard⟩:=o
 cases op with
 | move x => simp [execOp] at h;exact ⟨_,h.1.symm⟩
 | assign x => simp [execOp] at h;exact ⟨_,h.1.symm⟩
 | pick c a b =>
   simp only [execOp,Sem.run_bind] at h
   cases hs : (asBool (ρ c)).run P w with
   | ok v w1 => rw [hs] at h;simp at h;exact ⟨_,h.1.symm⟩
   | halt x w1 => rw [hs] at h;simp at h
 | nilCheck x =>
   simp only [execOp] at h
   split at h
   · exact absurd h (by simp [runtimePanic,goPanic,Sem.run])
   · exact absurd h (by simp [runtimePanic,goPanic,Sem.run])
   · exact absurd h (by simp [runtimePanic,goPanic,Sem.run])
   · split at h
     · exact absurd h (by simp [runtimePanic,goPanic,Sem.run])
     · simp only [Sem.run_bind,program,Sem.run,Result.andThen_ok] at h
       generalize (nilAhead _ _ _ _ : Sem (Option Bool)).run P w = r at h
       cases r with
       | halt x w1 => simp [Result.andThen] at h
       | ok v w1 =>
         simp only [Result.andThen_ok] at h
         split at h
         · simp [unsupported,Sem.run,Result.andThen] at h
         · simp at h;exact ⟨_,h.1.symm⟩
     · simp at h;exact ⟨_,h.1.symm⟩
   · simp at h;exact ⟨_,h.1.symm⟩
 | call c =>
   obtain ⟨callee,args,ats⟩:=c
   cases callee with
   | value _ => simp [plainOp] at hp
   | invoke _ _ => simp [plainOp] at hp
   | builtin b =>
     cases b with
     | len => exact value_of_bind (s:=Builtin.len_ _ _ _) h
     | cap => exact value_of_bind (s:=Builtin.cap_ _ _ _) h
     | min => exact value_of_bind (s:=Builtin.min_ _ _ _) h
     | max => exact value_of_bind (s:=Builtin.max_ _ _ _) h
     | _ => simp [plainOp] at hp
 | build _ _ => exact value_of_bind h
 | load _ _ => exact value_of_bind h
 | binOp _ _ _ _ _ => exact value_of_bind h
 | unOp _ _ _ => exact value_of_bind h
 | convert _ _ _ => exact value_of_bind h
 | sliceToArrayPointer _ _ => exact value_of_bind h
 | slice _ _ _ _ _ => exact value_of_bind h
 | fieldAddr _ _ _ => exact value_of_bind h
 | field _ _ _ => exact value_of_bind h
 | indexAddr _ _ _ => exact value_of_bind h
 | index _ _ _ => exact value_of_bind h
 | extract _ _ => exact value_of_bind h
 | lookup _ _ _ _ => exact value_of_bind h
 | makeInterface _ _ => exact value_of_bind h
 | makeFunc _ _ _ => exact value_of_bind h
 | typeAssert _ _ _ _ => exact value_of_bind h
 | _ => simp [plainOp] at hp
def takeB (ops : Array Oper) (done : List Nat) (i : Nat) : Bool :=
 decide (done.length < ops.size) && (Region.ready .any ops (marks ops.size done)).contains i && Region.free .any ops (marks ops.size done) i &&
  ((ops[i]?).map plainOp).getD false
def takesB (ops : Array Oper) : List Nat → List Nat → Bool
 | _,[] => true
 | done,i :: seg => takeB ops done i && takesB ops (done ++ [i]) seg
def pureB (ops : Array Oper) (last : Bool) (done seg : List Nat) : Bool :=
 Region.noSelect ops && (!last || sinkB ops (ops.size - 1)) && takesB ops done seg
theorem family (S : World → Prop) {w : World} (h : S w) : ∃ (ι : Type) (W : ι → World),Nonempty ι ∧ (∀ j,S (W j)) ∧ (∀ w,S w → ∃ j,w = W j) ∧ ∃ j,w = W j :=
 ⟨{w' // S w'},Subtype.val,⟨⟨w,h⟩⟩,fun j => j.2,fun w h => ⟨⟨w,h⟩,rfl⟩,⟨⟨w,h⟩,rfl⟩⟩
theorem yields_of_quiet {o : Oper} {a : Act} {v : Value} (hp : plainOp o = true) (h : ∀ w,S w → o.quietAt P a S w v) (w : World) (hS : S w) : (execOp a.eval o).run P w = .ok (.value v) w:=by
 have h1:=h w hS
 unfold Oper.quietAt at h1
 cases hr : (execOp a.eval o).run P w with
 | halt x w' => rw [hr] at h1;simp [Oper.quietUpon] at h1
 | ok nx w' =>
   obtain ⟨u,rfl⟩:=plain_value hp hr
   rw [hr] at h1
   simp only [Oper.quietUpon] at h1
   obtain ⟨rfl,rfl⟩:=h1
   rfl
theorem WX.take {done : List Nat} {i : Nat} {a : Act} {w : World} {oi : Oper} {v : Value} (hi : ops[i]? = some oi) (hsel : Region.noSelect ops = true)
 (hlast : last = true → sinkB ops (ops.size - 1) = true) (hB : takeB ops done i = true) (hS : S w) (hy : YieldsIf P ops S oi v a)
 (h : WX P ops Q S last (done ++ [i]) (a.put oi.dst v) w) : WX P ops Q S last done a w:=by
 intro inv
 simp only [takeB,Bool.and_eq_true,decide_eq_true_eq] at hB
 obtain ⟨⟨⟨hlen,hr⟩,hf⟩,_⟩:=hB
 have hr' : i ∈ Region.ready .any ops (marks ops.size done):=by simpa using hr
 have h2:=h (by rw [marks_snoc];exact inv.set hr')
 rw [marks_snoc] at h2
 have e : ops.size - done.length = (ops.size - (done ++ [i]).length) + 1:=by simp;omega
 rw [e]
 exact wpAnyX_first hi (Region.noSelect_spec hsel) (fun c a w hq => by simp at hq) hlast _ _ a w inv (Region.free_spec hi hf) hr' hy hS h2
theorem WX.pure' (hsel : Region.noSelect ops = true) (hlast : last = true → sinkB ops (ops.size - 1) = true) {w : World} (hS : S w) :
 ∀ (seg done : List Nat) (a : Act),takesB ops done seg = true →
   wpQuiet P ops S (fun a' => WX P ops Q S last (done ++ seg) a' w) (pick ops.toList seg) a → WX P ops Q S last done a w
 | [],done,a,_,h => by simpa [pick,wpQuiet] using h
 | i :: seg,done,a,hB,h => by
   simp only [takesB,Bool.and_eq_true] at hB
   have hB1:=hB.1
   simp only [takeB,Bool.and_eq_true] at hB1
   have hp:=hB1.2
   cases hi : ops[i]? with
   | none => simp [hi] at hp
   | some oi =>
     simp only [hi,Option.map_some,Option.getD_some] at hp
     have hpk : pick ops.toList (i :: seg) = oi :: pick ops.toList seg:=by
      have : ops.toList[i]? = some oi:=by simpa using hi
      simp only [pick,List.map_cons,List.getD,this,Option.getD_some]
     rw [hpk] at h
     have happ : done ++ (i :: seg) = (done ++ [i]) ++ seg:=by simp
     rw [happ] at h
     simp only [wpQuiet] at h
     by_cases hw : Region.wanted oi (yielded ops a.tmps) = true
     · rw [if_pos hw] at h
       obtain ⟨v,h1,h2⟩:=h
       exact WX.take hi hsel hlast hB.1 hS (.inl ⟨hw,fun w' hS' => yields_of_quiet hp h1 w' hS'⟩) (WX.pure' hsel hlast hS seg (done ++ [i]) _ hB.2 h2)
     · rw [if_neg hw] at h
       exact WX.take hi hsel hlast hB.1 hS (.inr ⟨by simpa using hw,rfl⟩) (WX.pure' hsel hlast hS seg (done ++ [i]) _ hB.2 h)
theorem WX.pure {done : List Nat} {a : Act} {w : World} (seg : List Nat) (hB : pureB ops last done seg = true) (hS : S w)
 (h : wpQuiet P ops S (fun a' => WX P ops Q S last (done ++ seg) a' w) (pick ops.toList seg) a) : WX P ops Q S last done a w:=by
 simp only [pureB,Bool.and_eq_true,Bool.or_eq_true,Bool.not_eq_true'] at hB
 exact WX.pure' hB.1.1 (fun hl => by simpa [hl] using hB.1.2) hS seg done a hB.2 h
def After (P : Program) (ops : Array Oper) (Q : Exit → Act → World → Prop) (S : World → Prop) (last : Bool) (done : List Nat) (i : Nat) : Exit → Act → World → Prop :=
 fun e a w => e = .normal ∧ ((last = true ∧ i + 1 = ops.size) ∨ S w) ∧ WX P ops Q S last (done ++ [i]) a w
theorem After.on {done : List Nat} {i : Nat} {a : Act} {w : World} (hS : S w) (h : WX P ops Q S last (done ++ [i]) a w) : After P ops Q S last done i .normal a w:=⟨rfl,.inr hS,h⟩
theorem After.end {done : List Nat} {i : Nat} {a : Act} {w : World} (hi : i + 1 = ops.size) (h : WX P ops Q S true (done ++ [i]) a w) : After P ops Q S true done i .normal a w:=⟨rfl,.inl ⟨rfl,hi⟩,h⟩
theorem wpOp_of_list {i : Nat} {a : Act} {w : World} {oi : Oper} (hi : ops[i]? = some oi) {R : Exit → Act → World → Prop} {Q' : Exit → Act → World → Prop}
 (hR : ∀ e a w,R e a w → e = .normal) (h : wpList P ops R [oi] a w) : wpOp P ops Q' i (fun a' w' => R .normal a' w') a w:=by
 unfold wpOp
 simp only [hi]
 simp only [wpList] at h
 split
 · rename_i hw
   rw [if_pos hw] at h
   rcases h with h | ⟨_,a0,w0,h0⟩
   · refine .inl ?_
     unfold Oper.wp at h ⊢
     generalize (execOp a.eval oi).run P w = r at h ⊢
     cases r with
     | ok n w' =>
       cases n <;> simp only [Oper.upon] at h ⊢ <;> try exact h
       case enter f args =>
        refine h.mono fun e w'' he => ?_
        cases e with
        | returned v => exact he
        | panicked c => exact absurd (hR _ _ _ he) (by simp)
        | outgrown => obtain ⟨a1,w1,he⟩:=he;exact absurd (hR _ _ _ he) (by simp)
     | halt x w' =>
       cases x <;> simp only [Oper.upon] at h ⊢
       case panic v => exact absurd (hR _ _ _ h) (by simp)
   · exact absurd (hR _ _ _ h0) (by simp)
 · rename_i hw
   rw [if_neg hw] at h
   exact h
def readyB (ops : Array Oper) (done rs : List Nat) : Bool:=decide (done.length < ops.size) && decide (Region.ready .any ops (marks ops.size done) = rs) && rs.all fun i => (ops[i]?).isSome
theorem WX.effs {done : List Nat} {a : Act} {w : World} (rs : List Nat) (hB : readyB ops done rs = true) (hne : rs ≠ [])
 (h : ∀ i ∈ rs,wpList P ops (After P ops Q S last done i) (pick ops.toList [i]) a w) : WX P ops Q S last done a w:=by
 intro inv
 simp only [readyB,Bool.and_eq_true,decide_eq_true_eq,List.all_eq_true] at hB
 obtain ⟨⟨hlen,hr⟩,hsome⟩:=hB
 have e : ops.size - done.length = (ops.size - (done.length + 1)) + 1:=by omega
 rw [e]
 refine ⟨fun h0 => absurd (hr ▸ h0) hne,fun i hi => ?_⟩
 have hi':=hi
 rw [hr] at hi'
 obtain ⟨oi,hoi⟩:=Option.isSome_iff_exists.1 (hsome i hi')
 have h1:=h i hi'
 have hpk : pick ops.toList [i] = [oi]:=by
  have : ops.toList[i]? = some oi:=by simpa using hoi
  simp only [pick,List.map_cons,List.map_nil,List.getD,this,Option.getD_some]
 rw [hpk] at h1
 refine wpOp_mono (fun a' w' ⟨_,h3,h4⟩ => ⟨h3,?_⟩) (wpOp_of_list hoi (fun _ _ _ h => h.1) h1)
 have h5:=h4 (by rw [marks_snoc];exact inv.set hi)
 rw [marks_snoc] at h5
 simpa using h5
theorem WX.eff {done : List Nat} {a : Act} {w : World} (i : Nat) (hB : readyB ops done [i] = true)
 (h : wpList P ops (After P ops Q S last done i) (pick ops.toList [i]) a w) : WX P ops Q S last done a w :=
 WX.effs [i] hB (by simp) (fun j hj => by rw [List.mem_singleton.1 hj];exact h)
theorem WX.eff2 {done : List Nat} {a : Act} {w : World} (i j : Nat) (hB : readyB ops done [i,j] = true)
 (h1 : wpList P ops (After P ops Q S last done i) (pick ops.toList [i]) a w) (h2 : wpList P ops (After P ops Q S last done j) (pick ops.toList [j]) a w) : WX P ops Q S last done a w :=
 WX.effs [i,j] hB (by simp) (fun k hk => by
  simp only [List.mem_cons,List.not_mem_nil,or_false] at hk
  rcases hk with rfl | rfl
  · exact h1
  · exact h2)
theorem WX.done {done : List Nat} {a : Act} {w : World} (hB : (Region.ready .any ops (marks ops.size done)).isEmpty = true) (h : Q .normal a w) : WX P ops Q S last done a w:=by
 intro _
 have hr : Region.ready .any ops (marks ops.size done) = []:=by simpa using hB
 cases ops.size - done.length with
 | zero => exact ⟨hr,rfl,h⟩
 | succ n => exact ⟨fun _ => ⟨rfl,h⟩,by rw [hr];simp⟩
theorem wp_region_X {id : Nat} {a : Act} {w : World} (S : World → Prop) (last : Bool) (hm : P.follows .mixedOrders = true) (h : WX P ops Q S last [] a w.drew) : (Code.region id ops true).wp P Q a w:=by
 have h1:=h (Closed.start ops)
 refine Code.wp_mono (fun e a w ⟨he,hq⟩ => by subst he;exact hq) (wp_region_any (Q:=fun e a w => e = .normal ∧ Q .normal a w) hm ?_)
 exact wpAny_of_X _ _ _ _ h1
theorem wp_world {c : Code} {a : Act} {W : World} (R : World → Prop) (hR : R W) (h : ∀ w2,R w2 → c.wp P Q a w2) : c.wp P Q a W:=h W hR
end
end Go.Xr
namespace Go.Xr
open Go Go.RowKit
def Own (w : World) (size : Nat) (v : Value) (n : Nat) (xs : List Value) (B : Option Nat) : Prop :=
 xs.length = n * size ∧
 ((v = .slice none 0 0 ∧ n = 0 ∧ B = none) ∨
  ∃ b cap cs,B = some b ∧ v = .slice (some ⟨b,0,none⟩) n cap ∧ n ≤ cap ∧ cap ≤ maxLen ∧ Blk w b cs ∧ cs.length = cap * size ∧ cs.take (n * size) = xs)
section
variable {w w' : World} {size n : Nat} {v : Value} {xs : List Value} {B : Option Nat} {S : List Nat}
theorem Own.nil (w : World) (size : Nat) : Xr.Own w size (.slice none 0 0) 0 [] none:=⟨by simp,.inl ⟨rfl,rfl,rfl⟩⟩
theorem Own.keep (h : Xr.Own w size v n xs B) (f : Fr S w w') (hS : ∀ b,B = some b → b ∉ S) : Xr.Own w' size v n xs B:=by
 refine ⟨h.1,?_⟩
 rcases h.2 with h2 | ⟨b,cap,cs,rfl,h3,h4,h5,h6,h7⟩
 · exact .inl h2
 · exact .inr ⟨b,cap,cs,rfl,h3,h4,h5,f.blk h6 (hS b rfl),h7⟩
theorem Own.lt (h : Xr.Own w size v n xs B) : ∀ b,B = some b → b < w.heap.size:=by
 intro b hb
 rcases h.2 with ⟨_,_,h2⟩ | ⟨b',cap,cs,h1,_,_,_,h6,_⟩
 · rw [h2] at hb;cases hb
 · rw [h1] at hb;cases hb;exact h6.lt
theorem Own.blk {b : Nat} {cs : List Value} {cap : Nat} (hb : Blk w b cs) (h1 : n ≤ cap) (h2 : cap ≤ maxLen) (h3 : cs.length = cap * size) : Xr.Own w size (.slice (some ⟨b,0,none⟩) n cap) n (cs.take (n * size)) (some b) :=
 ⟨by rw [List.length_take,h3];exact Nat.min_eq_left (Nat.mul_le_mul_right _ h1),.inr ⟨b,cap,cs,rfl,rfl,h1,h2,hb,h3,rfl⟩⟩
theorem Own.cellAt (h : Xr.Own w size v n xs B) {b : Nat} (hb : B = some b) {j : Nat} (hj : j < xs.length) : w.cell? ⟨b,j,none⟩ = xs[j]?:=by
 rcases h.2 with ⟨_,_,h2⟩ | ⟨b',cap,cs,h1,_,_,_,h6,h7,h8⟩
 · rw [h2] at hb;cases hb
 · rw [h1] at hb;cases hb
   rw [h6.cell,← h8,List.getElem?_take,if_pos (by rw [← h.1];exact hj)]
theorem Own.isSlice (h : Xr.Own w size v n xs B) : ∃ a c,v = .slice a n c:=by
 rcases h.2 with ⟨h1,h2,_⟩ | ⟨b,cap,cs,_,h2,_⟩
 · exact ⟨none,0,by rw [h1,h2]⟩
 · exact ⟨_,_,h2⟩
theorem Own.shape (h : Xr.Own w size v n xs B) : (v = .slice none 0 0 ∧ n = 0 ∧ xs = [] ∧ B = none) ∨ ∃ b cap,B = some b ∧ v = .slice (some ⟨b,0,none⟩) n cap ∧ n ≤ cap ∧ cap ≤ maxLen:=by
 rcases h.2 with ⟨h1,h2,h3⟩ | ⟨b,cap,cs,h1,h2,h3,h4,_⟩
 · exact .inl ⟨h1,h2,List.eq_nil_of_length_eq_zero (by rw [h.1,h2];simp),h3⟩
 · exact .inr ⟨b,cap,h1,h2,h3,h4⟩
end
def Rd (w : World) (size : Nat) (v : Value) (n : Nat) (xs : List Value) (B : Option Nat) : Prop :=
 xs.length = n * size ∧
 ((v = .slice none 0 0 ∧ n = 0 ∧ B = none) ∨
  ∃ b off cap cs,B = some b ∧ v = .slice (some ⟨b,off,none⟩) n cap ∧ n ≤ cap ∧ cap ≤ maxLen ∧ Blk w b cs ∧ off + cap * size ≤ cs.length ∧ (cs.drop off).take (n * size) = xs)
section
variable {w w' : World} {size n : Nat} {v : Value} {xs : List Value} {B : Option Nat} {S : List Nat}
theorem Own.rd (h : Xr.Own w size v n xs B) : Rd w size v n xs B:=by
 refine ⟨h.1,?_⟩
 rcases h.2 with h2 | ⟨b,cap,cs,h1,h2,h3,h4,h5,h6,h7⟩
 · exact .inl h2
 · exact .inr ⟨b,0,cap,cs,h1,h2,h3,h4,h5,by omega,by rw [List.drop_zero];exact h7⟩
theorem Rd.keep (h : Rd w size v n xs B) (f : Fr S w w') (hS : ∀ b,B = some b → b ∉ S) : Rd w' size v n xs B:=by
 refine ⟨h.1,?_⟩
 rcases h.2 with h2 | ⟨b,off,cap,cs,rfl,h3,h4,h5,h6,h7⟩
 · exact .inl h2
 · exact .inr ⟨b,off,cap,cs,rfl,h3,h4,h5,f.blk h6 (hS b rfl),h7⟩
theorem Rd.lt (h : Rd w size v n xs B) : ∀ b,B = some b → b < w.heap.size:=by
 intro b hb
 rcases h.2 with ⟨_,_,h2⟩ | ⟨b',off,cap,cs,h1,_,_,_,h6,_⟩
 · rw [h2] at hb;cases hb
 · rw [h1] at hb;cases hb;exact h6.lt
theorem Rd.isSlice (h : Rd w size v n xs B) : ∃ a c,v = .slice a n c:=by
 rcases h.2 with ⟨h1,h2,_⟩ | ⟨b,off,cap,cs,_,h2,_⟩
 · exact ⟨none,0,by rw [h1,h2]⟩
 · exact ⟨_,_,h2⟩
theorem Rd.some (h : Rd w size v n xs B) (hn : 0 < n) : ∃ b off cap cs,B = some b ∧ v = .slice (some ⟨b,off,none⟩) n cap ∧ n ≤ cap ∧ cap ≤ maxLen ∧ Blk w b cs ∧ off + cap * size ≤ cs.length ∧ (cs.drop off).take (n * size) = xs:=by
 rcases h.2 with ⟨_,h2,_⟩ | h2
 · omega
 · exact h2
end
def Rc (w : World) (size : Nat) (v : Value) (n : Nat) (xs : List Value) (B : Option Nat) : Prop :=
 xs.length = n * size ∧ (∀ b,B = some b → b < w.heap.size) ∧ ∃ a c,v = .slice a n c ∧ n ≤ c ∧ c ≤ maxLen ∧
  (0 < n → ∃ b off,B = some b ∧ a = some ⟨b,off,none⟩ ∧ ∀ j,j < xs.length → w.cell? ⟨b,off + j,none⟩ = xs[j]?)
section
variable {w w' : World} {size n : Nat} {v : Value} {xs : List Value} {B : Option Nat} {S : List Nat}
theorem Rc.keep (h : Rc w size v n xs B) (f : Fr S w w') (hS : ∀ b,B = some b → b ∉ S) : Rc w' size v n xs B:=by
 obtain ⟨h1,h2,a,c,h3,h4,h5,h6⟩:=h
 refine ⟨h1,fun b hb => f.lt (h2 b hb),a,c,h3,h4,h5,fun hn => ?_⟩
 obtain ⟨b,off,hB,ha,hc⟩:=h6 hn
 exact ⟨b,off,hB,ha,fun j hj => (World.cell?_of_block (w:=w) (f.block b (h2 b hB) (hS b hB))).trans (hc j hj)⟩
theorem Rc.lt (h : Rc w size v n xs B) : ∀ b,B = some b → b < w.heap.size:=h.2.1
theorem Rc.isSlice (h : Rc w size v n xs B) : ∃ a c,v = .slice a n c:=by
 obtain ⟨_,_,a,c,h3,_⟩:=h
 exact ⟨a,c,h3⟩
theorem Rc.some (h : Rc w size v n xs B) (hn : 0 < n) : ∃ b off c,B = some b ∧ v = .slice (some ⟨b,off,none⟩) n c ∧ n ≤ c ∧ c ≤ maxLen ∧ b < w.heap.size ∧ ∀ j,j < xs.length → w.cell? ⟨b,off + j,none⟩ = xs[j]?:=by
 obtain ⟨_,h2,a,c,h3,h4,h5,h6⟩:=h
 obtain ⟨b,off,hB,rfl,hc⟩:=h6 hn
 exact ⟨b,off,c,hB,h3,h4,h5,h2 b hB,hc⟩
theorem Rc.nil (w : World) (size : Nat) : Rc w size (.slice none 0 0) 0 [] none:=⟨by simp,by simp,none,0,rfl,Nat.le_refl _,by simp,by simp⟩
theorem Rd.rc (h : Rd w size v n xs B) : Rc w size v n xs B:=by
 refine ⟨h.1,h.lt,?_⟩
 rcases h.2 with ⟨h1,h2,_⟩ | ⟨b,off,cap,cs,hB,hv,hcap,hcm,hb,hlen,hcs⟩
 · subst h2
   exact ⟨none,0,h1,Nat.le_refl _,by simp,fun h => absurd h (by decide)⟩
 · refine ⟨_,_,hv,hcap,hcm,fun hn => ⟨b,off,hB,rfl,fun j hj => ?_⟩⟩
   have hj' : j < n * size:=by rw [← h.1];exact hj
   rw [hb.cell,← hcs,List.getElem?_take,if_pos hj',List.getElem?_drop]
end
section
variable {P : Program} {ops : Array Oper} {Q : Exit → Act → World → Prop} {a : Act} {w : World} {K : Act → World → Prop} {rest : List Oper} {o : Oper}
theorem own_of_row {w : World} {base size n : Nat} {e : TypeId} {v : Value} {xs : List Value} (h : w.ownsRow base e size v n xs) : ∃ B,Xr.Own w size v n xs B ∧ ∀ b,B = some b → base ≤ b:=by
 rcases h.2 with ⟨h1,h2⟩ | ⟨g,cap,cur,h1,h2,h3,h4,h5,h6,h7⟩
 · exact ⟨none,⟨h.1,.inl ⟨h1,h2,rfl⟩⟩,fun b hb => by cases hb⟩
 · exact ⟨some g,⟨h.1,.inr ⟨g,cap,cur.toList,rfl,h1,h4,h5,⟨e,(0,0),by simpa using h3,fun i _ => by simp⟩,by simpa using h6,h7⟩⟩,fun b hb => by cases hb;exact h2⟩
theorem Fr.of_grownX {w w' : World} {row : Option Nat} (h : w.grownBy w' row) (hp : ∀ b,row = some b → Pln w b → Pln w' b) : Fr row.toList w w' :=
 ⟨h.os,h.tape,h.output,h.size,fun k hk hn => h.block k hk (fun e => hn (by rw [← e];simp)),fun k hk => by
  by_cases e : row = some k
  · exact hp k e hk
  · exact hk.same (h.block k hk.lt (fun e' => e (by rw [← e'])))⟩
theorem Fr.of_grown {w w' : World} (h : w.grownBy w' none) : Fr [] w w':=Fr.of_grownX h (fun _ e => by cases e)
theorem run_append (t ty e : TypeId) (i : TypeInfo) (z : Value) (size bytes : Nat) (ht : P.underlying t = some (.slice e)) (hi : P.info? e = some i) (hz : i.zero = some z)
 (hsize : i.size = size) (hby : i.bytes = bytes) (hzs : z.cells.size = size) (hsz : 0 < size) {w : World} {v : Value} {n : Nat} {xs : List Value} {B : Option Nat} (h : Xr.Own w size v n xs B)
 (ad : Addr) (m c : Nat) (news : List Value) (hl : news.length = m * size) (hnews : ∀ j u,news[j]? = some u → w.cell? (ad.add j) = some u) (h1 : ∀ u ∈ news,u.oneCell' = true)
 (h63 : n + m ≤ maxLen) (hbytes : (n + m) * bytes ≤ 140737488355328) :
 ∃ v' w' B',(Builtin.append_ #[t,t] ty #[v,.slice (some ad) m c]).run P w = .ok v' w' ∧ Xr.Own w' size v' (n + m) (xs ++ news) B' ∧ Fr B.toList w w' ∧ (B' = B ∨ ∃ b,B' = some b ∧ w.heap.size ≤ b):=by
 have hlen : (xs ++ news).length = (n + m) * size:=by rw [List.length_append,h.1,hl,Nat.add_mul]
 rcases h.2 with ⟨rfl,rfl,rfl⟩ | ⟨b,cap,cs,rfl,rfl,hnc,hcm,hb,hcl,htake⟩
 · obtain rfl : xs = []:=List.eq_nil_of_length_eq_zero (by simpa using h.1)
   obtain ⟨v',w',hrun,r1,r2,r3⟩:=run_append_own (P:=P) w w.heap.size t ty e i z size bytes ht hi hz hsize hby hzs hsz (.slice none 0 0) 0 [] (World.ownsRow_nil w _ e size) ad m c news hl hnews h1 h63 hbytes (Nat.le_refl _)
   obtain ⟨B',hB,hge⟩:=own_of_row r1
   refine ⟨v',w',B',hrun,hB,?_,?_⟩
   · exact (Fr.of_grown r2)
   · cases B' with
     | none => exact .inl rfl
     | some g => exact .inr ⟨g,rfl,hge g rfl⟩
 · by_cases hroom : n + m ≤ cap
   · subst hsize
     have hfit : n * i.size + news.length ≤ cs.length:=by rw [hl,hcl,← Nat.add_mul];exact Nat.mul_le_mul_right _ hroom
     have hrun:=run_append_room_cells (P:=P) w t ty e i ht hi b 0 n cap ad m c news hl hnews h1 hroom (fun j hj => by rw [hb.cell];simp;omega) (fun j hj => hb.free _ (by omega))
     simp only [Nat.zero_add] at hrun
     obtain ⟨h2,h3⟩:=Blk.setCells news (n * i.size) hb hfit
     refine ⟨_,_,some b,hrun,⟨hlen,.inr ⟨b,cap,_,rfl,rfl,hroom,hcm,h2,by rw [splice_length _ _ _ hfit,hcl],?_⟩⟩,h3,.inl rfl⟩
     unfold splice
     rw [← hlen,htake]
     exact List.take_left
   · have holds : ∀ j u,xs[j]? = some u → w.cell? ((⟨b,0,none⟩ : Addr).add j) = some u:=hb.cells (vs:=xs) (by rw [List.drop_zero,h.1];exact htake)
     obtain ⟨v',w',hrun,r1,r2⟩:=run_append_arg_grows (P:=P) w t ty e i z size bytes ht hi hz hsize hby hzs hsz ⟨b,0,none⟩ n cap xs h.1 holds ad m c news hl hnews (by omega) h63 hbytes
     obtain ⟨B',hB,hge⟩:=own_of_row r1
     refine ⟨v',w',B',hrun,hB,(Fr.of_grown r2).mono (by simp),?_⟩
     cases B' with
     | none =>
       rcases hB.2 with ⟨rfl,h0,_⟩ | ⟨_,_,_,h0,_⟩
       · omega
       · cases h0
     | some g => exact .inr ⟨g,rfl,hge g rfl⟩
theorem wp_append (s x : Operand) (t : TypeId) (ho : o.op = .call { callee:=.builtin .append,args:=#[s,x],argTypes:=#[t,t] })
 (e : TypeId) (i : TypeInfo) (z : Value) (size bytes : Nat) (ht : P.underlying t = some (.slice e)) (hi : P.info? e = some i) (hz : i.zero = some z)
 (hsize : i.size = size) (hby : i.bytes = bytes) (hzs : z.cells.size = size) (hsz : 0 < size) {v : Value} {n : Nat} {xs : List Value} {B : Option Nat} (hs : a.eval s = v) (h : Xr.Own w size v n xs B)
 (ad : Addr) (m c : Nat) (news : List Value) (hx : a.eval x = .slice (some ad) m c) (hl : news.length = m * size) (hnews : ∀ j u,news[j]? = some u → w.cell? (ad.add j) = some u) (h1 : ∀ u ∈ news,u.oneCell' = true)
 (h63 : n + m ≤ maxLen) (hbytes : (n + m) * bytes ≤ 140737488355328)
 (hK : ∀ v' w' B',Xr.Own w' size v' (n + m) (xs ++ news) B' → Fr B.toList w w' → (B' = B ∨ ∃ b,B' = some b ∧ w.heap.size ≤ b) → K (a.put o.dst v') w') : o.wp P a w K Q:=by
 obtain ⟨v',w',B',hr,h2,h3,h4⟩:=run_append (P:=P) t o.type e i z size bytes ht hi hz hsize hby hzs hsz h ad m c news hl hnews h1 h63 hbytes
 unfold Oper.wp execOp
 simp only [ho,resolve,invoke,builtin,Sem.run_bind,Sem.run_pure,Result.andThen_ok,List.map_toArray,List.map_cons,List.map_nil,hs,hx,hr]
 exact hK v' w' B' h2 h3 h4
theorem wpList_append (hg : o.guard = none) (s x : Operand) (t : TypeId) (ho : o.op = .call { callee:=.builtin .append,args:=#[s,x],argTypes:=#[t,t] })
 (e : TypeId) (i : TypeInfo) (z : Value) (size bytes : Nat) (ht : P.underlying t = some (.slice e)) (hi : P.info? e = some i) (hz : i.zero = some z)
 (hsize : i.size = size) (hby : i.bytes = bytes) (hzs : z.cells.size = size) (hsz : 0 < size) {v : Value} {n : Nat} {xs : List Value} {B : Option Nat} (hs : a.eval s = v) (h : Xr.Own w size v n xs B)
 (ad : Addr) (m c : Nat) (news : List Value) (hx : a.eval x = .slice (some ad) m c) (hl : news.length = m * size) (hnews : ∀ j u,news[j]? = some u → w.cell? (ad.add j) = some u) (h1 : ∀ u ∈ news,u.oneCell' = true)
 (h63 : n + m ≤ maxLen) (hbytes : (n + m) * bytes ≤ 140737488355328)
 (hK : ∀ v' w' B',Xr.Own w' size v' (n + m) (xs ++ news) B' → Fr B.toList w w' → (B' = B ∨ ∃ b,B' = some b ∧ w.heap.size ≤ b) → wpList P ops Q rest (a.put o.dst v') w') : wpList P ops Q (o :: rest) a w :=
 wpList_plain hg fun _ hk => wp_append s x t ho e i z size bytes ht hi hz hsize hby hzs hsz hs h ad m c news hx hl hnews h1 h63 hbytes fun v' w' B' h2 h3 h4 => hk _ _ (hK v' w' B' h2 h3 h4)
theorem foldl_set_all : ∀ (l : List Value) (k : Nat) (cs : Array Value),k + l.length ≤ cs.size →
 (((l.zipIdx k).foldl (fun cs (p : Value × Nat) => cs.setIfInBounds p.2 p.1) cs).toList = cs.toList.take k ++ l ++ cs.toList.drop (k + l.length))
 | [],k,cs,_ => by simp
 | v :: l,k,cs,h => by
   simp only [List.length_cons] at h
   simp only [List.zipIdx_cons,List.foldl_cons]
   rw [foldl_set_all l (k + 1) _ (by simp;omega)]
   have hk : k < cs.toList.length:=by simp;omega
   have e:=splice_cons cs.toList k v l hk
   unfold splice at e
   simpa using e
theorem fill_one (size : Nat) (v : Value) (hv : v.cells.size = size) (cells : Array Value) (hc : cells.size = size) :
 Instr.fill (fun i => some (i * size,size)) cells [(0,v)] = some v.cells:=by
 have h0 : ¬ (v.cells.size ≠ size ∨ cells.size < 0 * size + v.cells.size):=by omega
 have hf:=foldl_set_all v.cells.toList 0 cells (by simp;omega)
 have e : (v.cells.zipIdx.foldl (fun (cs : Array Value) (x : Value × Nat) => cs.setIfInBounds (0 * size + x.2) x.1) cells) = v.cells:=by
  apply Array.toList_inj.1
  have e1 : v.cells.zipIdx.foldl (fun (cs : Array Value) (x : Value × Nat) => cs.setIfInBounds (0 * size + x.2) x.1) cells = (v.cells.toList.zipIdx 0).foldl (fun cs (p : Value × Nat) => cs.setIfInBounds p.2 p.1) cells:=by
   rw [← Array.foldl_toList]
   simp
  rw [e1,hf]
  simp
  omega
 simp only [Instr.fill,decide_eq_true_eq,Bool.or_eq_true]
 rw [if_neg (by simpa using h0)]
 simpa using e
theorem run_buildSlice_one (w : World) (t e : TypeId) (i : TypeInfo) (z v : Value) (ht : P.underlying t = some (.slice e)) (hi : P.info? e = some i) (hz : i.zero = some z)
 (hv : v.cells.size = i.size) (hzs : z.cells.size = i.size) (hle : i.size ≤ 16777216) (h0 : 0 < i.size) :
 (Instr.buildSlice t 1 #[(0,v)]).run P w = .ok (.slice (some ⟨w.heap.size,0,none⟩) 1 1) (w.alloc (.cells v.cells e)):=by
 have hf : Instr.fill (fun k => some (k * i.size,i.size)) ((Array.range i.size).map fun k => z.cells[k % z.cells.size]!) [(0,v)] = some v.cells:=fill_one i.size v hv _ (by simp)
 have h1 : ¬ (16777216 < i.size):=by omega
 have h2 : ¬ (i.size = 0):=by omega
 simp [Instr.buildSlice,run_underlying ht,sizeOf,typeInfo,hi,zeroValue,hz,h1,h2,newRow,hf]
theorem wp_buildSlice_one (t : TypeId) (x : Operand) (ho : o.op = .buildSlice t 1 #[(0,x)]) (e : TypeId) (i : TypeInfo) (z : Value) (size : Nat) (vs : List Value) (ht : P.underlying t = some (.slice e)) (hi : P.info? e = some i) (hz : i.zero = some z)
 (hsize : i.size = size) (hx : (a.eval x).cells.toList = vs) (hv : vs.length = size) (hzs : z.cells.size = size) (hle : size ≤ 16777216) (h0 : 0 < size)
 (h : Blk (w.alloc (.cells vs.toArray e)) w.heap.size vs → K (a.put o.dst (.slice (some ⟨w.heap.size,0,none⟩) 1 1)) (w.alloc (.cells vs.toArray e))) : o.wp P a w K Q:=by
 subst hsize
 have hr:=run_buildSlice_one (P:=P) w t e i z (a.eval x) ht hi hz (by rw [← Array.length_toList,hx,hv]) hzs hle h0
 have e1 : (a.eval x).cells = vs.toArray:=by rw [← hx]
 unfold Oper.wp execOp
 simp only [ho,Sem.run_bind,Sem.run_pure,Result.andThen_ok,List.map_toArray,List.map_cons,List.map_nil,hr,e1]
 exact h (Blk.alloc w vs e)
theorem wpList_buildSlice_one (hg : o.guard = none) (t : TypeId) (x : Operand) (ho : o.op = .buildSlice t 1 #[(0,x)]) (e : TypeId) (i : TypeInfo) (z : Value) (size : Nat) (vs : List Value) (ht : P.underlying t = some (.slice e)) (hi : P.info? e = some i) (hz : i.zero = some z)
 (hsize : i.size = size) (hx : (a.eval x).cells.toList = vs) (hv : vs.length = size) (hzs : z.cells.size = size) (hle : size ≤ 16777216) (h0 : 0 < size)
 (h : Blk (w.alloc (.cells vs.toArray e)) w.heap.size vs → wpList P ops Q rest (a.put o.dst (.slice (some ⟨w.heap.size,0,none⟩) 1 1)) (w.alloc (.cells vs.toArray e))) : wpList P ops Q (o :: rest) a w :=
 wpList_plain hg fun _ hK => wp_buildSlice_one t x ho e i z size vs ht hi hz hsize hx hv hzs hle h0 fun hb => hK _ _ (h hb)
theorem wp_alloc_agg (t : TypeId) (ho : o.op = .alloc t) (i : TypeInfo) (z : Value) (size : Nat) (hi : P.info? t = some i) (hz : i.zero = some z) (hzs : z.cells.size = size)
 (h : ∀ zs : List Value,zs.length = size → zs = z.cells.toList → Blk (w.alloc (.cells zs.toArray t)) w.heap.size zs → K (a.put o.dst (.pointer (some ⟨w.heap.size,0,none⟩))) (w.alloc (.cells zs.toArray t))) : o.wp P a w K Q:=by
 unfold Oper.wp execOp
 have:=h z.cells.toList (by simpa using hzs) rfl (Blk.alloc w _ t)
 simp only [Array.toArray_toList] at this
 simp [ho,Instr.alloc,zeroValue,typeInfo,hi,hz,newVar,newRow,Oper.upon,this]
theorem wpList_alloc_agg (hg : o.guard = none) (t : TypeId) (ho : o.op = .alloc t) (i : TypeInfo) (z : Value) (size : Nat) (hi : P.info? t = some i) (hz : i.zero = some z) (hzs : z.cells.size = size)
 (h : ∀ zs : List Value,zs.length = size → zs = z.cells.toList → Blk (w.alloc (.cells zs.toArray t)) w.heap.size zs → wpList P ops Q rest (a.put o.dst (.pointer (some ⟨w.heap.size,0,none⟩))) (w.alloc (.cells zs.toArray t))) : wpList P ops Q (o :: rest) a w :=
 wpList_plain hg fun _ hK => wp_alloc_agg t ho i z size hi hz hzs fun zs h1 h2 h3 => hK _ _ (h zs h1 h2 h3)
theorem madeCells_rep (z : Array Value) (zc : Value) (size n : Nat) (hz : z.toList = List.replicate size zc) (h0 : 0 < size) : madeCells z n = (List.replicate n zc).toArray:=by
 have hs : z.size = size:=by rw [← Array.length_toList,hz];simp
 apply Array.toList_inj.1
 apply List.ext_getElem (by rw [Array.length_toList,size_madeCells];simp)
 intro j h1 h2
 have hj : j % z.size < z.size:=Nat.mod_lt _ (by omega)
 have : z[j % z.size] = zc:=by
  have e : z.toList[j % z.size]'(by simpa using hj) = zc:=by simp [hz]
  simpa using e
 simp [madeCells,hj,this]
theorem wp_make (t : TypeId) (x y : Operand) (ho : o.op = .makeSlice t x y) (l c : Nat) (kl kc : IntKind) (hx : a.eval x = .int kl l) (hy : a.eval y = .int kc c) (e : TypeId) (i : TypeInfo) (z zc : Value) (size bytes : Nat) (ht : P.underlying t = some (.slice e)) (hi : P.info? e = some i) (hz : i.zero = some z)
 (hsize : i.size = size) (hby : i.bytes = bytes) (hzs : z.cells.toList = List.replicate size zc) (h0 : 0 < size) (hlc : l ≤ c) (hm : c ≤ 9223372036854775807) (hb : bytes * c ≤ 281474976710656)
 (h : Blk (w.alloc (.cells (List.replicate (c * size) zc).toArray e)) w.heap.size (List.replicate (c * size) zc) → K (a.put o.dst (.slice (some ⟨w.heap.size,0,none⟩) l c)) (w.alloc (.cells (List.replicate (c * size) zc).toArray e))) : o.wp P a w K Q:=by
 subst hsize
 subst hby
 have hr:=run_make (P:=P) w t e i z ht hi hz kl kc l c (by omega) (by omega) (by have h1 : ((i.bytes * c : Nat) : Int) ≤ 281474976710656:=Int.ofNat_le.2 hb;rwa [Int.natCast_mul] at h1) (by omega)
 simp only [Int.toNat_natCast,madeCells_rep z.cells zc i.size _ hzs h0] at hr
 unfold Oper.wp execOp
 simp only [ho,hx,hy,Sem.run_bind,Sem.run_pure,Result.andThen_ok,hr]
 exact h (Blk.alloc w _ e)
theorem wpList_make (hg : o.guard = none) (t : TypeId) (x y : Operand) (ho : o.op = .makeSlice t x y) (l c : Nat) (kl kc : IntKind) (hx : a.eval x = .int kl l) (hy : a.eval y = .int kc c) (e : TypeId) (i : TypeInfo) (z zc : Value) (size bytes : Nat) (ht : P.underlying t = some (.slice e)) (hi : P.info? e = some i) (hz : i.zero = some z)
 (hsize : i.size = size) (hby : i.bytes = bytes) (hzs : z.cells.toList = List.replicate size zc) (h0 : 0 < size) (hlc : l ≤ c) (hm : c ≤ 9223372036854775807) (hb : bytes * c ≤ 281474976710656)
 (h : Blk (w.alloc (.cells (List.replicate (c * size) zc).toArray e)) w.heap.size (List.replicate (c * size) zc) → wpList P ops Q rest (a.put o.dst (.slice (some ⟨w.heap.size,0,none⟩) l c)) (w.alloc (.cells (List.replicate (c * size) zc).toArray e))) : wpList P ops Q (o :: rest) a w :=
 wpList_plain hg fun _ hK => wp_make t x y ho l c kl kc hx hy e i z zc size bytes ht hi hz hsize hby hzs h0 hlc hm hb fun hb => hK _ _ (h hb)
theorem fill_step (place : Nat → Option (Nat × Nat)) (cells : Array Value) (i off size : Nat) (v : Value) (rest : List (Nat × Value)) (hp : place i = some (off,size)) (hv : v.cells.size = size) (hle : off + size ≤ cells.size) :
 Instr.fill place cells ((i,v) :: rest) = Instr.fill place (splice cells.toList off v.cells.toList).toArray rest:=by
 have h0 : ¬ (v.cells.size ≠ size ∨ cells.size < off + v.cells.size):=by omega
 have e : ∀ (l : List Value) (k : Nat) (cs : Array Value),off + k + l.length ≤ cs.size →
  ((l.zipIdx k).foldl (fun (cs : Array Value) (x : Value × Nat) => cs.setIfInBounds (off + x.2) x.1) cs).toList = cs.toList.take (off + k) ++ l ++ cs.toList.drop (off + k + l.length):=by
  intro l
  induction l with
  | nil => intro k cs _;simp
  | cons u l ih =>
    intro k cs hk
    simp only [List.length_cons] at hk
    simp only [List.zipIdx_cons,List.foldl_cons]
    rw [ih (k + 1) _ (by simp;omega)]
    have hk' : off + k < cs.toList.length:=by simp;omega
    have e:=splice_cons cs.toList (off + k) u l hk'
    unfold splice at e
    simpa [Nat.add_assoc] using e
 have e1 : (v.cells.zipIdx.foldl (fun (cs : Array Value) (x : Value × Nat) => cs.setIfInBounds (off + x.2) x.1) cells) = (splice cells.toList off v.cells.toList).toArray:=by
  apply Array.toList_inj.1
  rw [← Array.foldl_toList]
  have:=e v.cells.toList 0 cells (by simp;omega)
  simp only [Nat.add_zero] at this
  simpa [splice] using this
 simp only [Instr.fill,hp,decide_eq_true_eq,Bool.or_eq_true]
 rw [if_neg (by simpa using h0)]
 exact congrArg (fun x => Instr.fill place x rest) e1
theorem splice_all (l vs : List Value) (h : l.length = vs.length) : splice l 0 vs = vs:=by
 simp [splice,← h]
theorem splice_end (l vs r : List Value) (h : r.length = vs.length) : splice (l ++ r) l.length vs = l ++ vs:=by
 simp [splice,← h]
theorem fill2 (place : Nat → Option (Nat × Nat)) (z : Array Value) (n0 n1 : Nat) (hz : z.size = n0 + n1) (v0 v1 : Value) (h0 : v0.cells.size = n0) (h1 : v1.cells.size = n1) (p0 : place 0 = some (0,n0)) (p1 : place 1 = some (n0,n1)) :
 Instr.fill place z [(0,v0),(1,v1)] = some (v0.cells.toList ++ v1.cells.toList).toArray:=by
 have l0 : v0.cells.toList.length = n0:=by simpa using h0
 have l1 : v1.cells.toList.length = n1:=by simpa using h1
 have lz : z.toList.length = n0 + n1:=by simpa using hz
 rw [fill_step place z 0 0 n0 v0 _ p0 h0 (by omega)]
 rw [fill_step place _ 1 n0 n1 v1 _ p1 h1 (by rw [List.size_toArray,splice_length _ _ _ (by omega)];omega)]
 simp only [Instr.fill]
 congr 2
 have e : splice z.toList 0 v0.cells.toList = v0.cells.toList ++ z.toList.drop n0:=by simp [splice,l0]
 rw [e]
 have:=splice_end v0.cells.toList v1.cells.toList (z.toList.drop n0) (by rw [List.length_drop];omega)
 rw [l0] at this
 exact this
theorem run_places (fs : List Field) (ps : List (Nat × Nat)) (h : (fs.map fun f => (f.offset,((P.info? f.type).map (·.size)))) = ps.map (fun p => (p.1,some p.2))) (w : World) :
 (fs.toArray.mapM fun f => do pure (f.offset,← sizeOf f.type) : Sem (Array (Nat × Nat))).run P w = .ok ps.toArray w:=by
 have key : ∀ (fs : List Field) (ps : List (Nat × Nat)),(fs.map fun f => (f.offset,((P.info? f.type).map (·.size)))) = ps.map (fun p => (p.1,some p.2)) →
  (fs.mapM fun f => do pure (f.offset,← sizeOf f.type) : Sem (List (Nat × Nat))).run P w = .ok ps w:=by
  intro fs
  induction fs with
  | nil =>
    intro ps h
    cases ps with
    | nil => simp
    | cons => simp at h
  | cons f fs ih =>
    intro ps h
    cases ps with
    | nil => simp at h
    | cons p ps =>
      simp only [List.map_cons,List.cons.injEq,Prod.mk.injEq] at h
      obtain ⟨⟨h1,h2⟩,h3⟩:=h
      have h4:=ih ps h3
      cases hq : P.info? f.type with
      | none => simp [hq] at h2
      | some i =>
        simp [hq] at h2
        have e : (sizeOf f.type).run P w = .ok p.2 w:=by simp [sizeOf,typeInfo,hq,h2]
        simp only [List.mapM_cons,Sem.run_bind,e,Result.andThen_ok,Sem.run_pure,h4,h1]
 rw [List.mapM_toArray]
 simp only [Sem.run_map,key fs ps h,Result.andThen_ok]
theorem wp_build_struct (t : TypeId) (ps : Array (Nat × Operand)) (ho : o.op = .build t ps) (fields : Array Field) (places : Array (Nat × Nat)) (i : TypeInfo) (z : Value) (hu : P.underlying t = some (.struct fields)) (hi : P.info? t = some i) (hz : i.zero = some z)
 (hp : ∀ w,(fields.mapM fun f => do pure (f.offset,← sizeOf f.type) : Sem (Array (Nat × Nat))).run P w = .ok places w) (vs : List Value)
 (hf : Instr.fill (places[·]?) z.cells (ps.toList.map fun p => (p.1,a.eval p.2)) = some vs.toArray) (h : K (a.put o.dst (.agg vs.toArray)) w) : o.wp P a w K Q:=by
 have hf' : Instr.fill (places[·]?) z.cells (ps.map fun p => (p.1,a.eval p.2)).toList = some vs.toArray:=by rw [Array.toList_map];exact hf
 unfold Oper.wp execOp
 simp only [ho,Instr.build,zeroValue,typeInfo,program,Sem.run_bind,Sem.run,Result.andThen_ok,hi,hz,run_underlying hu,Sem.run_pure,hp,hf']
 exact h
theorem wpList_build_struct (hg : o.guard = none) (t : TypeId) (ps : Array (Nat × Operand)) (ho : o.op = .build t ps) (fields : Array Field) (places : Array (Nat × Nat)) (i : TypeInfo) (z : Value) (hu : P.underlying t = some (.struct fields)) (hi : P.info? t = some i) (hz : i.zero = some z)
 (hp : ∀ w,(fields.mapM fun f => do pure (f.offset,← sizeOf f.type) : Sem (Array (Nat × Nat))).run P w = .ok places w) (vs : List Value)
 (hf : Instr.fill (places[·]?) z.cells (ps.toList.map fun p => (p.1,a.eval p.2)) = some vs.toArray) (h : wpList P ops Q rest (a.put o.dst (.agg vs.toArray)) w) : wpList P ops Q (o :: rest) a w :=
 wpList_plain hg fun _ hK => wp_build_struct t ps ho fields places i z hu hi hz hp vs hf (hK _ _ h)
theorem wp_arrayAt (t : TypeId) (x : Operand) (ho : o.op = .sliceToArrayPointer t x) (n : Nat) (e : TypeId) (hu : P.underlying t = some (.array n e)) {ad : Option Addr} {l c : Nat} (hx : a.eval x = .slice ad l c) (hl : n ≤ l)
 (h : K (a.put o.dst (.pointer ad)) w) : o.wp P a w K Q:=by
 have hn : ¬ l < n:=by omega
 unfold Oper.wp execOp
 simp only [ho,hx,Instr.arrayAt,Sem.run_bind,run_underlying hu,Result.andThen_ok,hn,if_false,Sem.run_pure]
 exact h
theorem wpList_arrayAt (hg : o.guard = none) (t : TypeId) (x : Operand) (ho : o.op = .sliceToArrayPointer t x) (n : Nat) (e : TypeId) (hu : P.underlying t = some (.array n e)) {ad : Option Addr} {l c : Nat} (hx : a.eval x = .slice ad l c) (hl : n ≤ l)
 (h : wpList P ops Q rest (a.put o.dst (.pointer ad)) w) : wpList P ops Q (o :: rest) a w :=
 wpList_plain hg fun _ hK => wp_arrayAt t x ho n e hu hx hl (hK _ _ h)
end
end Go.Xr
namespace Go.Xr
open Go
def W32 (x : UInt32) : Value:=.int .u32 x.toNat
def W64 (x : UInt64) : Value:=.int .u64 x.toNat
def c8 (n : Int) : UInt8:=⟨BitVec.ofInt 8 n⟩
def shl32 (a : UInt32) (n : Nat) : UInt32:=⟨a.toBitVec <<< n⟩
def shr32 (a : UInt32) (n : Nat) : UInt32:=⟨a.toBitVec >>> n⟩
def shl64 (a : UInt64) (n : Nat) : UInt64:=⟨a.toBitVec <<< n⟩
def shr64 (a : UInt64) (n : Nat) : UInt64:=⟨a.toBitVec >>> n⟩
theorem wrap_u8' (n : Int) : IntKind.u8.wrap n = n % 256:=by simp [IntKind.wrap,IntKind.bits,IntKind.signed]
theorem wrap_u32' (n : Int) : IntKind.u32.wrap n = n % 4294967296:=by simp [IntKind.wrap,IntKind.bits,IntKind.signed]
theorem wrap_u64' (n : Int) : IntKind.u64.wrap n = n % 18446744073709551616:=by simp [IntKind.wrap,IntKind.bits,IntKind.signed]
theorem bv_wrap (n : Nat) (x : Int) : ((BitVec.ofInt n x).toNat : Int) = x % (2 ^ n : Nat):=by
 rw [BitVec.toNat_ofInt]
 have : (0 : Int) ≤ x % (2 ^ n : Nat):=Int.emod_nonneg _ (by have:=Nat.two_pow_pos n;omega)
 omega
theorem ofInt_toNat {n : Nat} (x : BitVec n) : BitVec.ofInt n (x.toNat : Int) = x:=by
 apply BitVec.eq_of_toNat_eq
 simp [BitVec.toNat_ofInt]
theorem int_u8 (x : Int) : Value.int .u8 (IntKind.u8.wrap x) = bt ⟨BitVec.ofInt 8 x⟩:=by
 unfold bt
 rw [wrap_u8']
 congr 1
 exact (bv_wrap 8 x).symm
theorem val_u8 (a : UInt8) : bt a = .int .u8 a.toNat:=rfl
theorem int_u32 (x : Int) : Value.int .u32 (IntKind.u32.wrap x) = W32 ⟨BitVec.ofInt 32 x⟩:=by
 unfold W32
 rw [wrap_u32']
 congr 1
 exact (bv_wrap 32 x).symm
theorem val_u32 (a : UInt32) : W32 a = .int .u32 a.toNat:=rfl
theorem bvi_u32 (a : UInt32) : BitVec.ofInt 32 (a.toNat : Int) = a.toBitVec:=ofInt_toNat a.toBitVec
theorem back_u32 (r : BitVec 32) : Value.int .u32 (IntKind.u32.wrap r.toNat) = W32 ⟨r⟩:=by rw [int_u32,ofInt_toNat]
theorem add_u32 (t : TypeId) (a b : UInt32) : binOp .add t (W32 a) (W32 b) = pure (W32 (a + b)):=by
 have e : IntKind.u32 = IntKind.u32:=rfl
 simp only [val_u32,binOp,ne_eq,not_true_eq_false,if_false,Op.intArith,int_u32,BitVec.ofInt_add,bvi_u32]
 rfl
theorem and_u32 (t : TypeId) (a b : UInt32) : binOp .and t (W32 a) (W32 b) = pure (W32 (a &&& b)):=by
 simp only [val_u32,binOp,ne_eq,not_true_eq_false,if_false,Op.intBits,IntKind.bits,bvi_u32]
 rw [back_u32]
 rfl
theorem or_u32 (t : TypeId) (a b : UInt32) : binOp .or t (W32 a) (W32 b) = pure (W32 (a ||| b)):=by
 simp only [val_u32,binOp,ne_eq,not_true_eq_false,if_false,Op.intBits,IntKind.bits,bvi_u32]
 rw [back_u32]
 rfl
theorem xor_u32 (t : TypeId) (a b : UInt32) : binOp .xor t (W32 a) (W32 b) = pure (W32 (a ^^^ b)):=by
 simp only [val_u32,binOp,ne_eq,not_true_eq_false,if_false,Op.intBits,IntKind.bits,bvi_u32]
 rw [back_u32]
 rfl
theorem not_u32 (a : UInt32) : Op.unary .xor (W32 a) = pure (W32 (~~~a)):=by
 have h : BitVec.ofInt 32 IntKind.u32.max = BitVec.allOnes 32:=by decide
 have e : Op.unary .xor (W32 a) = Op.intBits .xor .u32 IntKind.u32.max a.toNat:=rfl
 rw [e]
 simp only [Op.intBits,IntKind.bits,bvi_u32,h,BitVec.allOnes_xor]
 rw [back_u32]
 rfl
theorem shl_u32 (t : TypeId) (a : UInt32) (yk : IntKind) (n : Int) (h : 0 ≤ n) : binOp .shl t (W32 a) (.int yk n) = pure (W32 (shl32 a n.toNat)):=by
 have hn : ¬ n < 0:=by omega
 simp only [val_u32,binOp,Op.shift,hn,if_false,IntKind.bits]
 have e : Value.int .u32 (IntKind.u32.wrap ((a.toNat : Int) * 2 ^ min n.toNat 32)) = Value.int .u32 ((shl32 a n.toNat).toNat : Int):=by
  rw [wrap_u32']
  congr 1
  unfold shl32
  show _ = ((a.toBitVec <<< n.toNat).toNat : Int)
  rw [BitVec.toNat_shiftLeft,Nat.shiftLeft_eq]
  have e2 : a.toBitVec.toNat = a.toNat:=rfl
  rw [e2]
  by_cases hm : n.toNat ≤ 32
  · rw [Nat.min_eq_left hm]
    rw [Int.natCast_emod,Int.natCast_mul,Int.natCast_pow]
    rfl
  · rw [Nat.min_eq_right (by omega)]
    obtain ⟨j,hj⟩ : ∃ j,n.toNat = 32 + j:=⟨n.toNat - 32,by omega⟩
    have e3 : ((a.toNat * 2 ^ n.toNat) % 2 ^ 32 : Nat) = 0:=by
     rw [hj,Nat.pow_add,← Nat.mul_assoc,Nat.mul_right_comm,Nat.mul_mod_left]
    rw [e3]
    exact Int.mul_emod_left _ _
 rw [e]
theorem shr_u32 (t : TypeId) (a : UInt32) (yk : IntKind) (n : Int) (h : 0 ≤ n) : binOp .shr t (W32 a) (.int yk n) = pure (W32 (shr32 a n.toNat)):=by
 have hn : ¬ n < 0:=by omega
 simp only [val_u32,binOp,Op.shift,hn,if_false,IntKind.bits]
 have e : Value.int .u32 ((a.toNat : Int).fdiv (2 ^ min n.toNat 32)) = Value.int .u32 ((shr32 a n.toNat).toNat : Int):=by
  congr 1
  unfold shr32
  show _ = ((a.toBitVec >>> n.toNat).toNat : Int)
  rw [BitVec.toNat_ushiftRight,Nat.shiftRight_eq_div_pow]
  have e2 : a.toBitVec.toNat = a.toNat:=rfl
  rw [e2]
  have e4 : ∀ j : Nat,(a.toNat : Int).fdiv (2 ^ j) = ((a.toNat / 2 ^ j : Nat) : Int):=fun j => by
   rw [Int.fdiv_eq_ediv_of_nonneg _ (by exact Int.pow_nonneg (by decide))]
   rw [Int.natCast_ediv,Int.natCast_pow]
   rfl
  rw [e4]
  by_cases hm : n.toNat ≤ 32
  · rw [Nat.min_eq_left hm]
  · rw [Nat.min_eq_right (by omega)]
    have h1 : a.toNat < 2 ^ 32:=a.toBitVec.isLt
    have h2 : a.toNat < 2 ^ n.toNat:=Nat.lt_of_lt_of_le h1 (Nat.pow_le_pow_right (by decide) (by omega))
    rw [Nat.div_eq_of_lt h1,Nat.div_eq_of_lt h2]
 rw [e]
theorem int_u64 (x : Int) : Value.int .u64 (IntKind.u64.wrap x) = W64 ⟨BitVec.ofInt 64 x⟩:=by
 unfold W64
 rw [wrap_u64']
 congr 1
 exact (bv_wrap 64 x).symm
theorem val_u64 (a : UInt64) : W64 a = .int .u64 a.toNat:=rfl
theorem bvi_u64 (a : UInt64) : BitVec.ofInt 64 (a.toNat : Int) = a.toBitVec:=ofInt_toNat a.toBitVec
theorem back_u64 (r : BitVec 64) : Value.int .u64 (IntKind.u64.wrap r.toNat) = W64 ⟨r⟩:=by rw [int_u64,ofInt_toNat]
theorem add_u64 (t : TypeId) (a b : UInt64) : binOp .add t (W64 a) (W64 b) = pure (W64 (a + b)):=by
 have e : IntKind.u64 = IntKind.u64:=rfl
 simp only [val_u64,binOp,ne_eq,not_true_eq_false,if_false,Op.intArith,int_u64,BitVec.ofInt_add,bvi_u64]
 rfl
theorem or_u64 (t : TypeId) (a b : UInt64) : binOp .or t (W64 a) (W64 b) = pure (W64 (a ||| b)):=by
 simp only [val_u64,binOp,ne_eq,not_true_eq_false,if_false,Op.intBits,IntKind.bits,bvi_u64]
 rw [back_u64]
 rfl
theorem eql_u64 (t : TypeId) (a b : UInt64) : binOp .eql t (W64 a) (W64 b) = pure (.bool (a == b)):=by
 simp only [val_u64,binOp,ne_eq,not_true_eq_false,if_false,Op.intCmp]
 rw [show ((a.toNat : Int) == (b.toNat : Int)) = (a == b) from by rw [Bool.eq_iff_iff];simp [← UInt64.toNat_inj];omega]
theorem neq_u64 (t : TypeId) (a b : UInt64) : binOp .neq t (W64 a) (W64 b) = pure (.bool (a != b)):=by
 simp only [val_u64,binOp,ne_eq,not_true_eq_false,if_false,Op.intCmp]
 rw [show ((a.toNat : Int) != (b.toNat : Int)) = (a != b) from by rw [Bool.eq_iff_iff];simp [← UInt64.toNat_inj];omega]
theorem gtr_u64 (t : TypeId) (a b : UInt64) : binOp .gtr t (W64 a) (W64 b) = pure (.bool (decide (b < a))):=by
 simp only [val_u64,binOp,ne_eq,not_true_eq_false,if_false,Op.intCmp]
 rw [show (decide ((a.toNat : Int) > b.toNat)) = (decide (b < a)) from by rw [Bool.eq_iff_iff];simp [UInt64.lt_iff_toNat_lt,UInt64.le_iff_toNat_le]]
theorem shl_u64 (t : TypeId) (a : UInt64) (yk : IntKind) (n : Int) (h : 0 ≤ n) : binOp .shl t (W64 a) (.int yk n) = pure (W64 (shl64 a n.toNat)):=by
 have hn : ¬ n < 0:=by omega
 simp only [val_u64,binOp,Op.shift,hn,if_false,IntKind.bits]
 have e : Value.int .u64 (IntKind.u64.wrap ((a.toNat : Int) * 2 ^ min n.toNat 64)) = Value.int .u64 ((shl64 a n.toNat).toNat : Int):=by
  rw [wrap_u64']
  congr 1
  unfold shl64
  show _ = ((a.toBitVec <<< n.toNat).toNat : Int)
  rw [BitVec.toNat_shiftLeft,Nat.shiftLeft_eq]
  have e2 : a.toBitVec.toNat = a.toNat:=rfl
  rw [e2]
  by_cases hm : n.toNat ≤ 64
  · rw [Nat.min_eq_left hm]
    rw [Int.natCast_emod,Int.natCast_mul,Int.natCast_pow]
    rfl
  · rw [Nat.min_eq_right (by omega)]
    obtain ⟨j,hj⟩ : ∃ j,n.toNat = 64 + j:=⟨n.toNat - 64,by omega⟩
    have e3 : ((a.toNat * 2 ^ n.toNat) % 2 ^ 64 : Nat) = 0:=by
     rw [hj,Nat.pow_add,← Nat.mul_assoc,Nat.mul_right_comm,Nat.mul_mod_left]
    rw [e3]
    exact Int.mul_emod_left _ _
 rw [e]
theorem shr_u64 (t : TypeId) (a : UInt64) (yk : IntKind) (n : Int) (h : 0 ≤ n) : binOp .shr t (W64 a) (.int yk n) = pure (W64 (shr64 a n.toNat)):=by
 have hn : ¬ n < 0:=by omega
 simp only [val_u64,binOp,Op.shift,hn,if_false,IntKind.bits]
 have e : Value.int .u64 ((a.toNat : Int).fdiv (2 ^ min n.toNat 64)) = Value.int .u64 ((shr64 a n.toNat).toNat : Int):=by
  congr 1
  unfold shr64
  show _ = ((a.toBitVec >>> n.toNat).toNat : Int)
  rw [BitVec.toNat_ushiftRight,Nat.shiftRight_eq_div_pow]
  have e2 : a.toBitVec.toNat = a.toNat:=rfl
  rw [e2]
  have e4 : ∀ j : Nat,(a.toNat : Int).fdiv (2 ^ j) = ((a.toNat / 2 ^ j : Nat) : Int):=fun j => by
   rw [Int.fdiv_eq_ediv_of_nonneg _ (by exact Int.pow_nonneg (by decide))]
   rw [Int.natCast_ediv,Int.natCast_pow]
   rfl
  rw [e4]
  by_cases hm : n.toNat ≤ 64
  · rw [Nat.min_eq_left hm]
  · rw [Nat.min_eq_right (by omega)]
    have h1 : a.toNat < 2 ^ 64:=a.toBitVec.isLt
    have h2 : a.toNat < 2 ^ n.toNat:=Nat.lt_of_lt_of_le h1 (Nat.pow_le_pow_right (by decide) (by omega))
    rw [Nat.div_eq_of_lt h1,Nat.div_eq_of_lt h2]
 rw [e]
section
variable {P : Program}
theorem conv_u8_u32 (w : World) (s d : TypeId) (a : UInt8) {ds : TypeDesc} (hs : P.underlying s = some ds) (hd : P.underlying d = some (.int .u32)) (hn : ds = .int .u8) : (convert s d (bt a)).run P w = .ok (W32 a.toUInt32) w:=by
 subst hn
 have e : Value.int .u32 (IntKind.u32.wrap (a.toNat : Int)) = W32 a.toUInt32:=by
  rw [wrap_u32']
  unfold W32
  refine congrArg (Value.int _) ?_
  have:=a.toNat_lt
  simp [UInt8.toNat_toUInt32]
  try omega
 simp only [val_u8,convert,Sem.run_bind,run_underlying hs,run_underlying hd,Result.andThen_ok,Conv.intToInt,e,Sem.run_pure]
theorem conv_u8_u64 (w : World) (s d : TypeId) (a : UInt8) {ds : TypeDesc} (hs : P.underlying s = some ds) (hd : P.underlying d = some (.int .u64)) (hn : ds = .int .u8) : (convert s d (bt a)).run P w = .ok (W64 a.toUInt64) w:=by
 subst hn
 have e : Value.int .u64 (IntKind.u64.wrap (a.toNat : Int)) = W64 a.toUInt64:=by
  rw [wrap_u64']
  unfold W64
  refine congrArg (Value.int _) ?_
  have:=a.toNat_lt
  simp [UInt8.toNat_toUInt64]
  try omega
 simp only [val_u8,convert,Sem.run_bind,run_underlying hs,run_underlying hd,Result.andThen_ok,Conv.intToInt,e,Sem.run_pure]
theorem conv_u32_u8 (w : World) (s d : TypeId) (a : UInt32) {ds : TypeDesc} (hs : P.underlying s = some ds) (hd : P.underlying d = some (.int .u8)) (hn : ds = .int .u32) : (convert s d (W32 a)).run P w = .ok (bt a.toUInt8) w:=by
 subst hn
 have e : Value.int .u8 (IntKind.u8.wrap (a.toNat : Int)) = bt a.toUInt8:=by
  rw [wrap_u8']
  unfold bt
  refine congrArg (Value.int _) ?_
  have:=a.toNat_lt
  simp [UInt32.toNat_toUInt8]
  try omega
 simp only [val_u32,convert,Sem.run_bind,run_underlying hs,run_underlying hd,Result.andThen_ok,Conv.intToInt,e,Sem.run_pure]
theorem conv_u32_u64 (w : World) (s d : TypeId) (a : UInt32) {ds : TypeDesc} (hs : P.underlying s = some ds) (hd : P.underlying d = some (.int .u64)) (hn : ds = .int .u32) : (convert s d (W32 a)).run P w = .ok (W64 a.toUInt64) w:=by
 subst hn
 have e : Value.int .u64 (IntKind.u64.wrap (a.toNat : Int)) = W64 a.toUInt64:=by
  rw [wrap_u64']
  unfold W64
  refine congrArg (Value.int _) ?_
  have:=a.toNat_lt
  simp [UInt32.toNat_toUInt64]
  try omega
 simp only [val_u32,convert,Sem.run_bind,run_underlying hs,run_underlying hd,Result.andThen_ok,Conv.intToInt,e,Sem.run_pure]
theorem conv_u64_u8 (w : World) (s d : TypeId) (a : UInt64) {ds : TypeDesc} (hs : P.underlying s = some ds) (hd : P.underlying d = some (.int .u8)) (hn : ds = .int .u64) : (convert s d (W64 a)).run P w = .ok (bt a.toUInt8) w:=by
 subst hn
 have e : Value.int .u8 (IntKind.u8.wrap (a.toNat : Int)) = bt a.toUInt8:=by
  rw [wrap_u8']
  unfold bt
  refine congrArg (Value.int _) ?_
  have:=a.toNat_lt
  simp [UInt64.toNat_toUInt8]
  try omega
 simp only [val_u64,convert,Sem.run_bind,run_underlying hs,run_underlying hd,Result.andThen_ok,Conv.intToInt,e,Sem.run_pure]
theorem conv_u64_u32 (w : World) (s d : TypeId) (a : UInt64) {ds : TypeDesc} (hs : P.underlying s = some ds) (hd : P.underlying d = some (.int .u32)) (hn : ds = .int .u64) : (convert s d (W64 a)).run P w = .ok (W32 a.toUInt32) w:=by
 subst hn
 have e : Value.int .u32 (IntKind.u32.wrap (a.toNat : Int)) = W32 a.toUInt32:=by
  rw [wrap_u32']
  unfold W32
  refine congrArg (Value.int _) ?_
  have:=a.toNat_lt
  simp [UInt64.toNat_toUInt32]
  try omega
 simp only [val_u64,convert,Sem.run_bind,run_underlying hs,run_underlying hd,Result.andThen_ok,Conv.intToInt,e,Sem.run_pure]
theorem store_one (w : World) (b o : Nat) (v : Value) (h1 : v.oneCell' = true) (h : (w.cell? ⟨b,o,none⟩).isSome = true) (hf : w.frozen? ⟨b,o,none⟩ = false) : (storeCells ⟨b,o,none⟩ [v]).run P w = .ok () (w.setCell ⟨b,o,none⟩ v):=by
 have:=run_storeCells_cells (P:=P) b o [v] 0 w (by simpa using h) (by simpa using hf) (by simpa using h1)
 simpa [World.setCells] using this
theorem store_u8 (w : World) (b o : Nat) (x : UInt8) (h : (w.cell? ⟨b,o,none⟩).isSome = true) (hf : w.frozen? ⟨b,o,none⟩ = false) : (storeCells ⟨b,o,none⟩ [bt x]).run P w = .ok () (w.setCell ⟨b,o,none⟩ (bt x)):=store_one w b o _ rfl h hf
theorem store_u32 (w : World) (b o : Nat) (x : UInt32) (h : (w.cell? ⟨b,o,none⟩).isSome = true) (hf : w.frozen? ⟨b,o,none⟩ = false) : (storeCells ⟨b,o,none⟩ [W32 x]).run P w = .ok () (w.setCell ⟨b,o,none⟩ (W32 x)):=store_one w b o _ rfl h hf
theorem store_u64 (w : World) (b o : Nat) (x : UInt64) (h : (w.cell? ⟨b,o,none⟩).isSome = true) (hf : w.frozen? ⟨b,o,none⟩ = false) : (storeCells ⟨b,o,none⟩ [W64 x]).run P w = .ok () (w.setCell ⟨b,o,none⟩ (W64 x)):=store_one w b o _ rfl h hf
theorem cells_u8 (x : UInt8) : (bt x).cells = #[bt x]:=rfl
theorem cells_u32 (x : UInt32) : (W32 x).cells = #[W32 x]:=rfl
theorem cells_u64 (x : UInt64) : (W64 x).cells = #[W64 x]:=rfl
theorem put_one (w : World) (b o : Nat) (v : Value) (h1 : v.oneCell' = true) (h : (w.cell? ⟨b,o,none⟩).isSome = true) (hf : w.frozen? ⟨b,o,none⟩ = false) : (store ⟨b,o,none⟩ v).run P w = .ok () (w.setCell ⟨b,o,none⟩ v):=by
 have:=store_one (P:=P) w b o v h1 h hf
 have hadd : (⟨b,o,none⟩ : Addr).add 0 = ⟨b,o,none⟩:=rfl
 simp only [storeCells,hadd,Sem.run_bind] at this
 generalize (store ⟨b,o,none⟩ v).run P w = r at this ⊢
 cases r with
 | ok u w' => simpa using this
 | halt x w' => simp at this
theorem put_u8 (w : World) (b o : Nat) (x : UInt8) (h : (w.cell? ⟨b,o,none⟩).isSome = true) (hf : w.frozen? ⟨b,o,none⟩ = false) : (store ⟨b,o,none⟩ (bt x)).run P w = .ok () (w.setCell ⟨b,o,none⟩ (bt x)):=put_one w b o _ rfl h hf
theorem put_u32 (w : World) (b o : Nat) (x : UInt32) (h : (w.cell? ⟨b,o,none⟩).isSome = true) (hf : w.frozen? ⟨b,o,none⟩ = false) : (store ⟨b,o,none⟩ (W32 x)).run P w = .ok () (w.setCell ⟨b,o,none⟩ (W32 x)):=put_one w b o _ rfl h hf
theorem put_u64 (w : World) (b o : Nat) (x : UInt64) (h : (w.cell? ⟨b,o,none⟩).isSome = true) (hf : w.frozen? ⟨b,o,none⟩ = false) : (store ⟨b,o,none⟩ (W64 x)).run P w = .ok () (w.setCell ⟨b,o,none⟩ (W64 x)):=put_one w b o _ rfl h hf
theorem index_agg (w : World) (t e : TypeId) (n : Nat) (cs : Array Value) (k : IntKind) (i : Int) (h : P.underlying t = some (.array n e)) (hs : (P.info? e).map (·.size) = some 1) (hc : cs.size = n) (v : Value) (h0 : 0 ≤ i) (h1 : i < n) (hv : cs.toList[i.toNat]? = some v) (hna : (P.underlying e).map aggDesc = some false) :
 (Instr.index t (.agg cs) (.int k i)).run P w = .ok v w:=by
 cases hq : P.info? e with
 | none => simp [hq] at hs
 | some inf =>
   have hs1 : inf.size = 1:=by simpa [hq] using hs
   have hv2 : cs[i.toNat]? = some v:=by simpa using hv
   cases hu : P.underlying e with
   | none => simp [hu] at hna
   | some d =>
     have hd : aggDesc d = false:=by simpa [hu] using hna
     have hagg : (isAgg e).run P w = .ok false w:=by
      unfold isAgg
      rw [Sem.run_bind,run_underlying hu w]
      cases d <;> simp_all [aggDesc]
     simp [Instr.index,asIntOf,run_underlying h,h0,h1,part,hagg,sizeOf,typeInfo,hq,hs1,hv2]
end
section
variable {P : Program} {ops : Array Oper} {Q : Exit → Act → World → Prop} {a : Act} {w : World} {K : Act → World → Prop} {rest : List Oper} {o : Oper}
theorem wp_put (ty : TypeId) (x y : Operand) (ho : o.op = .store ty x y) {b off : Nat} (hx : a.eval x = .pointer (some ⟨b,off,none⟩)) (v : Value) (hy : a.eval y = v) (h1 : v.oneCell' = true) {cs : List Value} (hb : Blk w b cs) (hoff : off < cs.length)
 (hs : (P.info? ty).map (·.size) = some 1) (h : ∀ w',Fr [b] w w' → Blk w' b (cs.set off v) → w'.heap.size = w.heap.size → K (a.put o.dst undef) w') : o.wp P a w K Q:=by
 cases hq : P.info? ty with
 | none => simp [hq] at hs
 | some i =>
   have hs1 : i.size = 1:=by simpa [hq] using hs
   have hvc : v.cells = #[v]:=by cases v <;> simp_all [Value.cells,Value.oneCell']
   have hst:=store_one (P:=P) w b off v h1 (by rw [hb.cell];simp;exact hoff) (hb.free off hoff)
   have hr : (storeVar ty ⟨b,off,none⟩ v).run P w = .ok () (w.setCell ⟨b,off,none⟩ v):=by simp [storeVar,sizeOf,typeInfo,hq,hs1,hvc,hst]
   unfold Oper.wp execOp
   simp only [ho,hx,hy,Instr.storeAt,Instr.sureAddr,Sem.run_bind,Sem.run_pure,Result.andThen_ok,hr]
   exact h _ ((Fr.refl [b] w).setCell (.inl (by simp)) v) (hb.set off v) (by simp)
theorem wpList_put (hg : o.guard = none) (ty : TypeId) (x y : Operand) (ho : o.op = .store ty x y) {b off : Nat} (hx : a.eval x = .pointer (some ⟨b,off,none⟩)) (v : Value) (hy : a.eval y = v) (h1 : v.oneCell' = true) {cs : List Value} (hb : Blk w b cs) (hoff : off < cs.length)
 (hs : (P.info? ty).map (·.size) = some 1) (h : ∀ w',Fr [b] w w' → Blk w' b (cs.set off v) → w'.heap.size = w.heap.size → wpList P ops Q rest (a.put o.dst undef) w') : wpList P ops Q (o :: rest) a w :=
 wpList_plain hg fun _ hK => wp_put ty x y ho hx v hy h1 hb hoff hs fun w' h2 h3 h4 => hK _ _ (h w' h2 h3 h4)
end
end Go.Xr
namespace Go.Xr
open Go Go.RowKit
set_option linter.unusedVariables false
theorem one_cells {v : Value} (h : v.oneCell' = true) : v.cells = #[v]:=by cases v <;> simp_all [Value.cells,Value.oneCell']
theorem fill_ones (place : Nat → Option (Nat × Nat)) (hp : ∀ i,place i = some (i,1)) : ∀ (vs : List Value) (k : Nat) (z : List Value),(∀ v ∈ vs,v.oneCell' = true) → k + vs.length ≤ z.length →
 Instr.fill place z.toArray ((List.range' k vs.length).zip vs) = some (z.take k ++ vs ++ z.drop (k + vs.length)).toArray
 | [],k,z,_,_ => by simp [Instr.fill]
 | v :: vs,k,z,h1,hl => by
   simp only [List.length_cons] at hl
   have hv:=one_cells (h1 v (by simp))
   rw [List.length_cons,List.range'_succ,List.zip_cons_cons,fill_step place z.toArray k k 1 v _ (hp k) (by rw [hv];rfl) (by rw [List.size_toArray];omega)]
   have e : splice z.toArray.toList k v.cells.toList = z.take k ++ (v :: z.drop (k + 1)):=by
    rw [hv]
    simp [splice]
   rw [e]
   have ih:=fill_ones place hp vs (k + 1) (z.take k ++ (v :: z.drop (k + 1))) (fun u hu => h1 u (by simp [hu])) (by simp;omega)
   rw [ih]
   have hk : (z.take k).length = k:=by simp;omega
   have e1 : (z.take k ++ (v :: z.drop (k + 1))).take (k + 1) = z.take k ++ [v]:=by
    have:=List.take_length_add_append (l₁:=z.take k) (l₂:=v :: z.drop (k + 1)) 1
    rw [hk] at this
    simpa using this
   have e2 : (z.take k ++ (v :: z.drop (k + 1))).drop (k + 1 + vs.length) = z.drop (k + (vs.length + 1)):=by
    have:=List.drop_length_add_append (l₁:=z.take k) (l₂:=v :: z.drop (k + 1)) (1 + vs.length)
    rw [hk,← Nat.add_assoc] at this
    rw [this,Nat.add_comm 1,List.drop_succ_cons,List.drop_drop]
    congr 1
    omega
   rw [e1,e2,List.append_assoc (z.take k)]
   rfl
theorem zip_of {ps : List (Nat × Value)} {n : Nat} (h : ps.map (·.1) = List.range n) : ps = (List.range' 0 (ps.map (·.2)).length).zip (ps.map (·.2)):=by
 have hn : (ps.map (·.2)).length = n:=by
  have:=congrArg List.length h
  simpa using this
 rw [hn,← List.range_eq_range',← h]
 clear h hn
 induction ps with
 | nil => rfl
 | cons p ps ih => rw [List.map_cons,List.map_cons,List.zip_cons_cons,← ih]
theorem fill_all (place : Nat → Option (Nat × Nat)) (hp : ∀ i,place i = some (i,1)) (ps : List (Nat × Value)) (n : Nat) (h : ps.map (·.1) = List.range n) (vs : List Value) (hvs : ps.map (·.2) = vs) (h1 : ∀ v ∈ vs,v.oneCell' = true) (z : Array Value) (hz : z.size = n) :
 Instr.fill place z ps = some vs.toArray:=by
 subst hvs
 have hn : (ps.map (·.2)).length = n:=by
  have:=congrArg List.length h
  simpa using this
 have hf:=fill_ones place hp (ps.map (·.2)) 0 z.toList h1 (by simp at hn ⊢;omega)
 rw [← zip_of h] at hf
 simp only [Array.toArray_toList] at hf
 rw [hf]
 have : z.toList.drop (0 + (ps.map (·.2)).length) = []:=List.drop_eq_nil_of_le (by simp at hn ⊢;omega)
 rw [this,List.take_zero,List.nil_append,List.append_nil]
section
variable {P : Program} {ops : Array Oper} {Q : Exit → Act → World → Prop} {a : Act} {w : World} {K : Act → World → Prop} {rest : List Oper} {o : Oper}
theorem wp_build_arr (t : TypeId) (ps : Array (Nat × Operand)) (ho : o.op = .build t ps) (n : Nat) (e : TypeId) (hu : P.underlying t = some (.array n e)) (i : TypeInfo) (z : Value) (hi : P.info? t = some i) (hz : i.zero = some z) (hzs : z.cells.size = n)
 (hes : (P.info? e).map (·.size) = some 1) (hidx : ps.toList.map (·.1) = List.range n) (vs : List Value) (hvs : ps.toList.map (fun p => a.eval p.2) = vs) (h1 : ∀ v ∈ vs,v.oneCell' = true)
 (h : K (a.put o.dst (.agg vs.toArray)) w) : o.wp P a w K Q:=by
 cases hq : P.info? e with
 | none => simp [hq] at hes
 | some ie =>
   have hs1 : ie.size = 1:=by simpa [hq] using hes
   have hf:=fill_all (fun i => some (i * 1,1)) (by simp) (ps.map fun p => (p.1,a.eval p.2)).toList n (by rw [Array.toList_map,List.map_map];exact hidx) vs (by rw [Array.toList_map,List.map_map];exact hvs) h1 z.cells hzs
   unfold Oper.wp execOp
   simp only [ho,Instr.build,zeroValue,typeInfo,program,Sem.run_bind,Sem.run,Result.andThen_ok,hi,hz,run_underlying hu,Sem.run_pure,sizeOf,hq,hs1,hf]
   exact h
theorem wpList_build_arr (hg : o.guard = none) (t : TypeId) (ps : Array (Nat × Operand)) (ho : o.op = .build t ps) (n : Nat) (e : TypeId) (hu : P.underlying t = some (.array n e)) (i : TypeInfo) (z : Value) (hi : P.info? t = some i) (hz : i.zero = some z) (hzs : z.cells.size = n)
 (hes : (P.info? e).map (·.size) = some 1) (hidx : ps.toList.map (·.1) = List.range n) (vs : List Value) (hvs : ps.toList.map (fun p => a.eval p.2) = vs) (h1 : ∀ v ∈ vs,v.oneCell' = true)
 (h : wpList P ops Q rest (a.put o.dst (.agg vs.toArray)) w) : wpList P ops Q (o :: rest) a w :=
 wpList_plain hg fun _ hK => wp_build_arr t ps ho n e hu i z hi hz hzs hes hidx vs hvs h1 (hK _ _ h)
theorem wp_buildSlice_ones (t : TypeId) (n : Nat) (ps : Array (Nat × Operand)) (ho : o.op = .buildSlice t n ps) (e : TypeId) (hu : P.underlying t = some (.slice e)) (i : TypeInfo) (z : Value) (hi : P.info? e = some i) (hz : i.zero = some z) (hzs : z.cells.size = 1)
 (hs : i.size = 1) (hn : n ≤ 16777216) (hn0 : 0 < n) (hidx : ps.toList.map (·.1) = List.range n) (vs : List Value) (hvs : ps.toList.map (fun p => a.eval p.2) = vs) (h1 : ∀ v ∈ vs,v.oneCell' = true)
 (h : Blk (w.alloc (.cells vs.toArray e)) w.heap.size vs → K (a.put o.dst (.slice (some ⟨w.heap.size,0,none⟩) n n)) (w.alloc (.cells vs.toArray e))) : o.wp P a w K Q:=by
 have hf:=fill_all (fun i => some (i * 1,1)) (by simp) (ps.map fun p => (p.1,a.eval p.2)).toList n (by rw [Array.toList_map,List.map_map];exact hidx) vs (by rw [Array.toList_map,List.map_map];exact hvs) h1 ((Array.range n).map fun k => z.cells[k % z.cells.size]!) (by simp)
 have h2 : ¬ (16777216 < n):=by omega
 have h3 : ¬ (n = 0):=by omega
 have hr : (Instr.buildSlice t n (ps.map fun p => (p.1,a.eval p.2))).run P w = .ok (.slice (some ⟨w.heap.size,0,none⟩) n n) (w.alloc (.cells vs.toArray e)):=by
  simp only [Instr.buildSlice,run_underlying hu,sizeOf,typeInfo,Sem.run_bind,Result.andThen_ok,program,Sem.run,hi,Sem.run_pure,hs,Nat.mul_one]
  rw [if_neg (by omega),if_neg h3]
  simp only [zeroValue,typeInfo,program,Sem.run_bind,Sem.run,Result.andThen_ok,hi,hz,Sem.run_pure]
  simp only [Nat.mul_one,Array.toList_map] at hf
  simp [hf,newRow]
 unfold Oper.wp execOp
 simp only [ho,Sem.run_bind,Sem.run_pure,Result.andThen_ok,hr]
 exact h (Blk.alloc w vs e)
theorem wpList_buildSlice_ones (hg : o.guard = none) (t : TypeId) (n : Nat) (ps : Array (Nat × Operand)) (ho : o.op = .buildSlice t n ps) (e : TypeId) (hu : P.underlying t = some (.slice e)) (i : TypeInfo) (z : Value) (hi : P.info? e = some i) (hz : i.zero = some z) (hzs : z.cells.size = 1)
 (hs : i.size = 1) (hn : n ≤ 16777216) (hn0 : 0 < n) (hidx : ps.toList.map (·.1) = List.range n) (vs : List Value) (hvs : ps.toList.map (fun p => a.eval p.2) = vs) (h1 : ∀ v ∈ vs,v.oneCell' = true)
 (h : Blk (w.alloc (.cells vs.toArray e)) w.heap.size vs → wpList P ops Q rest (a.put o.dst (.slice (some ⟨w.heap.size,0,none⟩) n n)) (w.alloc (.cells vs.toArray e))) : wpList P ops Q (o :: rest) a w :=
 wpList_plain hg fun _ hK => wp_buildSlice_ones t n ps ho e hu i z hi hz hzs hs hn hn0 hidx vs hvs h1 fun hb => hK _ _ (h hb)
end
section
variable {P : Program} {ops : Array Oper} {Q : Exit → Act → World → Prop} {a : Act} {w : World} {K : Act → World → Prop} {rest : List Oper} {o : Oper}
theorem wp_bytes_own (src dst e : TypeId) (x : Operand) (ho : o.op = .convert src dst x) (s : ByteArray) (hx : a.eval x = .string s) (hm : s.size ≤ maxLen)
 (hs : P.underlying src = some .string) (hd : P.underlying dst = some (.slice e)) (he : P.underlying e = some (.int .u8))
 (h : ∀ w' cap,Fr [] w w' → w.heap.size < w'.heap.size → Xr.Own w' 1 (.slice (some ⟨w.heap.size,0,none⟩) s.size cap) s.size (bv s.data.toList) (some w.heap.size) →
   K (a.put o.dst (.slice (some ⟨w.heap.size,0,none⟩) s.size cap)) w') : o.wp P a w K Q:=by
 unfold Oper.wp execOp
 simp only [ho,hx,Sem.run_bind,run_bytes_of_string w src dst e s hs hd he,Result.andThen_ok,Sem.run_pure]
 have hge:=grownCap_ge w s.size 0 e
 have hle:=grownCap_le_maxLen w s.size 0 e hm
 refine h _ _ (((Fr.refl [] w).drew).alloc _) (by simp) ?_
 have hb : Blk (w.drew.alloc (.cells (bytesRow s (grownCap w s.size 0 e)) e ((bytesRow s (grownCap w s.size 0 e)).size,(bytesRow s (grownCap w s.size 0 e)).size + 1))) w.heap.size (bytesRow s (grownCap w s.size 0 e)).toList:=by
  refine ⟨e,_,by rw [Array.toArray_toList];exact heap_alloc_new w.drew _,fun i hi => ?_⟩
  rw [Array.length_toList] at hi
  have : ¬ ((bytesRow s (grownCap w s.size 0 e)).size ≤ i):=by omega
  simp [this]
 have hl : (bytesRow s (grownCap w s.size 0 e)).toList.length = grownCap w s.size 0 e:=by
  rw [bytesRow_toList,List.length_append,bv_length,List.length_replicate]
  have : s.data.toList.length = s.size:=Array.length_toList
  omega
 have ho1:=Xr.Own.blk (size:=1) (n:=s.size) hb hge hle (by rw [hl,Nat.mul_one])
 have ht : (bytesRow s (grownCap w s.size 0 e)).toList.take (s.size * 1) = bv s.data.toList:=by
  rw [bytesRow_toList,Nat.mul_one]
  have : (bv s.data.toList).length = s.size:=by rw [bv_length];exact Array.length_toList
  rw [← this]
  exact List.take_left
 rw [ht] at ho1
 exact ho1
theorem wpList_bytes_own (hg : o.guard = none) (src dst e : TypeId) (x : Operand) (ho : o.op = .convert src dst x) (s : ByteArray) (hx : a.eval x = .string s) (hm : s.size ≤ maxLen)
 (hs : P.underlying src = some .string) (hd : P.underlying dst = some (.slice e)) (he : P.underlying e = some (.int .u8))
 (h : ∀ w' cap,Fr [] w w' → w.heap.size < w'.heap.size → Xr.Own w' 1 (.slice (some ⟨w.heap.size,0,none⟩) s.size cap) s.size (bv s.data.toList) (some w.heap.size) →
   wpList P ops Q rest (a.put o.dst (.slice (some ⟨w.heap.size,0,none⟩) s.size cap)) w') : wpList P ops Q (o :: rest) a w :=
 wpList_plain hg fun _ hK => wp_bytes_own src dst e x ho s hx hm hs hd he fun w' cap h1 h2 h3 => hK _ _ (h w' cap h1 h2 h3)
theorem wpList_append1 {o1 o2 : Oper} (hg1 : o1.guard = none) (hg2 : o2.guard = none) (t : TypeId) (x s y : Operand) (ho1 : o1.op = .buildSlice t 1 #[(0,x)]) (ho2 : o2.op = .call { callee:=.builtin .append,args:=#[s,y],argTypes:=#[t,t] })
 (e : TypeId) (i : TypeInfo) (z : Value) (bytes : Nat) (ht : P.underlying t = some (.slice e)) (hi : P.info? e = some i) (hz : i.zero = some z) (hsize : i.size = 1) (hby : i.bytes = bytes) (hzs : z.cells.size = 1)
 (u : Value) (hx : a.eval x = u) (hu : u.oneCell' = true) {v : Value} {n : Nat} {xs : List Value} {B : Option Nat} (hs : (a.put o1.dst (.slice (some ⟨w.heap.size,0,none⟩) 1 1)).eval s = v) (hy : (a.put o1.dst (.slice (some ⟨w.heap.size,0,none⟩) 1 1)).eval y = .slice (some ⟨w.heap.size,0,none⟩) 1 1)
 (h : Xr.Own w 1 v n xs B) (h63 : n + 1 ≤ maxLen) (hbytes : (n + 1) * bytes ≤ 140737488355328)
 (hK : ∀ v' w' B',Xr.Own w' 1 v' (n + 1) (xs ++ [u]) B' → Fr B.toList w w' → (B' = B ∨ ∃ b,B' = some b ∧ w.heap.size ≤ b) → wpList P ops Q rest ((a.put o1.dst (.slice (some ⟨w.heap.size,0,none⟩) 1 1)).put o2.dst v') w') : wpList P ops Q (o1 :: o2 :: rest) a w:=by
 have huc:=one_cells hu
 refine wpList_buildSlice_one hg1 t x ho1 e i z 1 [u] ht hi hz hsize (by rw [hx,huc]) rfl hzs (by decide) (by decide) (fun hb => ?_)
 have hn:=h.keep ((Fr.refl [] w).alloc (.cells [u].toArray e)) (by simp)
 refine wpList_append hg2 s y t ho2 e i z 1 bytes ht hi hz hsize hby hzs (by decide) hs hn ⟨w.heap.size,0,none⟩ 1 1 [u] hy rfl (hb.cells rfl) (by simpa using hu) h63 hbytes (fun v' w' B' h1 f1 hB => ?_)
 refine hK v' w' B' h1 ?_ ?_
 · exact (((Fr.refl B.toList w).alloc (.cells [u].toArray e))).trans' f1
 · rcases hB with hB | ⟨b,hB,hge⟩
   · exact .inl hB
   · exact .inr ⟨b,hB,by simp at hge;omega⟩
end
theorem Own.opened {w : World} {size n : Nat} {v : Value} {xs : List Value} {B : Option Nat} (h : Xr.Own w size v n xs B) (hn : 0 < n) :
 ∃ b cap,B = some b ∧ v = .slice (some ⟨b,0,none⟩) n cap ∧ n ≤ cap ∧ cap ≤ maxLen ∧ ∀ j,j < xs.length → w.cell? ⟨b,j,none⟩ = xs[j]? ∧ w.frozen? ⟨b,j,none⟩ = false:=by
 rcases h.2 with ⟨_,h1,_⟩ | ⟨b,cap,cs,hB,hv,h1,h2,h3,h4,h5⟩
 · omega
 · refine ⟨b,cap,hB,hv,h1,h2,fun j hj => ⟨h.cellAt hB hj,h3.free j ?_⟩⟩
   rw [← h5,List.length_take] at hj
   omega
theorem Own.blkOf {w : World} {v : Value} {n : Nat} {xs : List Value} {b : Nat} (h : Xr.Own w 1 v n xs (some b)) : ∃ cs,Blk w b cs ∧ n ≤ cs.length ∧ cs.take n = xs ∧
 ∀ w' cs',Blk w' b cs' → cs'.length = cs.length → Xr.Own w' 1 v n (cs'.take n) (some b):=by
 rcases h.2 with ⟨_,_,h1⟩ | ⟨b',cap,cs,hB,hv,h1,h2,h3,h4,h5⟩
 · cases h1
 · cases hB
   rw [Nat.mul_one] at h4 h5
   refine ⟨cs,h3,by omega,h5,fun w' cs' hb hl => ⟨by rw [List.length_take,hl,h4,Nat.mul_one];omega,.inr ⟨b,cap,cs',rfl,hv,h1,h2,hb,by rw [hl,h4,Nat.mul_one],by rw [Nat.mul_one]⟩⟩⟩
theorem Own.cells1 {w : World} {v : Value} {n : Nat} {xs cs : List Value} {b : Nat} (h : Xr.Own w 1 v n xs (some b)) (hb : Blk w b cs) : cs.take n = xs:=by
 obtain ⟨cs',h1,_,h2,_⟩:=h.blkOf
 rw [Blk.eq hb h1]
 exact h2
def Fresh (w : World) (B : Option Nat) : Prop:=∀ b,B = some b → w.heap.size ≤ b
theorem Fresh.none (w : World) : Fresh w none:=fun b h => by cases h
theorem Fresh.step {w w1 : World} {B B' : Option Nat} (h : Fresh w B) (f : Fr [] w w1) (hB : B' = B ∨ ∃ b,B' = some b ∧ w1.heap.size ≤ b) : Fresh w B':=by
 intro b hb
 rcases hB with rfl | ⟨b',h1,h2⟩
 · exact h b hb
 · rw [h1] at hb
   cases hb
   exact Nat.le_trans f.size h2
theorem Fresh.fr {w w1 w2 : World} {B : Option Nat} (h : Fresh w B) (f : Fr [] w w1) (g : Fr B.toList w1 w2) : Fr [] w w2 :=
 f.trans g (fun x hx => .inr (h x (by simpa using hx)))
theorem index_str {P : Program} (w : World) (t : TypeId) (s : ByteArray) (k : IntKind) (i : Int) (j : Nat) (h : P.underlying t = some .string) (hi : i = j) (hj : j < s.size) (d : UInt8) : (Instr.index t (.string s) (.int k i)).run P w = .ok (bt (s.data.toList.getD j d)) w:=by
 subst hi
 have h0 : (0 : Int) ≤ (j : Int):=by omega
 have hjl : j < s.data.toList.length:=by rw [Array.length_toList];exact hj
 have e : s[j]? = some (s.data.toList.getD j d):=by
  have h1 : s[j]? = some s[j]:=getElem?_pos s j hj
  rw [h1]
  congr 1
  rw [List.getD_eq_getElem?_getD,List.getElem?_eq_getElem hjl]
  rfl
 simp only [Instr.index,asIntOf,Sem.run_bind,run_underlying h,Sem.run_pure,Result.andThen_ok,h0,if_true,Int.toNat_natCast,e]
 rfl
set_option linter.unusedVariables false
theorem setCells_heap (b : Nat) : ∀ (vs : List Value) (o : Nat) (w : World),(w.setCells b o vs).heap.size = w.heap.size
 | [],_,_ => rfl
 | v :: r,o,w => by rw [World.setCells,setCells_heap b r,World.size_setCell]
theorem bytes_len (s : ByteArray) : s.data.toList.length = s.size:=Array.length_toList
theorem firstString (s : ByteArray) (n : Nat) : ((s.extract 0 n).data.map fun b => Value.int .u8 b.toNat).toList = bv (s.data.toList.take n):=by
 have e : (s.extract 0 n).data.toList = s.data.toList.take n:=by simp
 rw [Array.toList_map,e]
 rfl
section
variable {P : Program} {ops : Array Oper} {Q : Exit → Act → World → Prop} {a : Act} {w : World} {K : Act → World → Prop} {rest : List Oper} {o : Oper}
theorem run_copy_str (w : World) (dT sT ty elem : TypeId) {b off : Nat} (dl dc : Nat) (s : ByteArray) (k : Nat) (hk : Nat.min s.size dl = k) {cs : List Value} (hb : Blk w b cs) (hu : P.underlying dT = some (.slice elem)) (hs : (P.info? elem).map (·.size) = some 1) (hl : off + k ≤ cs.length) :
 (Builtin.copy_ #[dT,sT] ty #[.slice (some ⟨b,off,none⟩) dl dc,.string s]).run P w = .ok (.int .i64 k) (w.setCells b off (bv (s.data.toList.take k))):=by
 have hk1 : k ≤ s.size:=by rw [← hk];exact Nat.min_le_left _ _
 have hlen : (bv (s.data.toList.take k)).length = k:=by
  rw [bv_length,List.length_take,bytes_len]
  exact Nat.min_eq_left hk1
 have hst:=run_storeCells_cells (P:=P) b off (bv (s.data.toList.take k)) 0 w (fun j hj => by rw [hlen] at hj;rw [hb.cell,List.getElem?_eq_getElem (by omega)];rfl) (fun j hj => hb.free _ (by omega)) (bv_one _)
 rw [Nat.add_zero] at hst
 cases hq : P.info? elem with
 | none => simp [hq] at hs
 | some i =>
   have hi : i.size = 1:=by simpa [hq] using hs
   have hsz : (sizeOf elem).run P w = .ok 1 w:=by simp [sizeOf,typeInfo,hq,hi]
   have e0 : (#[dT,sT] : Array TypeId)[0]? = some dT:=rfl
   have e1 : (#[Value.slice (some ⟨b,off,none⟩) dl dc,.string s] : Array Value)[0]? = some (Value.slice (some ⟨b,off,none⟩) dl dc):=rfl
   have e2 : (#[Value.slice (some ⟨b,off,none⟩) dl dc,.string s] : Array Value)[1]? = some (.string s):=rfl
   have hfs:=firstString s k
   simp only [Builtin.copy_,e0,e1,e2,Sem.run_bind,run_underlying hu w,Result.andThen_ok,Builtin.lenOf,Sem.run_pure,hsz,hk,Builtin.firstCells,hfs,hst,goInt]
theorem wp_copy_str (dT sT elem : TypeId) (x y : Operand) (ho : o.op = .call { callee:=.builtin .copy,args:=#[x,y],argTypes:=#[dT,sT] }) {b off : Nat} (dl dc : Nat) (s : ByteArray) (k : Nat) (hk : Nat.min s.size dl = k) (hx : a.eval x = .slice (some ⟨b,off,none⟩) dl dc) (hy : a.eval y = .string s)
 {cs : List Value} (hb : Blk w b cs) (hu : P.underlying dT = some (.slice elem)) (hs : (P.info? elem).map (·.size) = some 1) (hl : off + k ≤ cs.length)
 (h : ∀ w',Fr [b] w w' → Blk w' b (splice cs off (bv (s.data.toList.take k))) → w'.heap.size = w.heap.size → K (a.put o.dst (.int .i64 k)) w') : o.wp P a w K Q:=by
 have hr:=run_copy_str (P:=P) w dT sT o.type elem dl dc s k hk hb hu hs hl
 have hk1 : k ≤ s.size:=by rw [← hk];exact Nat.min_le_left _ _
 have hlen : (bv (s.data.toList.take k)).length = k:=by
  rw [bv_length,List.length_take,bytes_len]
  exact Nat.min_eq_left hk1
 obtain ⟨h2,h3⟩:=Blk.setCells (bv (s.data.toList.take k)) off hb (by omega)
 unfold Oper.wp execOp
 simp only [ho,resolve,invoke,builtin,Sem.run_bind,Sem.run_pure,Result.andThen_ok,List.map_toArray,List.map_cons,List.map_nil,hx,hy,hr]
 exact h _ h3 h2 (setCells_heap _ _ _ _)
theorem wpList_copy_str (hg : o.guard = none) (dT sT elem : TypeId) (x y : Operand) (ho : o.op = .call { callee:=.builtin .copy,args:=#[x,y],argTypes:=#[dT,sT] }) {b off : Nat} (dl dc : Nat) (s : ByteArray) (k : Nat) (hk : Nat.min s.size dl = k) (hx : a.eval x = .slice (some ⟨b,off,none⟩) dl dc) (hy : a.eval y = .string s)
 {cs : List Value} (hb : Blk w b cs) (hu : P.underlying dT = some (.slice elem)) (hs : (P.info? elem).map (·.size) = some 1) (hl : off + k ≤ cs.length)
 (h : ∀ w',Fr [b] w w' → Blk w' b (splice cs off (bv (s.data.toList.take k))) → w'.heap.size = w.heap.size → wpList P ops Q rest (a.put o.dst (.int .i64 k)) w') : wpList P ops Q (o :: rest) a w :=
 wpList_plain hg fun _ hK => wp_copy_str dT sT elem x y ho dl dc s k hk hx hy hb hu hs hl fun w' h1 h2 h3 => hK _ _ (h w' h1 h2 h3)
end
set_option linter.unusedVariables false
section
variable {P : Program} {ops : Array Oper} {Q : Exit → Act → World → Prop} {a : Act} {w : World} {K : Act → World → Prop} {rest : List Oper} {o : Oper}
theorem elem_of {t e : TypeId} (ht : P.underlying t = some (.slice e)) : P.elem t = e:=by simp [Program.elem,ht]
theorem wp_slice_lh (t : TypeId) (x lo hi : Operand) (ho : o.op = .slice t x (some lo) (some hi) none) {b off n c : Nat} (hx : a.eval x = .slice (some ⟨b,off,none⟩) n c) (kl kh : IntKind) (li hi' : Int) (l h : Nat) (hlo : a.eval lo = .int kl li) (hhi : a.eval hi = .int kh hi') (hl : li = l) (hh : hi' = h)
 (h1 : l ≤ h) (h2 : h ≤ c) (h3 : l < c) (e : TypeId) (ht : P.underlying t = some (.slice e)) (hs : (P.info? e).map (·.size) = some 1)
 (hK : K (a.put o.dst (.slice (some ⟨b,off + l,none⟩) (h - l) (c - l))) w) : o.wp P a w K Q:=by
 subst hl
 subst hh
 cases hq : P.info? e with
 | none => simp [hq] at hs
 | some i =>
   have hs1 : i.size = 1:=by simpa [hq] using hs
   have he:=elem_of ht
   have hr1:=run_sliceAt_slice (P:=P) w t (.slice (some ⟨b,off,none⟩) n c) (some (.int kl l)) (some (.int kh h)) none (by rw [he];exact ht)
   have hr2:=run_slice_lh (P:=P) w t (some ⟨b,off,none⟩) n c (by rw [he];exact ht) kl kh l h (by omega) (by omega) (by omega)
   have hsz : (sizeOf (P.elem t)).run P w = .ok 1 w:=by rw [he];simp [sizeOf,typeInfo,hq,hs1]
   have hv : sliced (some ⟨b,off,none⟩) l h c 1 = .slice (some ⟨b,off + l,none⟩) (h - l) (c - l):=by
    unfold sliced
    rw [if_neg (by omega),Nat.mul_one]
    unfold Addr.add
    by_cases h0 : l = 0
    · subst h0;rfl
    · simp [h0]
   have hr : (Instr.sliceAt t (.slice (some ⟨b,off,none⟩) n c) (some (.int kl l)) (some (.int kh h)) none).run P w = .ok (.slice (some ⟨b,off + l,none⟩) (h - l) (c - l)) w:=by
    rw [hr1,hr2,hsz]
    simp only [Result.andThen_ok,Int.toNat_natCast,hv]
   unfold Oper.wp execOp
   simp only [ho,Option.map_some,Option.map_none,hx,hlo,hhi,Sem.run_bind,hr,Result.andThen_ok,Sem.run_pure]
   exact hK
theorem wpList_slice_lh (hg : o.guard = none) (t : TypeId) (x lo hi : Operand) (ho : o.op = .slice t x (some lo) (some hi) none) {b off n c : Nat} (hx : a.eval x = .slice (some ⟨b,off,none⟩) n c) (kl kh : IntKind) (li hi' : Int) (l h : Nat) (hlo : a.eval lo = .int kl li) (hhi : a.eval hi = .int kh hi') (hl : li = l) (hh : hi' = h)
 (h1 : l ≤ h) (h2 : h ≤ c) (h3 : l < c) (e : TypeId) (ht : P.underlying t = some (.slice e)) (hs : (P.info? e).map (·.size) = some 1)
 (hK : wpList P ops Q rest (a.put o.dst (.slice (some ⟨b,off + l,none⟩) (h - l) (c - l))) w) : wpList P ops Q (o :: rest) a w :=
 wpList_plain hg fun _ hk => wp_slice_lh t x lo hi ho hx kl kh li hi' l h hlo hhi hl hh h1 h2 h3 e ht hs (hk _ _ hK)
end
set_option linter.unusedVariables false
section
variable {P : Program} {ops : Array Oper} {Q : Exit → Act → World → Prop} {a : Act} {w : World} {K : Act → World → Prop} {rest : List Oper} {o : Oper}
end
end Go.Xr
namespace Go.Xr
open Go
set_option linter.unusedVariables false
section
variable {P : Program} {ops : Array Oper} {Q : Exit → Act → World → Prop} {S : World → Prop} {last : Bool} {qs : List Nat}
def effB (ops : Array Oper) (qs : List Nat) (i : Nat) : Bool:=(!(((ops[i]?).map plainOp).getD false) || qs.contains (i + 1000)) && !qs.contains i
def preds (ops : Array Oper) (k : Nat) : List Nat :=
 match ops[k]? with
 | some o => (o.after.toList.filter fun e => Region.binds .any e).map fun e => e.on
 | none => []
def anc (ops : Array Oper) (j : Nat) : List Nat:=((List.range (j + 1)).reverse).foldl (fun s k => if s.contains k then preds ops k ++ s else s) [j]
theorem preds_spec {k x : Nat} (h : x ∈ preds ops k) : ∃ o,ops[k]? = some o ∧ ∃ e ∈ o.after,Region.binds .any e = true ∧ e.on = x:=by
 unfold preds at h
 split at h
 · rename_i o ho
   obtain ⟨e,he,hx⟩:=List.mem_map.1 h
   have:=List.mem_filter.1 he
   exact ⟨o,ho,e,by simpa using this.1,by simpa using this.2,hx⟩
 · cases h
theorem anc_listed {j : Nat} {listed : Array Bool} (hj : j ∈ Region.ready .any ops listed) (inv : Closed ops listed) : ∀ k ∈ anc ops j,k = j ∨ listed.getD k false = true:=by
 have key : ∀ (l s : List Nat),(∀ k ∈ s,k = j ∨ listed.getD k false = true) → ∀ k ∈ l.foldl (fun s k => if s.contains k then preds ops k ++ s else s) s,k = j ∨ listed.getD k false = true:=by
  intro l
  induction l with
  | nil => intro s hs;exact hs
  | cons x l ih =>
    intro s hs
    rw [List.foldl_cons]
    refine ih _ ?_
    split
    · rename_i hx
      intro k hk
      rcases List.mem_append.1 hk with hk | hk
      · obtain ⟨o,ho,e,he,hb,rfl⟩:=preds_spec hk
        rcases hs x (by simpa using hx) with rfl | hl
        · obtain ⟨_,oj,hoj,hall⟩:=mem_ready.1 hj
          have : o = oj:=Option.some.inj (ho.symm.trans hoj)
          subst this
          have h2:=hall e he hb
          refine .inr ?_
          cases h3 : listed.getD e.on false with
          | true => rfl
          | false => exact h2.symm.trans (by rw [h3]) |>.symm
        · exact .inr (inv.closed x o ho hl e he hb)
      · exact hs k hk
    · exact hs
 exact key _ [j] (by simp)
def wpAnyD (P : Program) (ops : Array Oper) (Q : Exit → Act → World → Prop) (S : World → Prop) (last : Bool) (qs : List Nat) : Nat → Array Bool → Act → World → Prop
 | 0,listed,a,w => Region.ready .any ops listed = [] ∧ Q .normal a w
 | fuel + 1,listed,a,w =>
   (Region.ready .any ops listed = [] → Q .normal a w) ∧
   ∀ i ∈ Region.ready .any ops listed,wpOp P ops Q i (fun a' w' => (effB ops qs i = true ∨ w' = w) ∧ ((last = true ∧ i + 1 = ops.size) ∨ S w') ∧ wpAnyD P ops Q S last qs fuel (listed.setIfInBounds i true) a' w') a w
theorem wpAny_of_D : ∀ (fuel : Nat) (listed : Array Bool) (a : Act) (w : World),wpAnyD P ops Q S last qs fuel listed a w → wpAny P .any ops Q fuel listed a w
 | 0,_,_,_,h => h
 | fuel + 1,_,_,_,h => ⟨h.1,fun i hi => wpOp_mono (fun a' w' h' => wpAny_of_D fuel _ a' w' h'.2.2) (h.2 i hi)⟩
theorem ready_false {i j : Nat} {listed : Array Bool} (hr : i ∈ Region.ready .any ops listed) (hl : listed.getD i false = true) : False:=by
 have h0:=(mem_ready.1 hr).1
 rcases Nat.lt_or_ge i listed.size with h' | h'
 · simp [h'] at h0 hl;rw [h0] at hl;cases hl
 · simp [Array.getElem?_eq_none h'] at hl
theorem wpAnyD_first {i : Nat} {oi : Oper} {v : Value} (hi : ops[i]? = some oi) (hsel : ∀ (j : Nat) (o : Oper) cs b,ops[j]? = some o → o.op ≠ .select cs b)
 (hQ : ∀ c a w,Q (.panic c) (a.put oi.dst v) w → Q (.panic c) a w) (kind : Nat) (R : World → World → Prop) (hR : R = if kind = 0 then (fun w w' => w' = w) else if kind = 1 then (fun _ _ => True) else (fun _ w' => S w'))
 (hlast : kind ≠ 0 → last = true → sinkB ops (ops.size - 1) = true) :
 ∀ (fuel : Nat) (listed : Array Bool) (a : Act) (w : World),Closed ops listed →
   (∀ j oj,ops[j]? = some oj → j ≠ i → listed.getD j true = false → (∀ e ∈ oj.after,Region.binds .any e = true → e.on ≠ i) → oi.apart ops oj = true) →
   (kind = 0 → ∀ j,j ≠ i → listed.getD j true = false → effB ops qs j = true → i ∈ anc ops j) →
   i ∈ Region.ready .any ops listed → YieldsIf P ops (R w) oi v a → R w w → S w →
   wpAnyD P ops Q S last qs fuel (listed.setIfInBounds i true) (a.put oi.dst v) w → wpAnyD P ops Q S last qs (fuel + 1) listed a w:=by
 intro fuel
 induction fuel with
 | zero =>
   intro listed a w _ _ _ hr hy hw hS H
   refine ⟨fun h => (by rw [h] at hr;cases hr),fun j hj => ?_⟩
   by_cases hji : j = i
   · subst hji;exact hy.wpOp hi hw ⟨.inr rfl,.inr hS,H⟩
   · have:=ready_mono hj hji
     rw [H.1] at this
     cases this
 | succ fuel ih =>
   intro listed a w inv hfree hhold hr hy hw hS H
   refine ⟨fun h => (by rw [h] at hr;cases hr),fun j hj => ?_⟩
   by_cases hji : j = i
   · subst hji;exact hy.wpOp hi hw ⟨.inr rfl,.inr hS,H⟩
   · have h1:=H.2 j (ready_mono hj hji)
     obtain ⟨hjun,oj,hoj,hall⟩:=mem_ready.1 hj
     have hiun:=(mem_ready.1 hr).1
     have hilt : i < ops.size:=(Array.getElem?_eq_some_iff.1 hi).1
     have hjlt : j < ops.size:=(Array.getElem?_eq_some_iff.1 hoj).1
     have hnot : ∀ e ∈ oj.after,Region.binds .any e = true → e.on ≠ i:=fun e he hb heq => by
      have h1:=hall e he hb
      have h0:=(mem_ready.1 hr).1
      rw [heq] at h1
      rcases Nat.lt_or_ge i listed.size with h' | h'
      · simp [h'] at h0 h1;rw [h0] at h1;cases h1
      · simp [Array.getElem?_eq_none h'] at h1
     have h2:=wpOp_putIf hoj (hfree j oj hoj hji hjun hnot) (fun cs b => hsel i oi cs b hi) (fun cs b => hsel j oj cs b hoj) hQ hy h1
     have hfree' : ∀ k ok,ops[k]? = some ok → k ≠ i → (listed.setIfInBounds j true).getD k true = false →
      (∀ e ∈ ok.after,Region.binds .any e = true → e.on ≠ i) → oi.apart ops ok = true:=fun k ok hk hki hun hno => by
      refine hfree k ok hk hki ?_ hno
      by_cases hjk : j = k
      · subst hjk;exact hjun
      · rw [getD_set_ne true hjk] at hun;exact hun
     have hhold' : kind = 0 → ∀ k,k ≠ i → (listed.setIfInBounds j true).getD k true = false → effB ops qs k = true → i ∈ anc ops k:=fun h0 k hki hun hef => by
      refine hhold h0 k hki ?_ hef
      by_cases hjk : j = k
      · subst hjk;exact hjun
      · rw [getD_set_ne true hjk] at hun;exact hun
     refine wpOp_mono (fun a' w' h3 => ?_) h2
     obtain ⟨hy',h4,h4b,h5⟩:=h3
     have h5' : wpAnyD P ops Q S last qs fuel ((listed.setIfInBounds j true).setIfInBounds i true) (a'.put oi.dst v) w':=by rw [Array.setIfInBounds_comm _ _ hji];exact h5
     by_cases hk0 : kind = 0
     · have hne : ¬ effB ops qs j = true:=fun hef => by
        rcases anc_listed hj inv i (hhold hk0 j hji hjun hef) with he | hl
        · exact hji he.symm
        · exact ready_false (i:=i) (j:=j) hr hl
       obtain rfl:=h4.resolve_left hne
       exact ⟨.inr rfl,.inr hS,ih (listed.setIfInBounds j true) a' w' (inv.set hj) hfree' hhold' (ready_mono hr (Ne.symm hji)) hy' hw hS h5'⟩
     · have hnl : ¬ (last = true ∧ j + 1 = ops.size):=fun ⟨hl,hj1⟩ => by
        have hjn : j = ops.size - 1:=by omega
        exact sink_waits (hlast hk0 hl) (by omega) inv _ i rfl (by omega) hiun (hjn ▸ hj)
       have h4b:=h4b.resolve_left hnl
       have eR : ∀ x,R x = R w:=fun x => by rw [hR,if_neg hk0];split <;> rfl
       refine ⟨h4,.inr h4b,ih (listed.setIfInBounds j true) a' w' (inv.set hj) hfree' hhold' (ready_mono hr (Ne.symm hji)) (by rw [eR];exact hy') ?_ h4b h5'⟩
       by_cases hk1 : kind = 1
       · rw [hR,if_neg hk0,if_pos hk1];trivial
       · rw [hR,if_neg hk0,if_neg hk1];exact h4b
def WD (P : Program) (ops : Array Oper) (Q : Exit → Act → World → Prop) (S : World → Prop) (last : Bool) (qs : List Nat) (done : List Nat) (a : Act) (w : World) : Prop :=
 Closed ops (marks ops.size done) → wpAnyD P ops (fun e a w => e = .normal ∧ Q .normal a w) S last qs (ops.size - done.length) (marks ops.size done) a w
def holdB (ops : Array Oper) (qs : List Nat) (done : List Nat) (i : Nat) : Bool :=
 (List.range ops.size).all fun j => j == i || (marks ops.size done).getD j true || !effB ops qs j || (anc ops j).contains i
def holdsB (ops : Array Oper) (qs : List Nat) : List Nat → List Nat → Bool
 | _,[] => true
 | done,i :: seg => holdB ops qs done i && holdsB ops qs (done ++ [i]) seg
def Rw (kind : Nat) (S : World → Prop) (w w' : World) : Prop:=if kind = 0 then w' = w else if kind = 1 then True else S w'
theorem Rw_eq (kind : Nat) (S : World → Prop) : Rw kind S = if kind = 0 then (fun w w' => w' = w) else if kind = 1 then (fun _ _ => True) else (fun _ w' => S w'):=by
 funext w w'
 unfold Rw
 by_cases h0 : kind = 0
 · simp [h0]
 · by_cases h1 : kind = 1 <;> simp [h0,h1]
theorem effB_size {j : Nat} (h : ops.size ≤ j) (l : Array Bool) (hl : l.size = ops.size) : l.getD j true = true:=by
 simp [Array.getElem?_eq_none (show l.size ≤ j by omega)]
theorem WD.take {done : List Nat} {i : Nat} {a : Act} {w : World} {oi : Oper} {v : Value} (kind : Nat) (hi : ops[i]? = some oi) (hsel : Region.noSelect ops = true)
 (hlast : kind ≠ 0 → last = true → sinkB ops (ops.size - 1) = true) (hB : takeB ops done i = true) (hH : kind = 0 → holdB ops qs done i = true) (hS : S w) (hw : Rw kind S w w) (hy : YieldsIf P ops (Rw kind S w) oi v a)
 (h : WD P ops Q S last qs (done ++ [i]) (a.put oi.dst v) w) : WD P ops Q S last qs done a w:=by
 intro inv
 simp only [takeB,Bool.and_eq_true,decide_eq_true_eq] at hB
 obtain ⟨⟨⟨hlen,hr⟩,hf⟩,_⟩:=hB
 have hr' : i ∈ Region.ready .any ops (marks ops.size done):=by simpa using hr
 have h2:=h (by rw [marks_snoc];exact inv.set hr')
 rw [marks_snoc] at h2
 have e : ops.size - done.length = (ops.size - (done ++ [i]).length) + 1:=by simp;omega
 rw [e]
 refine wpAnyD_first hi (Region.noSelect_spec hsel) (fun c a w hq => by simp at hq) kind (Rw kind S) (Rw_eq kind S) hlast _ _ a w inv (Region.free_spec hi hf) ?_ hr' hy hw hS h2
 intro h0 j hji hun hef
 have h3:=List.all_eq_true.1 (hH h0) j (by
  rw [List.mem_range]
  rcases Nat.lt_or_ge j ops.size with h | h
  · exact h
  · rw [effB_size h _ inv.size] at hun;cases hun)
 simp only [Bool.or_eq_true,Bool.not_eq_true',beq_iff_eq] at h3
 rcases h3 with ((h3 | h3) | h3) | h3
 · exact absurd h3 hji
 · rw [hun] at h3;cases h3
 · rw [hef] at h3;cases h3
 · simpa using h3
theorem WD.pure' (kind : Nat) (hsel : Region.noSelect ops = true) (hlast : kind ≠ 0 → last = true → sinkB ops (ops.size - 1) = true) {w : World} (hS : S w) (hw : Rw kind S w w) :
 ∀ (seg done : List Nat) (a : Act),takesB ops done seg = true → (kind = 0 → holdsB ops qs done seg = true) →
   wpQuiet P ops (Rw kind S w) (fun a' => WD P ops Q S last qs (done ++ seg) a' w) (pick ops.toList seg) a → WD P ops Q S last qs done a w
 | [],done,a,_,_,h => by simpa [pick,wpQuiet] using h
 | i :: seg,done,a,hB,hH,h => by
   simp only [takesB,Bool.and_eq_true] at hB
   have hB1:=hB.1
   simp only [takeB,Bool.and_eq_true] at hB1
   have hp:=hB1.2
   have hH1 : kind = 0 → holdB ops qs done i = true:=fun h0 => by have:=hH h0;simp only [holdsB,Bool.and_eq_true] at this;exact this.1
   have hH2 : kind = 0 → holdsB ops qs (done ++ [i]) seg = true:=fun h0 => by have:=hH h0;simp only [holdsB,Bool.and_eq_true] at this;exact this.2
   cases hi : ops[i]? with
   | none => simp [hi] at hp
   | some oi =>
     simp only [hi,Option.map_some,Option.getD_some] at hp
     have hpk : pick ops.toList (i :: seg) = oi :: pick ops.toList seg:=by
      have : ops.toList[i]? = some oi:=by simpa using hi
      simp only [pick,List.map_cons,List.getD,this,Option.getD_some]
     rw [hpk] at h
     have happ : done ++ (i :: seg) = (done ++ [i]) ++ seg:=by simp
     rw [happ] at h
     simp only [wpQuiet] at h
     by_cases hwt : Region.wanted oi (yielded ops a.tmps) = true
     · rw [if_pos hwt] at h
       obtain ⟨v,h1,h2⟩:=h
       exact WD.take kind hi hsel hlast hB.1 hH1 hS hw (.inl ⟨hwt,fun w' hS' => yields_of_quiet hp h1 w' hS'⟩) (WD.pure' kind hsel hlast hS hw seg (done ++ [i]) _ hB.2 hH2 h2)
     · rw [if_neg hwt] at h
       exact WD.take kind hi hsel hlast hB.1 hH1 hS hw (.inr ⟨by simpa using hwt,rfl⟩) (WD.pure' kind hsel hlast hS hw seg (done ++ [i]) _ hB.2 hH2 h)
def pureDB (ops : Array Oper) (qs seg done : List Nat) : Bool:=Region.noSelect ops && takesB ops done seg && holdsB ops qs done seg
def freeDB (ops : Array Oper) (last : Bool) (seg done : List Nat) : Bool:=Region.noSelect ops && (!last || sinkB ops (ops.size - 1)) && takesB ops done seg
theorem WD.pure {done : List Nat} {a : Act} {w : World} (seg : List Nat) (hB : pureDB ops qs seg done = true) (hS : S w)
 (h : wpQuiet P ops (fun w' => w' = w) (fun a' => WD P ops Q S last qs (done ++ seg) a' w) (pick ops.toList seg) a) : WD P ops Q S last qs done a w:=by
 simp only [pureDB,Bool.and_eq_true] at hB
 refine WD.pure' 0 hB.1.1 (fun h => absurd rfl h) hS rfl seg done a hB.1.2 (fun _ => hB.2) ?_
 exact h
theorem WD.free {done : List Nat} {a : Act} {w : World} (seg : List Nat) (hB : freeDB ops last seg done = true) (hS : S w)
 (h : wpQuiet P ops (fun _ => True) (fun a' => WD P ops Q S last qs (done ++ seg) a' w) (pick ops.toList seg) a) : WD P ops Q S last qs done a w:=by
 simp only [freeDB,Bool.and_eq_true,Bool.or_eq_true,Bool.not_eq_true'] at hB
 refine WD.pure' 1 hB.1.1 (fun _ hl => by simpa [hl] using hB.1.2) hS trivial seg done a hB.2 (fun h => absurd h (by decide)) ?_
 exact h
theorem WD.held {done : List Nat} {a : Act} {w : World} (seg : List Nat) (hB : freeDB ops last seg done = true) (hS : S w)
 (h : wpQuiet P ops S (fun a' => WD P ops Q S last qs (done ++ seg) a' w) (pick ops.toList seg) a) : WD P ops Q S last qs done a w:=by
 simp only [freeDB,Bool.and_eq_true,Bool.or_eq_true,Bool.not_eq_true'] at hB
 refine WD.pure' 2 hB.1.1 (fun _ hl => by simpa [hl] using hB.1.2) hS hS seg done a hB.2 (fun h => absurd h (by decide)) ?_
 exact h
def AfterD (P : Program) (ops : Array Oper) (Q : Exit → Act → World → Prop) (S : World → Prop) (last : Bool) (qs done : List Nat) (i : Nat) (w0 : World) : Exit → Act → World → Prop :=
 fun e a w => e = .normal ∧ (effB ops qs i = true ∨ w = w0) ∧ ((last = true ∧ i + 1 = ops.size) ∨ S w) ∧ WD P ops Q S last qs (done ++ [i]) a w
theorem AfterD.on {done : List Nat} {i : Nat} {a : Act} {w w0 : World} (hS : S w) (he : effB ops qs i = true) (h : WD P ops Q S last qs (done ++ [i]) a w) : AfterD P ops Q S last qs done i w0 .normal a w:=⟨rfl,.inl he,.inr hS,h⟩
theorem AfterD.end {done : List Nat} {i : Nat} {a : Act} {w w0 : World} (hi : i + 1 = ops.size) (he : effB ops qs i = true) (h : WD P ops Q S true qs (done ++ [i]) a w) : AfterD P ops Q S true qs done i w0 .normal a w:=⟨rfl,.inl he,.inl ⟨rfl,hi⟩,h⟩
theorem WD.effs {done : List Nat} {a : Act} {w : World} (rs : List Nat) (hB : readyB ops done rs = true) (hne : rs ≠ [])
 (h : ∀ i ∈ rs,wpList P ops (AfterD P ops Q S last qs done i w) (pick ops.toList [i]) a w) : WD P ops Q S last qs done a w:=by
 intro inv
 simp only [readyB,Bool.and_eq_true,decide_eq_true_eq,List.all_eq_true] at hB
 obtain ⟨⟨hlen,hr⟩,hsome⟩:=hB
 have e : ops.size - done.length = (ops.size - (done.length + 1)) + 1:=by omega
 rw [e]
 refine ⟨fun h0 => absurd (hr ▸ h0) hne,fun i hi => ?_⟩
 have hi':=hi
 rw [hr] at hi'
 obtain ⟨oi,hoi⟩:=Option.isSome_iff_exists.1 (hsome i hi')
 have h1:=h i hi'
 have hpk : pick ops.toList [i] = [oi]:=by
  have : ops.toList[i]? = some oi:=by simpa using hoi
  simp only [pick,List.map_cons,List.map_nil,List.getD,this,Option.getD_some]
 rw [hpk] at h1
 refine wpOp_mono (fun a' w' ⟨_,h2,h3,h4⟩ => ⟨h2,h3,?_⟩) (wpOp_of_list hoi (fun _ _ _ h => h.1) h1)
 have h5:=h4 (by rw [marks_snoc];exact inv.set hi)
 rw [marks_snoc] at h5
 simpa using h5
theorem WD.eff {done : List Nat} {a : Act} {w : World} (i : Nat) (hB : readyB ops done [i] = true)
 (h : wpList P ops (AfterD P ops Q S last qs done i w) (pick ops.toList [i]) a w) : WD P ops Q S last qs done a w :=
 WD.effs [i] hB (by simp) (fun j hj => by rw [List.mem_singleton.1 hj];exact h)
theorem WD.eff2 {done : List Nat} {a : Act} {w : World} (i j : Nat) (hB : readyB ops done [i,j] = true)
 (h1 : wpList P ops (AfterD P ops Q S last qs done i w) (pick ops.toList [i]) a w) (h2 : wpList P ops (AfterD P ops Q S last qs done j w) (pick ops.toList [j]) a w) : WD P ops Q S last qs done a w :=
 WD.effs [i,j] hB (by simp) (fun k hk => by
  simp only [List.mem_cons,List.not_mem_nil,or_false] at hk
  rcases hk with rfl | rfl
  · exact h1
  · exact h2)
theorem WD.done {done : List Nat} {a : Act} {w : World} (hB : (Region.ready .any ops (marks ops.size done)).isEmpty = true) (h : Q .normal a w) : WD P ops Q S last qs done a w:=by
 intro _
 have hr : Region.ready .any ops (marks ops.size done) = []:=by simpa using hB
 cases ops.size - done.length with
 | zero => exact ⟨hr,rfl,h⟩
 | succ n => exact ⟨fun _ => ⟨rfl,h⟩,by rw [hr];simp⟩
theorem wp_region_D {id : Nat} {a : Act} {w : World} (S : World → Prop) (last : Bool) (qs : List Nat) (hm : P.follows .mixedOrders = true) (h : WD P ops Q S last qs [] a w.drew) : (Code.region id ops true).wp P Q a w:=by
 have h1:=h (Closed.start ops)
 refine Code.wp_mono (fun e a w ⟨he,hq⟩ => by subst he;exact hq) (wp_region_any (Q:=fun e a w => e = .normal ∧ Q .normal a w) hm ?_)
 exact wpAny_of_D _ _ _ _ h1
def AggT (P : Program) (ty : TypeId) (n : Nat) : Prop:=∃ d,P.underlying ty = some d ∧ aggDesc d = true ∧ (P.info? ty).map (·.size) = some n
theorem wpList_load_ag {w : World} {a : Act} {o : Oper} {rest : List Oper} (hg : o.guard = none) (ty : TypeId) (x : Operand) (ho : o.op = .load ty x) {b off : Nat} (hx : a.eval x = .pointer (some ⟨b,off,none⟩)) {cs : List Value} (vs : List Value) (hb : Blk w b cs)
 {n : Nat} (hT : AggT P ty n) (hn : vs.length = n) (hv : (cs.drop off).take n = vs)
 (h : wpList P ops Q rest (a.put o.dst (.agg vs.toArray)) w) : wpList P ops Q (o :: rest) a w:=by
 obtain ⟨d,hu,hd,hs⟩:=hT
 exact wpList_load_agg hg ty x ho hx vs hb d hu hd (by rw [hs,hn]) (by rw [hn];exact hv) h
theorem wpList_store_ag {w : World} {a : Act} {o : Oper} {rest : List Oper} (hg : o.guard = none) (ty : TypeId) (x y : Operand) (ho : o.op = .store ty x y) {b off : Nat} (hx : a.eval x = .pointer (some ⟨b,off,none⟩)) {cs : List Value} (vs : List Value) (hy : a.eval y = .agg vs.toArray) (hb : Blk w b cs)
 {n : Nat} (hT : AggT P ty n) (hn : vs.length = n) (hle : off + n ≤ cs.length) (h1 : ∀ u ∈ vs,u.oneCell' = true)
 (h : ∀ w',Fr [b] w w' → Blk w' b (splice cs off vs) → w'.heap.size = w.heap.size → wpList P ops Q rest (a.put o.dst undef) w') : wpList P ops Q (o :: rest) a w:=by
 obtain ⟨d,hu,hd,hs⟩:=hT
 exact wpList_store_agg hg ty x y ho hx vs hy hb (by rw [hs,hn]) (by rw [hn];exact hle) h1 h
end
end Go.Xr
namespace Go.Xr
open Go Go.RowKit
set_option linter.unusedVariables false
section
variable {P : Program} {ops : Array Oper} {Q : Exit → Act → World → Prop} {S : World → Prop}
theorem run_load_one (w : World) (ty : TypeId) (d : TypeDesc) (hu : P.underlying ty = some d) (hd : aggDesc d = false) {ad : Addr} {v : Value} (hv : w.cell? ad = some v) : (loadVar ty ad).run P w = .ok v w:=by
 have hagg : (isAgg ty).run P w = .ok false w:=by
  unfold isAgg
  rw [Sem.run_bind,run_underlying hu w]
  cases d <;> simp_all [aggDesc]
 simp [loadVar,Sem.run_bind,hagg,load,Sem.run,hv]
theorem quiet_slice_vW {a : Act} {o : Oper} {rest : List Oper} {Q' : Act → Prop} (hg : Region.wanted o (yielded ops a.tmps) = true) (t : TypeId) (x : Operand) (lo hi : Option Operand) (ho : o.op = .slice t x lo hi none) (xv : Value) (hx : a.eval x = xv) (lv hv : Option Value) (hlo : lo.map a.eval = lv) (hhi : hi.map a.eval = hv) (v : Value)
 (hr : ∀ w,S w → (Instr.sliceAt t xv lv hv none).run P w = .ok v w) (h : wpQuiet P ops S Q' rest (a.put o.dst v)) : wpQuiet P ops S Q' (o :: rest) a:=by
 refine wpQuiet_step fun K hK => ?_
 rw [if_pos hg]
 refine ⟨v,fun w hC => ?_,hK _ h⟩
 unfold Oper.quietAt execOp
 simp only [ho,hx,hlo,hhi,Option.map_none,Sem.run_bind,Sem.run_pure,Result.andThen_ok,hr w hC]
 exact ⟨rfl,rfl⟩
theorem run_slice_s (w : World) (t : TypeId) (ht : P.underlying t = some .string) (s : ByteArray) (kl kh : IntKind) (li hi' : Int) (l h : Nat) (hl : li = l) (hh : hi' = h) (h1 : l ≤ h) (h2 : h ≤ s.size) :
 (Instr.sliceAt t (.string s) (some (.int kl li)) (some (.int kh hi')) none).run P w = .ok (.string (s.extract l h)) w:=by
 subst hl
 subst hh
 have hu : (underlying t).run P w = .ok .string w:=run_underlying ht w
 simp [Instr.sliceAt,hu,Instr.slice,Instr.sliceBounds,run_sliceBound,Sem.run_bind,h1,h2]
end
end Go.Xr
namespace Go.Xr
open Go
set_option linter.unusedVariables false
section
variable {P : Program} {ops : Array Oper} {Q : Exit → Act → World → Prop} {S S' : World → Prop} {last : Bool} {qs : List Nat}
theorem wpAnyD_more (hS : ∀ w,S' w → S w) : ∀ (fuel : Nat) (listed : Array Bool) (a : Act) (w : World),wpAnyD P ops Q S' last qs fuel listed a w → wpAnyD P ops Q S last qs fuel listed a w
 | 0,_,_,_,h => h
 | fuel + 1,_,_,_,h => ⟨h.1,fun i hi => wpOp_mono (fun a' w' h' => ⟨h'.1,h'.2.1.imp id (hS w'),wpAnyD_more hS fuel _ a' w' h'.2.2⟩) (h.2 i hi)⟩
theorem WD.more (S' : World → Prop) {done : List Nat} {a : Act} {w : World} (hS : ∀ w,S' w → S w) (h : WD P ops Q S' last qs done a w) : WD P ops Q S last qs done a w :=
 fun hc => wpAnyD_more hS _ _ _ _ (h hc)
theorem quiet_len_v {a : Act} {o : Oper} {rest : List Oper} {Q' : Act → Prop} (hg : Region.wanted o (yielded ops a.tmps) = true) (t : TypeId) (x : Operand) (ho : o.op = .call { callee:=.builtin .len,args:=#[x],argTypes:=#[t] }) {e : TypeId} (ht : P.underlying t = some (.slice e)) {p : Option Addr} {n c : Nat} (hx : a.eval x = .slice p n c)
 (h : wpQuiet P ops S Q' rest (a.put o.dst (.int .i64 (n : Int)))) : wpQuiet P ops S Q' (o :: rest) a:=by
 refine wpQuiet_step fun K hK => ?_
 rw [if_pos hg]
 refine ⟨_,fun w hC => ?_,hK _ h⟩
 unfold Oper.quietAt execOp
 simp [ho,resolve,invoke,builtin,Builtin.len_,run_underlying ht,goInt,List.map_toArray,List.map_cons,List.map_nil,hx,Sem.run_bind,Sem.run_pure,Result.andThen_ok]
 exact ⟨rfl,rfl⟩
end
end Go.Xr
namespace Go.Xr
open Go Go.RowKit
set_option linter.unusedVariables false
section
variable {P : Program} {ops : Array Oper} {Q : Exit → Act → World → Prop} {a : Act} {w : World} {K : Act → World → Prop} {rest : List Oper} {o : Oper}
theorem run_append_none (t ty e : TypeId) (i : TypeInfo) (ht : P.underlying t = some (.slice e)) (hi : P.info? e = some i) (w : World) (ad : Option Addr) (n cap c : Nat) (h : n ≤ cap) :
 (Builtin.append_ #[t,t] ty #[.slice ad n cap,.slice none 0 c]).run P w = .ok (.slice ad n cap) w:=by
 cases ad <;> simp [Builtin.append_,run_underlying ht,sizeOf,typeInfo,hi,Builtin.lenOf,Builtin.firstCells,h,storeCells]
theorem wpList_append_rc (hg : o.guard = none) (s x : Operand) (t : TypeId) (ho : o.op = .call { callee:=.builtin .append,args:=#[s,x],argTypes:=#[t,t] })
 (e : TypeId) (i : TypeInfo) (z : Value) (size bytes : Nat) (ht : P.underlying t = some (.slice e)) (hi : P.info? e = some i) (hz : i.zero = some z)
 (hsize : i.size = size) (hby : i.bytes = bytes) (hzs : z.cells.size = size) (hsz : 0 < size) {v : Value} {n : Nat} {xs : List Value} {B : Option Nat} (hs : a.eval s = v) (h : Xr.Own w size v n xs B)
 {u : Value} {m : Nat} {news : List Value} {XB : Option Nat} (hx : a.eval x = u) (hr : Rc w size u m news XB) (h1 : ∀ u ∈ news,u.oneCell' = true)
 (h63 : n + m ≤ maxLen) (hbytes : (n + m) * bytes ≤ 140737488355328)
 (hK : ∀ v' w' B',Xr.Own w' size v' (n + m) (xs ++ news) B' → Fr B.toList w w' → (B' = B ∨ ∃ b,B' = some b ∧ w.heap.size ≤ b) → wpList P ops Q rest (a.put o.dst v') w') : wpList P ops Q (o :: rest) a w:=by
 obtain ⟨hl,_,ad,c,rfl,hc1,hc2,hc3⟩:=hr
 cases ad with
 | some ad =>
   refine wpList_append hg s x t ho e i z size bytes ht hi hz hsize hby hzs hsz hs h ad m c news hx hl (fun j u hj => ?_) h1 h63 hbytes hK
   have hjl : j < news.length:=by
    by_cases hh : j < news.length
    · exact hh
    · rw [List.getElem?_eq_none (by omega)] at hj;cases hj
   have hm : 0 < m:=by
    by_cases hh : 0 < m
    · exact hh
    · have : m = 0:=by omega
      rw [this] at hl
      omega
   obtain ⟨b,off,_,hb,hcs⟩:=hc3 hm
   cases hb
   have e1 : (⟨b,off,none⟩ : Addr).add j = ⟨b,off + j,none⟩:=by
    unfold Addr.add
    split <;> simp_all
   rw [e1,hcs j hjl,hj]
 | none =>
   have hm : m = 0:=by
    by_cases hh : 0 < m
    · obtain ⟨b,off,_,hb,_⟩:=hc3 hh
      cases hb
    · omega
   subst hm
   obtain rfl : news = []:=List.eq_nil_of_length_eq_zero (by omega)
   refine wpList_plain hg fun K hk => ?_
   have hrun : (Builtin.append_ #[t,t] o.type #[v,.slice none 0 c]).run P w = .ok v w:=by
    rcases h.2 with ⟨rfl,_,_⟩ | ⟨b,cap,cs,_,rfl,hnc,_⟩
    · exact run_append_none t _ e i ht hi w none 0 0 c (Nat.le_refl _)
    · exact run_append_none t _ e i ht hi w _ n cap c hnc
   unfold Oper.wp execOp
   simp only [ho,resolve,invoke,builtin,Sem.run_bind,Sem.run_pure,Result.andThen_ok,List.map_toArray,List.map_cons,List.map_nil,hs,hx,hrun]
   exact hk _ _ (hK v w B (by rw [List.append_nil];exact h) (Fr.refl _ _) (.inl rfl))
theorem run_low_rc (w : World) (t e : TypeId) (ad : Option Addr) (n c l : Nat) (kl : IntKind) (li : Int) (hli : li = (l : Int)) (ht : P.underlying t = some (.slice e)) (hs : (P.info? e).map (·.size) = some 1) (h1 : l ≤ n) :
 (Instr.sliceAt t (.slice ad n c) (some (.int kl li)) none none).run P w = .ok (.slice (if c = l then ad else ad.map (·.add (l * 1))) (n - l) (c - l)) w:=by
 subst hli
 cases hq : P.info? e with
 | none => simp [hq] at hs
 | some i =>
   have hs1 : i.size = 1:=by simpa [hq] using hs
   have h3 : (l : Int) ≤ (n : Int):=by omega
   have h4 : (0 : Int) ≤ (l : Int):=by omega
   simp [Instr.sliceAt,Instr.slice,run_underlying ht,Instr.sliceBounds,run_sliceBound,h3,h4,sizeOf,typeInfo,hq,hs1]
end
set_option linter.unusedVariables false
section
variable {P : Program} {ops : Array Oper} {Q : Exit → Act → World → Prop} {a : Act} {w : World} {K : Act → World → Prop} {rest : List Oper} {o : Oper}
theorem wpList_box (hg : o.guard = none) (t : TypeId) (x : Operand) (ho : o.op = .box t x) (vs : List Value) (hx : a.eval x = .agg vs.toArray)
 (h : ∀ w',Fr [] w w' → w.heap.size < w'.heap.size → Blk w' w.heap.size vs → wpList P ops Q rest (a.put o.dst (.pointer (some ⟨w.heap.size,0,none⟩))) w') : wpList P ops Q (o :: rest) a w:=by
 refine Great.wpList_boxTo hg t x ho o.dst rfl w.heap.size rfl vs.toArray (by rw [hx];rfl) ?_
 exact h _ ((Fr.refl [] w).alloc _) (by simp) (Blk.alloc w vs t)
theorem wpList_make_blk (hg : o.guard = none) (t : TypeId) (x y : Operand) (ho : o.op = .makeSlice t x y) (l c : Nat) (kl kc : IntKind) (hx : a.eval x = .int kl l) (hy : a.eval y = .int kc c) (e : TypeId) (i : TypeInfo) (z : Value) (bytes : Nat) (ht : P.underlying t = some (.slice e)) (hi : P.info? e = some i) (hz : i.zero = some z)
 (hsize : i.size = 1) (hby : i.bytes = bytes) (hz1 : z.oneCell' = true) (hlc : l ≤ c) (hm : c ≤ 9223372036854775807) (hb : bytes * c ≤ 281474976710656)
 (h : ∀ w',Fr [] w w' → w.heap.size < w'.heap.size → Blk w' w.heap.size (List.replicate c z) → wpList P ops Q rest (a.put o.dst (.slice (some ⟨w.heap.size,0,none⟩) l c)) w') : wpList P ops Q (o :: rest) a w:=by
 have hzc:=one_cells hz1
 refine wpList_make hg t x y ho l c kl kc hx hy e i z z 1 bytes ht hi hz hsize hby (by rw [hzc];rfl) (by decide) hlc hm hb (fun hb1 => ?_)
 refine h _ ((Fr.refl [] w).alloc _) (by simp) ?_
 rw [Nat.mul_one] at hb1 ⊢
 exact hb1
end
set_option linter.unusedVariables false
section
variable {P : Program} {ops : Array Oper} {Q : Exit → Act → World → Prop} {a : Act} {w : World} {K : Act → World → Prop} {rest : List Oper} {o : Oper}
theorem wpList_buildSlice_r (hg : o.guard = none) (t : TypeId) (n : Nat) (ps : Array (Nat × Operand)) (ho : o.op = .buildSlice t n ps) (e : TypeId) (hu : P.underlying t = some (.slice e)) (i : TypeInfo) (z : Value) (hi : P.info? e = some i) (hz : i.zero = some z) (hzs : z.cells.size = 1)
 (hs : i.size = 1) (hn : n ≤ 16777216) (hn0 : 0 < n) (hidx : ps.toList.map (·.1) = List.range n) (vs : List Value) (hvs : ps.toList.map (fun p => a.eval p.2) = vs) (h1 : ∀ v ∈ vs,v.oneCell' = true)
 (h : ∀ w',Fr [] w w' → w.heap.size < w'.heap.size → Blk w' w.heap.size vs → wpList P ops Q rest (a.put o.dst (.slice (some ⟨w.heap.size,0,none⟩) n n)) w') : wpList P ops Q (o :: rest) a w :=
 wpList_buildSlice_ones hg t n ps ho e hu i z hi hz hzs hs hn hn0 hidx vs hvs h1 fun hb => h _ ((Fr.refl [] w).alloc _) (by simp) hb
theorem rc_blk {w : World} {b n : Nat} {xs : List Value} (hb : Blk w b xs) (hn : xs.length = n) (hm : n ≤ maxLen) : Rc w 1 (.slice (some ⟨b,0,none⟩) n n) n xs (some b):=by
 refine ⟨by omega,fun c hc => by cases hc;exact hb.lt,_,_,rfl,Nat.le_refl _,hm,fun _ => ⟨b,0,rfl,rfl,fun j hj => ?_⟩⟩
 rw [hb.cell,Nat.zero_add]
theorem quiet_load_1R {S : World → Prop} {Q' : Act → Prop} (hg : Region.wanted o (yielded ops a.tmps) = true) (ty : TypeId) (x : Operand) (ho : o.op = .load ty x) {b off : Nat} (hx : a.eval x = .pointer (some ⟨b,off,none⟩)) (v : Value)
 (hv : ∀ w,S w → w.cell? ⟨b,off,none⟩ = some v) (d : TypeDesc) (hu : P.underlying ty = some d) (hd : aggDesc d = false)
 (h : wpQuiet P ops S Q' rest (a.put o.dst v)) : wpQuiet P ops S Q' (o :: rest) a:=by
 refine wpQuiet_step fun K hK => ?_
 rw [if_pos hg]
 refine ⟨v,fun w hC => ?_,hK _ h⟩
 unfold Oper.quietAt execOp
 simp only [ho,hx,Instr.loadAt,Instr.sureAddr,Sem.run_bind,Sem.run_pure,Result.andThen_ok,run_load_one w ty d hu hd (hv w hC)]
 exact ⟨rfl,rfl⟩
end
structure Res where
 F : List Nat
 P : World → Prop
def Res.Loc (r : Res) : Prop:=∀ w w' : World,(∀ b ∈ r.F,b < w.heap.size → w'.heap[b]? = w.heap[b]?) → r.P w → r.P w'
structure Held (w : World) (rs : List Res) : Prop where
 loc : ∀ r ∈ rs,r.Loc
 so : ∀ r ∈ rs,r.P w
 lt : ∀ r ∈ rs,∀ b ∈ r.F,b < w.heap.size
 apart : (rs.flatMap (·.F)).Nodup
structure Res.On (r : Res) (w : World) : Prop where
 loc : r.Loc
 so : r.P w
 lt : ∀ b ∈ r.F,b < w.heap.size
 nodup : r.F.Nodup
def Res.blk (b : Nat) (cs : List Value) : Res:=⟨[b],fun w => Blk w b cs⟩
def Res.own (size : Nat) (v : Value) (n : Nat) (xs : List Value) (B : Option Nat) : Res:=⟨B.toList,fun w => Xr.Own w size v n xs B⟩
section
variable {w w' : World} {rs l m : List Res} {r r' : Res}
theorem Res.On.blk {b : Nat} {cs : List Value} (h : Blk w b cs) : (Res.blk b cs).On w :=
 ⟨fun w w' hs h => h.same (hs b (by simp [Res.blk]) h.lt),h,fun b' hb => by simp [Res.blk] at hb;subst hb;exact h.lt,by simp [Res.blk]⟩
theorem own_same {size n : Nat} {v : Value} {xs : List Value} {B : Option Nat} (h : Xr.Own w size v n xs B) (hs : ∀ b ∈ B.toList,b < w.heap.size → w'.heap[b]? = w.heap[b]?) : Xr.Own w' size v n xs B:=by
 refine ⟨h.1,?_⟩
 rcases h.2 with h2 | ⟨b,cap,cs,rfl,h3,h4,h5,h6,h7⟩
 · exact .inl h2
 · exact .inr ⟨b,cap,cs,rfl,h3,h4,h5,h6.same (hs b (by simp) h6.lt),h7⟩
theorem Res.On.own {size n : Nat} {v : Value} {xs : List Value} {B : Option Nat} (h : Xr.Own w size v n xs B) : (Res.own size v n xs B).On w :=
 ⟨fun w w' hs h => own_same h hs,h,fun b hb => by simp [Res.own] at hb;exact h.lt b hb,by cases B <;> simp [Res.own]⟩
theorem Held.nil (w : World) : Held w []:=⟨by simp,by simp,by simp,by simp⟩
theorem Held.on (h : Held w (l ++ r :: m)) : r.On w :=
 ⟨h.loc r (by simp),h.so r (by simp),h.lt r (by simp),by
  have:=h.apart
  rw [List.flatMap_append,List.flatMap_cons,List.nodup_append] at this
  exact (List.nodup_append.1 this.2.1).1⟩
theorem Held.keep (h : Held w rs) {S : List Nat} (f : Fr S w w') (hS : ∀ r ∈ rs,∀ b ∈ r.F,b ∉ S) : Held w' rs :=
 ⟨h.loc,fun r hr => h.loc r hr w w' (fun b hb hlt => f.block b hlt (hS r hr b hb)) (h.so r hr),fun r hr b hb => Nat.lt_of_lt_of_le (h.lt r hr b hb) f.size,h.apart⟩
theorem Held.keep0 (h : Held w rs) (f : Fr [] w w') : Held w' rs:=h.keep f (fun _ _ _ _ => by simp)
theorem Held.new (h : Held w rs) (hr : r.On w) (hn : ∀ b ∈ r.F,∀ r' ∈ rs,b ∉ r'.F) : Held w (r :: rs):=by
 refine ⟨fun x hx => ?_,fun x hx => ?_,fun x hx => ?_,?_⟩
 · rcases List.mem_cons.1 hx with rfl | hx
   · exact hr.loc
   · exact h.loc x hx
 · rcases List.mem_cons.1 hx with rfl | hx
   · exact hr.so
   · exact h.so x hx
 · rcases List.mem_cons.1 hx with rfl | hx
   · exact hr.lt
   · exact h.lt x hx
 · rw [List.flatMap_cons,List.nodup_append]
   refine ⟨hr.nodup,h.apart,fun a ha b hb e => ?_⟩
   obtain ⟨r',hr',hb'⟩:=List.mem_flatMap.1 hb
   exact hn a ha r' hr' (e ▸ hb')
theorem Held.fresh (h : Held w rs) (f : Fr [] w w') (hr : r.On w') (hn : ∀ b ∈ r.F,w.heap.size ≤ b) : Held w' (r :: rs) :=
 (h.keep0 f).new hr fun b hb r' hr' hb' => by have:=h.lt r' hr' b hb';have:=hn b hb;omega
theorem Held.upd (l m : List Res) (h : Held w (l ++ r :: m)) {S : List Nat} (f : Fr S w w') (hS : ∀ b ∈ S,b ∈ r.F ∨ w.heap.size ≤ b) (hr : r'.On w') (hn : ∀ b ∈ r'.F,b ∈ r.F ∨ w.heap.size ≤ b) : Held w' (l ++ r' :: m):=by
 have hap:=h.apart
 rw [List.flatMap_append,List.flatMap_cons,List.nodup_append,List.nodup_append] at hap
 obtain ⟨h1,⟨h2,h3,h4⟩,h5⟩:=hap
 have hoth : ∀ x ∈ l ++ m,∀ b ∈ x.F,b ∉ r.F ∧ b < w.heap.size:=by
  intro x hx b hb
  refine ⟨fun hbr => ?_,h.lt x (by simp at hx ⊢;rcases hx with h | h <;> simp [h]) b hb⟩
  rcases List.mem_append.1 hx with hx | hx
  · exact h5 b (List.mem_flatMap.2 ⟨x,hx,hb⟩) b (List.mem_append_left _ hbr) rfl
  · exact h4 b hbr b (List.mem_flatMap.2 ⟨x,hx,hb⟩) rfl
 have hrest : ∀ x ∈ l ++ m,x.P w':=by
  intro x hx
  refine h.loc x (by simp at hx ⊢;rcases hx with h | h <;> simp [h]) w w' (fun b hb hlt => f.block b hlt (fun hs => ?_)) (h.so x (by simp at hx ⊢;rcases hx with h | h <;> simp [h]))
  obtain ⟨h6,h7⟩:=hoth x hx b hb
  rcases hS b hs with h8 | h8
  · exact h6 h8
  · omega
 have hmem : ∀ x,x ∈ l ++ r' :: m → x = r' ∨ x ∈ l ++ m:=by
  intro x hx
  simp at hx ⊢
  rcases hx with h | h | h <;> simp [h]
 refine ⟨fun x hx => ?_,fun x hx => ?_,fun x hx b hb => ?_,?_⟩
 · rcases hmem x hx with rfl | hx
   · exact hr.loc
   · exact h.loc x (by simp at hx ⊢;rcases hx with h | h <;> simp [h])
 · rcases hmem x hx with rfl | hx
   · exact hr.so
   · exact hrest x hx
 · rcases hmem x hx with rfl | hx
   · exact hr.lt b hb
   · exact Nat.lt_of_lt_of_le (hoth x hx b hb).2 f.size
 · rw [List.flatMap_append,List.flatMap_cons,List.nodup_append,List.nodup_append]
   have hne : ∀ b ∈ r'.F,∀ x ∈ l ++ m,b ∉ x.F:=by
    intro b hb x hx hbx
    obtain ⟨h6,h7⟩:=hoth x hx b hbx
    rcases hn b hb with h8 | h8
    · exact h6 h8
    · omega
   refine ⟨h1,⟨hr.nodup,h3,fun a ha b hb e => ?_⟩,fun a ha b hb e => ?_⟩
   · obtain ⟨x,hx,hbx⟩:=List.mem_flatMap.1 hb
     exact hne a ha x (List.mem_append_right _ hx) (e ▸ hbx)
   · obtain ⟨x,hx,hax⟩:=List.mem_flatMap.1 ha
     rcases List.mem_append.1 hb with hb | hb
     · exact hne b hb x (List.mem_append_left _ hx) (e ▸ hax)
     · exact h5 a ha b (List.mem_append_right _ hb) e
theorem Held.drop (l m : List Res) (h : Held w (l ++ r :: m)) : Held w (l ++ m):=by
 have hm : ∀ x,x ∈ l ++ m → x ∈ l ++ r :: m:=by
  intro x hx
  simp at hx ⊢
  rcases hx with h | h <;> simp [h]
 refine ⟨fun x hx => h.loc x (hm x hx),fun x hx => h.so x (hm x hx),fun x hx => h.lt x (hm x hx),?_⟩
 have hap:=h.apart
 rw [List.flatMap_append,List.flatMap_cons] at hap
 rw [List.flatMap_append]
 exact hap.sublist (List.Sublist.append_left (List.sublist_append_right _ _) _)
theorem Held.perm (h : Held w l) (p : l.Perm m) : Held w m :=
 ⟨fun r hr => h.loc r (p.mem_iff.2 hr),fun r hr => h.so r (p.mem_iff.2 hr),fun r hr => h.lt r (p.mem_iff.2 hr),(p.flatMap_right _).nodup_iff.1 h.apart⟩
def feetOf (rs : List Res) : List Nat:=rs.flatMap (·.F)
theorem Held.ltAll (h : Held w rs) : ∀ b ∈ feetOf rs,b < w.heap.size:=by
 intro b hb
 obtain ⟨r,hr,hb⟩:=List.mem_flatMap.1 hb
 exact h.lt r hr b hb
theorem Held.ne (h : Held w rs) : rs.Pairwise (fun a b => ∀ x ∈ a.F,x ∉ b.F):=by
 have hap:=h.apart
 clear h
 induction rs with
 | nil => exact .nil
 | cons r rs ih =>
   rw [List.flatMap_cons,List.nodup_append] at hap
   exact .cons (fun b hb x hx hxb => hap.2.2 x hx x (List.mem_flatMap.2 ⟨b,hb,hxb⟩) rfl) (ih hap.2.1)
def Res.all (rs : List Res) : Res:=⟨feetOf rs,fun w => ∀ r ∈ rs,r.P w⟩
theorem Held.one (h : r.On w) : Held w [r]:=⟨by simpa using h.loc,by simpa using h.so,by simpa using h.lt,by simpa using h.nodup⟩
theorem Held.swap (l m : List Res) {ps qs : List Res} (h : Held w (l ++ ps ++ m)) {S : List Nat} (f : Fr S w w') (hS : ∀ b ∈ S,b ∈ feetOf ps ∨ w.heap.size ≤ b) (hq : Held w' qs) (hn : ∀ b ∈ feetOf qs,b ∈ feetOf ps ∨ w.heap.size ≤ b) : Held w' (l ++ qs ++ m):=by
 have hap:=h.apart
 rw [List.flatMap_append,List.flatMap_append,List.nodup_append,List.nodup_append] at hap
 obtain ⟨⟨h1,h2,h3⟩,h4,h5⟩:=hap
 have hsub : ∀ x,x ∈ l ++ m → x ∈ l ++ ps ++ m:=by
  intro x hx
  simp at hx ⊢
  rcases hx with h | h <;> simp [h]
 have hoth : ∀ x ∈ l ++ m,∀ b ∈ x.F,b ∉ feetOf ps ∧ b < w.heap.size:=by
  intro x hx b hb
  refine ⟨fun hbp => ?_,h.lt x (hsub x hx) b hb⟩
  rcases List.mem_append.1 hx with hx | hx
  · exact h3 b (List.mem_flatMap.2 ⟨x,hx,hb⟩) b hbp rfl
  · exact h5 b (List.mem_append_right _ hbp) b (List.mem_flatMap.2 ⟨x,hx,hb⟩) rfl
 have hrest : ∀ x ∈ l ++ m,x.P w':=by
  intro x hx
  refine h.loc x (hsub x hx) w w' (fun b hb hlt => f.block b hlt (fun hs => ?_)) (h.so x (hsub x hx))
  obtain ⟨h6,h7⟩:=hoth x hx b hb
  rcases hS b hs with h8 | h8
  · exact h6 h8
  · omega
 have hmem : ∀ x,x ∈ l ++ qs ++ m → x ∈ qs ∨ x ∈ l ++ m:=by
  intro x hx
  simp at hx ⊢
  rcases hx with h | h | h <;> simp [h]
 have hne : ∀ b ∈ feetOf qs,∀ x ∈ l ++ m,b ∉ x.F:=by
  intro b hb x hx hbx
  obtain ⟨h6,h7⟩:=hoth x hx b hbx
  rcases hn b hb with h8 | h8
  · exact h6 h8
  · omega
 refine ⟨fun x hx => ?_,fun x hx => ?_,fun x hx b hb => ?_,?_⟩
 · rcases hmem x hx with hx | hx
   · exact hq.loc x hx
   · exact h.loc x (hsub x hx)
 · rcases hmem x hx with hx | hx
   · exact hq.so x hx
   · exact hrest x hx
 · rcases hmem x hx with hx | hx
   · exact hq.lt x hx b hb
   · exact Nat.lt_of_lt_of_le (hoth x hx b hb).2 f.size
 · rw [List.flatMap_append,List.flatMap_append,List.nodup_append,List.nodup_append]
   refine ⟨⟨h1,hq.apart,fun a ha b hb e => ?_⟩,h4,fun a ha b hb e => ?_⟩
   · obtain ⟨x,hx,hax⟩:=List.mem_flatMap.1 ha
     exact hne b hb x (List.mem_append_left _ hx) (e ▸ hax)
   · obtain ⟨x,hx,hbx⟩:=List.mem_flatMap.1 hb
     rcases List.mem_append.1 ha with ha | ha
     · exact h5 a (List.mem_append_left _ ha) b hb e
     · exact hne a ha x (List.mem_append_right _ hx) (e ▸ hbx)
theorem Held.part (l m : List Res) {ps : List Res} (h : Held w (l ++ ps ++ m)) : Held w ps:=by
 have hap:=h.apart
 rw [List.flatMap_append,List.flatMap_append,List.nodup_append,List.nodup_append] at hap
 exact ⟨fun x hx => h.loc x (by simp [hx]),fun x hx => h.so x (by simp [hx]),fun x hx => h.lt x (by simp [hx]),hap.1.2.1⟩
theorem Held.frame (_h : Held w rs) {S : List Nat} (f : Fr S w w') (hS : ∀ b ∈ S,b ∈ feetOf rs ∨ w.heap.size ≤ b) : Fr (feetOf rs) w w':=f.mono hS
theorem Held.at (h : Held w rs) (i : Nat) (hi : rs[i]? = some r) : r.P w:=h.so r (List.mem_of_getElem? hi)
theorem Held.blkAt (h : Held w rs) (i : Nat) {b : Nat} {cs : List Value} (hi : rs[i]? = some (Res.blk b cs)) : Blk w b cs:=h.at i hi
theorem Held.ownAt (h : Held w rs) (i : Nat) {size n : Nat} {v : Value} {xs : List Value} {B : Option Nat} (hi : rs[i]? = some (Res.own size v n xs B)) : Xr.Own w size v n xs B:=h.at i hi
theorem Held.idx_ne (h : Held w rs) {i j : Nat} {a b : Res} (hij : i ≠ j) (hi : rs[i]? = some a) (hj : rs[j]? = some b) : ∀ x ∈ a.F,x ∉ b.F:=by
 have hp:=List.pairwise_iff_getElem.1 h.ne
 obtain ⟨hi1,hi2⟩:=List.getElem?_eq_some_iff.1 hi
 obtain ⟨hj1,hj2⟩:=List.getElem?_eq_some_iff.1 hj
 rcases Nat.lt_or_gt_of_ne hij with h1 | h1
 · have:=hp i j hi1 hj1 h1
   rw [hi2,hj2] at this
   exact this
 · have:=hp j i hj1 hi1 h1
   rw [hi2,hj2] at this
   exact fun x hx hxb => this x hxb hx
theorem Held.nodup1 (h : Held w rs) {a : Res} (ha : a ∈ rs) : a.F.Nodup:=by
 obtain ⟨l,m,rfl⟩:=List.append_of_mem ha
 exact (h.on (l:=l) (m:=m)).nodup
theorem Held.pick (is : List Nat) {qs : List Res} (h : Held w rs) (hnd : is.Nodup) (hq : is.map (rs[·]?) = qs.map some) : Held w qs:=by
 have hmem : ∀ q ∈ qs,q ∈ rs:=by
  intro q hqm
  have : some q ∈ is.map (rs[·]?):=by rw [hq];exact List.mem_map.2 ⟨q,hqm,rfl⟩
  obtain ⟨i,_,hi⟩:=List.mem_map.1 this
  exact List.mem_of_getElem? hi
 refine ⟨fun q hqm => h.loc q (hmem q hqm),fun q hqm => h.so q (hmem q hqm),fun q hqm => h.lt q (hmem q hqm),?_⟩
 clear hmem
 induction is generalizing qs with
 | nil =>
   cases qs with
   | nil => simp
   | cons => simp at hq
 | cons i is ih =>
   cases qs with
   | nil => simp at hq
   | cons q qs =>
     simp only [List.map_cons,List.cons.injEq] at hq
     obtain ⟨h1,h2⟩:=hq
     obtain ⟨h3,h4⟩:=List.nodup_cons.1 hnd
     rw [List.flatMap_cons,List.nodup_append]
     refine ⟨h.nodup1 (List.mem_of_getElem? h1),ih h4 h2,fun a ha b hb e => ?_⟩
     obtain ⟨q',hq',hb'⟩:=List.mem_flatMap.1 hb
     have : some q' ∈ is.map (rs[·]?):=by rw [h2];exact List.mem_map.2 ⟨q',hq',rfl⟩
     obtain ⟨j,hj,hj2⟩:=List.mem_map.1 this
     exact h.idx_ne (i:=i) (j:=j) (fun e2 => h3 (by rw [e2];exact hj)) h1 hj2 a ha (e ▸ hb')
theorem Held.setAt (i : Nat) (h : Held w rs) (hi : rs[i]? = some r) {S : List Nat} (f : Fr S w w') (hS : ∀ b ∈ S,b ∈ r.F ∨ w.heap.size ≤ b) (hr : r'.On w') (hn : ∀ b ∈ r'.F,b ∈ r.F ∨ w.heap.size ≤ b) : Held w' (rs.set i r'):=by
 obtain ⟨hlt,he⟩:=List.getElem?_eq_some_iff.1 hi
 have e1 : rs = rs.take i ++ r :: rs.drop (i + 1):=by
  rw [← he,← List.drop_eq_getElem_cons hlt,List.take_append_drop]
 have e2 : rs.set i r' = rs.take i ++ r' :: rs.drop (i + 1):=List.set_eq_take_append_cons_drop ▸ (by rw [if_pos hlt])
 rw [e1] at h
 rw [e2]
 exact Held.upd _ _ h f hS hr hn
theorem feetOf_set {rs : List Res} {i : Nat} {r' : Res} {b : Nat} (hb : b ∈ feetOf (rs.set i r')) : b ∈ feetOf rs ∨ b ∈ r'.F:=by
 obtain ⟨x,hx,hbx⟩:=List.mem_flatMap.1 hb
 rcases List.mem_or_eq_of_mem_set hx with h1 | h1
 · exact .inl (List.mem_flatMap.2 ⟨x,h1,hbx⟩)
 · exact .inr (h1 ▸ hbx)
theorem mem_feetOf {rs : List Res} {i : Nat} {r : Res} (hi : rs[i]? = some r) {b : Nat} (hb : b ∈ r.F) : b ∈ feetOf rs:=List.mem_flatMap.2 ⟨r,List.mem_of_getElem? hi,hb⟩
end
structure Ev (w : World) (rs : List Res) (w' : World) (rs' : List Res) : Prop where
 held : Held w' rs'
 fr : Fr (feetOf rs) w w'
 low : ∀ b ∈ feetOf rs',b ∈ feetOf rs ∨ w.heap.size ≤ b
section
variable {w w1 w2 w' : World} {rs rs1 rs2 ps qs l m : List Res} {r r' : Res} {S : List Nat}
theorem Ev.refl (h : Held w rs) : Ev w rs w rs:=⟨h,Fr.refl _ _,fun _ hb => .inl hb⟩
theorem Ev.trans (a : Ev w rs w1 rs1) (b : Ev w1 rs1 w2 rs2) : Ev w rs w2 rs2 :=
 ⟨b.held,a.fr.trans b.fr (fun x hx => a.low x hx),fun x hx => by
  rcases b.low x hx with h | h
  · exact a.low x h
  · exact .inr (Nat.le_trans a.fr.size h)⟩
theorem Ev.step (a : Ev w rs w1 rs1) (f : Fr [] w1 w2) : Ev w rs w2 rs1:=⟨a.held.keep0 f,a.fr.trans f (by simp),a.low⟩
theorem Ev.at (a : Ev w rs w1 rs1) (i : Nat) (hi : rs1[i]? = some r) (f : Fr S w1 w2) (hS : ∀ b ∈ S,b ∈ r.F ∨ w1.heap.size ≤ b) (hr : r'.On w2) (hn : ∀ b ∈ r'.F,b ∈ r.F ∨ w1.heap.size ≤ b) : Ev w rs w2 (rs1.set i r'):=by
 have hb : Ev w1 rs1 w2 (rs1.set i r'):=by
  refine ⟨Held.setAt i a.held hi f hS hr hn,f.mono (fun x hx => ?_),fun b hb => ?_⟩
  · rcases hS x hx with h | h
    · exact .inl (mem_feetOf hi h)
    · exact .inr h
  · rcases feetOf_set hb with h | h
    · exact .inl h
    · rcases hn b h with h | h
      · exact .inl (mem_feetOf hi h)
      · exact .inr h
 exact a.trans hb
theorem Ev.cell (a : Ev w rs w1 rs1) (i : Nat) {b : Nat} {cs : List Value} (hi : rs1[i]? = some (Res.blk b cs)) (o : Nat) (v : Value) : Ev w rs (w1.setCell ⟨b,o,none⟩ v) (rs1.set i (Res.blk b (cs.set o v))) :=
 a.at i hi (S:=[b]) ((Fr.refl [b] w1).setCell (.inl (by simp)) v) (fun x hx => .inl hx) (Res.On.blk ((a.held.blkAt i hi).set o v)) (fun x hx => .inl hx)
theorem Ev.new (a : Ev w rs w1 rs1) (f : Fr [] w1 w2) (hr : r.On w2) (hn : ∀ b ∈ r.F,w1.heap.size ≤ b) : Ev w rs w2 (r :: rs1) :=
 ⟨a.held.fresh f hr hn,a.fr.trans f (by simp),fun b hb => by
  rw [feetOf,List.flatMap_cons,List.mem_append] at hb
  rcases hb with h | h
  · exact .inr (Nat.le_trans a.fr.size (hn b h))
  · exact a.low b h⟩
theorem feetOf_pick {is : List Nat} (hq : is.map (rs[·]?) = qs.map some) : ∀ b ∈ feetOf qs,b ∈ feetOf rs:=by
 intro b hb
 obtain ⟨q,hqm,hbq⟩:=List.mem_flatMap.1 hb
 have : some q ∈ is.map (rs[·]?):=by rw [hq];exact List.mem_map.2 ⟨q,hqm,rfl⟩
 obtain ⟨i,_,hi⟩:=List.mem_map.1 this
 exact mem_feetOf hi hbq
theorem Ev.pick (a : Ev w rs w1 rs1) (is : List Nat) (hnd : is.Nodup) (hq : is.map (rs1[·]?) = qs.map some) : Ev w rs w1 qs :=
 ⟨Held.pick is a.held hnd hq,a.fr,fun b hb => a.low b (feetOf_pick hq b hb)⟩
theorem Ev.part (l m : List Res) (h : Held w (l ++ ps ++ m)) (e : Ev w ps w' qs) : Ev w (l ++ ps ++ m) w' (l ++ qs ++ m):=by
 refine ⟨Held.swap l m h e.fr (fun b hb => .inl hb) e.held e.low,e.fr.mono (fun x hx => .inl ?_),fun b hb => ?_⟩
 · simp only [feetOf,List.flatMap_append,List.mem_append] at hx ⊢
   exact .inl (.inr hx)
 · simp only [feetOf,List.flatMap_append,List.mem_append] at hb ⊢
   rcases hb with (hb | hb) | hb
   · exact .inl (.inl (.inl hb))
   · rcases e.low b hb with h1 | h1
     · exact .inl (.inl (.inr h1))
     · exact .inr h1
   · exact .inl (.inr hb)
theorem Ev.then (l m : List Res) (a : Ev w rs w1 (l ++ ps ++ m)) (e : Ev w1 ps w' qs) : Ev w rs w' (l ++ qs ++ m):=a.trans (Ev.part l m a.held e)
theorem Ev.nil (a : Ev w [] w1 rs1) : Fr [] w w1:=a.fr
theorem Ev.start (w : World) : Ev w [] w []:=Ev.refl (Held.nil w)
def Res.ex {ι : Type} (F : List Nat) (ps : ι → List Res) : Res:=⟨F,fun w => ∃ i,F = feetOf (ps i) ∧ Held w (ps i)⟩
theorem held_same (h : Held w ps) (hs : ∀ b ∈ feetOf ps,b < w.heap.size → w'.heap[b]? = w.heap[b]?) : Held w' ps:=by
 refine ⟨h.loc,fun r hr => h.loc r hr w w' (fun b hb => hs b (List.mem_flatMap.2 ⟨r,hr,hb⟩)) (h.so r hr),fun r hr b hb => ?_,h.apart⟩
 have h1:=h.lt r hr b hb
 have h2:=hs b (List.mem_flatMap.2 ⟨r,hr,hb⟩) h1
 by_cases h3 : b < w'.heap.size
 · exact h3
 · rw [Array.getElem?_eq_none (by omega),Array.getElem?_eq_getElem h1] at h2
   cases h2
theorem ex_loc {ι : Type} {F : List Nat} {ps : ι → List Res} : (Res.ex F ps).Loc:=by
 rintro w w' hs ⟨i,hF,h⟩
 exact ⟨i,hF,held_same h (fun b hb => hs b (by rw [← hF] at hb;exact hb))⟩
theorem ex_on {ι : Type} {ps : ι → List Res} {i : ι} (h : Held w (ps i)) : (Res.ex (feetOf (ps i)) ps).On w:=⟨ex_loc,⟨i,rfl,h⟩,h.ltAll,h.apart⟩
theorem ex_feet {ι : Type} {F : List Nat} {ps : ι → List Res} : feetOf [Res.ex F ps] = F:=by simp [feetOf,Res.ex]
theorem Held.open {ι : Type} {F : List Nat} {ps : ι → List Res} (l m : List Res) (h : Held w (l ++ [Res.ex F ps] ++ m)) : ∃ i,F = feetOf (ps i) ∧ Ev w (l ++ [Res.ex F ps] ++ m) w (l ++ ps i ++ m):=by
 obtain ⟨i,hF,hi⟩:=h.so (Res.ex F ps) (by simp)
 refine ⟨i,hF,Ev.part l m h ⟨hi,Fr.refl _ _,fun b hb => .inl ?_⟩⟩
 rw [ex_feet,hF]
 exact hb
theorem Held.shut {ι : Type} {ps : ι → List Res} {i : ι} (l m : List Res) (h : Held w (l ++ ps i ++ m)) : Ev w (l ++ ps i ++ m) w (l ++ [Res.ex (feetOf (ps i)) ps] ++ m):=by
 refine Ev.part l m h ⟨Held.one (ex_on (Held.part l m h)),Fr.refl _ _,fun b hb => .inl ?_⟩
 rw [ex_feet] at hb
 exact hb
end
set_option linter.unusedVariables false
theorem zeroCells_rep {z u : Value} {sz : Nat} (hz : z.cells.toList = List.replicate sz u) (h0 : 0 < sz) (n : Nat) : (Builtin.zeroCells z.cells n).toList = List.replicate (n * sz) u:=by
 have hs : z.cells.size = sz:=by rw [← Array.length_toList,hz,List.length_replicate]
 apply List.ext_getElem
 · simp [Builtin.zeroCells,hs]
 · intro i h1 h2
   have hlt : i % z.cells.size < z.cells.size:=Nat.mod_lt _ (by omega)
   have hg : z.cells[i % z.cells.size]! = u:=by
    rw [getElem!_pos z.cells (i % z.cells.size) hlt,← Array.getElem_toList]
    have:=List.getElem_mem (l:=z.cells.toList) (n:=i % z.cells.size) (by rw [Array.length_toList];exact hlt)
    have h3 : ∀ l : List Value,l = List.replicate sz u → ∀ x ∈ l,x = u:=fun l e x hx => by rw [e] at hx;exact List.eq_of_mem_replicate hx
    exact h3 _ hz _ this
   simp [Builtin.zeroCells,hg]
section
variable {P : Program} {ops : Array Oper} {Q : Exit → Act → World → Prop} {a : Act} {w : World} {K : Act → World → Prop} {rest : List Oper} {o : Oper}
theorem run_clear_rep (w : World) (t e ty : TypeId) (i : TypeInfo) (z u : Value) (sz : Nat) (ht : P.underlying t = some (.slice e)) (hi : P.info? e = some i) (hz : i.zero = some z) (hzs : z.cells.toList = List.replicate sz u) (h0 : 0 < sz) (h1 : u.oneCell' = true)
 {b : Nat} {n c : Nat} (hn : 0 < n) {cs : List Value} (hb : Blk w b cs) (hl : n * sz ≤ cs.length) :
 (Builtin.clear_ #[t] ty #[.slice (some ⟨b,0,none⟩) n c]).run P w = .ok (.tuple #[]) (w.setCells b 0 (List.replicate (n * sz) u)):=by
 have hst:=run_storeCells_cells (P:=P) b 0 (List.replicate (n * sz) u) 0 w (fun j hj => by rw [List.length_replicate] at hj;rw [hb.cell,List.getElem?_eq_getElem (by omega)];rfl) (fun j hj => hb.free _ (by rw [List.length_replicate] at hj;omega)) (by intro v hv';rw [List.eq_of_mem_replicate hv'];exact h1)
 simp only [Nat.add_zero] at hst
 have hv : ∀ w,(zeroValue e).run P w = .ok z w:=fun w => by simp [zeroValue,typeInfo,hi,hz]
 have hzc:=zeroCells_rep hzs h0 n
 obtain ⟨m,rfl⟩ : ∃ m,n = m + 1:=⟨n - 1,by omega⟩
 simp [Builtin.clear_,run_underlying ht,hv,hzc,hst]
theorem wpList_clear (hg : o.guard = none) (t : TypeId) (x : Operand) (ho : o.op = .call { callee:=.builtin .clear,args:=#[x],argTypes:=#[t] }) (e : TypeId) (i : TypeInfo) (z u : Value) (sz : Nat) (ht : P.underlying t = some (.slice e)) (hi : P.info? e = some i) (hz : i.zero = some z)
 (hzs : z.cells.toList = List.replicate sz u) (h0 : 0 < sz) (h1 : u.oneCell' = true) {v : Value} {n : Nat} {xs : List Value} {b : Nat} (hn : 0 < n) (hx : a.eval x = v) (ho1 : Xr.Own w sz v n xs (some b))
 (h : ∀ w',Fr [b] w w' → Xr.Own w' sz v n (List.replicate (n * sz) u) (some b) → w'.heap.size = w.heap.size → wpList P ops Q rest (a.put o.dst undef) w') : wpList P ops Q (o :: rest) a w:=by
 refine wpList_plain hg fun _ hK => ?_
 rcases ho1.2 with ⟨_,_,h2⟩ | ⟨b',cap,cs,hB,hv,h3,h4,h5,h6,h7⟩
 · cases h2
 · cases hB
   have hle : n * sz ≤ cap * sz:=Nat.mul_le_mul_right _ h3
   have hr:=run_clear_rep (P:=P) w t e o.type i z u sz ht hi hz hzs h0 h1 (c:=cap) hn h5 (by omega)
   obtain ⟨h8,h9⟩:=Blk.setCells (List.replicate (n * sz) u) 0 h5 (by rw [List.length_replicate];omega)
   unfold Oper.wp execOp
   simp only [ho,resolve,invoke,builtin,Sem.run_bind,Sem.run_pure,Result.andThen_ok,List.map_toArray,List.map_cons,List.map_nil,hx,hv,hr]
   refine hK _ _ (h _ h9 ⟨by rw [List.length_replicate],.inr ⟨b,cap,_,rfl,hv,h3,h4,h8,?_,?_⟩⟩ (setCells_heap _ _ _ _))
   · rw [splice_length _ _ _ (by rw [List.length_replicate];omega)];exact h6
   · unfold splice
     rw [List.take_zero,List.nil_append,List.take_append_of_le_length (by rw [List.length_replicate];exact Nat.le_refl _),List.take_of_length_le (by rw [List.length_replicate];exact Nat.le_refl _)]
end
set_option linter.unusedVariables false
section
variable {P : Program} {ops : Array Oper} {Q : Exit → Act → World → Prop} {a : Act} {w : World} {rest : List Oper} {o : Oper}
end
def Res.nil : Res:=⟨[],fun _ => True⟩
theorem Ev.made {w w1 w2 : World} {rs rs1 : List Res} {r' : Res} (a : Ev w rs w1 rs1) (k : Nat) (hk : rs1[k]? = some Res.nil) (f : Fr [] w1 w2) (hr : r'.On w2) (hn : ∀ b ∈ r'.F,w1.heap.size ≤ b) : Ev w rs w2 (rs1.set k r') :=
 a.at k hk f (by simp) hr (fun b hb => .inr (hn b hb))
section
variable {P : Program} {ops : Array Oper} {Q : Exit → Act → World → Prop} {a : Act} {w w0 : World} {o : Oper} {last : Bool} {qs done : List Nat} {rs : List Res}
end
section
variable {P : Program} {ops : Array Oper} {S : World → Prop}
end
set_option linter.unusedVariables false
section
variable {P : Program} {ops : Array Oper} {Q : Exit → Act → World → Prop} {a : Act} {w : World} {K : Act → World → Prop} {rest : List Oper} {o : Oper}
end
section
variable {P : Program} {ops : Array Oper} {S : World → Prop}
theorem run_index_one (t e : TypeId) (d : TypeDesc) (n : Nat) (ht : P.underlying t = some (.array n e)) (hu : P.underlying e = some d) (hd : aggDesc d = false) (hs : (P.info? e).map (·.size) = some 1) (vs : List Value) (k : IntKind) (i : Nat) (v : Value) (hi : i < n) (hv : vs[i]? = some v) (w : World) :
 (Instr.index t (.agg vs.toArray) (.int k (i : Int))).run P w = .ok v w:=by
 have hagg : (isAgg e).run P w = .ok false w:=by
  unfold isAgg
  rw [Sem.run_bind,run_underlying hu w]
  cases d <;> simp_all [aggDesc]
 have hsz : (sizeOf e).run P w = .ok 1 w:=by
  cases hq : P.info? e with
  | none => simp [hq] at hs
  | some inf =>
    have : inf.size = 1:=by simpa [hq] using hs
    simp [sizeOf,typeInfo,hq,this]
 have hlt : (0 : Int) ≤ (i : Int) ∧ (i : Int) < (n : Int):=⟨by omega,by omega⟩
 have hp : (part e vs.toArray ((i : Int).toNat * 1)).run P w = .ok v w:=by
  simp [part,Sem.run_bind,hagg,hv]
 unfold Instr.index
 simp only [Sem.run_bind,asIntOf,Sem.run_pure,Result.andThen_ok,run_underlying ht,if_pos hlt,hsz,hp]
theorem wpList_index_one {Q : Exit → Act → World → Prop} {w : World} {a : Act} {o : Oper} {rest : List Oper} (hg : o.guard = none) (t : TypeId) (x y : Operand) (ho : o.op = .index t x y) (e : TypeId) (d : TypeDesc) (n : Nat) (ht : P.underlying t = some (.array n e)) (hu : P.underlying e = some d) (hd : aggDesc d = false) (hs : (P.info? e).map (·.size) = some 1)
 (vs : List Value) (hx : a.eval x = .agg vs.toArray) (k : IntKind) (i : Nat) (j : Int) (hy : a.eval y = .int k j) (hj : j = (i : Int)) (v : Value) (hi : i < n) (hv : vs[i]? = some v)
 (h : wpList P ops Q rest (a.put o.dst v) w) : wpList P ops Q (o :: rest) a w:=by
 subst hj
 refine wpList_plain hg fun _ hK => ?_
 unfold Oper.wp execOp
 simp only [ho,hx,hy,Sem.run_bind,run_index_one t e d n ht hu hd hs vs k i v hi hv w,Result.andThen_ok,Sem.run_pure]
 exact hK _ _ h
end
def pv (o : Option Nat) : Value:=.pointer (o.map fun b => ⟨b,0,none⟩)
def PlnO (w : World) (o : Option Nat) : Prop:=∀ b,o = some b → Pln w b
def getP (ks : List (Option Nat × Int)) (a : Option Nat) : Int:=((ks.find? fun p => decide (a = p.1)).map (·.2)).getD 0
def setP : List (Option Nat × Int) → Option Nat → Int → List (Option Nat × Int)
 | [],a,v => [(a,v)]
 | p :: ks,a,v => if a = p.1 then (a,v) :: ks else p :: setP ks a v
section
variable {P : Program} {w w' : World} {tp te t e : TypeId} {j : TypeInfo}
theorem pm_getObj {b : Nat} {es : Array MapEntry} {c : Nat} (h : w.heap[b]? = some (.map es c)) : (getObj b).run P w = .ok (.map es c) w:=by simp [getObj,Sem.run,h]
theorem pm_setObj {b : Nat} {es : Array MapEntry} {c : Nat} (o' : Obj) (h : w.heap[b]? = some (.map es c)) : (setObj b o').run P w = .ok () { w with heap:=w.heap.setIfInBounds b o' }:=by simp [setObj,Sem.run,h]
theorem equal_pv (hp : P.underlying tp = some (.pointer te)) (hte : P.info? te = some j) (hsz : j.size ≠ 0) {a b : Option Nat} (ha : PlnO w a) (hb : PlnO w b) :
 (Op.equal tp (pv a) (pv b)).run P w = .ok (decide (a = b)) w:=by
 have key : ∀ d : Nat,(Op.equalIn (d + 1) tp (pv a) (pv b)).run P w = .ok (decide (a = b)) w:=by
  intro d
  rw [Op.equalIn]
  simp only [Sem.run_bind,run_underlying hp,Result.andThen_ok]
  cases a with
  | none => cases b <;> rfl
  | some a =>
    cases b with
    | none => rfl
    | some b =>
      by_cases hab : a = b
      · subst hab
        simp [pv,sizeOf,typeInfo,hte,run_sameAddr_same,hsz,Sem.run_bind]
      · obtain ⟨ta,ca,ha⟩:=ha a rfl
        obtain ⟨tb,cb,hb⟩:=hb b rfl
        have hne : (⟨a,0,none⟩ : Addr) ≠ ⟨b,0,none⟩:=fun h => hab (by injection h)
        simp [pv,sizeOf,typeInfo,hte,hsz,run_sameAddr_other w hne ha hb,hab,Sem.run_bind]
 exact key 9999
def PM (w : World) (b : Nat) (ks : List (Option Nat × Int)) : Prop:=∃ (es : Array MapEntry) (clock : Nat),w.heap[b]? = some (.map es clock) ∧ es.toList.map (fun x => (x.key,x.val)) = ks.map (fun p => (pv p.1,Value.int .i64 p.2))
theorem PM.lt {b : Nat} {ks : List (Option Nat × Int)} (h : PM w b ks) : b < w.heap.size:=by
 obtain ⟨es,c,h1,_⟩:=h
 exact (Array.getElem?_eq_some_iff.1 h1).1
theorem PM.keep {b : Nat} {ks : List (Option Nat × Int)} {S : List Nat} (h : PM w b ks) (f : Fr S w w') (hb : b ∉ S) : PM w' b ks:=by
 have hlt:=h.lt
 obtain ⟨es,c,h1,h2⟩:=h
 exact ⟨es,c,(f.block b hlt hb).trans h1,h2⟩
theorem PM.made (w : World) : PM (w.alloc (.map #[] 0)) w.heap.size []:=⟨#[],0,heap_alloc_new w _,rfl⟩
theorem find_asking (hp : P.underlying tp = some (.pointer te)) (hte : P.info? te = some j) (hsz : j.size ≠ 0) {a : Option Nat} (ha : PlnO w a) : ∀ (es : List MapEntry) (ks : List (Option Nat × Int)) (i : Nat),es.map (fun x => (x.key,x.val)) = ks.map (fun p => (pv p.1,Value.int .i64 p.2)) → (∀ p ∈ ks,PlnO w p.1) →
 (Instr.findAsking tp (pv a) es i).run P w = .ok ((ks.findIdx? fun p => decide (a = p.1)).map fun n => (i + n,Value.int .i64 (getP ks a))) w
 | [],[],i,_,_ => rfl
 | [],p :: ks,i,h,_ => by simp at h
 | x :: es,[],i,h,_ => by simp at h
 | x :: es,p :: ks,i,h,hk => by
   simp only [List.map_cons,List.cons.injEq,Prod.mk.injEq] at h
   obtain ⟨⟨h1,h2⟩,h3⟩:=h
   rw [Instr.findAsking]
   simp only [Sem.run_bind,h1,equal_pv hp hte hsz ha (hk p (by simp)),Result.andThen_ok]
   by_cases hap : a = p.1
   · have hd : decide (a = p.1) = true:=decide_eq_true hap
     rw [hd,if_pos rfl,h2]
     simp [List.findIdx?_cons,hd,getP]
   · have hd : decide (a = p.1) = false:=decide_eq_false hap
     rw [hd,if_neg (by decide),find_asking hp hte hsz ha es ks (i + 1) h3 (fun q hq => hk q (by simp [hq]))]
     have hg : getP (p :: ks) a = getP ks a:=by unfold getP;rw [List.find?_cons,hd]
     rw [hg,List.findIdx?_cons,hd]
     simp only [Bool.false_eq_true,if_false,Option.map_map]
     congr 2
     funext n
     simp
     omega
theorem find_key (hp : P.underlying tp = some (.pointer te)) (hte : P.info? te = some j) (hsz : j.size ≠ 0) {a : Option Nat} (ha : PlnO w a) {es : List MapEntry} {ks : List (Option Nat × Int)} (h : es.map (fun x => (x.key,x.val)) = ks.map (fun p => (pv p.1,Value.int .i64 p.2))) (hk : ∀ p ∈ ks,PlnO w p.1) :
 (Instr.findKey tp (pv a) es).run P w = .ok ((ks.findIdx? fun p => decide (a = p.1)).map fun n => (n,Value.int .i64 (getP ks a))) w:=by
 have h1:=find_asking hp hte hsz ha es ks 0 h hk
 simp only [Nat.zero_add] at h1
 unfold Instr.findKey
 simp only [Sem.run_bind,run_underlying hp,Result.andThen_ok]
 cases es with
 | nil =>
   cases ks with
   | nil => rfl
   | cons p ks => simp at h
 | cons x es =>
   cases ks with
   | nil => simp at h
   | cons p ks =>
     have hn : Instr.findNow (.pointer te) (pv a) (x :: es) 0 = none:=by simp [Instr.findNow,Instr.sameNow,pv]
     rw [hn]
     exact h1
theorem getP_none {ks : List (Option Nat × Int)} {a : Option Nat} (h : (ks.findIdx? fun p => decide (a = p.1)) = none) : getP ks a = 0:=by
 unfold getP
 rw [List.findIdx?_eq_none_iff] at h
 rw [List.find?_eq_none.2 (fun x hx => by simpa using h x hx)]
 rfl
theorem PM.get {b : Nat} {ks : List (Option Nat × Int)} (h : PM w b ks) (hp : P.underlying tp = some (.pointer te)) (hte : P.info? te = some j) (hsz : j.size ≠ 0) (ht : P.underlying t = some (.map tp e)) (hz : (zeroValue e).run P w = .ok (.int .i64 0) w) {a : Option Nat} (ha : PlnO w a) (hk : ∀ p ∈ ks,PlnO w p.1) :
 (Instr.lookup t (.map (some b)) (pv a) false).run P w = .ok (.int .i64 (getP ks a)) w:=by
 obtain ⟨es,c,h1,h2⟩:=h
 have hf:=find_key hp hte hsz ha h2 hk
 have hc : (Instr.checkKey es.isEmpty 10000 tp (pv a)).run P w = .ok () w:=by
  rw [show (10000 : Nat) = 9999 + 1 from rfl,Instr.checkKey]
  simp [Sem.run_bind,run_underlying hp,pv]
 unfold Instr.lookup
 have ho : (getObj b).run P w = .ok (.map es c) w:=pm_getObj h1
 cases hx : (ks.findIdx? fun p => decide (a = p.1)) with
 | none =>
   rw [hx] at hf
   simp only [Sem.run_bind,run_underlying ht,Result.andThen_ok,ho,hc,hf,hz,Option.map_none,Sem.run_pure,getP_none hx]
   rfl
 | some n =>
   rw [hx] at hf
   simp only [Sem.run_bind,run_underlying ht,Result.andThen_ok,ho,hc,hf,Option.map_some,Sem.run_pure]
   rfl
theorem getP_set (ks : List (Option Nat × Int)) (a b : Option Nat) (v : Int) : getP (setP ks a v) b = if b = a then v else getP ks b:=by
 induction ks with
 | nil =>
   unfold getP setP
   by_cases h : b = a
   · simp [h]
   · simp [h]
 | cons p ks ih =>
   unfold setP
   by_cases h : a = p.1
   · rw [if_pos h]
     unfold getP
     rw [List.find?_cons,List.find?_cons]
     by_cases hb : b = a
     · simp [hb]
     · have hb2 : ¬ b = p.1:=fun e => hb (e.trans h.symm)
       simp [hb,hb2]
   · rw [if_neg h]
     have e1 : ∀ l : List (Option Nat × Int),getP (p :: l) b = if b = p.1 then p.2 else getP l b:=fun l => by
      unfold getP
      rw [List.find?_cons]
      by_cases hb : b = p.1 <;> simp [hb]
     rw [e1,e1,ih]
     by_cases hb : b = p.1
     · have : ¬ b = a:=fun e => h (e.symm.trans hb)
       simp [hb,show ¬ p.1 = a from fun e => h e.symm]
     · simp [hb]
theorem setP_keys (ks : List (Option Nat × Int)) (a : Option Nat) (v : Int) : ∀ p ∈ setP ks a v,p.1 = a ∨ ∃ q ∈ ks,q.1 = p.1:=by
 induction ks with
 | nil =>
   intro p hp
   simp [setP] at hp
   exact .inl (by rw [hp])
 | cons q ks ih =>
   intro p hp
   unfold setP at hp
   split at hp
   · rcases List.mem_cons.1 hp with rfl | hp
     · exact .inl rfl
     · exact .inr ⟨p,List.mem_cons_of_mem _ hp,rfl⟩
   · rcases List.mem_cons.1 hp with rfl | hp
     · exact .inr ⟨p,List.mem_cons_self ..,rfl⟩
     · rcases ih p hp with h | ⟨r,hr,e⟩
       · exact .inl h
       · exact .inr ⟨r,List.mem_cons_of_mem _ hr,e⟩
theorem setP_none {ks : List (Option Nat × Int)} {a : Option Nat} {v : Int} (h : (ks.findIdx? fun p => decide (a = p.1)) = none) : setP ks a v = ks ++ [(a,v)]:=by
 induction ks with
 | nil => rfl
 | cons p ks ih =>
   rw [List.findIdx?_cons] at h
   by_cases hap : a = p.1
   · simp [hap] at h
   · simp [hap] at h
     unfold setP
     rw [if_neg hap,ih (by rw [List.findIdx?_eq_none_iff];intro x hx;simpa using h x.1 x.2 hx)]
     rfl
theorem setP_some : ∀ {ks : List (Option Nat × Int)} {a : Option Nat} {v : Int} {n : Nat},(ks.findIdx? fun p => decide (a = p.1)) = some n → setP ks a v = ks.set n (a,v) ∧ (ks.map (·.1))[n]? = some a
 | [],a,v,n,h => by simp at h
 | p :: ks,a,v,n,h => by
   rw [List.findIdx?_cons] at h
   by_cases hap : a = p.1
   · simp [hap] at h
     subst h
     unfold setP
     rw [if_pos hap]
     exact ⟨rfl,by simp [hap]⟩
   · simp [hap] at h
     obtain ⟨m,hm,rfl⟩:=h
     obtain ⟨h1,h2⟩:=setP_some (v:=v) hm
     unfold setP
     rw [if_neg hap,h1]
     exact ⟨rfl,by simpa using h2⟩
theorem PM.put {b : Nat} {ks : List (Option Nat × Int)} (h : PM w b ks) (hp : P.underlying tp = some (.pointer te)) (hte : P.info? te = some j) (hsz : j.size ≠ 0) (ht : P.underlying t = some (.map tp e)) {a : Option Nat} (ha : PlnO w a) (hk : ∀ p ∈ ks,PlnO w p.1) (v : Int) :
 ∃ w',(Instr.mapUpdate t (.map (some b)) (pv a) (.int .i64 v)).run P w = .ok () w' ∧ PM w' b (setP ks a v) ∧ Fr [b] w w':=by
 have hlt:=h.lt
 obtain ⟨es,c,h1,h2⟩:=h
 have hf:=find_key hp hte hsz ha h2 hk
 have hc : (Instr.checkKey false 10000 tp (pv a)).run P w = .ok () w:=by
  rw [show (10000 : Nat) = 9999 + 1 from rfl,Instr.checkKey]
  simp [Sem.run_bind,run_underlying hp,pv]
 have ho : (getObj b).run P w = .ok (.map es c) w:=pm_getObj h1
 have hfr : ∀ o : Obj,Fr [b] w { w with heap:=w.heap.setIfInBounds b o }:=fun o => by
  refine ⟨rfl,rfl,rfl,by simp,fun k _ hk => ?_,fun k hk => ?_⟩
  · exact Array.getElem?_setIfInBounds_ne (fun e => by simp at hk;exact hk e.symm)
  · refine hk.same (Array.getElem?_setIfInBounds_ne (fun e => ?_))
    subst e
    obtain ⟨t,cs,hh⟩:=hk
    rw [h1] at hh
    cases hh
 unfold Instr.mapUpdate
 cases hx : (ks.findIdx? fun p => decide (a = p.1)) with
 | none =>
   rw [hx] at hf
   refine ⟨{ w with heap:=w.heap.setIfInBounds b (.map (es.push { key:=pv a,val:=.int .i64 v,born:=c }) (c + 1)) },?_,?_,hfr _⟩
   · simp only [Sem.run_bind,run_underlying ht,Result.andThen_ok,ho,hc,hf,Option.map_none]
     exact pm_setObj _ h1
   · refine ⟨es.push { key:=pv a,val:=.int .i64 v,born:=c },c + 1,by simp [hlt],?_⟩
     rw [setP_none hx,Array.toList_push,List.map_append,List.map_append,h2]
     rfl
 | some n =>
   rw [hx] at hf
   obtain ⟨e1,e2⟩:=setP_some (v:=v) hx
   have hnk : n < ks.length:=by
    have:=(List.getElem?_eq_some_iff.1 e2).1
    simpa using this
   have hlen : es.size = ks.length:=by have:=congrArg List.length h2;simpa using this
   have hkey : ((es[n]?).map (·.key)).getD (pv a) = pv a:=by
    have h3 : (es.toList.map (fun x => (x.key,x.val)))[n]? = (ks.map (fun p => (pv p.1,Value.int .i64 p.2)))[n]?:=by rw [h2]
    rw [List.getElem?_map,List.getElem?_map,List.getElem?_eq_getElem hnk] at h3
    have h4 : (ks.map (·.1))[n]? = some ks[n].1:=by simp [hnk]
    rw [e2] at h4
    have h5 : ks[n].1 = a:=(Option.some.inj h4).symm
    simp only [Option.map_some,h5] at h3
    rw [Array.getElem?_toList] at h3
    cases hes : es[n]? with
    | none => rw [hes] at h3;cases h3
    | some x =>
      rw [hes] at h3
      simp only [Option.map_some,Option.some.injEq,Prod.mk.injEq] at h3
      simp [h3.1]
   have hsb : Instr.sameBits 10000 (pv a) (pv a) = true:=by
    rw [show (10000 : Nat) = 9999 + 1 from rfl]
    simp [pv,Instr.sameBits]
   refine ⟨{ w with heap:=w.heap.setIfInBounds b (.map (es.modify n fun x => { x with key:=pv a,val:=.int .i64 v }) c) },?_,?_,hfr _⟩
   · simp only [Sem.run_bind,run_underlying ht,Result.andThen_ok,ho,hc,hf,Option.map_some,hkey,Instr.keyThatStays,hsb,if_true,Sem.run_pure]
     exact pm_setObj _ h1
   · refine ⟨es.modify n fun x => { x with key:=pv a,val:=.int .i64 v },c,by simp [hlt],?_⟩
     rw [e1,List.map_set,← h2,Array.toList_modify]
     refine List.ext_getElem? fun k => ?_
     rw [List.getElem?_map,List.getElem?_modify,List.getElem?_set,List.getElem?_map,List.length_map]
     by_cases hkn : n = k
     · subst hkn
       have hn : n < es.size:=by omega
       simp [hn,Array.getElem?_eq_getElem hn]
     · simp [hkn]
section
variable {ops : Array Oper} {Q : Exit → Act → World → Prop} {a : Act} {rest : List Oper} {o : Oper}
theorem wpList_pm_put (hg : o.guard = none) (m x v : Operand) (t : TypeId) (ho : o.op = .mapUpdate t m x v) {b : Nat} (hm : a.eval m = .map (some b)) (k : Option Nat) (hx : a.eval x = pv k) (c : Int) (hv : a.eval v = .int .i64 c) {ks : List (Option Nat × Int)}
 (hM : PM w b ks) (hp : P.underlying tp = some (.pointer te)) (hte : P.info? te = some j) (hsz : j.size ≠ 0) (ht : P.underlying t = some (.map tp e)) (ha : PlnO w k) (hk : ∀ p ∈ ks,PlnO w p.1)
 (h : ∀ w',PM w' b (setP ks k c) → Fr [b] w w' → wpList P ops Q rest (a.put o.dst undef) w') : wpList P ops Q (o :: rest) a w :=
 wpList_plain hg fun K hK => by
  obtain ⟨w',hrun,h1,h2⟩:=hM.put hp hte hsz ht ha hk c
  unfold Oper.wp
  simp [execOp,ho,hm,hx,hv,hrun,Result.andThen]
  exact hK _ _ (h w' h1 h2)
theorem wpList_pm_get (hg : o.guard = none) (m x : Operand) (t : TypeId) (ho : o.op = .lookup t m x false) {b : Nat} (hm : a.eval m = .map (some b)) (k : Option Nat) (hx : a.eval x = pv k) {ks : List (Option Nat × Int)}
 (hM : PM w b ks) (hp : P.underlying tp = some (.pointer te)) (hte : P.info? te = some j) (hsz : j.size ≠ 0) (ht : P.underlying t = some (.map tp e)) (hz : (zeroValue e).run P w = .ok (.int .i64 0) w) (ha : PlnO w k) (hk : ∀ p ∈ ks,PlnO w p.1)
 (h : wpList P ops Q rest (a.put o.dst (.int .i64 (getP ks k))) w) : wpList P ops Q (o :: rest) a w :=
 wpList_plain hg fun K hK => by
  have hrun:=hM.get hp hte hsz ht hz ha hk
  unfold Oper.wp
  simp [execOp,ho,hm,hx,hrun,Result.andThen]
  exact hK _ _ h
end
end
end Go.Xr
