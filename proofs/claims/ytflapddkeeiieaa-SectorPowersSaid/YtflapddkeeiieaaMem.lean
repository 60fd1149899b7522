/- Memory told by whole blocks; what a step leaves alone; the steps that read and write rows of cells. -/
import Derived.WalkKit
import Derived.ArgAppend
import Derived.Laws.IdiomStrings
import Derived.Laws.MakeOwn
import Derived.Deep.Quiet
namespace Go.Xr
open Go Go.RowKit

/-- A fact that the walk is not to see. -/
theorem hid {p : Prop} (h : p) : Hid p := h

/-- Block b holds the cells cs, and none of them is frozen. -/
def Blk (w : World) (b : Nat) (cs : List Value) : Prop :=
  ∃ (t : TypeId) (fr : Nat × Nat), w.heap[b]? = some (.cells cs.toArray t fr) ∧ ∀ i, i < cs.length → (decide (fr.1 ≤ i) && decide (i < fr.2)) = false

/-- But for the blocks in S what was there is as it was; no block has gone. -/
structure Fr (S : List Nat) (w w' : World) : Prop where
  os : w'.os = w.os
  tape : w'.tape = w.tape
  output : w'.output = w.output
  size : w.heap.size ≤ w'.heap.size
  block : ∀ k, k < w.heap.size → k ∉ S → w'.heap[k]? = w.heap[k]?

section
variable {w w' w1 w2 : World} {b : Nat} {cs : List Value} {S T : List Nat}

theorem Blk.cell (h : Blk w b cs) (o : Nat) : w.cell? ⟨b, o, none⟩ = cs[o]? := by
  obtain ⟨t, fr, hh, _⟩ := h
  simp [World.cell?, hh]
theorem Blk.free (h : Blk w b cs) (o : Nat) (ho : o < cs.length) : w.frozen? ⟨b, o, none⟩ = false := by
  obtain ⟨t, fr, hh, hf⟩ := h
  simp only [World.frozen?, hh]
  exact hf o ho
theorem Blk.lt (h : Blk w b cs) : b < w.heap.size := by
  obtain ⟨t, fr, hh, _⟩ := h
  exact (Array.getElem?_eq_some_iff.1 hh).1
theorem Blk.same (h : Blk w b cs) (e : w'.heap[b]? = w.heap[b]?) : Blk w' b cs := by
  obtain ⟨t, fr, hh, hf⟩ := h
  exact ⟨t, fr, e.trans hh, hf⟩
theorem Blk.eq {cs' : List Value} (h : Blk w b cs) (h' : Blk w b cs') : cs = cs' := by
  obtain ⟨t, fr, hh, _⟩ := h
  obtain ⟨t', fr', hh', _⟩ := h'
  rw [hh] at hh'
  exact (by simpa using (Option.some.inj hh') : cs = cs' ∧ _).1
theorem Blk.alloc (w : World) (cs : List Value) (t : TypeId) : Blk (w.alloc (.cells cs.toArray t)) w.heap.size cs :=
  ⟨t, (0, 0), heap_alloc_new w _, fun i _ => by simp⟩
theorem Blk.allocArr (w : World) (cs : Array Value) (t : TypeId) : Blk (w.alloc (.cells cs t)) w.heap.size cs.toList := by
  have := Blk.alloc w cs.toList t
  simpa using this
theorem Blk.old (h : Blk w b cs) (o : Obj) : Blk (w.alloc o) b cs := h.same (Below.heap_alloc w o b h.lt)
theorem Blk.drew (h : Blk w b cs) : Blk w.drew b cs := h
theorem Blk.drewN (h : Blk w b cs) (n : Nat) : Blk (w.drewN n) b cs := h
theorem Blk.set (h : Blk w b cs) (o : Nat) (v : Value) : Blk (w.setCell ⟨b, o, none⟩ v) b (cs.set o v) := by
  obtain ⟨t, fr, hh, hf⟩ := h
  refine ⟨t, fr, ?_, by simpa using hf⟩
  simp [World.setCell, Array.getElem?_modify, hh]
theorem Blk.set_ne (h : Blk w b cs) {a : Addr} (hne : b ≠ a.block) (v : Value) : Blk (w.setCell a v) b cs := h.same (heap_setCell_other w a b v hne)

theorem Fr.refl (S : List Nat) (w : World) : Fr S w w := ⟨rfl, rfl, rfl, Nat.le_refl _, fun _ _ _ => rfl⟩
/-- Two steps: what the second may touch is among what the first may, or was made since. -/
theorem Fr.trans (h : Fr S w w1) (k : Fr T w1 w2) (hT : ∀ x ∈ T, x ∈ S ∨ w.heap.size ≤ x) : Fr S w w2 :=
  ⟨k.os.trans h.os, k.tape.trans h.tape, k.output.trans h.output, Nat.le_trans h.size k.size, fun i hi hn =>
    (k.block i (Nat.lt_of_lt_of_le hi h.size) (fun hx => by rcases hT i hx with h1 | h1; exact hn h1; omega)).trans (h.block i hi hn)⟩
theorem Fr.trans' (h : Fr S w w1) (k : Fr S w1 w2) : Fr S w w2 := h.trans k (fun _ hx => .inl hx)
theorem Fr.mono (h : Fr S w w') (hs : ∀ x ∈ S, x ∈ T ∨ w.heap.size ≤ x) : Fr T w w' :=
  ⟨h.os, h.tape, h.output, h.size, fun k hk hn => h.block k hk (fun hx => by rcases hs k hx with h1 | h1; exact hn h1; omega)⟩
theorem Fr.drew (h : Fr S w w') : Fr S w w'.drew := ⟨h.os, h.tape, h.output, h.size, h.block⟩
theorem Fr.drewN (h : Fr S w w') (n : Nat) : Fr S w (w'.drewN n) := ⟨h.os, h.tape, h.output, h.size, h.block⟩
theorem Fr.alloc (h : Fr S w w') (o : Obj) : Fr S w (w'.alloc o) :=
  ⟨h.os, h.tape, h.output, by simp; exact Nat.le_succ_of_le h.size, fun k hk hn => (Below.heap_alloc w' o k (Nat.lt_of_lt_of_le hk h.size)).trans (h.block k hk hn)⟩
theorem Fr.setCell (h : Fr S w w') {a : Addr} (ha : a.block ∈ S ∨ w.heap.size ≤ a.block) (v : Value) : Fr S w (w'.setCell a v) :=
  ⟨h.os, h.tape, h.output, by simp; exact h.size, fun k hk hn => (heap_setCell_other w' a k v (fun e => by rcases ha with h1 | h1; exact hn (e ▸ h1); omega)).trans (h.block k hk hn)⟩
theorem Fr.blk (h : Fr S w w') (hb : Blk w b cs) (hn : b ∉ S) : Blk w' b cs := hb.same (h.block b hb.lt hn)
theorem Fr.below {B : Nat} (h : Fr S w w') (hB : B ≤ w.heap.size) (hS : ∀ x ∈ S, B ≤ x) : Below B w w' :=
  ⟨h.os, h.tape, h.output, h.size, fun k hk => h.block k (by omega) (fun hx => by have := hS k hx; omega)⟩
theorem Fr.of_below {B : Nat} (h : Below B w w') (hB : w.heap.size ≤ B) : Fr S w w' :=
  ⟨h.os, h.tape, h.output, h.size, fun k hk _ => h.block k (by omega)⟩
theorem Fr.cell_old {a : Addr} (h : Fr [] w w') (ha : a.block < w.heap.size) : w'.cell? a = w.cell? a := World.cell?_of_block (w := w) (h.block a.block ha (by simp))
theorem Fr.cell_some {w w' : World} {a : Addr} {v : Value} (f : Fr [] w w') (h : w.cell? a = some v) : w'.cell? a = some v := by
  rw [f.cell_old (World.block_lt_of_cell? _ _ h)]
  exact h
theorem Fr.frozen_some {w w' : World} {a : Addr} {v : Value} (f : Fr [] w w') (h : w.cell? a = some v) (hf : w.frozen? a = false) : w'.frozen? a = false :=
  (World.frozen?_of_block (w := w) (f.block a.block (World.block_lt_of_cell? _ _ h) (by simp))).trans hf
theorem Fr.lt (h : Fr S w w') (hb : b < w.heap.size) : b < w'.heap.size := Nat.lt_of_lt_of_le hb h.size

/-! ### A row of cells is written -/
def splice (cs : List Value) (off : Nat) (vs : List Value) : List Value := cs.take off ++ vs ++ cs.drop (off + vs.length)

theorem splice_length (cs : List Value) (off : Nat) (vs : List Value) (h : off + vs.length ≤ cs.length) : (splice cs off vs).length = cs.length := by
  simp [splice]; omega

theorem splice_cons (cs : List Value) (off : Nat) (v : Value) (vs : List Value) (h : off < cs.length) : splice (cs.set off v) (off + 1) vs = splice cs off (v :: vs) := by
  unfold splice
  have e1 : (cs.set off v).take (off + 1) = cs.take off ++ [v] := by
    rw [List.take_set, List.take_succ_eq_append_getElem h, List.set_append_right _ _ (by simp; omega)]
    simp [Nat.min_eq_left (Nat.le_of_lt h)]
  have e2 : (cs.set off v).drop (off + 1 + vs.length) = cs.drop (off + 1 + vs.length) := by
    rw [List.drop_set, if_pos (by omega)]
  rw [e1, e2]
  simp [Nat.add_comm, Nat.add_left_comm]

theorem Blk.setCells : ∀ (vs : List Value) (off : Nat) {w : World} {b : Nat} {cs : List Value}, Blk w b cs → off + vs.length ≤ cs.length → Blk (w.setCells b off vs) b (splice cs off vs) ∧ Fr [b] w (w.setCells b off vs)
  | [], off, w, b, cs, h, _ => by
    simp only [World.setCells, splice, List.append_nil, List.length_nil, Nat.add_zero, List.take_append_drop]
    exact ⟨h, Fr.refl _ _⟩
  | v :: vs, off, w, b, cs, h, hl => by
    simp only [List.length_cons] at hl
    have h1 := h.set off v
    obtain ⟨h2, h3⟩ := Blk.setCells vs (off + 1) h1 (by simp; omega)
    simp only [World.setCells]
    refine ⟨?_, (Fr.setCell (Fr.refl [b] w) (.inl (by simp)) v).trans' h3⟩
    rw [← splice_cons cs off v vs (by omega)]
    exact h2
end

/-! ### Bytes -/
def bt (c : UInt8) : Value := .int .u8 c.toNat
def bv (l : List UInt8) : List Value := l.map bt
@[simp] theorem bv_length (l : List UInt8) : (bv l).length = l.length := by simp [bv]
@[simp] theorem bv_append (l k : List UInt8) : bv (l ++ k) = bv l ++ bv k := by simp [bv]
theorem bv_take (l : List UInt8) (n : Nat) : (bv l).take n = bv (l.take n) := by simp [bv]
theorem bv_drop (l : List UInt8) (n : Nat) : (bv l).drop n = bv (l.drop n) := by simp [bv]
@[simp] theorem bv_nil : bv [] = [] := rfl
theorem bv_getElem? (l : List UInt8) (i : Nat) : (bv l)[i]? = l[i]?.map bt := by simp [bv]
theorem bv_set (l : List UInt8) (i : Nat) (c : UInt8) : bv (l.set i c) = (bv l).set i (bt c) := by simp [bv]
theorem bv_replicate (n : Nat) (c : UInt8) : bv (List.replicate n c) = List.replicate n (bt c) := by simp [bv]
theorem bv_inj {l k : List UInt8} (h : bv l = bv k) : l = k := by
  have hb : ∀ a b : UInt8, bt a = bt b → a = b := fun a b h => by
    simp only [bt, Value.int.injEq, true_and] at h
    exact UInt8.toNat_inj.1 (by omega)
  unfold bv at h
  exact List.map_inj_right (fun a b => hb a b) |>.1 h
theorem bv_one (l : List UInt8) : ∀ u ∈ bv l, u.oneCell' = true := by
  intro u hu
  obtain ⟨c, _, rfl⟩ := List.mem_map.1 hu
  rfl
theorem bt_one (c : UInt8) : (bt c).oneCell' = true := rfl

theorem size_mk' (l : List UInt8) : (ByteArray.mk l.toArray).size = l.length := by simp [ByteArray.size]

section
variable {P : Program} {ops : Array Oper} {Q : Exit → Act → World → Prop} {a : Act} {w : World} {K : Act → World → Prop} {rest : List Oper} {o : Oper}

/-- Cells of a block, from a place on, as loads see them. -/
theorem Blk.cells {w : World} {b : Nat} {cs : List Value} (h : Blk w b cs) {off : Nat} {vs : List Value} (hv : (cs.drop off).take vs.length = vs) :
    ∀ j u, vs[j]? = some u → w.cell? ((⟨b, off, none⟩ : Addr).add j) = some u := by
  intro j u hu
  have hadd : (⟨b, off, none⟩ : Addr).add j = ⟨b, off + j, none⟩ := by unfold Addr.add; split <;> simp_all
  rw [hadd, h.cell]
  have hj : j < vs.length := (List.getElem?_eq_some_iff.1 hu).1
  rw [← hv, List.getElem?_take, if_pos hj, List.getElem?_drop] at hu
  exact hu

def aggDesc : TypeDesc → Bool
  | .struct _ | .array _ _ => true
  | _ => false

theorem run_loadVar_agg (w : World) (ty : TypeId) (d : TypeDesc) (hu : P.underlying ty = some d) (hd : aggDesc d = true) {b off : Nat} {cs vs : List Value} (hb : Blk w b cs)
    (hv : (cs.drop off).take vs.length = vs) (hs : (P.info? ty).map (·.size) = some vs.length) : (loadVar ty ⟨b, off, none⟩).run P w = .ok (.agg vs.toArray) w := by
  have hl := run_loadCells_list (P := P) w ⟨b, off, none⟩ vs (hb.cells hv)
  cases hq : P.info? ty with
  | none => simp [hq] at hs
  | some i =>
    have hs' : i.size = vs.length := by simpa [hq] using hs
    have hagg : (isAgg ty).run P w = .ok true w := by
      unfold isAgg
      rw [Sem.run_bind, run_underlying hu w]
      cases d <;> simp_all [aggDesc]
    simp [loadVar, Sem.run_bind, hagg, sizeOf, typeInfo, hq, hs', hl]

theorem wp_load_agg (ty : TypeId) (x : Operand) (ho : o.op = .load ty x) {b off : Nat} (hx : a.eval x = .pointer (some ⟨b, off, none⟩)) {cs : List Value} (vs : List Value) (hb : Blk w b cs)
    (d : TypeDesc) (hu : P.underlying ty = some d) (hd : aggDesc d = true) (hs : (P.info? ty).map (·.size) = some vs.length) (hv : (cs.drop off).take vs.length = vs)
    (h : K (a.put o.dst (.agg vs.toArray)) w) : o.wp P a w K Q := by
  unfold Oper.wp execOp
  simp only [ho, hx, Instr.loadAt, Instr.sureAddr, Sem.run_bind, Sem.run_pure, Result.andThen_ok, run_loadVar_agg w ty d hu hd hb hv hs]
  exact h

theorem wpList_load_agg (hg : o.guard = none) (ty : TypeId) (x : Operand) (ho : o.op = .load ty x) {b off : Nat} (hx : a.eval x = .pointer (some ⟨b, off, none⟩)) {cs : List Value} (vs : List Value) (hb : Blk w b cs)
    (d : TypeDesc) (hu : P.underlying ty = some d) (hd : aggDesc d = true) (hs : (P.info? ty).map (·.size) = some vs.length) (hv : (cs.drop off).take vs.length = vs)
    (h : wpList P ops Q rest (a.put o.dst (.agg vs.toArray)) w) : wpList P ops Q (o :: rest) a w :=
  wpList_plain hg fun _ hK => wp_load_agg ty x ho hx vs hb d hu hd hs hv (hK _ _ h)

/-- The same in a piece of a drawn region that only reads: in every world of the class. -/
theorem quiet_load_agg {C : World → Prop} {Q' : Act → Prop} (hg : o.guard = none) (ty : TypeId) (x : Operand) (ho : o.op = .load ty x) {b off : Nat} (hx : a.eval x = .pointer (some ⟨b, off, none⟩)) {cs : List Value} (vs : List Value)
    (hb : ∀ w, C w → Blk w b cs) (d : TypeDesc) (hu : P.underlying ty = some d) (hd : aggDesc d = true) (hs : (P.info? ty).map (·.size) = some vs.length) (hv : (cs.drop off).take vs.length = vs)
    (h : wpQuiet P ops C Q' rest (a.put o.dst (.agg vs.toArray))) : wpQuiet P ops C Q' (o :: rest) a := by
  refine wpQuiet_step fun K hK => ?_
  rw [if_pos (by simp [Region.wanted, hg])]
  refine ⟨.agg vs.toArray, fun w hC => ?_, hK _ h⟩
  unfold Oper.quietAt execOp
  simp only [ho, hx, Instr.loadAt, Instr.sureAddr, Sem.run_bind, Sem.run_pure, Result.andThen_ok, run_loadVar_agg w ty d hu hd (hb w hC) hv hs]
  exact ⟨rfl, rfl⟩

theorem run_storeVar_agg (w : World) (ty : TypeId) {b off : Nat} {cs vs : List Value} (hb : Blk w b cs) (hs : (P.info? ty).map (·.size) = some vs.length) (hn : off + vs.length ≤ cs.length) (h1 : ∀ u ∈ vs, u.oneCell' = true) :
    (storeVar ty ⟨b, off, none⟩ (.agg vs.toArray)).run P w = .ok () (w.setCells b off vs) := by
  cases hq : P.info? ty with
  | none => simp [hq] at hs
  | some i =>
    have hs' : i.size = vs.length := by simpa [hq] using hs
    have hst := run_storeCells_cells (P := P) b off vs 0 w (fun j hj => by rw [hb.cell]; simp; omega) (fun j hj => hb.free _ (by omega)) h1
    simp only [Nat.add_zero] at hst
    simp [storeVar, sizeOf, typeInfo, hq, hs', Value.cells, hst]

theorem wp_store_agg (ty : TypeId) (x y : Operand) (ho : o.op = .store ty x y) {b off : Nat} (hx : a.eval x = .pointer (some ⟨b, off, none⟩)) {cs : List Value} (vs : List Value) (hy : a.eval y = .agg vs.toArray) (hb : Blk w b cs)
    (hs : (P.info? ty).map (·.size) = some vs.length) (hn : off + vs.length ≤ cs.length) (h1 : ∀ u ∈ vs, u.oneCell' = true)
    (h : ∀ w', Fr [b] w w' → Blk w' b (splice cs off vs) → w'.heap.size = w.heap.size → K (a.put o.dst undef) w') : o.wp P a w K Q := by
  unfold Oper.wp execOp
  simp only [ho, hx, hy, Instr.storeAt, Instr.sureAddr, Sem.run_bind, Sem.run_pure, Result.andThen_ok, run_storeVar_agg w ty hb hs hn h1]
  obtain ⟨h2, h3⟩ := Blk.setCells vs off hb hn
  have hsz : ∀ (vs : List Value) (off : Nat) (w : World), (w.setCells b off vs).heap.size = w.heap.size := by
    intro vs
    induction vs with
    | nil => intro _ _; rfl
    | cons v r ih => intro off w; simp only [World.setCells, ih, World.size_setCell]
  exact h _ h3 h2 (hsz _ _ _)

theorem wpList_store_agg (hg : o.guard = none) (ty : TypeId) (x y : Operand) (ho : o.op = .store ty x y) {b off : Nat} (hx : a.eval x = .pointer (some ⟨b, off, none⟩)) {cs : List Value} (vs : List Value) (hy : a.eval y = .agg vs.toArray) (hb : Blk w b cs)
    (hs : (P.info? ty).map (·.size) = some vs.length) (hn : off + vs.length ≤ cs.length) (h1 : ∀ u ∈ vs, u.oneCell' = true)
    (h : ∀ w', Fr [b] w w' → Blk w' b (splice cs off vs) → w'.heap.size = w.heap.size → wpList P ops Q rest (a.put o.dst undef) w') : wpList P ops Q (o :: rest) a w :=
  wpList_plain hg fun _ hK => wp_store_agg ty x y ho hx vs hy hb hs hn h1 fun w' h2 h3 h4 => hK _ _ (h w' h2 h3 h4)

/-! ### Strings and bytes -/
theorem bytesRow_toList (s : ByteArray) (cap : Nat) : (bytesRow s cap).toList = bv s.data.toList ++ List.replicate (cap - s.size) (bt 0) := by
  simp [bytesRow, bv, bt]

/-- '[]byte(s)': a new block. -/
theorem wp_bytes_of_string (src dst e : TypeId) (x : Operand) (ho : o.op = .convert src dst x) (s : ByteArray) (hx : a.eval x = .string s)
    (hs : P.underlying src = some .string) (hd : P.underlying dst = some (.slice e)) (he : P.underlying e = some (.int .u8))
    (h : ∀ w' cap, Fr [] w w' → w.heap.size < w'.heap.size → Blk w' w.heap.size (bv s.data.toList ++ List.replicate (cap - s.size) (bt 0)) → s.size ≤ cap →
      K (a.put o.dst (.slice (some ⟨w.heap.size, 0, none⟩) s.size cap)) w') : o.wp P a w K Q := by
  unfold Oper.wp execOp
  simp only [ho, hx, Sem.run_bind, run_bytes_of_string w src dst e s hs hd he, Result.andThen_ok, Sem.run_pure]
  refine h _ _ ?_ (by simp) ?_ (grownCap_ge w s.size 0 e)
  · exact ((Fr.refl [] w).drew).alloc _
  · refine ⟨e, _, by rw [← bytesRow_toList]; exact heap_alloc_new w.drew _, fun i hi => ?_⟩
    rw [← bytesRow_toList, Array.length_toList] at hi
    have : ¬ ((bytesRow s (grownCap w s.size 0 e)).size ≤ i) := by omega
    simp [this]

theorem wpList_bytes_of_string (hg : o.guard = none) (src dst e : TypeId) (x : Operand) (ho : o.op = .convert src dst x) (s : ByteArray) (hx : a.eval x = .string s)
    (hs : P.underlying src = some .string) (hd : P.underlying dst = some (.slice e)) (he : P.underlying e = some (.int .u8))
    (h : ∀ w' cap, Fr [] w w' → w.heap.size < w'.heap.size → Blk w' w.heap.size (bv s.data.toList ++ List.replicate (cap - s.size) (bt 0)) → s.size ≤ cap →
      wpList P ops Q rest (a.put o.dst (.slice (some ⟨w.heap.size, 0, none⟩) s.size cap)) w') : wpList P ops Q (o :: rest) a w :=
  wpList_plain hg fun _ hK => wp_bytes_of_string src dst e x ho s hx hs hd he fun w' cap h1 h2 h3 h4 => hK _ _ (h w' cap h1 h2 h3 h4)

/-- 'string(b)', the bytes l. -/
theorem run_string_of_bytes (w : World) (src dst e : TypeId) {b off : Nat} {cs : List Value} (hb : Blk w b cs) (l : List UInt8) (cap : Nat) (hv : (cs.drop off).take l.length = bv l)
    (hs : P.underlying src = some (.slice e)) (he : P.underlying e = some (.int .u8)) (hd : P.underlying dst = some .string) :
    (convert src dst (.slice (some ⟨b, off, none⟩) l.length cap)).run P w = .ok (.string ⟨l.toArray⟩) w :=
  run_convert_bytes_back w src dst e ⟨b, off, none⟩ cap l hs he hd fun j hj => hb.cells (vs := bv l) (by simpa using hv) j _ (by simp [bv, bt, hj])

theorem wp_string_of_bytes (src dst e : TypeId) (x : Operand) (ho : o.op = .convert src dst x) {b off : Nat} (n cap : Nat) (hx : a.eval x = .slice (some ⟨b, off, none⟩) n cap) {cs : List Value} (hb : Blk w b cs) (l : List UInt8) (hn : l.length = n)
    (hv : (cs.drop off).take l.length = bv l) (hs : P.underlying src = some (.slice e)) (he : P.underlying e = some (.int .u8)) (hd : P.underlying dst = some .string)
    (h : K (a.put o.dst (.string ⟨l.toArray⟩)) w) : o.wp P a w K Q := by
  subst hn
  unfold Oper.wp execOp
  simp only [ho, hx, Sem.run_bind, run_string_of_bytes w src dst e hb l cap hv hs he hd, Result.andThen_ok, Sem.run_pure]
  exact h

theorem wpList_string_of_bytes (hg : o.guard = none) (src dst e : TypeId) (x : Operand) (ho : o.op = .convert src dst x) {b off : Nat} (n cap : Nat) (hx : a.eval x = .slice (some ⟨b, off, none⟩) n cap) {cs : List Value} (hb : Blk w b cs) (l : List UInt8) (hn : l.length = n)
    (hv : (cs.drop off).take l.length = bv l) (hs : P.underlying src = some (.slice e)) (he : P.underlying e = some (.int .u8)) (hd : P.underlying dst = some .string)
    (h : wpList P ops Q rest (a.put o.dst (.string ⟨l.toArray⟩)) w) : wpList P ops Q (o :: rest) a w :=
  wpList_plain hg fun _ hK => wp_string_of_bytes src dst e x ho n cap hx hb l hn hv hs he hd (hK _ _ h)
end
end Go.Xr
