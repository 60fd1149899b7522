/- Rows that are read: a window of one; a row of a block; a slice built of values. -/
import Derived.Test.YtflapddkeeiieaaAppR
import Derived.Test.YtflapddkeeiieaaAppS
namespace Go.Xr
open Go Go.RowKit
set_option linter.unusedVariables false
section
variable {P : Program} {ops : Array Oper} {Q : Exit → Act → World → Prop} {a : Act} {w : World} {K : Act → World → Prop} {rest : List Oper} {o : Oper}
theorem wpList_buildSlice_r (hg : o.guard = none) (t : TypeId) (n : Nat) (ps : Array (Nat × Operand)) (ho : o.op = .buildSlice t n ps) (e : TypeId) (hu : P.underlying t = some (.slice e)) (i : TypeInfo) (z : Value) (hi : P.info? e = some i) (hz : i.zero = some z) (hzs : z.cells.size = 1)
    (hs : i.size = 1) (hn : n ≤ 16777216) (hn0 : 0 < n) (hidx : ps.toList.map (·.1) = List.range n) (vs : List Value) (hvs : ps.toList.map (fun p => a.eval p.2) = vs) (h1 : ∀ v ∈ vs, v.oneCell' = true)
    (h : ∀ w', Fr [] w w' → w.heap.size < w'.heap.size → Blk w' w.heap.size vs → wpList P ops Q rest (a.put o.dst (.slice (some ⟨w.heap.size, 0, none⟩) n n)) w') : wpList P ops Q (o :: rest) a w :=
  wpList_buildSlice_ones hg t n ps ho e hu i z hi hz hzs hs hn hn0 hidx vs hvs h1 fun hb => h _ ((Fr.refl [] w).alloc _) (by simp) hb
theorem rc_blk {w : World} {b n : Nat} {xs : List Value} (hb : Blk w b xs) (hn : xs.length = n) (hm : n ≤ maxLen) : Rc w 1 (.slice (some ⟨b, 0, none⟩) n n) n xs (some b) := by
  refine ⟨by omega, fun c hc => by cases hc; exact hb.lt, _, _, rfl, Nat.le_refl _, hm, fun _ => ⟨b, 0, rfl, rfl, fun j hj => ?_⟩⟩
  rw [hb.cell, Nat.zero_add]
/-- s[l:k], s[l:k:k] of a row that is read. -/
theorem rc_lh (t e : TypeId) (ht : P.underlying t = some (.slice e)) (hs : (P.info? e).map (·.size) = some 1) {v : Value} {n : Nat} {xs : List Value} {B : Option Nat} (hr : Rc w 1 v n xs B) (l k : Nat) (h1 : l ≤ k) (h2 : k ≤ n) :
    ∃ v', (∀ (w0 : World) (kl kh : IntKind), (Instr.sliceAt t v (some (.int kl (l : Int))) (some (.int kh (k : Int))) none).run P w0 = .ok v' w0) ∧ Rc w 1 v' (k - l) ((xs.drop l).take (k - l)) B := by
  obtain ⟨hl, hB, ad, c, rfl, hc, hm, h6⟩ := hr
  refine ⟨.slice (if c = l then ad else ad.map (·.add (l * 1))) (k - l) (c - l), fun w0 kl kh => ?_, ?_⟩
  · cases hq : P.info? e with
    | none => simp [hq] at hs
    | some i =>
      have hs1 : i.size = 1 := by simpa [hq] using hs
      have h3 : (l : Int) ≤ (k : Int) := by omega
      have h4 : (0 : Int) ≤ (l : Int) := by omega
      have h5 : (k : Int) ≤ (c : Int) := by omega
      have h7 : (0 : Int) ≤ (k : Int) := by omega
      simp [Instr.sliceAt, Instr.slice, run_underlying ht, Instr.sliceBounds, run_sliceBound, h3, h4, h5, h7, sizeOf, typeInfo, hq, hs1]
  · refine ⟨by rw [List.length_take, List.length_drop, hl]; omega, hB, _, _, rfl, by omega, by omega, fun hk0 => ?_⟩
    obtain ⟨b, off, hB', ha, hcs⟩ := h6 (by omega)
    refine ⟨b, off + l, hB', ?_, fun j hj => ?_⟩
    · rw [if_neg (by omega), ha, Option.map_some, Nat.mul_one]
      refine congrArg some ?_
      unfold Addr.add
      split <;> simp_all
    · rw [List.length_take, List.length_drop] at hj
      rw [List.getElem?_take, if_pos (by omega), List.getElem?_drop, Nat.add_assoc, hcs (l + j) (by omega)]
theorem rc_lhm (t e : TypeId) (ht : P.underlying t = some (.slice e)) (hs : (P.info? e).map (·.size) = some 1) {v : Value} {n : Nat} {xs : List Value} {B : Option Nat} (hr : Rc w 1 v n xs B) (l k : Nat) (h1 : l ≤ k) (h2 : k ≤ n) :
    ∃ v', (∀ (w0 : World) (kl kh km : IntKind), (Instr.sliceAt t v (some (.int kl (l : Int))) (some (.int kh (k : Int))) (some (.int km (k : Int)))).run P w0 = .ok v' w0) ∧ (∀ w1, Fr [] w w1 → Rc w1 1 v' (k - l) ((xs.drop l).take (k - l)) B) := by
  obtain ⟨hl, hB, ad, c, rfl, hc, hm, h6⟩ := id hr
  refine ⟨.slice (if k = l then ad else ad.map (·.add (l * 1))) (k - l) (k - l), fun w0 kl kh km => ?_, fun w1 f1 => ?_⟩
  · cases hq : P.info? e with
    | none => simp [hq] at hs
    | some i =>
      have hs1 : i.size = 1 := by simpa [hq] using hs
      have h3 : (l : Int) ≤ (k : Int) := by omega
      have h4 : (0 : Int) ≤ (l : Int) := by omega
      have h5 : (k : Int) ≤ (c : Int) := by omega
      have h7 : (0 : Int) ≤ (k : Int) := by omega
      simp [Instr.sliceAt, Instr.slice, run_underlying ht, Instr.sliceBounds, run_sliceBound, h3, h4, h5, h7, sizeOf, typeInfo, hq, hs1]
  · refine Rc.keep (w := w) ?_ f1 (by simp)
    refine ⟨by rw [List.length_take, List.length_drop, hl]; omega, hB, _, _, rfl, by omega, by omega, fun hk0 => ?_⟩
    obtain ⟨b, off, hB', ha, hcs⟩ := h6 (by omega)
    refine ⟨b, off + l, hB', ?_, fun j hj => ?_⟩
    · rw [if_neg (by omega), ha, Option.map_some, Nat.mul_one]
      refine congrArg some ?_
      unfold Addr.add
      split <;> simp_all
    · rw [List.length_take, List.length_drop] at hj
      rw [List.getElem?_take, if_pos (by omega), List.getElem?_drop, Nat.add_assoc, hcs (l + j) (by omega)]
/-- A load of one cell, guarded. -/
theorem quiet_load_1R {S : World → Prop} {Q' : Act → Prop} (hg : Region.wanted o (yielded ops a.tmps) = true) (ty : TypeId) (x : Operand) (ho : o.op = .load ty x) {b off : Nat} (hx : a.eval x = .pointer (some ⟨b, off, none⟩)) (v : Value)
    (hv : ∀ w, S w → w.cell? ⟨b, off, none⟩ = some v) (d : TypeDesc) (hu : P.underlying ty = some d) (hd : aggDesc d = false)
    (h : wpQuiet P ops S Q' rest (a.put o.dst v)) : wpQuiet P ops S Q' (o :: rest) a := by
  refine wpQuiet_step fun K hK => ?_
  rw [if_pos hg]
  refine ⟨v, fun w hC => ?_, hK _ h⟩
  unfold Oper.quietAt execOp
  simp only [ho, hx, Instr.loadAt, Instr.sureAddr, Sem.run_bind, Sem.run_pure, Result.andThen_ok, run_load_one w ty d hu hd (hv w hC)]
  exact ⟨rfl, rfl⟩
/-- A result that lies in one cell. -/
theorem results_cell_1 {fn : Func} {p : Tmp} {ty : TypeId} (h : fn.results = #[.cell p ty]) (tmps : Array Value) (w : World) {b : Nat} {v : Value} (hp : tmps.getD p undef = .pointer (some ⟨b, 0, none⟩)) (hv : w.cell? ⟨b, 0, none⟩ = some v) (d : TypeDesc)
    (hu : P.underlying ty = some d) (hd : aggDesc d = false) : (results fn tmps).run P w = .ok v w := by
  have hr := run_load_one w ty d hu hd hv
  have hp' : tmps[p]?.getD undef = .pointer (some ⟨b, 0, none⟩) := by simpa using hp
  simp [results, h, hp', asAddr, hr]
/-- Element i of a row of texts. -/
theorem rc_elem {ad : Option Addr} {n c i : Nat} {l : List ByteArray} {B : Option Nat} (h : Rc w 1 (.slice ad n c) n (l.map .string) B) (hi : i < n) :
    ∃ lb off, ad = some ⟨lb, off, none⟩ ∧ B = some lb ∧ lb < w.heap.size ∧ ∃ (h : i < l.length), w.cell? ⟨lb, off + i, none⟩ = some (.string l[i]) := by
  have hn : l.length = n := by have := h.1; simpa using this
  obtain ⟨b, off, c', hB, hv, h1, h2, h3, h4⟩ := h.some (by omega)
  obtain ⟨rfl, rfl⟩ : ad = some ⟨b, off, none⟩ ∧ c = c' := by simpa using hv
  refine ⟨b, off, rfl, hB, h3, by omega, ?_⟩
  rw [h4 i (by simp; omega), List.getElem?_map, List.getElem?_eq_getElem (by omega)]
  rfl
end
end Go.Xr
