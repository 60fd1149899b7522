/- A load of one cell in a piece of a drawn region that reads what S tells. -/
import Derived.Test.YtflapddkeeiieaaDet
import Derived.Test.YtflapddkeeiieaaSlice
namespace Go.Xr
open Go Go.RowKit
set_option linter.unusedVariables false
section
variable {P : Program} {ops : Array Oper} {Q : Exit → Act → World → Prop} {S : World → Prop}
theorem run_load_one (w : World) (ty : TypeId) (d : TypeDesc) (hu : P.underlying ty = some d) (hd : aggDesc d = false) {ad : Addr} {v : Value} (hv : w.cell? ad = some v) : (loadVar ty ad).run P w = .ok v w := by
  have hagg : (isAgg ty).run P w = .ok false w := by
    unfold isAgg
    rw [Sem.run_bind, run_underlying hu w]
    cases d <;> simp_all [aggDesc]
  simp [loadVar, Sem.run_bind, hagg, load, Sem.run, hv]
theorem quiet_load_1S {a : Act} {o : Oper} {rest : List Oper} {Q' : Act → Prop} (hg : o.guard = none) (ty : TypeId) (x : Operand) (ho : o.op = .load ty x) {b off : Nat} (hx : a.eval x = .pointer (some ⟨b, off, none⟩)) (v : Value)
    (hv : ∀ w, S w → w.cell? ⟨b, off, none⟩ = some v) (d : TypeDesc) (hu : P.underlying ty = some d) (hd : aggDesc d = false)
    (h : wpQuiet P ops S Q' rest (a.put o.dst v)) : wpQuiet P ops S Q' (o :: rest) a := by
  refine wpQuiet_step fun K hK => ?_
  rw [if_pos (by simp [Region.wanted, hg])]
  refine ⟨v, fun w hC => ?_, hK _ h⟩
  unfold Oper.quietAt execOp
  simp only [ho, hx, Instr.loadAt, Instr.sureAddr, Sem.run_bind, Sem.run_pure, Result.andThen_ok, run_load_one w ty d hu hd (hv w hC)]
  exact ⟨rfl, rfl⟩
/-- A guarded load of an aggregate, when it is wanted. -/
theorem quiet_load_aggW {a : Act} {o : Oper} {rest : List Oper} {Q' : Act → Prop} (hg : Region.wanted o (yielded ops a.tmps) = true) (ty : TypeId) (x : Operand) (ho : o.op = .load ty x) {b off : Nat} (hx : a.eval x = .pointer (some ⟨b, off, none⟩)) {cs : List Value} (vs : List Value)
    (hb : ∀ w, S w → Blk w b cs) (d : TypeDesc) (hu : P.underlying ty = some d) (hd : aggDesc d = true) (hs : (P.info? ty).map (·.size) = some vs.length) (hv : (cs.drop off).take vs.length = vs)
    (h : wpQuiet P ops S Q' rest (a.put o.dst (.agg vs.toArray))) : wpQuiet P ops S Q' (o :: rest) a := by
  refine wpQuiet_step fun K hK => ?_
  rw [if_pos hg]
  refine ⟨.agg vs.toArray, fun w hC => ?_, hK _ h⟩
  unfold Oper.quietAt execOp
  simp only [ho, hx, Instr.loadAt, Instr.sureAddr, Sem.run_bind, Sem.run_pure, Result.andThen_ok, run_loadVar_agg w ty d hu hd (hb w hC) hv hs]
  exact ⟨rfl, rfl⟩
/-- 's[l:h]', whatever it is. -/
theorem quiet_slice_v {a : Act} {o : Oper} {rest : List Oper} {Q' : Act → Prop} (hg : o.guard = none) (t : TypeId) (x : Operand) (lo hi : Option Operand) (ho : o.op = .slice t x lo hi none) (xv : Value) (hx : a.eval x = xv) (lv hv : Option Value) (hlo : lo.map a.eval = lv) (hhi : hi.map a.eval = hv) (v : Value)
    (hr : ∀ w, S w → (Instr.sliceAt t xv lv hv none).run P w = .ok v w) (h : wpQuiet P ops S Q' rest (a.put o.dst v)) : wpQuiet P ops S Q' (o :: rest) a := by
  refine wpQuiet_step fun K hK => ?_
  rw [if_pos (by simp [Region.wanted, hg])]
  refine ⟨v, fun w hC => ?_, hK _ h⟩
  unfold Oper.quietAt execOp
  simp only [ho, hx, hlo, hhi, Option.map_none, Sem.run_bind, Sem.run_pure, Result.andThen_ok, hr w hC]
  exact ⟨rfl, rfl⟩
/-- The same, guarded. -/
theorem quiet_slice_vW {a : Act} {o : Oper} {rest : List Oper} {Q' : Act → Prop} (hg : Region.wanted o (yielded ops a.tmps) = true) (t : TypeId) (x : Operand) (lo hi : Option Operand) (ho : o.op = .slice t x lo hi none) (xv : Value) (hx : a.eval x = xv) (lv hv : Option Value) (hlo : lo.map a.eval = lv) (hhi : hi.map a.eval = hv) (v : Value)
    (hr : ∀ w, S w → (Instr.sliceAt t xv lv hv none).run P w = .ok v w) (h : wpQuiet P ops S Q' rest (a.put o.dst v)) : wpQuiet P ops S Q' (o :: rest) a := by
  refine wpQuiet_step fun K hK => ?_
  rw [if_pos hg]
  refine ⟨v, fun w hC => ?_, hK _ h⟩
  unfold Oper.quietAt execOp
  simp only [ho, hx, hlo, hhi, Option.map_none, Sem.run_bind, Sem.run_pure, Result.andThen_ok, hr w hC]
  exact ⟨rfl, rfl⟩
/-- A conversion, whatever it is. -/
theorem quiet_conv_v {a : Act} {o : Oper} {rest : List Oper} {Q' : Act → Prop} (hg : Region.wanted o (yielded ops a.tmps) = true) (src dst : TypeId) (x : Operand) (ho : o.op = .convert src dst x) (xv : Value) (hx : a.eval x = xv) (v : Value)
    (hr : ∀ w, S w → (convert src dst xv).run P w = .ok v w) (h : wpQuiet P ops S Q' rest (a.put o.dst v)) : wpQuiet P ops S Q' (o :: rest) a := by
  refine wpQuiet_step fun K hK => ?_
  rw [if_pos hg]
  refine ⟨v, fun w hC => ?_, hK _ h⟩
  unfold Oper.quietAt execOp
  simp only [ho, hx, Sem.run_bind, Sem.run_pure, Result.andThen_ok, hr w hC]
  exact ⟨rfl, rfl⟩
theorem run_string_of_own (w : World) (src dst e : TypeId) {v : Value} {n : Nat} {l : List UInt8} {b : Nat} (hv : Xr.Own w 1 v n (bv l) (some b)) (hs : P.underlying src = some (.slice e)) (he : P.underlying e = some (.int .u8)) (hd : P.underlying dst = some .string) :
    (convert src dst v).run P w = .ok (.string ⟨l.toArray⟩) w := by
  have hl : l.length = n := by have := hv.1; rw [bv_length] at this; omega
  rcases hv.2 with ⟨_, _, h⟩ | ⟨b', cap, cs, hB, rfl, h1, h2, h3, h4, h5⟩
  · cases h
  · have := run_string_of_bytes (P := P) w src dst e h3 l cap (by rw [List.drop_zero, hl, ← h5, Nat.mul_one]) hs he hd
    rw [hl] at this
    exact this
theorem run_slice_s (w : World) (t : TypeId) (ht : P.underlying t = some .string) (s : ByteArray) (kl kh : IntKind) (li hi' : Int) (l h : Nat) (hl : li = l) (hh : hi' = h) (h1 : l ≤ h) (h2 : h ≤ s.size) :
    (Instr.sliceAt t (.string s) (some (.int kl li)) (some (.int kh hi')) none).run P w = .ok (.string (s.extract l h)) w := by
  subst hl
  subst hh
  have hu : (underlying t).run P w = .ok .string w := run_underlying ht w
  simp [Instr.sliceAt, hu, Instr.slice, Instr.sliceBounds, run_sliceBound, Sem.run_bind, h1, h2]
theorem run_slice_sh (w : World) (t : TypeId) (ht : P.underlying t = some .string) (s : ByteArray) (kh : IntKind) (hi' : Int) (h : Nat) (hh : hi' = h) (h2 : h ≤ s.size) :
    (Instr.sliceAt t (.string s) none (some (.int kh hi')) none).run P w = .ok (.string (s.extract 0 h)) w := by
  subst hh
  have hu : (underlying t).run P w = .ok .string w := run_underlying ht w
  simp [Instr.sliceAt, hu, Instr.slice, Instr.sliceBounds, run_sliceBound, Sem.run_bind, h2]
theorem run_slice_sl (w : World) (t : TypeId) (ht : P.underlying t = some .string) (s : ByteArray) (kl : IntKind) (li : Int) (l : Nat) (hl : li = l) (h1 : l ≤ s.size) :
    (Instr.sliceAt t (.string s) (some (.int kl li)) none none).run P w = .ok (.string (s.extract l s.size)) w := by
  subst hl
  have hu : (underlying t).run P w = .ok .string w := run_underlying ht w
  simp [Instr.sliceAt, hu, Instr.slice, Instr.sliceBounds, run_sliceBound, Sem.run_bind, h1]
end
end Go.Xr
