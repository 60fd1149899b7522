/- Layer 21, record: turns, as they come in. -/
import Derived.Test.YtgbkbhklgbjgmaaRecQ
import Derived.Test.YtgbkbhklgbjgmaaGArgs
namespace Go.Xr
open Go Go.RowKit
set_option linter.unusedVariables false
section
variable {P : Program} {ops : Array Oper} {S : World → Prop}
/-- A load of one cell, guarded. -/
theorem quiet_load_1W {a : Act} {o : Oper} {rest : List Oper} {Q' : Act → Prop} (hg : Region.wanted o (yielded ops a.tmps) = true) (ty : TypeId) (x : Operand) (ho : o.op = .load ty x) {b off : Nat} (hx : a.eval x = .pointer (some ⟨b, off, none⟩)) (v : Value)
    (hv : ∀ w, S w → w.cell? ⟨b, off, none⟩ = some v) (d : TypeDesc) (hu : P.underlying ty = some d) (hd : aggDesc d = false)
    (h : wpQuiet P ops S Q' rest (a.put o.dst v)) : wpQuiet P ops S Q' (o :: rest) a := by
  refine wpQuiet_step fun K hK => ?_
  rw [if_pos hg]
  refine ⟨v, fun w hC => ?_, hK _ h⟩
  unfold Oper.quietAt execOp
  simp only [ho, hx, Instr.loadAt, Instr.sureAddr, Sem.run_bind, Sem.run_pure, Result.andThen_ok, run_load_one w ty d hu hd (hv w hC)]
  exact ⟨rfl, rfl⟩
end
theorem rc_at {w : World} {la : Option Addr} {n lc i : Nat} {l : List ByteArray} {B : Option Nat} (h : Rc w 1 (.slice la n lc) n (l.map .string) B) (hi : i < n) :
    ∃ lb off, la = some ⟨lb, off, none⟩ ∧ B = some lb ∧ lb < w.heap.size ∧ ∃ (h : i < l.length), w.cell? ⟨lb, off + i, none⟩ = some (.string l[i]) := by
  have hn : l.length = n := by have := h.1; simpa using this
  obtain ⟨b, off, c, hB, hv, h1, h2, h3, h4⟩ := h.some (by omega)
  obtain ⟨rfl, rfl⟩ : la = some ⟨b, off, none⟩ ∧ lc = c := by simpa using hv
  refine ⟨b, off, rfl, hB, h3, by omega, ?_⟩
  rw [h4 i (by simp; omega), List.getElem?_map, List.getElem?_eq_getElem (by omega)]
  rfl
end Go.Xr
namespace Go.Proofs.Ytgbkbhklgbjgmaa.rcd
open Go Go.Xr Go.RowKit Go.ChangeShapes Go.WideShapes Go.Deep
set_option linter.unusedVariables false
set_option linter.unusedSimpArgs false
structure TurnD where
  Do : Int
  N : Int
  At : Int
  By : UInt8
  Text : ByteArray
instance : Inhabited TurnD := ⟨⟨0, 0, 0, 0, ⟨#[]⟩⟩⟩
def tnc (t : TurnD) : List Value := [.int .i64 t.Do, .int .i64 t.N, .int .i64 t.At, bt t.By, .string t.Text]
structure TnOk (t : TurnD) : Prop where
  n1 : -9223372036854775808 ≤ t.N
  n2 : t.N ≤ 9223372036854775807
  a1 : -9223372036854775808 ≤ t.At
  a2 : t.At ≤ 9223372036854775807
  x : t.Text.size ≤ 9223372036854775807
theorem tnc_len (a : TurnD) : (tnc a).length = 5 := rfl
theorem i64_of {n : Int} (h : (Lit.int .i64 n).wf = true) : -9223372036854775808 ≤ n ∧ n ≤ 9223372036854775807 := by
  have h1 : IntKind.i64.min ≤ n ∧ n ≤ IntKind.i64.max := by simpa [Lit.wf] using h
  have h2 : IntKind.i64.min = -9223372036854775808 := by decide
  have h3 : IntKind.i64.max = 9223372036854775807 := by decide
  omega
set_option maxRecDepth 20000 in
theorem open_turns {H : Type} {enc : TypeId × Value → H} {w : World} {base : Nat} {spare : Nat → Bool} {held : Bool} {fuel : Nat} {cs : List Value} {x : DataW H × List MemPlace} (h : DataW.trod enc Try.prog w base spare held fuel 42 cs = some x) :
    ∃ (v : Value) (l : List TurnD) (B : Option Nat), cs = [v] ∧ Rc w 5 v l.length (l.flatMap tnc) B ∧ (∀ a ∈ l, TnOk a) ∧ l.length ≤ maxLen := by
  refine open_rows tnc TnOk 5 (by decide) tnc_len Try.underlying42 rfl (fun n cs x hx => ?_) h
  obtain ⟨xs, n', _, _, hlen, hxl, hf⟩ := DataW.trod_struct Try.underlying45 hx
  have hlen5 : cs.length = 5 := hlen
  have hxl5 : xs.length = 5 := hxl
  match cs, hlen5, xs, hxl5 with
  | [c0, c1, c2, c3, c4], _, [x0, x1, x2, x3, x4], _ =>
    obtain ⟨n0, h0, _, w0⟩ := DataW.trod_int Try.underlying3 (hf 0 _ rfl)
    obtain ⟨n1, h1, _, w1⟩ := DataW.trod_int Try.underlying3 (hf 1 _ rfl)
    obtain ⟨n2, h2, _, w2⟩ := DataW.trod_int Try.underlying3 (hf 2 _ rfl)
    obtain ⟨n3, h3, _, w3⟩ := DataW.trod_int Try.underlying5 (hf 3 _ rfl)
    obtain ⟨s4, h4, _, w4⟩ := DataW.trod_string Try.underlying9 (hf 4 _ rfl)
    have e0 : c0 = .int .i64 n0 := List.singleton_inj.1 h0
    have e1 : c1 = .int .i64 n1 := List.singleton_inj.1 h1
    have e2 : c2 = .int .i64 n2 := List.singleton_inj.1 h2
    have e3 : c3 = .int .u8 n3 := List.singleton_inj.1 h3
    have e4 : c4 = .string s4 := List.singleton_inj.1 h4
    refine ⟨⟨n0, n1, n2, UInt8.ofNat n3.toNat, s4⟩, ?_, ⟨(i64_of w1).1, (i64_of w1).2, (i64_of w2).1, (i64_of w2).2, by unfold maxLen at w4; exact w4⟩⟩
    rw [e0, e1, e2, e3, e4, bt_of w3]
    rfl
theorem turn_at {w : World} {ua : Option Addr} {n uc i : Nat} {l : List TurnD} {B : Option Nat} (h : Rc w 5 (.slice ua n uc) n (l.flatMap tnc) B) (hn : l.length = n) (hi : i < n) :
    ∃ b off, ua = some ⟨b, off, none⟩ ∧ ∃ (h : i < l.length), ∀ j, j < 5 → w.cell? ⟨b, off + i * 5 + j, none⟩ = (tnc l[i])[j]? := by
  obtain ⟨b, off, c, hB, hv, h1, h2, h3, h4⟩ := h.some (by omega)
  obtain ⟨rfl, rfl⟩ : ua = some ⟨b, off, none⟩ ∧ uc = c := by simpa using hv
  refine ⟨b, off, rfl, by omega, fun j hj => ?_⟩
  rw [← flat_get tnc 5 tnc_len l i j (by omega) hj, Nat.add_assoc]
  exact h4 _ (by rw [Go.Xr.flat_len tnc 5 tnc_len]; omega)
set_option maxRecDepth 20000 in
theorem tnAT : AggT Try.prog 45 5 := ⟨_, Try.underlying45, rfl, rfl⟩
end Go.Proofs.Ytgbkbhklgbjgmaa.rcd
