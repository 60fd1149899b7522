/- Layer 6: the steps that come in. -/
import Derived.Test.YtflapddkeeiieaaSecG
import Derived.Test.YtflapddkeeiieaaArgs
namespace Go.Proofs.Ytflapddkeeiieaa
open Go Go.Xr Go.RowKit Go.ChangeShapes Go.WideShapes Go.Deep
set_option linter.unusedVariables false
set_option linter.unusedSimpArgs false

/-- A step, as data; 'Keep' is the slice as it lies, and what it holds. -/
structure StepD where
  Do : Int
  I : Int
  C : UInt8
  Text : ByteArray
  Keep : Value
  ks : List Bool
  KB : Option Nat
instance : Inhabited StepD := ⟨⟨0, 0, 0, ⟨#[]⟩, .slice none 0 0, [], none⟩⟩

def stc (s : StepD) : List Value := [.int .i64 s.Do, .int .i64 s.I, bt s.C, .string s.Text, s.Keep]
structure StOk (w : World) (s : StepD) : Prop where
  d1 : -9223372036854775808 ≤ s.Do
  d2 : s.Do ≤ 9223372036854775807
  i1 : -9223372036854775808 ≤ s.I
  i2 : s.I ≤ 9223372036854775807
  t : s.Text.size ≤ maxLen
  k : Rc w 1 s.Keep s.ks.length (s.ks.map .bool) s.KB
  kl : s.ks.length ≤ maxLen

theorem stc_len (a : StepD) : (stc a).length = 5 := rfl

/-- The steps that came in, opened. -/
theorem open_steps {H : Type} {enc : TypeId × Value → H} {w : World} {base : Nat} {spare : Nat → Bool} {held : Bool} {fuel : Nat} {cs : List Value} {x : DataW H × List MemPlace} (h : DataW.trod enc Try.prog w base spare held fuel 22 cs = some x) :
    ∃ (v : Value) (l : List StepD) (B : Option Nat), cs = [v] ∧ Rc w 5 v l.length (l.flatMap stc) B ∧ (∀ a ∈ l, StOk w a) ∧ l.length ≤ maxLen := by
  refine open_rows stc (StOk w) 5 (by decide) stc_len Try.underlying22 rfl (fun n cs x hx => ?_) h
  obtain ⟨xs, n', _, _, hlen, hxl, hf⟩ := DataW.trod_struct Try.underlying32 hx
  have hlen5 : cs.length = 5 := hlen
  have hxl5 : xs.length = 5 := hxl
  match cs, hlen5, xs, hxl5 with
  | [c0, c1, c2, c3, c4], _, [x0, x1, x2, x3, x4], _ =>
    obtain ⟨n0, h0, _, w0⟩ := DataW.trod_int Try.underlying3 (hf 0 _ rfl)
    obtain ⟨n1, h1, _, w1⟩ := DataW.trod_int Try.underlying3 (hf 1 _ rfl)
    obtain ⟨n2, h2, _, w2⟩ := DataW.trod_int Try.underlying5 (hf 2 _ rfl)
    obtain ⟨s3, h3, _, w3⟩ := DataW.trod_string Try.underlying9 (hf 3 _ rfl)
    obtain ⟨v4, l4, B4, h4, r4, m4⟩ := open_bools Try.underlying23 Try.underlying4 rfl (hf 4 _ rfl)
    have e0 : c0 = .int .i64 n0 := List.singleton_inj.1 h0
    have e1 : c1 = .int .i64 n1 := List.singleton_inj.1 h1
    have e2 : c2 = .int .u8 n2 := List.singleton_inj.1 h2
    have e3 : c3 = .string s3 := List.singleton_inj.1 h3
    have e4 : c4 = v4 := List.singleton_inj.1 h4
    refine ⟨⟨n0, n1, UInt8.ofNat n2.toNat, s3, v4, l4, B4⟩, ?_, ⟨(i64_wf w0).1, (i64_wf w0).2, (i64_wf w1).1, (i64_wf w1).2, w3, r4, m4⟩⟩
    rw [e0, e1, e2, e3, e4, bt_of w2]
    rfl

/-- A cell of a row of steps that lies in memory. -/
theorem step_cell {w : World} {v : Value} {l : List StepD} {B : Option Nat} (h : Rc w 5 v l.length (l.flatMap stc) B) (i : Nat) (hi : i < l.length) :
    ∃ b off cap, v = .slice (some ⟨b, off, none⟩) l.length cap ∧ B = some b ∧ b < w.heap.size ∧ ∀ j, j < 5 → w.cell? ⟨b, off + i * 5 + j, none⟩ = (stc l[i])[j]? := by
  obtain ⟨b, off, cap, hB, hv, h1, h2, h3, h4⟩ := h.some (by omega)
  refine ⟨b, off, cap, hv, hB, h3, fun j hj => ?_⟩
  rw [← flat_get stc 5 stc_len l i j hi hj, Nat.add_assoc]
  exact h4 _ (by rw [Go.Xr.flat_len stc 5 stc_len]; omega)

end Go.Proofs.Ytflapddkeeiieaa
