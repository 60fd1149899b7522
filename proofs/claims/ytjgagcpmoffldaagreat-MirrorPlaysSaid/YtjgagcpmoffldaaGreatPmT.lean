/- Layer 7 (great seat): the steps that come in, with their sizes. -/
import Derived.Test.YtjgagcpmoffldaaGreatPmS
namespace Go.Proofs.YtjgagcpmoffldaaGreat
open Go Go.Xr Go.RowKit Go.ChangeShapes Go.WideShapes Go.Deep
set_option linter.unusedVariables false
set_option linter.unusedSimpArgs false
structure StWide7 (w : World) (s : Step7) : Prop where
  ok : StOk7 w s
  kw : s.ks.length ≤ 140737488351232
set_option maxRecDepth 20000 in
theorem open_steps7w {H : Type} {enc : TypeId × Value → H} {w : World} {base : Nat} {spare : Nat → Bool} {held : Bool} {fuel : Nat} {cs : List Value} {x : DataW H × List MemPlace} (h : DataW.trod enc Tryz.prog w base spare held fuel 22 cs = some x) (hw : WOk Tryz.prog 22 x.1) :
    ∃ (v : Value) (l : List Step7) (B : Option Nat), cs = [v] ∧ Rc w 6 v l.length (l.flatMap stc7) B ∧ (∀ a ∈ l, StWide7 w a) ∧ True ∧ l.length ≤ maxLen := by
  have := open_rows_w stc7 (StWide7 w) 6 (by decide) stc7_len Tryz.underlying22 rfl (fun n cs x hx hwx => ?_) h hw
  · obtain ⟨v, l, B, h1, h2, h3, _, h4⟩ := this
    exact ⟨v, l, B, h1, h2, h3, trivial, h4⟩
  obtain ⟨xs, n', _, hxe, hlen, hxl, hf⟩ := DataW.trod_struct Tryz.underlying43 hx
  have hlen5 : cs.length = 6 := hlen
  have hxl5 : xs.length = 6 := hxl
  match cs, hlen5, xs, hxl5 with
  | [c0, c1, c2, c3, c4, c5], _, [x0, x1, x2, x3, x4, x5], _ =>
    have hd : x.1 = .agg [x0.1, x1.1, x2.1, x3.1, x4.1, x5.1] := by
      have := congrArg Prod.fst hxe
      simpa using this
    rw [hd] at hwx
    unfold WOk at hwx
    simp only [DataW.weights, Tryz.underlying43] at hwx
    obtain ⟨z0, hwx⟩ := weights_cons hwx
    obtain ⟨z1, hwx⟩ := weights_cons hwx
    obtain ⟨z2, hwx⟩ := weights_cons hwx
    obtain ⟨z3, hwx⟩ := weights_cons hwx
    obtain ⟨z4, hwx⟩ := weights_cons hwx
    obtain ⟨z5, hwx⟩ := weights_cons hwx
    obtain ⟨n0, h0, _, w0⟩ := DataW.trod_int Tryz.underlying3 (hf 0 _ rfl)
    obtain ⟨n1, h1, _, w1⟩ := DataW.trod_int Tryz.underlying3 (hf 1 _ rfl)
    obtain ⟨n2, h2, _, w2⟩ := DataW.trod_int Tryz.underlying3 (hf 2 _ rfl)
    obtain ⟨n3, h3, _, w3⟩ := DataW.trod_int Tryz.underlying5 (hf 3 _ rfl)
    obtain ⟨s4, h4, _, w4⟩ := DataW.trod_string Tryz.underlying9 (hf 4 _ rfl)
    obtain ⟨v5, l5, B5, h5, r5, _, b5, m5⟩ := open_rows_w (α := Bool) (fun a => [.bool a]) (fun _ => True) 1 (by decide) (fun _ => rfl) Tryz.underlying41 rfl (fun n cs x hx _ => by
      obtain ⟨b, hb, _⟩ := DataW.trod_bool Tryz.underlying4 hx
      exact ⟨b, hb, trivial⟩) (hf 5 _ rfl) z5
    rw [flat_one] at r5
    have e0 : c0 = .int .i64 n0 := List.singleton_inj.1 h0
    have e1 : c1 = .int .i64 n1 := List.singleton_inj.1 h1
    have e2 : c2 = .int .i64 n2 := List.singleton_inj.1 h2
    have e3 : c3 = .int .u8 n3 := List.singleton_inj.1 h3
    have e4 : c4 = .string s4 := List.singleton_inj.1 h4
    have e5 : c5 = v5 := List.singleton_inj.1 h5
    have hb1 : Tryz.prog.bytesOf 4 = 1 := rfl
    rw [hb1] at b5
    refine ⟨⟨n0, n1, n2, UInt8.ofNat n3.toNat, s4, v5, l5, B5⟩, ?_, ⟨⟨(i64_wf w0).1, (i64_wf w0).2, (i64_wf w1).1, (i64_wf w1).2, (i64_wf w2).1, (i64_wf w2).2, w4, r5, m5⟩, ?_⟩⟩
    · rw [e0, e1, e2, e3, e4, e5, bt_of w3]
      rfl
    · simp only
      unfold reachBytes at b5
      omega
end Go.Proofs.YtjgagcpmoffldaaGreat
