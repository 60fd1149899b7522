/- Layer 22 (great seat): a flow that came in, opened. -/
import Derived.Test.YtneoagelcjfanaaGreatDoorGDoc
import Derived.Test.YtneoagelcjfanaaGreatDoorGArgs
namespace Go.Proofs.YtneoagelcjfanaaGreatDoor.chn
open Go Go.Xr Go.RowKit Go.Proofs.YtneoagelcjfanaaGreatDoor Go.Proofs.YtneoagelcjfanaaGreatDoor.rcd
set_option linter.unusedVariables false
set_option linter.unusedSimpArgs false
theorem fu16_of {n : Int} (h : (Lit.int .u16 n).wf = true) : 0 ≤ n ∧ n ≤ 65535 := by
  have h1 : IntKind.u16.min ≤ n ∧ n ≤ IntKind.u16.max := by simpa [Lit.wf] using h
  have h2 : IntKind.u16.min = 0 := by decide
  have h3 : IntKind.u16.max = 65535 := by decide
  omega
theorem fi64_of {n : Int} (h : (Lit.int .i64 n).wf = true) : -9223372036854775808 ≤ n ∧ n ≤ 9223372036854775807 := by
  have h1 : IntKind.i64.min ≤ n ∧ n ≤ IntKind.i64.max := by simpa [Lit.wf] using h
  have h2 : IntKind.i64.min = -9223372036854775808 := by decide
  have h3 : IntKind.i64.max = 9223372036854775807 := by decide
  omega
open Go.ChangeShapes Go.WideShapes Go.ChangeAt Go.Deep in
theorem fopen_u16s {H : Type} {enc : TypeId × Value → H} {P : Program} {w : World} {base : Nat} {spare : Nat → Bool} {held : Bool} {t e : TypeId} (ht : P.underlying t = some (.slice e)) (he : P.underlying e = some (.int .u16)) (hC : P.cellsOf e = 1) {fuel : Nat} {cs : List Value} {x : DataW H × List MemPlace} (h : DataW.trod enc P w base spare held fuel t cs = some x) :
    ∃ (v : Value) (l : List Int) (B : Option Nat), cs = [v] ∧ Rc w 1 v l.length (l.map (.int .u16)) B ∧ (∀ x ∈ l, 0 ≤ x ∧ x ≤ 65535) ∧ l.length ≤ maxLen := by
  obtain ⟨v, l, B, h1, h2, h4, h3⟩ := open_rows (α := Int) (fun a => [.int .u16 a]) (fun x => 0 ≤ x ∧ x ≤ 65535) 1 (by decide) (fun _ => rfl) ht hC (fun n cs x hx => by
    obtain ⟨b, hb, _, hw⟩ := DataW.trod_int he hx
    exact ⟨_, hb, fu16_of hw⟩) h
  rw [flat_one] at h2
  exact ⟨v, l, B, h1, h2, h4, h3⟩
set_option maxRecDepth 20000 in
open Go.ChangeShapes Go.WideShapes Go.ChangeAt Go.Deep in
/-- A flow that came in. -/
theorem open_flow {H : Type} {enc : TypeId × Value → H} {w : World} {base : Nat} {spare : Nat → Bool} {held : Bool} {r : Reach} {b0 : Nat} {v : Value} {d : DataW H} {p : List MemPlace} (hv : Value.okWide Tryz.prog w r b0 39 v) (h : DataW.Trod enc Tryz.prog w base spare held 39 v d p) (hw : WOk Tryz.prog 39 d) :
    ∃ (tv pv : Value) (l : List ByteArray) (ms : List Int) (LT LP : Option Nat) (at_ cut : Int) (more : ByteArray) (conn : UInt64) (sec : UInt8), v = .agg (flowV tv pv at_ cut more conn sec).toArray ∧ FL w tv pv l ms LT LP ∧ (-9223372036854775808 ≤ at_ ∧ at_ ≤ 9223372036854775807) ∧ (0 ≤ cut ∧ cut ≤ 65535) := by
  obtain ⟨cs, rfl, hsz⟩ := okWide_struct Tryz.underlying39 hv
  obtain ⟨fuel, hf⟩ := h
  obtain ⟨xs, n', _, hx, hlen, hxl, hg⟩ := DataW.trod_struct Tryz.underlying39 hf
  have hlen7 : cs.toList.length = 7 := hlen
  have hxl7 : xs.length = 7 := hxl
  obtain ⟨cl⟩ := cs
  match cl, hlen7, xs, hxl7 with
  | [c0, c1, c2, c3, c4, c5, c6], _, [x0, x1, x2, x3, x4, x5, x6], _ =>
    have hd : d = .agg [x0.1, x1.1, x2.1, x3.1, x4.1, x5.1, x6.1] := by
      have := congrArg Prod.fst hx
      simpa using this
    rw [hd] at hw
    unfold WOk at hw
    simp only [DataW.weights, Tryz.underlying39] at hw
    obtain ⟨z0, hw⟩ := weights_cons hw
    obtain ⟨z1, hw⟩ := weights_cons hw
    obtain ⟨tv, l, B, h0, g1, g2, g3, g4⟩ := open_strings_w Tryz.underlying23 Tryz.underlying9 rfl (hg 0 _ rfl) z0
    obtain ⟨pv, ms, B2, h1, u1, u2, u3⟩ := fopen_u16s Tryz.underlying36 Tryz.underlying37 rfl (hg 1 _ rfl)
    obtain ⟨n2, h2, _, w2⟩ := DataW.trod_int Tryz.underlying3 (hg 2 _ rfl)
    obtain ⟨n3, h3, _, w3⟩ := DataW.trod_int Tryz.underlying37 (hg 3 _ rfl)
    obtain ⟨s4, h4, hd4, w4⟩ := DataW.trod_string Tryz.underlying9 (hg 4 _ rfl)
    obtain ⟨n5, h5, _, w5⟩ := DataW.trod_int Tryz.underlying22 (hg 5 _ rfl)
    obtain ⟨n6, h6, _, w6⟩ := DataW.trod_int Tryz.underlying5 (hg 6 _ rfl)
    obtain ⟨x5', rfl⟩ := u64_of w5
    obtain ⟨x6', rfl⟩ := u8_of w6
    have e0 : c0 = tv := List.singleton_inj.1 h0
    have e1 : c1 = pv := List.singleton_inj.1 h1
    have e2 : c2 = .int .i64 n2 := List.singleton_inj.1 h2
    have e3 : c3 = .int .u16 n3 := List.singleton_inj.1 h3
    have e4 : c4 = .string s4 := List.singleton_inj.1 h4
    have e5 : c5 = W64 x5' := List.singleton_inj.1 h5
    have e6 : c6 = bt x6' := List.singleton_inj.1 h6
    exact ⟨tv, pv, l, ms, B, B2, n2, n3, s4, x5', x6', by rw [e0, e1, e2, e3, e4, e5, e6]; rfl, ⟨g1, g2, by unfold maxLen at g4; omega, u1, by unfold maxLen at u3; omega, u2⟩, fi64_of w2, fu16_of w3⟩
end Go.Proofs.YtneoagelcjfanaaGreatDoor.chn
