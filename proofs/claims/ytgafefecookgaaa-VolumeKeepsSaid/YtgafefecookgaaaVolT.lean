/- Layer 8: a sound volume's calls; the steps that come in. -/
import Derived.Test.YtgafefecookgaaaVolS
import Derived.Test.YtgafefecookgaaaGArgs
namespace Go.Proofs.Ytgafefecookgaaa
open Go Go.Xr Go.RowKit Go.ChangeShapes Go.WideShapes Go.Deep
set_option linter.unusedVariables false
set_option linter.unusedSimpArgs false
section
variable {w w' w0 : World} {l rs : List Res} {X : VX} {Ms : List MS} {wt : Int} {n t q bd : Nat} {M : MS} {Ns : Nat → List ByteArray}
theorem pl_q {n t q : Nat} (hn : 0 < n) (ht : 3 * n = t) (hq : q < t) : plC n 3 (q : Int) = 0 ∧ plP n 3 (q : Int) = q % n ∧ plA n 3 (q : Int) = q / n ∧ q % n < n ∧ q / n < 3 := by
  have h : 0 ≤ (q : Int) ∧ (q : Int) < ((3 * n : Nat) : Int) := by omega
  refine ⟨?_, ?_, ?_, Nat.mod_lt _ hn, div_lt3 hn ht hq⟩
  · unfold plC; rw [if_pos h]
  · unfold plP; rw [if_pos h, Int.toNat_natCast]
  · unfold plA; rw [if_pos h, Int.toNat_natCast]
theorem vread_snd (h : VA w0 rs w l X Ms wt) (o : VOk X) (hn : X.ms.length = n) (he : X.e = 3) (hA : AllOk bd Ns Ms) (hN : NsOk Ns) (hb : bd < 998900) (ht : 3 * n = t) (hq : q < t) :
    Calls Try.prog 14 #[.pointer (some ⟨X.vb, 0, none⟩), .int .i64 (q : Int)] w fun r w' => r = .returned (.tuple #[.string (vnowAt n Ns q), .int .i64 0]) ∧ VA w0 rs w' l X Ms wt := by
  have hn0 : 0 < n := by have := o.h1; omega
  obtain ⟨p1, p2, p3, p4, p5⟩ := pl_q hn0 ht hq
  have hk : Ms[q % n]? = some (Ms[q % n]'(by rw [h.len.1, hn]; exact p4)) := List.getElem?_eq_getElem _
  generalize (Ms[q % n]'(by rw [h.len.1, hn]; exact p4)) = M at hk
  have g := hA _ M hk
  have hlt : q / n < (Ns (q % n)).length := by rw [(hN _).1]; exact p5
  have hr := vread_in (k := q % n) (a := q / n) h o (q : Int) (by rw [hn, he]; exact p1) (by rw [hn, he]; exact p2) (by rw [hn, he]; exact p3) hk g.ok (by have := g.T; omega)
  rw [snd_rd g.snd hlt, set_same _ _ _ hk] at hr
  have e : vnowAt n Ns q = (Ns (q % n))[q / n] := by unfold vnowAt; rw [List.getElem?_eq_getElem hlt]; rfl
  rw [e]
  exact hr
theorem vwrite_snd (h : VA w0 rs w l X Ms wt) (o : VOk X) (hn : X.ms.length = n) (he : X.e = 3) (hA : AllOk bd Ns Ms) (hN : NsOk Ns) (hb : bd < 998900) (ht : 3 * n = t) (hq : q < t) {S : ByteArray} (hS : S.size = 512) (hw0 : 0 ≤ wt) (hw1 : wt ≤ 1000000) :
    Calls Try.prog 17 #[.pointer (some ⟨X.vb, 0, none⟩), .int .i64 (q : Int), .string S] w fun r w' => r = .returned (.int .i64 0) ∧ ∃ Ms', AllF (bd + 12) (updN Ns (q % n) ((Ns (q % n)).set (q / n) S)) Ms' ∧ VA w0 rs w' l X Ms' (wt + 1) := by
  have hn0 : 0 < n := by have := o.h1; omega
  obtain ⟨p1, p2, p3, p4, p5⟩ := pl_q hn0 ht hq
  have hk : Ms[q % n]? = some (Ms[q % n]'(by rw [h.len.1, hn]; exact p4)) := List.getElem?_eq_getElem _
  generalize (Ms[q % n]'(by rw [h.len.1, hn]; exact p4)) = M at hk
  have g := hA _ M hk
  have hlt : q / n < (Ns (q % n)).length := by rw [(hN _).1]; exact p5
  obtain ⟨z1, z2⟩ := AllOk.write hA hk hlt hS
  have hr := vwrite_in (k := q % n) (a := q / n) h o (q : Int) S (by rw [hn, he]; exact p1) (by rw [hn, he]; exact p2) (by rw [hn, he]; exact p3) hk g.ok (by have := g.T; omega) (by rw [hS]; decide) hw0 hw1
  rw [z1, if_pos rfl] at hr
  refine hr.mono ?_
  rintro r w' ⟨rfl, va⟩
  exact ⟨rfl, _, z2, va⟩
theorem vflush_snd (h : VA w0 rs w l X Ms wt) (o : VOk X) (hF : AllF bd Ns Ms) (hb : bd < 998900) :
    Calls Try.prog 18 #[.pointer (some ⟨X.vb, 0, none⟩)] w fun e w' => e = .returned (.int .i64 0) ∧ ∃ Ms', AllOk (bd + 12) Ns Ms' ∧ VA w0 rs w' l X Ms' wt := by
  have hr := vflush_any h o (all_mem fun k M hk => (hF k M hk).ok) (all_mem fun k M hk => by have := (hF k M hk).T; omega)
  rw [hF.flush.1] at hr
  refine hr.mono ?_
  rintro r w' ⟨rfl, va⟩
  exact ⟨rfl, _, hF.flush.2, va⟩
theorem vresync_snd (h : VA w0 rs w l X Ms wt) (o : VOk X) (hR : AllR bd Ns Ms) (hN : NsOk Ns) (hb : bd < 998700) :
    Calls Try.prog 16 #[.pointer (some ⟨X.vb, 0, none⟩)] w fun e w' => ∃ k, e = .returned (.tuple #[.int .i64 k, .int .i64 0]) ∧ ∃ Ms', AllOk (bd + 18) Ns Ms' ∧ VA w0 rs w' l X Ms' wt := by
  have hr := vresync_any h o (all_mem fun k M hk => (hR k M hk).ok) (all_mem fun k M hk => by rw [snd_len3 (hR k M hk).snd (hN k).1]; have := (hR k M hk).T; omega)
  rw [(hR.resync hN).1] at hr
  refine hr.mono ?_
  rintro r w' ⟨rfl, va⟩
  exact ⟨_, rfl, _, (hR.resync hN).2, va⟩
end
/-- The disks of all pairs, one after the other. -/
def rowD (D0 : List (Bool → Nat)) : List Value := (((D0.flatMap fun d => [d false, d true]).map some).map pv)
theorem rowD_get : ∀ (D0 : List (Bool → Nat)) (q : Nat) (d : Bool → Nat) (b : Bool), D0[q]? = some d → (rowD D0)[2 * q + b.toNat]? = some (.pointer (some ⟨d b, 0, none⟩))
  | [], q, d, b, h => by simp at h
  | d0 :: D0, 0, d, b, h => by
    obtain rfl : d0 = d := by simpa using h
    cases b <;> rfl
  | d0 :: D0, q + 1, d, b, h => by
    have ih := rowD_get D0 q d b (by simpa using h)
    have e : rowD (d0 :: D0) = pv (some (d0 false)) :: pv (some (d0 true)) :: rowD D0 := rfl
    rw [e, show 2 * (q + 1) + b.toNat = 2 * q + b.toNat + 1 + 1 by omega]
    exact ih
theorem rowD_cell {w : World} {D0 : List (Bool → Nat)} {n B c q : Nat} {d : Bool → Nat} (h : Xr.Own w 1 (.slice (some ⟨B, 0, none⟩) (2 * n) c) (2 * n) (rowD D0) (some B)) (hn : 0 < n) (hq : D0[q]? = some d) (b : Bool) (hl : q < n) : w.cell? ⟨B, 2 * q + b.toNat, none⟩ = some (.pointer (some ⟨d b, 0, none⟩)) := by
  have hg := rowD_get D0 q d b hq
  obtain ⟨b2, off, c2, hB, hv2, _, _, _, h4⟩ := (h.rd.rc).some (by omega)
  obtain ⟨⟨rfl, rfl⟩, _⟩ : (B = b2 ∧ 0 = off) ∧ c = c2 := by simpa using hv2
  have := h4 (2 * q + b.toNat) (List.getElem?_eq_some_iff.1 hg).1
  rw [Nat.zero_add] at this
  rw [this]
  exact hg
theorem xor1 : ∀ q : Nat, q < 4 → ∀ b : Bool, bits .xor .i64 ((2 * q + b.toNat : Nat) : Int) 1 = ((2 * q + (!b).toNat : Nat) : Int) := by decide
theorem half (k n : Nat) (hk : k < 2 * n) : ∃ (q : Nat) (b : Bool), q < n ∧ k = 2 * q + b.toNat := by
  refine ⟨k / 2, decide (k % 2 = 1), by omega, ?_⟩
  by_cases h : k % 2 = 1
  · simp only [h, decide_true, Bool.toNat_true]; omega
  · simp only [h, decide_false, Bool.toNat_false]; omega
/-- A step, as data; 'Keep' is the slice as it lies, and what it holds. -/
structure Step8 where
  Do : Int
  I : Int
  D : Int
  C : UInt8
  Keep : Value
  ks : List Bool
  KB : Option Nat
instance : Inhabited Step8 := ⟨⟨0, 0, 0, 0, .slice none 0 0, [], none⟩⟩
def stc8 (s : Step8) : List Value := [.int .i64 s.Do, .int .i64 s.I, .int .i64 s.D, bt s.C, s.Keep]
structure StOk8 (w : World) (s : Step8) : Prop where
  k : Rc w 1 s.Keep s.ks.length (s.ks.map .bool) s.KB
  kl : s.ks.length ≤ maxLen
theorem stc8_len (a : Step8) : (stc8 a).length = 5 := rfl
set_option maxRecDepth 20000 in
theorem stepT8 : AggT Try.prog 52 5 := ⟨_, Try.underlying52, rfl, rfl⟩
set_option maxRecDepth 20000 in
/-- The steps that came in, opened. -/
theorem open_steps8 {H : Type} {enc : TypeId × Value → H} {w : World} {base : Nat} {spare : Nat → Bool} {held : Bool} {fuel : Nat} {cs : List Value} {x : DataW H × List MemPlace} (h : DataW.trod enc Try.prog w base spare held fuel 47 cs = some x) :
    ∃ (v : Value) (l : List Step8) (B : Option Nat), cs = [v] ∧ Rc w 5 v l.length (l.flatMap stc8) B ∧ (∀ a ∈ l, StOk8 w a) ∧ l.length ≤ maxLen := by
  refine open_rows stc8 (StOk8 w) 5 (by decide) stc8_len Try.underlying47 rfl (fun n cs x hx => ?_) h
  obtain ⟨xs, n', _, _, hlen, hxl, hf⟩ := DataW.trod_struct Try.underlying52 hx
  have hlen5 : cs.length = 5 := hlen
  have hxl5 : xs.length = 5 := hxl
  match cs, hlen5, xs, hxl5 with
  | [c0, c1, c2, c3, c5], _, [x0, x1, x2, x3, x5], _ =>
    obtain ⟨n0, h0, _, w0⟩ := DataW.trod_int Try.underlying3 (hf 0 _ rfl)
    obtain ⟨n1, h1, _, w1⟩ := DataW.trod_int Try.underlying3 (hf 1 _ rfl)
    obtain ⟨n2, h2, _, w2⟩ := DataW.trod_int Try.underlying3 (hf 2 _ rfl)
    obtain ⟨n3, h3, _, w3⟩ := DataW.trod_int Try.underlying5 (hf 3 _ rfl)
    obtain ⟨v5, l5, B5, h5, r5, m5⟩ := open_bools Try.underlying50 Try.underlying4 rfl (hf 4 _ rfl)
    have e0 : c0 = .int .i64 n0 := List.singleton_inj.1 h0
    have e1 : c1 = .int .i64 n1 := List.singleton_inj.1 h1
    have e2 : c2 = .int .i64 n2 := List.singleton_inj.1 h2
    have e3 : c3 = .int .u8 n3 := List.singleton_inj.1 h3
    have e5 : c5 = v5 := List.singleton_inj.1 h5
    refine ⟨⟨n0, n1, n2, UInt8.ofNat n3.toNat, v5, l5, B5⟩, ?_, ⟨r5, m5⟩⟩
    rw [e0, e1, e2, e3, e5, bt_of w3]
    rfl
/-- A cell of a row of steps that lies in memory. -/
theorem step_cell8 {w : World} {v : Value} {l : List Step8} {B : Option Nat} (h : Rc w 5 v l.length (l.flatMap stc8) B) (i : Nat) (hi : i < l.length) :
    ∃ b off cap, v = .slice (some ⟨b, off, none⟩) l.length cap ∧ B = some b ∧ b < w.heap.size ∧ ∀ j, j < 5 → w.cell? ⟨b, off + i * 5 + j, none⟩ = (stc8 l[i])[j]? := by
  obtain ⟨b, off, cap, hB, hv, h1, h2, h3, h4⟩ := h.some (by omega)
  refine ⟨b, off, cap, hv, hB, h3, fun j hj => ?_⟩
  rw [← flat_get stc8 5 stc8_len l i j hi hj, Nat.add_assoc]
  exact h4 _ (by rw [Go.Xr.flat_len stc8 5 stc8_len]; omega)
end Go.Proofs.Ytgafefecookgaaa
