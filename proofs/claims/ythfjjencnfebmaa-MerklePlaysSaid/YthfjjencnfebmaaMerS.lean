/- Layer 10: how great a way is. -/
import Derived.Test.YthfjjencnfebmaaMerQ
import Derived.Test.YthfjjencnfebmaaGArgs
import Derived.Lib.SmallJoins
import Derived.OpenShut
namespace Go.Proofs.Ythfjjencnfebmaa.mer
open Go Go.Xr Go.RowKit
set_option linter.unusedVariables false
set_option linter.unusedSimpArgs false
set_option maxRecDepth 20000 in
set_option maxHeartbeats 1000000 in
theorem size_any {w : World} {v : Value} {l : List ByteArray} {B : Option Nat} (h : Rc w 1 v l.length (l.map .string) B) (ho : ∀ s ∈ l, s.size ≤ 140737488351232) (hm : l.length ≤ 9223372036854775807) (root tag : ByteArray) (n i : Int) (hr : root.size ≤ 140737488351232) (ht : tag.size ≤ 140737488351232) :
    Calls Try.prog 9 #[.agg #[.string root, .int .i64 n, .int .i64 i, .string tag, v]] w fun e w' => (∃ s : Nat, e = .returned (.int .i64 (s : Int)) ∧ (s ≤ 8192 → root.size ≤ 8192 ∧ tag.size ≤ 8192 ∧ l.length ≤ 1024 ∧ ∀ x ∈ l, x.size ≤ 8192)) ∧ Fr [] w w' := by
  obtain ⟨la, lc, rfl⟩ := h.isSlice
  have H := hid h
  have HO := hid ho
  obtain ⟨m, hmm⟩ : ∃ m, l.length = m := ⟨_, rfl⟩
  have Hm := hid hmm
  rw [hmm] at hm ⊢
  clear h ho hmm
  go_enter Try.func9, Try.ntmps9
  go_wp2_with (refine wpList_box rfl _ _ rfl [.string root, .int .i64 n, .int .i64 i, .string tag, .slice la m lc] rfl ?_; intro w1 f1 hlt1 hb1; have k0 := hb1.cell 0; have k3 := hb1.cell 3; have k4 := hb1.cell 4; simp only [World.size_alloc, World.size_drew, Act.put, List.setIfInBounds_toArray, List.set_cons_succ, List.set_cons_zero])
  obtain ⟨b, hb⟩ : ∃ b, w.heap.size = b := ⟨_, rfl⟩
  rw [hb] at k4 ⊢
  have F1 := hid f1
  clear k0 k3 hb1 f1 hlt1 hb
  go_loopw [3, 4] (fun sv kv wr => ∃ s k : Nat, sv = .int .i64 (s : Int) ∧ kv = .int .i64 (k : Int) ∧ k ≤ m ∧ s ≤ 500000000000000 ∧ 8 * k ≤ s ∧ root.size ≤ s ∧ tag.size ≤ s ∧ (∀ x ∈ l.take k, x.size ≤ s) ∧ wr = w1) (fun _ kv _ => m - (intOf kv).toNat)
  case atStart => exact ⟨root.size + tag.size, 0, by first | rfl | go_num, rfl, Nat.zero_le _, by omega, by omega, by omega, by omega, by simp, rfl⟩
  case round =>
    obtain ⟨s, k, rfl, rfl, hk, hs, hsk, hsr, hst, hx, rfl⟩ := hrel
    by_cases hkm : k < m
    · have d1 : decide ((k : Int) < (m : Int)) = true := by simp; omega
      have d1' : (k : Int) < (m : Int) := by omega
      by_cases hs1 : s ≤ 8192
      · have d2 : decide ((s : Int) ≤ 8192) = true := by simp; omega
        obtain ⟨b1, o1, rfl, hB1, hlb1, hi1, q1⟩ := rc_elem (l := l) (n := m) (by have := H.out.keep F1.out (by simp); rw [Hm.out] at this; exact this) hkm
        have hsz := HO.out l[k] (List.getElem_mem _)
        have Hx := hid (show l[k]? = some l[k] from List.getElem?_eq_getElem hi1)
        obtain ⟨X, hX⟩ : ∃ X, l[k] = X := ⟨_, rfl⟩
        rw [hX] at q1 hsz Hx
        have Hxs := hid hx
        clear hX hi1 hB1 hx
        go_wp2_with fail
        go_roundw
        case rel =>
          refine ⟨s + 8 + X.size, k + 1, by first | rfl | go_num, by first | rfl | go_num, by omega, by omega, by omega, by omega, by omega, ?_, trivial⟩
          intro x hx
          rw [List.take_add_one, Hx.out] at hx
          rcases List.mem_append.1 hx with h | h
          · have := Hxs.out x h; omega
          · obtain rfl : x = X := by simpa using h
            omega
        case measure => simp [intOf]; omega
      · have d2 : decide ((s : Int) ≤ 8192) = false := by simp; omega
        clear hx
        go_wp2_with fail
        go_ret
        exact ⟨⟨s, rfl, fun h => by omega⟩, F1.out⟩
    · have d1 : decide ((k : Int) < (m : Int)) = false := by simp; omega
      have d1' : ¬ ((k : Int) < (m : Int)) := by omega
      have HX := hid (show s ≤ 8192 → root.size ≤ 8192 ∧ tag.size ≤ 8192 ∧ m ≤ 1024 ∧ ∀ x ∈ l, x.size ≤ 8192 from fun h => ⟨by omega, by omega, by omega, fun x hx' => by
        have := hx x (by rw [List.take_of_length_le (by rw [Hm.out]; omega)]; exact hx')
        omega⟩)
      clear hx
      go_wp2_with fail
      go_ret
      exact ⟨⟨s, rfl, HX.out⟩, F1.out⟩
/-- The document's word on a path, whatever the numbers. -/
theorem rver_any {w : World} {v : Value} {l : List ByteArray} {B : Option Nat} (h : Rc w 1 v l.length (l.map .string) B) (hl : l.length ≤ 1000000) (hls : ∀ s ∈ l, s.size ≤ 1099511626000) (root : ByteArray) (n i : Int) (tag : ByteArray) (ht : tag.size ≤ 1099511626000) :
    Calls Try.prog 11 #[.string root, .int .i64 n, .int .i64 i, .string tag, v] w fun e w' => (∃ v', e = .returned (.tuple #[v', .bool (verS root n i tag l)])) ∧ Fr [] w w' := by
  by_cases hok : okNI n i
  · obtain ⟨N, rfl⟩ : ∃ N : Nat, n = (N : Int) := ⟨n.toNat, by unfold okNI at hok; omega⟩
    obtain ⟨I, rfl⟩ : ∃ I : Nat, i = (I : Int) := ⟨i.toNat, by unfold okNI at hok; omega⟩
    refine (rtexts_any h hl hls root N I (by unfold okNI at hok; omega) (by unfold okNI at hok; omega) tag ht).mono ?_
    rintro e w1 ⟨⟨v', rfl, _⟩, f⟩
    exact ⟨⟨v', rfl⟩, f⟩
  · have HV : verS root n i tag l = false := by unfold verS; rw [if_neg hok]
    rw [HV]
    obtain ⟨a, c, rfl⟩ := h.isSlice
    refine (rtexts_bad root n i tag (by unfold okNI at hok; omega)).mono ?_
    rintro e w1 ⟨rfl, rfl⟩
    exact ⟨⟨_, rfl⟩, Fr.refl _ _⟩
set_option maxRecDepth 20000 in
theorem wayT : AggT Try.prog 24 5 := ⟨_, Try.underlying24, rfl, by kernel_rfl⟩
set_option maxRecDepth 20000 in
open Go.ChangeShapes Go.WideShapes Go.ChangeAt Go.Deep in
/-- A way that came in. -/
theorem open_way {H : Type} {enc : TypeId × Value → H} {w : World} {base : Nat} {spare : Nat → Bool} {held : Bool} {r : Reach} {b0 : Nat} {v : Value} {d : DataW H} {p : List MemPlace} (hv : Value.okWide Try.prog w r b0 24 v) (h : DataW.Trod enc Try.prog w base spare held 24 v d p) (hw : WOk Try.prog 24 d) :
    ∃ (root tag : ByteArray) (n i : Int) (sv : Value) (l : List ByteArray) (B : Option Nat), v = .agg #[.string root, .int .i64 n, .int .i64 i, .string tag, sv] ∧ Rc w 1 sv l.length (l.map .string) B ∧ (∀ s ∈ l, s.size ≤ 140737488351232) ∧ l.length ≤ maxLen ∧ root.size ≤ 140737488351232 ∧ tag.size ≤ 140737488351232 := by
  obtain ⟨cs, rfl, hsz⟩ := okWide_struct Try.underlying24 hv
  obtain ⟨fuel, hf⟩ := h
  obtain ⟨xs, n', _, hx, hlen, hxl, hg⟩ := DataW.trod_struct Try.underlying24 hf
  have hlen5 : cs.toList.length = 5 := hlen
  have hxl5 : xs.length = 5 := hxl
  obtain ⟨cl⟩ := cs
  match cl, hlen5, xs, hxl5 with
  | [c0, c1, c2, c3, c4], _, [x0, x1, x2, x3, x4], _ =>
    have hd : d = .agg [x0.1, x1.1, x2.1, x3.1, x4.1] := by
      have := congrArg Prod.fst hx
      simpa using this
    rw [hd] at hw
    unfold WOk at hw
    simp only [DataW.weights, Try.underlying24] at hw
    obtain ⟨z0, hw⟩ := weights_cons hw
    obtain ⟨z1, hw⟩ := weights_cons hw
    obtain ⟨z2, hw⟩ := weights_cons hw
    obtain ⟨z3, hw⟩ := weights_cons hw
    obtain ⟨z4, hw⟩ := weights_cons hw
    obtain ⟨s0, h0, hd0, w0⟩ := DataW.trod_string Try.underlying9 (hg 0 _ rfl)
    obtain ⟨n1, h1, _, w1⟩ := DataW.trod_int Try.underlying3 (hg 1 _ rfl)
    obtain ⟨n2, h2, _, w2⟩ := DataW.trod_int Try.underlying3 (hg 2 _ rfl)
    obtain ⟨s3, h3, hd3, w3⟩ := DataW.trod_string Try.underlying9 (hg 3 _ rfl)
    obtain ⟨sv, l, B, h4, g1, g2, g3, g4⟩ := open_strings_w Try.underlying22 Try.underlying9 rfl (hg 4 _ rfl) z4
    have e0 : c0 = .string s0 := List.singleton_inj.1 h0
    have e1 : c1 = .int .i64 n1 := List.singleton_inj.1 h1
    have e2 : c2 = .int .i64 n2 := List.singleton_inj.1 h2
    have e3 : c3 = .string s3 := List.singleton_inj.1 h3
    have e4 : c4 = sv := List.singleton_inj.1 h4
    have t0 : s0.size ≤ 140737488351232 := by
      have := congrArg Prod.fst hd0
      simp only at this
      rw [this] at z0
      have h6 := wok_string z0
      have h7 : s0.data.toList.length = s0.size := Array.length_toList
      unfold reachBytes at h6
      omega
    have t3 : s3.size ≤ 140737488351232 := by
      have := congrArg Prod.fst hd3
      simp only at this
      rw [this] at z3
      have h6 := wok_string z3
      have h7 : s3.data.toList.length = s3.size := Array.length_toList
      unfold reachBytes at h6
      omega
    exact ⟨s0, s3, n1, n2, sv, l, B, by rw [e0, e1, e2, e3, e4], g1, g2, g4, t0, t3⟩
end Go.Proofs.Ythfjjencnfebmaa.mer
