/- Of whatever input: 'cofferlaw22.ChannelWhole' returns true, and its arguments read as they read. No condition. -/
import Derived.Test.YtneoagelcjfanaaDoorChQ
import Derived.Test.YtneoagelcjfanaaDoorGArgs
import Derived.Test.YtneoagelcjfanaaDoorRows
import Derived.WalkKit
import Derived.ProofKit
import Derived.OpenShut
import Derived.ShutString
import Derived.ChangeMaps5
import Derived.Below
import Derived.Lib.SmallJoins
import Derived.Test.YtneoagelcjfanaaDoorCards
import Derived.Test.YtneoagelcjfanaaDoorTie
import Derived.SevenTiedAt
import Derived.Lib.LaidTab
import Derived.Lib.LaidU8
import Derived.Lay
import Derived.LaidOnce
namespace Go.Proofs.YtneoagelcjfanaaDoor.channelWholeDone
open Go Go.Xr Go.ChangeShapes Go.WideShapes Go.ChangeAt Go.RowKit Go.Deep
set_option linter.unusedVariables false

theorem tab_eq : (Rows.laid_internal_strconv_uint64pow10 : DataW Unit) = Lib.tabData .u64 Lib.pow10Tab := by kernel_rfl
theorem tb_of {W : World} (h : laidMetH Tryd.prog Rows.channelWholeRow.laid W) : chn.TB W := by
  rw [MakeChecks.laidMetH_plain _ _ _ (by kernel_rfl)] at h
  have h2 : laidMet Tryd.prog [("math/bits.deBruijn32tab", Rows.laid_math_bits_deBruijn32tab), ("math/bits.deBruijn64tab", Rows.laid_math_bits_deBruijn64tab), ("internal/strconv.uint64pow10", Rows.laid_internal_strconv_uint64pow10)] W := h
  rw [tab_eq] at h2
  obtain ⟨g, t, cs, fuel, p, hg, ht, hvar, hd⟩ := Lib.laidMet.reads h2 (.tail _ (.tail _ (.head _)))
  obtain rfl := Option.some.inj ((show Tryd.prog.globalNamed "internal/strconv.uint64pow10" = some 0 by kernel_rfl).symm.trans hg)
  obtain rfl := Option.some.inj ((show (Tryd.prog.globals[0]?).map (·.type) = some 121 by kernel_rfl).symm.trans ht)
  unfold chn.TB Lib.TabIs
  rw [hvar, ← Lib.cells_of_tab Tryd.underlying121 Tryd.underlying24 (by kernel_rfl) (by kernel_rfl) hd]
theorem own : ownKnob Tryd.prog.godebug = none := by kernel_rfl
theorem laidOut : laidOutB Tryd.prog = true := by kernel_rfl

set_option maxRecDepth 100000 in
theorem lifted (os : Os) (started : os.Started) (H : Type) (enc : TypeId × Value → H) :
    ReturnsInHanded {} Tryd.checked os 3 .any (fun w args => (Rows.channelWholeSpec.pre enc Tryd.prog Tryd.f3 Rows.channelWholeRow.domain false w args ∧ laidMetH Tryd.prog Rows.channelWholeRow.laid w) ∧ sizedMet enc Tryd.prog Tryd.f3 (OpenSpec.ofChange Rows.channelWholeSpec) false w args) (Rows.channelWholeSpec.post enc Tryd.prog Tryd.f3 false true false false) := by
  refine returnsInHanded_of_change_and (C := Tryd.checked) (X := fun w _ => laidMetH Tryd.prog Rows.channelWholeRow.laid w) (fun _ _ _ hh h => h.of_heap hh) own started (by kernel_rfl) Tryd.func3
    (ChangeSpec.witness_shaped (enc := enc) (C := Tryd.checked) (os := os) (X := fun w _ => laidMetH Tryd.prog Rows.channelWholeRow.laid w) false (World.laidAll Tryd.prog os Rows.channelWholeRow.laid) #[.slice none 0 0, .slice none 0 0, .slice none 0 0, .int .u64 0] 8 (World.laidAll_os _ _ _)
      (World.shaped_of_ZipB (by kernel_rfl) (by kernel_rfl)) (by kernel_rfl) (by kernel_rfl) (by kernel_rfl)
      (by rw [MakeChecks.laidMetH_plain _ _ _ (by kernel_rfl)]; exact laidMet_laidAll _ (by kernel_rfl) (by kernel_rfl))) ?_
  intro W base args ds gs before hval0 hW hcnd hsz0 hL _
  have hval : ∀ (j : Nat) t v, Tryd.f3.params[j]? = some t → args[j]? = some v → Value.okWide Tryd.prog W .any base t v := hval0
  have hW' := hW
  obtain ⟨p, q, hA0, hV, rfl, hfz, hnd⟩ := hW
  have hA : DataW.TrodAll enc Tryd.prog W 0 (fun _ => true) true Tryd.f3.params.toList args.toList ds p := hA0
  rw [Tryd.params3] at hA hval
  obtain ⟨v0, vs0, d0, ds0, p0, q0, hargs, rfl, rfl, h0, r0⟩ := trodAll_cons hA
  obtain ⟨v1, vs1, d1, ds1, p1, q1, rfl, rfl, rfl, h1, r1⟩ := trodAll_cons r0
  obtain ⟨v2, vs2, d2, ds2, p2, q2, rfl, rfl, rfl, h2, r2⟩ := trodAll_cons r1
  obtain ⟨v3, vs3, d3, ds3, p3, q3, rfl, rfl, rfl, h3, r3⟩ := trodAll_cons r2
  obtain ⟨rfl, rfl, rfl⟩ := trodAll_nil r3
  obtain rfl : args = #[v0, v1, v2, v3] := by cases args; simp_all
  obtain ⟨rfl, rfl⟩ := trodVars_none hV
  have hsz : (DataW.weightsEach Tryd.prog [22, 22, 23, 24] [d0, d1, d2, d3]).all (· ≤ reachBytes) = true := hsz0
  obtain ⟨z0, hsz⟩ := weights_cons hsz
  obtain ⟨z1, hsz⟩ := weights_cons hsz
  obtain ⟨z2, hsz⟩ := weights_cons hsz
  obtain ⟨z3, hsz⟩ := weights_cons hsz
  clear hsz hsz0
  have k0 := h0
  have lt0 : ∀ x ∈ p0, x.block < W.heap.size := by obtain ⟨m, hm⟩ := k0; exact DataW.trod_lt m _ _ _ hm
  have k1 := h1
  have lt1 : ∀ x ∈ p1, x.block < W.heap.size := by obtain ⟨m, hm⟩ := k1; exact DataW.trod_lt m _ _ _ hm
  have k2 := h2
  have lt2 : ∀ x ∈ p2, x.block < W.heap.size := by obtain ⟨m, hm⟩ := k2; exact DataW.trod_lt m _ _ _ hm
  have k3 := h3
  have lt3 : ∀ x ∈ p3, x.block < W.heap.size := by obtain ⟨m, hm⟩ := k3; exact DataW.trod_lt m _ _ _ hm
  obtain ⟨a0, len0, cap0, rfl⟩ := okWide_slice Tryd.underlying22 (hval 0 22 v0 rfl rfl)
  obtain ⟨l0, LB0, hl0, ho0, hb0, hm0⟩ : ∃ (l : List ByteArray) (LB : Option Nat), Rc W 1 (.slice a0 len0 cap0) l.length (l.map .string) LB ∧ (∀ s ∈ l, s.size ≤ 140737488351232) ∧ l.length * Tryd.prog.bytesOf 9 ≤ reachBytes ∧ l.length ≤ maxLen := by
    obtain ⟨fuel, hf⟩ := h0
    obtain ⟨v, l, B, hcs, g1, g2⟩ := open_strings_w Tryd.underlying22 Tryd.underlying9 rfl hf z0
    have e : v = .slice a0 len0 cap0 := (List.singleton_inj.1 (by simpa [Value.cells] using hcs)).symm
    exact ⟨l, B, e ▸ g1, g2⟩
  obtain ⟨a1, len1, cap1, rfl⟩ := okWide_slice Tryd.underlying22 (hval 1 22 v1 rfl rfl)
  obtain ⟨l1, LB1, hl1, ho1, hb1, hm1⟩ : ∃ (l : List ByteArray) (LB : Option Nat), Rc W 1 (.slice a1 len1 cap1) l.length (l.map .string) LB ∧ (∀ s ∈ l, s.size ≤ 140737488351232) ∧ l.length * Tryd.prog.bytesOf 9 ≤ reachBytes ∧ l.length ≤ maxLen := by
    obtain ⟨fuel, hf⟩ := h1
    obtain ⟨v, l, B, hcs, g1, g2⟩ := open_strings_w Tryd.underlying22 Tryd.underlying9 rfl hf z1
    have e : v = .slice a1 len1 cap1 := (List.singleton_inj.1 (by simpa [Value.cells] using hcs)).symm
    exact ⟨l, B, e ▸ g1, g2⟩
  obtain ⟨a2, len2, cap2, rfl⟩ := okWide_slice Tryd.underlying23 (hval 2 23 v2 rfl rfl)
  obtain ⟨l2, LB2, hl2, ho2, hm2⟩ : ∃ (l : List Int) (LB : Option Nat), Rc W 1 (.slice a2 len2 cap2) l.length (l.map (.int .u16)) LB ∧ (∀ x ∈ l, 0 ≤ x ∧ x ≤ 65535) ∧ l.length ≤ maxLen := by
    obtain ⟨fuel, hf⟩ := h2
    obtain ⟨v, l, B, hcs, g1, g2⟩ := chn.copen_u16s Tryd.underlying23 Tryd.underlying54 rfl hf
    have e : v = .slice a2 len2 cap2 := (List.singleton_inj.1 (by simpa [Value.cells] using hcs)).symm
    exact ⟨l, B, e ▸ g1, g2⟩
  obtain ⟨n3, rfl, rfl, rfl, w3⟩ := open_int Tryd.underlying24 (hval 3 24 v3 rfl rfl) h3
  obtain ⟨x3, rfl⟩ := u64_of w3
  have tb := tb_of hL
  clear hA0 hval0
  refine (chn.whole_walk tb x3 hl0 ho0 (by unfold maxLen at hm0; omega) hl1 ho1 (by unfold maxLen at hm1; omega) hl2 (by unfold maxLen at hm2; omega) ho2).mono fun e W' ⟨he, fr⟩ => ?_
  have bel : Below W.heap.size W W' := fr.below (Nat.le_refl _) (by simp)
  subst he
  exact ⟨_, rfl, _, _, _, [], _, [], hW', trodAll_mk1 (shut_bool Tryd.underlying4 _), (trodAll_cons_mk (Below.trod laidOut (by kernel_rfl) (of_decide_eq_true (by kernel_rfl)) k0 bel lt0) (trodAll_cons_mk (Below.trod laidOut (by kernel_rfl) (of_decide_eq_true (by kernel_rfl)) k1 bel lt1) (trodAll_cons_mk (Below.trod laidOut (by kernel_rfl) (of_decide_eq_true (by kernel_rfl)) k2 bel lt2) (trodAll_cons_mk (Below.trod laidOut (by kernel_rfl) (of_decide_eq_true (by kernel_rfl)) k3 bel lt3) trodAll_mk0)))), rfl, bel.frame _, fun h => by cases h⟩

theorem over : Rows.channelWholeRow.holds Tryd.pinned (OpenSpec.ofChange Rows.channelWholeSpec) :=
  OpenClaim.holds_of_wide 3 Tryd.f3 rfl rfl rfl rfl rfl rfl rfl ⟨rfl, rfl, rfl, rfl, rfl⟩ rfl rfl rfl rfl rfl (by kernel_rfl) Tryd.func3 (by kernel_rfl)
    (of_decide_eq_true (by kernel_rfl)) (by unfold Func.isWrapper; first | (rw [if_pos (by decide +kernel)]; kernel_rfl) | (rw [if_neg (by decide +kernel)]; exact ⟨rfl, rfl⟩))
    (fun os started H enc _ => lifted os started H enc)

theorem proved : Rows.ChannelWholeCardSaid :=
  Claim7.holds_tied_plain_at .later [] [.data, .data, .data] true (true, "e2e40019ef343a176271a106dc4db0700802d8c794849ef51ffa6ac193deb613") true over (fun _ h => by cases h) (by kernel_rfl) (fun _ h => by cases h) channelWhole_row_tie rfl ⟨rfl, rfl⟩ (by kernel_rfl) rfl
    (fun f fn hf hfn => by
      obtain rfl : f = 3 := Option.some.inj ((show Tryd.prog.funcNamed "coffer/cofferlaw22.ChannelWhole" = some 3 by kernel_rfl).symm.trans hf) |>.symm
      obtain rfl : fn = Tryd.f3 := (Option.some.inj (Tryd.func3.symm.trans hfn)).symm
      exact ⟨by kernel_rfl, fun j t ht => by
        rw [Tryd.params3] at ht
        have hm : t ∈ [22, 22, 23, 24] := by simpa using Array.mem_of_getElem? ht
        have hall : ([22, 22, 23, 24].all fun u => !Tryd.prog.wantsStandIn u) = true := by kernel_rfl
        exact (show Tryd.prog.wantsStandIn t = false by simpa using List.all_eq_true.1 hall t hm)⟩)
    (by kernel_rfl)
#print axioms proved
end Go.Proofs.YtneoagelcjfanaaDoor.channelWholeDone
