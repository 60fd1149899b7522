/- Of whatever input: 'cofferlaw22.ChannelSends' returns true, and its arguments read as they read. No condition. -/
import Derived.Test.YtneoagelcjfanaaGreatDoorChannelSends
import Derived.Test.YtneoagelcjfanaaGreatDoorGArgs
import Derived.Test.YtneoagelcjfanaaGreatDoorRows
import Derived.WalkKit
import Derived.ProofKit
import Derived.OpenShut
import Derived.ShutString
import Derived.ChangeMaps5
import Derived.Below
import Derived.Lib.SmallJoins
import Derived.Test.YtneoagelcjfanaaGreatDoorCards
import Derived.Test.YtneoagelcjfanaaGreatDoorTie
import Derived.SevenTiedAt
import Derived.Lib.LaidTab
import Derived.Lib.LaidU8
import Derived.Lay
import Derived.LaidOnce
namespace Go.Proofs.YtneoagelcjfanaaGreatDoor.channelSendsDone
open Go Go.Xr Go.ChangeShapes Go.WideShapes Go.ChangeAt Go.RowKit Go.Deep
set_option linter.unusedVariables false

theorem tab_eq : (Rows.laid_internal_strconv_uint64pow10 : DataW Unit) = Lib.tabData .u64 Lib.pow10Tab := by kernel_rfl
theorem tb_of {W : World} (h : laidMetH Tryz.prog Rows.channelSendsRow.laid W) : chn.TB W := by
  rw [MakeChecks.laidMetH_plain _ _ _ (by kernel_rfl)] at h
  have h2 : laidMet Tryz.prog [("math/bits.deBruijn32tab", Rows.laid_math_bits_deBruijn32tab), ("math/bits.deBruijn64tab", Rows.laid_math_bits_deBruijn64tab), ("internal/strconv.uint64pow10", Rows.laid_internal_strconv_uint64pow10)] W := h
  rw [tab_eq] at h2
  obtain ⟨g, t, cs, fuel, p, hg, ht, hvar, hd⟩ := Lib.laidMet.reads h2 (.tail _ (.tail _ (.head _)))
  obtain rfl := Option.some.inj ((show Tryz.prog.globalNamed "internal/strconv.uint64pow10" = some 0 by kernel_rfl).symm.trans hg)
  obtain rfl := Option.some.inj ((show (Tryz.prog.globals[0]?).map (·.type) = some 157 by kernel_rfl).symm.trans ht)
  unfold chn.TB Lib.TabIs
  rw [hvar, ← Lib.cells_of_tab Tryz.underlying157 Tryz.underlying22 (by kernel_rfl) (by kernel_rfl) hd]
theorem own : ownKnob Tryz.prog.godebug = none := by kernel_rfl
theorem laidOut : laidOutB Tryz.prog = true := by kernel_rfl

set_option maxRecDepth 100000 in
theorem lifted (os : Os) (started : os.Started) (H : Type) (enc : TypeId × Value → H) :
    ReturnsInHanded {} Tryz.checked os 3 .any (fun w args => (Rows.channelSendsSpec.pre enc Tryz.prog Tryz.f3 Rows.channelSendsRow.domain false w args ∧ laidMetH Tryz.prog Rows.channelSendsRow.laid w) ∧ sizedMet enc Tryz.prog Tryz.f3 (OpenSpec.ofChange Rows.channelSendsSpec) false w args) (Rows.channelSendsSpec.post enc Tryz.prog Tryz.f3 false true false false) := by
  refine returnsInHanded_of_change_and (C := Tryz.checked) (X := fun w _ => laidMetH Tryz.prog Rows.channelSendsRow.laid w) (fun _ _ _ hh h => h.of_heap hh) own started (by kernel_rfl) Tryz.func3
    (ChangeSpec.witness_shaped (enc := enc) (C := Tryz.checked) (os := os) (X := fun w _ => laidMetH Tryz.prog Rows.channelSendsRow.laid w) false (World.laidAll Tryz.prog os Rows.channelSendsRow.laid) #[.string ⟨#[]⟩, .int .u64 0, .bool false, .slice none 0 0] 8 (World.laidAll_os _ _ _)
      (World.shaped_of_ZipB (by kernel_rfl) (by kernel_rfl)) (by kernel_rfl) (by kernel_rfl) (by kernel_rfl)
      (by rw [MakeChecks.laidMetH_plain _ _ _ (by kernel_rfl)]; exact laidMet_laidAll _ (by kernel_rfl) (by kernel_rfl))) ?_
  intro W base args ds gs before hval0 hW hcnd hsz0 hL _
  have hval : ∀ (j : Nat) t v, Tryz.f3.params[j]? = some t → args[j]? = some v → Value.okWide Tryz.prog W .any base t v := hval0
  have hW' := hW
  obtain ⟨p, q, hA0, hV, rfl, hfz, hnd⟩ := hW
  have hA : DataW.TrodAll enc Tryz.prog W 0 (fun _ => true) true Tryz.f3.params.toList args.toList ds p := hA0
  rw [Tryz.params3] at hA hval
  obtain ⟨v0, vs0, d0, ds0, p0, q0, hargs, rfl, rfl, h0, r0⟩ := trodAll_cons hA
  obtain ⟨v1, vs1, d1, ds1, p1, q1, rfl, rfl, rfl, h1, r1⟩ := trodAll_cons r0
  obtain ⟨v2, vs2, d2, ds2, p2, q2, rfl, rfl, rfl, h2, r2⟩ := trodAll_cons r1
  obtain ⟨v3, vs3, d3, ds3, p3, q3, rfl, rfl, rfl, h3, r3⟩ := trodAll_cons r2
  obtain ⟨rfl, rfl, rfl⟩ := trodAll_nil r3
  obtain rfl : args = #[v0, v1, v2, v3] := by cases args; simp_all
  obtain ⟨rfl, rfl⟩ := trodVars_none hV
  have hsz : (DataW.weightsEach Tryz.prog [9, 22, 4, 23] [d0, d1, d2, d3]).all (· ≤ reachBytes) = true := hsz0
  obtain ⟨z0, hsz⟩ := weights_cons hsz
  obtain ⟨z1, hsz⟩ := weights_cons hsz
  obtain ⟨z2, hsz⟩ := weights_cons hsz
  obtain ⟨z3, hsz⟩ := weights_cons hsz
  clear hsz hsz0
  have k0 := h0
  have lt0 : ∀ x ∈ p0, x.block < W.heap.size := by obtain ⟨m, hm⟩ := k0; exact DataW.trod_lt m _ _ _ hm
  have k1 := h1
  have lt1 : ∀ x ∈ p1, x.block < W.heap.size := by obtain ⟨m, hm⟩ := k1; exact DataW.trod_lt m _ _ _ hm
  have k2 := h2
  have lt2 : ∀ x ∈ p2, x.block < W.heap.size := by obtain ⟨m, hm⟩ := k2; exact DataW.trod_lt m _ _ _ hm
  have k3 := h3
  have lt3 : ∀ x ∈ p3, x.block < W.heap.size := by obtain ⟨m, hm⟩ := k3; exact DataW.trod_lt m _ _ _ hm
  obtain ⟨n0, rfl, rfl, rfl, w0⟩ := Go.ChangeMaps.open_string Tryz.underlying9 (hval 0 9 v0 rfl rfl) h0
  have w0 : n0.size ≤ 140737488351232 := by have := wok_string z0; unfold reachBytes at this; have e : n0.data.toList.length = n0.size := Array.length_toList; omega
  obtain ⟨n1, rfl, rfl, rfl, w1⟩ := open_int Tryz.underlying22 (hval 1 22 v1 rfl rfl) h1
  obtain ⟨x1, rfl⟩ := u64_of w1
  obtain ⟨n2, rfl, rfl, rfl⟩ := open_bool Tryz.underlying4 (hval 2 4 v2 rfl rfl) h2
  obtain ⟨a3, len3, cap3, rfl⟩ := okWide_slice Tryz.underlying23 (hval 3 23 v3 rfl rfl)
  obtain ⟨l3, LB3, hl3, ho3, hb3, hm3⟩ : ∃ (l : List ByteArray) (LB : Option Nat), Rc W 1 (.slice a3 len3 cap3) l.length (l.map .string) LB ∧ (∀ s ∈ l, s.size ≤ 140737488351232) ∧ l.length * Tryz.prog.bytesOf 9 ≤ reachBytes ∧ l.length ≤ maxLen := by
    obtain ⟨fuel, hf⟩ := h3
    obtain ⟨v, l, B, hcs, g1, g2⟩ := open_strings_w Tryz.underlying23 Tryz.underlying9 rfl hf z3
    have e : v = .slice a3 len3 cap3 := (List.singleton_inj.1 (by simpa [Value.cells] using hcs)).symm
    exact ⟨l, B, e ▸ g1, g2⟩
  have tb := tb_of hL
  clear hA0 hval0
  refine (chn.sends_walk tb n0 x1 n2 hl3 ho3 (by unfold maxLen at hm3; omega)).mono fun e W' ⟨he, fr⟩ => ?_
  have bel : Below W.heap.size W W' := fr.below (Nat.le_refl _) (by simp)
  subst he
  exact ⟨_, rfl, _, _, _, [], _, [], hW', trodAll_mk1 (shut_bool Tryz.underlying4 _), (trodAll_cons_mk (Below.trod laidOut (by kernel_rfl) (of_decide_eq_true (by kernel_rfl)) k0 bel lt0) (trodAll_cons_mk (Below.trod laidOut (by kernel_rfl) (of_decide_eq_true (by kernel_rfl)) k1 bel lt1) (trodAll_cons_mk (Below.trod laidOut (by kernel_rfl) (of_decide_eq_true (by kernel_rfl)) k2 bel lt2) (trodAll_cons_mk (Below.trod laidOut (by kernel_rfl) (of_decide_eq_true (by kernel_rfl)) k3 bel lt3) trodAll_mk0)))), rfl, bel.frame _, fun h => by cases h⟩

theorem over : Rows.channelSendsRow.holds Tryz.pinned (OpenSpec.ofChange Rows.channelSendsSpec) :=
  OpenClaim.holds_of_wide 3 Tryz.f3 rfl rfl rfl rfl rfl rfl rfl ⟨rfl, rfl, rfl, rfl, rfl⟩ rfl rfl rfl rfl rfl (by kernel_rfl) Tryz.func3 (by kernel_rfl)
    (of_decide_eq_true (by kernel_rfl)) (by unfold Func.isWrapper; first | (rw [if_pos (by decide +kernel)]; kernel_rfl) | (rw [if_neg (by decide +kernel)]; exact ⟨rfl, rfl⟩))
    (fun os started H enc _ => lifted os started H enc)

theorem proved : Rows.ChannelSendsCardSaid :=
  Claim7.holds_tied_plain_at .later [] [.data, .data, .data] true (true, "14715dc97f91aa4ab1c327a9d6cd06e0783a058354d370c088dacfaab19a1d31") true over (fun _ h => by cases h) (by kernel_rfl) (fun _ h => by cases h) channelSends_row_tie rfl ⟨rfl, rfl⟩ (by kernel_rfl) rfl
    (fun f fn hf hfn => by
      obtain rfl : f = 3 := Option.some.inj ((show Tryz.prog.funcNamed "coffer/cofferlaw22.ChannelSends" = some 3 by kernel_rfl).symm.trans hf) |>.symm
      obtain rfl : fn = Tryz.f3 := (Option.some.inj (Tryz.func3.symm.trans hfn)).symm
      exact ⟨by kernel_rfl, fun j t ht => by
        rw [Tryz.params3] at ht
        have hm : t ∈ [9, 22, 4, 23] := by simpa using Array.mem_of_getElem? ht
        have hall : ([9, 22, 4, 23].all fun u => !Tryz.prog.wantsStandIn u) = true := by kernel_rfl
        exact (show Tryz.prog.wantsStandIn t = false by simpa using List.all_eq_true.1 hall t hm)⟩)
    (by kernel_rfl)
#print axioms proved
end Go.Proofs.YtneoagelcjfanaaGreatDoor.channelSendsDone
