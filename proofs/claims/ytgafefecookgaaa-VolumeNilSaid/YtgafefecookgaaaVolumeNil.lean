/- Layer 8: VolumeNil, the walk. -/
import Derived.Test.YtgafefecookgaaaVolQ
namespace Go.Proofs.Ytgafefecookgaaa
open Go Go.Xr Go.RowKit
set_option linter.unusedVariables false
set_option linter.unusedSimpArgs false
set_option maxRecDepth 20000 in
theorem vmake_nil {w : World} {v : Value} {LB : Option Nat} (hrc : Rc w 1 v 1 ([none].map pv) LB) : Calls Try.prog 13 #[v] w fun e w' => e = .returned (.tuple #[.pointer none, .int .i64 1]) ∧ w' = w := by
  have HC := hid (cfM_any (xs := [none]) hrc (by decide) (fun _ => true) (fun x hx => by
    obtain rfl := List.mem_singleton.1 hx
    exact mk1_nil w))
  rw [show ([none] : List (Option Nat)).any (fun _ => true) = true from rfl] at HC
  obtain ⟨ad, c, rfl⟩ := hrc.isSlice
  clear hrc
  go_enter Try.func13, Try.ntmps13
  go_wp2_with (go_at_call 29; refine HC.out.mono ?_; rintro e w5 ⟨rfl, hw⟩; subst hw)
  go_ret2
  exact ⟨rfl, rfl⟩
set_option maxRecDepth 20000 in
set_option maxHeartbeats 4000000 in
theorem volumeNil_walk {w : World} (i k : Int) (s : ByteArray) : Calls Try.prog 4 #[.int .i64 i, .int .i64 k, .string s] w fun e w' => e = .returned (.bool true) ∧ Fr [] w w' := by
  have HA := hid valive_any
  obtain ⟨i9, z9, hi9, hz9, hs9, hb9, hzc9⟩ := infDp
  have Hi := hid hi9
  have Hz := hid hz9
  have Hs := hid hs9
  have Hzc := hid hzc9
  obtain ⟨i8, z8, hi8, hz8, hs8, hb8, hzc8⟩ := infMp
  have Mi := hid hi8
  have Mz := hid hz8
  have Ms := hid hs8
  have Mzc := hid hzc8
  clear hi9 hz9 hs9 hb9 hzc9 hi8 hz8 hs8 hb8 hzc8
  go_enter Try.func4, Try.ntmps4
  go_wp2_with fail
  refine (newp_ok 4 (by decide) (by decide)).mono ?_
  rintro e w1 ⟨d, F, rfl, r1, p1, f1, g1⟩
  have F1 := hid f1
  have R1 := hid r1
  have P1 := hid p1
  have HF2 := hid fun (w2 : World) (b : Nat) (f2 : Fr [] w1 w2) (hb2 : Blk w2 b [.pointer (some ⟨d, 0, none⟩), .pointer none]) => mkall_fail (c := 1) (x0 := some d) (x1 := none) (n := 2) rfl (rc_blk hb2 rfl (by decide)) (by decide) (by decide) (fun x hx b hb => by
    subst hb
    obtain rfl : b = d := by simpa using hx
    exact f2.plain _ P1.out) (by
    rintro ⟨i, hi, x, h1, h2⟩
    match i, hi with
    | 0, _ => simp at h2
    | 1, _ => simp at h1) (by decide) (fun w3 f3 => make_bad (c := 1) (by decide) (two_nilR ((R1.out.keep f2 (by simp)).keep f3 (by simp))))
  clear r1 p1 f1 g1
  go_wp2_with (first
    | (refine wpList_buildSlice_r rfl _ 2 _ rfl 37 Try.underlying22 _ _ Hi.out Hz.out Hzc.out Hs.out (by decide) (by decide) (by decide) [.pointer (some ⟨d, 0, none⟩), .pointer none] rfl (by intro v hv; simp at hv; rcases hv with rfl | rfl <;> rfl) ?_
       intro w2 f2 hlt2 hb2
       have hf2 := hid (HF2.out _ _ f2 hb2)
       have F2 := hid (F1.out.trans' f2)
       clear hb2
       simp only [World.size_alloc, World.size_drew, Act.put, List.setIfInBounds_toArray, List.set_cons_succ, List.set_cons_zero])
    | (go_at_call 7; (with_reducible refine hf2.out.mono ?_); rintro r w3 ⟨rfl, f3⟩; have F3 := hid (F2.out.trans' f3); clear hf2 f3)
    | (refine wpList_buildSlice_r rfl _ 1 _ rfl 71 Try.underlying61 _ _ Mi.out Mz.out Mzc.out Ms.out (by decide) (by decide) (by decide) [.pointer none] rfl (by intro v hv; simp at hv; rcases hv with rfl; rfl) ?_
       intro w4 f4 hlt4 hb4
       have hm4 := hid (vmake_nil (rc_blk (n := 1) (xs := [none].map pv) hb4 rfl (by decide)))
       have F4 := hid (F3.out.trans' f4)
       clear hb4
       simp only [World.size_alloc, World.size_drew, Act.put, List.setIfInBounds_toArray, List.set_cons_succ, List.set_cons_zero])
    | (go_at_call 13; (with_reducible refine hm4.out.mono ?_); rintro r w5 ⟨rfl, hw⟩; subst hw)
    | (go_at_call 14; refine (vread_nil _ _).mono ?_; rintro e w6 ⟨rfl, hw⟩; subst hw)
    | (go_at_call 15; refine (vother_nil _ _).mono ?_; rintro e w7 ⟨rfl, hw⟩; subst hw)
    | (go_at_call 8; refine (vplace_nil _ _).mono ?_; rintro e w8 ⟨rfl, hw⟩; subst hw)
    | (go_at_call 10; refine (vindex_nil _ _ _).mono ?_; rintro e w9 ⟨rfl, hw⟩; subst hw)
    | (go_at_call 16; refine (vresync_nil _).mono ?_; rintro e w10 ⟨rfl, f10⟩; have F10 := hid (F4.out.trans' f10); clear f10)
    | (go_at_call 17; refine (vwrite_nil _ _ _).mono ?_; rintro e w11 ⟨rfl, hw⟩; subst hw)
    | (go_at_call 18; refine (vflush_nil _).mono ?_; rintro e w12 ⟨rfl, hw⟩; subst hw)
    | (go_at_call 9; refine (vlen_nil _).mono ?_; rintro e w13 ⟨rfl, hw⟩; subst hw)
    | (go_at_call 19; refine (vwr_nil _).mono ?_; rintro e w14 ⟨rfl, hw⟩; subst hw)
    | (go_at_call 11; refine (HA.out _).mono ?_; rintro e w15 ⟨rfl, f15⟩))
  go_ret
  exact ⟨rfl, F10.out.trans' f15⟩
end Go.Proofs.Ytgafefecookgaaa
