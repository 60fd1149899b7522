/- Layer 1, the document's sha: digits. -/
import Derived.Test.YtkohnmlnpbkphaaShaK
namespace Go.Xr
open Go
theorem dig10 (c : UInt8) (h : dg2 c = true) : (c - c8 97).toNat + 10 = (c - c8 97 + c8 10).toNat := by
  revert h
  refine u8_all (fun c => dg2 c = true → (c - c8 97).toNat + 10 = (c - c8 97 + c8 10).toNat) ?_ c
  decide +kernel
end Go.Xr
namespace Go.Proofs.Ytkohnmlnpbkphaa
open Go Go.Xr Go.RowKit
set_option linter.unusedVariables false
set_option linter.unusedSimpArgs false

def digI (c : UInt8) : Int := if dok c then ((dv c).toNat : Int) else -1
theorem cv8_i (w : World) (x : UInt8) : (convert 5 3 (bt x)).run Try.prog w = .ok (.int .i64 (x.toNat : Int)) w := by
  have h := x.toNat_lt
  have e : IntKind.i64.wrap (x.toNat : Int) = (x.toNat : Int) := IntWalk.i64_in _ (by omega)
  simp only [bt, convert, Sem.run_bind, run_underlying Try.underlying5, run_underlying Try.underlying3, Result.andThen_ok, Conv.intToInt, e, Sem.run_pure]
theorem cvi_8 (w : World) (n : Int) (x : Nat) (h : n = x) : (convert 3 5 (.int .i64 n)).run Try.prog w = .ok (bt (UInt8.ofNat x)) w := by
  subst h
  have e : Value.int .u8 (IntKind.u8.wrap (x : Int)) = bt (UInt8.ofNat x) := by
    rw [int_u8]
    refine congrArg bt (UInt8.toNat_inj.1 ?_)
    have h1 : (UInt8.ofBitVec (BitVec.ofInt 8 (x : Int))).toNat = (BitVec.ofInt 8 (x : Int)).toNat := rfl
    rw [UInt8.toNat_ofNat', h1, BitVec.toNat_ofInt]
    omega
  simp only [convert, Sem.run_bind, run_underlying Try.underlying3, run_underlying Try.underlying5, Result.andThen_ok, Conv.intToInt, e, Sem.run_pure]
theorem cls (c : UInt8) : (decide (48 ≤ (c.toNat : Int)) = true ∧ decide ((c.toNat : Int) ≤ 57) = true ∧ Hid (dok c = true) ∧ Hid (dv c = c - c8 48)) ∨
    (((decide (48 ≤ (c.toNat : Int)) = true ∧ decide ((c.toNat : Int) ≤ 57) = false)) ∧ decide (97 ≤ (c.toNat : Int)) = true ∧ decide ((c.toNat : Int) ≤ 102) = true ∧ Hid (dok c = true) ∧ Hid (dv c = c - c8 97 + c8 10) ∧ Hid (dg2 c = true)) ∨
    (decide (48 ≤ (c.toNat : Int)) = false ∧ decide (97 ≤ (c.toNat : Int)) = false ∧ Hid (dok c = false)) ∨
    (decide (48 ≤ (c.toNat : Int)) = true ∧ decide ((c.toNat : Int) ≤ 57) = false ∧ decide (97 ≤ (c.toNat : Int)) = false ∧ Hid (dok c = false)) ∨
    (decide (48 ≤ (c.toNat : Int)) = true ∧ decide ((c.toNat : Int) ≤ 57) = false ∧ decide (97 ≤ (c.toNat : Int)) = true ∧ decide ((c.toNat : Int) ≤ 102) = false ∧ Hid (dok c = false)) := by
  simp only [decide_eq_true_eq, decide_eq_false_iff_not, Hid, dok, dv, dg1, dg2]
  by_cases h1 : 48 ≤ c.toNat
  · by_cases h2 : c.toNat ≤ 57
    · refine .inl ⟨by omega, by omega, by simp [h1, h2], by simp [h1, h2]⟩
    · by_cases h3 : 97 ≤ c.toNat
      · by_cases h4 : c.toNat ≤ 102
        · refine .inr (.inl ⟨⟨by omega, by omega⟩, by omega, by omega, by simp [h1, h2, h3, h4], by simp [h1, h2, h3, h4], by simp [h3, h4]⟩)
        · refine .inr (.inr (.inr (.inr ⟨by omega, by omega, by omega, by omega, by simp [h1, h2, h3, h4]⟩)))
      · refine .inr (.inr (.inr (.inl ⟨by omega, by omega, by omega, by simp [h1, h2, h3]⟩)))
  · refine .inr (.inr (.inl ⟨by omega, by omega, by simp [h1]; omega⟩))

attribute [local go_sem] geq_u8_c leq_u8_c sub_u8_c add_u8_c cv8_i shr_u8 and_u8_c

theorem digit_any (c : UInt8) (w : World) : Calls Try.prog 31 #[bt c] w fun e w' => e = .returned (.int .i64 (digI c)) ∧ w = w' := by
  rcases cls c with ⟨h1, h2, hdk, hdv⟩ | ⟨⟨h1, h2⟩, h3, h4, hdk, hdv, h5⟩ | ⟨h1, h3, hdk⟩ | ⟨h1, h2, h3, hdk⟩ | ⟨h1, h2, h3, h4, hdk⟩
  · have e : digI c = ((c - c8 48).toNat : Int) := by unfold digI; rw [hdk.out, if_pos rfl, hdv.out]
    rw [e]
    clear e
    go_enter Try.func31, Try.ntmps31
    go_wp2
    go_ret
    exact ⟨rfl, rfl⟩
  · have e : digI c = ((c - c8 97).toNat : Int) + 10 := by
      unfold digI
      rw [hdk.out, if_pos rfl, hdv.out, ← dig10 c h5.out]
      rfl
    have hlt := (c - c8 97).toNat_lt
    rw [e]
    clear e
    go_enter Try.func31, Try.ntmps31
    go_wp2
    go_ret
    exact ⟨rfl, rfl⟩
  all_goals
    have e : digI c = -1 := by unfold digI; rw [hdk.out]; rfl
    rw [e]
    clear e
    go_enter Try.func31, Try.ntmps31
    go_wp2
    go_ret
    exact ⟨rfl, rfl⟩

set_option maxHeartbeats 1000000 in
set_option maxRecDepth 20000 in
theorem rhex_any {w : World} (s : ByteArray) (hs : s.size < 1099511627776) :
    Calls Try.prog 19 #[.string s] w fun e w' => e = .returned (.string (hexS s)) ∧ Fr [] w w' := by
  obtain ⟨i28, hi28, hz28, hs28, hb28⟩ := inf5
  have Hi := hid hi28
  have Hz := hid hz28
  have Hs := hid hs28
  have Hb := hid hb28
  clear hi28 hz28 hs28 hb28
  obtain ⟨p, hp⟩ : ∃ p, s.data.toList = p := ⟨_, rfl⟩
  unfold hexS
  rw [hp]
  have Hp := hid hp
  have hpl : p.length = s.size := by rw [← hp]; exact bytes_len s
  have Hpl := hid hpl
  clear hp hpl
  go_enter Try.func19, Try.ntmps19
  go_wp2_with fail
  go_loopw [3, 4] (fun bv0 iv wr => ∃ (m : Nat) (B : Option Nat), m ≤ s.size ∧ iv = .int .i64 m ∧ Own wr 1 bv0 (2 * m) (bv (hexL (p.take m))) B ∧ Fresh w B ∧ Fr [] w wr) (fun _ iv _ => s.size - (intOf iv).toNat)
  case atStart => exact ⟨0, _, by omega, rfl, Own.nil _ 1, Fresh.none _, Fr.refl _ _⟩
  case round =>
    obtain ⟨m, B, hm, rfl, ho, hF, f⟩ := hrel
    obtain ⟨ba, bc, rfl⟩ := ho.isSlice
    by_cases hlt : m < s.size
    · have hd1 : decide (m < s.size) = true := by simp; omega
      have hix : ∀ w0 : World, (Instr.index 9 (.string s) (.int .i64 m)).run Try.prog w0 = .ok (bt (g8 p m)) w0 := fun w0 => by
        have := index_str (P := Try.prog) w0 9 s .i64 m m Try.underlying9 rfl hlt 0
        rw [Hp.out] at this
        exact this
      have hy1 := fun w0 => digit_at w0 (shr8 (g8 p m) 4) (shr8_lt _)
      have hy2 := fun w0 => digit_at w0 (g8 p m &&& c8 15) (and15_lt _)
      go_wp2_with fail
      obtain ⟨ι, W, hι, hW1, hW2, hW0⟩ := family (fun w' => True) (w := wr.drew) trivial
      have HW1 := hid hW1
      have HW2 := hid hW2
      have HW0 := hid hW0
      clear hW1 hW2 hW0
      refine wp_region_X (fun w' => ∃ j, w' = W j) false (by kernel_rfl) ?_
      refine WX.pure [0, 1, 2, 3, 4, 5, 6, 7, 8, 9, 10] (by kernel_rfl) HW0.out ?_
      simp only [pick, List.toList_toArray, List.map_cons, List.map_nil, List.getD_cons_succ, List.getD_cons_zero]
      repeat (go_big_quiet_step (fail))
      refine wpQuiet_nil ?_
      refine WX.eff 11 (by kernel_rfl) ?_
      simp only [pick, List.toList_toArray, List.map_cons, List.map_nil, List.getD_cons_succ, List.getD_cons_zero]
      refine wpList_buildSlice_ones rfl _ 2 _ rfl 5 Try.underlying29 _ _ Hi.out Hz.out rfl Hs.out (by decide) (by decide) rfl (bv [hx1 (g8 p m), hx2 (g8 p m)]) rfl (bv_one _) ?_
      intro hbN
      refine wpList_nil ?_
      refine After.on (HW2.out _ trivial) ?_
      refine WX.eff 12 (by kernel_rfl) ?_
      simp only [pick, List.toList_toArray, List.map_cons, List.map_nil, List.getD_cons_succ, List.getD_cons_zero]
      have ho2 := ho.keep (((Fr.refl [] wr).drew).alloc (.cells (bv [hx1 (g8 p m), hx2 (g8 p m)]).toArray 5)) (by simp)
      refine wpList_append rfl _ _ _ rfl 5 _ _ 1 1 Try.underlying29 Hi.out Hz.out Hs.out Hb.out rfl (by decide) rfl ho2 ⟨wr.heap.size, 0, none⟩ 2 2 (bv [hx1 (g8 p m), hx2 (g8 p m)]) rfl rfl (hbN.cells rfl) (bv_one _) (by unfold maxLen; omega) (by omega) ?_
      intro v3 w3 B3 ho3 f3 hB3
      refine wpList_nil ?_
      refine After.on (HW2.out _ trivial) ?_
      simp only [Act.put, List.setIfInBounds_toArray, List.set_cons_succ, List.set_cons_zero]
      refine WX.pure [13] (by kernel_rfl) (HW2.out _ trivial) ?_
      simp only [pick, List.toList_toArray, List.map_cons, List.map_nil, List.getD_cons_succ, List.getD_cons_zero]
      repeat (go_big_quiet_step (fail))
      refine wpQuiet_nil ?_
      refine WX.done (by kernel_rfl) ?_
      clear HW1 HW2 HW0 hι W ι
      have fa : Fr [] wr (wr.drew.alloc (.cells (bv [hx1 (g8 p m), hx2 (g8 p m)]).toArray 5)) := ((Fr.refl [] wr).drew).alloc _
      clear hix hy1 hy2 hbN ho2
      go_wp2_with fail
      go_roundw
      case rel =>
        refine ⟨m + 1, B3, by omega, by go_num, ?_, hF.step (f.trans' fa) hB3, hF.fr (f.trans' fa) f3⟩
        have e : bv (hexL (p.take (m + 1))) = bv (hexL (p.take m)) ++ bv [hx1 (g8 p m), hx2 (g8 p m)] := by
          rw [List.take_succ_eq_append_getElem (by rw [Hpl.out]; exact hlt), hexL_snoc, bv_append]
          have e2 : p[m]'(by rw [Hpl.out]; exact hlt) = g8 p m := by
            have := g8_eq p m (by rw [Hpl.out]; exact hlt)
            rw [List.getElem?_eq_getElem (by rw [Hpl.out]; exact hlt)] at this
            exact Option.some.inj this
          rw [e2]
        rw [e, show 2 * (m + 1) = 2 * m + 2 by omega]
        exact ho3
      case measure => simp [intOf]; omega
    · have em : m = s.size := by omega
      have hd1 : decide (m < s.size) = false := by simp; omega
      have ho9 : Own wr 1 (.slice ba (2 * m) bc) (2 * m) (bv (hexL p)) B := by
        have e : p.take m = p := List.take_of_length_le (by rw [Hpl.out, em]; exact Nat.le_refl _)
        rw [e] at ho
        exact ho
      clear em ho
      go_wp2_with (refine wpList_string_of_own rfl _ _ 5 _ rfl rfl ho9 Try.underlying29 Try.underlying5 Try.underlying9 ?_; (try simp only [World.size_alloc, World.size_drew, Act.put, List.setIfInBounds_toArray, List.set_cons_succ, List.set_cons_zero]))
      go_ret
      exact ⟨rfl, f⟩

set_option maxHeartbeats 1000000 in
set_option maxRecDepth 20000 in
theorem rread_any {w : World} (s : ByteArray) (hs : s.size ≤ 9223372036854775807) : Calls Try.prog 17 #[.string s] w fun e w' => e = .returned (.tuple #[.string (readS s), .int .i64 (readE s)]) ∧ Fr [] w w' := by
  by_cases h64 : s.size = 64
  · obtain ⟨i28, hi28, hz28, hs28, hb28⟩ := inf5
    have Hi := hid hi28
    have Hz := hid hz28
    have Hs := hid hs28
    have Hb := hid hb28
    clear hi28 hz28 hs28 hb28
    have Hyes := hid (read_yes s h64)
    have Hno := hid (fun h => read_no s (.inr h))
    obtain ⟨p, hp⟩ : ∃ p, s.data.toList = p := ⟨_, rfl⟩
    rw [hp] at Hyes Hno
    have Hp := hid hp
    have H64 := hid h64
    have hd0 : ((s.size : Int) != 64) = false := by simp; omega
    clear hp h64
    go_enter Try.func17, Try.ntmps17
    go_wp2_with fail
    go_loopw [4, 5] (fun bv0 iv wr => ∃ (m : Nat) (B : Option Nat), m ≤ 32 ∧ iv = .int .i64 ((2 * m : Nat) : Int) ∧ Own wr 1 bv0 m (bv (nibL p m)) B ∧ Hid (allOk p (2 * m)) ∧ Fresh w B ∧ Fr [] w wr) (fun _ iv _ => 64 - (intOf iv).toNat)
    case atStart => exact ⟨0, none, by omega, rfl, Own.nil _ 1, hid (fun j hj => by omega), Fresh.none _, Fr.refl _ _⟩
    case round =>
      obtain ⟨m, B, hm, rfl, ho, hok, hF, f⟩ := hrel
      obtain ⟨ba, bc, rfl⟩ := ho.isSlice
      by_cases hlt : m < 32
      · have hd1 : decide (((2 * m : Nat) : Int) < 64) = true := by simp; omega
        have hix : ∀ (i : Int) (j : Nat), i = j → j < 64 → ∀ w0 : World, (Instr.index 9 (.string s) (.int .i64 i)).run Try.prog w0 = .ok (bt (g8 p j)) w0 := fun i j h1 h2 w0 => by
          have := index_str (P := Try.prog) w0 9 s .i64 i j Try.underlying9 h1 (by rw [H64.out]; exact h2) 0
          rw [Hp.out] at this
          exact this
        have hx0 := hix ((2 * m : Nat) : Int) (2 * m) rfl (by omega)
        have hx0' := hix (2 * (m : Int)) (2 * m) (by omega) (by omega)
        have hx1 := hix (2 * (m : Int) + 1) (2 * m + 1) (by omega) (by omega)
        have hx1' := hix (((2 * m : Nat) : Int) + 1) (2 * m + 1) (by omega) (by omega)
        clear hix
        obtain ⟨c, hce⟩ : ∃ c, g8 p (2 * m) = c := ⟨_, rfl⟩
        obtain ⟨d, hde⟩ : ∃ d, g8 p (2 * m + 1) = d := ⟨_, rfl⟩
        rw [hce] at hx0 hx0'
        rw [hde] at hx1 hx1'
        have Hce := hid hce
        have Hde := hid hde
        clear hce hde
        have hw1 : IntKind.i64.wrap (2 * (m : Int) + 1) = 2 * (m : Int) + 1 := IntWalk.i64_in _ (by omega)
        go_wp2_with fail
        obtain ⟨ι, W, hι, hW1, hW2, hW0⟩ := family (fun w' => True) (w := wr.drew) trivial
        have HW1 := hid hW1
        have HW2 := hid hW2
        have HW0 := hid hW0
        clear hW1 hW2 hW0
        refine wp_region_X (fun w' => ∃ j, w' = W j) false (by kernel_rfl) ?_
        refine WX.pure [0, 1, 2, 4, 5, 6, 7] (by kernel_rfl) HW0.out ?_
        simp only [pick, List.toList_toArray, List.map_cons, List.map_nil, List.getD_cons_succ, List.getD_cons_zero]
        repeat (go_big_quiet_step (fail))
        refine wpQuiet_nil ?_
        refine WX.eff 3 (by kernel_rfl) ?_
        simp only [pick, List.toList_toArray, List.map_cons, List.map_nil, List.getD_cons_succ, List.getD_cons_zero]
        go_wp2_with (go_at_call 31; refine (digit_any _ _).mono ?_; rintro e w' ⟨rfl, rfl⟩)
        refine After.on HW0.out ?_
        refine WX.eff 8 (by kernel_rfl) ?_
        simp only [pick, List.toList_toArray, List.map_cons, List.map_nil, List.getD_cons_succ, List.getD_cons_zero]
        go_wp2_with (go_at_call 31; refine (digit_any _ _).mono ?_; rintro e w' ⟨rfl, rfl⟩)
        refine After.on HW0.out ?_
        refine WX.pure [9, 10] (by kernel_rfl) HW0.out ?_
        simp only [pick, List.toList_toArray, List.map_cons, List.map_nil, List.getD_cons_succ, List.getD_cons_zero]
        repeat (go_big_quiet_step (fail))
        refine wpQuiet_nil ?_
        refine WX.done (by kernel_rfl) ?_
        clear HW1 HW2 HW0 hι W ι
        have ho2 := ho.keep (Fr.refl [] wr).drew (by simp)
        have f2 := f.drew
        clear hx0 hx0' hx1 hx1' ho f
        generalize wr.drew = w4 at *
        cases hc : dok c with
        | false =>
          have e : digI c = -1 := by unfold digI; rw [hc]; rfl
          have Hr := hid (Hno.out ⟨2 * m, by omega, by rw [Hce.out]; exact hc⟩)
          rw [e]
          clear e hc
          go_wp2_with fail
          go_ret2
          rw [Hr.out.1, Hr.out.2]
          exact ⟨rfl, f2⟩
        | true =>
          have e : digI c = ((dv c).toNat : Int) := by unfold digI; rw [hc]; rfl
          have hvc := dv_lt c hc
          have Hc := hid hc
          rw [e]
          clear e hc
          cases hd : dok d with
          | false =>
            have e : digI d = -1 := by unfold digI; rw [hd]; rfl
            have Hr := hid (Hno.out ⟨2 * m + 1, by omega, by rw [Hde.out]; exact hd⟩)
            rw [e]
            clear e hd
            go_wp2_with fail
            go_ret2
            rw [Hr.out.1, Hr.out.2]
            exact ⟨rfl, f2⟩
          | true =>
            have e : digI d = ((dv d).toNat : Int) := by unfold digI; rw [hd]; rfl
            have hvd := dv_lt d hd
            have Hd := hid hd
            rw [e]
            have hcv : ∀ w0 : World, (convert 3 5 (.int .i64 (16 * ((dv c).toNat : Int) + ((dv d).toNat : Int)))).run Try.prog w0 = .ok (bt (nib p m 2)) w0 := fun w0 => by
              rw [cvi_8 w0 _ (16 * (dv c).toNat + (dv d).toNat) (by omega), nib_byte _ _ hvc hvd, nib_two, Hce.out, Hde.out]
            clear e hd
            go_wp2_with (refine wpList_append1 rfl rfl 29 _ _ _ rfl rfl 5 _ _ 1 Try.underlying29 Hi.out Hz.out Hs.out Hb.out rfl (bt (nib p m 2)) rfl rfl rfl rfl ho2 (by unfold maxLen; omega) (by omega) ?_; intro v3 w3 B3 ho3 f3 hB3; simp only [World.size_alloc, World.size_drew, Act.put, List.setIfInBounds_toArray, List.set_cons_succ, List.set_cons_zero])
            go_roundw
            case rel =>
              refine ⟨m + 1, B3, by omega, by go_num, ?_, ?_, hF.step f2 hB3, hF.fr f2 f3⟩
              · rw [nibL_succ, bv_append]
                exact ho3
              · refine hid (fun j hj => ?_)
                by_cases h1 : j < 2 * m
                · exact hok.out j h1
                · by_cases h2 : j = 2 * m
                  · rw [h2, Hce.out]; exact Hc.out
                  · rw [show j = 2 * m + 1 by omega, Hde.out]; exact Hd.out
            case measure => simp [intOf]; omega
      · have em : m = 32 := by omega
        have hd1 : decide (((2 * m : Nat) : Int) < 64) = false := by simp; omega
        have hok2 : allOk p 64 := by
          have := hok.out
          rw [em] at this
          exact this
        have Hr := hid (Hyes.out hok2)
        have ho9 : Own wr 1 (.slice ba m bc) m (bv (nibL p 32)) B := by
          have e : nibL p m = nibL p 32 := by rw [em]
          rw [← e]
          exact ho
        clear em hok2 ho
        go_wp2_with (refine wpList_string_of_own rfl _ _ 5 _ rfl rfl ho9 Try.underlying29 Try.underlying5 Try.underlying9 ?_; (try simp only [World.size_alloc, World.size_drew, Act.put, List.setIfInBounds_toArray, List.set_cons_succ, List.set_cons_zero]))
        go_ret2
        rw [Hr.out.1, Hr.out.2]
        exact ⟨rfl, f⟩
  · have hr := read_no s (.inl h64)
    rw [hr.1, hr.2]
    have hne : ((s.size : Int) != 64) = true := by simp; omega
    clear h64 hr
    go_enter Try.func17, Try.ntmps17
    go_wp2
    go_ret2
    exact ⟨rfl, Fr.refl _ _⟩
end Go.Proofs.Ytkohnmlnpbkphaa
