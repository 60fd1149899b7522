/- Layer 6, the document's disk: Read, Wire, Replace, Fail, Loose. -/
import Derived.Test.YtflapddkeeiieaaRefA
namespace Go.Proofs.Ytflapddkeeiieaa
open Go Go.Xr Go.RowKit
set_option linter.unusedVariables false
set_option linter.unusedSimpArgs false

theorem xread_ok {w : World} {x : Nat} {X : XD} {pw : Option (Nat × Nat)} {i : XI} (h : Held w (Res.pow pw :: xps x X pw i)) (q : Nat) (hq : q < X.Kept.length) (hk : X.Kept.length ≤ 16384) (hl : X.L.length < 1000000) (hm : mayN X pw q ⟨#[]⟩ false = 0) :
    Calls Try.prog 43 #[.pointer (some ⟨x, 0, none⟩), .int .i64 q] w fun e w' => e = .returned (.tuple #[.string (nowX X.L q X.Kept[q]), .int .i64 0]) ∧ w = w' := by
  have h1 := may_any h q ⟨#[]⟩ (by decide) false
  rw [hm] at h1
  have h2 := now_any h q hq hk hl
  clear h hm
  go_enter Try.func43, Try.ntmps43
  go_wp2_with (first
    | (go_at_call 57; refine h1.mono ?_; rintro e w' ⟨rfl, rfl⟩)
    | (go_at_call 54; refine h2.mono ?_; rintro e w' ⟨rfl, rfl⟩))
  go_ret2
  exact ⟨rfl, rfl⟩

theorem xread_err {w : World} {x : Nat} {X : XD} {pw : Option (Nat × Nat)} {i : XI} (h : Held w (Res.pow pw :: xps x X pw i)) (q : Int) (e0 : Int) (hm : mayN X pw q ⟨#[]⟩ false = e0) (he : e0 = 60 ∨ e0 = 2) :
    Calls Try.prog 43 #[.pointer (some ⟨x, 0, none⟩), .int .i64 q] w fun e w' => e = .returned (.tuple #[.string ⟨#[]⟩, .int .i64 e0]) ∧ w = w' := by
  have h1 := may_any h q ⟨#[]⟩ (by decide) false
  rw [hm] at h1
  clear h hm
  rcases he with rfl | rfl
  all_goals
    go_enter Try.func43, Try.ntmps43
    go_wp2_with (go_at_call 57; refine h1.mono ?_; rintro e w' ⟨rfl, rfl⟩)
    go_ret2
    exact ⟨rfl, rfl⟩

/-- May it do anything at all? -/
def xdead (X : XD) (pw : Option (Nat × Nat)) : Bool := X.Dead || offB pw

theorem xwire_dead {w : World} {x : Nat} {X : XD} {pw : Option (Nat × Nat)} {i : XI} (h : Held w (Res.pow pw :: xps x X pw i)) (v : Value) (hd : xdead X pw = true) :
    Calls Try.prog 21 #[.pointer (some ⟨x, 0, none⟩), v] w fun e w' => e = .returned (.int .i64 60) ∧ w = w' := by
  have h1 := off_any h
  have hc := (h.blkAt 1 rfl).cell
  clear h
  unfold xdead at hd
  cases hX : X.Dead with
  | true =>
    rw [hX] at hc
    clear hX hd
    go_enter Try.func21, Try.ntmps21
    go_wp2
    go_ret
    exact ⟨rfl, rfl⟩
  | false =>
    rw [hX] at hc hd
    have ho : offB pw = true := by simpa using hd
    rw [ho] at h1
    clear hX hd ho
    go_enter Try.func21, Try.ntmps21
    go_wp2_with (go_at_call 49; refine h1.mono ?_; rintro e w' ⟨rfl, rfl⟩)
    go_ret
    exact ⟨rfl, rfl⟩

theorem xwire_ok {w : World} {x : Nat} {X : XD} {pw : Option (Nat × Nat)} {i : XI} (h : Held w (Res.pow pw :: xps x X pw i)) (pn : Option (Nat × Nat)) (hd : xdead X pw = false) :
    Calls Try.prog 21 #[.pointer (some ⟨x, 0, none⟩), pwv pn] w fun e w' => e = .returned (.int .i64 0) ∧ Ev w (xps x X pw i) w' (xps x X pn i) := by
  have h1 := off_any h
  have hb := h.blkAt 1 rfl
  have hc := hb.cell
  have hf := hb.free 4 (by simp)
  have hX : X.Dead = false := by
    unfold xdead at hd
    cases e : X.Dead
    · rfl
    · rw [e] at hd; cases hd
  have ho : offB pw = false := by
    unfold xdead at hd
    rw [hX] at hd
    simpa using hd
  rw [ho] at h1
  rw [hX] at hc
  have H : Hid (Held w (xps x X pw i)) := hid (Held.part [Res.pow pw] [] (by simpa using h))
  clear h ho hd
  obtain ⟨pa, hpa⟩ : ∃ a, pwv pn = .pointer a := by cases pn <;> exact ⟨_, rfl⟩
  rw [hpa]
  go_enter Try.func21, Try.ntmps21
  go_wp2_with (go_at_call 49; refine h1.mono ?_; rintro e w' ⟨rfl, rfl⟩)
  go_ret
  refine ⟨rfl, ?_⟩
  have e := (Ev.refl H.out).cell 0 rfl 4 (.pointer pa)
  rw [← hpa] at e ⊢
  exact e

theorem xreplace_any {w : World} {x : Nat} {X : XD} {pw : Option (Nat × Nat)} {i : XI} (h : Held w (xps x X pw i)) :
    Calls Try.prog 45 #[.pointer (some ⟨x, 0, none⟩)] w fun e w' => e = .returned (.int .i64 (if X.Dead then 0 else 3)) ∧ Ev w (xps x X pw i) w' (xps x { X with Dead := false } pw i) := by
  have hb := h.blkAt 0 rfl
  have hc := hb.cell
  have hf := hb.free 3 (by simp)
  have H := hid h
  clear h
  obtain ⟨Kept, L, Trace, Dead⟩ := X
  cases Dead with
  | true =>
    go_enter Try.func45, Try.ntmps45
    go_wp2
    go_ret
    exact ⟨rfl, (Ev.refl H.out).cell 0 rfl 3 (.bool false)⟩
  | false =>
    go_enter Try.func45, Try.ntmps45
    go_wp2
    go_ret
    exact ⟨rfl, Ev.refl H.out⟩

/-- A text of the disk is written. -/
theorem own_set {w : World} {v : Value} {n : Nat} {xs : List Value} {b : Nat} (h : Xr.Own w 1 v n xs (some b)) (j : Nat) (hj : j < n) (u : Value) : Xr.Own (w.setCell ⟨b, j, none⟩ u) 1 v n (xs.set j u) (some b) := by
  refine ⟨by rw [List.length_set]; exact h.1, ?_⟩
  rcases h.2 with ⟨_, _, h1⟩ | ⟨b', cap, cs, hB, hv, h1, h2, h3, h4, h5⟩
  · cases h1
  · cases hB
    exact .inr ⟨b, cap, cs.set j u, rfl, hv, h1, h2, h3.set j u, by rw [List.length_set]; exact h4, by rw [List.take_set, h5]⟩
theorem xset_kept {w w1 : World} {rs : List Res} {x : Nat} {X : XD} {pw : Option (Nat × Nat)} {i : XI} (e : Ev w rs w1 (xps x X pw i)) {kb : Nat} (hK : i.K = some kb) (m : Nat) (s : ByteArray) (hm : m < X.Kept.length) :
    Ev w rs (w1.setCell ⟨kb, m, none⟩ (.string s)) (xps x { X with Kept := X.Kept.set m s } pw i) := by
  have ho : Xr.Own w1 1 i.kv X.Kept.length (X.Kept.map .string) i.K := e.held.ownAt 1 rfl
  rw [hK] at ho
  have h2 := own_set ho m hm (.string s)
  rw [← List.map_set] at h2
  have e2 := e.at 1 rfl (S := [kb]) ((Fr.refl [kb] w1).setCell (a := ⟨kb, m, none⟩) (.inl (by simp)) (.string s)) (fun b hb => .inl (by simp at hb; simp [Res.own, hK, hb])) (Res.On.own h2) (fun b hb => .inl (by simp [Res.own] at hb; simp [Res.own, hK, hb]))
  have h3 : (xps x X pw i).set 1 (Res.own 1 i.kv X.Kept.length ((X.Kept.set m s).map .string) (some kb)) = xps x { X with Kept := X.Kept.set m s } pw i := by
    simp only [xps, List.set_cons_succ, List.set_cons_zero, List.length_set, hK]
  rw [← h3]
  exact e2
theorem set_rep (m : Nat) (z : ByteArray) (l : List ByteArray) (h : m < l.length) : (List.replicate m z ++ l.drop m).set m z = List.replicate (m + 1) z ++ l.drop (m + 1) := by
  rw [List.set_append_right _ _ (by simp), List.length_replicate, Nat.sub_self, List.drop_eq_getElem_cons h, List.set_cons_zero, List.replicate_succ', List.append_assoc]
  rfl

def Zs : ByteArray := ⟨zsec.toArray⟩

theorem xfail_any {w : World} {x : Nat} {X : XD} {pw : Option (Nat × Nat)} {i : XI} (h : Held w (xps x X pw i)) (hk : X.Kept.length ≤ 16384) :
    Calls Try.prog 44 #[.pointer (some ⟨x, 0, none⟩)] w fun e w' => e = .returned (.int .i64 0) ∧ ∃ i', Ev w (xps x X pw i) w' (xps x { X with Kept := List.replicate X.Kept.length Zs, L := [], Dead := true } pw i') := by
  have hb := h.blkAt 0 rfl
  have hc := hb.cell
  have hf3 := hb.free 3 (by simp)
  have hf1 := hb.free 1 (by simp)
  have H := hid h
  obtain ⟨ka, kc, hkv⟩ := (h.ownAt 1 rfl : Xr.Own w 1 i.kv X.Kept.length (X.Kept.map .string) i.K).isSlice
  have Hkv := hid hkv
  rw [hkv] at hc
  clear h hkv hb
  go_enter Try.func44, Try.ntmps44
  go_upto_region 4 with fail
  have e0 := (((Ev.refl H.out).cell 0 rfl 3 (.bool true)).cell 0 rfl 1 (.slice none 0 0)).at 2 rfl (Fr.refl [] _) (by simp) (Res.On.own (Xr.Own.nil _ 2)) (by simp [Res.own])
  have e1 : Ev w (xps x X pw i) ((w.setCell ⟨x, 3, none⟩ (.bool true)).setCell ⟨x, 1, none⟩ (.slice none 0 0)) (xps x { X with L := [], Dead := true } pw { i with lv := .slice none 0 0, Lb := none }) := e0
  refine wp_world (fun w1 => Ev w (xps x X pw i) w1 (xps x { X with L := [], Dead := true } pw { i with lv := .slice none 0 0, Lb := none })) e1 ?_
  clear e0 e1 hc hf3 hf1
  intro w1 e1
  go_loopw [3] (fun j wr => ∃ m : Nat, m ≤ X.Kept.length ∧ j = .int .i64 m ∧ Ev w (xps x X pw i) wr (xps x { X with Kept := List.replicate m Zs ++ X.Kept.drop m, L := [], Dead := true } pw { i with lv := .slice none 0 0, Lb := none })) (fun j _ => X.Kept.length - (intOf j).toNat)
  case atStart => exact ⟨0, Nat.zero_le _, rfl, e1⟩
  case round =>
    obtain ⟨m, hm, rfl, e⟩ := hrel
    clear e1
    have hkl : (List.replicate m Zs ++ X.Kept.drop m).length = X.Kept.length := by
      rw [List.length_append, List.length_replicate, List.length_drop]
      omega
    have hb := e.held.blkAt 0 rfl
    simp only [] at hb
    rw [Hkv.out] at hb
    by_cases hlt : m < X.Kept.length
    · have hko := (e.held.ownAt 1 rfl : Xr.Own wr 1 i.kv (List.replicate m Zs ++ X.Kept.drop m).length ((List.replicate m Zs ++ X.Kept.drop m).map .string) i.K)
      have hc := hb.cell
      go_upto_region 6 with fail
      obtain ⟨ι, W, hι, hW1, hW2, hW0⟩ := family (fun w' => Blk w' x [.slice ka X.Kept.length kc, .slice none 0 0, i.tv, .bool true, pwv pw]) (w := wr.drew) hb
      have HW1 := hid hW1
      have HW2 := hid hW2
      have HW0 := hid hW0
      clear hW1 hW2 hW0
      have hS1 := fun j => (HW1.out j).cell
      clear hc
      refine wp_region_X (fun w' => ∃ j, w' = W j) true (by kernel_rfl) ?_
      refine WX.pure [0, 1, 2, 3, 4] (by kernel_rfl) HW0.out ?_
      simp only [pick, List.toList_toArray, List.map_cons, List.map_nil, List.getD_cons_succ, List.getD_cons_zero]
      repeat (go_big_quiet_step (fail))
      refine wpQuiet_nil ?_
      refine WX.eff 5 (by kernel_rfl) ?_
      simp only [pick, List.toList_toArray, List.map_cons, List.map_nil, List.getD_cons_succ, List.getD_cons_zero]
      go_wp2_with (go_at_call 40; refine xnought_any.mono ?_; rintro e2 w3 ⟨rfl, f3⟩)
      have f3' : Fr [] wr w3 := ((Fr.refl [] wr).drew).trans' f3
      have hb3 := f3'.blk hb (by simp)
      refine After.on (HW2.out _ hb3) ?_
      obtain ⟨kb, kcap, hK, hkv2, _, hkcm, hkc⟩ := own_open (hko.keep f3' (by simp)) (by omega)
      rw [Hkv.out] at hkv2
      rw [hkl] at hkv2
      obtain ⟨rfl, rfl⟩ : ka = some ⟨kb, 0, none⟩ ∧ kc = kcap := by simpa using hkv2
      obtain ⟨ck, fk⟩ := hkc m (by rw [List.length_map, hkl]; exact hlt)
      rw [List.getElem?_map, List.getElem?_eq_getElem (by omega), Option.map_some] at ck
      refine WX.pure [6] (by kernel_rfl) (HW2.out _ hb3) ?_
      simp only [pick, List.toList_toArray, List.map_cons, List.map_nil, List.getD_cons_succ, List.getD_cons_zero]
      repeat (go_big_quiet_step (fail))
      refine wpQuiet_nil ?_
      refine WX.eff 7 (by kernel_rfl) ?_
      simp only [pick, List.toList_toArray, List.map_cons, List.map_nil, List.getD_cons_succ, List.getD_cons_zero]
      go_wp2_with fail
      refine After.end rfl ?_
      refine WX.done (by kernel_rfl) ?_
      clear hS1
      clear HW1 HW2 HW0 hι W ι
      go_wp2_with fail
      go_roundw
      case rel =>
        refine ⟨m + 1, by omega, by go_num, ?_⟩
        have e3 := (e.step f3')
        have e4 := xset_kept e3 hK m Zs (by show m < (List.replicate m Zs ++ X.Kept.drop m).length; omega)
        simp only [] at e4
        rw [set_rep m Zs X.Kept hlt] at e4
        exact e4
      case measure => simp [intOf]; omega
    · obtain rfl : m = X.Kept.length := by omega
      have hc := hb.cell
      rw [List.drop_length, List.append_nil] at e
      go_wp2_with fail
      go_ret
      exact ⟨rfl, _, e⟩
end Go.Proofs.Ytflapddkeeiieaa
