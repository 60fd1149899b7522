/- Layer 6, the document's disk: Flush, Crash. -/
import Derived.Test.YtflapddkeeiieaaRefC
import Derived.Test.YtflapddkeeiieaaDet
namespace Go.Xr
open Go Go.RowKit
/-- One element of an owned slice is written. -/
theorem own_put {w : World} {v : Value} {n : Nat} {xs : List Value} {b : Nat} (h : Xr.Own w 1 v n xs (some b)) : ∃ cs, Blk w b cs ∧ n ≤ cs.length ∧ ∀ (i : Nat) (x : Value) (w' : World), Blk w' b (cs.set i x) → Xr.Own w' 1 v n (xs.set i x) (some b) := by
  rcases h.2 with ⟨_, _, h1⟩ | ⟨b', cap, cs, hB, hv, h1, h2, h3, h4, h5⟩
  · cases h1
  · cases hB
    rw [Nat.mul_one] at h4 h5
    refine ⟨cs, h3, by omega, fun i x w' hb => ⟨by rw [List.length_set]; exact h.1, .inr ⟨b, cap, cs.set i x, rfl, hv, h1, h2, hb, by simp [h4], ?_⟩⟩⟩
    rw [Nat.mul_one, List.take_set, h5]
end Go.Xr
namespace Go.Proofs.Ytflapddkeeiieaa
open Go Go.Xr Go.RowKit
set_option linter.unusedVariables false
set_option linter.unusedSimpArgs false
/-- The writes, one behind the other. -/
def setX (K : List ByteArray) (l : List (Nat × ByteArray)) : List ByteArray := l.foldl (fun K p => K.set p.1 p.2) K
theorem setX_snoc (K : List ByteArray) (l : List (Nat × ByteArray)) (p : Nat × ByteArray) : setX K (l ++ [p]) = (setX K l).set p.1 p.2 := by simp [setX]
theorem setX_len : ∀ (l : List (Nat × ByteArray)) (K : List ByteArray), (setX K l).length = K.length
  | [], K => rfl
  | p :: l, K => by
    show (setX (K.set p.1 p.2) l).length = _
    rw [setX_len l, List.length_set]
/-- Those that are kept. -/
def keptL : List (Nat × ByteArray) → List Bool → List (Nat × ByteArray)
  | [], _ => []
  | p :: l, ks => if ks.headD false then p :: keptL l ks.tail else keptL l ks.tail
theorem keptL_snoc : ∀ (l : List (Nat × ByteArray)) (ks : List Bool) (p : Nat × ByteArray), keptL (l ++ [p]) ks = keptL l ks ++ (if ks.getD l.length false then [p] else [])
  | [], ks, p => by
    cases ks with
    | nil => rfl
    | cons k ks => simp [keptL]
  | q :: l, ks, p => by
    rw [List.cons_append, keptL, keptL, keptL_snoc l ks.tail p]
    cases ks with
    | nil => simp
    | cons k ks => cases k <;> simp
theorem xflush_err {w : World} {x : Nat} {X : XD} {pw : Option (Nat × Nat)} {i : XI} (h : Held w (Res.pow pw :: xps x X pw i)) (hd : xdead X pw = true) :
    Calls Try.prog 25 #[.pointer (some ⟨x, 0, none⟩)] w fun e w' => e = .returned (.int .i64 60) ∧ w = w' := by
  have h1 := off_any h
  have hc := (h.blkAt 1 rfl).cell
  unfold xdead at hd
  obtain ⟨Kept, L, Trace, Dead⟩ := X
  clear h
  cases Dead with
  | true =>
    go_enter Try.func25, Try.ntmps25
    go_wp2
    go_ret
    exact ⟨rfl, rfl⟩
  | false =>
    rw [show offB pw = true by simpa using hd] at h1
    go_enter Try.func25, Try.ntmps25
    go_wp2_with (go_at_call 49; refine h1.mono ?_; rintro e w' ⟨rfl, rfl⟩)
    go_ret
    exact ⟨rfl, rfl⟩
set_option maxHeartbeats 1000000 in
set_option maxRecDepth 20000 in
theorem xflush_ok {w : World} {x : Nat} {X : XD} {pw : Option (Nat × Nat)} {i : XI} (h : Held w (Res.pow pw :: xps x X pw i)) (hd : xdead X pw = false) (hK0 : 0 < X.Kept.length) (hKm : X.Kept.length ≤ 16384) (hL : ∀ p ∈ X.L, p.1 < X.Kept.length) (hl : X.L.length < 1000000) (ht : X.Trace.length < 1000000) :
    Calls Try.prog 25 #[.pointer (some ⟨x, 0, none⟩)] w fun e w' => e = .returned (.int .i64 0) ∧
      ∃ i', Ev w (Res.pow pw :: xps x X pw i) w' (Res.pow (pwDec pw) :: xps x { X with Kept := setX X.Kept X.L, L := [], Trace := X.Trace ++ [-1] } (pwDec pw) i') := by
  have h1 := off_any h
  have hX : X.Dead = false := by
    unfold xdead at hd
    cases e : X.Dead
    · rfl
    · rw [e] at hd; cases hd
  have ho : offB pw = false := by
    unfold xdead at hd
    rw [hX] at hd
    simpa using hd
  rw [ho] at h1
  obtain ⟨i3, hi3, hz3, hs3, hb3⟩ := inf3
  have Hi3 := hid hi3
  have Hz3 := hid hz3
  have Hs3 := hid hs3
  have Hb3 := hid hb3
  clear hi3 hz3 hs3 hb3
  have hko := (h.ownAt 2 rfl : Xr.Own w 1 i.kv X.Kept.length (X.Kept.map .string) i.K)
  obtain ⟨kb, kc, hiK, hkv, hkc1, _, _⟩ := own_open hko hK0
  have hlo := (h.ownAt 3 rfl : Xr.Own w 2 i.lv X.L.length (xlc X.L) i.Lb)
  obtain ⟨la, lc, hlv⟩ := hlo.isSlice
  have hto := (h.ownAt 4 rfl : Xr.Own w 1 i.tv X.Trace.length (X.Trace.map (.int .i64)) i.T)
  obtain ⟨ta, tc, htv⟩ := hto.isSlice
  have e0 := Ev.refl h
  unfold xps at e0
  rw [hkv, hlv, htv, hiK] at e0
  obtain ⟨kn, hkn⟩ : ∃ kn, X.Kept.length = kn := ⟨_, rfl⟩
  obtain ⟨ln, hln⟩ : ∃ ln, X.L.length = ln := ⟨_, rfl⟩
  obtain ⟨tn, htn⟩ : ∃ tn, X.Trace.length = tn := ⟨_, rfl⟩
  have Hkn := hid hkn
  have Hln := hid hln
  have Htn := hid htn
  rw [hkn] at e0 hK0 hKm hL hkc1
  rw [hln] at e0 hl
  rw [htn] at e0 ht
  have HL := hid hL
  have k3 : w.cell? ⟨x, 3, none⟩ = some (.bool false) := by rw [← hX]; exact (h.blkAt 1 rfl).cell 3
  have Hkv := hid hkv
  have Hlv := hid hlv
  have Htv := hid htv
  have HiK := hid hiK
  have HX := hid hX
  have E0 := hid e0
  have Ho := hid ho
  clear h hkv hlv htv hkn hln htn hto hlo hko e0 hiK hd hL hX ho
  go_enter Try.func25, Try.ntmps25
  go_wp2_with (go_at_call 49; refine h1.mono ?_; rintro e w' ⟨rfl, hw⟩; subst hw)
  go_loopw [3] (fun kv wr => ∃ m : Nat, kv = .int .i64 (m : Int) ∧ m ≤ ln ∧ Ev w (Res.pow pw :: xps x X pw i) wr [Res.pow pw, Res.blk x [.slice (some ⟨kb, 0, none⟩) kn kc, .slice la ln lc, .slice ta tn tc, .bool X.Dead, pwv pw], Res.own 1 (.slice (some ⟨kb, 0, none⟩) kn kc) kn ((setX X.Kept (X.L.take m)).map .string) (some kb), Res.own 2 (.slice la ln lc) ln (xlc X.L) i.Lb, Res.own 1 (.slice ta tn tc) tn (X.Trace.map (.int .i64)) i.T]) (fun kv _ => ln - (intOf kv).toNat)
  case atStart =>
    refine ⟨0, rfl, Nat.zero_le _, ?_⟩
    unfold xps
    rw [Hkv.out, Hlv.out, Htv.out, HiK.out, Hkn.out, Hln.out, Htn.out]
    exact E0.out
  case round =>
    obtain ⟨m, rfl, hm, ev⟩ := hrel
    clear k3
    have hb := ev.held.blkAt 1 rfl
    have s0 : wr.cell? ⟨x, 0, none⟩ = some (.slice (some ⟨kb, 0, none⟩) kn kc) := hb.cell 0
    have s1 : wr.cell? ⟨x, 1, none⟩ = some (.slice la ln lc) := hb.cell 1
    have s2 : wr.cell? ⟨x, 2, none⟩ = some (.slice ta tn tc) := hb.cell 2
    by_cases hml : m < ln
    · have d1 : decide ((m : Int) < (ln : Int)) = true := by simp; omega
      have d1' : (m : Int) < (ln : Int) := by omega
      have hlr : Xr.Own wr 2 (.slice la ln lc) ln (xlc X.L) i.Lb := ev.held.ownAt 3 rfl
      obtain ⟨lb, lcap, _, hlv, hlc0, _, hlc⟩ := own_open hlr (by omega)
      obtain ⟨rfl, rfl⟩ : la = some ⟨lb, 0, none⟩ ∧ lc = lcap := by simpa using hlv
      have hmX : m < X.L.length := by rw [Hln.out]; exact hml
      have q1 := (hlc (m * 2) (by rw [xlc_len]; omega)).1
      have q2 := (hlc (m * 2 + 1) (by rw [xlc_len]; omega)).1
      rw [(xlc_get X.L m hmX).1] at q1
      rw [(xlc_get X.L m hmX).2] at q2
      have hp := HL.out X.L[m] (List.getElem_mem _)
      have Hst := hid (show setX X.Kept (X.L.take (m + 1)) = (setX X.Kept (X.L.take m)).set X.L[m].1 X.L[m].2 by rw [List.take_succ_eq_append_getElem hmX, setX_snoc])
      obtain ⟨⟨p, s⟩, hps⟩ : ∃ p, X.L[m] = p := ⟨_, rfl⟩
      rw [hps] at q1 q2 hp Hst
      simp only at q1 q2 hp Hst
      have hp' : (p : Int) < (kn : Int) := by omega
      have hpd : decide ((p : Int) < (kn : Int)) = true := by simp; omega
      obtain ⟨kcs, y1, y2, y3⟩ := own_put (show Xr.Own wr 1 (.slice (some ⟨kb, 0, none⟩) kn kc) kn ((setX X.Kept (X.L.take m)).map .string) (some kb) from ev.held.ownAt 2 rfl)
      have Y3 := hid y3
      have EV := hid ev
      clear y3 ev hlc hlv hlr hps hmX hb
      go_wp2_with fail
      refine wp_region_D (fun _ => True) true [] (by kernel_rfl) ?_
      refine WD.pure [0, 1, 2, 3, 4, 5, 6, 7, 8, 9, 10, 11, 12, 13, 14, 15, 16, 17, 18, 19, 20] (by kernel_rfl) trivial ?_
      simp only [pick, List.toList_toArray, List.map_cons, List.map_nil, List.getD_cons_succ, List.getD_cons_zero]
      repeat (first | go_big_quiet_step (fail))
      refine wpQuiet_nil ?_
      refine WD.eff 21 (by kernel_rfl) ?_
      simp only [pick, List.toList_toArray, List.map_cons, List.map_nil, List.getD_cons_succ, List.getD_cons_zero]
      go_wp2_with (refine wpList_put rfl _ _ _ rfl rfl (.string s) rfl rfl (show Blk wr.drew kb kcs from y1) (by omega) (by kernel_rfl) ?_; intro w5 f5 b5 hs5; simp only [World.size_alloc, World.size_drew, Act.put, List.setIfInBounds_toArray, List.set_cons_succ, List.set_cons_zero])
      try refine wpList_nil ?_
      refine AfterD.end rfl (by kernel_rfl) ?_
      try simp only [World.size_alloc, World.size_drew, Act.put, List.setIfInBounds_toArray, List.set_cons_succ, List.set_cons_zero]
      refine WD.done (by kernel_rfl) ?_
      go_wp2_with fail
      go_roundw
      case rel =>
        refine ⟨m + 1, by first | rfl | go_num, by omega, ?_⟩
        have o5 := Y3.out p (.string s) w5 b5
        have e5 := (EV.out.step (Fr.refl [] wr).drew).at 2 rfl f5 (fun b hb => .inl (by simpa [Res.own] using hb)) (Res.On.own o5) (fun b hb => .inl (by simpa [Res.own] using hb))
        rw [Hst.out, List.map_set]
        exact e5
      case measure => simp [intOf]; omega
    · have d1 : decide ((m : Int) < (ln : Int)) = false := by simp; omega
      have d1' : ¬ ((m : Int) < (ln : Int)) := by omega
      obtain rfl : m = ln := by omega
      rw [List.take_of_length_le (by rw [Hln.out]; exact Nat.le_refl _)] at ev
      have e0 := ev.at 3 rfl (Fr.refl [] _) (by simp) (Res.On.own (Own.nil wr 2)) (by simp [Res.own])
      have EV := hid e0
      clear ev e0
      go_wp2_with (first
        | (refine wpList_put rfl _ _ _ rfl rfl (.slice none 0 0) rfl rfl hb (by simp) (by kernel_rfl) ?_; intro w4 f4 b4 hs4; have e4 := EV.out.put 1 rfl f4 b4; have k4 : w4.cell? ⟨x, 2, none⟩ = some (.slice ta tn tc) := b4.cell 2; have to4 := e4.held.ownAt 4 rfl; have E4 := hid e4; clear e4 f4 b4; simp only [World.size_alloc, World.size_drew, Act.put, List.setIfInBounds_toArray, List.set_cons_succ, List.set_cons_zero])
        | (refine wpList_buildSlice_r rfl _ 1 _ rfl 3 Try.underlying37 _ _ Hi3.out Hz3.out rfl Hs3.out (by decide) (by decide) (by decide) [.int .i64 (-1)] rfl (by intro v hv; simp at hv; rcases hv with rfl; rfl) ?_; intro w5 f5 hlt5 hb5; simp only [World.size_alloc, World.size_drew, Act.put, List.setIfInBounds_toArray, List.set_cons_succ, List.set_cons_zero])
        | (refine wpList_append_rc rfl _ _ _ rfl 3 _ _ 1 8 Try.underlying37 Hi3.out Hz3.out Hs3.out Hb3.out rfl (by decide) rfl (to4.keep f5 (by simp)) rfl (rc_blk hb5 rfl (by decide)) (by intro u hu; simp at hu; subst hu; rfl) (by unfold maxLen; omega) (by omega) ?_; intro v6 w6 B6 ho6 f6 hB6; obtain ⟨wa, wc, rfl⟩ := ho6.isSlice; have e6 := xapp_ev (E4.out.step f5) 4 rfl ho6 f6 hB6; have bk6 := e6.held.blkAt 1 rfl; have E6 := hid e6; clear e6; simp only [World.size_alloc, World.size_drew, Act.put, List.setIfInBounds_toArray, List.set_cons_succ, List.set_cons_zero])
        | (refine wpList_put rfl _ _ _ rfl rfl (.slice wa (tn + 1) wc) rfl rfl bk6 (by simp) (by kernel_rfl) ?_; intro w7 f7 b7 hs7; have e7 := E6.out.put 1 rfl f7 b7; revert e7; simp only [World.size_alloc, World.size_drew, Act.put, List.setIfInBounds_toArray, List.set_cons_succ, List.set_cons_zero]))
      intro e7
      have hfin : Ev w (Res.pow pw :: xps x X pw i) w7 (Res.pow pw :: xps x { X with Kept := setX X.Kept X.L, L := [], Trace := X.Trace ++ [-1] } pw ⟨.slice (some ⟨kb, 0, none⟩) kn kc, .slice none 0 0, .slice wa (tn + 1) wc, some kb, none, B6⟩) := by
        have hx : xps x { X with Kept := setX X.Kept X.L, L := [], Trace := X.Trace ++ [-1] } pw ⟨.slice (some ⟨kb, 0, none⟩) kn kc, .slice none 0 0, .slice wa (tn + 1) wc, some kb, none, B6⟩ = [Res.blk x [.slice (some ⟨kb, 0, none⟩) kn kc, .slice none 0 0, .slice wa (tn + 1) wc, .bool X.Dead, pwv pw], Res.own 1 (.slice (some ⟨kb, 0, none⟩) kn kc) kn ((setX X.Kept X.L).map .string) (some kb), Res.own 2 (.slice none 0 0) 0 [] none, Res.own 1 (.slice wa (tn + 1) wc) (tn + 1) (X.Trace.map (.int .i64) ++ [.int .i64 (-1)]) B6] := by
          unfold xps
          simp only [List.length_append, List.length_cons, List.length_nil, Htn.out, setX_len, Hkn.out, List.map_append, List.map_cons, List.map_nil]
          rfl
        rw [hx]
        exact e7
      have Hfin := hid hfin
      have Htk := hid (xtook_any hfin.held Ho.out)
      clear e7 hfin s0 s1 s2 f5 hlt5 hb5 f6 hB6 ho6 f7 b7 k4 to4 bk6 hb
      go_wp2_with (go_at_call 51; refine Htk.out.mono ?_; rintro e w8 ⟨rfl, e8⟩)
      go_ret
      exact ⟨rfl, _, Hfin.out.trans e8⟩
theorem xcrash_dead {w : World} {x : Nat} {X : XD} {pw : Option (Nat × Nat)} {i : XI} (h : Held w (xps x X pw i)) (v : Value) (hd : X.Dead = true) :
    Calls Try.prog 24 #[.pointer (some ⟨x, 0, none⟩), v] w fun e w' => e = .returned (.int .i64 60) ∧ Ev w (xps x X pw i) w' (xps x X none i) := by
  have hb : Blk w x [i.kv, i.lv, i.tv, .bool true, pwv pw] := by rw [← hd]; exact h.blkAt 0 rfl
  have hc := hb.cell 3
  have e0 := Ev.refl h
  have E0 := hid e0
  have Hd := hid hd
  clear h e0 hd
  go_enter Try.func24, Try.ntmps24
  go_wp2_with (refine wpList_put rfl _ _ _ rfl rfl (.pointer none) rfl rfl hb (by simp) (by kernel_rfl) ?_; intro w4 f4 b4 hs4; have e4 := E0.out.put 0 rfl f4 b4; have k4 : w4.cell? ⟨x, 3, none⟩ = some (.bool true) := b4.cell 3; simp only [World.size_alloc, World.size_drew, Act.put, List.setIfInBounds_toArray, List.set_cons_succ, List.set_cons_zero])
  go_ret
  refine ⟨rfl, ?_⟩
  have hx : xps x X none i = (xps x X pw i).set 0 (Res.blk x ([i.kv, i.lv, i.tv, .bool true, pwv pw].set 4 (.pointer none))) := by
    unfold xps
    rw [Hd.out]
    rfl
  rw [hx]
  exact e4
set_option maxHeartbeats 1000000 in
set_option maxRecDepth 20000 in
theorem xcrash_ok {w : World} {x : Nat} {X : XD} {pw : Option (Nat × Nat)} {i : XI} (h : Held w (xps x X pw i)) (hX : X.Dead = false) (hK0 : 0 < X.Kept.length) (hKm : X.Kept.length ≤ 16384) (hL : ∀ p ∈ X.L, p.1 < X.Kept.length) (hl : X.L.length < 1000000)
    {v : Value} {ks : List Bool} {KB : Option Nat} (hk : Rc w 1 v ks.length (ks.map .bool) KB) (hKB : ∀ b, KB = some b → b ∉ feetOf (xps x X pw i)) (hkm : ks.length ≤ 9223372036854775807) :
    Calls Try.prog 24 #[.pointer (some ⟨x, 0, none⟩), v] w fun e w' => e = .returned (.int .i64 0) ∧
      ∃ i', Ev w (xps x X pw i) w' (xps x { X with Kept := setX X.Kept (keptL X.L ks), L := [] } none i') := by
  have hko := (h.ownAt 1 rfl : Xr.Own w 1 i.kv X.Kept.length (X.Kept.map .string) i.K)
  obtain ⟨kb, kc, hiK, hkv, hkc1, _, _⟩ := own_open hko hK0
  have hlo := (h.ownAt 2 rfl : Xr.Own w 2 i.lv X.L.length (xlc X.L) i.Lb)
  obtain ⟨la, lc, hlv⟩ := hlo.isSlice
  have e0 := Ev.refl h
  obtain ⟨va, vc, rfl⟩ := hk.isSlice
  have hxx : xps x X pw i = [Res.blk x [.slice (some ⟨kb, 0, none⟩) X.Kept.length kc, .slice la X.L.length lc, i.tv, .bool false, pwv pw], Res.own 1 (.slice (some ⟨kb, 0, none⟩) X.Kept.length kc) X.Kept.length (X.Kept.map .string) (some kb), Res.own 2 (.slice la X.L.length lc) X.L.length (xlc X.L) i.Lb, Res.own 1 i.tv X.Trace.length (X.Trace.map (.int .i64)) i.T] := by
    unfold xps
    rw [hkv, hlv, hiK, hX]
  have e1 : Ev w (xps x X pw i) w [Res.blk x [.slice (some ⟨kb, 0, none⟩) X.Kept.length kc, .slice la X.L.length lc, i.tv, .bool false, pwv pw], Res.own 1 (.slice (some ⟨kb, 0, none⟩) X.Kept.length kc) X.Kept.length (X.Kept.map .string) (some kb), Res.own 2 (.slice la X.L.length lc) X.L.length (xlc X.L) i.Lb, Res.own 1 i.tv X.Trace.length (X.Trace.map (.int .i64)) i.T] := by
    rw [← hxx]
    exact e0
  have hfeet := hid hKB
  obtain ⟨kn, hkn⟩ : ∃ kn, X.Kept.length = kn := ⟨_, rfl⟩
  obtain ⟨ln, hln⟩ : ∃ ln, X.L.length = ln := ⟨_, rfl⟩
  obtain ⟨M, hM⟩ : ∃ M, ks.length = M := ⟨_, rfl⟩
  have Hkn := hid hkn
  have Hln := hid hln
  have HM := hid hM
  rw [hkn] at e1 hK0 hKm hL hkc1
  rw [hln] at e1 hl
  have HL := hid hL
  have hb := e1.held.blkAt 0 rfl
  have E1 := hid e1
  have Hk := hid hk
  have HX := hid hX
  rw [hM] at hkm ⊢
  clear h hkv hlv hkn hln hlo hko e0 e1 hiK hL hX hxx hk hM hKB
  go_enter Try.func24, Try.ntmps24
  go_wp2_with (refine wpList_put rfl _ _ _ rfl rfl (.pointer none) rfl rfl hb (by simp) (by kernel_rfl) ?_; intro w4 f4 b4 hs4; have e4 := E1.out.put 0 rfl f4 b4; have k4 : w4.cell? ⟨x, 3, none⟩ = some (.bool false) := b4.cell 3; revert e4; simp only [World.size_alloc, World.size_drew, Act.put, List.setIfInBounds_toArray, List.set_cons_succ, List.set_cons_zero])
  intro e4
  have E4 := hid e4
  clear e4 b4 f4 hs4
  go_wp2_with fail
  go_loopw [5] (fun kv wr => ∃ m : Nat, kv = .int .i64 (m : Int) ∧ m ≤ ln ∧ Ev w (xps x X pw i) wr [Res.blk x [.slice (some ⟨kb, 0, none⟩) kn kc, .slice la ln lc, i.tv, .bool false, .pointer none], Res.own 1 (.slice (some ⟨kb, 0, none⟩) kn kc) kn ((setX X.Kept (keptL (X.L.take m) ks)).map .string) (some kb), Res.own 2 (.slice la ln lc) ln (xlc X.L) i.Lb, Res.own 1 i.tv X.Trace.length (X.Trace.map (.int .i64)) i.T]) (fun kv _ => ln - (intOf kv).toNat)
  case atStart => exact ⟨0, rfl, Nat.zero_le _, E4.out⟩
  case round =>
    obtain ⟨m, rfl, hm, ev⟩ := hrel
    clear k4
    have hb := ev.held.blkAt 0 rfl
    have s0 : wr.cell? ⟨x, 0, none⟩ = some (.slice (some ⟨kb, 0, none⟩) kn kc) := hb.cell 0
    have s1 : wr.cell? ⟨x, 1, none⟩ = some (.slice la ln lc) := hb.cell 1
    by_cases hml : m < ln
    · have d1 : decide ((m : Int) < (ln : Int)) = true := by simp; omega
      have d1' : (m : Int) < (ln : Int) := by omega
      have hlr : Xr.Own wr 2 (.slice la ln lc) ln (xlc X.L) i.Lb := ev.held.ownAt 2 rfl
      obtain ⟨lb, lcap, _, hlv, hlc0, _, hlc⟩ := own_open hlr (by omega)
      obtain ⟨rfl, rfl⟩ : la = some ⟨lb, 0, none⟩ ∧ lc = lcap := by simpa using hlv
      have hmX : m < X.L.length := by rw [Hln.out]; exact hml
      have q1 := (hlc (m * 2) (by rw [xlc_len]; omega)).1
      have q2 := (hlc (m * 2 + 1) (by rw [xlc_len]; omega)).1
      rw [(xlc_get X.L m hmX).1] at q1
      rw [(xlc_get X.L m hmX).2] at q2
      have hp := HL.out X.L[m] (List.getElem_mem _)
      have Hst := hid (show keptL (X.L.take (m + 1)) ks = keptL (X.L.take m) ks ++ (if ks.getD m false then [X.L[m]] else []) by
        rw [List.take_succ_eq_append_getElem hmX, keptL_snoc, List.length_take, Nat.min_eq_left (by omega)])
      obtain ⟨⟨p, s⟩, hps⟩ : ∃ p, X.L[m] = p := ⟨_, rfl⟩
      rw [hps] at q1 q2 hp Hst
      simp only at q1 q2 hp
      have hp' : (p : Int) < (kn : Int) := by omega
      have hpd : decide ((p : Int) < (kn : Int)) = true := by simp; omega
      obtain ⟨kcs, y1, y2, y3⟩ := own_put (show Xr.Own wr 1 (.slice (some ⟨kb, 0, none⟩) kn kc) kn ((setX X.Kept (keptL (X.L.take m) ks)).map .string) (some kb) from ev.held.ownAt 1 rfl)
      have Y3 := hid y3
      have hkr := Hk.out.keep ev.fr (fun b hb => hfeet.out b hb)
      have EV := hid ev
      clear y3 ev hlc hlv hlr hps hmX hb
      by_cases hmM : m < M
      · have d2 : decide ((m : Int) < (M : Int)) = true := by simp; omega
        have d2' : (m : Int) < (M : Int) := by omega
        obtain ⟨vb, vo, vcap, hVB, hvv, _, _, _, hcell⟩ := hkr.some (by rw [HM.out]; omega)
        rw [HM.out] at hvv
        obtain ⟨rfl, rfl⟩ : va = some ⟨vb, vo, none⟩ ∧ vc = vcap := by simpa using hvv
        have q3 := hcell m (by rw [List.length_map, HM.out]; exact hmM)
        rw [List.getElem?_map, List.getElem?_eq_getElem (by rw [HM.out]; exact hmM), Option.map_some] at q3
        have Hgd := hid (show ks.getD m false = ks[m]'(by rw [HM.out]; exact hmM) by rw [List.getD_eq_getElem?_getD, List.getElem?_eq_getElem (by rw [HM.out]; exact hmM)]; rfl)
        obtain ⟨kq, hkq⟩ : ∃ kq, ks[m]'(by rw [HM.out]; exact hmM) = kq := ⟨_, rfl⟩
        rw [hkq] at q3 Hgd
        rw [Hgd.out] at Hst
        clear hcell hvv hkq hkr hVB
        cases kq with
        | true =>
          go_wp2_with fail
          refine wp_region_D (fun _ => True) true [] (by kernel_rfl) ?_
          refine WD.pure [0, 1, 2, 3, 4, 5, 6, 7, 8, 9, 10, 11, 12, 13, 14, 15, 16, 17, 18, 19, 20] (by kernel_rfl) trivial ?_
          simp only [pick, List.toList_toArray, List.map_cons, List.map_nil, List.getD_cons_succ, List.getD_cons_zero]
          repeat (first | go_big_quiet_step (fail))
          refine wpQuiet_nil ?_
          refine WD.eff 21 (by kernel_rfl) ?_
          simp only [pick, List.toList_toArray, List.map_cons, List.map_nil, List.getD_cons_succ, List.getD_cons_zero]
          go_wp2_with (refine wpList_put rfl _ _ _ rfl rfl (.string s) rfl rfl (show Blk wr.drew kb kcs from y1) (by omega) (by kernel_rfl) ?_; intro w5 f5 b5 hs5; simp only [World.size_alloc, World.size_drew, Act.put, List.setIfInBounds_toArray, List.set_cons_succ, List.set_cons_zero])
          try refine wpList_nil ?_
          refine AfterD.end rfl (by kernel_rfl) ?_
          try simp only [World.size_alloc, World.size_drew, Act.put, List.setIfInBounds_toArray, List.set_cons_succ, List.set_cons_zero]
          refine WD.done (by kernel_rfl) ?_
          go_wp2_with fail
          go_roundw
          case rel =>
            refine ⟨m + 1, by first | rfl | go_num, by omega, ?_⟩
            have o5 := Y3.out p (.string s) w5 b5
            have e5 := (EV.out.step (Fr.refl [] wr).drew).at 1 rfl f5 (fun b hb => .inl (by simpa [Res.own] using hb)) (Res.On.own o5) (fun b hb => .inl (by simpa [Res.own] using hb))
            rw [Hst.out, if_pos (by simp), setX_snoc, List.map_set]
            exact e5
          case measure => simp [intOf]; omega
        | false =>
          go_wp2_with fail
          go_roundw
          case rel =>
            refine ⟨m + 1, by first | rfl | go_num, by omega, ?_⟩
            rw [Hst.out, if_neg (by simp), List.append_nil]
            exact EV.out
          case measure => simp [intOf]; omega
      · have d2 : decide ((m : Int) < (M : Int)) = false := by simp; omega
        have d2' : ¬ ((m : Int) < (M : Int)) := by omega
        have Hgd := hid (show ks.getD m false = false by rw [List.getD_eq_getElem?_getD, List.getElem?_eq_none (by rw [HM.out]; omega)]; rfl)
        rw [Hgd.out] at Hst
        clear hkr
        go_wp2_with fail
        go_roundw
        case rel =>
          refine ⟨m + 1, by first | rfl | go_num, by omega, ?_⟩
          rw [Hst.out, if_neg (by simp), List.append_nil]
          exact EV.out
        case measure => simp [intOf]; omega
    · have d1 : decide ((m : Int) < (ln : Int)) = false := by simp; omega
      have d1' : ¬ ((m : Int) < (ln : Int)) := by omega
      obtain rfl : m = ln := by omega
      rw [List.take_of_length_le (by rw [Hln.out]; exact Nat.le_refl _)] at ev
      have e0 := ev.at 2 rfl (Fr.refl [] _) (by simp) (Res.On.own (Own.nil wr 2)) (by simp [Res.own])
      have EV := hid e0
      clear ev e0
      go_wp2_with (refine wpList_put rfl _ _ _ rfl rfl (.slice none 0 0) rfl rfl hb (by simp) (by kernel_rfl) ?_; intro w7 f7 b7 hs7; have e7 := EV.out.put 0 rfl f7 b7; simp only [World.size_alloc, World.size_drew, Act.put, List.setIfInBounds_toArray, List.set_cons_succ, List.set_cons_zero])
      go_ret
      refine ⟨rfl, ⟨.slice (some ⟨kb, 0, none⟩) kn kc, .slice none 0 0, i.tv, some kb, none, i.T⟩, ?_⟩
      have hx : xps x { X with Kept := setX X.Kept (keptL X.L ks), L := [] } none ⟨.slice (some ⟨kb, 0, none⟩) kn kc, .slice none 0 0, i.tv, some kb, none, i.T⟩ = [Res.blk x [.slice (some ⟨kb, 0, none⟩) kn kc, .slice none 0 0, i.tv, .bool false, .pointer none], Res.own 1 (.slice (some ⟨kb, 0, none⟩) kn kc) kn ((setX X.Kept (keptL X.L ks)).map .string) (some kb), Res.own 2 (.slice none 0 0) 0 [] none, Res.own 1 i.tv X.Trace.length (X.Trace.map (.int .i64)) i.T] := by
        unfold xps
        simp only [setX_len, Hkn.out, HX.out]
        rfl
      rw [hx]
      exact e7
end Go.Proofs.Ytflapddkeeiieaa
