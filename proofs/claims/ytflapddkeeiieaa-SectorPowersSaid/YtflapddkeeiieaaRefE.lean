/- Layer 6, the document's disk: a new one, Tamper, Loose. -/
import Derived.Test.YtflapddkeeiieaaRefD
namespace Go.Proofs.Ytflapddkeeiieaa
open Go Go.Xr Go.RowKit
set_option linter.unusedVariables false
set_option linter.unusedSimpArgs false
/-- A new disk of the document, as data. -/
def newXD (n : Nat) : XD := ⟨List.replicate n Zs, [], [], false⟩
theorem xnew_bad {w : World} (n : Int) (h : n < 1 ∨ n > 16384) : Calls Try.prog 16 #[.int .i64 n] w fun e w' => e = .returned (.tuple #[.pointer none, .int .i64 2]) ∧ w' = w := by
  by_cases h1 : n < 1
  · have hd : decide (n < 1) = true := by simp; omega
    go_enter Try.func16, Try.ntmps16
    go_wp2_with fail
    go_ret2
    exact ⟨rfl, rfl⟩
  · have hd : decide (n < 1) = false := by simp; omega
    have hd1 : decide (16384 < n) = true := by simp; omega
    go_enter Try.func16, Try.ntmps16
    go_wp2_with fail
    go_ret2
    exact ⟨rfl, rfl⟩
set_option maxHeartbeats 1000000 in
set_option maxRecDepth 20000 in
theorem xnew_ok {w : World} (n : Nat) (h1 : 1 ≤ n) (h2 : n ≤ 16384) : Calls Try.prog 16 #[.int .i64 (n : Int)] w fun e w' => ∃ x i, e = .returned (.tuple #[.pointer (some ⟨x, 0, none⟩), .int .i64 0]) ∧ Ev w [] w' (xps x (newXD n) none i) := by
  obtain ⟨i9, hi9, hz9, hs9, hb9⟩ : ∃ i, Try.prog.info? 9 = some i ∧ i.zero = some (.string ⟨#[]⟩) ∧ i.size = 1 ∧ i.bytes = 16 := ⟨_, rfl, rfl, rfl, rfl⟩
  have Hi := hid hi9
  have Hz := hid hz9
  have Hs := hid hs9
  have Hb := hid hb9
  clear hi9 hz9 hs9 hb9
  have hd : decide ((n : Int) < 1) = false := by simp; omega
  have hd' : ¬ ((n : Int) < 1) := by omega
  have hd1 : decide (16384 < (n : Int)) = false := by simp; omega
  have hd1' : ¬ (16384 < (n : Int)) := by omega
  go_enter Try.func16, Try.ntmps16
  go_wp2_with (refine wpList_box rfl _ _ rfl [.slice none 0 0, .slice none 0 0, .slice none 0 0, .bool false, .pointer none] rfl ?_; intro w1 f1 hlt1 hb1; simp only [World.size_alloc, World.size_drew, Act.put, List.setIfInBounds_toArray, List.set_cons_succ, List.set_cons_zero])
  obtain ⟨x, hx⟩ : ∃ x, w.heap.size = x := ⟨_, rfl⟩
  have e1 : Ev w [] w1 (xps x (newXD 0) none ⟨.slice none 0 0, .slice none 0 0, .slice none 0 0, none, none, none⟩) := by
    rw [hx] at hb1
    have a1 := (Ev.start w).new f1 (Res.On.own (Own.nil w1 1)) (by simp [Res.own])
    have a2 := a1.new (Fr.refl [] _) (Res.On.own (Own.nil w1 2)) (by simp [Res.own])
    have a3 := a2.new (Fr.refl [] _) (Res.On.own (Own.nil w1 1)) (by simp [Res.own])
    refine ⟨a3.held.new (Res.On.blk hb1) (by simp [Res.blk, Res.own]), f1, ?_⟩
    intro b hb
    refine .inr ?_
    simp [feetOf, xps, Res.blk, Res.own] at hb
    omega
  have E1 := hid e1
  rw [hx]
  clear e1 hb1 f1 hlt1 hx
  go_loopw [5] (fun kv wr => ∃ (m : Nat) (v : Value) (K : Option Nat), kv = .int .i64 (m : Int) ∧ m ≤ n ∧ Ev w [] wr (xps x (newXD m) none ⟨v, .slice none 0 0, .slice none 0 0, K, none, none⟩)) (fun kv _ => n - (intOf kv).toNat)
  case atStart => exact ⟨0, _, none, rfl, Nat.zero_le _, E1.out⟩
  case round =>
    obtain ⟨m, v, K, rfl, hm, ev⟩ := hrel
    clear E1
    by_cases hmn : m < n
    · have g1 : decide ((m : Int) < (n : Int)) = true := by simp; omega
      have g1' : (m : Int) < (n : Int) := by omega
      have ho : Xr.Own wr 1 v (List.replicate m Zs).length ((List.replicate m Zs).map .string) K := ev.held.ownAt 1 rfl
      rw [List.length_replicate] at ho
      obtain ⟨va, vc, rfl⟩ := ho.isSlice
      have hb : Blk wr x [.slice va m vc, .slice none 0 0, .slice none 0 0, .bool false, .pointer none] := ev.held.blkAt 0 rfl
      have hxK : ∀ b, K = some b → b ≠ x := by
        intro b hb e
        subst hb
        exact ev.held.idx_ne (i := 1) (j := 0) (by decide) rfl rfl b (by simp [Res.own]) (by simp [Res.blk, e])
      have EV := hid ev
      have HO := hid ho
      clear ev ho
      go_wp2_with fail
      refine wp_region_D (fun w' => Blk w' x [.slice va m vc, .slice none 0 0, .slice none 0 0, .bool false, .pointer none]) true [] (by kernel_rfl) ?_
      refine WD.free [0, 1, 2, 3] (by kernel_rfl) hb.drew ?_
      simp only [pick, List.toList_toArray, List.map_cons, List.map_nil, List.getD_cons_succ, List.getD_cons_zero]
      repeat (first | (refine quiet_load_1R (by rfl) _ _ rfl rfl (.slice va m vc) (fun w0 h => h.cell 0) _ Try.underlying30 rfl ?_; simp only [World.size_alloc, World.size_drew, Act.put, List.setIfInBounds_toArray, List.set_cons_succ, List.set_cons_zero]) | go_big_quiet_step (fail))
      refine wpQuiet_nil ?_
      refine WD.held [4] (by kernel_rfl) hb.drew ?_
      simp only [pick, List.toList_toArray, List.map_cons, List.map_nil, List.getD_cons_succ, List.getD_cons_zero]
      repeat (first | (refine quiet_load_1R (by rfl) _ _ rfl rfl (.slice va m vc) (fun w0 h => h.cell 0) _ Try.underlying30 rfl ?_; simp only [World.size_alloc, World.size_drew, Act.put, List.setIfInBounds_toArray, List.set_cons_succ, List.set_cons_zero]) | go_big_quiet_step (fail))
      refine wpQuiet_nil ?_
      refine WD.eff 5 (by kernel_rfl) ?_
      simp only [pick, List.toList_toArray, List.map_cons, List.map_nil, List.getD_cons_succ, List.getD_cons_zero]
      have f0 : Fr [] wr wr.drew := (Fr.refl [] wr).drew
      go_wp2_with (go_at_call 40; refine xnought_any.mono ?_; rintro e w5 ⟨rfl, f5⟩)
      have b5 := f5.blk hb.drew (by simp)
      try refine wpList_nil ?_
      refine AfterD.on b5 (by kernel_rfl) ?_
      try simp only [World.size_alloc, World.size_drew, Act.put, List.setIfInBounds_toArray, List.set_cons_succ, List.set_cons_zero]
      refine WD.eff 6 (by kernel_rfl) ?_
      simp only [pick, List.toList_toArray, List.map_cons, List.map_nil, List.getD_cons_succ, List.getD_cons_zero]
      go_wp2_with (refine wpList_buildSlice_r rfl _ 1 _ rfl 9 Try.underlying30 _ _ Hi.out Hz.out rfl Hs.out (by decide) (by decide) (by decide) [.string Zs] rfl (by intro v hv; simp at hv; rcases hv with rfl; rfl) ?_; intro w6 f6 hlt6 hb6; simp only [World.size_alloc, World.size_drew, Act.put, List.setIfInBounds_toArray, List.set_cons_succ, List.set_cons_zero])
      have b6 := f6.blk b5 (by simp)
      try refine wpList_nil ?_
      refine AfterD.on b6 (by kernel_rfl) ?_
      try simp only [World.size_alloc, World.size_drew, Act.put, List.setIfInBounds_toArray, List.set_cons_succ, List.set_cons_zero]
      refine WD.eff 7 (by kernel_rfl) ?_
      simp only [pick, List.toList_toArray, List.map_cons, List.map_nil, List.getD_cons_succ, List.getD_cons_zero]
      have g6 := (f0.trans' f5).trans' f6
      go_wp2_with (refine wpList_append_rc rfl _ _ _ rfl 9 _ _ 1 16 Try.underlying30 Hi.out Hz.out Hs.out Hb.out rfl (by decide) rfl (HO.out.keep g6 (by simp)) rfl (rc_blk hb6 rfl (by decide)) (by intro u hu; simp at hu; subst hu; rfl) (by unfold maxLen; omega) (by omega) ?_; intro v7 w7 B7 ho7 f7 hB7; obtain ⟨wa, wc, rfl⟩ := ho7.isSlice; simp only [World.size_alloc, World.size_drew, Act.put, List.setIfInBounds_toArray, List.set_cons_succ, List.set_cons_zero])
      have b7 := f7.blk b6 (fun hb => hxK x (by simpa using hb) rfl)
      try refine wpList_nil ?_
      refine AfterD.on b7 (by kernel_rfl) ?_
      try simp only [World.size_alloc, World.size_drew, Act.put, List.setIfInBounds_toArray, List.set_cons_succ, List.set_cons_zero]
      refine WD.pure [8, 9] (by kernel_rfl) b7 ?_
      simp only [pick, List.toList_toArray, List.map_cons, List.map_nil, List.getD_cons_succ, List.getD_cons_zero]
      repeat (first | (refine quiet_load_1R (by rfl) _ _ rfl rfl (.slice va m vc) (fun w0 h => h.cell 0) _ Try.underlying30 rfl ?_; simp only [World.size_alloc, World.size_drew, Act.put, List.setIfInBounds_toArray, List.set_cons_succ, List.set_cons_zero]) | go_big_quiet_step (fail))
      refine wpQuiet_nil ?_
      refine WD.eff 10 (by kernel_rfl) ?_
      simp only [pick, List.toList_toArray, List.map_cons, List.map_nil, List.getD_cons_succ, List.getD_cons_zero]
      go_wp2_with (refine wpList_put rfl _ _ _ rfl rfl (.slice wa (m + 1) wc) rfl rfl b7 (by simp) (by kernel_rfl) ?_; intro w8 f8 b8 hs8; simp only [World.size_alloc, World.size_drew, Act.put, List.setIfInBounds_toArray, List.set_cons_succ, List.set_cons_zero])
      try refine wpList_nil ?_
      refine AfterD.end rfl (by kernel_rfl) ?_
      try simp only [World.size_alloc, World.size_drew, Act.put, List.setIfInBounds_toArray, List.set_cons_succ, List.set_cons_zero]
      refine WD.done (by kernel_rfl) ?_
      go_wp2_with fail
      go_roundw
      case rel =>
        refine ⟨m + 1, .slice wa (m + 1) wc, B7, by first | rfl | go_num, by omega, ?_⟩
        have e7 := xapp_ev (EV.out.step g6) 1 rfl ho7 f7 hB7
        have e8 := e7.put 0 rfl f8 b8
        have hx : xps x (newXD (m + 1)) none ⟨.slice wa (m + 1) wc, .slice none 0 0, .slice none 0 0, B7, none, none⟩ = [Res.blk x [.slice wa (m + 1) wc, .slice none 0 0, .slice none 0 0, .bool false, .pointer none], Res.own 1 (.slice wa (m + 1) wc) (m + 1) ((List.replicate m Zs).map .string ++ [.string Zs]) B7, Res.own 2 (.slice none 0 0) 0 [] none, Res.own 1 (.slice none 0 0) 0 [] none] := by
          unfold xps newXD
          simp only [List.length_replicate, List.replicate_succ', List.map_append, List.map_cons, List.map_nil, List.length_append, List.length_cons, List.length_nil]
          rfl
        rw [hx]
        exact e8
      case measure => simp [intOf]; omega
    · have g1 : decide ((m : Int) < (n : Int)) = false := by simp; omega
      have g1' : ¬ ((m : Int) < (n : Int)) := by omega
      have hmn2 : m = n := by omega
      rw [hmn2] at ev
      clear hmn2
      go_wp2_with fail
      go_ret2
      exact ⟨x, rfl, _, ev⟩
/-- What a Tamper answers. -/
def tamN (X : XD) (pw : Option (Nat × Nat)) (q : Int) (s : ByteArray) : Int := if xdead X pw then 60 else if 0 < X.L.length then 3 else mayN X pw q s true
theorem xtamper_err {w : World} {x : Nat} {X : XD} {pw : Option (Nat × Nat)} {i : XI} (h : Held w (Res.pow pw :: xps x X pw i)) (q : Int) (s : ByteArray) (hs : s.size ≤ 9223372036854775807) (hl : X.L.length < 1000000) (e0 : Int) (hm : tamN X pw q s = e0) (he : e0 ≠ 0) :
    Calls Try.prog 46 #[.pointer (some ⟨x, 0, none⟩), .int .i64 q, .string s] w fun e w' => e = .returned (.int .i64 e0) ∧ w = w' := by
  have h1 := off_any h
  have h2 := may_any h q s hs true
  have hlo := (h.ownAt 3 rfl : Xr.Own w 2 i.lv X.L.length (xlc X.L) i.Lb)
  obtain ⟨la, lc, hlv⟩ := hlo.isSlice
  have hb := h.blkAt 1 rfl
  rw [hlv] at hb
  have k1 := hb.cell 1
  have k3 := hb.cell 3
  unfold tamN at hm
  unfold xdead at hm
  obtain ⟨Kept, L, Trace, Dead⟩ := X
  simp only at hm k1 k3 hl h1 h2
  clear h hlo hlv hb
  cases Dead with
  | true =>
    simp only [Bool.true_or, if_true] at hm
    subst hm
    go_enter Try.func46, Try.ntmps46
    go_wp2
    go_ret
    exact ⟨rfl, rfl⟩
  | false =>
    simp only [Bool.false_or] at hm
    cases ho : offB pw with
    | true =>
      rw [ho] at h1 hm
      simp only [if_true] at hm
      subst hm
      go_enter Try.func46, Try.ntmps46
      go_wp2_with (go_at_call 49; refine h1.mono ?_; rintro e w' ⟨rfl, rfl⟩)
      go_ret
      exact ⟨rfl, rfl⟩
    | false =>
      rw [ho] at h1 hm
      rw [if_neg (by simp)] at hm
      obtain ⟨ln, hln⟩ : ∃ ln, L.length = ln := ⟨_, rfl⟩
      rw [hln] at hm k1 hl
      clear hln
      by_cases hl0 : 0 < ln
      · have d1 : decide ((0 : Int) < (ln : Int)) = true := by simp; omega
        have d1' : (0 : Int) < (ln : Int) := by omega
        rw [if_pos hl0] at hm
        subst hm
        go_enter Try.func46, Try.ntmps46
        go_wp2_with (go_at_call 49; refine h1.mono ?_; rintro e w' ⟨rfl, rfl⟩)
        go_ret
        exact ⟨rfl, rfl⟩
      · have d1 : decide ((0 : Int) < (ln : Int)) = false := by simp; omega
        have d1' : ¬ ((0 : Int) < (ln : Int)) := by omega
        rw [if_neg hl0] at hm
        rw [hm] at h2
        have e1 : (e0 == 0) = false := by simpa using he
        have e2 : decide (e0 = 0) = false := by simpa using he
        clear hm
        go_enter Try.func46, Try.ntmps46
        go_wp2_with (first
          | (go_at_call 49; refine h1.mono ?_; rintro e w' ⟨rfl, hw⟩; subst hw)
          | (go_at_call 57; refine h2.mono ?_; rintro e w' ⟨rfl, hw⟩; subst hw))
        go_ret
        exact ⟨rfl, rfl⟩
set_option maxHeartbeats 1000000 in
set_option maxRecDepth 20000 in
theorem xtamper_ok {w : World} {x : Nat} {X : XD} {pw : Option (Nat × Nat)} {i : XI} (h : Held w (Res.pow pw :: xps x X pw i)) (q : Nat) (hq : q < X.Kept.length) (hKm : X.Kept.length ≤ 16384) (s : ByteArray) (hs : s.size ≤ 9223372036854775807) (hm : tamN X pw q s = 0) :
    Calls Try.prog 46 #[.pointer (some ⟨x, 0, none⟩), .int .i64 (q : Int), .string s] w fun e w' => e = .returned (.int .i64 0) ∧ Ev w (Res.pow pw :: xps x X pw i) w' (Res.pow pw :: xps x { X with Kept := X.Kept.set q s } pw i) := by
  have h1 := off_any h
  have h2 := may_any h q s hs true
  unfold tamN at hm
  have hd : xdead X pw = false := by
    cases e : xdead X pw
    · rfl
    · rw [e] at hm; simp at hm
  rw [hd, if_neg (by simp)] at hm
  have hl0 : X.L.length = 0 := by
    by_cases hl : 0 < X.L.length
    · rw [if_pos hl] at hm; cases hm
    · omega
  rw [if_neg (by omega)] at hm
  rw [hm] at h2
  have hX : X.Dead = false := by
    unfold xdead at hd
    cases e : X.Dead
    · rfl
    · rw [e] at hd; cases hd
  have ho : offB pw = false := by
    unfold xdead at hd
    rw [hX] at hd
    simpa using hd
  rw [ho] at h1
  have hko := (h.ownAt 2 rfl : Xr.Own w 1 i.kv X.Kept.length (X.Kept.map .string) i.K)
  obtain ⟨kb, kc, hiK, hkv, hkc1, _, _⟩ := own_open hko (by omega)
  have hlo := (h.ownAt 3 rfl : Xr.Own w 2 i.lv X.L.length (xlc X.L) i.Lb)
  obtain ⟨la, lc, hlv⟩ := hlo.isSlice
  have hb := h.blkAt 1 rfl
  rw [hlv, hkv, hl0, hX] at hb
  have k0 : w.cell? ⟨x, 0, none⟩ = some (.slice (some ⟨kb, 0, none⟩) X.Kept.length kc) := hb.cell 0
  have k1 : w.cell? ⟨x, 1, none⟩ = some (.slice la 0 lc) := hb.cell 1
  have k3 : w.cell? ⟨x, 3, none⟩ = some (.bool false) := hb.cell 3
  rw [hiK] at hko
  obtain ⟨kcs, y1, y2, y3⟩ := own_put hko
  have Y3 := hid y3
  have E0 := hid (Ev.refl h)
  have HiK := hid hiK
  obtain ⟨kn, hkn⟩ : ∃ kn, X.Kept.length = kn := ⟨_, rfl⟩
  rw [hkn] at k0 hKm hkc1 hq y2
  have hq' : (q : Int) < (kn : Int) := by omega
  have hqd : decide ((q : Int) < (kn : Int)) = true := by simp; omega
  have Hkn := hid hkn
  clear h hm hd hX ho hko hkv hlo hlv hb y3 hiK hkn hl0
  go_enter Try.func46, Try.ntmps46
  go_wp2_with (first
    | (go_at_call 49; refine h1.mono ?_; rintro e w' ⟨rfl, hw⟩; subst hw)
    | (go_at_call 57; refine h2.mono ?_; rintro e w' ⟨rfl, hw⟩; subst hw)
    | (refine wpList_put rfl _ _ _ rfl rfl (.string s) rfl rfl y1 (by omega) (by kernel_rfl) ?_; intro w5 f5 b5 hs5; simp only [World.size_alloc, World.size_drew, Act.put, List.setIfInBounds_toArray, List.set_cons_succ, List.set_cons_zero]))
  go_ret
  refine ⟨rfl, ?_⟩
  have o5 := Y3.out q (.string s) w5 b5
  have e5 := E0.out.at 2 rfl f5 (fun b hb => .inl (by simp [Res.own, HiK.out] at hb ⊢; exact hb)) (Res.On.own o5) (fun b hb => .inl (by simp [Res.own, HiK.out] at hb ⊢; exact hb))
  have hx : Res.pow pw :: xps x { X with Kept := X.Kept.set q s } pw i = (Res.pow pw :: xps x X pw i).set 2 (Res.own 1 i.kv X.Kept.length ((X.Kept.map .string).set q (.string s)) (some kb)) := by
    unfold xps
    simp only [List.length_set, List.map_set, HiK.out]
    rfl
  rw [hx]
  exact e5
/-- The numbers of the loose writes. -/
def xlooseV (X : XD) : List Value := X.L.map fun p => .int .i64 (p.1 : Int)
set_option maxHeartbeats 1000000 in
set_option maxRecDepth 20000 in
theorem xloose_any {w : World} {x : Nat} {X : XD} {pw : Option (Nat × Nat)} {i : XI} (h : Held w (xps x X pw i)) (hl : X.L.length < 1000000) :
    Calls Try.prog 48 #[.pointer (some ⟨x, 0, none⟩)] w fun e w' => (∃ v B, e = .returned v ∧ Xr.Own w' 1 v X.L.length (xlooseV X) B ∧ ∀ b, B = some b → w.heap.size ≤ b) ∧ Fr [] w w' := by
  obtain ⟨i3, hi3, hz3, hs3, hb3⟩ := inf3
  have Hi3 := hid hi3
  have Hz3 := hid hz3
  have Hs3 := hid hs3
  have Hb3 := hid hb3
  clear hi3 hz3 hs3 hb3
  have hlo := (h.ownAt 2 rfl : Xr.Own w 2 i.lv X.L.length (xlc X.L) i.Lb)
  obtain ⟨la, lc, hlv⟩ := hlo.isSlice
  have hb := h.blkAt 0 rfl
  rw [hlv] at hb hlo
  have k1 : w.cell? ⟨x, 1, none⟩ = some (.slice la X.L.length lc) := hb.cell 1
  obtain ⟨ln, hln⟩ : ∃ ln, X.L.length = ln := ⟨_, rfl⟩
  have Hln := hid hln
  rw [hln] at hlo k1 hl ⊢
  have HO := hid hlo
  clear h hb hlv hlo hln
  go_enter Try.func48, Try.ntmps48
  go_wp2_with fail
  go_loopw [3, 4] (fun lv kv wr => ∃ (m : Nat) (B : Option Nat), kv = .int .i64 (m : Int) ∧ m ≤ ln ∧ Xr.Own wr 1 lv m ((X.L.take m).map fun p => .int .i64 (p.1 : Int)) B ∧ (∀ b, B = some b → w.heap.size ≤ b) ∧ Fr [] w wr) (fun _ kv _ => ln - (intOf kv).toNat)
  case atStart => exact ⟨0, none, rfl, Nat.zero_le _, Own.nil _ 1, by simp, Fr.refl _ _⟩
  case round =>
    obtain ⟨m, B, rfl, hm, ho, hB, f⟩ := hrel
    obtain ⟨oa, oc, rfl⟩ := ho.isSlice
    have s1 := f.cell_some k1
    have HQ := hid ho
    clear k1 ho
    by_cases hml : m < ln
    · have d1 : decide ((m : Int) < (ln : Int)) = true := by simp; omega
      have d1' : (m : Int) < (ln : Int) := by omega
      obtain ⟨lb, lcap, _, hlv, hlc0, _, hlc⟩ := own_open (HO.out.keep f (by simp)) (by omega)
      obtain ⟨rfl, rfl⟩ : la = some ⟨lb, 0, none⟩ ∧ lc = lcap := by simpa using hlv
      have hmX : m < X.L.length := by rw [Hln.out]; exact hml
      have q1 := (hlc (m * 2) (by rw [xlc_len]; omega)).1
      rw [(xlc_get X.L m hmX).1] at q1
      have Hst := hid (show (X.L.take (m + 1)).map (fun p => Value.int .i64 (p.1 : Int)) = (X.L.take m).map (fun p => Value.int .i64 (p.1 : Int)) ++ [.int .i64 (X.L[m].1 : Int)] by rw [List.take_succ_eq_append_getElem hmX, List.map_append]; rfl)
      obtain ⟨p, hp⟩ : ∃ p, X.L[m].1 = p := ⟨_, rfl⟩
      rw [hp] at q1 Hst
      clear hlc hlv hp hmX
      go_wp2_with (first
        | (refine wpList_buildSlice_r rfl _ 1 _ rfl 3 Try.underlying37 _ _ Hi3.out Hz3.out rfl Hs3.out (by decide) (by decide) (by decide) [.int .i64 (p : Int)] rfl (by intro v hv; simp at hv; rcases hv with rfl; rfl) ?_; intro w5 f5 hlt5 hb5; simp only [World.size_alloc, World.size_drew, Act.put, List.setIfInBounds_toArray, List.set_cons_succ, List.set_cons_zero])
        | (refine wpList_append_rc rfl _ _ _ rfl 3 _ _ 1 8 Try.underlying37 Hi3.out Hz3.out Hs3.out Hb3.out rfl (by decide) rfl (HQ.out.keep f5 (by simp)) rfl (rc_blk hb5 rfl (by decide)) (by intro u hu; simp at hu; subst hu; rfl) (by unfold maxLen; omega) (by omega) ?_; intro v6 w6 B6 ho6 f6 hB6; simp only [World.size_alloc, World.size_drew, Act.put, List.setIfInBounds_toArray, List.set_cons_succ, List.set_cons_zero]))
      go_roundw
      case rel =>
        have hf := f.size
        have hf5 := f5.size
        refine ⟨m + 1, B6, by first | rfl | go_num, by omega, by rw [Hst.out]; exact ho6, ?_, ?_⟩
        · intro b hb
          rcases hB6 with rfl | ⟨y, rfl, hy⟩
          · exact hB b hb
          · cases hb; omega
        · refine (f.trans' f5).trans f6 ?_
          intro y hy
          exact .inr (hB y (by simpa using hy))
      case measure => simp [intOf]; omega
    · have d1 : decide ((m : Int) < (ln : Int)) = false := by simp; omega
      have d1' : ¬ ((m : Int) < (ln : Int)) := by omega
      have hml2 : m = ln := by omega
      have HQ2 := hid (show Xr.Own wr 1 (.slice oa m oc) ln (xlooseV X) B by
        have := HQ.out
        rw [List.take_of_length_le (by rw [Hln.out]; omega)] at this
        rw [← hml2]
        exact this)
      clear hml2
      go_wp2_with fail
      go_ret
      exact ⟨⟨_, rfl, B, HQ2.out, hB⟩, f⟩
end Go.Proofs.Ytflapddkeeiieaa
