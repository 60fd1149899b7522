/- Layer 6, the statements' own function 'stands': both disks look the same. -/
import Derived.Test.YtflapddkeeiieaaSecY
namespace Go.Proofs.Ytflapddkeeiieaa
open Go Go.Xr Go.RowKit
set_option linter.unusedVariables false
set_option linter.unusedSimpArgs false
section
variable {w : World} {l : List Res} {d x pb qb : Nat} {X : XD} {lf : Option Nat} {F : List Nat} {i : XI}
/-- A read of both disks. -/
def rdS (X : XD) (lf : Option Nat) (j : Int) : ByteArray := if mayN X (mk 0 lf) j ⟨#[]⟩ false = 0 then nowX X.L j.toNat (X.Kept.getD j.toNat ⟨#[]⟩) else ⟨#[]⟩
def rdC (X : XD) (lf : Option Nat) (j : Int) : Int := mayN X (mk 0 lf) j ⟨#[]⟩ false
theorem cread_any (h : Held w (l ++ pr d (dOf X) (mk pb lf) F x X (mk qb lf) i)) (hX : XGood X) (j : Int) (h1 : -9223372036854775808 ≤ j) (h2 : j ≤ 9223372036854775807) :
    Calls Try.prog 14 #[.pointer (some ⟨d, 0, none⟩), .int .i64 j] w fun e w' => e = .returned (.tuple #[.string (rdS X lf j), .int .i64 (rdC X lf j)]) ∧ w' = w := by
  have hc := Held.prC h
  have e0 : rdC X lf j = mayN X (mk 0 lf) j ⟨#[]⟩ false := rfl
  rcases mayN_cases X (mk 0 lf) j ⟨#[]⟩ false with h3 | h3
  · obtain ⟨hd, ⟨q, rfl, hq⟩, _⟩ := mayN_ok h3
    have hq' : q < (dOf X).now.length := by have := nowL_len X; simpa [dOf] using (by omega : q < (nowL X).length)
    have ha : ableN (dOf X) (mk pb lf) = 0 := by rw [ableN_mk X pb 0, hd]; rfl
    have := read_ok (Held.rep hc) (Held.powOk hc) q hq' ha
    refine this.mono ?_
    rintro e w' ⟨rfl, rfl⟩
    refine ⟨?_, rfl⟩
    have e1 : (dOf X).now[q] = (nowX X.L q X.Kept[q]).data.toList := nowL_get X q hq
    have e2 : rdS X lf (q : Int) = nowX X.L q X.Kept[q] := by
      unfold rdS
      rw [if_pos h3, Int.toNat_natCast]
      simp [hq]
    rw [e1, e0, h3, e2]
  · have h4 : atN (dOf X) (mk pb lf) j none = mayN X (mk 0 lf) j ⟨#[]⟩ false := atN_mk0 X pb 0 lf j _
    have := read_err (Held.rep hc) (Held.powOk hc) j h1 h2 _ h4 h3
    refine this.mono ?_
    rintro e w' ⟨rfl, rfl⟩
    have e2 : rdS X lf j = ⟨#[]⟩ := by
      unfold rdS
      rw [if_neg (by rcases h3 with h | h <;> omega)]
    rw [e0, e2]
    exact ⟨rfl, rfl⟩
theorem xread_any (h : Held w (l ++ pr d (dOf X) (mk pb lf) F x X (mk qb lf) i)) (hX : XGood X) (hl : X.L.length < 1000000) (j : Int) :
    Calls Try.prog 43 #[.pointer (some ⟨x, 0, none⟩), .int .i64 j] w fun e w' => e = .returned (.tuple #[.string (rdS X lf j), .int .i64 (rdC X lf j)]) ∧ w' = w := by
  have hx := Held.prX h
  have e0 : rdC X lf j = mayN X (mk 0 lf) j ⟨#[]⟩ false := rfl
  have e3 : mayN X (mk qb lf) j ⟨#[]⟩ false = mayN X (mk 0 lf) j ⟨#[]⟩ false := mayN_mk X qb 0 lf j _ _
  rcases mayN_cases X (mk 0 lf) j ⟨#[]⟩ false with h3 | h3
  · obtain ⟨hd, ⟨q, rfl, hq⟩, _⟩ := mayN_ok h3
    refine (xread_ok hx q hq hX.le hl (by rw [e3, h3])).mono ?_
    rintro e w' ⟨rfl, rfl⟩
    refine ⟨?_, rfl⟩
    have e2 : rdS X lf (q : Int) = nowX X.L q X.Kept[q] := by
      unfold rdS
      rw [if_pos h3, Int.toNat_natCast]
      simp [hq]
    rw [e0, h3, e2]
  · refine (xread_err hx j _ e3 h3).mono ?_
    rintro e w' ⟨rfl, rfl⟩
    have e2 : rdS X lf j = ⟨#[]⟩ := by
      unfold rdS
      rw [if_neg (by rcases h3 with h | h <;> omega)]
    rw [e0, e2]
    exact ⟨rfl, rfl⟩
set_option maxHeartbeats 4000000 in
set_option maxRecDepth 20000 in
theorem stands_any (h : Held w (l ++ pr d (dOf X) (mk pb lf) F x X (mk qb lf) i)) (hX : XGood X) (hl : X.L.length < 1000000) (ht : X.Trace.length < 1000000) :
    Calls Try.prog 18 #[.pointer (some ⟨d, 0, none⟩), .pointer (some ⟨x, 0, none⟩)] w fun e w' => e = .returned (.bool true) ∧ Fr [] w w' := by
  obtain ⟨n, hn⟩ : ∃ n, X.Kept.length = n := ⟨_, rfl⟩
  have hx := Held.prX h
  obtain ⟨kb, kc, _, hkv, _, _, _⟩ := own_open (hx.ownAt 2 rfl : Xr.Own w 1 i.kv X.Kept.length (X.Kept.map .string) i.K) hX.pos
  have htv : ∃ ta tc, i.tv = .slice ta X.Trace.length tc := (hx.ownAt 4 rfl : Xr.Own w 1 i.tv X.Trace.length (X.Trace.map (.int .i64)) i.T).isSlice
  obtain ⟨ta, tc, htv⟩ := htv
  have CX := hid fun (w1 : World) (f : Fr [] w w1) => (show w1.cell? ⟨x, 0, none⟩ = some (.slice (some ⟨kb, 0, none⟩) n kc) by rw [((hx.keep0 f).blkAt 1 rfl).cell, hkv, hn]; rfl)
  have CX2 := hid fun (w1 : World) (f : Fr [] w w1) => (show w1.cell? ⟨x, 2, none⟩ = some (.slice ta X.Trace.length tc) by rw [((hx.keep0 f).blkAt 1 rfl).cell, htv]; rfl)
  have CX3 := hid fun (w1 : World) (f : Fr [] w w1) => (show w1.cell? ⟨x, 3, none⟩ = some (.bool X.Dead) by rw [((hx.keep0 f).blkAt 1 rfl).cell]; rfl)
  have RT := hid fun (w1 : World) (f : Fr [] w w1) => (show Rc w1 1 (.slice ta X.Trace.length tc) X.Trace.length (X.Trace.map (.int .i64)) i.T by rw [← htv]; exact ((hx.keep0 f).ownAt 4 rfl : Xr.Own w1 1 i.tv X.Trace.length (X.Trace.map (.int .i64)) i.T).rd.rc)
  have KL := hid fun (w1 : World) (f : Fr [] w w1) => (show Calls Try.prog 33 #[.pointer (some ⟨d, 0, none⟩)] w1 fun e w' => e = .returned (.int .i64 (n : Int)) ∧ w' = w1 by
    have := dlen_any (Held.rep (Held.prC (h.keep0 f)))
    rw [show (dOf X).kept.length = n by rw [← hn]; simp [dOf]] at this
    exact this)
  have KD := hid fun (w1 : World) (f : Fr [] w w1) => (show Calls Try.prog 34 #[.pointer (some ⟨d, 0, none⟩)] w1 fun e w' => e = .returned (.bool X.Dead) ∧ w' = w1 from dead_any (Held.rep (Held.prC (h.keep0 f))))
  have KO := hid fun (w1 : World) (f : Fr [] w w1) => (show Calls Try.prog 13 #[.pointer (some ⟨d, 0, none⟩)] w1 fun e w' => (∃ v B, e = .returned v ∧ Rc w' 1 v (X.L.map fun p => (p.1 : Int)).length ((X.L.map fun p => (p.1 : Int)).map (.int .i64)) B) ∧ Fr [] w1 w' by
    refine (loose_any (Held.rep (Held.prC (h.keep0 f))) (by simpa [dOf] using hl)).mono ?_
    rintro e w' ⟨v, B, rfl, hr, f', _⟩
    refine ⟨⟨v, B, rfl, ?_⟩, f'⟩
    have := hr.rc
    have e1 : looseIx (dOf X) = (X.L.map fun p => (p.1 : Int)).map (.int .i64) := by simp [looseIx, dOf]
    rw [e1] at this
    simpa [dOf] using this)
  have KP := hid fun (w1 : World) (f : Fr [] w w1) => (show Calls Try.prog 48 #[.pointer (some ⟨x, 0, none⟩)] w1 fun e w' => (∃ v B, e = .returned v ∧ Rc w' 1 v (X.L.map fun p => (p.1 : Int)).length ((X.L.map fun p => (p.1 : Int)).map (.int .i64)) B) ∧ Fr [] w1 w' by
    refine (xloose_any (Held.xpsOf (hx.keep0 f)) hl).mono ?_
    rintro e w' ⟨⟨v, B, rfl, hr, _⟩, f'⟩
    refine ⟨⟨v, B, rfl, ?_⟩, f'⟩
    have := hr.rd.rc
    have e1 : xlooseV X = (X.L.map fun p => (p.1 : Int)).map (.int .i64) := by simp [xlooseV]
    rw [e1] at this
    simpa using this)
  have KT := hid fun (w1 : World) (f : Fr [] w w1) => (show Calls Try.prog 23 #[.pointer (some ⟨d, 0, none⟩)] w1 fun e w' => (∃ v B, e = .returned v ∧ Rc w' 1 v X.Trace.length (X.Trace.map (.int .i64)) B) ∧ Fr [] w1 w' by
    refine (trace_any (Held.rep (Held.prC (h.keep0 f))) (by simpa [dOf] using ht)).mono ?_
    rintro e w' ⟨⟨v, B, rfl, hr⟩, f'⟩
    exact ⟨⟨v, B, rfl, hr.rc⟩, f'⟩)
  have KR := hid fun (w1 : World) (f : Fr [] w w1) (j : Nat) (hj : j < n) => cread_any (h.keep0 f) hX (j : Int) (by omega) (by have := hX.le; omega)
  have KS := hid fun (w1 : World) (f : Fr [] w w1) (j : Nat) => xread_any (h.keep0 f) hX hl (j : Int)
  have hle := hX.le
  rw [hn] at hle
  have hll : (X.L.map fun p => (p.1 : Int)).length < 1000000 := by simpa using hl
  generalize (X.L.map fun p => (p.1 : Int)) = il at *
  generalize X.Trace = tl at *
  generalize X.Dead = xd at *
  generalize rdS X lf = rs at *
  generalize rdC X lf = rc at *
  clear h hX hx hkv htv hn hl
  cases xd
  · go_enter Try.func18, Try.ntmps18
    go_wp2_with fail
    refine wp_region_D (fun w' => Fr [] w w') false [] (by kernel_rfl) ?_
    refine WD.pure [0] (by kernel_rfl) (Fr.refl _ _).drew ?_
    simp only [pick, List.toList_toArray, List.map_cons, List.map_nil, List.getD_cons_succ, List.getD_cons_zero]
    repeat (first | (refine quiet_load_1R (by rfl) _ _ rfl rfl (.slice (some ⟨kb, 0, none⟩) n kc) (fun w0 h => CX.out w0 h) _ Try.underlying30 rfl ?_; simp only [World.size_alloc, World.size_drew, Act.put, List.setIfInBounds_toArray, List.set_cons_succ, List.set_cons_zero]) | (refine quiet_load_1R (by rfl) _ _ rfl rfl (.bool false) (fun w0 h => CX3.out w0 h) _ Try.underlying4 rfl ?_; simp only [World.size_alloc, World.size_drew, Act.put, List.setIfInBounds_toArray, List.set_cons_succ, List.set_cons_zero]) | (refine quiet_load_1R (by rfl) _ _ rfl rfl (.slice ta tl.length tc) (fun w0 h => CX2.out w0 h) _ Try.underlying37 rfl ?_; simp only [World.size_alloc, World.size_drew, Act.put, List.setIfInBounds_toArray, List.set_cons_succ, List.set_cons_zero]) | go_big_quiet_step (fail) | (refine quiet_len_v (by rfl) _ _ rfl Try.underlying30 rfl ?_; simp only [World.size_alloc, World.size_drew, Act.put, List.setIfInBounds_toArray, List.set_cons_succ, List.set_cons_zero]))
    refine wpQuiet_nil ?_
    refine WD.free [2, 3, 4] (by kernel_rfl) (Fr.refl _ _).drew ?_
    simp only [pick, List.toList_toArray, List.map_cons, List.map_nil, List.getD_cons_succ, List.getD_cons_zero]
    repeat (first | (refine quiet_load_1R (by rfl) _ _ rfl rfl (.slice (some ⟨kb, 0, none⟩) n kc) (fun w0 h => CX.out w0 h) _ Try.underlying30 rfl ?_; simp only [World.size_alloc, World.size_drew, Act.put, List.setIfInBounds_toArray, List.set_cons_succ, List.set_cons_zero]) | (refine quiet_load_1R (by rfl) _ _ rfl rfl (.bool false) (fun w0 h => CX3.out w0 h) _ Try.underlying4 rfl ?_; simp only [World.size_alloc, World.size_drew, Act.put, List.setIfInBounds_toArray, List.set_cons_succ, List.set_cons_zero]) | (refine quiet_load_1R (by rfl) _ _ rfl rfl (.slice ta tl.length tc) (fun w0 h => CX2.out w0 h) _ Try.underlying37 rfl ?_; simp only [World.size_alloc, World.size_drew, Act.put, List.setIfInBounds_toArray, List.set_cons_succ, List.set_cons_zero]) | go_big_quiet_step (fail) | (refine quiet_len_v (by rfl) _ _ rfl Try.underlying30 rfl ?_; simp only [World.size_alloc, World.size_drew, Act.put, List.setIfInBounds_toArray, List.set_cons_succ, List.set_cons_zero]))
    refine wpQuiet_nil ?_
    refine WD.held [5, 6] (by kernel_rfl) (Fr.refl _ _).drew ?_
    simp only [pick, List.toList_toArray, List.map_cons, List.map_nil, List.getD_cons_succ, List.getD_cons_zero]
    repeat (first | (refine quiet_load_1R (by rfl) _ _ rfl rfl (.slice (some ⟨kb, 0, none⟩) n kc) (fun w0 h => CX.out w0 h) _ Try.underlying30 rfl ?_; simp only [World.size_alloc, World.size_drew, Act.put, List.setIfInBounds_toArray, List.set_cons_succ, List.set_cons_zero]) | (refine quiet_load_1R (by rfl) _ _ rfl rfl (.bool false) (fun w0 h => CX3.out w0 h) _ Try.underlying4 rfl ?_; simp only [World.size_alloc, World.size_drew, Act.put, List.setIfInBounds_toArray, List.set_cons_succ, List.set_cons_zero]) | (refine quiet_load_1R (by rfl) _ _ rfl rfl (.slice ta tl.length tc) (fun w0 h => CX2.out w0 h) _ Try.underlying37 rfl ?_; simp only [World.size_alloc, World.size_drew, Act.put, List.setIfInBounds_toArray, List.set_cons_succ, List.set_cons_zero]) | go_big_quiet_step (fail) | (refine quiet_len_v (by rfl) _ _ rfl Try.underlying30 rfl ?_; simp only [World.size_alloc, World.size_drew, Act.put, List.setIfInBounds_toArray, List.set_cons_succ, List.set_cons_zero]))
    refine wpQuiet_nil ?_
    refine WD.eff 1 (by kernel_rfl) ?_
    simp only [pick, List.toList_toArray, List.map_cons, List.map_nil, List.getD_cons_succ, List.getD_cons_zero]
    have f0 : Fr [] w w.drew := (Fr.refl [] w).drew
    go_wp2_with (go_at_call 33; refine (KL.out _ f0).mono ?_; rintro e w5 ⟨rfl, hw⟩; subst hw)
    try refine wpList_nil ?_
    refine AfterD.on f0 (by kernel_rfl) ?_
    try simp only [World.size_alloc, World.size_drew, Act.put, List.setIfInBounds_toArray, List.set_cons_succ, List.set_cons_zero]
    refine WD.pure [7, 8, 9] (by kernel_rfl) f0 ?_
    simp only [pick, List.toList_toArray, List.map_cons, List.map_nil, List.getD_cons_succ, List.getD_cons_zero]
    repeat (first | (refine quiet_load_1R (by rfl) _ _ rfl rfl (.slice (some ⟨kb, 0, none⟩) n kc) (fun w0 h => CX.out w0 h) _ Try.underlying30 rfl ?_; simp only [World.size_alloc, World.size_drew, Act.put, List.setIfInBounds_toArray, List.set_cons_succ, List.set_cons_zero]) | (refine quiet_load_1R (by rfl) _ _ rfl rfl (.bool false) (fun w0 h => CX3.out w0 h) _ Try.underlying4 rfl ?_; simp only [World.size_alloc, World.size_drew, Act.put, List.setIfInBounds_toArray, List.set_cons_succ, List.set_cons_zero]) | (refine quiet_load_1R (by rfl) _ _ rfl rfl (.slice ta tl.length tc) (fun w0 h => CX2.out w0 h) _ Try.underlying37 rfl ?_; simp only [World.size_alloc, World.size_drew, Act.put, List.setIfInBounds_toArray, List.set_cons_succ, List.set_cons_zero]) | go_big_quiet_step (fail) | (refine quiet_len_v (by rfl) _ _ rfl Try.underlying30 rfl ?_; simp only [World.size_alloc, World.size_drew, Act.put, List.setIfInBounds_toArray, List.set_cons_succ, List.set_cons_zero]))
    refine wpQuiet_nil ?_
    refine WD.free [11, 12, 13] (by kernel_rfl) f0 ?_
    simp only [pick, List.toList_toArray, List.map_cons, List.map_nil, List.getD_cons_succ, List.getD_cons_zero]
    repeat (first | (refine quiet_load_1R (by rfl) _ _ rfl rfl (.slice (some ⟨kb, 0, none⟩) n kc) (fun w0 h => CX.out w0 h) _ Try.underlying30 rfl ?_; simp only [World.size_alloc, World.size_drew, Act.put, List.setIfInBounds_toArray, List.set_cons_succ, List.set_cons_zero]) | (refine quiet_load_1R (by rfl) _ _ rfl rfl (.bool false) (fun w0 h => CX3.out w0 h) _ Try.underlying4 rfl ?_; simp only [World.size_alloc, World.size_drew, Act.put, List.setIfInBounds_toArray, List.set_cons_succ, List.set_cons_zero]) | (refine quiet_load_1R (by rfl) _ _ rfl rfl (.slice ta tl.length tc) (fun w0 h => CX2.out w0 h) _ Try.underlying37 rfl ?_; simp only [World.size_alloc, World.size_drew, Act.put, List.setIfInBounds_toArray, List.set_cons_succ, List.set_cons_zero]) | go_big_quiet_step (fail) | (refine quiet_len_v (by rfl) _ _ rfl Try.underlying30 rfl ?_; simp only [World.size_alloc, World.size_drew, Act.put, List.setIfInBounds_toArray, List.set_cons_succ, List.set_cons_zero]))
    refine wpQuiet_nil ?_
    refine WD.held [14] (by kernel_rfl) f0 ?_
    simp only [pick, List.toList_toArray, List.map_cons, List.map_nil, List.getD_cons_succ, List.getD_cons_zero]
    repeat (first | (refine quiet_load_1R (by rfl) _ _ rfl rfl (.slice (some ⟨kb, 0, none⟩) n kc) (fun w0 h => CX.out w0 h) _ Try.underlying30 rfl ?_; simp only [World.size_alloc, World.size_drew, Act.put, List.setIfInBounds_toArray, List.set_cons_succ, List.set_cons_zero]) | (refine quiet_load_1R (by rfl) _ _ rfl rfl (.bool false) (fun w0 h => CX3.out w0 h) _ Try.underlying4 rfl ?_; simp only [World.size_alloc, World.size_drew, Act.put, List.setIfInBounds_toArray, List.set_cons_succ, List.set_cons_zero]) | (refine quiet_load_1R (by rfl) _ _ rfl rfl (.slice ta tl.length tc) (fun w0 h => CX2.out w0 h) _ Try.underlying37 rfl ?_; simp only [World.size_alloc, World.size_drew, Act.put, List.setIfInBounds_toArray, List.set_cons_succ, List.set_cons_zero]) | go_big_quiet_step (fail) | (refine quiet_len_v (by rfl) _ _ rfl Try.underlying30 rfl ?_; simp only [World.size_alloc, World.size_drew, Act.put, List.setIfInBounds_toArray, List.set_cons_succ, List.set_cons_zero]))
    refine wpQuiet_nil ?_
    refine WD.eff 10 (by kernel_rfl) ?_
    simp only [pick, List.toList_toArray, List.map_cons, List.map_nil, List.getD_cons_succ, List.getD_cons_zero]
    go_wp2_with (go_at_call 34; refine (KD.out _ f0).mono ?_; rintro e w5 ⟨rfl, hw⟩; subst hw)
    try refine wpList_nil ?_
    refine AfterD.on f0 (by kernel_rfl) ?_
    try simp only [World.size_alloc, World.size_drew, Act.put, List.setIfInBounds_toArray, List.set_cons_succ, List.set_cons_zero]
    refine WD.pure [15, 16, 17, 18] (by kernel_rfl) f0 ?_
    simp only [pick, List.toList_toArray, List.map_cons, List.map_nil, List.getD_cons_succ, List.getD_cons_zero]
    repeat (first | (refine quiet_load_1R (by rfl) _ _ rfl rfl (.slice (some ⟨kb, 0, none⟩) n kc) (fun w0 h => CX.out w0 h) _ Try.underlying30 rfl ?_; simp only [World.size_alloc, World.size_drew, Act.put, List.setIfInBounds_toArray, List.set_cons_succ, List.set_cons_zero]) | (refine quiet_load_1R (by rfl) _ _ rfl rfl (.bool false) (fun w0 h => CX3.out w0 h) _ Try.underlying4 rfl ?_; simp only [World.size_alloc, World.size_drew, Act.put, List.setIfInBounds_toArray, List.set_cons_succ, List.set_cons_zero]) | (refine quiet_load_1R (by rfl) _ _ rfl rfl (.slice ta tl.length tc) (fun w0 h => CX2.out w0 h) _ Try.underlying37 rfl ?_; simp only [World.size_alloc, World.size_drew, Act.put, List.setIfInBounds_toArray, List.set_cons_succ, List.set_cons_zero]) | go_big_quiet_step (fail) | (refine quiet_len_v (by rfl) _ _ rfl Try.underlying30 rfl ?_; simp only [World.size_alloc, World.size_drew, Act.put, List.setIfInBounds_toArray, List.set_cons_succ, List.set_cons_zero]))
    refine wpQuiet_nil ?_
    refine WD.free [20] (by kernel_rfl) f0 ?_
    simp only [pick, List.toList_toArray, List.map_cons, List.map_nil, List.getD_cons_succ, List.getD_cons_zero]
    repeat (first | (refine quiet_load_1R (by rfl) _ _ rfl rfl (.slice (some ⟨kb, 0, none⟩) n kc) (fun w0 h => CX.out w0 h) _ Try.underlying30 rfl ?_; simp only [World.size_alloc, World.size_drew, Act.put, List.setIfInBounds_toArray, List.set_cons_succ, List.set_cons_zero]) | (refine quiet_load_1R (by rfl) _ _ rfl rfl (.bool false) (fun w0 h => CX3.out w0 h) _ Try.underlying4 rfl ?_; simp only [World.size_alloc, World.size_drew, Act.put, List.setIfInBounds_toArray, List.set_cons_succ, List.set_cons_zero]) | (refine quiet_load_1R (by rfl) _ _ rfl rfl (.slice ta tl.length tc) (fun w0 h => CX2.out w0 h) _ Try.underlying37 rfl ?_; simp only [World.size_alloc, World.size_drew, Act.put, List.setIfInBounds_toArray, List.set_cons_succ, List.set_cons_zero]) | go_big_quiet_step (fail) | (refine quiet_len_v (by rfl) _ _ rfl Try.underlying30 rfl ?_; simp only [World.size_alloc, World.size_drew, Act.put, List.setIfInBounds_toArray, List.set_cons_succ, List.set_cons_zero]))
    refine wpQuiet_nil ?_
    refine WD.eff 19 (by kernel_rfl) ?_
    simp only [pick, List.toList_toArray, List.map_cons, List.map_nil, List.getD_cons_succ, List.getD_cons_zero]
    go_wp2_with (go_at_call 13; refine (KO.out _ f0).mono ?_; rintro e w5 ⟨⟨v5, B5, rfl, r5⟩, f5⟩)
    have g5 := f0.trans' f5
    try refine wpList_nil ?_
    refine AfterD.on g5 (by kernel_rfl) ?_
    try simp only [World.size_alloc, World.size_drew, Act.put, List.setIfInBounds_toArray, List.set_cons_succ, List.set_cons_zero]
    refine WD.eff 21 (by kernel_rfl) ?_
    simp only [pick, List.toList_toArray, List.map_cons, List.map_nil, List.getD_cons_succ, List.getD_cons_zero]
    go_wp2_with (go_at_call 48; refine (KP.out _ g5).mono ?_; rintro e w6 ⟨⟨v6, B6, rfl, r6⟩, f6⟩)
    have g6 := g5.trans' f6
    try refine wpList_nil ?_
    refine AfterD.on g6 (by kernel_rfl) ?_
    try simp only [World.size_alloc, World.size_drew, Act.put, List.setIfInBounds_toArray, List.set_cons_succ, List.set_cons_zero]
    refine WD.eff 22 (by kernel_rfl) ?_
    simp only [pick, List.toList_toArray, List.map_cons, List.map_nil, List.getD_cons_succ, List.getD_cons_zero]
    have hi6 := ints_any (r5.keep f6 (by simp)) r6 hll hll
    rw [decide_eq_true rfl] at hi6
    go_wp2_with (go_at_call 47; refine hi6.mono ?_; rintro e w7 ⟨rfl, f7⟩)
    have g7 := g6.trans' f7
    try refine wpList_nil ?_
    refine AfterD.on g7 (by kernel_rfl) ?_
    try simp only [World.size_alloc, World.size_drew, Act.put, List.setIfInBounds_toArray, List.set_cons_succ, List.set_cons_zero]
    refine WD.pure [23, 24, 25, 26] (by kernel_rfl) g7 ?_
    simp only [pick, List.toList_toArray, List.map_cons, List.map_nil, List.getD_cons_succ, List.getD_cons_zero]
    repeat (first | (refine quiet_load_1R (by rfl) _ _ rfl rfl (.slice (some ⟨kb, 0, none⟩) n kc) (fun w0 h => CX.out w0 h) _ Try.underlying30 rfl ?_; simp only [World.size_alloc, World.size_drew, Act.put, List.setIfInBounds_toArray, List.set_cons_succ, List.set_cons_zero]) | (refine quiet_load_1R (by rfl) _ _ rfl rfl (.bool false) (fun w0 h => CX3.out w0 h) _ Try.underlying4 rfl ?_; simp only [World.size_alloc, World.size_drew, Act.put, List.setIfInBounds_toArray, List.set_cons_succ, List.set_cons_zero]) | (refine quiet_load_1R (by rfl) _ _ rfl rfl (.slice ta tl.length tc) (fun w0 h => CX2.out w0 h) _ Try.underlying37 rfl ?_; simp only [World.size_alloc, World.size_drew, Act.put, List.setIfInBounds_toArray, List.set_cons_succ, List.set_cons_zero]) | go_big_quiet_step (fail) | (refine quiet_len_v (by rfl) _ _ rfl Try.underlying30 rfl ?_; simp only [World.size_alloc, World.size_drew, Act.put, List.setIfInBounds_toArray, List.set_cons_succ, List.set_cons_zero]))
    refine wpQuiet_nil ?_
    refine WD.free [28, 29, 30] (by kernel_rfl) g7 ?_
    simp only [pick, List.toList_toArray, List.map_cons, List.map_nil, List.getD_cons_succ, List.getD_cons_zero]
    repeat (first | (refine quiet_load_1R (by rfl) _ _ rfl rfl (.slice (some ⟨kb, 0, none⟩) n kc) (fun w0 h => CX.out w0 h) _ Try.underlying30 rfl ?_; simp only [World.size_alloc, World.size_drew, Act.put, List.setIfInBounds_toArray, List.set_cons_succ, List.set_cons_zero]) | (refine quiet_load_1R (by rfl) _ _ rfl rfl (.bool false) (fun w0 h => CX3.out w0 h) _ Try.underlying4 rfl ?_; simp only [World.size_alloc, World.size_drew, Act.put, List.setIfInBounds_toArray, List.set_cons_succ, List.set_cons_zero]) | (refine quiet_load_1R (by rfl) _ _ rfl rfl (.slice ta tl.length tc) (fun w0 h => CX2.out w0 h) _ Try.underlying37 rfl ?_; simp only [World.size_alloc, World.size_drew, Act.put, List.setIfInBounds_toArray, List.set_cons_succ, List.set_cons_zero]) | go_big_quiet_step (fail) | (refine quiet_len_v (by rfl) _ _ rfl Try.underlying30 rfl ?_; simp only [World.size_alloc, World.size_drew, Act.put, List.setIfInBounds_toArray, List.set_cons_succ, List.set_cons_zero]))
    refine wpQuiet_nil ?_
    refine WD.held [31] (by kernel_rfl) g7 ?_
    simp only [pick, List.toList_toArray, List.map_cons, List.map_nil, List.getD_cons_succ, List.getD_cons_zero]
    repeat (first | (refine quiet_load_1R (by rfl) _ _ rfl rfl (.slice (some ⟨kb, 0, none⟩) n kc) (fun w0 h => CX.out w0 h) _ Try.underlying30 rfl ?_; simp only [World.size_alloc, World.size_drew, Act.put, List.setIfInBounds_toArray, List.set_cons_succ, List.set_cons_zero]) | (refine quiet_load_1R (by rfl) _ _ rfl rfl (.bool false) (fun w0 h => CX3.out w0 h) _ Try.underlying4 rfl ?_; simp only [World.size_alloc, World.size_drew, Act.put, List.setIfInBounds_toArray, List.set_cons_succ, List.set_cons_zero]) | (refine quiet_load_1R (by rfl) _ _ rfl rfl (.slice ta tl.length tc) (fun w0 h => CX2.out w0 h) _ Try.underlying37 rfl ?_; simp only [World.size_alloc, World.size_drew, Act.put, List.setIfInBounds_toArray, List.set_cons_succ, List.set_cons_zero]) | go_big_quiet_step (fail) | (refine quiet_len_v (by rfl) _ _ rfl Try.underlying30 rfl ?_; simp only [World.size_alloc, World.size_drew, Act.put, List.setIfInBounds_toArray, List.set_cons_succ, List.set_cons_zero]))
    refine wpQuiet_nil ?_
    refine WD.eff 27 (by kernel_rfl) ?_
    simp only [pick, List.toList_toArray, List.map_cons, List.map_nil, List.getD_cons_succ, List.getD_cons_zero]
    clear r5 r6 f5 f6 f7 hi6 g5 g6
    go_wp2_with (go_at_call 23; refine (KT.out _ g7).mono ?_; rintro e w8 ⟨⟨v8, B8, rfl, r8⟩, f8⟩)
    have g8 := g7.trans' f8
    try refine wpList_nil ?_
    refine AfterD.on g8 (by kernel_rfl) ?_
    try simp only [World.size_alloc, World.size_drew, Act.put, List.setIfInBounds_toArray, List.set_cons_succ, List.set_cons_zero]
    refine WD.eff 32 (by kernel_rfl) ?_
    simp only [pick, List.toList_toArray, List.map_cons, List.map_nil, List.getD_cons_succ, List.getD_cons_zero]
    have hi8 := ints_any r8 (RT.out _ g8) ht ht
    rw [decide_eq_true rfl] at hi8
    go_wp2_with (go_at_call 47; refine hi8.mono ?_; rintro e w9 ⟨rfl, f9⟩)
    have g9 := g8.trans' f9
    try refine wpList_nil ?_
    refine AfterD.on g9 (by kernel_rfl) ?_
    try simp only [World.size_alloc, World.size_drew, Act.put, List.setIfInBounds_toArray, List.set_cons_succ, List.set_cons_zero]
    refine WD.pure [33, 34] (by kernel_rfl) g9 ?_
    simp only [pick, List.toList_toArray, List.map_cons, List.map_nil, List.getD_cons_succ, List.getD_cons_zero]
    repeat (first | (refine quiet_load_1R (by rfl) _ _ rfl rfl (.slice (some ⟨kb, 0, none⟩) n kc) (fun w0 h => CX.out w0 h) _ Try.underlying30 rfl ?_; simp only [World.size_alloc, World.size_drew, Act.put, List.setIfInBounds_toArray, List.set_cons_succ, List.set_cons_zero]) | (refine quiet_load_1R (by rfl) _ _ rfl rfl (.bool false) (fun w0 h => CX3.out w0 h) _ Try.underlying4 rfl ?_; simp only [World.size_alloc, World.size_drew, Act.put, List.setIfInBounds_toArray, List.set_cons_succ, List.set_cons_zero]) | (refine quiet_load_1R (by rfl) _ _ rfl rfl (.slice ta tl.length tc) (fun w0 h => CX2.out w0 h) _ Try.underlying37 rfl ?_; simp only [World.size_alloc, World.size_drew, Act.put, List.setIfInBounds_toArray, List.set_cons_succ, List.set_cons_zero]) | go_big_quiet_step (fail) | (refine quiet_len_v (by rfl) _ _ rfl Try.underlying30 rfl ?_; simp only [World.size_alloc, World.size_drew, Act.put, List.setIfInBounds_toArray, List.set_cons_succ, List.set_cons_zero]))
    refine wpQuiet_nil ?_
    refine WD.done (by kernel_rfl) ?_
    clear r8 f8 f9 hi8 g8 g7
    go_wp2_with fail
    clear KL KD KO KP KT RT CX2 CX3
    go_loopw [5] (fun jv wr => ∃ j : Nat, j ≤ n ∧ jv = .int .i64 (j : Int) ∧ Fr [] w wr) (fun jv _ => n - (intOf jv).toNat)
    case atStart => exact ⟨0, Nat.zero_le _, rfl, g9⟩
    case round =>
      obtain ⟨j, hj, rfl, f⟩ := hrel
      have c0 := CX.out _ f
      by_cases hjn : j < n
      · have hd : decide (j < n) = true := by simp; omega
        have hr := KR.out _ f j hjn
        have hs := KS.out _ f j
        generalize rs (j : Int) = rsj at *
        generalize rc (j : Int) = rcj at *
        go_wp2_with (first
          | (go_at_call 14; refine hr.mono ?_; rintro e w5 ⟨rfl, hw⟩; subst hw)
          | (go_at_call 43; refine hs.mono ?_; rintro e w5 ⟨rfl, hw⟩; subst hw))
        go_roundw
        case rel => exact ⟨j + 1, by omega, by go_num, f⟩
        case measure => simp [intOf]; omega
      · have hd : decide (j < n) = false := by simp; omega
        go_wp2_with fail
        go_ret
        exact ⟨rfl, f⟩
  · go_enter Try.func18, Try.ntmps18
    go_wp2_with fail
    refine wp_region_D (fun w' => Fr [] w w') false [] (by kernel_rfl) ?_
    refine WD.pure [0] (by kernel_rfl) (Fr.refl _ _).drew ?_
    simp only [pick, List.toList_toArray, List.map_cons, List.map_nil, List.getD_cons_succ, List.getD_cons_zero]
    repeat (first | (refine quiet_load_1R (by rfl) _ _ rfl rfl (.slice (some ⟨kb, 0, none⟩) n kc) (fun w0 h => CX.out w0 h) _ Try.underlying30 rfl ?_; simp only [World.size_alloc, World.size_drew, Act.put, List.setIfInBounds_toArray, List.set_cons_succ, List.set_cons_zero]) | (refine quiet_load_1R (by rfl) _ _ rfl rfl (.bool true) (fun w0 h => CX3.out w0 h) _ Try.underlying4 rfl ?_; simp only [World.size_alloc, World.size_drew, Act.put, List.setIfInBounds_toArray, List.set_cons_succ, List.set_cons_zero]) | (refine quiet_load_1R (by rfl) _ _ rfl rfl (.slice ta tl.length tc) (fun w0 h => CX2.out w0 h) _ Try.underlying37 rfl ?_; simp only [World.size_alloc, World.size_drew, Act.put, List.setIfInBounds_toArray, List.set_cons_succ, List.set_cons_zero]) | go_big_quiet_step (fail) | (refine quiet_len_v (by rfl) _ _ rfl Try.underlying30 rfl ?_; simp only [World.size_alloc, World.size_drew, Act.put, List.setIfInBounds_toArray, List.set_cons_succ, List.set_cons_zero]))
    refine wpQuiet_nil ?_
    refine WD.free [2, 3, 4] (by kernel_rfl) (Fr.refl _ _).drew ?_
    simp only [pick, List.toList_toArray, List.map_cons, List.map_nil, List.getD_cons_succ, List.getD_cons_zero]
    repeat (first | (refine quiet_load_1R (by rfl) _ _ rfl rfl (.slice (some ⟨kb, 0, none⟩) n kc) (fun w0 h => CX.out w0 h) _ Try.underlying30 rfl ?_; simp only [World.size_alloc, World.size_drew, Act.put, List.setIfInBounds_toArray, List.set_cons_succ, List.set_cons_zero]) | (refine quiet_load_1R (by rfl) _ _ rfl rfl (.bool true) (fun w0 h => CX3.out w0 h) _ Try.underlying4 rfl ?_; simp only [World.size_alloc, World.size_drew, Act.put, List.setIfInBounds_toArray, List.set_cons_succ, List.set_cons_zero]) | (refine quiet_load_1R (by rfl) _ _ rfl rfl (.slice ta tl.length tc) (fun w0 h => CX2.out w0 h) _ Try.underlying37 rfl ?_; simp only [World.size_alloc, World.size_drew, Act.put, List.setIfInBounds_toArray, List.set_cons_succ, List.set_cons_zero]) | go_big_quiet_step (fail) | (refine quiet_len_v (by rfl) _ _ rfl Try.underlying30 rfl ?_; simp only [World.size_alloc, World.size_drew, Act.put, List.setIfInBounds_toArray, List.set_cons_succ, List.set_cons_zero]))
    refine wpQuiet_nil ?_
    refine WD.held [5, 6] (by kernel_rfl) (Fr.refl _ _).drew ?_
    simp only [pick, List.toList_toArray, List.map_cons, List.map_nil, List.getD_cons_succ, List.getD_cons_zero]
    repeat (first | (refine quiet_load_1R (by rfl) _ _ rfl rfl (.slice (some ⟨kb, 0, none⟩) n kc) (fun w0 h => CX.out w0 h) _ Try.underlying30 rfl ?_; simp only [World.size_alloc, World.size_drew, Act.put, List.setIfInBounds_toArray, List.set_cons_succ, List.set_cons_zero]) | (refine quiet_load_1R (by rfl) _ _ rfl rfl (.bool true) (fun w0 h => CX3.out w0 h) _ Try.underlying4 rfl ?_; simp only [World.size_alloc, World.size_drew, Act.put, List.setIfInBounds_toArray, List.set_cons_succ, List.set_cons_zero]) | (refine quiet_load_1R (by rfl) _ _ rfl rfl (.slice ta tl.length tc) (fun w0 h => CX2.out w0 h) _ Try.underlying37 rfl ?_; simp only [World.size_alloc, World.size_drew, Act.put, List.setIfInBounds_toArray, List.set_cons_succ, List.set_cons_zero]) | go_big_quiet_step (fail) | (refine quiet_len_v (by rfl) _ _ rfl Try.underlying30 rfl ?_; simp only [World.size_alloc, World.size_drew, Act.put, List.setIfInBounds_toArray, List.set_cons_succ, List.set_cons_zero]))
    refine wpQuiet_nil ?_
    refine WD.eff 1 (by kernel_rfl) ?_
    simp only [pick, List.toList_toArray, List.map_cons, List.map_nil, List.getD_cons_succ, List.getD_cons_zero]
    have f0 : Fr [] w w.drew := (Fr.refl [] w).drew
    go_wp2_with (go_at_call 33; refine (KL.out _ f0).mono ?_; rintro e w5 ⟨rfl, hw⟩; subst hw)
    try refine wpList_nil ?_
    refine AfterD.on f0 (by kernel_rfl) ?_
    try simp only [World.size_alloc, World.size_drew, Act.put, List.setIfInBounds_toArray, List.set_cons_succ, List.set_cons_zero]
    refine WD.pure [7, 8, 9] (by kernel_rfl) f0 ?_
    simp only [pick, List.toList_toArray, List.map_cons, List.map_nil, List.getD_cons_succ, List.getD_cons_zero]
    repeat (first | (refine quiet_load_1R (by rfl) _ _ rfl rfl (.slice (some ⟨kb, 0, none⟩) n kc) (fun w0 h => CX.out w0 h) _ Try.underlying30 rfl ?_; simp only [World.size_alloc, World.size_drew, Act.put, List.setIfInBounds_toArray, List.set_cons_succ, List.set_cons_zero]) | (refine quiet_load_1R (by rfl) _ _ rfl rfl (.bool true) (fun w0 h => CX3.out w0 h) _ Try.underlying4 rfl ?_; simp only [World.size_alloc, World.size_drew, Act.put, List.setIfInBounds_toArray, List.set_cons_succ, List.set_cons_zero]) | (refine quiet_load_1R (by rfl) _ _ rfl rfl (.slice ta tl.length tc) (fun w0 h => CX2.out w0 h) _ Try.underlying37 rfl ?_; simp only [World.size_alloc, World.size_drew, Act.put, List.setIfInBounds_toArray, List.set_cons_succ, List.set_cons_zero]) | go_big_quiet_step (fail) | (refine quiet_len_v (by rfl) _ _ rfl Try.underlying30 rfl ?_; simp only [World.size_alloc, World.size_drew, Act.put, List.setIfInBounds_toArray, List.set_cons_succ, List.set_cons_zero]))
    refine wpQuiet_nil ?_
    refine WD.free [11, 12, 13] (by kernel_rfl) f0 ?_
    simp only [pick, List.toList_toArray, List.map_cons, List.map_nil, List.getD_cons_succ, List.getD_cons_zero]
    repeat (first | (refine quiet_load_1R (by rfl) _ _ rfl rfl (.slice (some ⟨kb, 0, none⟩) n kc) (fun w0 h => CX.out w0 h) _ Try.underlying30 rfl ?_; simp only [World.size_alloc, World.size_drew, Act.put, List.setIfInBounds_toArray, List.set_cons_succ, List.set_cons_zero]) | (refine quiet_load_1R (by rfl) _ _ rfl rfl (.bool true) (fun w0 h => CX3.out w0 h) _ Try.underlying4 rfl ?_; simp only [World.size_alloc, World.size_drew, Act.put, List.setIfInBounds_toArray, List.set_cons_succ, List.set_cons_zero]) | (refine quiet_load_1R (by rfl) _ _ rfl rfl (.slice ta tl.length tc) (fun w0 h => CX2.out w0 h) _ Try.underlying37 rfl ?_; simp only [World.size_alloc, World.size_drew, Act.put, List.setIfInBounds_toArray, List.set_cons_succ, List.set_cons_zero]) | go_big_quiet_step (fail) | (refine quiet_len_v (by rfl) _ _ rfl Try.underlying30 rfl ?_; simp only [World.size_alloc, World.size_drew, Act.put, List.setIfInBounds_toArray, List.set_cons_succ, List.set_cons_zero]))
    refine wpQuiet_nil ?_
    refine WD.held [14] (by kernel_rfl) f0 ?_
    simp only [pick, List.toList_toArray, List.map_cons, List.map_nil, List.getD_cons_succ, List.getD_cons_zero]
    repeat (first | (refine quiet_load_1R (by rfl) _ _ rfl rfl (.slice (some ⟨kb, 0, none⟩) n kc) (fun w0 h => CX.out w0 h) _ Try.underlying30 rfl ?_; simp only [World.size_alloc, World.size_drew, Act.put, List.setIfInBounds_toArray, List.set_cons_succ, List.set_cons_zero]) | (refine quiet_load_1R (by rfl) _ _ rfl rfl (.bool true) (fun w0 h => CX3.out w0 h) _ Try.underlying4 rfl ?_; simp only [World.size_alloc, World.size_drew, Act.put, List.setIfInBounds_toArray, List.set_cons_succ, List.set_cons_zero]) | (refine quiet_load_1R (by rfl) _ _ rfl rfl (.slice ta tl.length tc) (fun w0 h => CX2.out w0 h) _ Try.underlying37 rfl ?_; simp only [World.size_alloc, World.size_drew, Act.put, List.setIfInBounds_toArray, List.set_cons_succ, List.set_cons_zero]) | go_big_quiet_step (fail) | (refine quiet_len_v (by rfl) _ _ rfl Try.underlying30 rfl ?_; simp only [World.size_alloc, World.size_drew, Act.put, List.setIfInBounds_toArray, List.set_cons_succ, List.set_cons_zero]))
    refine wpQuiet_nil ?_
    refine WD.eff 10 (by kernel_rfl) ?_
    simp only [pick, List.toList_toArray, List.map_cons, List.map_nil, List.getD_cons_succ, List.getD_cons_zero]
    go_wp2_with (go_at_call 34; refine (KD.out _ f0).mono ?_; rintro e w5 ⟨rfl, hw⟩; subst hw)
    try refine wpList_nil ?_
    refine AfterD.on f0 (by kernel_rfl) ?_
    try simp only [World.size_alloc, World.size_drew, Act.put, List.setIfInBounds_toArray, List.set_cons_succ, List.set_cons_zero]
    refine WD.pure [15, 16, 17, 18] (by kernel_rfl) f0 ?_
    simp only [pick, List.toList_toArray, List.map_cons, List.map_nil, List.getD_cons_succ, List.getD_cons_zero]
    repeat (first | (refine quiet_load_1R (by rfl) _ _ rfl rfl (.slice (some ⟨kb, 0, none⟩) n kc) (fun w0 h => CX.out w0 h) _ Try.underlying30 rfl ?_; simp only [World.size_alloc, World.size_drew, Act.put, List.setIfInBounds_toArray, List.set_cons_succ, List.set_cons_zero]) | (refine quiet_load_1R (by rfl) _ _ rfl rfl (.bool true) (fun w0 h => CX3.out w0 h) _ Try.underlying4 rfl ?_; simp only [World.size_alloc, World.size_drew, Act.put, List.setIfInBounds_toArray, List.set_cons_succ, List.set_cons_zero]) | (refine quiet_load_1R (by rfl) _ _ rfl rfl (.slice ta tl.length tc) (fun w0 h => CX2.out w0 h) _ Try.underlying37 rfl ?_; simp only [World.size_alloc, World.size_drew, Act.put, List.setIfInBounds_toArray, List.set_cons_succ, List.set_cons_zero]) | go_big_quiet_step (fail) | (refine quiet_len_v (by rfl) _ _ rfl Try.underlying30 rfl ?_; simp only [World.size_alloc, World.size_drew, Act.put, List.setIfInBounds_toArray, List.set_cons_succ, List.set_cons_zero]))
    refine wpQuiet_nil ?_
    refine WD.free [20] (by kernel_rfl) f0 ?_
    simp only [pick, List.toList_toArray, List.map_cons, List.map_nil, List.getD_cons_succ, List.getD_cons_zero]
    repeat (first | (refine quiet_load_1R (by rfl) _ _ rfl rfl (.slice (some ⟨kb, 0, none⟩) n kc) (fun w0 h => CX.out w0 h) _ Try.underlying30 rfl ?_; simp only [World.size_alloc, World.size_drew, Act.put, List.setIfInBounds_toArray, List.set_cons_succ, List.set_cons_zero]) | (refine quiet_load_1R (by rfl) _ _ rfl rfl (.bool true) (fun w0 h => CX3.out w0 h) _ Try.underlying4 rfl ?_; simp only [World.size_alloc, World.size_drew, Act.put, List.setIfInBounds_toArray, List.set_cons_succ, List.set_cons_zero]) | (refine quiet_load_1R (by rfl) _ _ rfl rfl (.slice ta tl.length tc) (fun w0 h => CX2.out w0 h) _ Try.underlying37 rfl ?_; simp only [World.size_alloc, World.size_drew, Act.put, List.setIfInBounds_toArray, List.set_cons_succ, List.set_cons_zero]) | go_big_quiet_step (fail) | (refine quiet_len_v (by rfl) _ _ rfl Try.underlying30 rfl ?_; simp only [World.size_alloc, World.size_drew, Act.put, List.setIfInBounds_toArray, List.set_cons_succ, List.set_cons_zero]))
    refine wpQuiet_nil ?_
    refine WD.eff 19 (by kernel_rfl) ?_
    simp only [pick, List.toList_toArray, List.map_cons, List.map_nil, List.getD_cons_succ, List.getD_cons_zero]
    go_wp2_with (go_at_call 13; refine (KO.out _ f0).mono ?_; rintro e w5 ⟨⟨v5, B5, rfl, r5⟩, f5⟩)
    have g5 := f0.trans' f5
    try refine wpList_nil ?_
    refine AfterD.on g5 (by kernel_rfl) ?_
    try simp only [World.size_alloc, World.size_drew, Act.put, List.setIfInBounds_toArray, List.set_cons_succ, List.set_cons_zero]
    refine WD.eff 21 (by kernel_rfl) ?_
    simp only [pick, List.toList_toArray, List.map_cons, List.map_nil, List.getD_cons_succ, List.getD_cons_zero]
    go_wp2_with (go_at_call 48; refine (KP.out _ g5).mono ?_; rintro e w6 ⟨⟨v6, B6, rfl, r6⟩, f6⟩)
    have g6 := g5.trans' f6
    try refine wpList_nil ?_
    refine AfterD.on g6 (by kernel_rfl) ?_
    try simp only [World.size_alloc, World.size_drew, Act.put, List.setIfInBounds_toArray, List.set_cons_succ, List.set_cons_zero]
    refine WD.eff 22 (by kernel_rfl) ?_
    simp only [pick, List.toList_toArray, List.map_cons, List.map_nil, List.getD_cons_succ, List.getD_cons_zero]
    have hi6 := ints_any (r5.keep f6 (by simp)) r6 hll hll
    rw [decide_eq_true rfl] at hi6
    go_wp2_with (go_at_call 47; refine hi6.mono ?_; rintro e w7 ⟨rfl, f7⟩)
    have g7 := g6.trans' f7
    try refine wpList_nil ?_
    refine AfterD.on g7 (by kernel_rfl) ?_
    try simp only [World.size_alloc, World.size_drew, Act.put, List.setIfInBounds_toArray, List.set_cons_succ, List.set_cons_zero]
    refine WD.pure [23, 24, 25, 26] (by kernel_rfl) g7 ?_
    simp only [pick, List.toList_toArray, List.map_cons, List.map_nil, List.getD_cons_succ, List.getD_cons_zero]
    repeat (first | (refine quiet_load_1R (by rfl) _ _ rfl rfl (.slice (some ⟨kb, 0, none⟩) n kc) (fun w0 h => CX.out w0 h) _ Try.underlying30 rfl ?_; simp only [World.size_alloc, World.size_drew, Act.put, List.setIfInBounds_toArray, List.set_cons_succ, List.set_cons_zero]) | (refine quiet_load_1R (by rfl) _ _ rfl rfl (.bool true) (fun w0 h => CX3.out w0 h) _ Try.underlying4 rfl ?_; simp only [World.size_alloc, World.size_drew, Act.put, List.setIfInBounds_toArray, List.set_cons_succ, List.set_cons_zero]) | (refine quiet_load_1R (by rfl) _ _ rfl rfl (.slice ta tl.length tc) (fun w0 h => CX2.out w0 h) _ Try.underlying37 rfl ?_; simp only [World.size_alloc, World.size_drew, Act.put, List.setIfInBounds_toArray, List.set_cons_succ, List.set_cons_zero]) | go_big_quiet_step (fail) | (refine quiet_len_v (by rfl) _ _ rfl Try.underlying30 rfl ?_; simp only [World.size_alloc, World.size_drew, Act.put, List.setIfInBounds_toArray, List.set_cons_succ, List.set_cons_zero]))
    refine wpQuiet_nil ?_
    refine WD.free [28, 29, 30] (by kernel_rfl) g7 ?_
    simp only [pick, List.toList_toArray, List.map_cons, List.map_nil, List.getD_cons_succ, List.getD_cons_zero]
    repeat (first | (refine quiet_load_1R (by rfl) _ _ rfl rfl (.slice (some ⟨kb, 0, none⟩) n kc) (fun w0 h => CX.out w0 h) _ Try.underlying30 rfl ?_; simp only [World.size_alloc, World.size_drew, Act.put, List.setIfInBounds_toArray, List.set_cons_succ, List.set_cons_zero]) | (refine quiet_load_1R (by rfl) _ _ rfl rfl (.bool true) (fun w0 h => CX3.out w0 h) _ Try.underlying4 rfl ?_; simp only [World.size_alloc, World.size_drew, Act.put, List.setIfInBounds_toArray, List.set_cons_succ, List.set_cons_zero]) | (refine quiet_load_1R (by rfl) _ _ rfl rfl (.slice ta tl.length tc) (fun w0 h => CX2.out w0 h) _ Try.underlying37 rfl ?_; simp only [World.size_alloc, World.size_drew, Act.put, List.setIfInBounds_toArray, List.set_cons_succ, List.set_cons_zero]) | go_big_quiet_step (fail) | (refine quiet_len_v (by rfl) _ _ rfl Try.underlying30 rfl ?_; simp only [World.size_alloc, World.size_drew, Act.put, List.setIfInBounds_toArray, List.set_cons_succ, List.set_cons_zero]))
    refine wpQuiet_nil ?_
    refine WD.held [31] (by kernel_rfl) g7 ?_
    simp only [pick, List.toList_toArray, List.map_cons, List.map_nil, List.getD_cons_succ, List.getD_cons_zero]
    repeat (first | (refine quiet_load_1R (by rfl) _ _ rfl rfl (.slice (some ⟨kb, 0, none⟩) n kc) (fun w0 h => CX.out w0 h) _ Try.underlying30 rfl ?_; simp only [World.size_alloc, World.size_drew, Act.put, List.setIfInBounds_toArray, List.set_cons_succ, List.set_cons_zero]) | (refine quiet_load_1R (by rfl) _ _ rfl rfl (.bool true) (fun w0 h => CX3.out w0 h) _ Try.underlying4 rfl ?_; simp only [World.size_alloc, World.size_drew, Act.put, List.setIfInBounds_toArray, List.set_cons_succ, List.set_cons_zero]) | (refine quiet_load_1R (by rfl) _ _ rfl rfl (.slice ta tl.length tc) (fun w0 h => CX2.out w0 h) _ Try.underlying37 rfl ?_; simp only [World.size_alloc, World.size_drew, Act.put, List.setIfInBounds_toArray, List.set_cons_succ, List.set_cons_zero]) | go_big_quiet_step (fail) | (refine quiet_len_v (by rfl) _ _ rfl Try.underlying30 rfl ?_; simp only [World.size_alloc, World.size_drew, Act.put, List.setIfInBounds_toArray, List.set_cons_succ, List.set_cons_zero]))
    refine wpQuiet_nil ?_
    refine WD.eff 27 (by kernel_rfl) ?_
    simp only [pick, List.toList_toArray, List.map_cons, List.map_nil, List.getD_cons_succ, List.getD_cons_zero]
    clear r5 r6 f5 f6 f7 hi6 g5 g6
    go_wp2_with (go_at_call 23; refine (KT.out _ g7).mono ?_; rintro e w8 ⟨⟨v8, B8, rfl, r8⟩, f8⟩)
    have g8 := g7.trans' f8
    try refine wpList_nil ?_
    refine AfterD.on g8 (by kernel_rfl) ?_
    try simp only [World.size_alloc, World.size_drew, Act.put, List.setIfInBounds_toArray, List.set_cons_succ, List.set_cons_zero]
    refine WD.eff 32 (by kernel_rfl) ?_
    simp only [pick, List.toList_toArray, List.map_cons, List.map_nil, List.getD_cons_succ, List.getD_cons_zero]
    have hi8 := ints_any r8 (RT.out _ g8) ht ht
    rw [decide_eq_true rfl] at hi8
    go_wp2_with (go_at_call 47; refine hi8.mono ?_; rintro e w9 ⟨rfl, f9⟩)
    have g9 := g8.trans' f9
    try refine wpList_nil ?_
    refine AfterD.on g9 (by kernel_rfl) ?_
    try simp only [World.size_alloc, World.size_drew, Act.put, List.setIfInBounds_toArray, List.set_cons_succ, List.set_cons_zero]
    refine WD.pure [33, 34] (by kernel_rfl) g9 ?_
    simp only [pick, List.toList_toArray, List.map_cons, List.map_nil, List.getD_cons_succ, List.getD_cons_zero]
    repeat (first | (refine quiet_load_1R (by rfl) _ _ rfl rfl (.slice (some ⟨kb, 0, none⟩) n kc) (fun w0 h => CX.out w0 h) _ Try.underlying30 rfl ?_; simp only [World.size_alloc, World.size_drew, Act.put, List.setIfInBounds_toArray, List.set_cons_succ, List.set_cons_zero]) | (refine quiet_load_1R (by rfl) _ _ rfl rfl (.bool true) (fun w0 h => CX3.out w0 h) _ Try.underlying4 rfl ?_; simp only [World.size_alloc, World.size_drew, Act.put, List.setIfInBounds_toArray, List.set_cons_succ, List.set_cons_zero]) | (refine quiet_load_1R (by rfl) _ _ rfl rfl (.slice ta tl.length tc) (fun w0 h => CX2.out w0 h) _ Try.underlying37 rfl ?_; simp only [World.size_alloc, World.size_drew, Act.put, List.setIfInBounds_toArray, List.set_cons_succ, List.set_cons_zero]) | go_big_quiet_step (fail) | (refine quiet_len_v (by rfl) _ _ rfl Try.underlying30 rfl ?_; simp only [World.size_alloc, World.size_drew, Act.put, List.setIfInBounds_toArray, List.set_cons_succ, List.set_cons_zero]))
    refine wpQuiet_nil ?_
    refine WD.done (by kernel_rfl) ?_
    clear r8 f8 f9 hi8 g8 g7
    go_wp2_with fail
    clear KL KD KO KP KT RT CX2 CX3
    go_loopw [5] (fun jv wr => ∃ j : Nat, j ≤ n ∧ jv = .int .i64 (j : Int) ∧ Fr [] w wr) (fun jv _ => n - (intOf jv).toNat)
    case atStart => exact ⟨0, Nat.zero_le _, rfl, g9⟩
    case round =>
      obtain ⟨j, hj, rfl, f⟩ := hrel
      have c0 := CX.out _ f
      by_cases hjn : j < n
      · have hd : decide (j < n) = true := by simp; omega
        have hr := KR.out _ f j hjn
        have hs := KS.out _ f j
        generalize rs (j : Int) = rsj at *
        generalize rc (j : Int) = rcj at *
        go_wp2_with (first
          | (go_at_call 14; refine hr.mono ?_; rintro e w5 ⟨rfl, hw⟩; subst hw)
          | (go_at_call 43; refine hs.mono ?_; rintro e w5 ⟨rfl, hw⟩; subst hw))
        go_roundw
        case rel => exact ⟨j + 1, by omega, by go_num, f⟩
        case measure => simp [intOf]; omega
      · have hd : decide (j < n) = false := by simp; omega
        go_wp2_with fail
        go_ret
        exact ⟨rfl, f⟩
end
end Go.Proofs.Ytflapddkeeiieaa
