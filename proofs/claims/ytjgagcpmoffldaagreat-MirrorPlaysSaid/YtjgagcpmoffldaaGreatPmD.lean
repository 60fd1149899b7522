/- Layer 7 (great seat): the document's mirror in memory; lost, left, Len, may; the calls of its disks. -/
import Derived.Test.YtjgagcpmoffldaaGreatPmC
import Derived.Test.YtjgagcpmoffldaaGreatGMirA
namespace Go.Proofs.YtjgagcpmoffldaaGreat
open Go Go.Xr Go.RowKit
set_option linter.unusedVariables false
set_option linter.unusedSimpArgs false
def isR (ib : Nat) (M : MS) : Res := ⟨[ib], fun w => ∃ a0 a1 : Int, Blk w ib [.int .i64 a0, .int .i64 a1] ∧ M.c0 = decide (a0 = 0) ∧ M.c1 = decide (a1 = 0)⟩
def gmL (db ib : Nat) (g : UInt64) : List Value := [.slice (some ⟨db, 0, none⟩) 2 2, .slice (some ⟨ib, 0, none⟩) 2 2, W64 g]
def dbL (d : Bool → Nat) : List Value := [.pointer (some ⟨d false, 0, none⟩), .pointer (some ⟨d true, 0, none⟩)]
def mirX (pbs : List Nat) (m db ib : Nat) (d : Bool → Nat) (FF : Bool → List Nat) (M : MS) : List Res := [Res.blk m (gmL db ib M.g), Res.blk db (dbL d), isR ib M] ++ sysX pbs M.s d FF
theorem isR_on {w : World} {ib : Nat} {M : MS} {a0 a1 : Int} (hb : Blk w ib [.int .i64 a0, .int .i64 a1]) (h0 : M.c0 = decide (a0 = 0)) (h1 : M.c1 = decide (a1 = 0)) : (isR ib M).On w :=
  ⟨fun w w' hs ⟨a0, a1, h, e⟩ => ⟨a0, a1, h.same (hs ib (List.mem_singleton.2 rfl) h.lt), e⟩, ⟨a0, a1, hb, h0, h1⟩, fun b hb2 => by
    obtain rfl := List.mem_singleton.1 hb2
    exact hb.lt, List.pairwise_singleton _ _⟩
section
variable {w w' w0 : World} {l rs : List Res} {pbs : List Nat} {m db ib : Nat} {M M' : MS} {d : Bool → Nat} {FF FF' : Bool → List Nat}
theorem xir_sys (h : Held w (l ++ mirX pbs m db ib d FF M)) : Held w ((l ++ [Res.blk m (gmL db ib M.g), Res.blk db (dbL d), isR ib M]) ++ sysX pbs M.s d FF) := by rw [List.append_assoc]; exact h
theorem xir_three (h : Held w (l ++ mirX pbs m db ib d FF M)) : Held w [Res.blk m (gmL db ib M.g), Res.blk db (dbL d), isR ib M] := Held.part l (sysX pbs M.s d FF) (by rw [List.append_assoc]; exact h)
theorem xir_blk (h : Held w (l ++ mirX pbs m db ib d FF M)) : Blk w m (gmL db ib M.g) := (xir_three h).blkAt 0 rfl
theorem xir_dbl (h : Held w (l ++ mirX pbs m db ib d FF M)) : Blk w db (dbL d) := (xir_three h).blkAt 1 rfl
theorem xir_is (h : Held w (l ++ mirX pbs m db ib d FF M)) : ∃ a0 a1 : Int, Blk w ib [.int .i64 a0, .int .i64 a1] ∧ M.c0 = decide (a0 = 0) ∧ M.c1 = decide (a1 = 0) := (xir_three h).at 2 rfl
theorem xir_ev {s' : Sys} (ev : Ev w ((l ++ [Res.blk m (gmL db ib M.g), Res.blk db (dbL d), isR ib M]) ++ sysX pbs M.s d FF) w' ((l ++ [Res.blk m (gmL db ib M.g), Res.blk db (dbL d), isR ib M]) ++ sysX pbs s' d FF')) : Ev w (l ++ mirX pbs m db ib d FF M) w' (l ++ mirX pbs m db ib d FF' { M with s := s' }) := by
  rw [List.append_assoc, List.append_assoc] at ev
  exact ev
theorem xir_gen (e : Ev w0 rs w (l ++ mirX pbs m db ib d FF M)) (f : Fr [m] w w') {g : UInt64} (hb : Blk w' m (gmL db ib g)) : Ev w0 rs w' (l ++ mirX pbs m db ib d FF { M with g := g }) := by
  have e2 := Ev.then l (sysX pbs M.s d FF) (ps := [Res.blk m (gmL db ib M.g), Res.blk db (dbL d), isR ib M]) (by rw [List.append_assoc]; exact e) ((Ev.refl (xir_three e.held)).at 0 rfl f (fun b hb => .inl hb) (Res.On.blk hb) (fun b hb => .inl hb))
  rw [List.append_assoc] at e2
  exact e2
theorem xir_put (e : Ev w0 rs w (l ++ mirX pbs m db ib d FF M)) (f : Fr [ib] w w') {a0 a1 : Int} (hb : Blk w' ib [.int .i64 a0, .int .i64 a1]) (hs : M'.s = M.s) (hg : M'.g = M.g) (h0 : M'.c0 = decide (a0 = 0)) (h1 : M'.c1 = decide (a1 = 0)) : Ev w0 rs w' (l ++ mirX pbs m db ib d FF M') := by
  have e2 := Ev.then l (sysX pbs M.s d FF) (ps := [Res.blk m (gmL db ib M.g), Res.blk db (dbL d), isR ib M]) (by rw [List.append_assoc]; exact e) ((Ev.refl (xir_three e.held)).at 2 rfl f (fun b hb => .inl hb) (isR_on (M := M') hb h0 h1) (fun b hb => .inl hb))
  rw [List.append_assoc] at e2
  unfold mirX
  rw [hs, hg]
  exact e2
theorem pW (b : Bool) (h : Held w (l ++ mirX pbs m db ib d FF M)) (ok : SysOk M.s) (ht : M.s.T < 1000000) (I : Int) (S : ByteArray) (hS : S.size ≤ 9223372036854775807) :
    Calls Tryz.prog 37 #[.pointer (some ⟨d b, 0, none⟩), .int .i64 I, .string S] w fun e w' => e = .returned (.int .i64 (M.s.wrC b I S)) ∧ ∃ FF', Ev w (l ++ mirX pbs m db ib d FF M) w' (l ++ mirX pbs m db ib d FF' { M with s := M.s.wr b I S }) := by
  refine (xW b (xir_sys h) ok ht I S hS).mono ?_
  rintro e w' ⟨rfl, FF', ev⟩
  exact ⟨rfl, FF', xir_ev ev⟩
theorem pF (b : Bool) (h : Held w (l ++ mirX pbs m db ib d FF M)) (ok : SysOk M.s) (ht : M.s.T < 1000000) :
    Calls Tryz.prog 38 #[.pointer (some ⟨d b, 0, none⟩)] w fun e w' => e = .returned (.int .i64 (M.s.flC b)) ∧ ∃ FF', Ev w (l ++ mirX pbs m db ib d FF M) w' (l ++ mirX pbs m db ib d FF' { M with s := M.s.fl b }) := by
  refine (xF b (xir_sys h) ok ht).mono ?_
  rintro e w' ⟨rfl, FF', ev⟩
  exact ⟨rfl, FF', xir_ev ev⟩
theorem any_of (M : MS) {a0 a1 : Int} (h0 : M.c0 = decide (a0 = 0)) (h1 : M.c1 = decide (a1 = 0)) : (!M.any) = ((a0 != 0) && (a1 != 0)) := by
  unfold MS.any
  rw [h0, h1]
  by_cases e0 : a0 = 0 <;> by_cases e1 : a1 = 0 <;> simp [e0, e1]
set_option maxRecDepth 20000 in
theorem plost_any (h : Held w (l ++ mirX pbs m db ib d FF M)) : Calls Tryz.prog 82 #[.pointer (some ⟨m, 0, none⟩)] w fun e w' => e = .returned (.bool (!M.any)) ∧ w' = w := by
  obtain ⟨a0, a1, hi, h0, h1⟩ := xir_is h
  rw [any_of M h0 h1]
  have k1 : w.cell? ⟨m, 1, none⟩ = some (.slice (some ⟨ib, 0, none⟩) 2 2) := (xir_blk h).cell 1
  have i0 : w.cell? ⟨ib, 0, none⟩ = some (.int .i64 a0) := hi.cell 0
  have i1 : w.cell? ⟨ib, 1, none⟩ = some (.int .i64 a1) := hi.cell 1
  clear h h0 h1 hi
  cases e0 : (a0 != 0) with
  | false =>
    go_enter Tryz.func82, Tryz.ntmps82
    go_wp2_with fail
    go_ret
    exact ⟨rfl, rfl⟩
  | true =>
    go_enter Tryz.func82, Tryz.ntmps82
    go_wp2_with fail
    go_ret
    exact ⟨by simp, rfl⟩
set_option maxRecDepth 20000 in
theorem pleft_any (h : Held w (l ++ mirX pbs m db ib d FF M)) : Calls Tryz.prog 84 #[.pointer (some ⟨m, 0, none⟩)] w fun e w' => e = .returned (.int .i64 M.leftC) ∧ w' = w := by
  have H := hid (plost_any h)
  unfold MS.leftC
  cases ha : M.any with
  | false =>
    rw [ha] at H
    clear h ha
    go_enter Tryz.func84, Tryz.ntmps84
    go_wp2_with (go_at_call 82; refine H.out.mono ?_; rintro e w1 ⟨rfl, rfl⟩)
    go_ret
    exact ⟨rfl, rfl⟩
  | true =>
    rw [ha] at H
    clear h ha
    go_enter Tryz.func84, Tryz.ntmps84
    go_wp2_with (go_at_call 82; refine H.out.mono ?_; rintro e w1 ⟨rfl, rfl⟩)
    go_ret
    exact ⟨rfl, rfl⟩
theorem psee (b : Bool) (h : Held w (l ++ mirX pbs m db ib d FF M)) (ok : SysOk M.s) : ∃ (kb c : Nat), w.cell? ⟨d b, 0, none⟩ = some (.slice (some ⟨kb, 0, none⟩) (M.s.len b) c) ∧ w.cell? ⟨d b, 3, none⟩ = some (.bool (M.s.X b).Dead) := by
  obtain ⟨kb, c, lv, tv, pv, hb, _⟩ := xsee b (xir_sys h) ok
  exact ⟨kb, c, hb.cell 0, hb.cell 3⟩
set_option maxRecDepth 20000 in
theorem plen_any (h : Held w (l ++ mirX pbs m db ib d FF M)) (ok : SysOk M.s) : Calls Tryz.prog 30 #[.pointer (some ⟨m, 0, none⟩)] w fun e w' => e = .returned (.int .i64 ((M.s.len false : Int) - 1)) ∧ w' = w := by
  have k0 : w.cell? ⟨m, 0, none⟩ = some (.slice (some ⟨db, 0, none⟩) 2 2) := (xir_blk h).cell 0
  have d0 : w.cell? ⟨db, 0, none⟩ = some (.pointer (some ⟨d false, 0, none⟩)) := (xir_dbl h).cell 0
  obtain ⟨kb, c, hk, _⟩ := psee false h ok
  have hn := (len_pos ok false).2
  have hn1 := (len_pos ok false).1
  generalize M.s.len false = n at *
  generalize d false = x at *
  clear h ok
  go_enter Tryz.func30, Tryz.ntmps30
  go_wp2_with fail
  go_ret
  exact ⟨rfl, rfl⟩
def mayB (n : Nat) (i : Int) : Bool := decide (0 ≤ i) && decide (i < (n : Int) - 1)
set_option maxRecDepth 20000 in
theorem pmay_any (h : Held w (l ++ mirX pbs m db ib d FF M)) (ok : SysOk M.s) (i : Int) : Calls Tryz.prog 81 #[.pointer (some ⟨m, 0, none⟩), .int .i64 i] w fun e w' => e = .returned (.bool (mayB (M.s.len false) i)) ∧ w' = w := by
  have H := hid (plen_any h ok)
  unfold mayB
  generalize M.s.len false = n at *
  clear h ok
  cases hd : decide (0 ≤ i) with
  | false =>
    go_enter Tryz.func81, Tryz.ntmps81
    go_wp2_with fail
    go_ret
    exact ⟨rfl, rfl⟩
  | true =>
    go_enter Tryz.func81, Tryz.ntmps81
    go_wp2_with (go_at_call 30; refine H.out.mono ?_; rintro e w1 ⟨rfl, rfl⟩)
    go_ret
    exact ⟨by simp, rfl⟩
end
end Go.Proofs.YtjgagcpmoffldaaGreat
