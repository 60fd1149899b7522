/- Layer 7 (great seat): Open, Make, stands, does of both, be there a mirror or not. -/
import Derived.Test.YtjgagcpmoffldaaGreatPmQ
import Derived.Test.YtjgagcpmoffldaaGreatPmM
namespace Go.Proofs.YtjgagcpmoffldaaGreat
open Go Go.Xr Go.RowKit
set_option linter.unusedVariables false
set_option linter.unusedSimpArgs false
abbrev MO := Option (Bool × Bool × UInt64)
def sys0 : Sys := sy (newXD 0) (newXD 0) []
def hC (m : Nat) (d : Bool → Nat) : MO → List Res
  | none => []
  | some q => [mirR m d ⟨sys0, q.1, q.2.1, q.2.2⟩]
def hX (y db ib : Nat) (x : Bool → Nat) : MO → List Res
  | none => []
  | some q => [Res.blk y (gmL db ib q.2.2), Res.blk db (dbL x), isR ib ⟨sys0, q.1, q.2.1, q.2.2⟩]
def pv (m : Nat) : MO → Value
  | none => .pointer none
  | some _ => .pointer (some ⟨m, 0, none⟩)
def msO (s : Sys) (q : Bool × Bool × UInt64) : MS := ⟨s, q.1, q.2.1, q.2.2⟩
def Sys.opn (s : Sys) : MO × Int := if s.mayC = 0 then (if ((s.X false).Dead && (s.X true).Dead) = true then (none, 70) else if s.opB.2 = true then (some (s.cur false, s.cur true, s.opB.1), 0) else (none, 71)) else (none, 2)
def Sys.mak (s : Sys) : Sys × MO × Int := if s.mayC = 0 then (if ((s.X false).Dead || (s.X true).Dead) = true then (s, none, 70) else (s.made, some (true, true, 1), 0)) else (s, none, 2)
theorem mayC_ok {s : Sys} (hc : s.mayC = 0) : s.len false = s.len true ∧ 2 ≤ s.len true := by
  unfold Sys.mayC at hc
  split at hc
  · rename_i h; exact ⟨h.1, h.1 ▸ h.2⟩
  · cases hc
theorem mayC_no {s : Sys} (hc : s.mayC ≠ 0) : s.len false = s.len true → s.len true < 2 := by
  unfold Sys.mayC at hc
  split at hc
  · exact absurd rfl hc
  · rename_i h
    intro e
    exact Nat.lt_of_not_le fun h2 => h ⟨e, e ▸ h2⟩
theorem doesM_stp (M : MS) (a : Step7) : Stp (2 * M.s.len (!M.c0) + 12) M.s (doesM M a).s := by
  unfold doesM
  split
  · split
    · exact (Stp.refl _).mono (by omega)
    · exact (wrM_stp M _ _).mono (by omega)
  · split
    · exact (rd_stp M _).mono (by omega)
    · split
      · exact (ot_stp M _).mono (by omega)
      · split
        · exact (flushM_stp M).mono (by omega)
        · exact (rs_stp M).mono (by omega)
section
variable {w w' w0 : World} {l rs lb C D : List Res} {pbs qbs : List Nat} {m y db ib : Nat} {s : Sys} {d x : Bool → Nat} {FF GG : Bool → List Nat} {N : MO}
theorem Ev.lessL (a : List Res) {m : List Res} : ∀ (l : List Res), Ev w0 rs w (a ++ l ++ m) → Ev w0 rs w (a ++ m)
  | [], h => by simpa using h
  | r :: l, h => Ev.lessL a l (by
      have h2 : Ev w0 rs w (a ++ r :: (l ++ m)) := by simpa using h
      have := Ev.less a (l ++ m) h2
      simpa using this)
theorem drop_both {hc hx : List Res} (e : Ev w0 rs w (lb ++ (hc ++ C) ++ (hx ++ D))) : Ev w0 rs w (lb ++ C ++ D) := by
  have h1 : Ev w0 rs w (lb ++ hc ++ (C ++ (hx ++ D))) := by simpa using e
  have h2 := Ev.lessL lb hc h1
  have h3 : Ev w0 rs w ((lb ++ C) ++ hx ++ D) := by simpa using h2
  exact Ev.lessL (lb ++ C) hx h3
theorem copen_any (h : Held w (l ++ sysC pbs s d FF)) (ok : SysOk s) :
    Calls Tryz.prog 7 #[.pointer (some ⟨d false, 0, none⟩), .pointer (some ⟨d true, 0, none⟩)] w fun e w' => ∃ m, e = .returned (.tuple #[pv m s.opn.1, .int .i64 s.opn.2]) ∧ Ev w (l ++ sysC pbs s d FF) w' (l ++ (hC m d s.opn.1 ++ sysC pbs s d FF)) := by
  unfold Sys.opn
  by_cases hc : s.mayC = 0
  · rw [if_pos hc]
    obtain ⟨hl, h2⟩ := mayC_ok hc
    cases hd : ((s.X false).Dead && (s.X true).Dead) with
    | true =>
      rw [if_pos (rfl : true = true)]
      have hd2 : (s.X false).Dead = true ∧ (s.X true).Dead = true := by simpa using hd
      refine (open_lost h ok hl h2 hd2.1 hd2.2).mono ?_
      rintro e w' ⟨rfl, ev⟩
      exact ⟨0, rfl, ev⟩
    | false =>
      rw [if_neg (show ¬ (false = true) by decide)]
      have hd2 : (s.X false).Dead = false ∨ (s.X true).Dead = false := by
        cases h0 : (s.X false).Dead with
        | false => exact .inl rfl
        | true => rw [h0] at hd; exact .inr (by simpa using hd)
      refine (open_ok h ok hl h2 hd2).mono ?_
      rintro e w' ⟨m, rfl, ev⟩
      cases hB : s.opB.2 with
      | true =>
        rw [if_pos (rfl : true = true)]
        have e1 := op1_any s
        rw [hB] at e1
        rw [op1_cur s hB] at ev
        exact ⟨m, by rw [e1]; rfl, ev⟩
      | false =>
        rw [if_neg (show ¬ (false = true) by decide)]
        have e1 := op1_any s
        rw [hB] at e1
        have ev2 := mir_drop ev
        rw [op1_s] at ev2
        exact ⟨m, by rw [e1]; rfl, ev2⟩
  · rw [if_neg hc]
    refine (open_bad (by decide) (two_arg h ok (mayC_no hc))).mono ?_
    rintro e w' ⟨rfl, rfl⟩
    exact ⟨0, rfl, Ev.refl h⟩
theorem xopen_any (h : Held w (l ++ sysX pbs s d FF)) (ok : SysOk s) (ht : s.T < 998900) :
    Calls Tryz.prog 8 #[.pointer (some ⟨d false, 0, none⟩), .pointer (some ⟨d true, 0, none⟩)] w fun e w' => ∃ m db ib, e = .returned (.tuple #[pv m s.opn.1, .int .i64 s.opn.2]) ∧ Ev w (l ++ sysX pbs s d FF) w' (l ++ (hX m db ib d s.opn.1 ++ sysX pbs s d FF)) := by
  unfold Sys.opn
  by_cases hc : s.mayC = 0
  · rw [if_pos hc]
    cases hd : ((s.X false).Dead && (s.X true).Dead) with
    | true =>
      rw [if_pos (rfl : true = true)]
      have hd2 : (s.X false).Dead = true ∧ (s.X true).Dead = true := by simpa using hd
      refine (popen_lost h ok hc hd2.1 hd2.2).mono ?_
      rintro e w' ⟨rfl, f⟩
      exact ⟨0, 0, 0, rfl, (Ev.refl h).step f⟩
    | false =>
      rw [if_neg (show ¬ (false = true) by decide)]
      have hd2 : (s.X false).Dead = false ∨ (s.X true).Dead = false := by
        cases h0 : (s.X false).Dead with
        | false => exact .inl rfl
        | true => rw [h0] at hd; exact .inr (by simpa using hd)
      cases hB : s.opB.2 with
      | true =>
        rw [if_pos (rfl : true = true)]
        refine (popen_yes h ok ht hc hd2 hB).mono ?_
        rintro e w' ⟨m, db, ib, rfl, ev⟩
        exact ⟨m, db, ib, rfl, ev⟩
      | false =>
        rw [if_neg (show ¬ (false = true) by decide)]
        refine (popen_no h ok ht hc hd2 hB).mono ?_
        rintro e w' ⟨rfl, ev⟩
        exact ⟨0, 0, 0, rfl, ev⟩
  · rw [if_neg hc]
    refine (popen_bad h ok hc).mono ?_
    rintro e w' ⟨rfl, f⟩
    exact ⟨0, 0, 0, rfl, (Ev.refl h).step f⟩
theorem cmake_any (h : Held w (l ++ sysC pbs s d FF)) (ok : SysOk s) (ht : s.T < 998900) :
    Calls Tryz.prog 10 #[.pointer (some ⟨d false, 0, none⟩), .pointer (some ⟨d true, 0, none⟩)] w fun e w' => ∃ m FF', e = .returned (.tuple #[pv m s.mak.2.1, .int .i64 s.mak.2.2]) ∧ Ev w (l ++ sysC pbs s d FF) w' (l ++ (hC m d s.mak.2.1 ++ sysC pbs s.mak.1 d FF')) := by
  unfold Sys.mak
  by_cases hc : s.mayC = 0
  · rw [if_pos hc]
    obtain ⟨hl, h2⟩ := mayC_ok hc
    cases hd : ((s.X false).Dead || (s.X true).Dead) with
    | true =>
      rw [if_pos (rfl : true = true)]
      have hd2 : (s.X false).Dead = true ∨ (s.X true).Dead = true := by simpa using hd
      refine (make_lost h ok hl h2 hd2).mono ?_
      rintro e w' ⟨rfl, ev⟩
      exact ⟨0, FF, rfl, ev⟩
    | false =>
      rw [if_neg (show ¬ (false = true) by decide)]
      have hd2 : (s.X false).Dead = false ∧ (s.X true).Dead = false := by simpa using hd
      refine (make_ok h ok ht hl h2 hd2.1 hd2.2).mono ?_
      rintro e w' ⟨m, FF', rfl, ev⟩
      exact ⟨m, FF', rfl, ev⟩
  · rw [if_neg hc]
    refine (make_bad (by decide) (two_arg h ok (mayC_no hc))).mono ?_
    rintro e w' ⟨rfl, rfl⟩
    exact ⟨0, FF, rfl, Ev.refl h⟩
theorem xmake_any (h : Held w (l ++ sysX pbs s d FF)) (ok : SysOk s) (ht : s.T < 998900) :
    Calls Tryz.prog 11 #[.pointer (some ⟨d false, 0, none⟩), .pointer (some ⟨d true, 0, none⟩)] w fun e w' => ∃ m db ib FF', e = .returned (.tuple #[pv m s.mak.2.1, .int .i64 s.mak.2.2]) ∧ Ev w (l ++ sysX pbs s d FF) w' (l ++ (hX m db ib d s.mak.2.1 ++ sysX pbs s.mak.1 d FF')) := by
  unfold Sys.mak
  by_cases hc : s.mayC = 0
  · rw [if_pos hc]
    cases hd : ((s.X false).Dead || (s.X true).Dead) with
    | true =>
      rw [if_pos (rfl : true = true)]
      have hd2 : (s.X false).Dead = true ∨ (s.X true).Dead = true := by simpa using hd
      refine (pmake_lost h ok hc hd2).mono ?_
      rintro e w' ⟨rfl, f⟩
      exact ⟨0, 0, 0, FF, rfl, (Ev.refl h).step f⟩
    | false =>
      rw [if_neg (show ¬ (false = true) by decide)]
      have hd2 : (s.X false).Dead = false ∧ (s.X true).Dead = false := by simpa using hd
      refine (pmake_ok h ok ht hc hd2.1 hd2.2).mono ?_
      rintro e w' ⟨m, db, ib, FF', rfl, ev⟩
      exact ⟨m, db, ib, FF', rfl, ev⟩
  · rw [if_neg hc]
    refine (pmake_bad h ok hc).mono ?_
    rintro e w' ⟨rfl, f⟩
    exact ⟨0, 0, 0, FF, rfl, (Ev.refl h).step f⟩
theorem mak_out (ok : SysOk s) : SysOk s.mak.1 ∧ s.mak.1.T ≤ s.T + 8 ∧ ∀ b, s.mak.1.len b = s.len b := by
  unfold Sys.mak
  split
  · split
    · exact ⟨ok, Nat.le_add_right _ _, fun _ => rfl⟩
    · exact ⟨(made_stp s).ok ok, (made_stp s).T ok, (made_stp s).len ok⟩
  · exact ⟨ok, Nat.le_add_right _ _, fun _ => rfl⟩
theorem cstands_any (h : Held w (lb ++ (hC m d N ++ sysC pbs s d FF) ++ (hX y db ib x N ++ sysX qbs s x GG))) (ok : SysOk s) :
    Calls Tryz.prog 9 #[pv m N, pv y N] w fun e w' => e = .returned (.bool true) ∧ Fr [] w w' := by
  cases N with
  | none =>
    refine (pstands_nil w).mono ?_
    rintro e w' ⟨rfl, rfl⟩
    exact ⟨rfl, Fr.refl _ _⟩
  | some q =>
    have h1 : Held w ([] ++ mirC pbs m d FF (msO s q)) := Held.part lb (hX y db ib x (some q) ++ sysX qbs s x GG) h
    have h2 : Held w ((lb ++ mirC pbs m d FF (msO s q)) ++ mirX qbs y db ib x GG (msO s q)) := h
    exact pstands_any h1 h2 ok
theorem cdisks_any (h : Held w (lb ++ (hC m d N ++ sysC pbs s d FF) ++ (hX y db ib x N ++ sysX qbs s x GG))) (ok : SysOk s) (ht : s.T < 1000000) :
    Calls Tryz.prog 12 #[.agg (dbL d).toArray, .agg (dbL x).toArray] w fun e w' => e = .returned (.bool true) ∧ Fr [] w w' := by
  have h1 : Held w (hC m d N ++ sysC pbs s d FF) := Held.part lb (hX y db ib x N ++ sysX qbs s x GG) h
  have h2 : Held w ((lb ++ (hC m d N ++ sysC pbs s d FF) ++ hX y db ib x N) ++ sysX qbs s x GG) := by rw [List.append_assoc]; exact h
  exact pdisks_any h1 h2 ok ht
theorem cdoes_any {q : Bool × Bool × UInt64} (h : Held w (lb ++ (hC m d (some q) ++ sysC pbs s d FF) ++ (hX y db ib x (some q) ++ sysX qbs s x GG))) (ok : SysOk s) (ht : s.T + 2 * s.len (!q.1) < 998800) (a : Step7) (ha : StOk7 w a) :
    Calls Tryz.prog 16 #[.pointer (some ⟨m, 0, none⟩), .pointer (some ⟨y, 0, none⟩), .agg (stc7 a).toArray] w fun e w' => e = .returned (.bool true) ∧ ∃ (s' : Sys) (q' : Bool × Bool × UInt64) (FF' GG' : Bool → List Nat), SysOk s' ∧ s'.T ≤ s.T + 2 * s.len (!q.1) + 12 ∧ (∀ b, s'.len b = s.len b) ∧ Ev w (lb ++ (hC m d (some q) ++ sysC pbs s d FF) ++ (hX y db ib x (some q) ++ sysX qbs s x GG)) w' (lb ++ (hC m d (some q') ++ sysC pbs s' d FF') ++ (hX y db ib x (some q') ++ sysX qbs s' x GG')) := by
  have st := doesM_stp (msO s q) a
  refine (pdoes_any (M := msO s q) h ok ht a ha).mono ?_
  rintro e w' ⟨rfl, FF', GG', ev⟩
  exact ⟨rfl, (doesM (msO s q) a).s, ((doesM (msO s q) a).c0, (doesM (msO s q) a).c1, (doesM (msO s q) a).g), FF', GG', st.ok ok, st.T ok, st.len ok, ev⟩
end
end Go.Proofs.YtjgagcpmoffldaaGreat
