/- Layer 7 (great seat): what is done to disks from outside, of both: they crash, hang on another power, fail, are replaced, are tampered with. -/
import Derived.Test.YtjgagcpmoffldaaGreatPmJ
import Derived.Test.YtjgagcpmoffldaaGreatPmI
import Derived.Test.YtjgagcpmoffldaaGreatGMirD
namespace Go.Proofs.YtjgagcpmoffldaaGreat
open Go Go.Xr Go.RowKit
set_option linter.unusedVariables false
set_option linter.unusedSimpArgs false
def Sys.re (s : Sys) (b : Bool) (X : XD) (k : Option Nat) : Sys := ⟨if b then s.X0 else X, if b then X else s.X1, if b then s.k0 else k, if b then k else s.k1, s.L⟩
def Sys.crash (s : Sys) (b : Bool) (ks : List Bool) : Sys := s.re b (crX (s.X b) ks) none
def Sys.wire (s : Sys) (b : Bool) (j : Nat) : Sys := if xdead (s.X b) (Go.Proofs.YtjgagcpmoffldaaGreat.mk 0 (s.lf b)) then s else s.re b (s.X b) (some j)
def Sys.more (s : Sys) (n : Nat) : Sys := { s with L := s.L ++ [n] }
def Sys.ta (s : Sys) (b : Bool) (I : Int) (S : ByteArray) : Sys := s.put b (taX (s.X b) (s.lf b) I S) (s.lf b)
theorem re_X (s : Sys) (b : Bool) (X : XD) (k : Option Nat) (c : Bool) : (s.re b X k).X c = if c = b then X else s.X c := by cases b <;> cases c <;> rfl
theorem re_k (s : Sys) (b : Bool) (X : XD) (k : Option Nat) (c : Bool) : (s.re b X k).k c = if c = b then k else s.k c := by cases b <;> cases c <;> rfl
theorem re_ok {s : Sys} {b : Bool} {X : XD} {k : Option Nat} (ok : SysOk s) (hX : XGood X) (hk : ∀ j, k = some j → j < s.L.length) : SysOk (s.re b X k) := by
  refine ⟨fun c => ?_, fun c j h => ?_⟩
  · rw [re_X]
    split
    · exact hX
    · exact ok.g c
  · rw [re_k] at h
    show j < s.L.length
    split at h
    · exact hk j h
    · exact ok.k c j h
theorem re_T {s : Sys} {b : Bool} {X : XD} {k : Option Nat} (h : X.L.length + X.Trace.length ≤ (s.X b).L.length + (s.X b).Trace.length) : (s.re b X k).T ≤ s.T := by
  cases b
  · unfold Sys.T; simp only [Sys.re, Sys.X] at h ⊢; simp at h ⊢; omega
  · unfold Sys.T; simp only [Sys.re, Sys.X] at h ⊢; simp at h ⊢; omega
theorem re_len {s : Sys} {b : Bool} {X : XD} {k : Option Nat} (h : X.Kept.length = (s.X b).Kept.length) (c : Bool) : (s.re b X k).len c = s.len c := by
  unfold Sys.len
  rw [re_X]
  split
  · rename_i e; rw [e, h]
  · rfl
structure Out (s s' : Sys) : Prop where
  ok : SysOk s'
  T : s'.T ≤ s.T
  len : ∀ c, s'.len c = s.len c
theorem crash_out {s : Sys} (ok : SysOk s) (b : Bool) (ks : List Bool) : Out s (s.crash b ks) := by
  obtain ⟨g1, g2, g3, g4⟩ := cr_good (ok.g b) ks
  exact ⟨re_ok ok g1 (fun j h => by cases h), re_T (by rw [g4]; omega), re_len g2⟩
theorem wire_out {s : Sys} (ok : SysOk s) (b : Bool) {j : Nat} (hj : j < s.L.length) : Out s (s.wire b j) := by
  unfold Sys.wire
  split
  · exact ⟨ok, Nat.le_refl _, fun _ => rfl⟩
  · exact ⟨re_ok ok (ok.g b) (fun i h => by cases h; exact hj), re_T (Nat.le_refl _), re_len rfl⟩
theorem more_X (s : Sys) (n : Nat) (c : Bool) : (s.more n).X c = s.X c := by cases c <;> rfl
theorem more_out {s : Sys} (ok : SysOk s) (n : Nat) : Out s (s.more n) := by
  refine ⟨⟨fun c => by rw [more_X]; exact ok.g c, fun c j h => ?_⟩, Nat.le_refl _, fun c => by unfold Sys.len; rw [more_X]⟩
  have h' : s.k c = some j := by cases c <;> exact h
  have := ok.k c j h'
  show j < (s.L ++ [n]).length
  rw [List.length_append]
  omega
theorem stp_out {s s' : Sys} (h : Stp 0 s s') (ok : SysOk s) : Out s s' := ⟨h.ok ok, h.T ok, h.len ok⟩
theorem ta_stp (s : Sys) (b : Bool) (I : Int) (S : ByteArray) : Stp 0 s (s.ta b I S) := by
  refine put_stp (fun g => (ta_nxt g (s.lf b) 0 0 I S).good) (fun g => (ta_nxt g (s.lf b) 0 0 I S).len) (fun g => ?_)
  unfold taX
  split
  · exact Nat.le_refl _
  · exact Nat.le_refl _
section
variable {w w' w0 : World} {l rs : List Res} {pbs : List Nat} {m db ib p n : Nat} {s : Sys} {M M' : MS} {d : Bool → Nat} {FF FF' : Bool → List Nat} {X' : XD} {k' : Option Nat} {F' : List Nat}
theorem dk_one (b : Bool) (h : Held w (l ++ sysC pbs s d FF)) : Held w [dk (d b) (s.X b) pbs (s.k b) (FF b)] := by
  have h2 : Held w (sysC pbs s d FF) := Held.part l [] (by simpa using h)
  cases b
  · exact h2.pick [1] (by decide) rfl
  · exact h2.pick [2] (by decide) rfl
theorem dk_set (b : Bool) (h : Held w (l ++ sysC pbs s d FF)) (ev : Ev w [dk (d b) (s.X b) pbs (s.k b) (FF b)] w' [dk (d b) X' pbs k' F']) :
    Ev w (l ++ sysC pbs s d FF) w' (l ++ sysC pbs (s.re b X' k') d (fun c => if c = b then F' else FF c)) := by
  cases b
  · have := Ev.part (l ++ [Res.pows pbs s.L]) [dk (d true) (s.X true) pbs (s.k true) (FF true)] (by rw [List.append_assoc, List.append_assoc]; exact h) ev
    rw [List.append_assoc, List.append_assoc, List.append_assoc, List.append_assoc] at this
    exact this
  · have := Ev.part (l ++ [Res.pows pbs s.L, dk (d false) (s.X false) pbs (s.k false) (FF false)]) [] (by rw [List.append_nil, List.append_assoc]; exact h) ev
    rw [List.append_nil, List.append_nil, List.append_assoc, List.append_assoc] at this
    exact this
theorem xdk_one (b : Bool) (h : Held w (l ++ sysX pbs s d FF)) : Held w [xdk (d b) (s.X b) pbs (s.k b) (FF b)] := by
  have h2 : Held w (sysX pbs s d FF) := Held.part l [] (by simpa using h)
  cases b
  · exact h2.pick [1] (by decide) rfl
  · exact h2.pick [2] (by decide) rfl
theorem xdk_set (b : Bool) (h : Held w (l ++ sysX pbs s d FF)) (ev : Ev w [xdk (d b) (s.X b) pbs (s.k b) (FF b)] w' [xdk (d b) X' pbs k' F']) :
    Ev w (l ++ sysX pbs s d FF) w' (l ++ sysX pbs (s.re b X' k') d (fun c => if c = b then F' else FF c)) := by
  cases b
  · have := Ev.part (l ++ [Res.pows pbs s.L]) [xdk (d true) (s.X true) pbs (s.k true) (FF true)] (by rw [List.append_assoc, List.append_assoc]; exact h) ev
    rw [List.append_assoc, List.append_assoc, List.append_assoc, List.append_assoc] at this
    exact this
  · have := Ev.part (l ++ [Res.pows pbs s.L, xdk (d false) (s.X false) pbs (s.k false) (FF false)]) [] (by rw [List.append_nil, List.append_assoc]; exact h) ev
    rw [List.append_nil, List.append_nil, List.append_assoc, List.append_assoc] at this
    exact this
theorem dk_ev {d : Nat} {X X' : XD} {k k' : Option Nat} {F F' : List Nat} (h : Held w [dk d X pbs k F]) (f : Fr F w w') (o : (dk d X' pbs k' F').On w') (hF : ∀ y ∈ F', y ∈ F ∨ w.heap.size ≤ y) : Ev w [dk d X pbs k F] w' [dk d X' pbs k' F'] :=
  (Ev.refl h).at 0 rfl f (fun b hb => .inl hb) o hF
theorem xdk_ev {d : Nat} {X X' : XD} {k k' : Option Nat} {F F' : List Nat} (h : Held w [xdk d X pbs k F]) (f : Fr F w w') (o : (xdk d X' pbs k' F').On w') (hF : ∀ y ∈ F', y ∈ F ∨ w.heap.size ≤ y) : Ev w [xdk d X pbs k F] w' [xdk d X' pbs k' F'] :=
  (Ev.refl h).at 0 rfl f (fun b hb => .inl hb) o hF
theorem sCrash (b : Bool) (h : Held w (l ++ sysC pbs s d FF)) (ok : SysOk s) (ht : s.T < 1000000) {v : Value} {ks : List Bool} {KB : Option Nat} (hk : Rc w 1 v ks.length (ks.map .bool) KB) (hKB : ∀ x, KB = some x → x ∉ FF b) (hkl : ks.length ≤ maxLen) :
    Calls Tryz.prog 14 #[.pointer (some ⟨d b, 0, none⟩), v] w fun e w' => e = .returned (.int .i64 (if (s.X b).Dead then 60 else 0)) ∧ ∃ FF', Ev w (l ++ sysC pbs s d FF) w' (l ++ sysC pbs (s.crash b ks) d FF') := by
  have hp := sys_part b h
  have hT := T_le s b
  have hr := Held.rep (one_op hp (ok.k b))
  have h1 := dk_one b h
  have hpl := (h1.at 0 rfl).2
  unfold Sys.crash
  cases hd : (s.X b).Dead with
  | true =>
    have e : crX (s.X b) ks = s.X b := by unfold crX; rw [if_pos hd]
    rw [e]
    refine (crash_dead hr v hd).mono ?_
    rintro e w' ⟨rfl, hr', f⟩
    exact ⟨rfl, _, dk_set b h (dk_ev h1 f (On.dk (lf := none) hr' rfl (f.plain _ hpl)) (fun y hy => .inl hy))⟩
  | false =>
    have e : crX (s.X b) ks = { s.X b with Kept := setX (s.X b).Kept (keptL (s.X b).L ks), L := [] } := by unfold crX; rw [if_neg (by rw [hd]; decide)]
    rw [e]
    refine (crash_ok hr hd (by simp [dOf]; omega) hk hKB hkl).mono ?_
    rintro e w' ⟨rfl, F', hr', f, hF⟩
    rw [dOf_crash] at hr'
    exact ⟨rfl, _, dk_set b h (dk_ev h1 f (On.dk (lf := none) hr' rfl (f.plain _ hpl)) hF)⟩
theorem xCrash (b : Bool) (h : Held w (l ++ sysX pbs s d FF)) (ok : SysOk s) (ht : s.T < 1000000) {v : Value} {ks : List Bool} {KB : Option Nat} (hk : Rc w 1 v ks.length (ks.map .bool) KB) (hKB : ∀ x, KB = some x → x ∉ FF b) (hkl : ks.length ≤ 9223372036854775807) :
    Calls Tryz.prog 15 #[.pointer (some ⟨d b, 0, none⟩), v] w fun e w' => e = .returned (.int .i64 (if (s.X b).Dead then 60 else 0)) ∧ ∃ FF', Ev w (l ++ sysX pbs s d FF) w' (l ++ sysX pbs (s.crash b ks) d FF') := by
  have hp := xys_part b h
  have hT := T_le s b
  obtain ⟨i, hF, hx⟩ := xone_op hp (ok.k b)
  have h1 := xdk_one b h
  have hpl := (h1.at 0 rfl).2
  have g := ok.g b
  unfold Sys.crash
  cases hd : (s.X b).Dead with
  | true =>
    have e : crX (s.X b) ks = s.X b := by unfold crX; rw [if_pos hd]
    rw [e]
    refine (xcrash_dead (Held.xpsOf hx) v hd).mono ?_
    rintro e w' ⟨rfl, ev⟩
    have f : Fr (FF b) w w' := by rw [hF]; exact ev.fr
    exact ⟨rfl, _, xdk_set b h (xdk_ev h1 f (On.xdk (k := none) (lf := none) ev.held rfl (f.plain _ hpl)) (fun y hy => by rw [hF]; exact ev.low y hy))⟩
  | false =>
    have e : crX (s.X b) ks = { s.X b with Kept := setX (s.X b).Kept (keptL (s.X b).L ks), L := [] } := by unfold crX; rw [if_neg (by rw [hd]; decide)]
    rw [e]
    refine (xcrash_ok (Held.xpsOf hx) hd g.pos g.le (fun p hp => (g.l512 p hp).2) (by omega) hk (by rw [← hF]; exact hKB) hkl).mono ?_
    rintro e w' ⟨rfl, i', ev⟩
    have f : Fr (FF b) w w' := by rw [hF]; exact ev.fr
    exact ⟨rfl, _, xdk_set b h (xdk_ev h1 f (On.xdk (k := none) (lf := none) ev.held rfl (f.plain _ hpl)) (fun y hy => by rw [hF]; exact ev.low y hy))⟩
end
end Go.Proofs.YtjgagcpmoffldaaGreat
