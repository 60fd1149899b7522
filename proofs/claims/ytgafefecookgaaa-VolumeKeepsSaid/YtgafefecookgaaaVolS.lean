/- Layer 8: what of a volume that is sound stays so: plain laws; calls of its disks. -/
import Derived.Test.YtgafefecookgaaaVolR
import Derived.Test.YtgafefecookgaaaMirSt
namespace Go.Proofs.Ytgafefecookgaaa
open Go Go.Xr Go.RowKit Go.ChangeShapes Go.WideShapes Go.Deep
set_option linter.unusedVariables false
set_option linter.unusedSimpArgs false
/-- A mirror whose disks that live are current, and hold N. -/
structure POk (bd : Nat) (N : List ByteArray) (M : MS) : Prop where
  snd : Snd N M
  alv : Alv M
  ok : SysOk M.s
  T : M.s.T ≤ bd
def NsOk (Ns : Nat → List ByteArray) : Prop := ∀ k, (Ns k).length = 3 ∧ ∀ x ∈ Ns k, x.size = 512
def AllOk (bd : Nat) (Ns : Nat → List ByteArray) (Ms : List MS) : Prop := ∀ (k : Nat) (M : MS), Ms[k]? = some M → POk bd (Ns k) M
/-- A mirror that a flush makes so. -/
structure FOk (bd : Nat) (N : List ByteArray) (M : MS) : Prop where
  c : M.flushC = 0
  snd : Snd N M.flushM
  alv : Alv M.flushM
  ok : SysOk M.s
  T : M.s.T ≤ bd
def AllF (bd : Nat) (Ns : Nat → List ByteArray) (Ms : List MS) : Prop := ∀ (k : Nat) (M : MS), Ms[k]? = some M → FOk bd (Ns k) M
theorem POk.f {bd : Nat} {N : List ByteArray} {M : MS} (h : POk bd N M) : FOk bd N M := ⟨(snd_flush h.snd).1, (snd_flush h.snd).2, alv_flush h.snd h.alv, h.ok, h.T⟩
theorem POk.mono {bd bd' : Nat} {N : List ByteArray} {M : MS} (h : POk bd N M) (hb : bd ≤ bd') : POk bd' N M := ⟨h.snd, h.alv, h.ok, by have := h.T; omega⟩
theorem FOk.mono {bd bd' : Nat} {N : List ByteArray} {M : MS} (h : FOk bd N M) (hb : bd ≤ bd') : FOk bd' N M := ⟨h.c, h.snd, h.alv, h.ok, by have := h.T; omega⟩
theorem firstC_zero {F : MS → Int} : ∀ {Ms : List MS}, (∀ M ∈ Ms, F M = 0) → firstC F Ms = 0
  | [], _ => rfl
  | M :: Ms, h => by
    have e : firstC F (M :: Ms) = Ms.foldl (fun a M => if a = 0 then F M else a) (F M) := rfl
    rw [e, h M (List.mem_cons_self ..)]
    exact firstC_zero fun x hx => h x (List.mem_cons_of_mem _ hx)
theorem all_mem {p : MS → Prop} {Ms : List MS} (h : ∀ (k : Nat) (M : MS), Ms[k]? = some M → p M) : ∀ M ∈ Ms, p M := fun M hM => by
  obtain ⟨k, hk, e⟩ := List.getElem_of_mem hM
  exact h k M (by rw [List.getElem?_eq_getElem hk, e])
theorem AllF.flush {bd : Nat} {Ns : Nat → List ByteArray} {Ms : List MS} (h : AllF bd Ns Ms) : firstC MS.flushC Ms = 0 ∧ AllOk (bd + 12) Ns (Ms.map MS.flushM) := by
  refine ⟨firstC_zero (all_mem fun k M hk => (h k M hk).c), fun k M hk => ?_⟩
  rw [List.getElem?_map] at hk
  obtain ⟨M0, h0, rfl⟩ := Option.map_eq_some_iff.1 hk
  have g := h k M0 h0
  exact ⟨g.snd, g.alv, (flushM_stp M0).ok g.ok, by have := (flushM_stp M0).T g.ok; have := g.T; omega⟩
theorem AllOk.f {bd : Nat} {Ns : Nat → List ByteArray} {Ms : List MS} (h : AllOk bd Ns Ms) : AllF bd Ns Ms := fun k M hk => (h k M hk).f
def updN (Ns : Nat → List ByteArray) (q : Nat) (N : List ByteArray) (k : Nat) : List ByteArray := if k = q then N else Ns k
/-- One mirror is another one. -/
theorem AllF.set {bd q : Nat} {Ns : Nat → List ByteArray} {N : List ByteArray} {Ms : List MS} {M : MS} (h : AllF bd Ns Ms) (hM : FOk bd N M) : AllF bd (updN Ns q N) (Ms.set q M) := fun k M' hk => by
  unfold updN
  by_cases e : k = q
  · subst e
    rw [if_pos rfl]
    have hlt : k < (Ms.set k M).length := (List.getElem?_eq_some_iff.1 hk).1
    rw [List.getElem?_set_self (by simpa using hlt)] at hk
    cases hk
    exact hM
  · rw [if_neg e]
    rw [List.getElem?_set_ne (fun x => e x.symm)] at hk
    exact h k M' hk
theorem AllF.mono {bd bd' : Nat} {Ns : Nat → List ByteArray} {Ms : List MS} (h : AllF bd Ns Ms) (hb : bd ≤ bd') : AllF bd' Ns Ms := fun k M hk => (h k M hk).mono hb
theorem AllOk.mono {bd bd' : Nat} {Ns : Nat → List ByteArray} {Ms : List MS} (h : AllOk bd Ns Ms) (hb : bd ≤ bd') : AllOk bd' Ns Ms := fun k M hk => (h k M hk).mono hb
theorem updN_same (Ns : Nat → List ByteArray) (q : Nat) : updN Ns q (Ns q) = Ns := by
  funext k
  unfold updN
  split
  · rename_i e
    rw [e]
  · rfl
/-- A disk fails whose fellow lives. -/
theorem AllOk.fail {bd q : Nat} {Ns : Nat → List ByteArray} {Ms : List MS} {M : MS} (h : AllOk bd Ns Ms) (hk : Ms[q]? = some M) (b : Bool) (hb : (M.s.X (!b)).Dead = false) : AllF bd Ns (Ms.set q { M with s := M.s.fa b }) := by
  have g := h q M hk
  have hc : M.c (!b) = true := by rw [g.alv (!b), hb]; rfl
  obtain ⟨h1, h2, h3⟩ := snd_fa g.snd b hc
  have := (AllOk.f h).set (q := q) (N := Ns q) (M := { M with s := M.s.fa b }) ⟨h1, h2, h3 g.alv, (fa_stp M.s b).ok g.ok, by have h0 : (M.s.fa b).T ≤ M.s.T + 0 := (fa_stp M.s b).T g.ok; have := g.T; show (M.s.fa b).T ≤ bd; omega⟩
  rw [updN_same] at this
  exact this
/-- A mirror that a resync makes sound. -/
structure ROk (bd : Nat) (N : List ByteArray) (M : MS) : Prop where
  snd : Snd N M
  ok : SysOk M.s
  T : M.s.T ≤ bd
def AllR (bd : Nat) (Ns : Nat → List ByteArray) (Ms : List MS) : Prop := ∀ (k : Nat) (M : MS), Ms[k]? = some M → ROk bd (Ns k) M
theorem AllOk.r {bd : Nat} {Ns : Nat → List ByteArray} {Ms : List MS} (h : AllOk bd Ns Ms) : AllR bd Ns Ms := fun k M hk => ⟨(h k M hk).snd, (h k M hk).ok, (h k M hk).T⟩
theorem snd_rp1 {N : List ByteArray} {M : MS} (h : Snd N M) (b : Bool) : Snd N { M with s := M.s.rp b } := by
  cases h with
  | both T0 T1 L g => cases b <;> exact .both T0 T1 L g
  | one0 T0 T1 K dd L g hK =>
    cases b
    · exact .one0 T0 T1 K dd L g hK
    · exact .one0 T0 T1 K false L g hK
  | one1 T0 T1 K dd L g hK =>
    cases b
    · exact .one1 T0 T1 K false L g hK
    · exact .one1 T0 T1 K dd L g hK
theorem AllR.rp {bd q : Nat} {Ns : Nat → List ByteArray} {Ms : List MS} {M : MS} (h : AllR bd Ns Ms) (hk : Ms[q]? = some M) (b : Bool) : AllR bd Ns (Ms.set q { M with s := M.s.rp b }) := fun k M' hk' => by
  by_cases e : k = q
  · subst e
    rw [List.getElem?_set_self (List.getElem?_eq_some_iff.1 hk).1] at hk'
    cases hk'
    have g := h k M hk
    exact ⟨snd_rp1 g.snd b, (rp_stp M.s b).ok g.ok, by have h0 : (M.s.rp b).T ≤ M.s.T + 0 := (rp_stp M.s b).T g.ok; have := g.T; show (M.s.rp b).T ≤ bd; omega⟩
  · rw [List.getElem?_set_ne (fun x => e x.symm)] at hk'
    exact h k M' hk'
theorem snd_len3 {N : List ByteArray} {M : MS} (h : Snd N M) (hN : N.length = 3) (b : Bool) : M.s.len b = 4 := by
  have h1 := (snd_len h).1
  have h2 := (snd_len h).2
  rw [hN] at h1 h2
  cases b
  · exact h1
  · exact h2
theorem AllR.resync {bd : Nat} {Ns : Nat → List ByteArray} {Ms : List MS} (h : AllR bd Ns Ms) (hN : NsOk Ns) : firstC (fun M => M.rs.2.2) Ms = 0 ∧ AllOk (bd + 18) Ns (Ms.map fun M => M.rs.1) := by
  refine ⟨firstC_zero (all_mem fun k M hk => (snd_rs (hN k).2 (h k M hk).snd).1), fun k M hk => ?_⟩
  rw [List.getElem?_map] at hk
  obtain ⟨M0, h0, rfl⟩ := Option.map_eq_some_iff.1 hk
  have g := h k M0 h0
  obtain ⟨_, g2, g3⟩ := snd_rs (hN k).2 g.snd
  refine ⟨g2, g3, (rs_stp M0).ok g.ok, ?_⟩
  have h1 := (rs_stp M0).T g.ok
  rw [snd_len3 g.snd (hN k).1] at h1
  have := g.T
  omega
/-- A sector is written. -/
theorem AllOk.write {bd q a : Nat} {Ns : Nat → List ByteArray} {Ms : List MS} {M : MS} (h : AllOk bd Ns Ms) (hk : Ms[q]? = some M) {S : ByteArray} (ha : a < (Ns q).length) (hS : S.size = 512) :
    M.wrE (a : Int) S = 0 ∧ AllF (bd + 12) (updN Ns q ((Ns q).set a S)) (Ms.set q (M.wrM (a : Int) S)) := by
  have g := h q M hk
  obtain ⟨h1, h2, h3, h4⟩ := snd_wr g.snd ha hS
  refine ⟨h1, AllF.set ((AllOk.f h).mono (by omega)) ⟨h2, h3, h4 g.alv, (wrM_stp M (a : Int) S).ok g.ok, ?_⟩⟩
  have := (wrM_stp M (a : Int) S).T g.ok
  have := g.T
  omega
theorem NsOk.upd {Ns : Nat → List ByteArray} (h : NsOk Ns) (q a : Nat) {S : ByteArray} (hS : S.size = 512) : NsOk (updN Ns q ((Ns q).set a S)) := fun k => by
  unfold updN
  split
  · refine ⟨by rw [List.length_set]; exact (h q).1, fun x hx => ?_⟩
    rcases List.mem_or_eq_of_mem_set hx with hx | hx
    · exact (h q).2 x hx
    · rw [hx]; exact hS
  · exact h k
/-- All sectors of a volume of n mirrors, three of each. -/
def vnowAt (n : Nat) (Ns : Nat → List ByteArray) (j : Nat) : ByteArray := ((Ns (j % n))[j / n]?).getD ⟨#[]⟩
def vnow (n t : Nat) (Ns : Nat → List ByteArray) : List ByteArray := (List.range t).map (vnowAt n Ns)
theorem vnow_len (n t : Nat) (Ns : Nat → List ByteArray) : (vnow n t Ns).length = t := by simp [vnow]
theorem vnow_get {n t j : Nat} {Ns : Nat → List ByteArray} (hj : j < t) : (vnow n t Ns)[j]? = some (vnowAt n Ns j) := by
  unfold vnow
  rw [List.getElem?_map, List.getElem?_range hj]
  rfl
theorem div_lt3 {n t j : Nat} (hn : 0 < n) (ht : 3 * n = t) (hj : j < t) : j / n < 3 := (Nat.div_lt_iff_lt_mul hn).2 (by omega)
theorem vnow_zero {n t : Nat} (hn : 0 < n) (ht : 3 * n = t) : vnow n t (fun _ => List.replicate 3 Zs) = List.replicate t Zs := by
  refine List.ext_getElem? fun j => ?_
  by_cases hj : j < t
  · rw [vnow_get hj, List.getElem?_replicate_of_lt hj]
    unfold vnowAt
    rw [List.getElem?_replicate_of_lt (div_lt3 hn ht hj)]
    rfl
  · rw [List.getElem?_eq_none (by rw [vnow_len]; omega), List.getElem?_eq_none (by simp; omega)]
theorem vnow_set {n t j : Nat} {Ns : Nat → List ByteArray} (h : NsOk Ns) (hn : 0 < n) (ht : 3 * n = t) (hj : j < t) (S : ByteArray) : (vnow n t Ns).set j S = vnow n t (updN Ns (j % n) ((Ns (j % n)).set (j / n) S)) := by
  refine List.ext_getElem? fun i => ?_
  by_cases hi : i < t
  · rw [vnow_get hi]
    by_cases e : i = j
    · subst e
      rw [List.getElem?_set_self (by rw [vnow_len]; exact hj)]
      unfold vnowAt updN
      rw [if_pos rfl, List.getElem?_set_self (by rw [(h _).1]; exact div_lt3 hn ht hj)]
      rfl
    · rw [List.getElem?_set_ne (fun x => e x.symm), vnow_get hi]
      unfold vnowAt updN
      by_cases e2 : i % n = j % n
      · rw [if_pos e2, List.getElem?_set_ne, e2]
        intro e3
        apply e
        have h1 := Nat.div_add_mod i n
        have h2 := Nat.div_add_mod j n
        rw [e3, ← e2] at h2
        omega
      · rw [if_neg e2]
  · rw [List.getElem?_eq_none (by rw [List.length_set, vnow_len]; omega), List.getElem?_eq_none (by rw [vnow_len]; omega)]
section
variable {w w' w0 : World} {l rs : List Res} {X : VX} {Ms : List MS} {wt : Int} {k m a q : Nat} {M : MS} {d : Bool → Nat}
theorem vdead_at (h : VA w0 rs w l X Ms wt) (hk : Ms[q]? = some M) (hd : X.ds[q]? = some d) (ok : SysOk M.s) (b : Bool) :
    Calls Try.prog 20 #[.pointer (some ⟨d b, 0, none⟩)] w fun e w' => e = .returned (.bool (M.s.X b).Dead) ∧ w' = w := by
  obtain ⟨m2, d2, FF, l', em, ed, hh, hback⟩ := h.mir hk
  obtain rfl : d = d2 := Option.some.inj (hd.symm.trans ed)
  exact sDead b (mir_sys hh) ok
theorem vfail_at (h : VA w0 rs w l X Ms wt) (hk : Ms[q]? = some M) (hd : X.ds[q]? = some d) (ok : SysOk M.s) (b : Bool) :
    Calls Try.prog 21 #[.pointer (some ⟨d b, 0, none⟩)] w fun e w' => e = .returned (.int .i64 0) ∧ VA w0 rs w' l X (Ms.set q { M with s := M.s.fa b }) wt := by
  obtain ⟨m2, d2, FF, l', em, ed, hh, hback⟩ := h.mir hk
  obtain rfl : d = d2 := Option.some.inj (hd.symm.trans ed)
  refine (mFail b hh ok).mono ?_
  rintro e w' ⟨rfl, FF', ev⟩
  exact ⟨rfl, hback _ _ _ ev⟩
theorem vrepl_at (h : VA w0 rs w l X Ms wt) (hk : Ms[q]? = some M) (hd : X.ds[q]? = some d) (ok : SysOk M.s) (b : Bool) :
    Calls Try.prog 22 #[.pointer (some ⟨d b, 0, none⟩)] w fun e w' => ∃ c, e = .returned (.int .i64 c) ∧ VA w0 rs w' l X (Ms.set q { M with s := M.s.rp b }) wt := by
  obtain ⟨m2, d2, FF, l', em, ed, hh, hback⟩ := h.mir hk
  obtain rfl : d = d2 := Option.some.inj (hd.symm.trans ed)
  refine (mReplace b hh ok).mono ?_
  rintro e w' ⟨rfl, FF', ev⟩
  exact ⟨_, rfl, hback _ _ _ ev⟩
theorem VA.feet (h : VA w0 [] w l X Ms wt) (hk : Ms[q]? = some M) : ∃ (m : Nat) (d : Bool → Nat) (FF : Bool → List Nat) (l' : List Res), X.ms[q]? = some m ∧ X.ds[q]? = some d ∧ Held w (l' ++ mirC [] m d FF M) ∧ (∀ x ∈ feetOf (l' ++ mirC [] m d FF M), w0.heap.size ≤ x) ∧
    ∀ (w' : World) (FF' : Bool → List Nat) (M' : MS), Ev w (l' ++ mirC [] m d FF M) w' (l' ++ mirC [] m d FF' M') → VA w0 [] w' l X (Ms.set q M') wt := by
  obtain ⟨ps, h1, h2, h3, ev⟩ := h
  obtain ⟨p, hp, rfl⟩ : ∃ p, ps[q]? = some p ∧ p.M = M := by
    rw [← h3, List.getElem?_map] at hk
    exact Option.map_eq_some_iff.1 hk
  have ev1 : Ev w0 [] w ((l ++ volR X.vb X.rb X.v X.ms (X.e : Int) wt) ++ vpsC ps) := by rw [List.append_assoc]; exact ev
  have ev2 := Ev.perm ev1 (vps_perm (l ++ volR X.vb X.rb X.v X.ms (X.e : Int) wt) hp)
  have em : X.ms[q]? = some p.m := by rw [← h1, List.getElem?_map, hp]; rfl
  have ed : X.ds[q]? = some p.d := by rw [← h2, List.getElem?_map, hp]; rfl
  refine ⟨p.m, p.d, p.FF, (l ++ volR X.vb X.rb X.v X.ms (X.e : Int) wt) ++ vpsC (ps.eraseIdx q), em, ed, ev2.held, fun x hx => ?_, fun w' FF' M' e => ⟨ps.set q ⟨p.m, p.d, FF', M'⟩, ?_, ?_, ?_, ?_⟩⟩
  · rcases ev2.low x hx with h4 | h4
    · cases h4
    · exact h4
  · rw [List.map_set, h1]
    exact set_same _ _ _ em
  · rw [List.map_set, h2]
    exact set_same _ _ _ ed
  · rw [List.map_set, h3]
  · have := ev1.trans (vps_ev ev1.held hp e)
    rw [List.append_assoc] at this
    exact this
theorem vcrash_at {N : List ByteArray} (h : VA w0 [] w l X Ms wt) (hk : Ms[q]? = some M) (hd : X.ds[q]? = some d) (ok : SysOk M.s) (hs : Snd N M) (ht : M.s.T < 1000000) (b : Bool) {v : Value} {ks : List Bool} {KB : Option Nat} (hv : Rc w0 1 v ks.length (ks.map .bool) KB) (hkl : ks.length ≤ maxLen) :
    Calls Try.prog 23 #[.pointer (some ⟨d b, 0, none⟩), v] w fun e w' => ∃ c, e = .returned (.int .i64 c) ∧ VA w0 [] w' l X Ms wt := by
  have hfr := h.fr
  obtain ⟨m2, d2, FF, l', em, ed, hh, hf, hback⟩ := h.feet hk
  obtain rfl : d = d2 := Option.some.inj (hd.symm.trans ed)
  refine (mCrash b hh ok hs ht (hv.keep hfr (by simp)) (fun x hx hx2 => ?_) hkl).mono ?_
  · have h1 := hv.lt x hx
    have h2 := hf x hx2
    omega
  · rintro e w' ⟨c, FF', rfl, ev⟩
    refine ⟨c, rfl, ?_⟩
    have := hback _ _ _ ev
    rw [set_same _ _ _ hk] at this
    exact this
theorem dsOf_flat : ∀ ss : List VS, dsOf ss = (ss.map VS.d).flatMap fun d => [d false, d true]
  | [] => rfl
  | s :: ss => by
    have ih := dsOf_flat ss
    have e : dsOf (s :: ss) = s.d false :: s.d true :: dsOf ss := rfl
    rw [e, ih]
    rfl
/-- The volume is opened anew. -/
theorem vopen_any {Ns : Nat → List ByteArray} {bd i0 n : Nat} {v : Value} {D0 : List (Bool → Nat)} {B : Nat} (h : VA w0 rs w l X Ms wt) (o : VOk X) (hA : AllOk bd Ns Ms) (hN : NsOk Ns) (hD : X.ds = D0) (hn : X.ms.length = n)
    (hi : l[i0]? = some (Res.own 1 v (2 * n) ((((D0.flatMap fun d => [d false, d true]).map some).map pv)) (some B))) :
    Calls Try.prog 24 #[v] w fun r w' => ∃ X' : VX, r = .returned (.tuple #[.pointer (some ⟨X'.vb, 0, none⟩), .int .i64 0]) ∧ VOk X' ∧ X'.ms.length = n ∧ X'.ds = D0 ∧ X'.e = 3 ∧ VA w0 rs w' l X' Ms 0 := by
  have hlen := h.len
  obtain ⟨ss, s1, s2, ev⟩ := h.drop
  have hl : ss.length = n := by
    have := congrArg List.length s2
    simp at this
    omega
  have hds : dsOf ss = D0.flatMap fun d => [d false, d true] := by rw [dsOf_flat, s1, hD]
  have hM : ∀ s ∈ ss, ∃ (k : Nat) (M : MS), Ms[k]? = some M ∧ M.s = s.s := fun s hs => by
    have h1 : s.s ∈ ss.map VS.s := List.mem_map.2 ⟨s, hs, rfl⟩
    rw [s2] at h1
    obtain ⟨M, hM, e⟩ := List.mem_map.1 h1
    obtain ⟨k, hk, e2⟩ := List.getElem_of_mem hM
    exact ⟨k, M, by rw [List.getElem?_eq_getElem hk, e2], e⟩
  have hdl : (dsOf ss).length = 2 * n := by rw [dsOf, List.length_map, dsP_len, hl]
  have hms : (ss.map fun s => s.s.op1.1) = Ms := by
    have e1 : (ss.map fun s => s.s.op1.1) = (ss.map VS.s).map fun x => x.op1.1 := by rw [List.map_map]; rfl
    rw [e1, s2, List.map_map]
    refine List.ext_getElem? fun k => ?_
    rw [List.getElem?_map]
    cases hk : Ms[k]? with
    | none => rfl
    | some M =>
      show some (M.s.op1.1) = some M
      rw [snd_open (hA k M hk).snd]
  refine (opall (e := 3) (i0 := i0) (B := B) (fun s => s.op1.1) ev (by rw [hdl, hds]; exact hi) (by have := o.h1; omega) (by have := o.h8; omega) (fun s hs => ?_) (by decide) (fun s hs l1 w1 hh => ?_)).mono ?_
  · obtain ⟨k, M, hk, e⟩ := hM s hs
    have g := hA k M hk
    rw [← e, snd_open g.snd]
    exact ⟨g.ok, snd_len3 g.snd (hN k).1 false⟩
  · obtain ⟨k, M, hk, e⟩ := hM s hs
    have g := hA k M hk
    have hh2 : Held w1 (l1 ++ sysC [] s.s s.d s.FF) := hh
    rw [← e] at hh2
    refine (mOpen hh2 g.ok g.snd (by rw [(hN k).1]; decide)).mono ?_
    rintro e' w' ⟨m', rfl, ev'⟩
    refine ⟨m', s.FF, rfl, ?_⟩
    have e3 : vsC s = sysC [] M.s s.d s.FF := by rw [e]; rfl
    rw [e3, ← e, snd_open g.snd]
    exact ev'
  · rintro r w' ⟨X', rfl, x1, x2, x3, va⟩
    rw [hms] at va
    exact ⟨X', rfl, ⟨by have := o.h1; omega, by have := o.h8; omega, by omega⟩, by omega, by rw [x2, s1, hD], x3, va⟩
end
end Go.Proofs.Ytgafefecookgaaa
