/- Layer 6: Crash and Wire of both disks, told alike. -/
import Derived.Test.YtflapddkeeiieaaSecO
namespace Go.Proofs.Ytflapddkeeiieaa
open Go Go.Xr Go.RowKit
set_option linter.unusedVariables false
set_option linter.unusedSimpArgs false
theorem dOf_crash (X : XD) (ks : List Bool) : crashed (dOf X) ks = dOf { X with Kept := setX X.Kept (keptL X.L ks), L := [] } := by
  have e := crashK_set X.L ks X.Kept (min ks.length X.L.length) rfl keptL (fun _ => by unfold keptL; rfl) (fun p l k => by rw [keptL])
  simp only [dOf, crashed, nowL_nil, List.map_nil, List.length_map]
  rw [e]
  rfl
theorem keptL_mem : ∀ (l : List (Nat × ByteArray)) (ks : List Bool), ∀ p ∈ keptL l ks, p ∈ l
  | [], _, p, h => by simp [keptL] at h
  | q :: l, ks, p, h => by
    rw [keptL] at h
    split at h
    · rcases List.mem_cons.1 h with h | h
      · simp [h]
      · exact List.mem_cons_of_mem _ (keptL_mem l _ p h)
    · exact List.mem_cons_of_mem _ (keptL_mem l _ p h)
section
variable {w w' : World} {l rs : List Res} {d x pb qb : Nat} {X Y : XD} {lf : Option Nat} {pc px : Option (Nat × Nat)} {D D' : SD} {F F' : List Nat} {i i' : XI}
theorem Ev.less {w1 : World} (a m : List Res) {r : Res} (e : Ev w rs w1 (a ++ r :: m)) : Ev w rs w1 (a ++ m) :=
  ⟨Held.drop a m e.held, e.fr, fun b hb => e.low b (by
    simp only [feetOf, List.flatMap_append, List.flatMap_cons, List.mem_append] at hb ⊢
    rcases hb with h | h
    · exact .inl h
    · exact .inr (.inr h))⟩
theorem pow0 (w : World) : (Res.pow none).On w := On.pow (pw := none) trivial
/-- The code's disk behind a call that cuts it off its power. -/
theorem Held.cdisk0 (h : Held w [Res.pow pc, Res.disk d D pc F]) (hr : Rep w' d D' none F') (f : Fr F w w') (hF : ∀ y ∈ F', y ∈ F ∨ w.heap.size ≤ y) : Ev w [Res.pow pc, Res.disk d D pc F] w' [Res.pow none, Res.disk d D' none F'] := by
  have hf : feetOf [Res.pow pc, Res.disk d D pc F] = pwF pc ++ F := by simp [feetOf, Res.pow, Res.disk]
  refine ⟨(Held.one (On.disk hr)).new (pow0 w') fun b hb r' hr' => by simp [Res.pow, pwF] at hb, f.mono (fun y hy => .inl ?_), fun b hb => ?_⟩
  · rw [hf]
    exact List.mem_append_right _ hy
  · have hb : b ∈ F' := by simpa [feetOf, Res.pow, Res.disk, pwF] using hb
    rw [hf]
    rcases hF b hb with h2 | h2
    · exact .inl (List.mem_append_right _ h2)
    · exact .inr h2
theorem ccrash_any (h : Held w (l ++ pr d (dOf X) pc F x Y px i)) (hl : X.L.length < 1000000) {v : Value} {ks : List Bool} {KB : Option Nat} (hk : Rc w 1 v ks.length (ks.map .bool) KB) (hKB : ∀ b, KB = some b → b ∉ F) (hkl : ks.length ≤ maxLen) :
    Calls Try.prog 12 #[.pointer (some ⟨d, 0, none⟩), v] w fun e w' => e = .returned (.int .i64 (if X.Dead then 60 else 0)) ∧ ∃ F', Ev w (l ++ pr d (dOf X) pc F x Y px i) w' (l ++ pr d (dOf (crX X ks)) none F' x Y px i) := by
  have hc := Held.prC h
  unfold crX
  cases hd : X.Dead with
  | true =>
    refine (crash_dead (Held.rep hc) v hd).mono ?_
    rintro e w' ⟨rfl, hr, f⟩
    exact ⟨rfl, F, Ev.prC (Ev.refl h) (Held.cdisk0 hc hr f (fun y hy => .inl hy))⟩
  | false =>
    refine (crash_ok (Held.rep hc) hd (by simpa [dOf] using hl) hk hKB hkl).mono ?_
    rintro e w' ⟨rfl, F', hr, f, hF⟩
    rw [dOf_crash] at hr
    rw [hd] at hr
    exact ⟨rfl, F', Ev.prC (Ev.refl h) (Held.cdisk0 hc hr f hF)⟩
theorem Ev.xps0 (h : Held w (Res.pow px :: xps x X px i)) {i' : XI} (ev : Ev w (xps x X px i) w' (xps x Y none i')) : Ev w (Res.pow px :: xps x X px i) w' (Res.pow none :: xps x Y none i') := by
  have e1 : Ev w (Res.pow px :: xps x X px i) w' (Res.pow px :: xps x Y none i') := by
    have := Ev.part [Res.pow px] [] (by rw [List.append_nil]; exact h) ev
    rw [List.append_nil] at this
    exact this
  exact ((Ev.less [] (xps x Y none i') e1)).new (Fr.refl _ _) (pow0 w') (fun b hb => by simp [Res.pow, pwF] at hb)
theorem dcrash_any (h : Held w (l ++ pr d D pc F x X px i)) (hX : XGood X) (hl : X.L.length < 1000000) {v : Value} {ks : List Bool} {KB : Option Nat} (hk : Rc w 1 v ks.length (ks.map .bool) KB) (hKB : ∀ b, KB = some b → b ∉ feetOf (xps x X px i)) (hkl : ks.length ≤ 9223372036854775807) :
    Calls Try.prog 24 #[.pointer (some ⟨x, 0, none⟩), v] w fun e w' => e = .returned (.int .i64 (if X.Dead then 60 else 0)) ∧ ∃ i', Ev w (l ++ pr d D pc F x X px i) w' (l ++ pr d D pc F x (crX X ks) none i') := by
  have hx := Held.prX h
  unfold crX
  cases hd : X.Dead with
  | true =>
    refine (xcrash_dead (Held.xpsOf hx) v hd).mono ?_
    rintro e w' ⟨rfl, ev⟩
    exact ⟨rfl, i, Ev.prX (Ev.refl h) (Ev.xps0 hx ev)⟩
  | false =>
    refine (xcrash_ok (Held.xpsOf hx) hd hX.pos hX.le (fun p hp => (hX.l512 p hp).2) hl hk hKB hkl).mono ?_
    rintro e w' ⟨rfl, i', ev⟩
    rw [hd] at ev
    exact ⟨rfl, i', Ev.prX (Ev.refl h) (Ev.xps0 hx ev)⟩
/-- A new power beside, to which both are wired. -/
def wiC (X : XD) (lf : Option Nat) : Int := if xdead X (mk 0 lf) then 60 else 0
def wiL (X : XD) (lf : Option Nat) (n : Nat) : Option Nat := if xdead X (mk 0 lf) then lf else some n
def wiB (X : XD) (lf : Option Nat) (pb p : Nat) : Nat := if xdead X (mk 0 lf) then pb else p
theorem cwire_any {p n : Nat} (h : Held w (l ++ Res.pow (some (p, n)) :: pr d (dOf X) (mk pb lf) F x Y px i)) :
    Calls Try.prog 20 #[.pointer (some ⟨d, 0, none⟩), .pointer (some ⟨p, 0, none⟩)] w fun e w' => e = .returned (.int .i64 (wiC X lf)) ∧
      Ev w (l ++ Res.pow (some (p, n)) :: pr d (dOf X) (mk pb lf) F x Y px i) w' (l ++ pr d (dOf X) (mk (wiB X lf pb p) (wiL X lf n)) F x Y px i) := by
  have h' : Held w ((l ++ [Res.pow (some (p, n))]) ++ pr d (dOf X) (mk pb lf) F x Y px i) := by rw [List.append_assoc]; exact h
  have hc := Held.prC h'
  have ha := ableN_mk X pb 0 lf
  unfold wiC wiL wiB
  cases hd : xdead X (mk 0 lf) with
  | true =>
    rw [hd] at ha
    refine (wire_err (Held.rep hc) (Held.powOk hc) ha p).mono ?_
    rintro e w' ⟨rfl, rfl⟩
    exact ⟨rfl, Ev.less l _ (Ev.refl h)⟩
  | false =>
    rw [hd] at ha
    refine (wire_ok (Held.rep hc) (Held.powOk hc) ha p n).mono ?_
    rintro e w' ⟨rfl, hr, f, hsz⟩
    refine ⟨rfl, ?_⟩
    have hdF : d ∈ F := by obtain ⟨kc, nc, lv, tv, k, n, L, T, hF, _⟩ := (Held.rep hc).open; rw [hF]; simp [feet]
    have f2 : Fr F w w' := f.mono (fun y hy => .inl (by simp at hy; rw [hy]; exact hdF))
    have h3 : Held w (l ++ [Res.pow (some (p, n)), Res.pow (mk pb lf), Res.disk d (dOf X) (mk pb lf) F] ++ (Res.pow px :: xps x Y px i)) := by rw [List.append_assoc]; exact h
    have h4 : Held w [Res.pow (some (p, n)), Res.pow (mk pb lf), Res.disk d (dOf X) (mk pb lf) F] := Held.part _ _ h3
    have e5 : Ev w [Res.pow (some (p, n)), Res.pow (mk pb lf), Res.disk d (dOf X) (mk pb lf) F] w' [Res.pow (some (p, n)), Res.pow (mk pb lf), Res.disk d (dOf X) (some (p, n)) F] :=
      (Ev.refl h4).at 2 rfl f2 (fun b hb => .inl hb) (On.disk hr) (fun b hb => .inl hb)
    have e6 := Ev.part l (Res.pow px :: xps x Y px i) h3 (Ev.pick e5 [0, 2] (by decide) (qs := [Res.pow (some (p, n)), Res.disk d (dOf X) (some (p, n)) F]) rfl)
    rw [List.append_assoc, List.append_assoc] at e6
    exact e6
theorem dwire_any {p n : Nat} (h : Held w (l ++ Res.pow (some (p, n)) :: pr d D pc F x X (mk qb lf) i)) :
    Calls Try.prog 21 #[.pointer (some ⟨x, 0, none⟩), .pointer (some ⟨p, 0, none⟩)] w fun e w' => e = .returned (.int .i64 (wiC X lf)) ∧
      Ev w (l ++ Res.pow (some (p, n)) :: pr d D pc F x X (mk qb lf) i) w' (l ++ pr d D pc F x X (mk (wiB X lf qb p) (wiL X lf n)) i) := by
  have h' : Held w ((l ++ [Res.pow (some (p, n))]) ++ pr d D pc F x X (mk qb lf) i) := by rw [List.append_assoc]; exact h
  have hx := Held.prX h'
  have e0 : xdead X (mk qb lf) = xdead X (mk 0 lf) := by unfold xdead; rw [offB_mk qb 0]
  unfold wiC wiL wiB
  cases hd : xdead X (mk 0 lf) with
  | true =>
    refine (xwire_dead hx _ (by rw [e0, hd])).mono ?_
    rintro e w' ⟨rfl, rfl⟩
    exact ⟨rfl, Ev.less l _ (Ev.refl h)⟩
  | false =>
    refine (xwire_ok hx (some (p, n)) (by rw [e0, hd])).mono ?_
    rintro e w' ⟨rfl, ev⟩
    refine ⟨rfl, ?_⟩
    have h3 : Held w ((l ++ Res.pow (some (p, n)) :: [Res.pow pc, Res.disk d D pc F] ++ [Res.pow (mk qb lf)]) ++ xps x X (mk qb lf) i ++ []) := by
      rw [List.append_nil]
      simpa [pr] using h
    have e4 := Ev.part _ _ h3 ev
    rw [List.append_nil, List.append_nil] at e4
    have e5 : Ev w (l ++ Res.pow (some (p, n)) :: pr d D pc F x X (mk qb lf) i) w' (l ++ [Res.pow (some (p, n)), Res.pow pc, Res.disk d D pc F, Res.pow (mk qb lf)] ++ xps x X (some (p, n)) i) := by
      have a1 : l ++ Res.pow (some (p, n)) :: pr d D pc F x X (mk qb lf) i = l ++ Res.pow (some (p, n)) :: [Res.pow pc, Res.disk d D pc F] ++ [Res.pow (mk qb lf)] ++ xps x X (mk qb lf) i := by simp [pr]
      have a2 : l ++ [Res.pow (some (p, n)), Res.pow pc, Res.disk d D pc F, Res.pow (mk qb lf)] ++ xps x X (some (p, n)) i = l ++ Res.pow (some (p, n)) :: [Res.pow pc, Res.disk d D pc F] ++ [Res.pow (mk qb lf)] ++ xps x X (some (p, n)) i := by simp
      rw [a1, a2]
      exact e4
    have hh : Held w' (l ++ [Res.pow (some (p, n)), Res.pow pc, Res.disk d D pc F, Res.pow (mk qb lf)] ++ xps x X (some (p, n)) i) := e5.held
    have h6 : Held w' [Res.pow (some (p, n)), Res.pow pc, Res.disk d D pc F, Res.pow (mk qb lf)] := Held.part _ _ hh
    have e7 := Ev.then _ _ e5 (Ev.pick (Ev.refl h6) [1, 2, 0] (by decide) (qs := [Res.pow pc, Res.disk d D pc F, Res.pow (some (p, n))]) rfl)
    have a3 : l ++ pr d D pc F x X (mk p (some n)) i = l ++ [Res.pow pc, Res.disk d D pc F, Res.pow (some (p, n))] ++ xps x X (some (p, n)) i := by simp [pr, mk]
    simp only [Bool.false_eq_true, if_false]
    rw [a3]
    exact e7
end
end Go.Proofs.Ytflapddkeeiieaa
