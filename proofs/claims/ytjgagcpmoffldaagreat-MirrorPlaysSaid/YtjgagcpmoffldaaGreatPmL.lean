/- Layer 7 (great seat): more of what is done to disks from outside: another power, failures, tampering. -/
import Derived.Test.YtjgagcpmoffldaaGreatPmK
namespace Go.Proofs.YtjgagcpmoffldaaGreat
open Go Go.Xr Go.RowKit
set_option linter.unusedVariables false
set_option linter.unusedSimpArgs false
section
variable {w w' w0 : World} {l rs : List Res} {pbs : List Nat} {m db ib p n : Nat} {s : Sys} {M M' : MS} {d : Bool → Nat} {FF FF' : Bool → List Nat}
theorem sTamper (b : Bool) (h : Held w (l ++ sysC pbs s d FF)) (ok : SysOk s) (ht : s.T < 1000000) (I : Int) (h1 : -9223372036854775808 ≤ I) (h2 : I ≤ 9223372036854775807) (S : ByteArray) (hS : S.size ≤ 9223372036854775807) :
    Calls Tryz.prog 45 #[.pointer (some ⟨d b, 0, none⟩), .int .i64 I, .string S] w fun e w' => e = .returned (.int .i64 (taC (s.X b) (s.lf b) I S)) ∧ ∃ FF', Ev w (l ++ sysC pbs s d FF) w' (l ++ sysC pbs (s.ta b I S) d FF') := by
  have hp := sys_part b h
  have hT := T_le s b
  refine (ctamper_c (one_op hp (ok.k b)) (ok.g b) (by omega) I h1 h2 S hS).mono ?_
  rintro e w' ⟨rfl, ev⟩
  exact ⟨rfl, _, sys_lift b (Ev.refl h) (one_put hp (ok.k b) (lf_some s b) ev)⟩
theorem xTamper (b : Bool) (h : Held w (l ++ sysX pbs s d FF)) (ok : SysOk s) (ht : s.T < 1000000) (I : Int) (S : ByteArray) (hS : S.size ≤ 9223372036854775807) :
    Calls Tryz.prog 46 #[.pointer (some ⟨d b, 0, none⟩), .int .i64 I, .string S] w fun e w' => e = .returned (.int .i64 (taC (s.X b) (s.lf b) I S)) ∧ ∃ FF', Ev w (l ++ sysX pbs s d FF) w' (l ++ sysX pbs (s.ta b I S) d FF') := by
  have hp := xys_part b h
  have hT := T_le s b
  obtain ⟨i, hF, hx⟩ := xone_op hp (ok.k b)
  refine (ptamper_x hx (ok.g b) (by omega) I S hS).mono ?_
  rintro e w' ⟨rfl, ev⟩
  exact ⟨rfl, _, xys_lift b (Ev.refl h) (xone_put hp (ok.k b) (lf_some s b) hF ev)⟩
theorem xFail (b : Bool) (h : Held w (l ++ sysX pbs s d FF)) (ok : SysOk s) :
    Calls Tryz.prog 42 #[.pointer (some ⟨d b, 0, none⟩)] w fun e w' => e = .returned (.int .i64 0) ∧ ∃ FF', Ev w (l ++ sysX pbs s d FF) w' (l ++ sysX pbs (s.fa b) d FF') := by
  have hp := xys_part b h
  obtain ⟨i, hF, hx⟩ := xone_op hp (ok.k b)
  refine (pfail_x hx (ok.g b)).mono ?_
  rintro e w' ⟨rfl, i', ev⟩
  exact ⟨rfl, _, xys_lift b (Ev.refl h) (xone_put hp (ok.k b) (lf_some s b) hF ev)⟩
theorem xReplace (b : Bool) (h : Held w (l ++ sysX pbs s d FF)) (ok : SysOk s) :
    Calls Tryz.prog 44 #[.pointer (some ⟨d b, 0, none⟩)] w fun e w' => e = .returned (.int .i64 (if (s.X b).Dead then 0 else 3)) ∧ ∃ FF', Ev w (l ++ sysX pbs s d FF) w' (l ++ sysX pbs (s.rp b) d FF') := by
  have hp := xys_part b h
  obtain ⟨i, hF, hx⟩ := xone_op hp (ok.k b)
  refine (preplace_x hx).mono ?_
  rintro e w' ⟨rfl, ev⟩
  exact ⟨rfl, _, xys_lift b (Ev.refl h) (xone_put hp (ok.k b) (lf_some s b) hF ev)⟩
def Sys.wiC (s : Sys) (b : Bool) : Int := Go.Proofs.YtjgagcpmoffldaaGreat.wiC (s.X b) (s.lf b)
theorem sWire (b : Bool) (h : Held w (l ++ sysC pbs s d FF)) (ok : SysOk s) {j : Nat} (hj : pbs[j]? = some p) (hL : s.L[j]? = some n) :
    Calls Tryz.prog 48 #[.pointer (some ⟨d b, 0, none⟩), .pointer (some ⟨p, 0, none⟩)] w fun e w' => e = .returned (.int .i64 (s.wiC b)) ∧ ∃ FF', Ev w (l ++ sysC pbs s d FF) w' (l ++ sysC pbs (s.wire b j) d FF') := by
  have hp := sys_part b h
  have hc := one_op hp (ok.k b)
  have hr := Held.rep hc
  have hpo := Held.powOk hc
  have h1 := dk_one b h
  have hpl := (h1.at 0 rfl).2
  have ha : ableN (dOf (s.X b)) (mk (pbk pbs (s.k b)) (lfk s.L (s.k b))) = if xdead (s.X b) (mk 0 (s.lf b)) then 60 else 0 := ableN_mk (s.X b) _ 0 _
  unfold Sys.wire Sys.wiC wiC
  cases hd : xdead (s.X b) (mk 0 (s.lf b)) with
  | true =>
    rw [hd] at ha
    refine (wire_err hr hpo ha p).mono ?_
    rintro e w' ⟨rfl, rfl⟩
    exact ⟨rfl, FF, Ev.refl h⟩
  | false =>
    rw [hd] at ha
    refine (wire_ok hr hpo ha p n).mono ?_
    rintro e w' ⟨rfl, hr', f, _⟩
    have f2 : Fr (FF b) w w' := f.mono (fun y hy => .inl (by simp at hy; rw [hy]; exact rep_mem hr))
    have e2 : mk (pbk pbs (some j)) (some n) = some (p, n) := by
      unfold mk pbk
      simp [hj]
    exact ⟨rfl, _, dk_set b h (dk_ev h1 f2 (On.dk (k := some j) (lf := some n) (by rw [e2]; exact hr') rfl (f.plain _ hpl)) (fun y hy => .inl hy))⟩
theorem xWire (b : Bool) (h : Held w (l ++ sysX pbs s d FF)) (ok : SysOk s) {j : Nat} (hj : pbs[j]? = some p) (hL : s.L[j]? = some n) :
    Calls Tryz.prog 49 #[.pointer (some ⟨d b, 0, none⟩), .pointer (some ⟨p, 0, none⟩)] w fun e w' => e = .returned (.int .i64 (s.wiC b)) ∧ ∃ FF', Ev w (l ++ sysX pbs s d FF) w' (l ++ sysX pbs (s.wire b j) d FF') := by
  have hp := xys_part b h
  obtain ⟨i, hF, hx⟩ := xone_op hp (ok.k b)
  have h1 := xdk_one b h
  have hpl := (h1.at 0 rfl).2
  have e0 : xdead (s.X b) (mk (pbk pbs (s.k b)) (lfk s.L (s.k b))) = xdead (s.X b) (mk 0 (s.lf b)) := by unfold xdead; rw [offB_mk _ 0]; rfl
  unfold Sys.wire Sys.wiC wiC
  cases hd : xdead (s.X b) (mk 0 (s.lf b)) with
  | true =>
    refine (xwire_dead hx _ (by rw [e0, hd])).mono ?_
    rintro e w' ⟨rfl, rfl⟩
    exact ⟨rfl, FF, Ev.refl h⟩
  | false =>
    refine (xwire_ok hx (some (p, n)) (by rw [e0, hd])).mono ?_
    rintro e w' ⟨rfl, ev⟩
    have f : Fr (FF b) w w' := by rw [hF]; exact ev.fr
    have e2 : some (p, n) = mk (pbk pbs (some j)) (some n) := by
      unfold mk pbk
      simp [hj]
    rw [e2] at ev
    exact ⟨rfl, _, xdk_set b h (xdk_ev h1 f (On.xdk (k := some j) (lf := some n) ev.held rfl (f.plain _ hpl)) (fun y hy => by rw [hF]; exact ev.low y hy))⟩
theorem kpw_more {pbs : List Nat} {p : Nat} {k : Option Nat} (hk : ∀ j, k = some j → j < pbs.length) : (k.map fun j => ((pbs ++ [p]).getD j 0, 0)) = (k.map fun j => (pbs.getD j 0, 0)) := by
  cases k with
  | none => rfl
  | some j =>
    have := hk j rfl
    simp [List.getD_eq_getElem?_getD, List.getElem?_append_left this]
theorem pows_more {L : List Nat} (h : (Res.pows pbs L).P w) (f : Fr [] w w') (hp : pwOk w' (some (p, n))) : (Res.pows (pbs ++ [p]) (L ++ [n])).P w' := by
  obtain ⟨h1, h2⟩ := pows_loc (fun b hb hlt => f.block b hlt (by simp)) h
  refine ⟨by simp [h1], fun j b k hb hk => ?_⟩
  by_cases hj : j < pbs.length
  · rw [List.getElem?_append_left hj] at hb
    rw [List.getElem?_append_left (by omega)] at hk
    exact h2 j b k hb hk
  · by_cases hj2 : j = pbs.length
    · subst hj2
      rw [List.getElem?_append_right (Nat.le_refl _)] at hb
      rw [h1, List.getElem?_append_right (Nat.le_refl _)] at hk
      simp at hb hk
      rw [← hb, ← hk]
      exact hp
    · rw [List.getElem?_eq_none (by simp; omega)] at hb
      cases hb
theorem sMore (h : Held w (l ++ sysC pbs s d FF)) (ok : SysOk s) (f : Fr [] w w') (hp : pwOk w' (some (p, n))) (hnew : w.heap.size ≤ p) : Ev w (l ++ sysC pbs s d FF) w' (l ++ sysC (pbs ++ [p]) (s.more n) d FF) := by
  have h2 : Held w (sysC pbs s d FF) := Held.part l [] (by simpa using h)
  have hp0 := h2.at 0 rfl
  have hlen : pbs.length = s.L.length := hp0.1
  have hnd := h2.nodup1 (a := Res.pows pbs s.L) (by simp [sysC])
  have hlt : ∀ b ∈ pbs, b < w.heap.size := h2.lt (Res.pows pbs s.L) (by simp [sysC])
  have hlp : p < w'.heap.size := hp.1.lt
  have e0 : ∀ b, dk (d b) ((s.more n).X b) (pbs ++ [p]) ((s.more n).k b) (FF b) = dk (d b) (s.X b) pbs (s.k b) (FF b) := fun b => by
    have hk : ∀ j, s.k b = some j → j < pbs.length := fun j hj => by rw [hlen]; exact ok.k b j hj
    rw [more_X]
    have e1 : (s.more n).k b = s.k b := by cases b <;> rfl
    rw [e1]
    unfold dk
    try unfold kpw
    rw [kpw_more hk]
  have e1 : sysC (pbs ++ [p]) (s.more n) d FF = [Res.pows (pbs ++ [p]) (s.L ++ [n]), dk (d false) (s.X false) pbs (s.k false) (FF false), dk (d true) (s.X true) pbs (s.k true) (FF true)] := by
    have a := e0 false
    have b := e0 true
    unfold sysC
    rw [a, b]
    rfl
  have o : (Res.pows (pbs ++ [p]) (s.L ++ [n])).On w' := by
    refine ⟨fun w w' hs h => pows_loc hs h, pows_more hp0 f hp, fun b hb => ?_, ?_⟩
    · rcases List.mem_append.1 hb with h1 | h1
      · exact Nat.lt_of_lt_of_le (hlt b h1) f.size
      · obtain rfl := List.mem_singleton.1 h1; exact hlp
    · refine List.nodup_append.2 ⟨hnd, List.pairwise_singleton _ _, fun a ha b hb => ?_⟩
      obtain rfl := List.mem_singleton.1 hb
      have := hlt a ha
      omega
  rw [e1]
  have ev := (Ev.refl h2).at 0 rfl (f.mono (T := pbs) (fun y hy => by cases hy)) (fun b hb => .inl hb) o (fun b hb => by
    rcases List.mem_append.1 hb with h1 | h1
    · exact .inl h1
    · obtain rfl := List.mem_singleton.1 h1; exact .inr hnew)
  have := Ev.part l [] (by rw [List.append_nil]; exact h) ev
  rw [List.append_nil, List.append_nil] at this
  exact this
theorem xMore (h : Held w (l ++ sysX pbs s d FF)) (ok : SysOk s) (f : Fr [] w w') (hp : pwOk w' (some (p, n))) (hnew : w.heap.size ≤ p) : Ev w (l ++ sysX pbs s d FF) w' (l ++ sysX (pbs ++ [p]) (s.more n) d FF) := by
  have h2 : Held w (sysX pbs s d FF) := Held.part l [] (by simpa using h)
  have hp0 := h2.at 0 rfl
  have hlen : pbs.length = s.L.length := hp0.1
  have hnd := h2.nodup1 (a := Res.pows pbs s.L) (by simp [sysX])
  have hlt : ∀ b ∈ pbs, b < w.heap.size := h2.lt (Res.pows pbs s.L) (by simp [sysX])
  have hlp : p < w'.heap.size := hp.1.lt
  have e0 : ∀ b, xdk (d b) ((s.more n).X b) (pbs ++ [p]) ((s.more n).k b) (FF b) = xdk (d b) (s.X b) pbs (s.k b) (FF b) := fun b => by
    have hk : ∀ j, s.k b = some j → j < pbs.length := fun j hj => by rw [hlen]; exact ok.k b j hj
    rw [more_X]
    have e1 : (s.more n).k b = s.k b := by cases b <;> rfl
    rw [e1]
    unfold xdk
    try unfold kpw
    rw [kpw_more hk]
  have e1 : sysX (pbs ++ [p]) (s.more n) d FF = [Res.pows (pbs ++ [p]) (s.L ++ [n]), xdk (d false) (s.X false) pbs (s.k false) (FF false), xdk (d true) (s.X true) pbs (s.k true) (FF true)] := by
    have a := e0 false
    have b := e0 true
    unfold sysX
    rw [a, b]
    rfl
  have o : (Res.pows (pbs ++ [p]) (s.L ++ [n])).On w' := by
    refine ⟨fun w w' hs h => pows_loc hs h, pows_more hp0 f hp, fun b hb => ?_, ?_⟩
    · rcases List.mem_append.1 hb with h1 | h1
      · exact Nat.lt_of_lt_of_le (hlt b h1) f.size
      · obtain rfl := List.mem_singleton.1 h1; exact hlp
    · refine List.nodup_append.2 ⟨hnd, List.pairwise_singleton _ _, fun a ha b hb => ?_⟩
      obtain rfl := List.mem_singleton.1 hb
      have := hlt a ha
      omega
  rw [e1]
  have ev := (Ev.refl h2).at 0 rfl (f.mono (T := pbs) (fun y hy => by cases hy)) (fun b hb => .inl hb) o (fun b hb => by
    rcases List.mem_append.1 hb with h1 | h1
    · exact .inl h1
    · obtain rfl := List.mem_singleton.1 h1; exact .inr hnew)
  have := Ev.part l [] (by rw [List.append_nil]; exact h) ev
  rw [List.append_nil, List.append_nil] at this
  exact this
end
end Go.Proofs.YtjgagcpmoffldaaGreat
