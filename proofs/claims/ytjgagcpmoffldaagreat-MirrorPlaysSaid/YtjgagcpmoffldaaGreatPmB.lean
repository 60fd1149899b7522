/- Layer 7 (great seat): two disks of the document and the powers on which they hang. -/
import Derived.Test.YtjgagcpmoffldaaGreatPmA
import Derived.Test.YtjgagcpmoffldaaGreatGMirA
namespace Go.Proofs.YtjgagcpmoffldaaGreat
open Go Go.Xr Go.RowKit
set_option linter.unusedVariables false
set_option linter.unusedSimpArgs false
def kpw (qbs : List Nat) (k : Option Nat) : Option (Nat × Nat) := k.map fun j => (qbs.getD j 0, 0)
def xdk (x : Nat) (X : XD) (qbs : List Nat) (k : Option Nat) (F : List Nat) : Res := ⟨F, fun w => (∃ i, F = feetOf (xps x X (kpw qbs k) i) ∧ Held w (xps x X (kpw qbs k) i)) ∧ Pln w x⟩
theorem xps_left (x : Nat) (X : XD) (qbs : List Nat) (k lf : Option Nat) (h : lf.isSome = k.isSome) (i : XI) : xps x X (kpw qbs k) i = xps x X (mk (pbk qbs k) lf) i := by
  cases k with
  | none =>
    cases lf with
    | none => rfl
    | some n => cases h
  | some j =>
    cases lf with
    | none => cases h
    | some n => rfl
theorem xps_mem (x : Nat) (X : XD) (pw : Option (Nat × Nat)) (i : XI) : x ∈ feetOf (xps x X pw i) := by simp [feetOf, xps, Res.blk]
theorem On.xdk {w : World} {x : Nat} {X : XD} {qbs : List Nat} {k lf : Option Nat} {i : XI} (h : Held w (xps x X (mk (pbk qbs k) lf) i)) (hl : lf.isSome = k.isSome) (hp : Pln w x) : (xdk x X qbs k (feetOf (xps x X (mk (pbk qbs k) lf) i))).On w := by
  have h1 : Held w (xps x X (kpw qbs k) i) := by rw [xps_left x X qbs k lf hl]; exact h
  refine ⟨fun w w' hs h => ⟨(ex_loc (ps := xps x X (kpw qbs k))) w w' hs h.1, h.2.same (hs x ?_ h.2.lt)⟩, ⟨⟨i, by rw [xps_left x X qbs k lf hl], h1⟩, hp⟩, h.ltAll, h.apart⟩
  show x ∈ feetOf (xps x X (mk (pbk qbs k) lf) i)
  exact xps_mem x X (mk (pbk qbs k) lf) i
theorem pow_of {w : World} {pw : Option (Nat × Nat)} {rs : List Res} (h : Held w (Res.pow pw :: rs)) : pwOk w pw := h.so (Res.pow pw) (by simp)
theorem pow_ne {w : World} {pw : Option (Nat × Nat)} {rs : List Res} (h : Held w (Res.pow pw :: rs)) : ∀ y ∈ pwF pw, y ∉ feetOf rs := by
  have ha := h.apart
  rw [List.flatMap_cons, List.nodup_append] at ha
  exact fun y hy hy2 => ha.2.2 y hy y hy2 rfl
section
variable {w w' : World} {pbs L : List Nat} {d : Nat} {X X' : XD} {k lf' : Option Nat} {F : List Nat} {i' : XI}
theorem xone_op (h : Held w [Res.pows pbs L, xdk d X pbs k F]) (hk : ∀ j, k = some j → j < L.length) : ∃ i, F = feetOf (xps d X (mk (pbk pbs k) (lfk L k)) i) ∧ Held w (Res.pow (mk (pbk pbs k) (lfk L k)) :: xps d X (mk (pbk pbs k) (lfk L k)) i) := by
  have hp := h.at 0 rfl
  obtain ⟨⟨i, hF, hi⟩, hpl⟩ := h.at 1 rfl
  have hls : (lfk L k).isSome = k.isSome := by cases k <;> rfl
  rw [xps_left d X pbs k _ hls] at hF hi
  refine ⟨i, hF, ?_⟩
  cases k with
  | none => exact hi.new (pow0 w) (fun b hb => by cases hb)
  | some j =>
    have hj := hk j rfl
    have hj' : j < pbs.length := by rw [hp.1]; exact hj
    have e1 : pbs.getD j 0 = pbs[j] := by simp [hj']
    have e2 : L.getD j 0 = L[j] := by simp [hj]
    refine hi.new (On.pow ?_) (fun b hb r hr hbr => ?_)
    · show pwOk w (some (pbs.getD j 0, L.getD j 0))
      rw [e1, e2]
      exact hp.2 j _ _ (List.getElem?_eq_getElem hj') (List.getElem?_eq_getElem hj)
    · have hb : b = pbs[j] := by simpa [Res.pow, pwF, mk, lfk, pbk, hj'] using hb
      have := h.idx_ne (i := 0) (j := 1) (by decide) rfl rfl b (by rw [hb]; exact List.getElem_mem hj')
      refine this ?_
      show b ∈ F
      rw [hF]
      exact List.mem_flatMap.2 ⟨r, hr, hbr⟩
theorem xone_put (h : Held w [Res.pows pbs L, xdk d X pbs k F]) (hk : ∀ j, k = some j → j < L.length) (hs : lf'.isSome = k.isSome) {i : XI} (hFi : F = feetOf (xps d X (mk (pbk pbs k) (lfk L k)) i))
    (ev : Ev w (Res.pow (mk (pbk pbs k) (lfk L k)) :: xps d X (mk (pbk pbs k) (lfk L k)) i) w' (Res.pow (mk (pbk pbs k) lf') :: xps d X' (mk (pbk pbs k) lf') i')) :
    Ev w [Res.pows pbs L, xdk d X pbs k F] w' [Res.pows pbs (setk L k lf'), xdk d X' pbs k (feetOf (xps d X' (mk (pbk pbs k) lf') i'))] := by
  obtain ⟨F', hF'e⟩ : ∃ F', feetOf (xps d X' (mk (pbk pbs k) lf') i') = F' := ⟨_, rfl⟩
  have hp := h.at 0 rfl
  have hnd := h.nodup1 (a := Res.pows pbs L) (by simp)
  have hne := h.idx_ne (i := 0) (j := 1) (by decide) rfl rfl
  have hlt : ∀ b ∈ pbs, b < w.heap.size := h.lt (Res.pows pbs L) (by simp)
  have hF : feetOf (Res.pow (mk (pbk pbs k) (lfk L k)) :: xps d X (mk (pbk pbs k) (lfk L k)) i) = pwF (mk (pbk pbs k) (lfk L k)) ++ F := by rw [hFi]; simp [feetOf, Res.pow]
  have hF' : feetOf (Res.pow (mk (pbk pbs k) lf') :: xps d X' (mk (pbk pbs k) lf') i') = pwF (mk (pbk pbs k) lf') ++ F' := by rw [← hF'e]; simp [feetOf, Res.pow]
  have hlow := ev.low
  have hfr := ev.fr
  rw [hF] at hlow hfr
  rw [hF'] at hlow
  have hpin : ∀ b ∈ pwF (mk (pbk pbs k) (lfk L k)), b ∈ pbs := by
    intro b hb
    cases k with
    | none => cases hb
    | some j =>
      have hj' : j < pbs.length := by rw [hp.1]; exact hk j rfl
      have hb : b = pbs[j] := by simpa [pwF, mk, lfk, pbk, hj'] using hb
      rw [hb]
      exact List.getElem_mem hj'
  have hd' : (xdk d X' pbs k F').On w' := by
    rw [← hF'e]
    exact On.xdk (Held.xpsOf ev.held) hs (hfr.plain d (h.at 1 rfl).2)
  have hFn : ∀ b ∈ F', b ∈ F ∨ w.heap.size ≤ b := by
    intro b hb
    rcases hlow b (List.mem_append_right _ hb) with h1 | h1
    · rcases List.mem_append.1 h1 with h2 | h2
      · have hb2 := pow_ne ev.held b
        have e : pwF (mk (pbk pbs k) lf') = pwF (mk (pbk pbs k) (lfk L k)) := by
          cases k with
          | none => cases lf' with
            | none => rfl
            | some n => cases hs
          | some j => cases lf' with
            | none => cases hs
            | some n => rfl
        rw [e, hF'e] at hb2
        exact absurd hb (hb2 h2)
      · exact .inl h2
    · exact .inr h1
  have hpow : (Res.pows pbs (setk L k lf')).On w' := by
    refine ⟨fun w w' hs h => pows_loc hs h, ⟨?_, fun j b n hb hn => ?_⟩, fun b hb => Nat.lt_of_lt_of_le (hlt b hb) hfr.size, hnd⟩
    · rw [hp.1]
      unfold setk
      split <;> simp
    · by_cases hj : k = some j
      · subst hj
        cases lf' with
        | none => cases hs
        | some n' =>
          have hjl := hk j rfl
          have e1 : (L.set j n')[j]? = some n' := by rw [List.getElem?_set_self hjl]
          have hn' : n = n' := by
            have : (L.set j n')[j]? = some n := hn
            rw [e1] at this
            exact (Option.some.inj this).symm
          have hj' : j < pbs.length := by rw [hp.1]; exact hjl
          have e2 : pbk pbs (some j) = b := by
            unfold pbk
            simp only [Option.getD_some, List.getD_eq_getElem?_getD, hb]
          have := pow_of ev.held
          rw [e2] at this
          rw [hn']
          exact this
      · have hn2 : L[j]? = some n := by
          unfold setk at hn
          split at hn
          · rename_i j' n'
            rw [List.getElem?_set_ne (fun e => hj (by rw [e]))] at hn
            exact hn
          · exact hn
        have h1 := hp.2 j b n hb hn2
        refine ⟨h1.1.same (hfr.block b h1.1.lt ?_), h1.2⟩
        intro hbm
        rcases List.mem_append.1 hbm with h2 | h2
        · cases k with
          | none => cases h2
          | some j' =>
            have hj' : j' < pbs.length := by rw [hp.1]; exact hk j' rfl
            have hb2 : b = pbs[j'] := by simpa [pwF, mk, lfk, pbk, hj'] using h2
            obtain ⟨hjl, hjb⟩ := List.getElem?_eq_some_iff.1 hb
            have : j = j' := nodup_inj hnd hjl hj' (hjb.trans hb2)
            exact hj (by rw [this])
        · exact hne b (List.mem_of_getElem? hb) h2
  rw [hF'e]
  refine ⟨(Held.one hd').new hpow fun b hb r hr => ?_, hfr.mono (fun y hy => .inl ?_), fun b hb => ?_⟩
  · obtain rfl := List.mem_singleton.1 hr
    intro hb'
    rcases hFn b hb' with h1 | h1
    · exact hne b hb h1
    · have := hlt b hb
      omega
  · have e : feetOf [Res.pows pbs L, xdk d X pbs k F] = pbs ++ F := by simp [feetOf, Res.pows, xdk]
    rw [e]
    rcases List.mem_append.1 hy with h2 | h2
    · exact List.mem_append_left _ (hpin y h2)
    · exact List.mem_append_right _ h2
  · have e1 : feetOf [Res.pows pbs (setk L k lf'), xdk d X' pbs k F'] = pbs ++ F' := by simp [feetOf, Res.pows, xdk]
    have e2 : feetOf [Res.pows pbs L, xdk d X pbs k F] = pbs ++ F := by simp [feetOf, Res.pows, xdk]
    rw [e1] at hb
    rw [e2]
    rcases List.mem_append.1 hb with h2 | h2
    · exact .inl (List.mem_append_left _ h2)
    · rcases hFn b h2 with h3 | h3
      · exact .inl (List.mem_append_right _ h3)
      · exact .inr h3
end
def sysX (pbs : List Nat) (s : Sys) (d : Bool → Nat) (FF : Bool → List Nat) : List Res :=
  [Res.pows pbs s.L, xdk (d false) (s.X false) pbs (s.k false) (FF false), xdk (d true) (s.X true) pbs (s.k true) (FF true)]
section
variable {w w' w0 : World} {l rs : List Res} {pbs : List Nat} {s : Sys} {d : Bool → Nat} {FF : Bool → List Nat}
theorem xys_part (b : Bool) (h : Held w (l ++ sysX pbs s d FF)) : Held w [Res.pows pbs s.L, xdk (d b) (s.X b) pbs (s.k b) (FF b)] := by
  have h2 : Held w (sysX pbs s d FF) := Held.part l [] (by simpa using h)
  cases b
  · exact h2.pick [0, 1] (by decide) rfl
  · exact h2.pick [0, 2] (by decide) rfl
theorem xys_lift (b : Bool) (e : Ev w0 rs w (l ++ sysX pbs s d FF)) {X' : XD} {lf' : Option Nat} {F' : List Nat} (ev : Ev w [Res.pows pbs s.L, xdk (d b) (s.X b) pbs (s.k b) (FF b)] w' [Res.pows pbs (setk s.L (s.k b) lf'), xdk (d b) X' pbs (s.k b) F']) :
    Ev w0 rs w' (l ++ sysX pbs (s.put b X' lf') d (fun c => if c = b then F' else FF c)) := by
  cases b
  · have := Ev.then l [xdk (d true) (s.X true) pbs (s.k true) (FF true)] (by rw [List.append_assoc]; exact e) ev
    rw [List.append_assoc] at this
    exact this
  · have p : (sysX pbs s d FF).Perm ([Res.pows pbs s.L, xdk (d true) (s.X true) pbs (s.k true) (FF true)] ++ [xdk (d false) (s.X false) pbs (s.k false) (FF false)]) := List.Perm.cons _ (List.Perm.swap _ _ _)
    have e1 := Ev.perm e (p.append_left l)
    have := Ev.then l [xdk (d false) (s.X false) pbs (s.k false) (FF false)] (by rw [List.append_assoc]; exact e1) ev
    rw [List.append_assoc] at this
    exact Ev.perm this (List.Perm.append_left l (List.Perm.cons _ (List.Perm.swap _ _ _)))
theorem xW (b : Bool) (h : Held w (l ++ sysX pbs s d FF)) (ok : SysOk s) (ht : s.T < 1000000) (I : Int) (S : ByteArray) (hS : S.size ≤ 9223372036854775807) :
    Calls Tryz.prog 37 #[.pointer (some ⟨d b, 0, none⟩), .int .i64 I, .string S] w fun e w' => e = .returned (.int .i64 (s.wrC b I S)) ∧ ∃ FF', Ev w (l ++ sysX pbs s d FF) w' (l ++ sysX pbs (s.wr b I S) d FF') := by
  have hp := xys_part b h
  have hT := T_le s b
  obtain ⟨i, hF, hx⟩ := xone_op hp (ok.k b)
  refine (pwrite_x hx (ok.g b) (by omega) (by omega) I S hS).mono ?_
  rintro e w' ⟨rfl, i', ev⟩
  exact ⟨rfl, _, xys_lift b (Ev.refl h) (xone_put hp (ok.k b) (by rw [wrL_some]; exact lf_some s b) hF ev)⟩
theorem xF (b : Bool) (h : Held w (l ++ sysX pbs s d FF)) (ok : SysOk s) (ht : s.T < 1000000) :
    Calls Tryz.prog 38 #[.pointer (some ⟨d b, 0, none⟩)] w fun e w' => e = .returned (.int .i64 (s.flC b)) ∧ ∃ FF', Ev w (l ++ sysX pbs s d FF) w' (l ++ sysX pbs (s.fl b) d FF') := by
  have hp := xys_part b h
  have hT := T_le s b
  obtain ⟨i, hF, hx⟩ := xone_op hp (ok.k b)
  refine (pflush_x hx (ok.g b) (by omega) (by omega)).mono ?_
  rintro e w' ⟨rfl, i', ev⟩
  exact ⟨rfl, _, xys_lift b (Ev.refl h) (xone_put hp (ok.k b) (by rw [flL_some]; exact lf_some s b) hF ev)⟩
theorem xR (b : Bool) (h : Held w (l ++ sysX pbs s d FF)) (ok : SysOk s) (ht : s.T < 1000000) (j : Int) :
    Calls Tryz.prog 41 #[.pointer (some ⟨d b, 0, none⟩), .int .i64 j] w fun e w' => e = .returned (.tuple #[.string (s.rdS b j), .int .i64 (s.rdC b j)]) ∧ w' = w := by
  have hT := T_le s b
  obtain ⟨i, hF, hx⟩ := xone_op (xys_part b h) (ok.k b)
  exact pread_x hx (ok.g b) (by omega) j
theorem xsee (b : Bool) (h : Held w (l ++ sysX pbs s d FF)) (ok : SysOk s) : ∃ (kb c : Nat) (lv tv pv : Value), Blk w (d b) [.slice (some ⟨kb, 0, none⟩) (s.len b) c, lv, tv, .bool (s.X b).Dead, pv] ∧ Pln w (d b) := by
  have hp := xys_part b h
  obtain ⟨i, hF, hx⟩ := xone_op hp (ok.k b)
  have hb := (Held.xpsOf hx).blkAt 0 rfl
  have ho := (Held.xpsOf hx).at 1 rfl
  have hpos := (ok.g b).pos
  obtain ⟨kb, c, _, hv, _, _, _⟩ := own_open ho hpos
  rw [hv] at hb
  exact ⟨kb, c, _, _, _, hb, (hp.at 1 rfl).2⟩
end
end Go.Proofs.YtjgagcpmoffldaaGreat
