/- Layer 6, the document's disk: what it is in memory; off, took, nought, may. -/
import Derived.Test.YtflapddkeeiieaaSecG
import Derived.Test.YtflapddkeeiieaaEv
namespace Go.Proofs.Ytflapddkeeiieaa
open Go Go.Xr Go.RowKit
set_option linter.unusedVariables false
set_option linter.unusedSimpArgs false

theorem own_open {w : World} {size n : Nat} {v : Value} {xs : List Value} {B : Option Nat} (h : Xr.Own w size v n xs B) (hn : 0 < n) :
    ∃ b cap, B = some b ∧ v = .slice (some ⟨b, 0, none⟩) n cap ∧ n ≤ cap ∧ cap ≤ maxLen ∧ ∀ j, j < xs.length → w.cell? ⟨b, j, none⟩ = xs[j]? ∧ w.frozen? ⟨b, j, none⟩ = false := by
  rcases h.2 with ⟨_, h1, _⟩ | ⟨b, cap, cs, hB, hv, h1, h2, h3, h4, h5⟩
  · omega
  · refine ⟨b, cap, hB, hv, h1, h2, fun j hj => ⟨h.cellAt hB hj, h3.free j ?_⟩⟩
    rw [← h5, List.length_take] at hj
    omega

/-- The document's disk, as data. -/
structure XD where
  Kept : List ByteArray
  L : List (Nat × ByteArray)
  Trace : List Int
  Dead : Bool
/-- Where its parts lie. -/
structure XI where
  kv : Value
  lv : Value
  tv : Value
  K : Option Nat
  Lb : Option Nat
  T : Option Nat
def xlc (l : List (Nat × ByteArray)) : List Value := l.flatMap fun p => [.int .i64 (p.1 : Int), .string p.2]
def xps (x : Nat) (X : XD) (pw : Option (Nat × Nat)) (i : XI) : List Res :=
  [Res.blk x [i.kv, i.lv, i.tv, .bool X.Dead, pwv pw], Res.own 1 i.kv X.Kept.length (X.Kept.map .string) i.K, Res.own 2 i.lv X.L.length (xlc X.L) i.Lb, Res.own 1 i.tv X.Trace.length (X.Trace.map (.int .i64)) i.T]
def Res.xd (x : Nat) (X : XD) (pw : Option (Nat × Nat)) (F : List Nat) : Res := Res.ex F (xps x X pw)

def offB : Option (Nat × Nat) → Bool
  | some (_, 0) => true
  | _ => false

theorem off_any {w : World} {x : Nat} {X : XD} {pw : Option (Nat × Nat)} {i : XI} (h : Held w (Res.pow pw :: xps x X pw i)) :
    Calls Try.prog 49 #[.pointer (some ⟨x, 0, none⟩)] w fun e w' => e = .returned (.bool (offB pw)) ∧ w = w' := by
  have hc := (h.blkAt 1 rfl).cell
  have hp : pwOk w pw := h.at 0 rfl
  clear h
  match pw, hp with
  | none, _ =>
    simp only [pwv] at hc
    go_enter Try.func49, Try.ntmps49
    go_wp2
    go_ret
    exact ⟨rfl, rfl⟩
  | some (p, 0), hp =>
    simp only [pwv] at hc
    have hpc := hp.1.cell
    clear hp
    go_enter Try.func49, Try.ntmps49
    go_wp2
    go_ret
    exact ⟨rfl, rfl⟩
  | some (p, l + 1), hp =>
    simp only [pwv] at hc
    have hpc := hp.1.cell
    clear hp
    have hne : ¬ ((l + 1 : Nat) : Int) ≤ 0 := by omega
    go_enter Try.func49, Try.ntmps49
    go_wp2
    go_ret
    exact ⟨rfl, rfl⟩

/-- The power has one less. -/
theorem xtook_any {w : World} {x : Nat} {X : XD} {pw : Option (Nat × Nat)} {i : XI} (h : Held w (Res.pow pw :: xps x X pw i)) (h0 : offB pw = false) :
    Calls Try.prog 51 #[.pointer (some ⟨x, 0, none⟩)] w fun e w' => e = .returned (.tuple #[]) ∧ Ev w (Res.pow pw :: xps x X pw i) w' (Res.pow (pwDec pw) :: xps x X (pwDec pw) i) := by
  have hb := h.blkAt 1 rfl
  have hc := hb.cell
  have hp : pwOk w pw := h.at 0 rfl
  match pw, hp, h0 with
  | none, _, _ =>
    simp only [pwv] at hc
    have H := hid h
    clear h
    go_enter Try.func51, Try.ntmps51
    go_wp2
    go_end0
    exact ⟨rfl, Ev.refl H.out⟩
  | some (p, 0), _, h0 => cases h0
  | some (p, l + 1), hp, _ =>
    simp only [pwv] at hc
    have hpc := hp.1.cell
    have hpf := hp.1.free 0 (by simp)
    have hl := hp.2
    have H := hid h
    clear h
    go_enter Try.func51, Try.ntmps51
    go_wp2
    go_end0
    refine ⟨rfl, ?_⟩
    have e := (Ev.refl H.out).at 0 rfl (S := [p]) ((Fr.refl [p] w).setCell (a := ⟨p, 0, none⟩) (.inl (by simp)) (.int .i64 (l : Int))) (fun b hb => .inl (by simpa [Res.pow, pwF] using hb)) (r' := Res.pow (some (p, l)))
      (On.pow (pw := some (p, l)) ⟨by have := hp.1.set 0 (.int .i64 (l : Int)); simpa using this, by omega⟩) (fun b hb => .inl (by simpa [Res.pow, pwF] using hb))
    exact e

theorem xnought_any {w : World} : Calls Try.prog 40 #[] w fun e w' => e = .returned (.string ⟨zsec.toArray⟩) ∧ Fr [] w w' := by
  obtain ⟨i5, hi5, hz5, hs5, hb5⟩ := inf5
  have Hi := hid hi5
  have Hz := hid hz5
  have Hs := hid hs5
  have Hb := hid hb5
  clear hi5 hz5 hs5 hb5
  have HZ := hid (show zsec.length = 512 by unfold zsec; exact List.length_replicate)
  go_enter Try.func40, Try.ntmps40
  go_wp2_with (first
    | (refine wpList_make rfl _ _ _ rfl 512 512 .i64 .i64 rfl rfl 5 _ _ (bt 0) 1 1 Try.underlying29 Hi.out Hz.out Hs.out Hb.out rfl (by decide) (Nat.le_refl _) (by decide) (by decide) ?_; intro hb1; (try simp only [World.size_alloc, World.size_drew, Act.put, List.setIfInBounds_toArray, List.set_cons_succ, List.set_cons_zero]))
    | (refine wpList_string_of_bytes rfl _ _ 5 _ rfl 512 512 rfl hb1 zsec HZ.out (by unfold zsec; rw [bv_replicate, List.length_replicate, List.drop_zero, Nat.mul_one, List.take_replicate, Nat.min_self]) Try.underlying29 Try.underlying5 Try.underlying9 ?_; (try simp only [World.size_alloc, World.size_drew, Act.put, List.setIfInBounds_toArray, List.set_cons_succ, List.set_cons_zero])))
  go_ret
  exact ⟨rfl, (Fr.refl _ _).alloc _⟩

/-- What a call may. -/
def mayN (X : XD) (pw : Option (Nat × Nat)) (i : Int) (s : ByteArray) (wt : Bool) : Int :=
  if X.Dead || offB pw then 60 else if (decide (i < 0) || decide ((X.Kept.length : Int) ≤ i)) || (wt && !decide (s.size = 512)) then 2 else 0

theorem may_any {w : World} {x : Nat} {X : XD} {pw : Option (Nat × Nat)} {i : XI} (h : Held w (Res.pow pw :: xps x X pw i)) (j : Int) (s : ByteArray) (hs : s.size ≤ 9223372036854775807) (wt : Bool) :
    Calls Try.prog 57 #[.pointer (some ⟨x, 0, none⟩), .int .i64 j, .string s, .bool wt] w fun e w' => e = .returned (.int .i64 (mayN X pw j s wt)) ∧ w = w' := by
  have ho := off_any h
  have hc := (h.blkAt 1 rfl).cell
  have hk := (h.ownAt 2 rfl : Xr.Own w 1 i.kv X.Kept.length (X.Kept.map .string) i.K)
  obtain ⟨ka, kc, hkv⟩ := hk.isSlice
  rw [hkv] at hc
  clear h hk hkv
  unfold mayN
  cases hd : X.Dead with
  | true =>
    rw [hd] at hc
    clear hd
    go_enter Try.func57, Try.ntmps57
    go_wp2
    go_ret
    exact ⟨rfl, rfl⟩
  | false =>
    rw [hd] at hc
    clear hd
    cases hob : offB pw with
    | true =>
      rw [hob] at ho
      clear hob
      go_enter Try.func57, Try.ntmps57
      go_wp2_with (go_at_call 49; refine ho.mono ?_; rintro e w' ⟨rfl, rfl⟩)
      go_ret
      exact ⟨rfl, rfl⟩
    | false =>
      rw [hob] at ho
      clear hob
      by_cases h1 : j < 0
      · have e1 : decide (j < 0) = true := by simp [h1]
        rw [e1]
        clear e1
        go_enter Try.func57, Try.ntmps57
        go_wp2_with (go_at_call 49; refine ho.mono ?_; rintro e w' ⟨rfl, rfl⟩)
        go_ret
        exact ⟨rfl, rfl⟩
      · have e1 : decide (j < 0) = false := by simp; omega
        rw [e1]
        clear e1
        by_cases h2 : (X.Kept.length : Int) ≤ j
        · have e2 : decide ((X.Kept.length : Int) ≤ j) = true := by simp [h2]
          rw [e2]
          clear e2
          go_enter Try.func57, Try.ntmps57
          go_wp2_with (go_at_call 49; refine ho.mono ?_; rintro e w' ⟨rfl, rfl⟩)
          go_ret
          exact ⟨rfl, rfl⟩
        · have e2 : decide ((X.Kept.length : Int) ≤ j) = false := by simp; omega
          rw [e2]
          clear e2
          cases wt with
          | false =>
            go_enter Try.func57, Try.ntmps57
            go_wp2_with (go_at_call 49; refine ho.mono ?_; rintro e w' ⟨rfl, rfl⟩)
            go_ret
            exact ⟨rfl, rfl⟩
          | true =>
            by_cases h3 : s.size = 512
            · have e3 : decide (s.size = 512) = true := by simp [h3]
              rw [e3]
              have H3 : (s.size : Int) = 512 := by omega
              have H3' := hid h3
              clear e3 h3
              go_enter Try.func57, Try.ntmps57
              go_wp2_with (go_at_call 49; refine ho.mono ?_; rintro e w' ⟨rfl, rfl⟩)
              go_ret
              exact ⟨rfl, rfl⟩
            · have e3 : decide (s.size = 512) = false := by simp [h3]
              rw [e3]
              have H3 : ((s.size : Int) != 512) = true := by simp; omega
              clear e3 h3
              go_enter Try.func57, Try.ntmps57
              go_wp2_with (go_at_call 49; refine ho.mono ?_; rintro e w' ⟨rfl, rfl⟩)
              go_ret
              exact ⟨rfl, rfl⟩

theorem xlc_get (l : List (Nat × ByteArray)) (m : Nat) (hm : m < l.length) : (xlc l)[m * 2]? = some (.int .i64 (l[m].1 : Int)) ∧ (xlc l)[m * 2 + 1]? = some (.string l[m].2) := by
  induction l generalizing m with
  | nil => simp at hm
  | cons a l ih =>
    cases m with
    | zero => exact ⟨rfl, rfl⟩
    | succ m =>
      have e1 : (m + 1) * 2 = m * 2 + 2 := by omega
      have := ih m (by simpa using hm)
      rw [e1]
      exact this
theorem xlc_len (l : List (Nat × ByteArray)) : (xlc l).length = l.length * 2 := by
  induction l with
  | nil => rfl
  | cons a l ih =>
    show (xlc l).length + 2 = _
    rw [ih, List.length_cons]
    omega

/-- The newest of the writes to i, or what there was. -/
def nowX (L : List (Nat × ByteArray)) (i : Nat) (k : ByteArray) : ByteArray := L.foldl (fun a p => if p.1 = i then p.2 else a) k
theorem nowX_snoc (L : List (Nat × ByteArray)) (p : Nat × ByteArray) (i : Nat) (k : ByteArray) : nowX (L ++ [p]) i k = if p.1 = i then p.2 else nowX L i k := by
  unfold nowX
  rw [List.foldl_append]
  rfl

theorem now_any {w : World} {x : Nat} {X : XD} {pw : Option (Nat × Nat)} {i : XI} (h : Held w (Res.pow pw :: xps x X pw i)) (q : Nat) (hq : q < X.Kept.length) (hk : X.Kept.length ≤ 16384) (hl : X.L.length < 1000000) :
    Calls Try.prog 54 #[.pointer (some ⟨x, 0, none⟩), .int .i64 q] w fun e w' => e = .returned (.string (nowX X.L q X.Kept[q])) ∧ w = w' := by
  have hc := (h.blkAt 1 rfl).cell
  have hko := (h.ownAt 2 rfl : Xr.Own w 1 i.kv X.Kept.length (X.Kept.map .string) i.K)
  have hlo := (h.ownAt 3 rfl : Xr.Own w 2 i.lv X.L.length (xlc X.L) i.Lb)
  obtain ⟨kb, kc, _, hkv, _, _, hkc⟩ := own_open hko (by omega)
  have hkq := (hkc q (by simpa using hq)).1
  rw [List.getElem?_map, List.getElem?_eq_getElem hq, Option.map_some] at hkq
  obtain ⟨la, lc, hlv⟩ := hlo.isSlice
  rw [hkv, hlv] at hc
  rw [hlv] at hlo
  have Hlo := hid hlo
  clear h hko hlo hlv hkv hkc
  go_enter Try.func54, Try.ntmps54
  go_wp2_with fail
  go_loopw [5] (fun j wr => ∃ m : Nat, m ≤ X.L.length ∧ j = .int .i64 ((m : Int) - 1) ∧ wr = w ∧ nowX X.L q X.Kept[q] = nowX (X.L.take m) q X.Kept[q]) (fun j _ => (intOf j + 1).toNat)
  case atStart => exact ⟨X.L.length, Nat.le_refl _, rfl, rfl, by rw [List.take_length]⟩
  case round =>
    obtain ⟨m, hm, rfl, rfl, hn⟩ := hrel
    cases m with
    | zero =>
      have hge : ¬ ((0 : Nat) : Int) - 1 ≥ 0 := by omega
      have Hn := hid hn
      clear hn
      go_wp2_with fail
      go_ret
      refine ⟨?_, rfl⟩
      rw [Hn.out]
      rfl
    | succ m =>
      obtain ⟨lb, lcap, _, hlv, _, _, hlc⟩ := own_open Hlo.out (by omega)
      obtain ⟨rfl, rfl⟩ : la = some ⟨lb, 0, none⟩ ∧ lc = lcap := by simpa using hlv
      have c1 := (hlc (m * 2) (by rw [xlc_len]; omega)).1
      have c2 := (hlc (m * 2 + 1) (by rw [xlc_len]; omega)).1
      rw [(xlc_get X.L m (by omega)).1] at c1
      rw [(xlc_get X.L m (by omega)).2] at c2
      rw [List.take_succ_eq_append_getElem (by omega), nowX_snoc] at hn
      have Hn := hid hn
      clear hn hlc hlv
      have em : ((m + 1 : Nat) : Int) - 1 = (m : Int) := by omega
      rw [em]
      by_cases hqm : X.L[m].1 = q
      · have Hq := hid hqm
        have hqe : ((X.L[m].1 : Int) == (q : Int)) = true := by simp [hqm]
        clear hqm
        go_wp2_with fail
        go_ret
        refine ⟨?_, rfl⟩
        rw [Hn.out, if_pos Hq.out]
        rfl
      · have Hq := hid hqm
        have hqe : ((X.L[m].1 : Int) == (q : Int)) = false := by simp; omega
        clear hqm
        go_wp2_with fail
        go_roundw
        case rel => exact ⟨m, by omega, rfl, trivial, by rw [Hn.out, if_neg Hq.out]⟩
        case measure => simp [intOf]
end Go.Proofs.Ytflapddkeeiieaa
