/- Layer 6, sector: what a disk is in memory; able, took, at. -/
import Derived.Test.YtflapddkeeiieaaProg
import Derived.Test.YtflapddkeeiieaaOwn
import Derived.Test.YtflapddkeeiieaaReg
import Derived.WalkLawsBesides
import Derived.WalkSpells

import Derived.LoopN
namespace Go.Proofs.Ytflapddkeeiieaa
open Go Go.Xr Go.RowKit

/-- A disk, as data. -/
structure SD where
  kept : List (List UInt8)
  now : List (List UInt8)
  loose : List (Nat × List UInt8)
  trace : List Int
  dead : Bool

def fl (l : List (List UInt8)) : List Value := bv l.flatten
def wlc (l : List (Nat × List UInt8)) : List Value := l.flatMap fun p => Value.int .i64 (p.1 : Int) :: bv p.2

def pwv : Option (Nat × Nat) → Value
  | none => .pointer none
  | some (p, _) => .pointer (some ⟨p, 0, none⟩)
def pwOk (w : World) : Option (Nat × Nat) → Prop
  | none => True
  | some (p, l) => Blk w p [.int .i64 l] ∧ l ≤ 9223372036854775807

structure Good (D : SD) : Prop where
  same : D.kept.length = D.now.length
  pos : 0 < D.kept.length
  le : D.kept.length ≤ 16384
  k512 : ∀ s ∈ D.kept, s.length = 512
  n512 : ∀ s ∈ D.now, s.length = 512
  l512 : ∀ p ∈ D.loose, p.2.length = 512 ∧ p.1 < D.kept.length

/-- The blocks of a disk. -/
def feet (d k n : Nat) (L T : Option Nat) : List Nat := d :: k :: n :: (L.toList ++ T.toList)

structure Rep (w : World) (d : Nat) (D : SD) (pw : Option (Nat × Nat)) (F : List Nat) : Prop where
  good : Good D
  mem : ∃ kv nv lv tv k n L T, F = feet d k n L T ∧ F.Nodup ∧ Blk w d [kv, nv, lv, tv, .bool D.dead, pwv pw] ∧
    Xr.Own w 512 kv D.kept.length (fl D.kept) (some k) ∧ Xr.Own w 512 nv D.now.length (fl D.now) (some n) ∧
    Xr.Own w 513 lv D.loose.length (wlc D.loose) L ∧ Xr.Own w 1 tv D.trace.length (D.trace.map (.int .i64)) T

def ableN (D : SD) (pw : Option (Nat × Nat)) : Int :=
  if D.dead then 60 else match pw with
    | some (_, 0) => 60
    | _ => 0

theorem able_any {w : World} {d : Nat} {D : SD} {pw : Option (Nat × Nat)} {F : List Nat} (h : Rep w d D pw F) (hp : pwOk w pw) :
    Calls Try.prog 35 #[.pointer (some ⟨d, 0, none⟩)] w fun e w' => e = .returned (.int .i64 (ableN D pw)) ∧ w = w' := by
  obtain ⟨kv, nv, lv, tv, k, n, L, T, hF, hnd, hb, hk, hn, hl, ht⟩ := h.mem
  obtain ⟨kcap, hkv, _, _⟩ : ∃ cap, kv = .slice (some ⟨k, 0, none⟩) D.kept.length cap ∧ D.kept.length ≤ cap ∧ cap ≤ maxLen := by
    rcases hk.shape with ⟨_, _, _, h⟩ | ⟨b, cap, hb, h1, h2, h3⟩
    · cases h
    · cases hb; exact ⟨cap, h1, h2, h3⟩
  subst hkv
  have hc := hb.cell
  clear hb hk hn hl ht hF hnd h
  obtain ⟨kept, now, loose, trace, dead⟩ := D
  have hsn := @Lib.run_eql_slice_nil
  cases dead with
  | true =>
    go_enter Try.func35, Try.ntmps35
    go_wp2
    go_ret
    exact ⟨rfl, rfl⟩
  | false =>
    match pw, hp with
    | none, _ =>
      simp only [pwv] at hc
      go_enter Try.func35, Try.ntmps35
      go_wp2
      go_ret
      exact ⟨rfl, rfl⟩
    | some (p, 0), hp =>
      simp only [pwv] at hc
      have hpc := hp.1.cell
      clear hp
      go_enter Try.func35, Try.ntmps35
      go_wp2
      go_ret
      exact ⟨rfl, rfl⟩
    | some (p, l + 1), hp =>
      simp only [pwv] at hc
      have hpc := hp.1.cell
      clear hp
      have hne : (((l + 1 : Nat) : Int) == 0) = false := by simp; omega
      go_enter Try.func35, Try.ntmps35
      go_wp2
      go_ret
      exact ⟨rfl, rfl⟩


theorem notsec (s : ByteArray) (_hs : s.size ≤ 9223372036854775807) (w : World) :
    Calls Try.prog 56 #[.string s] w fun e w' => e = .returned (.bool (!decide (s.size = 512))) ∧ w = w' := by
  go_enter Try.func56, Try.ntmps56
  go_wp2
  go_ret
  refine ⟨?_, rfl⟩
  have e : ((s.size : Int) == 512) = decide (s.size = 512) := by rw [Bool.eq_iff_iff]; simp; omega
  simp [bne, e]

theorem idx_nil (w : World) :
    Calls Try.prog 58 #[.slice none 0 0, .func (.func 56) #[] #[]] w fun e w' => e = .returned (.int .i64 (-1)) ∧ w = w' := by
  go_enter Try.func58, Try.ntmps58
  go_wp2
  refine wp_loop_rounds 1 ?_
  rw [rounds_succ]
  go_wp2
  go_ret
  exact ⟨rfl, rfl⟩

theorem idx_one (s : ByteArray) (hs : s.size ≤ 9223372036854775807) (b c : Nat) (w : World) (hb : w.cell? ⟨b, 0, none⟩ = some (.string s)) :
    Calls Try.prog 58 #[.slice (some ⟨b, 0, none⟩) 1 c, .func (.func 56) #[] #[]] w fun e w' => e = .returned (.int .i64 (if s.size = 512 then -1 else 0)) ∧ w = w' := by
  have hn := notsec s hs w
  by_cases h : s.size = 512
  · have hd : decide (s.size = 512) = true := by simp [h]
    rw [hd] at hn
    have H := hid h
    clear h hd
    go_enter Try.func58, Try.ntmps58
    go_wp2
    refine wp_loop_rounds 2 ?_
    rw [rounds_succ]
    go_wp2_with fail
    refine hn.mono ?_
    rintro e w' ⟨rfl, rfl⟩
    go_wp2
    rw [rounds_succ]
    go_wp2
    go_ret
    exact ⟨by first | rfl | (rw [if_pos H.out]; rfl), rfl⟩
  · have hd : decide (s.size = 512) = false := by simp [h]
    rw [hd] at hn
    have H := hid h
    clear h hd
    go_enter Try.func58, Try.ntmps58
    go_wp2
    refine wp_loop_rounds 2 ?_
    rw [rounds_succ]
    go_wp2_with fail
    refine hn.mono ?_
    rintro e w' ⟨rfl, rfl⟩
    go_wp2
    go_ret
    exact ⟨by first | rfl | (rw [if_neg H.out]; rfl), rfl⟩

/-- The bytes that are handed to 'at': none, or one text. -/
def txt (w : World) (v : Value) : Option ByteArray → Prop
  | none => v = .slice none 0 0
  | some s => ∃ b c, v = .slice (some ⟨b, 0, none⟩) 1 c ∧ w.cell? ⟨b, 0, none⟩ = some (.string s) ∧ s.size ≤ 9223372036854775807

def badT : Option ByteArray → Bool
  | none => false
  | some s => !decide (s.size = 512)

theorem cont_any {w : World} {v : Value} {os : Option ByteArray} (h : txt w v os) :
    Calls Try.prog 55 #[v, .func (.func 56) #[] #[]] w fun e w' => e = .returned (.bool (badT os)) ∧ w = w' := by
  cases os with
  | none =>
    simp only [txt] at h
    subst h
    go_enter Try.func55, Try.ntmps55
    go_wp2_with fail
    refine (idx_nil w).mono ?_
    rintro e w' ⟨rfl, rfl⟩
    go_wp2
    go_ret
    exact ⟨rfl, rfl⟩
  | some s =>
    obtain ⟨b, c, rfl, hb, hs⟩ := h
    have hi := idx_one s hs b c w hb
    by_cases h : s.size = 512
    · have e : badT (some s) = false := by simp [badT, h]
      rw [e]
      rw [if_pos h] at hi
      clear h e
      go_enter Try.func55, Try.ntmps55
      go_wp2_with fail
      refine hi.mono ?_
      rintro e w' ⟨rfl, rfl⟩
      go_wp2
      go_ret
      exact ⟨rfl, rfl⟩
    · have e : badT (some s) = true := by simp [badT, h]
      rw [e]
      rw [if_neg h] at hi
      clear h e
      go_enter Try.func55, Try.ntmps55
      go_wp2_with fail
      refine hi.mono ?_
      rintro e w' ⟨rfl, rfl⟩
      go_wp2
      go_ret
      exact ⟨rfl, rfl⟩

def outB (D : SD) (i : Int) : Bool := decide (i < 0) || decide ((D.kept.length : Int) ≤ i)
def atN (D : SD) (pw : Option (Nat × Nat)) (i : Int) (os : Option ByteArray) : Int :=
  if ableN D pw = 0 then (if outB D i || badT os then 2 else 0) else ableN D pw

theorem ableN_cases (D : SD) (pw : Option (Nat × Nat)) : ableN D pw = 0 ∨ ableN D pw = 60 := by
  unfold ableN
  split
  · exact .inr rfl
  · split
    · exact .inr rfl
    · exact .inl rfl

theorem Rep.keptSlice {w : World} {d : Nat} {D : SD} {pw : Option (Nat × Nat)} {F : List Nat} (h : Rep w d D pw F) :
    ∃ k cap nv lv tv, Blk w d [.slice (some ⟨k, 0, none⟩) D.kept.length cap, nv, lv, tv, .bool D.dead, pwv pw] ∧ D.kept.length ≤ 16384 := by
  obtain ⟨kv, nv, lv, tv, k, n, L, T, hF, hnd, hb, hk, hn, hl, ht⟩ := h.mem
  rcases hk.shape with ⟨_, _, _, h1⟩ | ⟨b, cap, hb1, h1, h2, h3⟩
  · cases h1
  · cases hb1
    subst h1
    exact ⟨k, cap, nv, lv, tv, hb, h.good.le⟩

theorem at_any {w : World} {d : Nat} {D : SD} {pw : Option (Nat × Nat)} {F : List Nat} (h : Rep w d D pw F) (hp : pwOk w pw) (i : Int) (hi1 : -9223372036854775808 ≤ i) (hi2 : i ≤ 9223372036854775807) {v : Value} {os : Option ByteArray} (ho : txt w v os) :
    Calls Try.prog 38 #[.pointer (some ⟨d, 0, none⟩), .int .i64 i, v] w fun e w' => e = .returned (.int .i64 (atN D pw i os)) ∧ w = w' := by
  have ha := able_any h hp
  obtain ⟨k, cap, nv, lv, tv, hb, hle⟩ := h.keptSlice
  have hc := hb.cell
  have hco := cont_any ho
  clear hb h hp ho
  rcases ableN_cases D pw with h0 | h0
  · have e0 : atN D pw i os = (if outB D i || badT os then 2 else 0) := by simp [atN, h0]
    rw [e0]
    rw [h0] at ha
    clear e0 h0
    by_cases h1 : i < 0
    · have e1 : outB D i = true := by simp [outB, h1]
      rw [e1]
      clear e1
      go_enter Try.func38, Try.ntmps38
      go_wp2_with (go_at_call 35; refine ha.mono ?_; rintro e w' ⟨rfl, rfl⟩)
      go_ret
      exact ⟨rfl, rfl⟩
    · by_cases h2 : (D.kept.length : Int) ≤ i
      · have e1 : outB D i = true := by simp [outB, h2]
        rw [e1]
        clear e1
        go_enter Try.func38, Try.ntmps38
        go_wp2_with (go_at_call 35; refine ha.mono ?_; rintro e w' ⟨rfl, rfl⟩)
        go_ret
        exact ⟨rfl, rfl⟩
      · have e1 : outB D i = false := by simp [outB]; omega
        rw [e1, Bool.false_or]
        clear e1
        cases hbt : badT os with
        | true =>
          rw [hbt] at hco
          clear hbt
          go_enter Try.func38, Try.ntmps38
          go_wp2_with (first | (go_at_call 35; refine ha.mono ?_; rintro e w' ⟨rfl, rfl⟩) | (go_at_call 55; refine hco.mono ?_; rintro e w' ⟨rfl, rfl⟩))
          go_ret
          exact ⟨rfl, rfl⟩
        | false =>
          rw [hbt] at hco
          clear hbt
          go_enter Try.func38, Try.ntmps38
          go_wp2_with (first | (go_at_call 35; refine ha.mono ?_; rintro e w' ⟨rfl, rfl⟩) | (go_at_call 55; refine hco.mono ?_; rintro e w' ⟨rfl, rfl⟩))
          go_ret
          exact ⟨rfl, rfl⟩
  · have e0 : atN D pw i os = 60 := by simp [atN, h0]
    rw [e0]
    rw [h0] at ha
    clear e0 h0
    go_enter Try.func38, Try.ntmps38
    go_wp2_with (go_at_call 35; refine ha.mono ?_; rintro e w' ⟨rfl, rfl⟩)
    go_ret
    exact ⟨rfl, rfl⟩

def pwDec : Option (Nat × Nat) → Option (Nat × Nat)
  | none => none
  | some (p, l) => some (p, l - 1)
def pwF (pw : Option (Nat × Nat)) : List Nat := (pw.map (·.1)).toList

theorem took_any {w : World} {pw : Option (Nat × Nat)} (hp : pwOk w pw) (h0 : ∀ p, pw ≠ some (p, 0)) :
    Calls Try.prog 37 #[pwv pw] w fun e w' => e = .returned (.tuple #[]) ∧ Fr (pwF pw) w w' ∧ pwOk w' (pwDec pw) ∧ w'.heap.size = w.heap.size := by
  match pw, hp, h0 with
  | none, _, _ =>
    simp only [pwv]
    go_enter Try.func37, Try.ntmps37
    go_wp2
    go_end0
    exact ⟨rfl, Fr.refl _ _, trivial, rfl⟩
  | some (p, 0), _, h0 => exact absurd rfl (h0 p)
  | some (p, l + 1), hp, _ =>
    have hb := hp.1
    have hl := hp.2
    have hc := hb.cell
    have hf := hb.free 0 (by simp)
    clear hp
    simp only [pwv]
    go_enter Try.func37, Try.ntmps37
    go_wp2
    go_end0
    refine ⟨rfl, (Fr.refl _ _).setCell (.inl (by simp [pwF])) _, ?_, by simp⟩
    refine ⟨?_, by simp; omega⟩
    have := hb.set 0 (.int .i64 (l : Int))
    simpa using this

theorem Rep.keep {w w' : World} {d : Nat} {D : SD} {pw : Option (Nat × Nat)} {F S : List Nat} (h : Rep w d D pw F) (f : Fr S w w') (hS : ∀ x ∈ F, x ∉ S) : Rep w' d D pw F := by
  refine ⟨h.good, ?_⟩
  obtain ⟨kv, nv, lv, tv, k, n, L, T, hF, hnd, hb, hk, hn, hl, ht⟩ := h.mem
  subst hF
  have m : ∀ x, x ∈ feet d k n L T → x ∉ S := hS
  exact ⟨kv, nv, lv, tv, k, n, L, T, rfl, hnd, f.blk hb (m d (by simp [feet])), hk.keep f (fun b e => by cases e; exact m k (by simp [feet])),
    hn.keep f (fun b e => by cases e; exact m n (by simp [feet])), hl.keep f (fun b e => m b (by simp [feet, e])), ht.keep f (fun b e => m b (by simp [feet, e]))⟩

theorem pwOk.keep {w w' : World} {pw : Option (Nat × Nat)} {S : List Nat} (h : pwOk w pw) (f : Fr S w w') (hS : ∀ x ∈ pwF pw, x ∉ S) : pwOk w' pw := by
  match pw, h with
  | none, _ => trivial
  | some (p, l), h => exact ⟨f.blk h.1 (hS p (by simp [pwF])), h.2⟩

theorem Rep.lt {w : World} {d : Nat} {D : SD} {pw : Option (Nat × Nat)} {F : List Nat} (h : Rep w d D pw F) : ∀ x ∈ F, x < w.heap.size := by
  obtain ⟨kv, nv, lv, tv, k, n, L, T, hF, hnd, hb, hk, hn, hl, ht⟩ := h.mem
  subst hF
  intro x hx
  simp only [feet, List.mem_cons, List.mem_append, Option.mem_toList] at hx
  rcases hx with rfl | rfl | rfl | hx | hx
  · exact hb.lt
  · exact hk.lt _ rfl
  · exact hn.lt _ rfl
  · exact hl.lt _ hx
  · exact ht.lt _ hx

theorem flat_len (l : List (List UInt8)) (h : ∀ x ∈ l, x.length = 512) : l.flatten.length = l.length * 512 := by
  induction l with
  | nil => rfl
  | cons a l ih =>
    simp only [List.flatten_cons, List.length_append, List.length_cons]
    rw [h a (by simp), ih (fun x hx => h x (by simp [hx]))]
    omega
theorem fl_len (l : List (List UInt8)) (h : ∀ x ∈ l, x.length = 512) : (fl l).length = l.length * 512 := by
  unfold fl
  rw [bv_length, flat_len l h]
theorem fl_cons (a : List UInt8) (l : List (List UInt8)) : fl (a :: l) = bv a ++ fl l := by simp [fl]
/-- A sector of many is written. -/
theorem splice_flat : ∀ (l : List (List UInt8)) (i : Nat) (s : List UInt8), (∀ x ∈ l, x.length = 512) → i < l.length → s.length = 512 → splice (fl l) (i * 512) (bv s) = fl (l.set i s)
  | [], i, s, _, hi, _ => by simp at hi
  | a :: l, 0, s, h, _, hs => by
    have ha := h a (by simp)
    rw [fl_cons, List.set_cons_zero, fl_cons]
    unfold splice
    simp [hs, ha]
  | a :: l, i + 1, s, h, hi, hs => by
    have ha := h a (by simp)
    have ih := splice_flat l i s (fun x hx => h x (by simp [hx])) (by simpa using hi) hs
    rw [fl_cons, List.set_cons_succ, fl_cons, ← ih]
    have e : (i + 1) * 512 = (bv a).length + i * 512 := by rw [bv_length, ha]; omega
    unfold splice
    rw [e, Nat.add_assoc, List.take_length_add_append, List.drop_length_add_append]
    simp
theorem take_splice (cs vs : List Value) (off m : Nat) (h : off + vs.length ≤ m) : (splice cs off vs).take m = splice (cs.take m) off vs := by
  unfold splice
  by_cases hl : off ≤ cs.length
  · have e1 : (cs.take off).length = off := by simp; omega
    have e : m = (cs.take off ++ vs).length + (m - (off + vs.length)) := by simp; omega
    rw [e, List.take_length_add_append, ← e]
    rw [List.take_take, Nat.min_eq_left (by omega), List.drop_take]
  · have e1 : cs.take off = cs := List.take_of_length_le (by omega)
    have e2 : cs.drop (off + vs.length) = [] := List.drop_eq_nil_of_le (by omega)
    have e3 : cs.take m = cs := List.take_of_length_le (by omega)
    rw [e3, e1, e2, List.take_of_length_le (by simp; omega)]

theorem feet_ne {F : List Nat} {d k n : Nat} {L T : Option Nat} (hF : F = feet d k n L T) (h : F.Nodup) :
    d ≠ k ∧ d ≠ n ∧ k ≠ n ∧ (∀ b, L = some b → b ≠ d ∧ b ≠ k ∧ b ≠ n) ∧ (∀ b, T = some b → b ≠ d ∧ b ≠ k ∧ b ≠ n) ∧ (∀ b c, L = some b → T = some c → b ≠ c) := by
  subst hF
  simp only [feet, List.nodup_cons, List.mem_cons, List.mem_append, Option.mem_toList, not_or, List.nodup_append] at h
  obtain ⟨⟨h1, h2, h3, h4⟩, ⟨h5, h6, h7⟩, ⟨h8, h9⟩, h10⟩ := h
  refine ⟨h1, h2, h5, fun b e => ⟨fun e2 => h3 (by simp [e, e2]), fun e2 => h6 (by simp [e, e2]), fun e2 => h8 (by simp [e, e2])⟩,
    fun b e => ⟨fun e2 => h4 (by simp [e, e2]), fun e2 => h7 (by simp [e, e2]), fun e2 => h9 (by simp [e, e2])⟩, fun b c e1 e2 => ?_⟩
  exact h10.2.2 b (by simp [e1]) c (by simp [e2])

theorem feet_nodup {d k n : Nat} {L T : Option Nat} (h1 : d ≠ k) (h2 : d ≠ n) (h3 : k ≠ n) (h4 : ∀ b, L = some b → b ≠ d ∧ b ≠ k ∧ b ≠ n) (h5 : ∀ b, T = some b → b ≠ d ∧ b ≠ k ∧ b ≠ n) (h6 : ∀ b c, L = some b → T = some c → b ≠ c) : (feet d k n L T).Nodup := by
  simp only [feet, List.nodup_cons, List.mem_cons, List.mem_append, Option.mem_toList, not_or, List.nodup_append]
  refine ⟨⟨h1, h2, fun e => (h4 d e).1 rfl, fun e => (h5 d e).1 rfl⟩, ⟨h3, fun e => (h4 k e).2.1 rfl, fun e => (h5 k e).2.1 rfl⟩, ⟨fun e => (h4 n e).2.2 rfl, fun e => (h5 n e).2.2 rfl⟩, ?_, ?_, fun a ha b hb => h6 a b ha hb⟩
  · cases L <;> simp
  · cases T <;> simp
end Go.Proofs.Ytflapddkeeiieaa
