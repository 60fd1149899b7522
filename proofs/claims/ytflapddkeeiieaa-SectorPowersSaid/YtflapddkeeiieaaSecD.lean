/- Layer 6, sector: Loose, Clip. -/
import Derived.Test.YtflapddkeeiieaaSecC
namespace Go.Proofs.Ytflapddkeeiieaa
open Go Go.Xr Go.RowKit
set_option linter.unusedVariables false
set_option linter.unusedSimpArgs false

theorem clip_any {w : World} {v : Value} {n : Nat} {xs : List Value} {B : Option Nat} (h : Xr.Own w 1 v n xs B) :
    Calls Try.prog 39 #[v] w fun e w' => (∃ v', e = .returned v' ∧ Rd w 1 v' n xs B) ∧ w = w' := by
  rcases h.2 with ⟨rfl, rfl, rfl⟩ | ⟨b, cap, cs, rfl, rfl, h2, h3, h4, h5, h6⟩
  · have hx := h.1
    go_enter Try.func39, Try.ntmps39
    go_wp2
    go_ret
    exact ⟨⟨_, rfl, by simpa using hx, .inl ⟨rfl, rfl, rfl⟩⟩, rfl⟩
  · have hx := hid h.1
    have H6 := hid h6
    have H5 := hid h5
    clear h h6 h5
    by_cases hn : n = cap
    · subst hn
      go_enter Try.func39, Try.ntmps39
      go_wp2
      go_ret
      exact ⟨⟨_, rfl, hx.out, .inr ⟨b, 0, n, cs, rfl, rfl, Nat.le_refl _, h3, h4, by have := H5.out; omega, by rw [List.drop_zero]; exact H6.out⟩⟩, rfl⟩
    · go_enter Try.func39, Try.ntmps39
      go_wp2
      go_ret
      exact ⟨⟨_, rfl, hx.out, .inr ⟨b, 0, n, cs, rfl, rfl, Nat.le_refl _, by omega, h4, by have := H5.out; omega, by rw [List.drop_zero]; exact H6.out⟩⟩, rfl⟩

theorem wlc_len (l : List (Nat × List UInt8)) (h : ∀ p ∈ l, p.2.length = 512) : (wlc l).length = l.length * 513 := by
  induction l with
  | nil => rfl
  | cons a l ih =>
    have h1 := h a (by simp)
    have h2 := ih (fun p hp => h p (by simp [hp]))
    unfold wlc at h2 ⊢
    rw [List.flatMap_cons, List.length_append, h2, List.length_cons, List.length_cons, bv_length, h1]
    omega
theorem wlc_cons (a : Nat × List UInt8) (l : List (Nat × List UInt8)) : wlc (a :: l) = (Value.int .i64 (a.1 : Int) :: bv a.2) ++ wlc l := by simp [wlc]
theorem wlc_drop : ∀ (l : List (Nat × List UInt8)) (i : Nat) (hi : i < l.length), (∀ p ∈ l, p.2.length = 512) → ((wlc l).drop (i * 513)).take 513 = Value.int .i64 (l[i].1 : Int) :: bv l[i].2
  | [], i, hi, _ => by simp at hi
  | a :: l, 0, _, h => by
    have ha := h a (by simp)
    rw [wlc_cons, Nat.zero_mul, List.drop_zero, List.take_append_of_le_length (by rw [List.length_cons, bv_length, ha]; exact Nat.le_refl _), List.take_of_length_le (by rw [List.length_cons, bv_length, ha]; exact Nat.le_refl _)]
    rfl
  | a :: l, i + 1, hi, h => by
    have ha := h a (by simp)
    have ih := wlc_drop l i (by simpa using hi) (fun x hx => h x (by simp [hx]))
    have e : (i + 1) * 513 = (Value.int .i64 (a.1 : Int) :: bv a.2).length + i * 513 := by rw [List.length_cons, bv_length, ha]; omega
    rw [wlc_cons, e, List.drop_length_add_append, ih]
    rfl

def looseIx (D : SD) : List Value := D.loose.map fun p => Value.int .i64 (p.1 : Int)

set_option maxHeartbeats 1000000 in
set_option maxRecDepth 20000 in
theorem loose_any {w : World} {d : Nat} {D : SD} {pw : Option (Nat × Nat)} {F : List Nat} (h : Rep w d D pw F) (hll : D.loose.length < 1000000) :
    Calls Try.prog 13 #[.pointer (some ⟨d, 0, none⟩)] w fun e w' => ∃ v B, e = .returned v ∧ Rd w' 1 v D.loose.length (looseIx D) B ∧ Fr [] w w' ∧ ∀ b, B = some b → w.heap.size ≤ b := by
  have hl512 : ∀ p ∈ D.loose, p.2.length = 512 := fun p hp => (h.good.l512 p hp).1
  obtain ⟨kv, nv, lv, tv, k, n, L, T, hF, H0⟩ := h.held
  have hb : Blk w d [kv, nv, lv, tv, .bool D.dead, pwv pw] := H0.blkAt 0 rfl
  have hl := (H0.ownAt 3 rfl : Xr.Own w 513 lv D.loose.length (wlc D.loose) L).rd
  have hc := hb.cell
  clear h H0 hF hb
  obtain ⟨la, lc, rfl⟩ := hl.isSlice
  obtain ⟨i3, hi3, hz3, hs3, hb3⟩ := inf3
  have Hi3 := hid hi3
  have Hz3 := hid hz3
  have Hs3 := hid hs3
  have Hb3 := hid hb3
  clear hi3 hz3 hs3 hb3
  obtain ⟨i77, z77, hi77, hz77, hs77, hb77, hzc77⟩ := inf77
  have Hi := hid hi77
  have Hz := hid hz77
  have Hs := hid hs77
  have Hzc := hid hzc77
  have Hl512 := hid hl512
  clear hi77 hz77 hs77 hb77 hzc77 hl512
  go_enter Try.func13, Try.ntmps13
  go_wp2_with fail
  go_loopw [3, 13] (fun l i wr => ∃ (m : Nat) (B : Option Nat), m ≤ D.loose.length ∧ i = .int .i64 m ∧ Xr.Own wr 1 l m ((looseIx D).take m) B ∧ Fr [] w wr ∧ ∀ b, B = some b → w.heap.size ≤ b) (fun _ i _ => D.loose.length - (intOf i).toNat)
  case atStart => exact ⟨0, none, Nat.zero_le _, rfl, Xr.Own.nil _ _, Fr.refl _ _, by simp⟩
  case round =>
    obtain ⟨m, B, hm, rfl, ho, f, hB⟩ := hrel
    by_cases hlt : m < D.loose.length
    · obtain ⟨b, off, cap, cs, hB2, hv, hcap, hcm, hbb, hlen, hcs⟩ := (hl.keep f (by simp)).some (by omega)
      obtain ⟨rfl, rfl⟩ : la = some ⟨b, off, none⟩ ∧ lc = cap := by simpa using hv
      have h512 := hid (Hl512.out _ (List.getElem_mem hlt))
      have H77 := hid (show (Try.prog.info? 77).map (·.size) = some (Value.int .i64 (D.loose[m].1 : Int) :: bv D.loose[m].2).length by rw [List.length_cons, bv_length, h512.out, Hi.out]; exact congrArg some Hs.out)
      have HV := hid (show (cs.drop (off + m * 513)).take (Value.int .i64 (D.loose[m].1 : Int) :: bv D.loose[m].2).length = Value.int .i64 (D.loose[m].1 : Int) :: bv D.loose[m].2 by
        rw [List.length_cons, bv_length, h512.out, ← List.drop_drop, take_drop_of (cs.drop off) _ (D.loose.length * 513) (m * 513) 513 hcs (by omega)]
        exact wlc_drop D.loose m hlt Hl512.out)
      have Hsnoc := hid (show (looseIx D).take (m + 1) = (looseIx D).take m ++ [Value.int .i64 (D.loose[m].1 : Int)] by
        rw [List.take_succ_eq_append_getElem (by simpa [looseIx] using hlt)]
        simp [looseIx])
      have hone : ∀ u ∈ Value.int .i64 (D.loose[m].1 : Int) :: bv D.loose[m].2, u.oneCell' = true := by
        intro u hu
        rcases List.mem_cons.1 hu with rfl | hu
        · rfl
        · exact bv_one _ u hu
      have hof := ho
      clear hcs hlen hl hv
      go_wp2_with (first
        | (refine wpList_load_agg rfl _ _ rfl rfl (Value.int .i64 (D.loose[m].1 : Int) :: bv D.loose[m].2) hbb _ Try.underlying77 rfl H77.out HV.out ?_; simp only [World.size_alloc, World.size_drew, Act.put, List.setIfInBounds_toArray, List.set_cons_succ, List.set_cons_zero])
        | (refine wpList_alloc_agg rfl _ rfl _ _ _ Hi.out Hz.out Hzc.out ?_; intro zs hzl hze hbz; have Hzl := hid hzl; clear hzl hze; (try simp only [World.size_alloc, World.size_drew, Act.put, List.setIfInBounds_toArray, List.set_cons_succ, List.set_cons_zero]); refine wpList_store_agg rfl _ _ _ rfl rfl (Value.int .i64 (D.loose[m].1 : Int) :: bv D.loose[m].2) rfl hbz H77.out (by rw [List.length_cons, bv_length, h512.out, Hzl.out]; exact Nat.le_refl _) hone ?_; intro w3 f3 hb3 hs3; rw [splice_all _ _ (by rw [Hzl.out, List.length_cons, bv_length, h512.out])] at hb3; have hc3 := hb3.cell; have g3 : Fr [] wr w3 := ((Fr.refl [] wr).alloc _).trans f3 (by simp); clear f3 hbz hs3; (try simp only [World.size_alloc, World.size_drew, Act.put, List.setIfInBounds_toArray, List.set_cons_succ, List.set_cons_zero]))
        | (refine wpList_append rfl _ _ _ rfl 3 _ _ 1 8 Try.underlying37 Hi3.out Hz3.out Hs3.out Hb3.out rfl (by decide) rfl (ho.keep (g3.alloc _) (by simp)) _ 1 1 [.int .i64 (D.loose[m].1 : Int)] rfl rfl ((Blk.alloc w3 [.int .i64 (D.loose[m].1 : Int)] _).cells rfl) (by simp [Value.oneCell']) (by unfold maxLen; omega) (by omega) ?_; intro v' w4 B' ho4 f4 hB'; simp only [World.size_alloc, World.size_drew, Act.put, List.setIfInBounds_toArray, List.set_cons_succ, List.set_cons_zero]))
      go_roundw
      case rel =>
        refine ⟨m + 1, B', by omega, by go_num, by rw [Hsnoc.out]; exact ho4, ((f.trans' g3).alloc _).trans f4 (fun x hx => .inr (hB x (by simpa using hx))), ?_⟩
        intro x hx
        rcases hB' with rfl | ⟨y, rfl, hy⟩
        · exact hB x hx
        · cases hx
          have := f.size
          have := g3.size
          simp at hy
          omega
      case measure => simp [intOf]; omega
    · obtain rfl : m = D.loose.length := by omega
      have e : (looseIx D).take D.loose.length = looseIx D := List.take_of_length_le (by simp [looseIx])
      rw [e] at ho
      go_wp2_with fail
      refine (clip_any ho).mono ?_
      rintro e w' ⟨⟨v', rfl, hv⟩, rfl⟩
      go_wp2_with fail
      go_ret
      exact ⟨v', B, rfl, hv, f, hB⟩
end Go.Proofs.Ytflapddkeeiieaa
