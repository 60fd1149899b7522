/- Layer 1: ShaPieces, the walk. -/
import Derived.Test.YtkohnmlnpbkphaaShaI
namespace Go.Proofs.Ytkohnmlnpbkphaa
open Go Go.Xr Go.RowKit
set_option linter.unusedVariables false
set_option linter.unusedSimpArgs false

theorem len_any {w : World} {hb tp : Nat} {bs : List UInt8} (h : HR w hb tp bs) : Calls Try.prog 24 #[.pointer (some ⟨hb, 0, none⟩)] w fun e w' => e = .returned (.int .u64 bs.length) ∧ w = w' := by
  obtain ⟨v, p, hH, hI⟩ := h.mem
  have hc : w.cell? ⟨hb, 73, none⟩ = some (.int .u64 bs.length) := by rw [hH.cell]; exact hcs_n tp v p _ hI.v8 hI.pl
  clear h hH hI
  go_enter Try.func24, Try.ntmps24
  go_wp2
  go_ret
  exact ⟨rfl, rfl⟩

set_option maxRecDepth 20000 in
theorem copy_any {w : World} {hb tp : Nat} {bs : List UInt8} (h : HR w hb tp bs) : Calls Try.prog 23 #[.pointer (some ⟨hb, 0, none⟩)] w fun e w' => e = .returned (.pointer (some ⟨w.heap.size, 0, none⟩)) ∧ HR w' w.heap.size tp bs ∧ Fr [] w w' := by
  obtain ⟨i, hi, hz, hs⟩ := inf67
  have Hi := hid hi
  have Hz := hid hz
  have Hs := hid hs
  clear hi hz hs
  obtain ⟨v, p, hH, hI⟩ := h.mem
  have hT := h.tab
  have HI := hid hI
  have hc0 := hH.cell 0
  rw [show (hcs tp v p bs.length)[0]? = some (.pointer (some ⟨tp, 0, none⟩)) from rfl] at hc0
  have HS := hid (show (Try.prog.info? 67).map (·.size) = some (hcs tp v p bs.length).length by rw [hcs_length tp v p _ hI.v8 hI.pl, Hi.out]; exact congrArg some Hs.out)
  clear h hI
  go_enter Try.func23, Try.ntmps23
  go_wp2_with (first
    | (refine wpList_load_agg rfl _ _ rfl rfl (hcs tp v p bs.length) hH _ Try.underlying67 rfl HS.out (hcs_load _ _ _ _) ?_; simp only [World.size_alloc, World.size_drew, Act.put, List.setIfInBounds_toArray, List.set_cons_succ, List.set_cons_zero])
    | (refine wpList_alloc_agg rfl _ rfl _ _ 74 Hi.out Hz.out rfl ?_; intro zs hzl hze hbz; have Hzl := hid hzl; clear hzl hze; simp only [World.size_alloc, World.size_drew, Act.put, List.setIfInBounds_toArray, List.set_cons_succ, List.set_cons_zero])
    | (refine wpList_store_agg rfl _ _ _ rfl rfl (hcs tp v p bs.length) rfl hbz HS.out (by rw [Hzl.out, hcs_length tp v p _ HI.out.v8 HI.out.pl]; exact Nat.le_refl _) (hcs_one _ _ _ _) ?_; intro w2 f2 hb2 hs2; rw [splice_all _ _ (by rw [Hzl.out, hcs_length tp v p _ HI.out.v8 HI.out.pl])] at hb2; have g2 : Fr [] w w2 := ((Fr.refl [] w).alloc _).trans f2 (by simp); (try simp only [World.size_alloc, World.size_drew, Act.put, List.setIfInBounds_toArray, List.set_cons_succ, List.set_cons_zero])))
  go_ret
  exact ⟨rfl, ⟨⟨v, p, hb2, HI.out⟩, g2.blk hT (by simp)⟩, g2⟩

theorem sum_str {w : World} {hb tp : Nat} {A : ByteArray} (h : HR w hb tp A.data.toList) (hn : A.size < 1099511627776) : Calls Try.prog 22 #[.pointer (some ⟨hb, 0, none⟩)] w fun e w' => e = .returned (.string (shaS A)) ∧ Fr [] w w' :=
  sum_any h (by rw [bytes_len]; exact hn)
theorem add_str {w : World} {hb tp : Nat} {A : ByteArray} (h : HR w hb tp A.data.toList) (s : ByteArray) (hs : A.size + s.size < 1152921504606846976) : Calls Try.prog 21 #[.pointer (some ⟨hb, 0, none⟩), .string s] w fun e w' => e = .returned (.int .i64 0) ∧ HR w' hb tp (A ++ s).data.toList ∧ Fr [hb] w w' := by
  have e : (A ++ s).data.toList = A.data.toList ++ s.data.toList := by simp
  rw [e]
  exact add_any h s (by rw [bytes_len]; exact hs)
theorem len_str {w : World} {hb tp : Nat} {A : ByteArray} (h : HR w hb tp A.data.toList) : Calls Try.prog 24 #[.pointer (some ⟨hb, 0, none⟩)] w fun e w' => e = .returned (.int .u64 A.size) ∧ w = w' := by
  have := len_any h
  rw [bytes_len] at this
  exact this

set_option maxHeartbeats 1000000 in
set_option maxRecDepth 20000 in
theorem pieces_walk {w : World} {v : Value} {l : List ByteArray} {LB : Option Nat} (hl : Rc w 1 v l.length (l.map .string) LB) (hlo : ∀ s ∈ l, s.size ≤ maxLen) (hlm : l.length ≤ maxLen) (more : ByteArray) (hm : more.size ≤ maxLen) :
    Calls Try.prog 6 #[v, .string more] w fun e w' => e = .returned (.bool true) ∧ Fr [] w w' := by
  unfold maxLen at hlm hm
  have Hlo := hid hlo
  clear hlo
  obtain ⟨la, lc, rfl⟩ := hl.isSlice
  by_cases hb : more.size ≤ 4096
  · go_enter Try.func6, Try.ntmps6
    go_wp2_with fail
    refine new_any.mono ?_
    rintro e w1 ⟨hb, rfl, hr1, hlt, f1⟩
    have hr1' : HR w1 hb w.heap.size (⟨#[]⟩ : ByteArray).data.toList := hr1
    clear hr1
    go_wp2_with fail
    go_loopw [6, 7] (fun sv iv wr => ∃ (i : Nat) (A : ByteArray), i ≤ 40 ∧ iv = .int .i64 i ∧ sv = .string A ∧ A.size ≤ 500 * i ∧ HR wr hb w.heap.size A.data.toList ∧ Fr [] w wr) (fun _ iv _ => 40 - (intOf iv).toNat)
    case atStart => exact ⟨0, _, by omega, rfl, rfl, by decide, hr1', f1⟩
    case round =>
      obtain ⟨i, A, hi, rfl, rfl, hA, hr, f⟩ := hrel
      clear hr1' f1
      have Hr := hid hr
      clear hr
      by_cases hc : i < l.length ∧ i < 40
      · obtain ⟨hc1, hc2⟩ := hc
        have hd1 : decide (i < l.length) = true := by simp; omega
        have hd2 : decide ((i : Int) < 40) = true := by simp; omega
        obtain ⟨lb, off, lc', hLB, hv, h1, h2, h3, h4⟩ := hl.some (by omega)
        obtain ⟨rfl, rfl⟩ : la = some ⟨lb, off, none⟩ ∧ lc = lc' := by simpa using hv
        obtain ⟨s, hs⟩ : ∃ s, l[i] = s := ⟨_, rfl⟩
        have hcell : wr.cell? ⟨lb, off + i, none⟩ = some (.string s) := by
          rw [f.cell_old (a := ⟨lb, off + i, none⟩) h3, h4 i (by simpa using hc1), List.getElem?_map, List.getElem?_eq_getElem hc1, hs]
          rfl
        have hsm : s.size ≤ 9223372036854775807 := by
          have := Hlo.out l[i] (List.getElem_mem hc1)
          rw [hs] at this
          unfold maxLen at this
          exact this
        clear hv h4 hs hd2
        have hd3 : decide ((i : Int) < 40) = true := by simp; omega
        by_cases hs5 : s.size ≤ 500
        · have hsz : (A ++ s).size = A.size + s.size := by simp
          have Hsz := hid hsz
          clear hsz
          by_cases h7 : i % 7 = 0
          · have hd7 : ((i : Int) % 7 == 0) = true := by simp; omega
            go_wp2_with fail
            refine (add_str Hr.out s (by omega)).mono ?_
            rintro e w2 ⟨rfl, hr2, f2⟩
            have g2 : Fr [] w w2 := f.trans f2 (fun x hx => .inr (by simp at hx; omega))
            have hcell2 : w2.cell? ⟨lb, off + i, none⟩ = some (.string s) := by
              rw [World.cell?_of_block (w := wr) (f2.block lb (by have := f.size; omega) (by simp; omega))]
              exact hcell
            go_wp2_with fail
            refine (sum_str hr2 (by rw [Hsz.out]; omega)).mono ?_
            rintro e w3 ⟨rfl, f3⟩
            go_wp2_with fail
            refine (rof_any (A ++ s) (by rw [Hsz.out]; omega)).mono ?_
            rintro e w4 ⟨rfl, f4⟩
            go_wp2_with fail
            go_roundw
            case rel => exact ⟨i + 1, A ++ s, by omega, by go_num, rfl, by rw [Hsz.out]; omega, (hr2.keep f3 (by simp) (by simp)).keep f4 (by simp) (by simp), (g2.trans' f3).trans' f4⟩
            case measure => simp [intOf]; omega
          · have hd7 : ((i : Int) % 7 == 0) = false := by simp; omega
            go_wp2_with fail
            refine (add_str Hr.out s (by omega)).mono ?_
            rintro e w2 ⟨rfl, hr2, f2⟩
            have g2 : Fr [] w w2 := f.trans f2 (fun x hx => .inr (by simp at hx; omega))
            have hcell2 : w2.cell? ⟨lb, off + i, none⟩ = some (.string s) := by
              rw [World.cell?_of_block (w := wr) (f2.block lb (by have := f.size; omega) (by simp; omega))]
              exact hcell
            go_wp2_with fail
            go_roundw
            case rel => exact ⟨i + 1, A ++ s, by omega, by go_num, rfl, by rw [Hsz.out]; omega, hr2, g2⟩
            case measure => simp [intOf]; omega
        · have hd5 : ¬ (s.size : Int) ≤ 500 := by omega
          go_wp2_with fail
          go_roundw
          case rel => exact ⟨i + 1, A, by omega, by go_num, rfl, by omega, Hr.out, f⟩
          case measure => simp [intOf]; omega
      · have hsz : (A ++ more).size = A.size + more.size := by simp
        have Hsz := hid hsz
        have hds : decide (i < l.length) = false ∨ (decide (i < l.length) = true ∧ decide ((i : Int) < 40) = false) := by
          by_cases h1 : i < l.length
          · exact .inr ⟨by simpa using h1, by simp; omega⟩
          · exact .inl (by simpa using h1)
        clear hc
        rcases hds with hd1 | ⟨hd1, hd2⟩
        all_goals
          go_wp2_with fail
          refine (copy_any Hr.out).mono ?_
          rintro e w2 ⟨rfl, hr2, f2⟩
          have hk1 := Hr.out.keep f2 (by simp) (by simp)
          have hCl : wr.heap.size < w2.heap.size := by obtain ⟨_, _, hh, _⟩ := hr2.mem; exact hh.lt
          have hhl : hb < wr.heap.size := by obtain ⟨_, _, hh, _⟩ := Hr.out.mem; exact hh.lt
          have htl : w.heap.size < wr.heap.size := Hr.out.tab.lt
          have g2 := f.trans' f2
          have Hk1 := hid hk1
          have Hr2 := hid hr2
          clear hk1 hr2
          go_wp2_with fail
          refine (add_str Hr2.out more (by omega)).mono ?_
          rintro e w3 ⟨rfl, hr3, f3⟩
          have g3 : Fr [] w w3 := g2.trans f3 (fun x hx => .inr (by have := f.size; simp at hx; omega))
          have Hk3 := hid (Hk1.out.keep f3 (by simp; omega) (by simp; omega))
          have Hr3 := hid hr3
          clear hr3 f3 f2 g2 hCl
          go_wp2_with fail
          refine (sum_str Hr3.out (by rw [Hsz.out]; omega)).mono ?_
          rintro e w4 ⟨rfl, f4⟩
          go_wp2_with fail
          refine (rof_any (A ++ more) (by rw [Hsz.out]; omega)).mono ?_
          rintro e w5 ⟨rfl, f5⟩
          have Hr5 := hid ((Hr3.out.keep f4 (by simp) (by simp)).keep f5 (by simp) (by simp))
          have Hk5 := hid ((Hk3.out.keep f4 (by simp) (by simp)).keep f5 (by simp) (by simp))
          have hL := len_str Hr5.out
          rw [Hsz.out] at hL
          have HL := hid hL
          clear hL
          go_wp2_with fail
          refine HL.out.mono ?_
          rintro e w' ⟨rfl, rfl⟩
          go_wp2_with fail
          refine (sum_str Hk5.out (by omega)).mono ?_
          rintro e w6 ⟨rfl, f6⟩
          go_wp2_with fail
          refine (rof_any A (by omega)).mono ?_
          rintro e w7 ⟨rfl, f7⟩
          have hL2 := len_str ((Hk5.out.keep f6 (by simp) (by simp)).keep f7 (by simp) (by simp))
          go_wp2_with fail
          refine hL2.mono ?_
          rintro e w' ⟨rfl, rfl⟩
          go_wp2_with fail
          refine alive_any.mono ?_
          rintro e w8 ⟨rfl, f8⟩
          go_wp2_with fail
          go_ret
          exact ⟨rfl, ((((g3.trans' f4).trans' f5).trans' f6).trans' f7).trans' f8⟩
  · have hd1 : decide ((more.size : Int) > 4096) = true := by simp; omega
    go_enter Try.func6, Try.ntmps6
    go_wp2_with fail
    refine new_any.mono ?_
    rintro e w1 ⟨hb, rfl, hr1, hlt, f1⟩
    go_wp2_with fail
    refine alive_any.mono ?_
    rintro e w8 ⟨rfl, f8⟩
    go_wp2_with fail
    go_ret
    exact ⟨rfl, f1.trans' f8⟩
end Go.Proofs.Ytkohnmlnpbkphaa
