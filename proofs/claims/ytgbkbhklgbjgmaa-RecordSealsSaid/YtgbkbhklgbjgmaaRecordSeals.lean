/- Layer 21: RecordSeals, the walk. -/
import Derived.Test.YtgbkbhklgbjgmaaRecO
namespace Go.Proofs.Ytgbkbhklgbjgmaa.rcd
open Go Go.Xr Go.RowKit
set_option linter.unusedVariables false
set_option linter.unusedSimpArgs false
attribute [local go_sem] eqgA eqgB eql_u64 eql_u64_c neq_u64 neq_u64_c add_u64_c
set_option maxRecDepth 20000 in
set_option maxHeartbeats 4000000 in
theorem seals_walk {w : World} {v : Value} {l : List ByteArray} {LB : Option Nat} (c m label : ByteArray) (num : Int) (hn1 : -9223372036854775808 ≤ num) (hn2 : num ≤ 9223372036854775807) (hc1 : c.size ≤ 9223372036854775807) (hm1 : m.size ≤ 9223372036854775807) (hlb : label.size ≤ 140737488351232) (hl : Rc w 1 v l.length (l.map .string) LB) (ho : ∀ s ∈ l, s.size ≤ 140737488351232) (hlm : l.length ≤ 9223372036854775807) :
    Calls Try.prog 3 #[.agg #[.string c, .string m], .string label, v, .int .i64 num] w fun e w' => e = .returned (.bool true) ∧ Fr [] w w' := by
  obtain ⟨la, lc, rfl⟩ := hl.isSlice
  have Hl := hid hl
  have Ho := hid ho
  have Hv := hid fun (w0 : World) (f : Fr [] w w0) => heavy_any (w := w0) (hl.keep f (by simp)) ho hlm
  obtain ⟨HV, hHV⟩ : ∃ HV, heavyS l = HV := ⟨_, rfl⟩
  rw [hHV] at Hv
  have Hcl := hid fun w0 : World => class_any (w := w0) num hn1 hn2
  have Hrc := hid fun w0 : World => rclass_any (w := w0) num hn1 hn2
  obtain ⟨CL, hCL⟩ : ∃ CL, clsI num = CL := ⟨_, rfl⟩
  rw [hCL] at Hcl Hrc
  have Hmay := hid fun w0 : World => rmay_any (w := w0) c m hc1 hm1
  obtain ⟨n, hn⟩ : ∃ n, l.length = n := ⟨_, rfl⟩
  have Hn := hid hn
  rw [hn] at hlm ⊢
  have Hv2 : Hid (∀ w0 : World, Fr [] w w0 → Calls Try.prog 8 #[.slice la n lc] w0 fun e w' => e = .returned (.bool HV) ∧ Fr [] w0 w') := hid fun w0 f => by rw [← hn]; exact Hv.out w0 f
  clear hl ho hn hHV hCL hn1 hn2 Hv
  go_enter Try.func3, Try.ntmps3
  go_wp2_with (refine wpList_box rfl _ _ rfl [.string c, .string m] rfl ?_; intro w1 f1 hlt1 hb1; simp only [World.size_alloc, World.size_drew, Act.put, List.setIfInBounds_toArray, List.set_cons_succ, List.set_cons_zero])
  refine (Hv2.out _ f1).mono ?_
  rintro e w2 ⟨rfl, f2⟩
  have g2 := f1.trans' f2
  have hb2 := f2.blk hb1 (by simp)
  clear f1 f2 hb1
  cases HV
  case true =>
    go_wp2_with fail
    refine (Hcl.out _).mono ?_
    rintro e w3 ⟨rfl, f3⟩
    go_wp2_with fail
    refine (Hrc.out _).mono ?_
    rintro e w4 ⟨rfl, f4⟩
    go_wp2_with fail
    refine works_any.mono ?_
    rintro e w5 ⟨rfl, f5⟩
    go_wp2_with fail
    go_ret
    exact ⟨rfl, ((g2.trans' f3).trans' f4).trans' f5⟩
  case false =>
    by_cases hlb2 : 1024 < label.size
    case pos =>
      have hd1 : decide (1024 < (label.size : Int)) = true := by simp; omega
      go_wp2_with fail
      refine (Hcl.out _).mono ?_
      rintro e w3 ⟨rfl, f3⟩
      go_wp2_with fail
      refine (Hrc.out _).mono ?_
      rintro e w4 ⟨rfl, f4⟩
      go_wp2_with fail
      refine works_any.mono ?_
      rintro e w5 ⟨rfl, f5⟩
      go_wp2_with fail
      go_ret
      exact ⟨rfl, ((g2.trans' f3).trans' f4).trans' f5⟩
    case neg =>
      have hd1 : decide (1024 < (label.size : Int)) = false := by simp; omega
      have k20 := hb2.cell 0
      have k21 := hb2.cell 1
      cases hd2 : decide (1024 < wrap64 ((c.size : Int) + (m.size : Int)))
      case true =>
        go_wp2_with fail
        refine (Hcl.out _).mono ?_
        rintro e w3 ⟨rfl, f3⟩
        go_wp2_with fail
        refine (Hrc.out _).mono ?_
        rintro e w4 ⟨rfl, f4⟩
        go_wp2_with fail
        refine works_any.mono ?_
        rintro e w5 ⟨rfl, f5⟩
        go_wp2_with fail
        go_ret
        exact ⟨rfl, ((g2.trans' f3).trans' f4).trans' f5⟩
      case false =>
        go_wp2_with fail
        refine (Hcl.out _).mono ?_
        rintro e w3 ⟨rfl, f3⟩
        go_wp2_with fail
        refine (Hrc.out _).mono ?_
        rintro e w4 ⟨rfl, f4⟩
        have g4 := (g2.trans' f3).trans' f4
        have hb4 := f4.blk (f3.blk hb2 (by simp)) (by simp)
        have k40 := hb4.cell 0
        have k41 := hb4.cell 1
        clear k20 k21 hb2 g2 f3 f4
        cases hk : mayS c m
        case false =>
          have HBs := hid fun w0 : World => newS_bad (w := w0) c m label hc1 hm1 hk
          have HBo := hid fun w0 : World => newO_bad (w := w0) c m label hc1 hm1 hk
          rw [hk] at Hmay
          clear hk
          go_wp2_with fail
          refine (HBs.out _).mono ?_
          rintro e w5 ⟨rfl, f5⟩
          have hb5 := f5.blk hb4 (by simp)
          have k50 := hb5.cell 0
          have k51 := hb5.cell 1
          have g5 := g4.trans' f5
          clear k40 k41 hb4 g4 f5
          go_wp2_with fail
          refine (HBo.out _).mono ?_
          rintro e w6 ⟨rfl, f6⟩
          have hb6 := f6.blk hb5 (by simp)
          have k60 := hb6.cell 0
          have k61 := hb6.cell 1
          have g6 := g5.trans' f6
          clear k50 k51 hb5 g5 f6
          go_wp2_with fail
          refine (Hmay.out _).mono ?_
          rintro e w7 ⟨rfl, f7⟩
          go_wp2_with fail
          refine works_any.mono ?_
          rintro e w8 ⟨rfl, f8⟩
          go_wp2_with fail
          go_ret
          exact ⟨rfl, (g6.trans' f7).trans' f8⟩
        case true =>
          have HBs := hid fun w0 : World => newS_any (w := w0) c m label hc1 hm1 hk
          have HBo := hid fun w0 : World => newO_any (w := w0) c m label hc1 hm1 hk
          rw [hk] at Hmay
          go_wp2_with fail
          refine (HBs.out _).mono ?_
          rintro e w5 ⟨p, rfl, hp5, hle5, f5⟩
          have hb5 := f5.blk hb4 (by simp)
          have k50 := hb5.cell 0
          have k51 := hb5.cell 1
          have g5 := g4.trans' f5
          have Hwp := hid (show w.heap.size ≤ p from Nat.le_trans g4.size hle5)
          have Hkp := hid (show w.heap.size ∉ [p] by have := hb4.lt; simp; omega)
          clear k40 k41 hb4 g4 f5 hle5
          go_wp2_with fail
          refine (HBo.out _).mono ?_
          rintro e w6 ⟨q, rfl, hq6, hle6, f6⟩
          have hb6 := f6.blk hb5 (by simp)
          have k60 := hb6.cell 0
          have k61 := hb6.cell 1
          have hp6 := f6.blk hp5 (by simp)
          have g6 := g5.trans' f6
          clear k50 k51 hb5 g5 f6 hp5 hle6 hq6
          go_wp2_with fail
          refine (Hmay.out _).mono ?_
          rintro e w7 ⟨rfl, f7⟩
          have hb7 := f7.blk hb6 (by simp)
          have hp7 := f7.blk hp6 (by simp)
          have g7 := g6.trans' f7
          clear k60 k61 hb6 hp6 g6 f7
          go_wp2_with fail
          go_loopw [14, 15] (fun mv iv wr => ∃ (i : Nat) (nx : UInt64), i ≤ n ∧ iv = .int .i64 i ∧ mv = W64 nx ∧ Blk wr p (slL c m label nx) ∧ Blk wr w.heap.size [.string c, .string m] ∧ Fr [] w wr) (fun _ iv _ => n - (intOf iv).toNat)
          case atStart => exact ⟨0, 0, by omega, rfl, rfl, hp7, hb7, g7⟩
          case round =>
            obtain ⟨i, nx, hi, rfl, rfl, bp, bk, f⟩ := hrel
            clear hp7 hb7 g7
            by_cases hli : i < n
            case neg =>
              have h1 : decide (i < n) = false := by simp; omega
              go_wp2_with fail
              refine works_any.mono ?_
              rintro e w8 ⟨rfl, f8⟩
              go_wp2_with fail
              go_ret
              exact ⟨rfl, f.trans' f8⟩
            case pos =>
              have h1 : decide (i < n) = true := by simp; omega
              obtain ⟨lb, off, rfl, hlbw, hcell⟩ := rc_str (wr := wr) Hl.out f i (by rw [Hn.out]; exact hli)
              obtain ⟨S, hS⟩ : ∃ S, l[i]'(by rw [Hn.out]; exact hli) = S := ⟨_, rfl⟩
              have hSo : S.size ≤ 140737488351232 := by rw [← hS]; exact Ho.out _ (List.getElem_mem _)
              rw [hS] at hcell
              have HlS := hid (show lb ∉ [p] by have := Hwp.out; simp; omega)
              clear hS
              by_cases hbig : 8192 < S.size
              case pos =>
                have hd3 : decide (8192 < (S.size : Int)) = true := by simp; omega
                have HL := hid (sseal_long S bp hbig (by omega))
                go_wp2_with fail
                refine HL.out.mono ?_
                rintro e w' ⟨rfl, rfl⟩
                go_wp2_with fail
                go_roundw
                case rel => exact ⟨i + 1, nx, by omega, by go_num, rfl, bp, bk, f⟩
                case measure => simp [intOf]; omega
              case neg =>
                have hd3 : decide (8192 < (S.size : Int)) = false := by simp; omega
                have hS8 : S.size ≤ 8192 := by omega
                have hlb3 : label.size < 1099500000000 := by omega
                have HA := hid (sseal_any S bp hk hS8 hlb3)
                have HB := hid fun w0 : World => rrec_any (w := w0) c m label S nx hk hS8 hlb3
                obtain ⟨R, hR⟩ : ∃ R, recS c m label nx S = R := ⟨_, rfl⟩
                rw [hR] at HA HB
                have hlbw2 : lb < wr.heap.size := by have := f.size; omega
                clear hR hbig
                go_wp2_with fail
                refine HA.out.mono ?_
                rintro e w8 ⟨rfl, bp8, f8⟩
                have bk8 := f8.blk bk Hkp.out
                have g8 := f.trans f8 (by have := Hwp.out; simp; omega)
                have hc8 : w8.cell? ⟨lb, off + i, none⟩ = some (.string S) := (World.cell?_of_block (w := wr) (f8.block lb hlbw2 HlS.out)).trans hcell
                clear bp bk f f8 hcell HA
                go_wp2_with fail
                have hB := bk8.drew
                have hc9 : w8.drew.cell? ⟨lb, off + i, none⟩ = some (.string S) := hc8
                refine wp_region_D (fun _ => True) false [] (by kernel_rfl) ?_
                refine WD.pure [0, 1, 2, 4, 5, 6, 7, 8, 9, 10] (by kernel_rfl) trivial ?_
                simp only [pick, List.toList_toArray, List.map_cons, List.map_nil, List.getD_cons_succ, List.getD_cons_zero]
                repeat (first | (refine quiet_load_aggW (by rfl) _ _ rfl rfl [.string c, .string m] (fun _ h => by cases h; exact hB) _ Try.underlying23 rfl keyT2 rfl ?_; simp only [World.size_alloc, World.size_drew, Act.put, List.setIfInBounds_toArray, List.set_cons_succ, List.set_cons_zero]) | go_big_quiet_step (fail))
                refine wpQuiet_nil ?_
                refine WD.free [3] (by kernel_rfl) trivial ?_
                simp only [pick, List.toList_toArray, List.map_cons, List.map_nil, List.getD_cons_succ, List.getD_cons_zero]
                repeat (first | (refine quiet_load_aggW (by rfl) _ _ rfl rfl [.string c, .string m] (fun _ h => by cases h; exact hB) _ Try.underlying23 rfl keyT2 rfl ?_; simp only [World.size_alloc, World.size_drew, Act.put, List.setIfInBounds_toArray, List.set_cons_succ, List.set_cons_zero]) | go_big_quiet_step (fail))
                refine wpQuiet_nil ?_
                refine WD.eff 11 (by kernel_rfl) ?_
                simp only [pick, List.toList_toArray, List.map_cons, List.map_nil, List.getD_cons_succ, List.getD_cons_zero]
                go_wp2_with fail
                refine (HB.out _).mono ?_
                rintro e w9 ⟨rfl, f9⟩
                go_wp2_with fail
                try refine wpList_nil ?_
                refine AfterD.on trivial (by kernel_rfl) ?_
                try simp only [World.size_alloc, World.size_drew, Act.put, List.setIfInBounds_toArray, List.set_cons_succ, List.set_cons_zero]
                refine WD.pure [12, 13] (by kernel_rfl) trivial ?_
                simp only [pick, List.toList_toArray, List.map_cons, List.map_nil, List.getD_cons_succ, List.getD_cons_zero]
                repeat (first | (refine quiet_load_aggW (by rfl) _ _ rfl rfl [.string c, .string m] (fun _ h => by cases h; exact hB) _ Try.underlying23 rfl keyT2 rfl ?_; simp only [World.size_alloc, World.size_drew, Act.put, List.setIfInBounds_toArray, List.set_cons_succ, List.set_cons_zero]) | go_big_quiet_step (fail))
                refine wpQuiet_nil ?_
                refine WD.done (by kernel_rfl) ?_
                have bk9 := f9.blk hB (by simp)
                have bp9 := f9.blk bp8.drew (by simp)
                have g9 := (g8.drew).trans' f9
                clear f9 hB bk8 bp8 hc8 hc9 g8
                go_wp2_with fail
                refine (scount_any bp9).mono ?_
                rintro e w' ⟨rfl, rfl⟩
                rw [c64_1]
                go_wp2_with fail
                go_roundw
                case rel => exact ⟨i + 1, nx + 1, by omega, by go_num, rfl, bp9, bk9, g9⟩
                case measure => simp [intOf]; omega
theorem i64_of {n : Int} (h : (Lit.int .i64 n).wf = true) : -9223372036854775808 ≤ n ∧ n ≤ 9223372036854775807 := by
  have h1 : IntKind.i64.min ≤ n ∧ n ≤ IntKind.i64.max := by simpa [Lit.wf] using h
  have h2 : IntKind.i64.min = -9223372036854775808 := by decide
  have h3 : IntKind.i64.max = 9223372036854775807 := by decide
  omega
end Go.Proofs.Ytgbkbhklgbjgmaa.rcd
