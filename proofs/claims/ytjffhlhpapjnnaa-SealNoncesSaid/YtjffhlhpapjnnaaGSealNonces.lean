/- Layer 4: SealNonces, the walk. -/
import Derived.Test.YtjffhlhpapjnnaaGSealN
import Derived.Test.YtjffhlhpapjnnaaGCore
namespace Go.Proofs.Ytjffhlhpapjnnaa
open Go Go.Xr Go.RowKit Go.Proofs.Ytjffhlhpapjnnaa.aes
set_option linter.unusedVariables false
set_option linter.unusedSimpArgs false
theorem eqg2_u64 (op : BinOp) (t : TypeId) (x y : Operand) (a b : UInt64) : eqGuard op t x y (W64 a) (W64 b) = pure () := by cases op <;> rfl
attribute [local go_sem] eqg2_u64 eqg_u64_c neq_u64 neq_u64_c eql_u64 eql_u64_c add_u64_c

set_option maxRecDepth 20000 in
set_option maxHeartbeats 4000000 in
theorem nonces_walk {w : World} {v : Value} {l : List ByteArray} {LB : Option Nat} (first : UInt64) (c m : ByteArray) (hc : c.size ≤ 9223372036854775807) (hm : m.size ≤ 9223372036854775807) (hl : Rc w 1 v l.length (l.map .string) LB) (ho : ∀ s ∈ l, s.size ≤ 140737488351232) (hlm : l.length ≤ 9223372036854775807) :
    Calls Try.prog 9 #[.int .u64 (first.toNat : Int), .agg #[.string c, .string m], v] w fun e w' => e = .returned (.bool true) ∧ Fr [] w w' := by
  rw [← val_u64]
  obtain ⟨la, lc, rfl⟩ := hl.isSlice
  have Hl := hid hl
  have Ho := hid ho
  obtain ⟨n, hn⟩ : ∃ n, l.length = n := ⟨_, rfl⟩
  have Hn := hid hn
  rw [hn] at hlm ⊢
  have Hmay := hid fun w0 : World => rmay_any (w := w0) c m hc hm
  clear hl ho hn
  go_enter Try.func9, Try.ntmps9
  go_wp2_with (refine wpList_box rfl _ _ rfl [.string c, .string m] rfl ?_; intro w1 f1 hlt1 hb1; simp only [World.size_alloc, World.size_drew, Act.put, List.setIfInBounds_toArray, List.set_cons_succ, List.set_cons_zero])
  refine (newn_any first).mono ?_
  rintro e w2 ⟨rfl, hp2, hlt2, f2⟩
  have hb2 := f2.blk hb1 (by simp)
  have g2 := f1.trans' f2
  obtain ⟨p, hp⟩ : ∃ p, w1.heap.size = p := ⟨_, rfl⟩
  have hwp : w.heap.size < p := by omega
  rw [hp] at hp2 hlt2 ⊢
  clear hb1 f1 f2 hlt1 hlt2 hp
  go_wp2_with fail
  go_loopw [8, 9, 10, 11] (fun nv lv uv iv wr => ∃ (i : Nat) (nx us : UInt64) (ov : Bool), i ≤ n ∧ iv = .int .i64 i ∧ nv = W64 nx ∧ lv = .bool (!ov) ∧ uv = W64 us ∧ Blk wr p (nnL nx us ov) ∧ Blk wr w.heap.size [.string c, .string m] ∧ Fr [] w wr) (fun _ _ _ iv _ => n - (intOf iv).toNat)
  case atStart => exact ⟨0, first, 0, false, by omega, rfl, rfl, rfl, rfl, hp2, hb2, g2⟩
  case round =>
    obtain ⟨i, nx, us, ov, hi, rfl, rfl, rfl, rfl, bp, bk, f⟩ := hrel
    clear hp2 hb2 g2
    by_cases hli : i < n ∧ i < 30
    case neg =>
      have hend : decide (i < n) = false ∨ (decide (i < n) = true ∧ decide (i < 30) = false ∧ decide ((i : Int) < 30) = false) := by
        by_cases h : i < n
        · exact .inr ⟨by simp; omega, by simp; omega, by simp; omega⟩
        · exact .inl (by simp; omega)
      rcases hend with h1 | ⟨h1, h2, h3⟩
      all_goals
        clear hli
        go_wp2_with fail
        refine alive_any.mono ?_
        rintro e w5 ⟨rfl, f5⟩
        go_wp2_with fail
        go_ret
        exact ⟨rfl, f.trans' f5⟩
    case pos =>
      have hd1 : decide (i < n) = true := by simp; omega
      have hd2 : decide ((i : Int) < 30) = true := by simp; omega
      have hd2' : decide (i < 30) = true := by simp; omega
      obtain ⟨lb, off, rfl, hlb, hcell⟩ := rc_str (wr := wr) Hl.out f i (by rw [Hn.out]; exact hli.1)
      obtain ⟨S, hS⟩ : ∃ S, l[i]'(by rw [Hn.out]; exact hli.1) = S := ⟨_, rfl⟩
      have hSo : S.size ≤ 140737488351232 := by rw [← hS]; exact Ho.out _ (List.getElem_mem _)
      rw [hS] at hcell
      clear hS
      by_cases hbig : 300 < S.size
      case pos =>
        have hd3 : decide (300 < (S.size : Int)) = true := by simp; omega
        go_wp2_with fail
        go_roundw
        case rel => exact ⟨i + 1, nx, us, ov, by omega, by go_num, rfl, rfl, rfl, bp, bk, f⟩
        case measure => simp [intOf]; omega
      case neg =>
        have hd3 : decide (300 < (S.size : Int)) = false := by simp; omega
        have Hmx := hid (show ((nx.toNat : Int) != 18446744073709551615) = !(decide (nx + 1 = 0)) by
          rw [bne, Bool.not_eq_eq_eq_not, Bool.not_not, Bool.eq_iff_iff]
          simp only [beq_iff_eq, decide_eq_true_eq, ← UInt64.toNat_inj]
          rw [show (0 : UInt64).toNat = 0 from rfl, UInt64.toNat_add, show (1 : UInt64).toNat = 1 from rfl]
          have := nx.toNat_lt
          omega)
        have hin : i < n := hli.1
        have hpl := bp.lt
        have HpS := hid (show ∀ x ∈ [p], x ∈ ([] : List Nat) ∨ w.heap.size ≤ x by simp; omega)
        have HkS := hid (show w.heap.size ∉ [p] by simp; omega)
        have HlS := hid (show lb ∉ [p] by simp; omega)
        clear hli hbig hi
        by_cases h3 : i % 3 = 0
        case pos =>
          have hm3 : ((i : Int) % 3 == 0) = true := by rw [beq_iff_eq]; omega
          cases ov
          case true =>
            go_wp2_with fail
            refine (next_over bp).mono ?_
            rintro e w' ⟨rfl, rfl⟩
            go_wp2_with fail
            refine (used_any bp).mono ?_
            rintro e w' ⟨rfl, rfl⟩
            go_wp2_with fail
            go_roundw
            case rel => exact ⟨i + 1, nx, us, true, by omega, by go_num, rfl, rfl, rfl, bp, bk, f⟩
            case measure => simp [intOf]; omega
          case false =>
            go_wp2_with fail
            refine (next_any bp).mono ?_
            rintro e w3 ⟨rfl, bp3, f3⟩
            have bk3 := f3.blk bk HkS.out
            have g3 := f.trans f3 HpS.out
            go_wp2_with fail
            refine (used_any bp3).mono ?_
            rintro e w' ⟨rfl, rfl⟩
            rw [c64_one]
            go_wp2_with fail
            rw [Hmx.out]
            go_roundw
            case rel => exact ⟨i + 1, nx + 1, us + 1, decide (nx + 1 = 0), by omega, by go_num, rfl, rfl, rfl, bp3, bk3, g3⟩
            case measure => simp [intOf]; omega
        case neg =>
          have hm3 : ((i : Int) % 3 == 0) = false := by rw [beq_eq_false_iff_ne]; omega
          have hB := bk.drew
          have hP : Blk wr.drew p (nnL nx us ov) := bp.drew
          have hcd : wr.drew.cell? ⟨lb, off + i, none⟩ = some (.string S) := hcell
          have gd := f.drew
          have hS1 : S.size ≤ 1048576 := by have := of_decide_eq_false hd3; omega
          have HS1 := hid hS1
          clear hS1
          cases hk : mayS c m
          case false =>
            have Hk := hid hk
            rw [hk] at Hmay
            go_wp2_with fail
            refine wp_region_D (fun _ => True) false [] (by kernel_rfl) ?_
            refine WD.pure [0, 1, 2, 3, 4, 5] (by kernel_rfl) trivial ?_
            simp only [pick, List.toList_toArray, List.map_cons, List.map_nil, List.getD_cons_succ, List.getD_cons_zero]
            repeat (first | (refine quiet_load_aggW (by rfl) _ _ rfl rfl [.string c, .string m] (fun _ h => by cases h; exact hB) _ Try.underlying23 rfl keyT rfl ?_; simp only [World.size_alloc, World.size_drew, Act.put, List.setIfInBounds_toArray, List.set_cons_succ, List.set_cons_zero]) | go_big_quiet_step (fail))
            refine wpQuiet_nil ?_
            refine WD.eff 6 (by kernel_rfl) ?_
            simp only [pick, List.toList_toArray, List.map_cons, List.map_nil, List.getD_cons_succ, List.getD_cons_zero]
            go_wp2_with fail
            refine (nseal_bad c m xN S hc hm hP Hk.out).mono ?_
            rintro e w4 ⟨rfl, f4⟩
            go_wp2_with fail
            try refine wpList_nil ?_
            refine AfterD.on trivial (by kernel_rfl) ?_
            try simp only [World.size_alloc, World.size_drew, Act.put, List.setIfInBounds_toArray, List.set_cons_succ, List.set_cons_zero]
            refine WD.pure [7, 8, 9, 10, 11] (by kernel_rfl) trivial ?_
            simp only [pick, List.toList_toArray, List.map_cons, List.map_nil, List.getD_cons_succ, List.getD_cons_zero]
            repeat (first | (refine quiet_load_aggW (by rfl) _ _ rfl rfl [.string c, .string m] (fun _ h => by cases h; exact hB) _ Try.underlying23 rfl keyT rfl ?_; simp only [World.size_alloc, World.size_drew, Act.put, List.setIfInBounds_toArray, List.set_cons_succ, List.set_cons_zero]) | go_big_quiet_step (fail))
            refine wpQuiet_nil ?_
            refine WD.done (by kernel_rfl) ?_
            have hB4 := f4.blk hB (by simp)
            have hP4 := f4.blk hP (by simp)
            have g4 := gd.trans' f4
            have k40 := hB4.cell 0
            have k41 := hB4.cell 1
            clear f4 hB hP bk bp hcd hcell gd f
            go_wp2_with fail
            refine (Hmay.out _).mono ?_
            rintro e w5 ⟨rfl, f5⟩
            have hB5 := f5.blk hB4 (by simp)
            have hP5 := f5.blk hP4 (by simp)
            have g5 := g4.trans' f5
            clear f5 hB4 hP4 g4 k40 k41
            go_wp2_with fail
            refine (used_any hP5).mono ?_
            rintro e w' ⟨rfl, rfl⟩
            go_wp2_with fail
            go_roundw
            case rel => exact ⟨i + 1, nx, us, ov, by omega, by go_num, rfl, rfl, rfl, hP5, hB5, g5⟩
            case measure => simp [intOf]; omega
          case true =>
            have Hk := hid hk
            rw [hk] at Hmay
            cases ov
            case true =>
              go_wp2_with fail
              refine wp_region_D (fun _ => True) false [] (by kernel_rfl) ?_
              refine WD.pure [0, 1, 2, 3, 4, 5] (by kernel_rfl) trivial ?_
              simp only [pick, List.toList_toArray, List.map_cons, List.map_nil, List.getD_cons_succ, List.getD_cons_zero]
              repeat (first | (refine quiet_load_aggW (by rfl) _ _ rfl rfl [.string c, .string m] (fun _ h => by cases h; exact hB) _ Try.underlying23 rfl keyT rfl ?_; simp only [World.size_alloc, World.size_drew, Act.put, List.setIfInBounds_toArray, List.set_cons_succ, List.set_cons_zero]) | go_big_quiet_step (fail))
              refine wpQuiet_nil ?_
              refine WD.eff 6 (by kernel_rfl) ?_
              simp only [pick, List.toList_toArray, List.map_cons, List.map_nil, List.getD_cons_succ, List.getD_cons_zero]
              go_wp2_with fail
              refine (nseal_over c m xN S hc hm hP Hk.out HS1.out).mono ?_
              rintro e w4 ⟨rfl, f4⟩
              go_wp2_with fail
              try refine wpList_nil ?_
              refine AfterD.on trivial (by kernel_rfl) ?_
              try simp only [World.size_alloc, World.size_drew, Act.put, List.setIfInBounds_toArray, List.set_cons_succ, List.set_cons_zero]
              refine WD.pure [7, 8, 9, 10, 11] (by kernel_rfl) trivial ?_
              simp only [pick, List.toList_toArray, List.map_cons, List.map_nil, List.getD_cons_succ, List.getD_cons_zero]
              repeat (first | (refine quiet_load_aggW (by rfl) _ _ rfl rfl [.string c, .string m] (fun _ h => by cases h; exact hB) _ Try.underlying23 rfl keyT rfl ?_; simp only [World.size_alloc, World.size_drew, Act.put, List.setIfInBounds_toArray, List.set_cons_succ, List.set_cons_zero]) | go_big_quiet_step (fail))
              refine wpQuiet_nil ?_
              refine WD.done (by kernel_rfl) ?_
              have hB4 := f4.blk hB (by simp)
              have hP4 := f4.blk hP (by simp)
              have g4 := gd.trans' f4
              have k40 := hB4.cell 0
              have k41 := hB4.cell 1
              clear f4 hB hP bk bp hcd hcell gd f
              go_wp2_with fail
              refine (Hmay.out _).mono ?_
              rintro e w5 ⟨rfl, f5⟩
              have hB5 := f5.blk hB4 (by simp)
              have hP5 := f5.blk hP4 (by simp)
              have g5 := g4.trans' f5
              clear f5 hB4 hP4 g4 k40 k41
              go_wp2_with fail
              go_roundw
              case rel => exact ⟨i + 1, nx, us, true, by omega, by go_num, rfl, rfl, rfl, hP5, hB5, g5⟩
              case measure => simp [intOf]; omega
            case false =>
              have Hse := hid (show sealE c m S = 0 by simp [sealE, hk, HS1.out])
              obtain ⟨Z, hZ⟩ : ∃ Z, sealR c m (n8 nx) xN S = Z := ⟨_, rfl⟩
              have H1 := hid fun (w0 : World) (h : Blk w0 p (nnL nx us false)) => nseal_any c m xN S hc hm h Hk.out HS1.out (by decide)
              have H2 := hid fun (w0 : World) => rseal_any (w := w0) c m xN S nx hc hm (by omega) (by decide)
              rw [hZ] at H1 H2
              rw [Hse.out] at H2
              clear hZ
              go_wp2_with fail
              refine wp_region_D (fun _ => True) false [] (by kernel_rfl) ?_
              refine WD.pure [0, 1, 2, 3, 4, 5] (by kernel_rfl) trivial ?_
              simp only [pick, List.toList_toArray, List.map_cons, List.map_nil, List.getD_cons_succ, List.getD_cons_zero]
              repeat (first | (refine quiet_load_aggW (by rfl) _ _ rfl rfl [.string c, .string m] (fun _ h => by cases h; exact hB) _ Try.underlying23 rfl keyT rfl ?_; simp only [World.size_alloc, World.size_drew, Act.put, List.setIfInBounds_toArray, List.set_cons_succ, List.set_cons_zero]) | go_big_quiet_step (fail))
              refine wpQuiet_nil ?_
              refine WD.eff 6 (by kernel_rfl) ?_
              simp only [pick, List.toList_toArray, List.map_cons, List.map_nil, List.getD_cons_succ, List.getD_cons_zero]
              go_wp2_with fail
              refine (H1.out _ hP).mono ?_
              rintro e w4 ⟨rfl, hP4, f4⟩
              go_wp2_with fail
              try refine wpList_nil ?_
              refine AfterD.on trivial (by kernel_rfl) ?_
              try simp only [World.size_alloc, World.size_drew, Act.put, List.setIfInBounds_toArray, List.set_cons_succ, List.set_cons_zero]
              refine WD.pure [7, 8, 9, 10, 11] (by kernel_rfl) trivial ?_
              simp only [pick, List.toList_toArray, List.map_cons, List.map_nil, List.getD_cons_succ, List.getD_cons_zero]
              repeat (first | (refine quiet_load_aggW (by rfl) _ _ rfl rfl [.string c, .string m] (fun _ h => by cases h; exact hB) _ Try.underlying23 rfl keyT rfl ?_; simp only [World.size_alloc, World.size_drew, Act.put, List.setIfInBounds_toArray, List.set_cons_succ, List.set_cons_zero]) | go_big_quiet_step (fail))
              refine wpQuiet_nil ?_
              refine WD.done (by kernel_rfl) ?_
              have hB4 := f4.blk hB HkS.out
              have g4 := gd.trans f4 HpS.out
              have hc4 : w4.cell? ⟨lb, off + i, none⟩ = some (.string S) := (World.cell?_of_block (w := wr.drew) (f4.block lb (by have := gd.size; omega) HlS.out)).trans hcd
              have k40 := hB4.cell 0
              have k41 := hB4.cell 1
              clear f4 hB hP bk bp hcd hcell gd f
              go_wp2_with fail
              refine (Hmay.out _).mono ?_
              rintro e w5 ⟨rfl, f5⟩
              have hB5 := f5.blk hB4 (by simp)
              have hP5 := f5.blk hP4 (by simp)
              have hc5 := f5.cell_some hc4
              have g5 := g4.trans' f5
              clear f5 hB4 hP4 g4 k40 k41 hc4
              go_wp2_with fail
              have hB := hB5.drew
              have hc6 : w5.drew.cell? ⟨lb, off + i, none⟩ = some (.string S) := hc5
              refine wp_region_D (fun _ => True) false [] (by kernel_rfl) ?_
              refine WD.pure [0, 1, 2, 3, 4, 5] (by kernel_rfl) trivial ?_
              simp only [pick, List.toList_toArray, List.map_cons, List.map_nil, List.getD_cons_succ, List.getD_cons_zero]
              repeat (first | (refine quiet_load_aggW (by rfl) _ _ rfl rfl [.string c, .string m] (fun _ h => by cases h; exact hB) _ Try.underlying23 rfl keyT rfl ?_; simp only [World.size_alloc, World.size_drew, Act.put, List.setIfInBounds_toArray, List.set_cons_succ, List.set_cons_zero]) | go_big_quiet_step (fail))
              refine wpQuiet_nil ?_
              refine WD.eff 6 (by kernel_rfl) ?_
              simp only [pick, List.toList_toArray, List.map_cons, List.map_nil, List.getD_cons_succ, List.getD_cons_zero]
              go_wp2_with fail
              refine (H2.out _).mono ?_
              rintro e w6 ⟨rfl, f6⟩
              go_wp2_with fail
              try refine wpList_nil ?_
              refine AfterD.on trivial (by kernel_rfl) ?_
              try simp only [World.size_alloc, World.size_drew, Act.put, List.setIfInBounds_toArray, List.set_cons_succ, List.set_cons_zero]
              refine WD.pure [7, 8, 9, 10, 11] (by kernel_rfl) trivial ?_
              simp only [pick, List.toList_toArray, List.map_cons, List.map_nil, List.getD_cons_succ, List.getD_cons_zero]
              repeat (first | (refine quiet_load_aggW (by rfl) _ _ rfl rfl [.string c, .string m] (fun _ h => by cases h; exact hB) _ Try.underlying23 rfl keyT rfl ?_; simp only [World.size_alloc, World.size_drew, Act.put, List.setIfInBounds_toArray, List.set_cons_succ, List.set_cons_zero]) | go_big_quiet_step (fail))
              refine wpQuiet_nil ?_
              refine WD.done (by kernel_rfl) ?_
              have hB6 := f6.blk hB (by simp)
              have hP6 := f6.blk hP5.drew (by simp)
              have g6 := (g5.drew).trans' f6
              clear f6 hB hB5 hP5 hc5 hc6 g5
              go_wp2_with fail
              refine (used_any hP6).mono ?_
              rintro e w' ⟨rfl, rfl⟩
              rw [c64_one]
              go_wp2_with fail
              rw [Hmx.out]
              go_roundw
              case rel => exact ⟨i + 1, nx + 1, us + 1, decide (nx + 1 = 0), by omega, by go_num, rfl, rfl, rfl, hP6, hB6, g6⟩
              case measure => simp [intOf]; omega
end Go.Proofs.Ytjffhlhpapjnnaa
