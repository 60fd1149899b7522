/- Layer 21: RecordOpens, the walk. -/
import Derived.Test.YtgbkbhklgbjgmaaRecR
namespace Go.Proofs.Ytgbkbhklgbjgmaa.rcd
open Go Go.Xr Go.RowKit
set_option linter.unusedVariables false
set_option linter.unusedSimpArgs false
attribute [local go_sem] eqgA eqgB eql_u64 eql_u64_c neq_u64 neq_u64_c add_u64_c
set_option maxRecDepth 20000 in
set_option maxHeartbeats 4000000 in
theorem opens_walk {w : World} {v u : Value} {l : List ByteArray} {tl : List TurnD} {LB UB : Option Nat} (label : ByteArray) (x : UInt8) (hlb : label.size ≤ 140737488351232) (hl : Rc w 1 v l.length (l.map .string) LB) (ho : ∀ s ∈ l, s.size ≤ 140737488351232) (hlm : l.length ≤ 9223372036854775807) (hu : Rc w 5 u tl.length (tl.flatMap tnc) UB) (htn : ∀ t ∈ tl, TnOk t) :
    Calls Try.prog 4 #[v, u, .string label, .int .u8 (x.toNat : Int)] w fun e w' => e = .returned (.bool true) ∧ Fr [] w w' := by
  rw [← val_u8]
  obtain ⟨la, lc, rfl⟩ := hl.isSlice
  obtain ⟨ua, uc, rfl⟩ := hu.isSlice
  have Hl := hid hl
  have Ho := hid ho
  have Hu := hid hu
  have Htn := hid htn
  have Hv := hid (heavy_any hl ho hlm)
  have Hse := hid fun (w0 : World) (f : Fr [] w w0) (h : l.length ≤ 20) => sealed_any (w := w0) (hl.keep f (by simp)) ho h
  obtain ⟨HV, hHV⟩ : ∃ HV, heavyS l = HV := ⟨_, rfl⟩
  rw [hHV] at Hv
  have hl20 : HV = false → l.length ≤ 20 := fun h => by
    rw [← hHV] at h
    simp [heavyS] at h
    omega
  obtain ⟨n, hn⟩ : ∃ n, l.length = n := ⟨_, rfl⟩
  have Hn := hid hn
  obtain ⟨m, hm⟩ : ∃ m, tl.length = m := ⟨_, rfl⟩
  have Hm := hid hm
  have Hsl := hid (fun h : l.length ≤ 20 => (show (fitS l).length ≤ 20 from Nat.le_trans (fitS_le l) h))
  rw [hn] at hlm Hv Hse hl20 Hsl ⊢
  rw [hm]
  have H1 := hid fun w0 : World => keys_of (w := w0) x
  have Hk := hid (k_may x)
  have hks := k_sizes x
  obtain ⟨C, hC⟩ : ∃ C, kC x = C := ⟨_, rfl⟩
  obtain ⟨M, hM⟩ : ∃ C, kM x = C := ⟨_, rfl⟩
  rw [hC, hM] at H1 Hk hks
  have Hno := hid fun w0 : World => newO_any (w := w0) C M label (by omega) (by omega) Hk.out
  obtain ⟨made, hmade⟩ : ∃ made, madeS l = made := ⟨_, rfl⟩
  obtain ⟨ml, hml⟩ : ∃ ml, (fitS l).length = ml := ⟨_, rfl⟩
  have Hmsz := hid (madeS_size l)
  have Hmln := hid (madeS_len l)
  rw [hmade] at Hmsz Hmln
  rw [hml] at Hmln Hsl
  rw [hmade, hml] at Hse
  clear hl ho hn hm hu htn hHV hC hM hks hmade hml
  go_enter Try.func4, Try.ntmps4
  go_wp2_with fail
  refine Hv.out.mono ?_
  rintro e w1 ⟨rfl, f1⟩
  cases HV
  case true =>
    go_wp2_with fail
    refine works_any.mono ?_
    rintro e w9 ⟨rfl, f9⟩
    go_wp2_with fail
    go_ret
    exact ⟨rfl, (f1).trans' f9⟩
  case false =>
    have hn20 := hl20 rfl
    have hml20 := Hsl.out hn20
    by_cases hm10 : 10 < m
    case pos =>
      have hd1 : decide (10 < (m : Int)) = true := by simp; omega
      have hd1' : decide (10 < m) = true := by simp; omega
      go_wp2_with fail
      refine works_any.mono ?_
      rintro e w9 ⟨rfl, f9⟩
      go_wp2_with fail
      go_ret
      exact ⟨rfl, (f1).trans' f9⟩
    case neg =>
      have hd1 : decide (10 < (m : Int)) = false := by simp; omega
      have hd1' : decide (10 < m) = false := by simp; omega
      by_cases hlb2 : 1024 < label.size
      case pos =>
        have hd2 : decide (1024 < (label.size : Int)) = true := by simp; omega
        have hd2' : decide (1024 < label.size) = true := by simp; omega
        go_wp2_with fail
        refine works_any.mono ?_
        rintro e w9 ⟨rfl, f9⟩
        go_wp2_with fail
        go_ret
        exact ⟨rfl, (f1).trans' f9⟩
      case neg =>
        have hd2 : decide (1024 < (label.size : Int)) = false := by simp; omega
        have hd2' : decide (1024 < label.size) = false := by simp; omega
        go_wp2_with fail
        refine (Hse.out _ f1 hn20).mono ?_
        rintro e w2 ⟨⟨rv, RB, rfl, hrv⟩, f2⟩
        have g2 := f1.trans' f2
        obtain ⟨ra, rc, rfl⟩ := hrv.isSlice
        clear f1 f2
        go_wp2_with fail
        go_loopw [9, 10] (fun rv iv wr => ∃ (i k : Nat) (R : List ByteArray) (RB : Option Nat), i ≤ m ∧ iv = .int .i64 i ∧ Rc wr 1 rv k (R.map .string) RB ∧ k ≤ 20 + i ∧ Hid (∀ s ∈ R, s.size ≤ 100000) ∧ Fr [] w wr) (fun _ iv _ => m - (intOf iv).toNat)
        case atStart => exact ⟨0, ml, made, RB, by omega, rfl, hrv, by omega, hid fun s hs => by have := Hmsz.out s hs; omega, g2⟩
        case round =>
          obtain ⟨i, k, R, RB', hi, rfl, hrv', hk20, HR, f⟩ := hrel
          clear hrv g2
          obtain ⟨ra', rc', rfl⟩ := hrv'.isSlice
          by_cases hli : i < m
          case pos =>
            have h1 : decide (i < m) = true := by simp; omega
            obtain ⟨ub, uo, rfl, hit, hcell⟩ := turn_at (Hm.out ▸ Hu.out.keep f (by simp)) Hm.out hli
            obtain ⟨T, hT⟩ : ∃ T, tl[i]'hit = T := ⟨_, rfl⟩
            have hTo : TnOk T := by rw [← hT]; exact Htn.out _ (List.getElem_mem _)
            rw [hT] at hcell
            clear hT
            obtain ⟨d, N, A, y, X⟩ := T
            have kc0 : wr.cell? ⟨ub, uo + i * 5, none⟩ = some (.int .i64 d) := hcell 0 (by decide)
            have kc1 : wr.cell? ⟨ub, uo + i * 5 + 1, none⟩ = some (.int .i64 N) := hcell 1 (by decide)
            have kc2 : wr.cell? ⟨ub, uo + i * 5 + 2, none⟩ = some (.int .i64 A) := hcell 2 (by decide)
            have kc3 : wr.cell? ⟨ub, uo + i * 5 + 3, none⟩ = some (bt y) := hcell 3 (by decide)
            have kc4 : wr.cell? ⟨ub, uo + i * 5 + 4, none⟩ = some (.string X) := hcell 4 (by decide)
            have hTx : X.size ≤ 9223372036854775807 := hTo.x
            clear hcell
            by_cases hbig : 4096 < X.size
            case pos =>
              have hd3 : decide (4096 < (X.size : Int)) = true := by simp; omega
              go_wp2_with fail
              refine works_any.mono ?_
              rintro e w9 ⟨rfl, f9⟩
              go_wp2_with fail
              go_ret
              exact ⟨rfl, (f).trans' f9⟩
            case neg =>
              have hd3 : decide (4096 < (X.size : Int)) = false := by simp; omega
              have hRl : R.length = k := by have := hrv'.1; simpa using this
              have Htu := hid (turned_any (w := wr) (l := R) (LB := RB') d N A y X hTo.n1 hTo.n2 hTo.a1 hTo.a2 (by omega) (by rw [hRl]; exact hrv') HR.out (by omega))
              have HRl := hid hRl
              clear hRl hTo
              go_wp2_with fail
              refine Htu.out.mono ?_
              rintro e w3 ⟨⟨v3, l3, B3, rfl, hr3, hl3, hs3⟩, f3⟩
              go_wp2_with fail
              go_roundw
              case rel => exact ⟨i + 1, l3.length, l3, B3, by omega, by go_num, hr3, by rw [HRl.out] at hl3; omega, hid hs3, f.trans' f3⟩
              case measure => simp [intOf]; omega
          case neg =>
            have h1 : decide (i < m) = false := by simp; omega
            go_wp2_with fail
            refine (H1.out _).mono ?_
            rintro e w3 ⟨rfl, f3⟩
            go_wp2_with fail
            refine (Hno.out _).mono ?_
            rintro e w4 ⟨p, rfl, hp4, hle4, f4⟩
            have hr4 := (hrv'.keep f3 (by simp)).keep f4 (by simp)
            have g4 := (f.trans' f3).trans' f4
            have hwp : w.heap.size ≤ p := by have := f.size; have := f3.size; omega
            have HpB := hid (show ∀ b, RB' = some b → b ≠ p from fun b hb => by have := hrv'.lt b hb; have := f3.size; omega)
            clear f f3 f4 hrv' hle4
            go_wp2_with fail
            refine (H1.out _).mono ?_
            rintro e w5 ⟨rfl, f5⟩
            have hp5 := f5.blk hp4 (by simp)
            have hr5 := hr4.keep f5 (by simp)
            have g5 := g4.trans' f5
            clear f5 hp4 hr4 g4
            go_wp2_with (refine wpList_box rfl _ _ rfl (opL C M label 0 false) rfl ?_; intro w6 f6 hlt6 hq6; simp only [World.size_alloc, World.size_drew, Act.put, List.setIfInBounds_toArray, List.set_cons_succ, List.set_cons_zero]; revert hq6)
            intro hq6
            obtain ⟨q, hq⟩ : ∃ q, w5.heap.size = q := ⟨_, rfl⟩
            rw [hq] at hq6 hlt6 ⊢
            have hp6 := f6.blk hp5 (by simp)
            have hr6 := hr5.keep f6 (by simp)
            have g6 := g5.trans' f6
            have hpq : p < q := by have := hp5.lt; omega
            have HkS := hid (show ∀ b, RB' = some b → b ∉ [p, q] from fun b hb => by have h1 := HpB.out b hb; have h2 := hr5.lt b hb; simp; omega)
            have Hqp := hid (show q ∉ [p] by simp; omega)
            have Hpq := hid (show p ∉ [q] by simp; omega)
            have HwS := hid (show ∀ x ∈ [p, q], x ∈ ([] : List Nat) ∨ w.heap.size ≤ x by simp; omega)
            clear hq hp5 hr5 g5 f6 hlt6
            go_wp2_with fail
            go_loopw [14] (fun iv wr => ∃ (i : Nat) (nx : UInt64) (cl : Bool), i ≤ k ∧ iv = .int .i64 i ∧ Blk wr p (opL C M label nx cl) ∧ Blk wr q (opL C M label nx cl) ∧ Fr [p, q] w6 wr) (fun iv _ => k - (intOf iv).toNat)
            case atStart => exact ⟨0, 0, false, by omega, rfl, hp6, hq6, Fr.refl _ _⟩
            case round =>
              obtain ⟨i', nx, cl, hi', rfl, bp, bq, f⟩ := hrel
              clear hp6 hq6
              by_cases hli' : i' < k
              case neg =>
                have h2 : decide (i' < k) = false := by simp; omega
                go_wp2_with fail
                refine works_any.mono ?_
                rintro e w9 ⟨rfl, f9⟩
                go_wp2_with fail
                go_ret
                exact ⟨rfl, (g6.trans f HwS.out).trans' f9⟩
              case pos =>
                have h2 : decide (i' < k) = true := by simp; omega
                obtain ⟨rb, ro, rfl, hrb, _, hir, hcell⟩ := rc_at (hr6.keep f HkS.out) hli'
                obtain ⟨S, hS⟩ : ∃ S, R[i']'hir = S := ⟨_, rfl⟩
                have hSo : S.size ≤ 100000 := by rw [← hS]; exact HR.out _ (List.getElem_mem _)
                rw [hS] at hcell
                have HrS := hid (HkS.out rb hrb)
                have HO1 := hid (oopen_any S bp Hk.out (by omega) (by omega))
                have HO2 := hid fun (w0 : World) (h : Blk w0 q (opL C M label nx cl)) => roopen_any S h Hk.out (by omega) (by omega)
                obtain ⟨T, hT⟩ : ∃ T, opnT C M label nx cl S = T := ⟨_, rfl⟩
                obtain ⟨E, hE⟩ : ∃ E, opnE C M label nx cl S = E := ⟨_, rfl⟩
                obtain ⟨nx', hnx⟩ : ∃ T, opnN C M label nx cl S = T := ⟨_, rfl⟩
                obtain ⟨cl', hcl⟩ : ∃ T, opnC C M label nx cl S = T := ⟨_, rfl⟩
                rw [hT, hE, hnx, hcl] at HO1 HO2
                clear hS hT hE hnx hcl
                go_wp2_with fail
                refine HO1.out.mono ?_
                rintro e w7 ⟨rfl, bp7, f7⟩
                have bq7 := f7.blk bq Hqp.out
                have hc7 : w7.cell? ⟨rb, ro + i', none⟩ = some (.string S) := (World.cell?_of_block (w := wr) (f7.block rb ((hr6.keep f HkS.out).lt rb hrb) (fun h => HrS.out (by simp at h; simp [h])))).trans hcell
                have g7 := f.trans f7 (fun x hx => .inl (by simp at hx; simp [hx]))
                clear bp bq f f7 hcell HO1
                go_wp2_with fail
                refine (HO2.out _ bq7).mono ?_
                rintro e w8 ⟨rfl, bq8, f8⟩
                have bp8 := f8.blk bp7 Hpq.out
                have g8 := g7.trans f8 (fun x hx => .inl (by simp at hx; simp [hx]))
                clear bp7 bq7 g7 f8 hc7 HO2
                go_wp2_with fail
                have bqd := bq8.drew
                have bpd := bp8.drew
                have gd := g8.drew
                clear bq8 bp8 g8
                refine wp_region_D (fun w' => Blk w' q (opL C M label nx' cl')) false [] (by kernel_rfl) ?_
                refine WD.pure [0, 1, 2, 3, 4, 5, 6, 7, 8, 9] (by kernel_rfl) bqd ?_
                simp only [pick, List.toList_toArray, List.map_cons, List.map_nil, List.getD_cons_succ, List.getD_cons_zero]
                repeat (first | (refine quiet_load_1W (by rfl) _ _ rfl rfl (W64 nx') (fun _ h => h.cell 3) _ Try.underlying36 rfl ?_; simp only [World.size_alloc, World.size_drew, Act.put, List.setIfInBounds_toArray, List.set_cons_succ, List.set_cons_zero]) | (refine quiet_load_1W (by rfl) _ _ rfl rfl (.bool cl') (fun _ h => h.cell 4) _ Try.underlying4 rfl ?_; simp only [World.size_alloc, World.size_drew, Act.put, List.setIfInBounds_toArray, List.set_cons_succ, List.set_cons_zero]) | go_big_quiet_step (fail))
                refine wpQuiet_nil ?_
                refine WD.free [11, 12, 13] (by kernel_rfl) bqd ?_
                simp only [pick, List.toList_toArray, List.map_cons, List.map_nil, List.getD_cons_succ, List.getD_cons_zero]
                repeat (first | (refine quiet_load_1W (by rfl) _ _ rfl rfl (W64 nx') (fun _ h => h.cell 3) _ Try.underlying36 rfl ?_; simp only [World.size_alloc, World.size_drew, Act.put, List.setIfInBounds_toArray, List.set_cons_succ, List.set_cons_zero]) | (refine quiet_load_1W (by rfl) _ _ rfl rfl (.bool cl') (fun _ h => h.cell 4) _ Try.underlying4 rfl ?_; simp only [World.size_alloc, World.size_drew, Act.put, List.setIfInBounds_toArray, List.set_cons_succ, List.set_cons_zero]) | go_big_quiet_step (fail))
                refine wpQuiet_nil ?_
                refine WD.held [14] (by kernel_rfl) bqd ?_
                simp only [pick, List.toList_toArray, List.map_cons, List.map_nil, List.getD_cons_succ, List.getD_cons_zero]
                repeat (first | (refine quiet_load_1W (by rfl) _ _ rfl rfl (W64 nx') (fun _ h => h.cell 3) _ Try.underlying36 rfl ?_; simp only [World.size_alloc, World.size_drew, Act.put, List.setIfInBounds_toArray, List.set_cons_succ, List.set_cons_zero]) | (refine quiet_load_1W (by rfl) _ _ rfl rfl (.bool cl') (fun _ h => h.cell 4) _ Try.underlying4 rfl ?_; simp only [World.size_alloc, World.size_drew, Act.put, List.setIfInBounds_toArray, List.set_cons_succ, List.set_cons_zero]) | go_big_quiet_step (fail))
                refine wpQuiet_nil ?_
                refine WD.eff 10 (by kernel_rfl) ?_
                simp only [pick, List.toList_toArray, List.map_cons, List.map_nil, List.getD_cons_succ, List.getD_cons_zero]
                go_wp2_with fail
                refine (ocount_any bpd).mono ?_
                rintro e w9 ⟨rfl, rfl⟩
                go_wp2_with fail
                try refine wpList_nil ?_
                refine AfterD.on bqd (by kernel_rfl) ?_
                try simp only [World.size_alloc, World.size_drew, Act.put, List.setIfInBounds_toArray, List.set_cons_succ, List.set_cons_zero]
                refine WD.pure [15, 16, 17, 18] (by kernel_rfl) bqd ?_
                simp only [pick, List.toList_toArray, List.map_cons, List.map_nil, List.getD_cons_succ, List.getD_cons_zero]
                repeat (first | (refine quiet_load_1W (by rfl) _ _ rfl rfl (W64 nx') (fun _ h => h.cell 3) _ Try.underlying36 rfl ?_; simp only [World.size_alloc, World.size_drew, Act.put, List.setIfInBounds_toArray, List.set_cons_succ, List.set_cons_zero]) | (refine quiet_load_1W (by rfl) _ _ rfl rfl (.bool cl') (fun _ h => h.cell 4) _ Try.underlying4 rfl ?_; simp only [World.size_alloc, World.size_drew, Act.put, List.setIfInBounds_toArray, List.set_cons_succ, List.set_cons_zero]) | go_big_quiet_step (fail))
                refine wpQuiet_nil ?_
                refine WD.free [20, 21, 22] (by kernel_rfl) bqd ?_
                simp only [pick, List.toList_toArray, List.map_cons, List.map_nil, List.getD_cons_succ, List.getD_cons_zero]
                repeat (first | (refine quiet_load_1W (by rfl) _ _ rfl rfl (W64 nx') (fun _ h => h.cell 3) _ Try.underlying36 rfl ?_; simp only [World.size_alloc, World.size_drew, Act.put, List.setIfInBounds_toArray, List.set_cons_succ, List.set_cons_zero]) | (refine quiet_load_1W (by rfl) _ _ rfl rfl (.bool cl') (fun _ h => h.cell 4) _ Try.underlying4 rfl ?_; simp only [World.size_alloc, World.size_drew, Act.put, List.setIfInBounds_toArray, List.set_cons_succ, List.set_cons_zero]) | go_big_quiet_step (fail))
                refine wpQuiet_nil ?_
                refine WD.held [23] (by kernel_rfl) bqd ?_
                simp only [pick, List.toList_toArray, List.map_cons, List.map_nil, List.getD_cons_succ, List.getD_cons_zero]
                repeat (first | (refine quiet_load_1W (by rfl) _ _ rfl rfl (W64 nx') (fun _ h => h.cell 3) _ Try.underlying36 rfl ?_; simp only [World.size_alloc, World.size_drew, Act.put, List.setIfInBounds_toArray, List.set_cons_succ, List.set_cons_zero]) | (refine quiet_load_1W (by rfl) _ _ rfl rfl (.bool cl') (fun _ h => h.cell 4) _ Try.underlying4 rfl ?_; simp only [World.size_alloc, World.size_drew, Act.put, List.setIfInBounds_toArray, List.set_cons_succ, List.set_cons_zero]) | go_big_quiet_step (fail))
                refine wpQuiet_nil ?_
                refine WD.eff 19 (by kernel_rfl) ?_
                simp only [pick, List.toList_toArray, List.map_cons, List.map_nil, List.getD_cons_succ, List.getD_cons_zero]
                go_wp2_with fail
                refine (closed_any bpd).mono ?_
                rintro e w9 ⟨rfl, rfl⟩
                go_wp2_with fail
                try refine wpList_nil ?_
                refine AfterD.on bqd (by kernel_rfl) ?_
                try simp only [World.size_alloc, World.size_drew, Act.put, List.setIfInBounds_toArray, List.set_cons_succ, List.set_cons_zero]
                refine WD.pure [24, 25] (by kernel_rfl) bqd ?_
                simp only [pick, List.toList_toArray, List.map_cons, List.map_nil, List.getD_cons_succ, List.getD_cons_zero]
                repeat (first | (refine quiet_load_1W (by rfl) _ _ rfl rfl (W64 nx') (fun _ h => h.cell 3) _ Try.underlying36 rfl ?_; simp only [World.size_alloc, World.size_drew, Act.put, List.setIfInBounds_toArray, List.set_cons_succ, List.set_cons_zero]) | (refine quiet_load_1W (by rfl) _ _ rfl rfl (.bool cl') (fun _ h => h.cell 4) _ Try.underlying4 rfl ?_; simp only [World.size_alloc, World.size_drew, Act.put, List.setIfInBounds_toArray, List.set_cons_succ, List.set_cons_zero]) | go_big_quiet_step (fail))
                refine wpQuiet_nil ?_
                refine WD.done (by kernel_rfl) ?_
                go_wp2_with fail
                go_roundw
                case rel => exact ⟨i' + 1, nx', cl', by omega, by go_num, bpd, bqd, gd⟩
                case measure => simp [intOf]; omega
end Go.Proofs.Ytgbkbhklgbjgmaa.rcd
