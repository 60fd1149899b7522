/- Layer 21: RecordOrder, the walk. -/
import Derived.Test.YtgbkbhklgbjgmaaRecR
namespace Go.Proofs.Ytgbkbhklgbjgmaa.rcd
open Go Go.Xr Go.RowKit
set_option linter.unusedVariables false
set_option linter.unusedSimpArgs false
attribute [local go_sem] eqgA eqgB eql_u64 eql_u64_c neq_u64 neq_u64_c add_u64_c
theorem cv_ui (w : World) (x : UInt64) (h : x.toNat ≤ 9223372036854775807) : (convert 36 3 (W64 x)).run Try.prog w = .ok (.int .i64 (x.toNat : Int)) w := by
  have e : Value.int .i64 (IntKind.i64.wrap (x.toNat : Int)) = .int .i64 (x.toNat : Int) := by rw [IntWalk.i64_in _ ⟨by omega, by omega⟩]
  simp only [val_u64, convert, Sem.run_bind, run_underlying Try.underlying3, run_underlying Try.underlying36, Result.andThen_ok, Conv.intToInt, e, Sem.run_pure]
theorem ofNat_succ64 (i : Nat) : UInt64.ofNat i + 1 = UInt64.ofNat (i + 1) := by
  apply UInt64.toNat_inj.1
  rw [UInt64.toNat_add, UInt64.toNat_ofNat', UInt64.toNat_ofNat', show (1 : UInt64).toNat = 1 from rfl]
  omega
theorem ofNat64_le (i : Nat) : (UInt64.ofNat i).toNat ≤ i := by
  rw [UInt64.toNat_ofNat']
  exact Nat.mod_le _ _
set_option maxRecDepth 20000 in
set_option maxHeartbeats 4000000 in
theorem order_walk {w : World} {v u : Value} {l : List ByteArray} {tl : List TurnD} {LB UB : Option Nat} (hl : Rc w 1 v l.length (l.map .string) LB) (ho : ∀ s ∈ l, s.size ≤ 140737488351232) (hlm : l.length ≤ 9223372036854775807) (hu : Rc w 5 u tl.length (tl.flatMap tnc) UB) (htn : ∀ t ∈ tl, TnOk t) :
    Calls Try.prog 5 #[v, u] w fun e w' => e = .returned (.bool true) ∧ Fr [] w w' := by
  obtain ⟨la, lc, rfl⟩ := hl.isSlice
  obtain ⟨ua, uc, rfl⟩ := hu.isSlice
  obtain ⟨i9, hi9, hz9, hs9, hb9⟩ := infS9
  have Hi := hid hi9
  have Hz := hid hz9
  have Hs9 := hid hs9
  have Hb9 := hid hb9
  have Hl := hid hl
  have Ho := hid ho
  have Hu := hid hu
  have Htn := hid htn
  have Hv := hid (heavy_any hl ho hlm)
  have Hse := hid fun (w0 : World) (f : Fr [] w w0) (h : l.length ≤ 20) => sealed_any (w := w0) (hl.keep f (by simp)) ho h
  obtain ⟨HV, hHV⟩ : ∃ HV, heavyS l = HV := ⟨_, rfl⟩
  rw [hHV] at Hv
  have hl20 : HV = false → l.length ≤ 20 := fun h => by
    rw [← hHV] at h
    simp [heavyS] at h
    omega
  obtain ⟨n, hn⟩ : ∃ n, l.length = n := ⟨_, rfl⟩
  have Hn := hid hn
  obtain ⟨m, hm⟩ : ∃ m, tl.length = m := ⟨_, rfl⟩
  have Hm := hid hm
  have Hsl := hid (fun h : l.length ≤ 20 => (show (fitS l).length ≤ 20 from Nat.le_trans (fitS_le l) h))
  rw [hn] at hlm Hv Hse hl20 Hsl ⊢
  rw [hm]
  have H1 := hid fun w0 : World => keys_of (w := w0) 0
  rw [show bt 0 = .int .u8 0 from rfl] at H1
  have Hk := hid (k_may 0)
  have hks := k_sizes 0
  have hget : ∀ i (h : i < (fitS l).length), (madeS l)[i]? = some (recS (kC 0) (kM 0) wayS (UInt64.ofNat i) (fitS l)[i]) := fun i h => recsOf_get _ _ _ _ i h
  obtain ⟨C, hC⟩ : ∃ C, kC 0 = C := ⟨_, rfl⟩
  obtain ⟨M, hM⟩ : ∃ C, kM 0 = C := ⟨_, rfl⟩
  rw [hC, hM] at H1 Hk hks hget
  have Hks := hid hks
  have Hno := hid fun w0 : World => newO_any (w := w0) C M ⟨#[119, 97, 121]⟩ (by omega) (by omega) Hk.out
  obtain ⟨made, hmade⟩ : ∃ made, madeS l = made := ⟨_, rfl⟩
  obtain ⟨F, hF⟩ : ∃ F, fitS l = F := ⟨_, rfl⟩
  have HF := hid hF
  have Hfs := hid (fun t (h : t ∈ fitS l) => fitS_mem h)
  obtain ⟨ml, hml⟩ : ∃ ml, F.length = ml := ⟨_, rfl⟩
  have Hml := hid hml
  have Hmsz := hid (madeS_size l)
  rw [hmade] at Hmsz Hse hget
  rw [hF] at Hse Hsl hget Hfs
  have Hget := hid hget
  rw [hml] at Hse Hsl
  clear hl ho hn hm hu htn hHV hC hM hks hmade hml hF hget hi9 hz9 hs9 hb9
  go_enter Try.func5, Try.ntmps5
  go_wp2_with fail
  refine Hv.out.mono ?_
  rintro e w1 ⟨rfl, f1⟩
  cases HV
  case true =>
    go_wp2_with fail
    refine works_any.mono ?_
    rintro e w9 ⟨rfl, f9⟩
    go_wp2_with fail
    go_ret
    exact ⟨rfl, (f1).trans' f9⟩
  case false =>
    have hn20 := hl20 rfl
    have hml20 := Hsl.out hn20
    by_cases hm10 : 10 < m
    case pos =>
      have hd1 : decide (10 < (m : Int)) = true := by simp; omega
      have hd1' : decide (10 < m) = true := by simp; omega
      go_wp2_with fail
      refine works_any.mono ?_
      rintro e w9 ⟨rfl, f9⟩
      go_wp2_with fail
      go_ret
      exact ⟨rfl, (f1).trans' f9⟩
    case neg =>
      have hd1 : decide (10 < (m : Int)) = false := by simp; omega
      have hd1' : decide (10 < m) = false := by simp; omega
      go_wp2_with fail
      refine (Hse.out _ f1 hn20).mono ?_
      rintro e w2 ⟨⟨mv, MB, rfl, hmv⟩, f2⟩
      have g2 := f1.trans' f2
      obtain ⟨ma, mc, rfl⟩ := hmv.isSlice
      clear f1 f2
      go_wp2_with fail
      go_loopw [6, 7] (fun rv iv wr => ∃ (i k : Nat) (R : List ByteArray) (RB : Option Nat), i ≤ m ∧ iv = .int .i64 i ∧ Rc wr 1 rv k (R.map .string) RB ∧ k ≤ 20 + i ∧ Hid (∀ s ∈ R, s.size ≤ 100000) ∧ Fr [] w2 wr) (fun _ iv _ => m - (intOf iv).toNat)
      case atStart => exact ⟨0, ml, made, MB, by omega, rfl, hmv, by omega, hid fun s hs => by have := Hmsz.out s hs; omega, Fr.refl _ _⟩
      case round =>
        obtain ⟨i, k, R, RB, hi, rfl, hrv', hk20, HR, f⟩ := hrel
        obtain ⟨ra', rc', rfl⟩ := hrv'.isSlice
        by_cases hli : i < m
        case pos =>
          have h1 : decide (i < m) = true := by simp; omega
          obtain ⟨ub, uo, rfl, hit, hcell⟩ := turn_at (Hm.out ▸ Hu.out.keep (g2.trans' f) (by simp)) Hm.out hli
          obtain ⟨T, hT⟩ : ∃ T, tl[i]'hit = T := ⟨_, rfl⟩
          have hTo : TnOk T := by rw [← hT]; exact Htn.out _ (List.getElem_mem _)
          rw [hT] at hcell
          clear hT
          obtain ⟨d, N, A, y, X⟩ := T
          have kc0 : wr.cell? ⟨ub, uo + i * 5, none⟩ = some (.int .i64 d) := hcell 0 (by decide)
          have kc1 : wr.cell? ⟨ub, uo + i * 5 + 1, none⟩ = some (.int .i64 N) := hcell 1 (by decide)
          have kc2 : wr.cell? ⟨ub, uo + i * 5 + 2, none⟩ = some (.int .i64 A) := hcell 2 (by decide)
          have kc3 : wr.cell? ⟨ub, uo + i * 5 + 3, none⟩ = some (bt y) := hcell 3 (by decide)
          have kc4 : wr.cell? ⟨ub, uo + i * 5 + 4, none⟩ = some (.string X) := hcell 4 (by decide)
          have hTx : X.size ≤ 9223372036854775807 := hTo.x
          clear hcell
          by_cases hbig : 4096 < X.size
          case pos =>
            have hd3 : decide (4096 < (X.size : Int)) = true := by simp; omega
            go_wp2_with fail
            refine works_any.mono ?_
            rintro e w9 ⟨rfl, f9⟩
            go_wp2_with fail
            go_ret
            exact ⟨rfl, (g2.trans' f).trans' f9⟩
          case neg =>
            have hd3 : decide (4096 < (X.size : Int)) = false := by simp; omega
            have hRl : R.length = k := by have := hrv'.1; simpa using this
            have Htu := hid (turned_any (w := wr) (l := R) (LB := RB) d N A y X hTo.n1 hTo.n2 hTo.a1 hTo.a2 (by omega) (by rw [hRl]; exact hrv') HR.out (by omega))
            have HRl := hid hRl
            clear hRl hTo
            go_wp2_with fail
            refine Htu.out.mono ?_
            rintro e w3 ⟨⟨v3, l3, B3, rfl, hr3, hl3, hs3⟩, f3⟩
            go_wp2_with fail
            go_roundw
            case rel => exact ⟨i + 1, l3.length, l3, B3, by omega, by go_num, hr3, by rw [HRl.out] at hl3; omega, hid hs3, f.trans' f3⟩
            case measure => simp [intOf]; omega
        case neg =>
          have h1 : decide (i < m) = false := by simp; omega
          have hk30 : k ≤ 30 := by omega
          obtain ⟨wA, hwA⟩ : ∃ wA, wr = wA := ⟨_, rfl⟩
          rw [hwA] at hrv' f ⊢
          have hmA := hmv.keep f (by simp)
          have gA := g2.trans' f
          clear hwA hmv g2 f hli hk20
          go_wp2_with fail
          go_loopw [8, 9] (fun tv iv wr => ∃ (i' q : Nat) (G : List ByteArray) (B : Option Nat), i' ≤ n ∧ iv = .int .i64 i' ∧ Hid (fitS (l.take i') = G) ∧ q ≤ i' ∧ Xr.Own wr 1 tv q (G.map .string) B ∧ (∀ b, B = some b → wA.heap.size ≤ b) ∧ Fr [] wA wr) (fun _ iv _ => n - (intOf iv).toNat)
          case atStart => exact ⟨0, 0, [], none, by omega, rfl, hid rfl, by omega, Xr.Own.nil _ 1, by simp, Fr.refl _ _⟩
          case round =>
            obtain ⟨i', q, G, B, hi', rfl, HG, hqi, own, hB, f⟩ := hrel
            obtain ⟨oa, oc, rfl⟩ := own.isSlice
            by_cases hli' : i' < n
            case pos =>
              have h2 : decide (i' < n) = true := by simp; omega
              obtain ⟨lb, off, rfl, hlbw, hcell⟩ := rc_str (wr := wr) Hl.out (gA.trans' f) i' (by rw [Hn.out]; exact hli')
              have hnx := fitS_take l i' (by rw [Hn.out]; exact hli')
              obtain ⟨S, hS⟩ : ∃ S, l[i']'(by rw [Hn.out]; exact hli') = S := ⟨_, rfl⟩
              have hSo : S.size ≤ 140737488351232 := by rw [← hS]; exact Ho.out _ (List.getElem_mem _)
              rw [hS] at hcell hnx
              have Hnx := hid hnx
              clear hS hnx
              by_cases hbig : 8192 < S.size
              case pos =>
                have hd3 : decide ((S.size : Int) ≤ 8192) = false := by simp; omega
                have hd4 : decide (S.size ≤ 8192) = false := by simp; omega
                have HF2 := hid (show fitS (l.take (i' + 1)) = G by rw [Hnx.out, if_neg (by simp [fitB]; omega), List.append_nil, HG.out])
                go_wp2_with fail
                go_roundw
                case rel => exact ⟨i' + 1, q, G, B, by omega, by go_num, HF2, by omega, own, hB, f⟩
                case measure => simp [intOf]; omega
              case neg =>
                have hd3 : decide ((S.size : Int) ≤ 8192) = true := by simp; omega
                have hd4 : decide (S.size ≤ 8192) = true := by simp; omega
                have HF2 := hid (show fitS (l.take (i' + 1)) = G ++ [S] by rw [Hnx.out, if_pos (by simp [fitB]; omega), HG.out])
                have hBS : ∀ x ∈ B.toList, x ∈ ([] : List Nat) ∨ wA.heap.size ≤ x := by
                  intro x hx
                  exact .inr (hB x (by simpa using hx))
                go_wp2_with (refine wpList_append1 rfl rfl 24 _ _ _ rfl rfl 9 _ _ 16 Try.underlying24 Hi.out Hz.out Hs9.out Hb9.out rfl (.string S) rfl rfl rfl rfl own (by unfold maxLen; omega) (by omega) ?_; intro v3 w3 B3 ho3 f3 hB3; simp only [World.size_alloc, World.size_drew, Act.put, List.setIfInBounds_toArray, List.set_cons_succ, List.set_cons_zero])
                have hB4 : ∀ b, B3 = some b → wA.heap.size ≤ b := by
                  have := f.size
                  rcases hB3 with rfl | ⟨b, rfl, hb⟩
                  · exact hB
                  · intro b' hb'; cases hb'; omega
                go_roundw
                case rel => exact ⟨i' + 1, q + 1, G ++ [S], B3, by omega, by go_num, HF2, by omega, by simpa using ho3, hB4, f.trans f3 hBS⟩
                case measure => simp [intOf]; omega
            case neg =>
              have h2 : decide (i' < n) = false := by simp; omega
              have hin : i' = n := by omega
              have hGF : G = F := by rw [← HG.out, hin, ← Hn.out, List.take_length, HF.out]
              have hqm : q = ml := by have := own.1; rw [hGF] at this; simp [Hml.out] at this; omega
              subst hGF hqm
              have htx := own.rd.rc
              have hrw := hrv'.keep f (by simp)
              have hmw := hmA.keep f (by simp)
              have gw := gA.trans' f
              clear hin hrv' hmA gA f own hB HG
              go_wp2_with fail
              refine (H1.out _).mono ?_
              rintro e w3 ⟨rfl, f3⟩
              go_wp2_with fail
              refine (Hno.out _).mono ?_
              rintro e w4 ⟨p, rfl, hp4, hle4, f4⟩
              have f34 := f3.trans' f4
              have htx4 := htx.keep f34 (by simp)
              have hrw4 := hrw.keep f34 (by simp)
              have hmw4 := hmw.keep f34 (by simp)
              have g4 := gw.trans' f34
              have hle : wr.heap.size ≤ p := by have := f3.size; omega
              have hnp : ∀ (BB : Option Nat), (∀ b, BB = some b → b < wr.heap.size) → ∀ b, BB = some b → b ∉ [p] := fun BB h b hb => by have := h b hb; simp; omega
              have HtB := hid (hnp _ htx.lt)
              have HrB := hid (hnp _ hrw.lt)
              have HmB := hid (hnp _ hmw.lt)
              have HwS := hid (show ∀ x ∈ [p], x ∈ ([] : List Nat) ∨ w.heap.size ≤ x by have := gw.size; simp; omega)
              clear hnp hle f3 f4 f34 htx hrw hmw gw hle4
              go_wp2_with fail
              go_loopw [12] (fun iv wr => ∃ (i : Nat) (nx : UInt64) (cl : Bool), i ≤ k ∧ iv = .int .i64 i ∧ Blk wr p (opL C M ⟨#[119, 97, 121]⟩ nx cl) ∧ nx.toNat ≤ q ∧ (cl = false → nx = UInt64.ofNat i ∧ i ≤ q) ∧ Fr [p] w4 wr) (fun iv _ => k - (intOf iv).toNat)
              case atStart => exact ⟨0, 0, false, by omega, rfl, hp4, by simp, fun _ => ⟨rfl, by omega⟩, Fr.refl _ _⟩
              case round =>
                obtain ⟨i, nx, cl, hi, rfl, bp, hnq, hcl, f⟩ := hrel
                clear hp4
                by_cases hli : i < k
                case neg =>
                  have h3 : decide (i < k) = false := by simp; omega
                  have hcv : ∀ w0 : World, (convert 36 3 (W64 nx)).run Try.prog w0 = .ok (.int .i64 (nx.toNat : Int)) w0 := fun w0 => cv_ui w0 nx (by omega)
                  have hle1 : decide ((nx.toNat : Int) ≤ (q : Int)) = true := by simp; omega
                  have hle2 : decide (nx.toNat ≤ q) = true := by simp; omega
                  go_wp2_with fail
                  refine (ocount_any bp).mono ?_
                  rintro e w' ⟨rfl, rfl⟩
                  go_wp2_with fail
                  refine works_any.mono ?_
                  rintro e w9 ⟨rfl, f9⟩
                  go_wp2_with fail
                  go_ret
                  exact ⟨rfl, (g4.trans f HwS.out).trans' f9⟩
                case pos =>
                  have h3 : decide (i < k) = true := by simp; omega
                  obtain ⟨rb, ro, hrae, hrb, hrbl, hir, hcell⟩ := rc_at (hrw4.keep f HrB.out) hli
                  subst hrae
                  have HrbN := hid (HrB.out rb hrb)
                  have hrbl2 : rb < w4.heap.size := hrw4.lt rb hrb
                  obtain ⟨S, hS⟩ : ∃ S, R[i]'hir = S := ⟨_, rfl⟩
                  have hSo : S.size ≤ 100000 := by rw [← hS]; exact HR.out _ (List.getElem_mem _)
                  rw [hS] at hcell
                  obtain ⟨iu, hiu⟩ : ∃ iu, UInt64.ofNat i = iu := ⟨_, rfl⟩
                  have hcv : ∀ w0 : World, (convert 3 36 (.int .i64 (i : Int))).run Try.prog w0 = .ok (W64 iu) w0 := fun w0 => by rw [← hiu]; exact cv_iu w0 i (by omega)
                  have Hcv := hid hcv
                  have HRd := hid fun w0 : World => rreadr_ok (w := w0) C M ⟨#[119, 97, 121]⟩ iu S Hk.out (by omega) (by decide)
                  obtain ⟨fo, hfo⟩ : ∃ fo, recOk C M ⟨#[119, 97, 121]⟩ iu S = fo := ⟨_, rfl⟩
                  have HO0 : Hid (fo = false → ∃ E : Int, (E == 0) = false ∧ ∀ w0 : World, Blk w0 p (opL C M ⟨#[119, 97, 121]⟩ nx cl) → Calls Try.prog 21 #[.pointer (some ⟨p, 0, none⟩), .string S] w0 fun e w' => e = .returned (.tuple #[.string ⟨#[]⟩, .int .i64 E]) ∧ Blk w' p (opL C M ⟨#[119, 97, 121]⟩ nx true) ∧ Fr [p] w0 w') := hid fun h => by
                    refine ⟨opnE C M ⟨#[119, 97, 121]⟩ nx cl S, ?_, fun w0 hb => ?_⟩
                    · cases cl
                      · rw [hfo.symm.trans hfo, h] at hfo
                        rw [(hcl rfl).1, hiu]
                        simp [opnE, hfo]
                      · simp [opnE]
                    · have := oopen_any S hb Hk.out (by omega) (by decide)
                      cases cl
                      · rw [h] at hfo
                        rw [(hcl rfl).1, hiu] at this ⊢
                        rw [show opnT C M ⟨#[119, 97, 121]⟩ iu false S = ⟨#[]⟩ by simp [opnT, hfo], show opnN C M ⟨#[119, 97, 121]⟩ iu false S = iu by simp [opnN, hfo], show opnC C M ⟨#[119, 97, 121]⟩ iu false S = true by simp [opnC, hfo]] at this
                        exact this
                      · rw [show opnT C M ⟨#[119, 97, 121]⟩ nx true S = ⟨#[]⟩ by simp [opnT], show opnN C M ⟨#[119, 97, 121]⟩ nx true S = nx by simp [opnN], show opnC C M ⟨#[119, 97, 121]⟩ nx true S = true by simp [opnC]] at this
                        exact this
                  rw [hfo] at HRd
                  have Hiu := hid hiu
                  have Hfo := hid hfo
                  clear hS hiu hcv hfo
                  have hcd : wr.drew.cell? ⟨rb, ro + i, none⟩ = some (.string S) := hcell
                  by_cases hiq : i < q
                  case neg =>
                    have h4 : decide ((q : Int) ≤ (i : Int)) = true := by simp; omega
                    have h4' : decide (q ≤ i) = true := by simp; omega
                    have h5 : decide ((i : Int) < (q : Int)) = false := by simp; omega
                    have h5' : decide (i < q) = false := by simp; omega
                    go_wp2_with fail
                    refine wp_region_D (fun _ => True) false [] (by kernel_rfl) ?_
                    refine WD.pure [0, 1, 2, 3, 4, 5, 6, 7, 8, 9, 10, 11, 12, 13, 14] (by kernel_rfl) trivial ?_
                    simp only [pick, List.toList_toArray, List.map_cons, List.map_nil, List.getD_cons_succ, List.getD_cons_zero]
                    repeat (first | go_big_quiet_step (fail))
                    refine wpQuiet_nil ?_
                    refine WD.done (by kernel_rfl) ?_
                    go_wp2_with fail
                    have bp1 : Blk wr.drew.drew p (opL C M ⟨#[119, 97, 121]⟩ nx cl) := bp.drew.drew
                    have gd1 := (f.drew).drew
                    have hc1 : wr.drew.drew.cell? ⟨rb, ro + i, none⟩ = some (.string S) := hcell
                    refine wp_region_D (fun w' => w'.cell? ⟨rb, ro + i, none⟩ = some (.string S)) false [] (by kernel_rfl) ?_
                    refine WD.free [1, 3, 4, 5] (by kernel_rfl) hc1 ?_
                    simp only [pick, List.toList_toArray, List.map_cons, List.map_nil, List.getD_cons_succ, List.getD_cons_zero]
                    repeat (first | (refine quiet_conv_v (by rfl) _ _ _ rfl _ rfl (W64 iu) (fun wq _ => Hcv.out wq) ?_; simp only [World.size_alloc, World.size_drew, Act.put, List.setIfInBounds_toArray, List.set_cons_succ, List.set_cons_zero]) | (refine quiet_load_1S rfl _ _ rfl rfl (.string S) (fun _ h => h) _ Try.underlying9 rfl ?_; simp only [World.size_alloc, World.size_drew, Act.put, List.setIfInBounds_toArray, List.set_cons_succ, List.set_cons_zero]) | go_big_quiet_step (fail))
                    refine wpQuiet_nil ?_
                    refine WD.held [2, 6] (by kernel_rfl) hc1 ?_
                    simp only [pick, List.toList_toArray, List.map_cons, List.map_nil, List.getD_cons_succ, List.getD_cons_zero]
                    repeat (first | (refine quiet_conv_v (by rfl) _ _ _ rfl _ rfl (W64 iu) (fun wq _ => Hcv.out wq) ?_; simp only [World.size_alloc, World.size_drew, Act.put, List.setIfInBounds_toArray, List.set_cons_succ, List.set_cons_zero]) | (refine quiet_load_1S rfl _ _ rfl rfl (.string S) (fun _ h => h) _ Try.underlying9 rfl ?_; simp only [World.size_alloc, World.size_drew, Act.put, List.setIfInBounds_toArray, List.set_cons_succ, List.set_cons_zero]) | go_big_quiet_step (fail))
                    refine wpQuiet_nil ?_
                    refine WD.eff 0 (by kernel_rfl) ?_
                    simp only [pick, List.toList_toArray, List.map_cons, List.map_nil, List.getD_cons_succ, List.getD_cons_zero]
                    go_wp2_with fail
                    refine (H1.out _).mono ?_
                    rintro e w7 ⟨rfl, f7⟩
                    have hc7 := f7.cell_some hc1
                    skip
                    go_wp2_with fail
                    try refine wpList_nil ?_
                    refine AfterD.on hc7 (by kernel_rfl) ?_
                    try simp only [World.size_alloc, World.size_drew, Act.put, List.setIfInBounds_toArray, List.set_cons_succ, List.set_cons_zero]
                    refine WD.eff 7 (by kernel_rfl) ?_
                    simp only [pick, List.toList_toArray, List.map_cons, List.map_nil, List.getD_cons_succ, List.getD_cons_zero]
                    go_wp2_with fail
                    refine (HRd.out _).mono ?_
                    rintro e w8 ⟨⟨t8, rfl, _⟩, f8⟩
                    have hc8 := f8.cell_some hc7
                    go_wp2_with fail
                    try refine wpList_nil ?_
                    refine AfterD.on hc8 (by kernel_rfl) ?_
                    try simp only [World.size_alloc, World.size_drew, Act.put, List.setIfInBounds_toArray, List.set_cons_succ, List.set_cons_zero]
                    refine WD.pure [8, 9, 10, 11, 12] (by kernel_rfl) hc8 ?_
                    simp only [pick, List.toList_toArray, List.map_cons, List.map_nil, List.getD_cons_succ, List.getD_cons_zero]
                    repeat (first | (refine quiet_conv_v (by rfl) _ _ _ rfl _ rfl (W64 iu) (fun wq _ => Hcv.out wq) ?_; simp only [World.size_alloc, World.size_drew, Act.put, List.setIfInBounds_toArray, List.set_cons_succ, List.set_cons_zero]) | (refine quiet_load_1S rfl _ _ rfl rfl (.string S) (fun _ h => h) _ Try.underlying9 rfl ?_; simp only [World.size_alloc, World.size_drew, Act.put, List.setIfInBounds_toArray, List.set_cons_succ, List.set_cons_zero]) | go_big_quiet_step (fail))
                    refine wpQuiet_nil ?_
                    refine WD.done (by kernel_rfl) ?_
                    have bp8 := f8.blk (f7.blk bp1 (by simp)) (by simp)
                    have g8 := (gd1.trans f7 (by simp)).trans f8 (by simp)
                    have f78 := f7.trans' f8
                    skip
                    clear bp f hcell hc7 f7 f8 HRd gd1 hc1 bp1
                    cases fo
                    case true =>
                      go_wp2_with fail
                      refine works_any.mono ?_
                      rintro e w9 ⟨rfl, f9⟩
                      go_wp2_with fail
                      go_ret
                      exact ⟨rfl, (g4.trans g8 HwS.out).trans' f9⟩
                    case false =>
                      obtain ⟨E, hE0, HO⟩ := HO0.out rfl
                      go_wp2_with fail
                      refine (closed_any bp8).mono ?_
                      rintro e w' ⟨rfl, rfl⟩
                      go_wp2_with fail
                      refine (HO _ bp8).mono ?_
                      rintro e w9 ⟨rfl, bp9, f9⟩
                      have hc9 : w9.cell? ⟨rb, ro + i, none⟩ = some (.string S) := (World.cell?_of_block (w := w8) (f9.block rb (by have := g8.size; omega) HrbN.out)).trans hc8
                      have g9 := g8.trans f9 (fun x hx => .inl hx)
                      clear HO HO0 bp8 hc8 g8
                      go_wp2_with fail
                      have bp9d := bp9.drew
                      have hc9d : w9.drew.cell? ⟨rb, ro + i, none⟩ = some (.string S) := hc9
                      refine wp_region_D (fun _ => True) false [] (by kernel_rfl) ?_
                      refine WD.pure [0, 1, 2, 3, 4, 5, 6, 7, 8, 9, 10, 11, 12, 13, 14, 15, 16, 17, 18] (by kernel_rfl) trivial ?_
                      simp only [pick, List.toList_toArray, List.map_cons, List.map_nil, List.getD_cons_succ, List.getD_cons_zero]
                      repeat (first | go_big_quiet_step (fail))
                      refine wpQuiet_nil ?_
                      refine WD.done (by kernel_rfl) ?_
                      go_wp2_with fail
                      refine (closed_any bp9d).mono ?_
                      rintro e w' ⟨rfl, rfl⟩
                      go_wp2_with fail
                      go_roundw
                      case rel => exact ⟨i + 1, nx, true, by omega, by go_num, bp9d, hnq, (fun h => by cases h), g9.drew⟩
                      case measure => simp [intOf]; omega
                  case pos =>
                    have h4 : decide ((q : Int) ≤ (i : Int)) = false := by simp; omega
                    have h4' : decide (q ≤ i) = false := by simp; omega
                    have h5 : decide ((i : Int) < (q : Int)) = true := by simp; omega
                    have h5' : decide (i < q) = true := by simp; omega
                    obtain ⟨mb, mo, hmae, hmb, hmbl, him, hmcell⟩ := rc_at (hmw4.keep f HmB.out) hiq
                    subst hmae
                    have HmbN := hid (HmB.out mb hmb)
                    obtain ⟨Gm, hGm⟩ : ∃ Gm, made[i]'him = Gm := ⟨_, rfl⟩
                    have hig : i < G.length := by rw [Hml.out]; exact hiq
                    have hrec : recS C M wayS iu (G[i]'hig) = Gm := by
                      have h1 := Hget.out i hig
                      rw [List.getElem?_eq_getElem him, hGm, Hiu.out] at h1
                      exact (Option.some.inj h1).symm
                    rw [hGm] at hmcell
                    have Hrec := hid hrec
                    clear hrec hGm
                    have hmd : wr.drew.cell? ⟨mb, mo + i, none⟩ = some (.string Gm) := hmcell
                    have f0 := f
                    by_cases hSG : S = Gm
                    case neg =>
                      have hne : (S.toList == Gm.toList) = false := by rw [beq_str2]; exact decide_eq_false hSG
                      clear hSG
                      have hmb0 : wr.drew.drew.cell? ⟨mb, mo + i, none⟩ = some (.string Gm) := hmcell
                      have hmbl2 : mb < w4.heap.size := hmw4.lt mb hmb
                      go_wp2_with fail
                      refine wp_region_D (fun _ => True) false [] (by kernel_rfl) ?_
                      refine WD.pure [0, 1, 2, 3, 4, 5, 6, 7, 8, 9, 10, 11, 12, 13, 14] (by kernel_rfl) trivial ?_
                      simp only [pick, List.toList_toArray, List.map_cons, List.map_nil, List.getD_cons_succ, List.getD_cons_zero]
                      repeat (first | go_big_quiet_step (fail))
                      refine wpQuiet_nil ?_
                      refine WD.done (by kernel_rfl) ?_
                      go_wp2_with fail
                      have bp1 : Blk wr.drew.drew p (opL C M ⟨#[119, 97, 121]⟩ nx cl) := bp.drew.drew
                      have gd1 := (f.drew).drew
                      have hc1 : wr.drew.drew.cell? ⟨rb, ro + i, none⟩ = some (.string S) := hcell
                      refine wp_region_D (fun w' => w'.cell? ⟨rb, ro + i, none⟩ = some (.string S)) false [] (by kernel_rfl) ?_
                      refine WD.free [1, 3, 4, 5] (by kernel_rfl) hc1 ?_
                      simp only [pick, List.toList_toArray, List.map_cons, List.map_nil, List.getD_cons_succ, List.getD_cons_zero]
                      repeat (first | (refine quiet_conv_v (by rfl) _ _ _ rfl _ rfl (W64 iu) (fun wq _ => Hcv.out wq) ?_; simp only [World.size_alloc, World.size_drew, Act.put, List.setIfInBounds_toArray, List.set_cons_succ, List.set_cons_zero]) | (refine quiet_load_1S rfl _ _ rfl rfl (.string S) (fun _ h => h) _ Try.underlying9 rfl ?_; simp only [World.size_alloc, World.size_drew, Act.put, List.setIfInBounds_toArray, List.set_cons_succ, List.set_cons_zero]) | go_big_quiet_step (fail))
                      refine wpQuiet_nil ?_
                      refine WD.held [2, 6] (by kernel_rfl) hc1 ?_
                      simp only [pick, List.toList_toArray, List.map_cons, List.map_nil, List.getD_cons_succ, List.getD_cons_zero]
                      repeat (first | (refine quiet_conv_v (by rfl) _ _ _ rfl _ rfl (W64 iu) (fun wq _ => Hcv.out wq) ?_; simp only [World.size_alloc, World.size_drew, Act.put, List.setIfInBounds_toArray, List.set_cons_succ, List.set_cons_zero]) | (refine quiet_load_1S rfl _ _ rfl rfl (.string S) (fun _ h => h) _ Try.underlying9 rfl ?_; simp only [World.size_alloc, World.size_drew, Act.put, List.setIfInBounds_toArray, List.set_cons_succ, List.set_cons_zero]) | go_big_quiet_step (fail))
                      refine wpQuiet_nil ?_
                      refine WD.eff 0 (by kernel_rfl) ?_
                      simp only [pick, List.toList_toArray, List.map_cons, List.map_nil, List.getD_cons_succ, List.getD_cons_zero]
                      go_wp2_with fail
                      refine (H1.out _).mono ?_
                      rintro e w7 ⟨rfl, f7⟩
                      have hc7 := f7.cell_some hc1
                      skip
                      go_wp2_with fail
                      try refine wpList_nil ?_
                      refine AfterD.on hc7 (by kernel_rfl) ?_
                      try simp only [World.size_alloc, World.size_drew, Act.put, List.setIfInBounds_toArray, List.set_cons_succ, List.set_cons_zero]
                      refine WD.eff 7 (by kernel_rfl) ?_
                      simp only [pick, List.toList_toArray, List.map_cons, List.map_nil, List.getD_cons_succ, List.getD_cons_zero]
                      go_wp2_with fail
                      refine (HRd.out _).mono ?_
                      rintro e w8 ⟨⟨t8, rfl, _⟩, f8⟩
                      have hc8 := f8.cell_some hc7
                      go_wp2_with fail
                      try refine wpList_nil ?_
                      refine AfterD.on hc8 (by kernel_rfl) ?_
                      try simp only [World.size_alloc, World.size_drew, Act.put, List.setIfInBounds_toArray, List.set_cons_succ, List.set_cons_zero]
                      refine WD.pure [8, 9, 10, 11, 12] (by kernel_rfl) hc8 ?_
                      simp only [pick, List.toList_toArray, List.map_cons, List.map_nil, List.getD_cons_succ, List.getD_cons_zero]
                      repeat (first | (refine quiet_conv_v (by rfl) _ _ _ rfl _ rfl (W64 iu) (fun wq _ => Hcv.out wq) ?_; simp only [World.size_alloc, World.size_drew, Act.put, List.setIfInBounds_toArray, List.set_cons_succ, List.set_cons_zero]) | (refine quiet_load_1S rfl _ _ rfl rfl (.string S) (fun _ h => h) _ Try.underlying9 rfl ?_; simp only [World.size_alloc, World.size_drew, Act.put, List.setIfInBounds_toArray, List.set_cons_succ, List.set_cons_zero]) | go_big_quiet_step (fail))
                      refine wpQuiet_nil ?_
                      refine WD.done (by kernel_rfl) ?_
                      have bp8 := f8.blk (f7.blk bp1 (by simp)) (by simp)
                      have g8 := (gd1.trans f7 (by simp)).trans f8 (by simp)
                      have f78 := f7.trans' f8
                      have hm8 : w8.cell? ⟨mb, mo + i, none⟩ = some (.string Gm) := f78.cell_some hmb0
                      clear bp f hcell hc7 f7 f8 HRd gd1 hc1 bp1
                      cases fo
                      case true =>
                        go_wp2_with fail
                        refine works_any.mono ?_
                        rintro e w9 ⟨rfl, f9⟩
                        go_wp2_with fail
                        go_ret
                        exact ⟨rfl, (g4.trans g8 HwS.out).trans' f9⟩
                      case false =>
                        obtain ⟨E, hE0, HO⟩ := HO0.out rfl
                        go_wp2_with fail
                        refine (closed_any bp8).mono ?_
                        rintro e w' ⟨rfl, rfl⟩
                        go_wp2_with fail
                        refine (HO _ bp8).mono ?_
                        rintro e w9 ⟨rfl, bp9, f9⟩
                        have hc9 : w9.cell? ⟨rb, ro + i, none⟩ = some (.string S) := (World.cell?_of_block (w := w8) (f9.block rb (by have := g8.size; omega) HrbN.out)).trans hc8
                        have g9 := g8.trans f9 (fun x hx => .inl hx)
                        clear HO HO0 bp8 hc8 g8
                        go_wp2_with fail
                        have bp9d := bp9.drew
                        have hc9d : w9.drew.cell? ⟨rb, ro + i, none⟩ = some (.string S) := hc9
                        have hm9d : w9.drew.cell? ⟨mb, mo + i, none⟩ = some (.string Gm) := (World.cell?_of_block (w := w4) (g9.block mb hmbl2 HmbN.out)).trans ((World.cell?_of_block (w := w4) (f0.block mb hmbl2 HmbN.out)).symm.trans hmcell)
                        refine wp_region_D (fun _ => True) false [] (by kernel_rfl) ?_
                        refine WD.pure [0, 1, 2, 3, 4, 5, 6, 7, 8, 9, 10, 11, 12, 13, 14, 15, 16, 17, 18] (by kernel_rfl) trivial ?_
                        simp only [pick, List.toList_toArray, List.map_cons, List.map_nil, List.getD_cons_succ, List.getD_cons_zero]
                        repeat (first | go_big_quiet_step (fail))
                        refine wpQuiet_nil ?_
                        refine WD.done (by kernel_rfl) ?_
                        go_wp2_with fail
                        refine (closed_any bp9d).mono ?_
                        rintro e w' ⟨rfl, rfl⟩
                        go_wp2_with fail
                        go_roundw
                        case rel => exact ⟨i + 1, nx, true, by omega, by go_num, bp9d, hnq, (fun h => by cases h), g9.drew⟩
                        case measure => simp [intOf]; omega
                    case pos =>
                      subst hSG
                      clear HRd HO0
                      have hFs : (G[i]'hig).size ≤ 8192 := Hfs.out _ (List.getElem_mem _)
                      have hmbl2 : mb < w4.heap.size := hmw4.lt mb hmb
                      cases cl
                      case true =>
                        have HO := hid fun (w0 : World) (hb : Blk w0 p (opL C M ⟨#[119, 97, 121]⟩ nx true)) => oopen_any S hb Hk.out (by omega) (by decide)
                        rw [show opnT C M ⟨#[119, 97, 121]⟩ nx true S = ⟨#[]⟩ by simp [opnT], show opnE C M ⟨#[119, 97, 121]⟩ nx true S = 3 by simp [opnE], show opnN C M ⟨#[119, 97, 121]⟩ nx true S = nx by simp [opnN], show opnC C M ⟨#[119, 97, 121]⟩ nx true S = true by simp [opnC]] at HO
                        clear hcl
                        go_wp2_with fail
                        refine wp_region_D (fun _ => True) false [] (by kernel_rfl) ?_
                        refine WD.pure [0, 1, 2, 3, 4, 5, 6, 7, 8, 9, 10, 11, 12, 13, 14] (by kernel_rfl) trivial ?_
                        simp only [pick, List.toList_toArray, List.map_cons, List.map_nil, List.getD_cons_succ, List.getD_cons_zero]
                        repeat (first | go_big_quiet_step (fail))
                        refine wpQuiet_nil ?_
                        refine WD.done (by kernel_rfl) ?_
                        go_wp2_with fail
                        refine (closed_any bp.drew).mono ?_
                        rintro e w' ⟨rfl, rfl⟩
                        go_wp2_with fail
                        refine (HO.out _ bp.drew).mono ?_
                        rintro e w9 ⟨rfl, bp9, f9⟩
                        have g9 := (f.drew).trans f9 (fun x hx => .inl hx)
                        have hc9d : w9.drew.cell? ⟨rb, ro + i, none⟩ = some (.string S) := (World.cell?_of_block (w := w4) (g9.block rb hrbl2 HrbN.out)).trans ((World.cell?_of_block (w := w4) (f.block rb hrbl2 HrbN.out)).symm.trans hcell)
                        have hm9d : w9.drew.cell? ⟨mb, mo + i, none⟩ = some (.string S) := (World.cell?_of_block (w := w4) (g9.block mb hmbl2 HmbN.out)).trans ((World.cell?_of_block (w := w4) (f.block mb hmbl2 HmbN.out)).symm.trans hmcell)
                        have hc9 : w9.cell? ⟨rb, ro + i, none⟩ = some (.string S) := hc9d
                        have bp9d := bp9.drew
                        clear bp f f0 f9 HO hcell hmcell hcd hmd
                        go_wp2_with fail
                        refine wp_region_D (fun _ => True) false [] (by kernel_rfl) ?_
                        refine WD.pure [0, 1, 2, 3, 4, 5, 6, 7, 8, 9, 10, 11, 12, 13, 14, 15, 16, 17, 18] (by kernel_rfl) trivial ?_
                        simp only [pick, List.toList_toArray, List.map_cons, List.map_nil, List.getD_cons_succ, List.getD_cons_zero]
                        repeat (first | go_big_quiet_step (fail))
                        refine wpQuiet_nil ?_
                        refine WD.done (by kernel_rfl) ?_
                        go_wp2_with fail
                        refine (closed_any bp9d).mono ?_
                        rintro e w' ⟨rfl, rfl⟩
                        go_wp2_with fail
                        go_roundw
                        case rel => exact ⟨i + 1, nx, true, by omega, by go_num, bp9d, hnq, (fun h => by cases h), g9.drew⟩
                        case measure => simp [intOf]; omega
                      case false =>
                        obtain ⟨hnx, hiq2⟩ := hcl rfl
                        rw [Hiu.out] at hnx
                        subst hnx
                        have hyes : recOk C M ⟨#[119, 97, 121]⟩ nx S = true := by rw [← Hrec.out]; exact recOk_yes C M wayS _ nx Hks.out.1 Hks.out.2 hFs
                        have htxt : recT C M ⟨#[119, 97, 121]⟩ S = G[i]'hig := by rw [← Hrec.out]; exact recT_rec C M wayS _ nx Hks.out.1 Hks.out.2 hFs
                        obtain ⟨tb, tf, htae, htb, htbl, hit, htcell⟩ := rc_at (htx4.keep f HtB.out) hiq
                        subst htae
                        have HtbN := hid (HtB.out tb htb)
                        have htbl2 : tb < w4.heap.size := htx4.lt tb htb
                        obtain ⟨Fi, hFi⟩ : ∃ Fi, G[i]'hig = Fi := ⟨_, rfl⟩
                        rw [hFi] at htxt htcell
                        have HO := hid fun (w0 : World) (hb : Blk w0 p (opL C M ⟨#[119, 97, 121]⟩ nx false)) => oopen_any S hb Hk.out (by omega) (by decide)
                        rw [show opnT C M ⟨#[119, 97, 121]⟩ nx false S = Fi by simp [opnT, hyes, htxt], show opnE C M ⟨#[119, 97, 121]⟩ nx false S = 0 by simp [opnE, hyes], show opnN C M ⟨#[119, 97, 121]⟩ nx false S = nx + 1 by simp [opnN, hyes], show opnC C M ⟨#[119, 97, 121]⟩ nx false S = false by simp [opnC, hyes]] at HO
                        have Hnx := hid (show nx + 1 = UInt64.ofNat (i + 1) by rw [← ofNat_succ64, Hiu.out])
                        have Hnq := hid (show (nx + 1).toNat ≤ q by rw [Hnx.out]; exact Nat.le_trans (ofNat64_le _) hiq)
                        clear hcl hyes htxt hFi hFs
                        go_wp2_with fail
                        refine wp_region_D (fun _ => True) false [] (by kernel_rfl) ?_
                        refine WD.pure [0, 1, 2, 3, 4, 5, 6, 7, 8, 9, 10, 11, 12, 13, 14] (by kernel_rfl) trivial ?_
                        simp only [pick, List.toList_toArray, List.map_cons, List.map_nil, List.getD_cons_succ, List.getD_cons_zero]
                        repeat (first | go_big_quiet_step (fail))
                        refine wpQuiet_nil ?_
                        refine WD.done (by kernel_rfl) ?_
                        go_wp2_with fail
                        refine (closed_any bp.drew).mono ?_
                        rintro e w' ⟨rfl, rfl⟩
                        go_wp2_with fail
                        refine (HO.out _ bp.drew).mono ?_
                        rintro e w9 ⟨rfl, bp9, f9⟩
                        have g9 := (f.drew).trans f9 (fun x hx => .inl hx)
                        have hc9d : w9.drew.cell? ⟨rb, ro + i, none⟩ = some (.string S) := (World.cell?_of_block (w := w4) (g9.block rb hrbl2 HrbN.out)).trans ((World.cell?_of_block (w := w4) (f.block rb hrbl2 HrbN.out)).symm.trans hcell)
                        have hm9d : w9.drew.cell? ⟨mb, mo + i, none⟩ = some (.string S) := (World.cell?_of_block (w := w4) (g9.block mb hmbl2 HmbN.out)).trans ((World.cell?_of_block (w := w4) (f.block mb hmbl2 HmbN.out)).symm.trans hmcell)
                        have ht9d : w9.drew.cell? ⟨tb, tf + i, none⟩ = some (.string Fi) := (World.cell?_of_block (w := w4) (g9.block tb htbl2 HtbN.out)).trans ((World.cell?_of_block (w := w4) (f.block tb htbl2 HtbN.out)).symm.trans htcell)
                        have hc9 : w9.cell? ⟨rb, ro + i, none⟩ = some (.string S) := hc9d
                        have bp9d := bp9.drew
                        clear bp f f0 f9 HO hcell hmcell hcd hmd htcell
                        go_wp2_with fail
                        refine wp_region_D (fun _ => True) false [] (by kernel_rfl) ?_
                        refine WD.pure [0, 1, 2, 3, 4, 5, 6, 7, 8, 9, 10, 11, 12, 13, 14, 15, 16, 17, 18] (by kernel_rfl) trivial ?_
                        simp only [pick, List.toList_toArray, List.map_cons, List.map_nil, List.getD_cons_succ, List.getD_cons_zero]
                        repeat (first | go_big_quiet_step (fail))
                        refine wpQuiet_nil ?_
                        refine WD.done (by kernel_rfl) ?_
                        go_wp2_with fail
                        go_roundw
                        case rel => exact ⟨i + 1, nx + 1, false, by omega, by go_num, bp9d, Hnq.out, fun _ => ⟨Hnx.out, hiq⟩, g9.drew⟩
                        case measure => simp [intOf]; omega
end Go.Proofs.Ytgbkbhklgbjgmaa.rcd
