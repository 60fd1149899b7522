/- Layer 21: RecordSizes, the walk. -/
import Derived.Test.YtgbkbhklgbjgmaaRecO
import Derived.Test.YtgbkbhklgbjgmaaGArgs
namespace Go.Proofs.Ytgbkbhklgbjgmaa.rcd
open Go Go.Xr Go.RowKit
set_option linter.unusedVariables false
set_option linter.unusedSimpArgs false
attribute [local go_sem] eqgA eqgB eql_u64 eql_u64_c neq_u64 neq_u64_c add_u64_c
def aS : ByteArray := ⟨#[97]⟩
def anS : ByteArray := ⟨#[97, 110, 111, 116, 104, 101, 114, 32, 111, 110, 101]⟩
set_option maxRecDepth 20000 in
set_option maxHeartbeats 4000000 in
theorem sizes_walk {w : World} {v u : Value} {l : List ByteArray} {ms : List Int} {LB UB : Option Nat} (hl : Rc w 1 v l.length (l.map .string) LB) (ho : ∀ s ∈ l, s.size ≤ 140737488351232) (hlm : l.length ≤ 9223372036854775807) (hu : Rc w 1 u ms.length (ms.map (.int .u16)) UB) (hms : ∀ x ∈ ms, 0 ≤ x ∧ x ≤ 65535) :
    Calls Try.prog 6 #[v, u] w fun e w' => e = .returned (.bool true) ∧ Fr [] w w' := by
  obtain ⟨la, lc, rfl⟩ := hl.isSlice
  obtain ⟨ua, uc, rfl⟩ := hu.isSlice
  obtain ⟨i5, hi5, hz5, hs5, hb5⟩ := inf5
  have Hi := hid hi5
  have Hz := hid hz5
  have Hs := hid hs5
  have Hb := hid hb5
  have Hl := hid hl
  have Ho := hid ho
  have Hu := hid hu
  have Hms := hid hms
  have Hv := hid (heavy_any hl ho hlm)
  obtain ⟨HV, hHV⟩ : ∃ HV, heavyS l = HV := ⟨_, rfl⟩
  rw [hHV] at Hv
  obtain ⟨n, hn⟩ : ∃ n, l.length = n := ⟨_, rfl⟩
  have Hn := hid hn
  obtain ⟨n2, hn2⟩ : ∃ n, ms.length = n := ⟨_, rfl⟩
  have Hn2 := hid hn2
  rw [hn] at hlm Hv ⊢
  rw [hn2]
  have H1 := hid fun w0 : World => keys_of (w := w0) 1
  have H2 := hid fun w0 : World => keys_of (w := w0) 2
  obtain ⟨C1, hC1⟩ : ∃ C, kC 1 = C := ⟨_, rfl⟩
  obtain ⟨M1, hM1⟩ : ∃ C, kM 1 = C := ⟨_, rfl⟩
  obtain ⟨C2, hC2⟩ : ∃ C, kC 2 = C := ⟨_, rfl⟩
  obtain ⟨M2, hM2⟩ : ∃ C, kM 2 = C := ⟨_, rfl⟩
  have Hk1 := hid (k_may 1)
  have Hk2 := hid (k_may 2)
  have hz1 := k_sizes 1
  have hz2 := k_sizes 2
  rw [hC1, hM1] at H1 Hk1 hz1
  rw [hC2, hM2] at H2 Hk2 hz2
  have Hn1 := hid fun w0 : World => newS_any (w := w0) C1 M1 aS (by omega) (by omega) Hk1.out
  have Hn2' := hid fun w0 : World => newS_any (w := w0) C2 M2 anS (by omega) (by omega) Hk2.out
  rw [show bt 1 = .int .u8 1 from rfl] at H1
  rw [show bt 2 = .int .u8 2 from rfl] at H2
  rw [show aS = ⟨#[97]⟩ from rfl] at Hn1
  rw [show anS = ⟨#[97, 110, 111, 116, 104, 101, 114, 32, 111, 110, 101]⟩ from rfl] at Hn2'
  clear hl ho hn hn2 hu hms hHV hi5 hz5 hs5 hb5 hC1 hC2 hM1 hM2 hz1 hz2
  go_enter Try.func6, Try.ntmps6
  go_wp2_with fail
  refine Hv.out.mono ?_
  rintro e w1 ⟨rfl, f1⟩
  cases HV
  case true =>
    go_wp2_with fail
    refine works_any.mono ?_
    rintro e w5 ⟨rfl, f5⟩
    go_wp2_with fail
    go_ret
    exact ⟨rfl, f1.trans' f5⟩
  case false =>
    go_wp2_with fail
    refine (H1.out _).mono ?_
    rintro e w2 ⟨rfl, f2⟩
    go_wp2_with fail
    refine (Hn1.out _).mono ?_
    rintro e w3 ⟨p, rfl, hp3, hle3, f3⟩
    go_wp2_with fail
    refine (H2.out _).mono ?_
    rintro e w4 ⟨rfl, f4⟩
    go_wp2_with fail
    refine (Hn2'.out _).mono ?_
    rintro e w5 ⟨q, rfl, hq5, hle5, f5⟩
    have hp5 := f5.blk (f4.blk hp3 (by simp)) (by simp)
    have g2 := f1.trans' f2
    have g5 := ((g2.trans' f3).trans' f4).trans' f5
    have hpl := hp3.lt
    have e1 := g2.size
    have e2 := f4.size
    have Hqp := hid (show q ∉ [p] by simp; omega)
    have Hpq := hid (show p ∉ [q] by simp; omega)
    have Hpw := hid (show ∀ x ∈ [p], x ∈ ([] : List Nat) ∨ w.heap.size ≤ x by simp; omega)
    have Hqw := hid (show ∀ x ∈ [q], x ∈ ([] : List Nat) ∨ w.heap.size ≤ x by have := f3.size; simp; omega)
    rw [show (⟨#[97]⟩ : ByteArray) = aS from rfl] at hp5
    rw [show (⟨#[97, 110, 111, 116, 104, 101, 114, 32, 111, 110, 101]⟩ : ByteArray) = anS from rfl] at hq5
    clear hp3 g2 hpl e1 e2 f1 f2 f3 f4 f5 hle3 hle5 Hn1 Hn2'
    go_wp2_with fail
    go_loopw [9] (fun iv wr => ∃ (i : Nat) (nx1 nx2 : UInt64), i ≤ n ∧ iv = .int .i64 i ∧ Blk wr p (slL C1 M1 aS nx1) ∧ Blk wr q (slL C2 M2 anS nx2) ∧ Fr [] w wr) (fun iv _ => n - (intOf iv).toNat)
    case atStart => exact ⟨0, 0, 0, by omega, rfl, hp5, hq5, g5⟩
    case round =>
      obtain ⟨i, nx1, nx2, hi, rfl, bp, bq, f⟩ := hrel
      clear hp5 hq5 g5
      by_cases hli : i < n
      case neg =>
        have h1 : decide (i < n) = false := by simp; omega
        go_wp2_with fail
        refine works_any.mono ?_
        rintro e w8 ⟨rfl, f8⟩
        go_wp2_with fail
        go_ret
        exact ⟨rfl, f.trans' f8⟩
      case pos =>
        have h1 : decide (i < n) = true := by simp; omega
        obtain ⟨lb, off, rfl, hlbw, hcell⟩ := rc_str (wr := wr) Hl.out f i (by rw [Hn.out]; exact hli)
        obtain ⟨S, hS⟩ : ∃ S, l[i]'(by rw [Hn.out]; exact hli) = S := ⟨_, rfl⟩
        have hSo : S.size ≤ 140737488351232 := by rw [← hS]; exact Ho.out _ (List.getElem_mem _)
        rw [hS] at hcell
        clear hS
        have Hc := hid fun w0 : World => class_any (w := w0) (S.size : Int) (by omega) (by omega)
        by_cases hbig : 8192 < S.size
        case pos =>
          rw [show clsI (S.size : Int) = 0 by simp [clsI]; omega] at Hc
          go_wp2_with fail
          refine (Hc.out _).mono ?_
          rintro e w6 ⟨rfl, f6⟩
          have bp6 := f6.blk bp (by simp)
          have bq6 := f6.blk bq (by simp)
          have g6 := f.trans' f6
          clear bp bq f f6 hcell
          go_wp2_with fail
          go_roundw
          case rel => exact ⟨i + 1, nx1, nx2, by omega, by go_num, bp6, bq6, g6⟩
          case measure => simp [intOf]; omega
        case neg =>
          have hS8 : S.size ≤ 8192 := by omega
          rw [clsI_nat _ hS8] at Hc
          have hcn := clsN_le S.size
          have hcg := clsN_ge _ hS8
          obtain ⟨c, hce⟩ : ∃ c, clsN S.size = c := ⟨_, rfl⟩
          have Hce := hid hce
          rw [hce] at Hc hcn hcg
          clear hce hbig
          have hc0 : ((c : Int) == 0) = false := by simp; omega
          go_wp2_with fail
          refine (Hc.out _).mono ?_
          rintro e w6 ⟨rfl, f6⟩
          replace bp := f6.blk bp (by simp)
          replace bq := f6.blk bq (by simp)
          replace f := f.trans' f6
          replace hcell := f6.cell_some hcell
          clear f6
          have HA := hid fun (w0 : World) (h : Blk w0 p (slL C1 M1 aS nx1)) => sseal_any S h Hk1.out hS8 (by decide)
          have HR1 := hid (show (recS C1 M1 aS nx1 S).size = c + 40 by rw [recS_size _ _ _ _ _ hS8, Hce.out])
          obtain ⟨R1, hR1⟩ : ∃ R1, recS C1 M1 aS nx1 S = R1 := ⟨_, rfl⟩
          rw [hR1] at HA HR1
          clear hR1
          by_cases hm : i < n2
          case pos =>
            have hm1 : decide (i < n2) = true := by simp; omega
            obtain ⟨mb, mo, hue, hmw, hmc⟩ : ∃ mb mo, ua = some ⟨mb, mo, none⟩ ∧ mb < w.heap.size ∧ w6.cell? ⟨mb, mo + i, none⟩ = some (.int .u16 (ms[i]'(by rw [Hn2.out]; exact hm))) := by
              obtain ⟨b, o, c', hB, hv, h1, h2, h3, h4⟩ := Hu.out.some (by rw [Hn2.out]; omega)
              obtain ⟨rfl, rfl⟩ : ua = some ⟨b, o, none⟩ ∧ uc = c' := by simpa using hv
              refine ⟨b, o, rfl, h3, ?_⟩
              rw [f.cell_old (a := ⟨b, o + i, none⟩) h3, h4 i (by simp; rw [Hn2.out]; exact hm), List.getElem?_map, List.getElem?_eq_getElem (by rw [Hn2.out]; exact hm)]
              rfl
            subst hue
            have hmx := Hms.out _ (List.getElem_mem (show i < ms.length by rw [Hn2.out]; exact hm))
            obtain ⟨x, hx⟩ : ∃ x, ms[i]'(by rw [Hn2.out]; exact hm) = x := ⟨_, rfl⟩
            rw [hx] at hmc hmx
            clear hx
            have hE0 := Int.emod_nonneg x (show max 1 ((c : Int) / 2) ≠ 0 by omega)
            obtain ⟨E, hE⟩ : ∃ E : Nat, max 0 (wrap64 ((c : Int) - 4 - x % max 1 ((c : Int) / 2))) = (E : Int) := Int.eq_ofNat_of_zero_le (by omega)
            have hEb : E ≤ 16384 := by
              have := hE
              have hl2 := Int.emod_lt_of_pos x (show 0 < max 1 ((c : Int) / 2) by omega)
              rw [IntWalk.wrap64_in _ ⟨by omega, by omega⟩] at this
              omega
            clear hE0
            by_cases h8 : 8192 < E
            case pos =>
              have hd8 : decide (8192 < (E : Int)) = true := by simp; omega
              have hd9 : decide (8192 < E) = true := by simp; omega
              have HN := hid (show S.size ≤ 8192 ∧ clsN S.size = c from ⟨hS8, Hce.out⟩)
              go_wp2_with fail
              refine (HA.out _ bp).mono ?_
              rintro e w8 ⟨rfl, bp8, f8⟩
              have bq8 := f8.blk bq Hqp.out
              have g8 := f.trans f8 Hpw.out
              clear bp bq f f8 HA hcell
              have hN8 : S.size ≤ 8192 := HN.out.1
              obtain ⟨L, hL⟩ : ∃ L : List UInt8, List.replicate S.size 0 = L := ⟨_, rfl⟩
              have HL := hid (show List.replicate S.size (bt 0) = bv L by rw [← hL, bv_replicate])
              have HLl := hid (show L.length = S.size by rw [← hL, List.length_replicate])
              clear hL
              go_wp2_with (first
                | (refine wpList_make1 rfl _ _ _ rfl S.size S.size .i64 .i64 rfl rfl 5 _ _ 1 Try.underlying57 Hi.out Hz.out Hs.out Hb.out rfl (Nat.le_refl _) (by omega) (by omega) ?_; intro w9 f9 hlt9 ho9; rw [HL.out] at ho9; simp only [World.size_alloc, World.size_drew, Act.put, List.setIfInBounds_toArray, List.set_cons_succ, List.set_cons_zero])
                | (refine wpList_string_of_own rfl 57 9 5 _ rfl rfl ho9 Try.underlying57 Try.underlying5 Try.underlying9 ?_; simp only [World.size_alloc, World.size_drew, Act.put, List.setIfInBounds_toArray, List.set_cons_succ, List.set_cons_zero]))
              have bp9 := f9.blk bp8 (by simp)
              have bq9 := f9.blk bq8 (by simp)
              have g9 := g8.trans' f9
              clear bp8 bq8 g8 f9 hlt9 ho9
              obtain ⟨D, hD⟩ : ∃ D : ByteArray, ⟨L.toArray⟩ = D := ⟨_, rfl⟩
              have hDs : D.size = S.size := by rw [← hD, size_mk', HLl.out]
              rw [hD]
              have Hb2 := hid (sseal_any D bq9 Hk2.out (by omega) (by decide))
              have hR2 : (recS C2 M2 anS nx2 D).size = c + 40 := by rw [recS_size _ _ _ _ _ (by omega), hDs, HN.out.2]
              obtain ⟨R2, hR2e⟩ : ∃ R2, recS C2 M2 anS nx2 D = R2 := ⟨_, rfl⟩
              rw [hR2e] at Hb2 hR2
              have hs1 : ((R1.size : Int) != (R2.size : Int)) = false := by rw [HR1.out, hR2]; simp
              have hs2 : decide ((R1.size : Int) < (c : Int)) = false := by have := HR1.out; simp; omega
              have hs3 : decide (R1.size < c) = false := by have := HR1.out; simp; omega
              clear hD hR2e bq9 hDs hR2
              refine (Hb2.out).mono ?_
              rintro e w10 ⟨rfl, bq10, f10⟩
              have bp10 := f10.blk bp9 Hpq.out
              have g10 := g9.trans f10 Hqw.out
              clear bp9 g9 f10 Hb2
              go_wp2_with fail
              go_roundw
              case rel => exact ⟨i + 1, nx1 + 1, nx2 + 1, by omega, by go_num, bp10, bq10, g10⟩
              case measure => simp [intOf]; omega
            case neg =>
              have hd8 : decide (8192 < (E : Int)) = false := by simp; omega
              have hd9 : decide (8192 < E) = false := by simp; omega
              have HcE := hid fun w0 : World => class_in (w := w0) E (by omega)
              obtain ⟨K, hK⟩ : ∃ K, clsN E = K := ⟨_, rfl⟩
              have HK := hid hK
              rw [hK] at HcE
              clear hK
              by_cases hK : K = c
              case pos =>
                have hK2 : ((K : Int) != (c : Int)) = false := by rw [hK]; simp
                have HN := hid (show E ≤ 8192 ∧ clsN E = c from ⟨by omega, HK.out.trans hK⟩)
                clear hK
                go_wp2_with fail
                refine (HcE.out _).mono ?_
                rintro e w7 ⟨rfl, f7⟩
                replace bp := f7.blk bp (by simp)
                replace bq := f7.blk bq (by simp)
                replace f := f.trans' f7
                replace hcell := f7.cell_some hcell
                clear f7
                go_wp2_with fail
                refine (HA.out _ bp).mono ?_
                rintro e w8 ⟨rfl, bp8, f8⟩
                have bq8 := f8.blk bq Hqp.out
                have g8 := f.trans f8 Hpw.out
                clear bp bq f f8 HA hcell
                have hN8 : E ≤ 8192 := HN.out.1
                obtain ⟨L, hL⟩ : ∃ L : List UInt8, List.replicate E 0 = L := ⟨_, rfl⟩
                have HL := hid (show List.replicate E (bt 0) = bv L by rw [← hL, bv_replicate])
                have HLl := hid (show L.length = E by rw [← hL, List.length_replicate])
                clear hL
                go_wp2_with (first
                  | (refine wpList_make1 rfl _ _ _ rfl E E .i64 .i64 rfl rfl 5 _ _ 1 Try.underlying57 Hi.out Hz.out Hs.out Hb.out rfl (Nat.le_refl _) (by omega) (by omega) ?_; intro w9 f9 hlt9 ho9; rw [HL.out] at ho9; simp only [World.size_alloc, World.size_drew, Act.put, List.setIfInBounds_toArray, List.set_cons_succ, List.set_cons_zero])
                  | (refine wpList_string_of_own rfl 57 9 5 _ rfl rfl ho9 Try.underlying57 Try.underlying5 Try.underlying9 ?_; simp only [World.size_alloc, World.size_drew, Act.put, List.setIfInBounds_toArray, List.set_cons_succ, List.set_cons_zero]))
                have bp9 := f9.blk bp8 (by simp)
                have bq9 := f9.blk bq8 (by simp)
                have g9 := g8.trans' f9
                clear bp8 bq8 g8 f9 hlt9 ho9
                obtain ⟨D, hD⟩ : ∃ D : ByteArray, ⟨L.toArray⟩ = D := ⟨_, rfl⟩
                have hDs : D.size = E := by rw [← hD, size_mk', HLl.out]
                rw [hD]
                have Hb2 := hid (sseal_any D bq9 Hk2.out (by omega) (by decide))
                have hR2 : (recS C2 M2 anS nx2 D).size = c + 40 := by rw [recS_size _ _ _ _ _ (by omega), hDs, HN.out.2]
                obtain ⟨R2, hR2e⟩ : ∃ R2, recS C2 M2 anS nx2 D = R2 := ⟨_, rfl⟩
                rw [hR2e] at Hb2 hR2
                have hs1 : ((R1.size : Int) != (R2.size : Int)) = false := by rw [HR1.out, hR2]; simp
                have hs2 : decide ((R1.size : Int) < (c : Int)) = false := by have := HR1.out; simp; omega
                have hs3 : decide (R1.size < c) = false := by have := HR1.out; simp; omega
                clear hD hR2e bq9 hDs hR2
                refine (Hb2.out).mono ?_
                rintro e w10 ⟨rfl, bq10, f10⟩
                have bp10 := f10.blk bp9 Hpq.out
                have g10 := g9.trans f10 Hqw.out
                clear bp9 g9 f10 Hb2
                go_wp2_with fail
                go_roundw
                case rel => exact ⟨i + 1, nx1 + 1, nx2 + 1, by omega, by go_num, bp10, bq10, g10⟩
                case measure => simp [intOf]; omega
              case neg =>
                have hK2 : ((K : Int) != (c : Int)) = true := by simp; omega
                have HN := hid (show S.size ≤ 8192 ∧ clsN S.size = c from ⟨hS8, Hce.out⟩)
                go_wp2_with fail
                refine (HcE.out _).mono ?_
                rintro e w7 ⟨rfl, f7⟩
                replace bp := f7.blk bp (by simp)
                replace bq := f7.blk bq (by simp)
                replace f := f.trans' f7
                replace hcell := f7.cell_some hcell
                clear f7
                go_wp2_with fail
                refine (HA.out _ bp).mono ?_
                rintro e w8 ⟨rfl, bp8, f8⟩
                have bq8 := f8.blk bq Hqp.out
                have g8 := f.trans f8 Hpw.out
                clear bp bq f f8 HA hcell
                have hN8 : S.size ≤ 8192 := HN.out.1
                obtain ⟨L, hL⟩ : ∃ L : List UInt8, List.replicate S.size 0 = L := ⟨_, rfl⟩
                have HL := hid (show List.replicate S.size (bt 0) = bv L by rw [← hL, bv_replicate])
                have HLl := hid (show L.length = S.size by rw [← hL, List.length_replicate])
                clear hL
                go_wp2_with (first
                  | (refine wpList_make1 rfl _ _ _ rfl S.size S.size .i64 .i64 rfl rfl 5 _ _ 1 Try.underlying57 Hi.out Hz.out Hs.out Hb.out rfl (Nat.le_refl _) (by omega) (by omega) ?_; intro w9 f9 hlt9 ho9; rw [HL.out] at ho9; simp only [World.size_alloc, World.size_drew, Act.put, List.setIfInBounds_toArray, List.set_cons_succ, List.set_cons_zero])
                  | (refine wpList_string_of_own rfl 57 9 5 _ rfl rfl ho9 Try.underlying57 Try.underlying5 Try.underlying9 ?_; simp only [World.size_alloc, World.size_drew, Act.put, List.setIfInBounds_toArray, List.set_cons_succ, List.set_cons_zero]))
                have bp9 := f9.blk bp8 (by simp)
                have bq9 := f9.blk bq8 (by simp)
                have g9 := g8.trans' f9
                clear bp8 bq8 g8 f9 hlt9 ho9
                obtain ⟨D, hD⟩ : ∃ D : ByteArray, ⟨L.toArray⟩ = D := ⟨_, rfl⟩
                have hDs : D.size = S.size := by rw [← hD, size_mk', HLl.out]
                rw [hD]
                have Hb2 := hid (sseal_any D bq9 Hk2.out (by omega) (by decide))
                have hR2 : (recS C2 M2 anS nx2 D).size = c + 40 := by rw [recS_size _ _ _ _ _ (by omega), hDs, HN.out.2]
                obtain ⟨R2, hR2e⟩ : ∃ R2, recS C2 M2 anS nx2 D = R2 := ⟨_, rfl⟩
                rw [hR2e] at Hb2 hR2
                have hs1 : ((R1.size : Int) != (R2.size : Int)) = false := by rw [HR1.out, hR2]; simp
                have hs2 : decide ((R1.size : Int) < (c : Int)) = false := by have := HR1.out; simp; omega
                have hs3 : decide (R1.size < c) = false := by have := HR1.out; simp; omega
                clear hD hR2e bq9 hDs hR2
                refine (Hb2.out).mono ?_
                rintro e w10 ⟨rfl, bq10, f10⟩
                have bp10 := f10.blk bp9 Hpq.out
                have g10 := g9.trans f10 Hqw.out
                clear bp9 g9 f10 Hb2
                go_wp2_with fail
                go_roundw
                case rel => exact ⟨i + 1, nx1 + 1, nx2 + 1, by omega, by go_num, bp10, bq10, g10⟩
                case measure => simp [intOf]; omega
          case neg =>
            have hm1 : decide (i < n2) = false := by simp; omega
            obtain ⟨E, hE⟩ : ∃ E : Nat, (c : Int) - 4 = (E : Int) := Int.eq_ofNat_of_zero_le (by omega)
            by_cases h8 : 8192 < E
            case pos =>
              have hd8 : decide (8192 < (E : Int)) = true := by simp; omega
              have hd9 : decide (8192 < E) = true := by simp; omega
              have HN := hid (show S.size ≤ 8192 ∧ clsN S.size = c from ⟨hS8, Hce.out⟩)
              go_wp2_with fail
              refine (HA.out _ bp).mono ?_
              rintro e w8 ⟨rfl, bp8, f8⟩
              have bq8 := f8.blk bq Hqp.out
              have g8 := f.trans f8 Hpw.out
              clear bp bq f f8 HA hcell
              have hN8 : S.size ≤ 8192 := HN.out.1
              obtain ⟨L, hL⟩ : ∃ L : List UInt8, List.replicate S.size 0 = L := ⟨_, rfl⟩
              have HL := hid (show List.replicate S.size (bt 0) = bv L by rw [← hL, bv_replicate])
              have HLl := hid (show L.length = S.size by rw [← hL, List.length_replicate])
              clear hL
              go_wp2_with (first
                | (refine wpList_make1 rfl _ _ _ rfl S.size S.size .i64 .i64 rfl rfl 5 _ _ 1 Try.underlying57 Hi.out Hz.out Hs.out Hb.out rfl (Nat.le_refl _) (by omega) (by omega) ?_; intro w9 f9 hlt9 ho9; rw [HL.out] at ho9; simp only [World.size_alloc, World.size_drew, Act.put, List.setIfInBounds_toArray, List.set_cons_succ, List.set_cons_zero])
                | (refine wpList_string_of_own rfl 57 9 5 _ rfl rfl ho9 Try.underlying57 Try.underlying5 Try.underlying9 ?_; simp only [World.size_alloc, World.size_drew, Act.put, List.setIfInBounds_toArray, List.set_cons_succ, List.set_cons_zero]))
              have bp9 := f9.blk bp8 (by simp)
              have bq9 := f9.blk bq8 (by simp)
              have g9 := g8.trans' f9
              clear bp8 bq8 g8 f9 hlt9 ho9
              obtain ⟨D, hD⟩ : ∃ D : ByteArray, ⟨L.toArray⟩ = D := ⟨_, rfl⟩
              have hDs : D.size = S.size := by rw [← hD, size_mk', HLl.out]
              rw [hD]
              have Hb2 := hid (sseal_any D bq9 Hk2.out (by omega) (by decide))
              have hR2 : (recS C2 M2 anS nx2 D).size = c + 40 := by rw [recS_size _ _ _ _ _ (by omega), hDs, HN.out.2]
              obtain ⟨R2, hR2e⟩ : ∃ R2, recS C2 M2 anS nx2 D = R2 := ⟨_, rfl⟩
              rw [hR2e] at Hb2 hR2
              have hs1 : ((R1.size : Int) != (R2.size : Int)) = false := by rw [HR1.out, hR2]; simp
              have hs2 : decide ((R1.size : Int) < (c : Int)) = false := by have := HR1.out; simp; omega
              have hs3 : decide (R1.size < c) = false := by have := HR1.out; simp; omega
              clear hD hR2e bq9 hDs hR2
              refine (Hb2.out).mono ?_
              rintro e w10 ⟨rfl, bq10, f10⟩
              have bp10 := f10.blk bp9 Hpq.out
              have g10 := g9.trans f10 Hqw.out
              clear bp9 g9 f10 Hb2
              go_wp2_with fail
              go_roundw
              case rel => exact ⟨i + 1, nx1 + 1, nx2 + 1, by omega, by go_num, bp10, bq10, g10⟩
              case measure => simp [intOf]; omega
            case neg =>
              have hd8 : decide (8192 < (E : Int)) = false := by simp; omega
              have hd9 : decide (8192 < E) = false := by simp; omega
              have HcE := hid fun w0 : World => class_in (w := w0) E (by omega)
              obtain ⟨K, hK⟩ : ∃ K, clsN E = K := ⟨_, rfl⟩
              have HK := hid hK
              rw [hK] at HcE
              clear hK
              by_cases hK : K = c
              case pos =>
                have hK2 : ((K : Int) != (c : Int)) = false := by rw [hK]; simp
                have HN := hid (show E ≤ 8192 ∧ clsN E = c from ⟨by omega, HK.out.trans hK⟩)
                clear hK
                go_wp2_with fail
                refine (HcE.out _).mono ?_
                rintro e w7 ⟨rfl, f7⟩
                replace bp := f7.blk bp (by simp)
                replace bq := f7.blk bq (by simp)
                replace f := f.trans' f7
                replace hcell := f7.cell_some hcell
                clear f7
                go_wp2_with fail
                refine (HA.out _ bp).mono ?_
                rintro e w8 ⟨rfl, bp8, f8⟩
                have bq8 := f8.blk bq Hqp.out
                have g8 := f.trans f8 Hpw.out
                clear bp bq f f8 HA hcell
                have hN8 : E ≤ 8192 := HN.out.1
                obtain ⟨L, hL⟩ : ∃ L : List UInt8, List.replicate E 0 = L := ⟨_, rfl⟩
                have HL := hid (show List.replicate E (bt 0) = bv L by rw [← hL, bv_replicate])
                have HLl := hid (show L.length = E by rw [← hL, List.length_replicate])
                clear hL
                go_wp2_with (first
                  | (refine wpList_make1 rfl _ _ _ rfl E E .i64 .i64 rfl rfl 5 _ _ 1 Try.underlying57 Hi.out Hz.out Hs.out Hb.out rfl (Nat.le_refl _) (by omega) (by omega) ?_; intro w9 f9 hlt9 ho9; rw [HL.out] at ho9; simp only [World.size_alloc, World.size_drew, Act.put, List.setIfInBounds_toArray, List.set_cons_succ, List.set_cons_zero])
                  | (refine wpList_string_of_own rfl 57 9 5 _ rfl rfl ho9 Try.underlying57 Try.underlying5 Try.underlying9 ?_; simp only [World.size_alloc, World.size_drew, Act.put, List.setIfInBounds_toArray, List.set_cons_succ, List.set_cons_zero]))
                have bp9 := f9.blk bp8 (by simp)
                have bq9 := f9.blk bq8 (by simp)
                have g9 := g8.trans' f9
                clear bp8 bq8 g8 f9 hlt9 ho9
                obtain ⟨D, hD⟩ : ∃ D : ByteArray, ⟨L.toArray⟩ = D := ⟨_, rfl⟩
                have hDs : D.size = E := by rw [← hD, size_mk', HLl.out]
                rw [hD]
                have Hb2 := hid (sseal_any D bq9 Hk2.out (by omega) (by decide))
                have hR2 : (recS C2 M2 anS nx2 D).size = c + 40 := by rw [recS_size _ _ _ _ _ (by omega), hDs, HN.out.2]
                obtain ⟨R2, hR2e⟩ : ∃ R2, recS C2 M2 anS nx2 D = R2 := ⟨_, rfl⟩
                rw [hR2e] at Hb2 hR2
                have hs1 : ((R1.size : Int) != (R2.size : Int)) = false := by rw [HR1.out, hR2]; simp
                have hs2 : decide ((R1.size : Int) < (c : Int)) = false := by have := HR1.out; simp; omega
                have hs3 : decide (R1.size < c) = false := by have := HR1.out; simp; omega
                clear hD hR2e bq9 hDs hR2
                refine (Hb2.out).mono ?_
                rintro e w10 ⟨rfl, bq10, f10⟩
                have bp10 := f10.blk bp9 Hpq.out
                have g10 := g9.trans f10 Hqw.out
                clear bp9 g9 f10 Hb2
                go_wp2_with fail
                go_roundw
                case rel => exact ⟨i + 1, nx1 + 1, nx2 + 1, by omega, by go_num, bp10, bq10, g10⟩
                case measure => simp [intOf]; omega
              case neg =>
                have hK2 : ((K : Int) != (c : Int)) = true := by simp; omega
                have HN := hid (show S.size ≤ 8192 ∧ clsN S.size = c from ⟨hS8, Hce.out⟩)
                go_wp2_with fail
                refine (HcE.out _).mono ?_
                rintro e w7 ⟨rfl, f7⟩
                replace bp := f7.blk bp (by simp)
                replace bq := f7.blk bq (by simp)
                replace f := f.trans' f7
                replace hcell := f7.cell_some hcell
                clear f7
                go_wp2_with fail
                refine (HA.out _ bp).mono ?_
                rintro e w8 ⟨rfl, bp8, f8⟩
                have bq8 := f8.blk bq Hqp.out
                have g8 := f.trans f8 Hpw.out
                clear bp bq f f8 HA hcell
                have hN8 : S.size ≤ 8192 := HN.out.1
                obtain ⟨L, hL⟩ : ∃ L : List UInt8, List.replicate S.size 0 = L := ⟨_, rfl⟩
                have HL := hid (show List.replicate S.size (bt 0) = bv L by rw [← hL, bv_replicate])
                have HLl := hid (show L.length = S.size by rw [← hL, List.length_replicate])
                clear hL
                go_wp2_with (first
                  | (refine wpList_make1 rfl _ _ _ rfl S.size S.size .i64 .i64 rfl rfl 5 _ _ 1 Try.underlying57 Hi.out Hz.out Hs.out Hb.out rfl (Nat.le_refl _) (by omega) (by omega) ?_; intro w9 f9 hlt9 ho9; rw [HL.out] at ho9; simp only [World.size_alloc, World.size_drew, Act.put, List.setIfInBounds_toArray, List.set_cons_succ, List.set_cons_zero])
                  | (refine wpList_string_of_own rfl 57 9 5 _ rfl rfl ho9 Try.underlying57 Try.underlying5 Try.underlying9 ?_; simp only [World.size_alloc, World.size_drew, Act.put, List.setIfInBounds_toArray, List.set_cons_succ, List.set_cons_zero]))
                have bp9 := f9.blk bp8 (by simp)
                have bq9 := f9.blk bq8 (by simp)
                have g9 := g8.trans' f9
                clear bp8 bq8 g8 f9 hlt9 ho9
                obtain ⟨D, hD⟩ : ∃ D : ByteArray, ⟨L.toArray⟩ = D := ⟨_, rfl⟩
                have hDs : D.size = S.size := by rw [← hD, size_mk', HLl.out]
                rw [hD]
                have Hb2 := hid (sseal_any D bq9 Hk2.out (by omega) (by decide))
                have hR2 : (recS C2 M2 anS nx2 D).size = c + 40 := by rw [recS_size _ _ _ _ _ (by omega), hDs, HN.out.2]
                obtain ⟨R2, hR2e⟩ : ∃ R2, recS C2 M2 anS nx2 D = R2 := ⟨_, rfl⟩
                rw [hR2e] at Hb2 hR2
                have hs1 : ((R1.size : Int) != (R2.size : Int)) = false := by rw [HR1.out, hR2]; simp
                have hs2 : decide ((R1.size : Int) < (c : Int)) = false := by have := HR1.out; simp; omega
                have hs3 : decide (R1.size < c) = false := by have := HR1.out; simp; omega
                clear hD hR2e bq9 hDs hR2
                refine (Hb2.out).mono ?_
                rintro e w10 ⟨rfl, bq10, f10⟩
                have bp10 := f10.blk bp9 Hpq.out
                have g10 := g9.trans f10 Hqw.out
                clear bp9 g9 f10 Hb2
                go_wp2_with fail
                go_roundw
                case rel => exact ⟨i + 1, nx1 + 1, nx2 + 1, by omega, by go_num, bp10, bq10, g10⟩
                case measure => simp [intOf]; omega

theorem u16_of {n : Int} (h : (Lit.int .u16 n).wf = true) : 0 ≤ n ∧ n ≤ 65535 := by
  have h1 : IntKind.u16.min ≤ n ∧ n ≤ IntKind.u16.max := by simpa [Lit.wf] using h
  have h2 : IntKind.u16.min = 0 := by decide
  have h3 : IntKind.u16.max = 65535 := by decide
  omega
open Go.ChangeShapes Go.WideShapes Go.Deep in
theorem open_u16s {H : Type} {enc : TypeId × Value → H} {P : Program} {w : World} {base : Nat} {spare : Nat → Bool} {held : Bool} {t e : TypeId} (ht : P.underlying t = some (.slice e)) (he : P.underlying e = some (.int .u16)) (hC : P.cellsOf e = 1) {fuel : Nat} {cs : List Value} {x : DataW H × List MemPlace} (h : DataW.trod enc P w base spare held fuel t cs = some x) :
    ∃ (v : Value) (l : List Int) (B : Option Nat), cs = [v] ∧ Rc w 1 v l.length (l.map (.int .u16)) B ∧ (∀ x ∈ l, 0 ≤ x ∧ x ≤ 65535) ∧ l.length ≤ maxLen := by
  obtain ⟨v, l, B, h1, h2, h4, h3⟩ := open_rows (α := Int) (fun a => [.int .u16 a]) (fun x => 0 ≤ x ∧ x ≤ 65535) 1 (by decide) (fun _ => rfl) ht hC (fun n cs x hx => by
    obtain ⟨b, hb, _, hw⟩ := DataW.trod_int he hx
    exact ⟨_, hb, u16_of hw⟩) h
  rw [flat_one] at h2
  exact ⟨v, l, B, h1, h2, h4, h3⟩
end Go.Proofs.Ytgbkbhklgbjgmaa.rcd
