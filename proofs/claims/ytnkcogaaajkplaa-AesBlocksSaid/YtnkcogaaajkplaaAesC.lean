/- Layer 3, the document's aes: what stands for a byte. -/
import Derived.Test.YtnkcogaaajkplaaAesB
import Derived.Test.YtnkcogaaajkplaaAesI
namespace Go.Proofs.Ytnkcogaaajkplaa
open Go Go.Xr Go.RowKit
set_option linter.unusedVariables false
set_option linter.unusedSimpArgs false

attribute [local go_sem] xor_u8 xor_u8_c or_u8 and_u8_c shl_u8 shr_u8 mul_u8_c add_u8_c eql_u8_c neq_u8_c eqg_u8_c neg_u8_c

theorem pw_zero : pw 0 254 = 0 := by decide +kernel

set_option maxRecDepth 20000 in
theorem rsub_any {w : World} (b : UInt8) : Calls Try.prog 9 #[bt b] w fun e w' => e = .returned (bt (subS b)) ∧ w = w' := by
  obtain ⟨C, hC⟩ : ∃ C, pw b 254 = C := ⟨_, rfl⟩
  obtain ⟨T, hT⟩ : ∃ T, subS b = T := ⟨_, rfl⟩
  rw [hT]
  have HT : Hid (ry C 5 = T) := by rw [← hT, ← hC]; exact hid (aff_eq _)
  have hz : b.toNat = 0 → C = 0 := fun h => by
    have e : b = 0 := UInt8.toNat_inj.1 h
    rw [← hC, e, pw_zero]
  have hi := inv_spec b
  rw [hC] at hi
  clear hC hT
  have hb : (Hid (b.toNat = 0) ∧ ((b.toNat : Int) != 0) = false) ∨ (Hid (b.toNat ≠ 0) ∧ ((b.toNat : Int) != 0) = true) := by
    by_cases h : b.toNat = 0
    · exact .inl ⟨hid h, by rw [h]; rfl⟩
    · exact .inr ⟨hid h, by simp only [bne_iff_ne, ne_eq]; omega⟩
  rcases hb with ⟨h, hd⟩ | ⟨h, hd⟩
  case inl =>
    obtain rfl := hz h.out
    clear hz hi h
    go_enter Try.func9, Try.ntmps9
    go_wp2_with fail
    obtain ⟨C, hC⟩ : ∃ C : UInt8, C = 0 := ⟨_, rfl⟩
    rw [← hC] at HT
    rw [show Value.int .u8 0 = bt C by rw [hC]; rfl]
    clear hC
    go_loopw [4, 5] (fun xv iv wr => ∃ i : Nat, i ≤ 5 ∧ iv = .int .u64 i ∧ xv = bt (ry C i) ∧ w = wr) (fun _ iv _ => 5 - (intOf iv).toNat)
    case atStart => exact ⟨0, by omega, rfl, rfl, rfl⟩
    case round =>
      obtain ⟨i, hi5, rfl, rfl, rfl⟩ := hrel
      by_cases hlt : i < 5
      · have hd5 : decide ((i : Int) < 5) = true := by simp; omega
        have hm1 : (i : Int) ≤ 8 := by omega
        have hm2 : (8 - (i : Int)).toNat = 8 - i := by omega
        go_wp2_with fail
        go_roundw
        case rel => exact ⟨i + 1, by omega, by go_num, rfl, trivial⟩
        case measure => simp [intOf]; omega
      · have hd5 : decide ((i : Int) < 5) = false := by simp; omega
        have HT2 := hid (show ry C i = T by rw [← HT.out, show i = 5 by omega])
        clear hlt
        go_wp2_with fail
        go_ret
        rw [HT2.out]
        exact ⟨rfl, rfl⟩
  case inr =>
    have Hi := hid (hi h.out)
    clear hz hi h
    go_enter Try.func9, Try.ntmps9
    go_wp2_with fail
    go_loopw [3] (fun cv wr => ∃ j : Nat, j ≤ C.toNat ∧ cv = bt (UInt8.ofNat j) ∧ w = wr) (fun cv _ => C.toNat - (intOf cv).toNat)
    case atStart => exact ⟨0, by omega, rfl, rfl⟩
    case round =>
      obtain ⟨j, hj, rfl, rfl⟩ := hrel
      have hCl := C.toNat_lt
      have e0 : (UInt8.ofNat j).toNat = j := by rw [UInt8.toNat_ofNat']; omega
      by_cases hlt : j < C.toNat
      · have h1 : ((times b (UInt8.ofNat j)).toNat : Int) ≠ 1 := by have := Hi.out.2 j hlt; omega
        have hd1 : (((times b (UInt8.ofNat j)).toNat : Int) != 1) = true := by simpa using h1
        have e1 := hid (show UInt8.ofNat j + c8 1 = UInt8.ofNat (j + 1) from (UInt8.ofNat_add j 1).symm)
        have e2 : (UInt8.ofNat (j + 1)).toNat = j + 1 := by rw [UInt8.toNat_ofNat']; omega
        go_wp2_with (go_at_call 7; refine (rtimes_any _ _).mono ?_; rintro e w' ⟨rfl, rfl⟩)
        go_roundw
        case rel => exact ⟨j + 1, by omega, by rw [e1.out], trivial⟩
        case measure => rw [e1.out]; simp only [bt, intOf, e0, e2]; omega
      · have ej : UInt8.ofNat j = C := UInt8.toNat_inj.1 (by omega)
        have h1 : ((times b (UInt8.ofNat j)).toNat : Int) = 1 := by have := Hi.out.1; rw [ej]; omega
        have hd1 : (((times b (UInt8.ofNat j)).toNat : Int) != 1) = false := by rw [h1]; rfl
        rw [ej] at hd1 ⊢
        clear h1 ej hlt e0
        go_wp2_with (go_at_call 7; refine (rtimes_any _ _).mono ?_; rintro e w' ⟨rfl, rfl⟩)
        clear hd1
        go_loopw [4, 5] (fun xv iv wr => ∃ i : Nat, i ≤ 5 ∧ iv = .int .u64 i ∧ xv = bt (ry C i) ∧ w = wr) (fun _ iv _ => 5 - (intOf iv).toNat)
        case atStart => exact ⟨0, by omega, rfl, rfl, rfl⟩
        case round =>
          obtain ⟨i, hi5, rfl, rfl, rfl⟩ := hrel
          by_cases hlt : i < 5
          · have hd5 : decide ((i : Int) < 5) = true := by simp; omega
            have hm1 : (i : Int) ≤ 8 := by omega
            have hm2 : (8 - (i : Int)).toNat = 8 - i := by omega
            go_wp2_with fail
            go_roundw
            case rel => exact ⟨i + 1, by omega, by go_num, rfl, trivial⟩
            case measure => simp [intOf]; omega
          · have hd5 : decide ((i : Int) < 5) = false := by simp; omega
            have HT2 := hid (show ry C i = T by rw [← HT.out, show i = 5 by omega])
            clear hlt
            go_wp2_with fail
            go_ret
            rw [HT2.out]
            exact ⟨rfl, rfl⟩
end Go.Proofs.Ytnkcogaaajkplaa
