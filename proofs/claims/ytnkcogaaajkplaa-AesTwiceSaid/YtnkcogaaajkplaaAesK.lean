/- Layer 3, aes: the table of what stands for a byte, checked over numbers (no program). -/
import Derived.Test.YtnkcogaaajkplaaAesI
namespace Go.Xr
open Go
set_option linter.unusedVariables false
def subTN : List Nat := [99, 124, 119, 123, 242, 107, 111, 197, 48, 1, 103, 43, 254, 215, 171, 118, 202, 130, 201, 125, 250, 89, 71, 240, 173, 212, 162, 175, 156, 164, 114, 192, 183, 253, 147, 38, 54, 63, 247, 204, 52, 165, 229, 241, 113, 216, 49, 21, 4, 199, 35, 195, 24, 150, 5, 154, 7, 18, 128, 226, 235, 39, 178, 117, 9, 131, 44, 26, 27, 110, 90, 160, 82, 59, 214, 179, 41, 227, 47, 132, 83, 209, 0, 237, 32, 252, 177, 91, 106, 203, 190, 57, 74, 76, 88, 207, 208, 239, 170, 251, 67, 77, 51, 133, 69, 249, 2, 127, 80, 60, 159, 168, 81, 163, 64, 143, 146, 157, 56, 245, 188, 182, 218, 33, 16, 255, 243, 210, 205, 12, 19, 236, 95, 151, 68, 23, 196, 167, 126, 61, 100, 93, 25, 115, 96, 129, 79, 220, 34, 42, 144, 136, 70, 238, 184, 20, 222, 94, 11, 219, 224, 50, 58, 10, 73, 6, 36, 92, 194, 211, 172, 98, 145, 149, 228, 121, 231, 200, 55, 109, 141, 213, 78, 169, 108, 86, 244, 234, 101, 122, 174, 8, 186, 120, 37, 46, 28, 166, 180, 198, 232, 221, 116, 31, 75, 189, 139, 138, 112, 62, 181, 102, 72, 3, 246, 14, 97, 53, 87, 185, 134, 193, 29, 158, 225, 248, 152, 17, 105, 217, 142, 148, 155, 30, 135, 233, 206, 85, 40, 223, 140, 161, 137, 13, 191, 230, 66, 104, 65, 153, 45, 15, 176, 84, 187, 22]
def unsTN : List Nat := [82, 9, 106, 213, 48, 54, 165, 56, 191, 64, 163, 158, 129, 243, 215, 251, 124, 227, 57, 130, 155, 47, 255, 135, 52, 142, 67, 68, 196, 222, 233, 203, 84, 123, 148, 50, 166, 194, 35, 61, 238, 76, 149, 11, 66, 250, 195, 78, 8, 46, 161, 102, 40, 217, 36, 178, 118, 91, 162, 73, 109, 139, 209, 37, 114, 248, 246, 100, 134, 104, 152, 22, 212, 164, 92, 204, 93, 101, 182, 146, 108, 112, 72, 80, 253, 237, 185, 218, 94, 21, 70, 87, 167, 141, 157, 132, 144, 216, 171, 0, 140, 188, 211, 10, 247, 228, 88, 5, 184, 179, 69, 6, 208, 44, 30, 143, 202, 63, 15, 2, 193, 175, 189, 3, 1, 19, 138, 107, 58, 145, 17, 65, 79, 103, 220, 234, 151, 242, 207, 206, 240, 180, 230, 115, 150, 172, 116, 34, 231, 173, 53, 133, 226, 249, 55, 232, 28, 117, 223, 110, 71, 241, 26, 113, 29, 41, 197, 137, 111, 183, 98, 14, 170, 24, 190, 27, 252, 86, 62, 75, 198, 210, 121, 32, 154, 219, 192, 254, 120, 205, 90, 244, 31, 221, 168, 51, 136, 7, 199, 49, 177, 18, 16, 89, 39, 128, 236, 95, 96, 81, 127, 169, 25, 181, 74, 13, 45, 229, 122, 159, 147, 201, 156, 239, 160, 224, 59, 77, 174, 42, 245, 176, 200, 235, 187, 60, 131, 83, 153, 97, 23, 43, 4, 126, 186, 119, 214, 38, 225, 105, 20, 99, 85, 33, 12, 125]
def subT : List UInt8 := subTN.map UInt8.ofNat
def unsT : List UInt8 := unsTN.map UInt8.ofNat
theorem subTN_len : subTN.length = 256 := by decide +kernel
theorem unsTN_len : unsTN.length = 256 := by decide +kernel
theorem subT_len : subT.length = 256 := by unfold subT; rw [List.length_map, subTN_len]
theorem unsT_len : unsT.length = 256 := by unfold unsT; rw [List.length_map, unsTN_len]
theorem subTN_lt : subTN.all (fun x => x < 256) = true := by decide +kernel
theorem unsTN_lt : unsTN.all (fun x => x < 256) = true := by decide +kernel
theorem tab_g8 (l : List Nat) (hl : l.all (fun x => x < 256) = true) (i : Nat) : (g8 (l.map UInt8.ofNat) i).toNat = l.getD i 0 := by
  unfold g8
  rw [List.getD_eq_getElem?_getD, List.getD_eq_getElem?_getD, List.getElem?_map]
  cases h : l[i]? with
  | none => rfl
  | some x =>
    have hx := List.all_eq_true.1 hl x (List.mem_of_getElem? h)
    simp only [decide_eq_true_eq] at hx
    show (UInt8.ofNat x).toNat = x
    rw [UInt8.toNat_ofNat']
    omega
theorem subT_g8 (i : Nat) : (g8 subT i).toNat = subTN.getD i 0 := tab_g8 subTN subTN_lt i
theorem unsT_g8 (i : Nat) : (g8 unsT i).toNat = unsTN.getD i 0 := tab_g8 unsTN unsTN_lt i
def rotN (c : Nat) : Nat := (c * 2 % 256) + c / 128
theorem rot_nat (c : UInt8) : (rot1 c).toNat = rotN c.toNat := by
  have := u8_every (fun c => (rot1 c).toNat == rotN c.toNat) (by decide +kernel) c
  simpa using this
def affN (c : Nat) : Nat := c ^^^ rotN c ^^^ rotN (rotN c) ^^^ rotN (rotN (rotN c)) ^^^ rotN (rotN (rotN (rotN c))) ^^^ 99
theorem aff_nat (c : UInt8) : (aff c).toNat = affN c.toNat := by
  unfold aff affN
  simp only [rx, UInt8.toNat_xor, rot_nat]
  rfl
def subOk (b : Nat) : Bool := affN (pwN b 254) == subTN.getD b 0
theorem sub_c0 : (List.range' 0 8).all subOk = true := by decide +kernel
theorem sub_c1 : (List.range' 8 8).all subOk = true := by decide +kernel
theorem sub_c2 : (List.range' 16 8).all subOk = true := by decide +kernel
theorem sub_c3 : (List.range' 24 8).all subOk = true := by decide +kernel
theorem sub_c4 : (List.range' 32 8).all subOk = true := by decide +kernel
theorem sub_c5 : (List.range' 40 8).all subOk = true := by decide +kernel
theorem sub_c6 : (List.range' 48 8).all subOk = true := by decide +kernel
theorem sub_c7 : (List.range' 56 8).all subOk = true := by decide +kernel
theorem sub_c8 : (List.range' 64 8).all subOk = true := by decide +kernel
theorem sub_c9 : (List.range' 72 8).all subOk = true := by decide +kernel
theorem sub_c10 : (List.range' 80 8).all subOk = true := by decide +kernel
theorem sub_c11 : (List.range' 88 8).all subOk = true := by decide +kernel
theorem sub_c12 : (List.range' 96 8).all subOk = true := by decide +kernel
theorem sub_c13 : (List.range' 104 8).all subOk = true := by decide +kernel
theorem sub_c14 : (List.range' 112 8).all subOk = true := by decide +kernel
theorem sub_c15 : (List.range' 120 8).all subOk = true := by decide +kernel
theorem sub_c16 : (List.range' 128 8).all subOk = true := by decide +kernel
theorem sub_c17 : (List.range' 136 8).all subOk = true := by decide +kernel
theorem sub_c18 : (List.range' 144 8).all subOk = true := by decide +kernel
theorem sub_c19 : (List.range' 152 8).all subOk = true := by decide +kernel
theorem sub_c20 : (List.range' 160 8).all subOk = true := by decide +kernel
theorem sub_c21 : (List.range' 168 8).all subOk = true := by decide +kernel
theorem sub_c22 : (List.range' 176 8).all subOk = true := by decide +kernel
theorem sub_c23 : (List.range' 184 8).all subOk = true := by decide +kernel
theorem sub_c24 : (List.range' 192 8).all subOk = true := by decide +kernel
theorem sub_c25 : (List.range' 200 8).all subOk = true := by decide +kernel
theorem sub_c26 : (List.range' 208 8).all subOk = true := by decide +kernel
theorem sub_c27 : (List.range' 216 8).all subOk = true := by decide +kernel
theorem sub_c28 : (List.range' 224 8).all subOk = true := by decide +kernel
theorem sub_c29 : (List.range' 232 8).all subOk = true := by decide +kernel
theorem sub_c30 : (List.range' 240 8).all subOk = true := by decide +kernel
theorem sub_c31 : (List.range' 248 8).all subOk = true := by decide +kernel
theorem sub_at (n : Nat) (h2 : n < 256) : subOk n = true := by
  have key : ∀ s m, (List.range' s m).all subOk = true → s ≤ n → n < s + m → subOk n = true := fun s m h a b => List.all_eq_true.1 h n (by rw [List.mem_range'_1]; omega)
  by_cases g0 : n < 8
  · exact key _ _ sub_c0 (by omega) (by omega)
  by_cases g1 : n < 16
  · exact key _ _ sub_c1 (by omega) (by omega)
  by_cases g2 : n < 24
  · exact key _ _ sub_c2 (by omega) (by omega)
  by_cases g3 : n < 32
  · exact key _ _ sub_c3 (by omega) (by omega)
  by_cases g4 : n < 40
  · exact key _ _ sub_c4 (by omega) (by omega)
  by_cases g5 : n < 48
  · exact key _ _ sub_c5 (by omega) (by omega)
  by_cases g6 : n < 56
  · exact key _ _ sub_c6 (by omega) (by omega)
  by_cases g7 : n < 64
  · exact key _ _ sub_c7 (by omega) (by omega)
  by_cases g8 : n < 72
  · exact key _ _ sub_c8 (by omega) (by omega)
  by_cases g9 : n < 80
  · exact key _ _ sub_c9 (by omega) (by omega)
  by_cases g10 : n < 88
  · exact key _ _ sub_c10 (by omega) (by omega)
  by_cases g11 : n < 96
  · exact key _ _ sub_c11 (by omega) (by omega)
  by_cases g12 : n < 104
  · exact key _ _ sub_c12 (by omega) (by omega)
  by_cases g13 : n < 112
  · exact key _ _ sub_c13 (by omega) (by omega)
  by_cases g14 : n < 120
  · exact key _ _ sub_c14 (by omega) (by omega)
  by_cases g15 : n < 128
  · exact key _ _ sub_c15 (by omega) (by omega)
  by_cases g16 : n < 136
  · exact key _ _ sub_c16 (by omega) (by omega)
  by_cases g17 : n < 144
  · exact key _ _ sub_c17 (by omega) (by omega)
  by_cases g18 : n < 152
  · exact key _ _ sub_c18 (by omega) (by omega)
  by_cases g19 : n < 160
  · exact key _ _ sub_c19 (by omega) (by omega)
  by_cases g20 : n < 168
  · exact key _ _ sub_c20 (by omega) (by omega)
  by_cases g21 : n < 176
  · exact key _ _ sub_c21 (by omega) (by omega)
  by_cases g22 : n < 184
  · exact key _ _ sub_c22 (by omega) (by omega)
  by_cases g23 : n < 192
  · exact key _ _ sub_c23 (by omega) (by omega)
  by_cases g24 : n < 200
  · exact key _ _ sub_c24 (by omega) (by omega)
  by_cases g25 : n < 208
  · exact key _ _ sub_c25 (by omega) (by omega)
  by_cases g26 : n < 216
  · exact key _ _ sub_c26 (by omega) (by omega)
  by_cases g27 : n < 224
  · exact key _ _ sub_c27 (by omega) (by omega)
  by_cases g28 : n < 232
  · exact key _ _ sub_c28 (by omega) (by omega)
  by_cases g29 : n < 240
  · exact key _ _ sub_c29 (by omega) (by omega)
  by_cases g30 : n < 248
  · exact key _ _ sub_c30 (by omega) (by omega)
  by_cases g31 : n < 256
  · exact key _ _ sub_c31 (by omega) (by omega)
  omega
theorem subT_spec (b : UInt8) : subS b = g8 subT b.toNat := by
  apply UInt8.toNat_inj.1
  have h := sub_at b.toNat b.toNat_lt
  unfold subOk at h
  rw [beq_iff_eq] at h
  rw [subT_g8, ← h, ← pw_nat, ← aff_nat]
  rfl
theorem us_N : (List.range 256).all (fun i => unsTN.getD (subTN.getD i 0) 0 == i && subTN.getD (unsTN.getD i 0) 0 == i) = true := by decide +kernel
theorem us (b : UInt8) : g8 unsT (g8 subT b.toNat).toNat = b ∧ g8 subT (g8 unsT b.toNat).toNat = b := by
  have h := List.all_eq_true.1 us_N b.toNat (List.mem_range.2 b.toNat_lt)
  simp only [Bool.and_eq_true, beq_iff_eq] at h
  exact ⟨UInt8.toNat_inj.1 (by rw [unsT_g8, subT_g8]; exact h.1), UInt8.toNat_inj.1 (by rw [subT_g8, unsT_g8]; exact h.2)⟩
theorem subS_inj (a b : UInt8) : subS a = subS b ↔ a = b := by
  constructor
  · intro h
    rw [subT_spec, subT_spec] at h
    have := (us a).1
    rw [h, (us b).1] at this
    exact this.symm
  · intro h
    rw [h]
/-- The table turned about: the first i bytes laid. -/
def unsI (sub : List UInt8) : Nat → List UInt8
  | 0 => List.replicate 256 0
  | i + 1 => (unsI sub i).set (g8 sub i).toNat (UInt8.ofNat i)
theorem unsI_len (sub : List UInt8) (i : Nat) : (unsI sub i).length = 256 := by
  induction i with
  | zero => exact List.length_replicate
  | succ i ih => rw [unsI, List.length_set, ih]
def unsIN (sub : List Nat) : Nat → List Nat
  | 0 => List.replicate 256 0
  | i + 1 => (unsIN sub i).set (sub.getD i 0) i
theorem unsI_nat (i : Nat) : unsI subT i = (unsIN subTN i).map UInt8.ofNat := by
  induction i with
  | zero => rw [unsI, unsIN, List.map_replicate]; rfl
  | succ i ih => rw [unsI, unsIN, ih, subT_g8, ← List.map_set]
theorem unsIN_all : unsIN subTN 256 = unsTN := by decide +kernel
theorem unsI_all : unsI subT 256 = unsT := by rw [unsI_nat, unsIN_all]; rfl
/-- The powers of 3, forwards and backwards. -/
def pq : Nat → UInt8 × UInt8
  | 0 => (1, 1)
  | k + 1 => (times (pq k).1 3, times (pq k).2 246)
def rz (q : UInt8) : Nat → UInt8
  | 0 => q
  | i + 1 => rz q i ^^^ (shl8 q (i + 1) ||| shr8 q (7 - i))
def tabI : Nat → List UInt8
  | 0 => List.replicate 256 0
  | k + 1 => (tabI k).set (pq (k + 1)).1.toNat (rz (pq (k + 1)).2 4 ^^^ c8 99)
theorem tabI_len (i : Nat) : (tabI i).length = 256 := by
  induction i with
  | zero => exact List.length_replicate
  | succ i ih => rw [tabI, List.length_set, ih]
theorem rz_aff (q : UInt8) : rz q 4 ^^^ c8 99 = aff q := by
  have := u8_every (fun q => rz q 4 ^^^ c8 99 == aff q) (by decide +kernel) q
  simpa using this
/-- Over numbers: k more rounds from p, q, the table t; at the end whether p was 1 at the last round alone. -/
def goN : Nat → Nat → Nat → List Nat → Bool × List Nat
  | 0, p, q, t => (p == 1, t)
  | k + 1, p, q, t =>
    let p' := timesN p 3
    let q' := timesN q 246
    let r := goN k p' q' (t.set p' (affN q'))
    ((k == 0 || p' != 1) && r.1, r.2)
theorem pq_nat (k : Nat) : (pq (k + 1)).1.toNat = timesN (pq k).1.toNat 3 ∧ (pq (k + 1)).2.toNat = timesN (pq k).2.toNat 246 := by
  constructor
  · show (times (pq k).1 3).toNat = _
    rw [times_nat]; rfl
  · show (times (pq k).2 246).toNat = _
    rw [times_nat]; rfl
theorem goN_spec : ∀ (k j : Nat) (t : List Nat), tabI j = t.map UInt8.ofNat → (goN k (pq j).1.toNat (pq j).2.toNat t).1 = true →
    (∀ i, i < k → (pq (j + i + 1)).1.toNat = 1 → i + 1 = k) ∧ (pq (j + k)).1.toNat = 1 ∧ tabI (j + k) = ((goN k (pq j).1.toNat (pq j).2.toNat t).2).map UInt8.ofNat
  | 0, j, t, ht, h => ⟨fun i hi => absurd hi (Nat.not_lt_zero _), by simpa [goN] using h, by simpa [goN] using ht⟩
  | k + 1, j, t, ht, h => by
    obtain ⟨h1, h2⟩ := pq_nat j
    simp only [goN, Bool.and_eq_true] at h
    rw [← h1, ← h2] at h
    have ht' : tabI (j + 1) = (t.set (pq (j + 1)).1.toNat (affN (pq (j + 1)).2.toNat)).map UInt8.ofNat := by
      rw [tabI, ht, List.map_set, rz_aff]
      congr 1
      apply UInt8.toNat_inj.1
      have hl : affN (pq (j + 1)).2.toNat < 256 := by rw [← aff_nat]; exact UInt8.toNat_lt _
      rw [aff_nat, UInt8.toNat_ofNat']
      omega
    obtain ⟨a, b, c⟩ := goN_spec k (j + 1) _ ht' h.2
    refine ⟨fun i hi he => ?_, by rw [show j + (k + 1) = j + 1 + k by omega]; exact b, ?_⟩
    · cases i with
      | zero =>
        have h3 := h.1
        simp only [Bool.or_eq_true, beq_iff_eq, bne_iff_ne, ne_eq] at h3
        rcases h3 with h3 | h3
        · omega
        · exact absurd he h3
      | succ i =>
        have := a i (by omega) (by rw [show j + 1 + i + 1 = j + (i + 1) + 1 by omega]; exact he)
        omega
    · rw [show j + (k + 1) = j + 1 + k by omega, c]
      simp only [goN]
      rw [← h1, ← h2]
theorem goN_ok : (goN 255 1 1 (List.replicate 256 0)).1 = true := by decide +kernel
theorem goN_tab : ((goN 255 1 1 (List.replicate 256 0)).2).set 0 99 = subTN := by decide +kernel
theorem go_all : (∀ i, i < 255 → (pq (i + 1)).1.toNat = 1 → i = 254) ∧ (pq 255).1.toNat = 1 ∧ (tabI 255).set 0 99 = subT := by
  obtain ⟨a, b, c⟩ := goN_spec 255 0 (List.replicate 256 0) (by rw [tabI, List.map_replicate]; rfl) goN_ok
  refine ⟨fun i hi he => ?_, by simpa using b, ?_⟩
  · have := a i hi (by simpa using he)
    omega
  · rw [Nat.zero_add] at c
    rw [c]
    show ((((goN 255 1 1 (List.replicate 256 0)).2).map UInt8.ofNat).set 0 (UInt8.ofNat 99)) = subT
    rw [← List.map_set, goN_tab]
    rfl
end Go.Xr
