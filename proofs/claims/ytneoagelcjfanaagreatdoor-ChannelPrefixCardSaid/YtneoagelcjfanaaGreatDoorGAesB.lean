/- Several texts put together: AesK, AesJ, AesM, AesN, AesP. What each shows stands ahead of it. -/
import Derived.Test.YtneoagelcjfanaaGreatDoorGAes
import Derived.Test.YtneoagelcjfanaaGreatDoorGCore
import Derived.Test.YtneoagelcjfanaaGreatDoorGSha
import Derived.Deep.LoopGhost
/- Layer 3, aes: the table of what stands for a byte, checked over numbers (no program). -/
namespace Go.Xr
open Go
set_option linter.unusedVariables false
def subTN : List Nat := [99, 124, 119, 123, 242, 107, 111, 197, 48, 1, 103, 43, 254, 215, 171, 118, 202, 130, 201, 125, 250, 89, 71, 240, 173, 212, 162, 175, 156, 164, 114, 192, 183, 253, 147, 38, 54, 63, 247, 204, 52, 165, 229, 241, 113, 216, 49, 21, 4, 199, 35, 195, 24, 150, 5, 154, 7, 18, 128, 226, 235, 39, 178, 117, 9, 131, 44, 26, 27, 110, 90, 160, 82, 59, 214, 179, 41, 227, 47, 132, 83, 209, 0, 237, 32, 252, 177, 91, 106, 203, 190, 57, 74, 76, 88, 207, 208, 239, 170, 251, 67, 77, 51, 133, 69, 249, 2, 127, 80, 60, 159, 168, 81, 163, 64, 143, 146, 157, 56, 245, 188, 182, 218, 33, 16, 255, 243, 210, 205, 12, 19, 236, 95, 151, 68, 23, 196, 167, 126, 61, 100, 93, 25, 115, 96, 129, 79, 220, 34, 42, 144, 136, 70, 238, 184, 20, 222, 94, 11, 219, 224, 50, 58, 10, 73, 6, 36, 92, 194, 211, 172, 98, 145, 149, 228, 121, 231, 200, 55, 109, 141, 213, 78, 169, 108, 86, 244, 234, 101, 122, 174, 8, 186, 120, 37, 46, 28, 166, 180, 198, 232, 221, 116, 31, 75, 189, 139, 138, 112, 62, 181, 102, 72, 3, 246, 14, 97, 53, 87, 185, 134, 193, 29, 158, 225, 248, 152, 17, 105, 217, 142, 148, 155, 30, 135, 233, 206, 85, 40, 223, 140, 161, 137, 13, 191, 230, 66, 104, 65, 153, 45, 15, 176, 84, 187, 22]
def unsTN : List Nat := [82, 9, 106, 213, 48, 54, 165, 56, 191, 64, 163, 158, 129, 243, 215, 251, 124, 227, 57, 130, 155, 47, 255, 135, 52, 142, 67, 68, 196, 222, 233, 203, 84, 123, 148, 50, 166, 194, 35, 61, 238, 76, 149, 11, 66, 250, 195, 78, 8, 46, 161, 102, 40, 217, 36, 178, 118, 91, 162, 73, 109, 139, 209, 37, 114, 248, 246, 100, 134, 104, 152, 22, 212, 164, 92, 204, 93, 101, 182, 146, 108, 112, 72, 80, 253, 237, 185, 218, 94, 21, 70, 87, 167, 141, 157, 132, 144, 216, 171, 0, 140, 188, 211, 10, 247, 228, 88, 5, 184, 179, 69, 6, 208, 44, 30, 143, 202, 63, 15, 2, 193, 175, 189, 3, 1, 19, 138, 107, 58, 145, 17, 65, 79, 103, 220, 234, 151, 242, 207, 206, 240, 180, 230, 115, 150, 172, 116, 34, 231, 173, 53, 133, 226, 249, 55, 232, 28, 117, 223, 110, 71, 241, 26, 113, 29, 41, 197, 137, 111, 183, 98, 14, 170, 24, 190, 27, 252, 86, 62, 75, 198, 210, 121, 32, 154, 219, 192, 254, 120, 205, 90, 244, 31, 221, 168, 51, 136, 7, 199, 49, 177, 18, 16, 89, 39, 128, 236, 95, 96, 81, 127, 169, 25, 181, 74, 13, 45, 229, 122, 159, 147, 201, 156, 239, 160, 224, 59, 77, 174, 42, 245, 176, 200, 235, 187, 60, 131, 83, 153, 97, 23, 43, 4, 126, 186, 119, 214, 38, 225, 105, 20, 99, 85, 33, 12, 125]
def subT : List UInt8 := subTN.map UInt8.ofNat
def unsT : List UInt8 := unsTN.map UInt8.ofNat
theorem subTN_len : subTN.length = 256 := by decide +kernel
theorem unsTN_len : unsTN.length = 256 := by decide +kernel
theorem subT_len : subT.length = 256 := by unfold subT; rw [List.length_map, subTN_len]
theorem unsT_len : unsT.length = 256 := by unfold unsT; rw [List.length_map, unsTN_len]
theorem subTN_lt : subTN.all (fun x => x < 256) = true := by decide +kernel
theorem unsTN_lt : unsTN.all (fun x => x < 256) = true := by decide +kernel
theorem tab_g8 (l : List Nat) (hl : l.all (fun x => x < 256) = true) (i : Nat) : (g8 (l.map UInt8.ofNat) i).toNat = l.getD i 0 := by
  unfold g8
  rw [List.getD_eq_getElem?_getD, List.getD_eq_getElem?_getD, List.getElem?_map]
  cases h : l[i]? with
  | none => rfl
  | some x =>
    have hx := List.all_eq_true.1 hl x (List.mem_of_getElem? h)
    simp only [decide_eq_true_eq] at hx
    show (UInt8.ofNat x).toNat = x
    rw [UInt8.toNat_ofNat']
    omega
theorem subT_g8 (i : Nat) : (g8 subT i).toNat = subTN.getD i 0 := tab_g8 subTN subTN_lt i
theorem unsT_g8 (i : Nat) : (g8 unsT i).toNat = unsTN.getD i 0 := tab_g8 unsTN unsTN_lt i
def rotN (c : Nat) : Nat := (c * 2 % 256) + c / 128
theorem rot_nat (c : UInt8) : (rot1 c).toNat = rotN c.toNat := by
  have := u8_every (fun c => (rot1 c).toNat == rotN c.toNat) (by decide +kernel) c
  simpa using this
def affN (c : Nat) : Nat := c ^^^ rotN c ^^^ rotN (rotN c) ^^^ rotN (rotN (rotN c)) ^^^ rotN (rotN (rotN (rotN c))) ^^^ 99
theorem aff_nat (c : UInt8) : (aff c).toNat = affN c.toNat := by
  unfold aff affN
  simp only [rx, UInt8.toNat_xor, rot_nat]
  rfl
def subOk (b : Nat) : Bool := affN (pwN b 254) == subTN.getD b 0
theorem sub_c0 : (List.range' 0 8).all subOk = true := by decide +kernel
theorem sub_c1 : (List.range' 8 8).all subOk = true := by decide +kernel
theorem sub_c2 : (List.range' 16 8).all subOk = true := by decide +kernel
theorem sub_c3 : (List.range' 24 8).all subOk = true := by decide +kernel
theorem sub_c4 : (List.range' 32 8).all subOk = true := by decide +kernel
theorem sub_c5 : (List.range' 40 8).all subOk = true := by decide +kernel
theorem sub_c6 : (List.range' 48 8).all subOk = true := by decide +kernel
theorem sub_c7 : (List.range' 56 8).all subOk = true := by decide +kernel
theorem sub_c8 : (List.range' 64 8).all subOk = true := by decide +kernel
theorem sub_c9 : (List.range' 72 8).all subOk = true := by decide +kernel
theorem sub_c10 : (List.range' 80 8).all subOk = true := by decide +kernel
theorem sub_c11 : (List.range' 88 8).all subOk = true := by decide +kernel
theorem sub_c12 : (List.range' 96 8).all subOk = true := by decide +kernel
theorem sub_c13 : (List.range' 104 8).all subOk = true := by decide +kernel
theorem sub_c14 : (List.range' 112 8).all subOk = true := by decide +kernel
theorem sub_c15 : (List.range' 120 8).all subOk = true := by decide +kernel
theorem sub_c16 : (List.range' 128 8).all subOk = true := by decide +kernel
theorem sub_c17 : (List.range' 136 8).all subOk = true := by decide +kernel
theorem sub_c18 : (List.range' 144 8).all subOk = true := by decide +kernel
theorem sub_c19 : (List.range' 152 8).all subOk = true := by decide +kernel
theorem sub_c20 : (List.range' 160 8).all subOk = true := by decide +kernel
theorem sub_c21 : (List.range' 168 8).all subOk = true := by decide +kernel
theorem sub_c22 : (List.range' 176 8).all subOk = true := by decide +kernel
theorem sub_c23 : (List.range' 184 8).all subOk = true := by decide +kernel
theorem sub_c24 : (List.range' 192 8).all subOk = true := by decide +kernel
theorem sub_c25 : (List.range' 200 8).all subOk = true := by decide +kernel
theorem sub_c26 : (List.range' 208 8).all subOk = true := by decide +kernel
theorem sub_c27 : (List.range' 216 8).all subOk = true := by decide +kernel
theorem sub_c28 : (List.range' 224 8).all subOk = true := by decide +kernel
theorem sub_c29 : (List.range' 232 8).all subOk = true := by decide +kernel
theorem sub_c30 : (List.range' 240 8).all subOk = true := by decide +kernel
theorem sub_c31 : (List.range' 248 8).all subOk = true := by decide +kernel
theorem sub_at (n : Nat) (h2 : n < 256) : subOk n = true := by
  have key : ∀ s m, (List.range' s m).all subOk = true → s ≤ n → n < s + m → subOk n = true := fun s m h a b => List.all_eq_true.1 h n (by rw [List.mem_range'_1]; omega)
  by_cases g0 : n < 8
  · exact key _ _ sub_c0 (by omega) (by omega)
  by_cases g1 : n < 16
  · exact key _ _ sub_c1 (by omega) (by omega)
  by_cases g2 : n < 24
  · exact key _ _ sub_c2 (by omega) (by omega)
  by_cases g3 : n < 32
  · exact key _ _ sub_c3 (by omega) (by omega)
  by_cases g4 : n < 40
  · exact key _ _ sub_c4 (by omega) (by omega)
  by_cases g5 : n < 48
  · exact key _ _ sub_c5 (by omega) (by omega)
  by_cases g6 : n < 56
  · exact key _ _ sub_c6 (by omega) (by omega)
  by_cases g7 : n < 64
  · exact key _ _ sub_c7 (by omega) (by omega)
  by_cases g8 : n < 72
  · exact key _ _ sub_c8 (by omega) (by omega)
  by_cases g9 : n < 80
  · exact key _ _ sub_c9 (by omega) (by omega)
  by_cases g10 : n < 88
  · exact key _ _ sub_c10 (by omega) (by omega)
  by_cases g11 : n < 96
  · exact key _ _ sub_c11 (by omega) (by omega)
  by_cases g12 : n < 104
  · exact key _ _ sub_c12 (by omega) (by omega)
  by_cases g13 : n < 112
  · exact key _ _ sub_c13 (by omega) (by omega)
  by_cases g14 : n < 120
  · exact key _ _ sub_c14 (by omega) (by omega)
  by_cases g15 : n < 128
  · exact key _ _ sub_c15 (by omega) (by omega)
  by_cases g16 : n < 136
  · exact key _ _ sub_c16 (by omega) (by omega)
  by_cases g17 : n < 144
  · exact key _ _ sub_c17 (by omega) (by omega)
  by_cases g18 : n < 152
  · exact key _ _ sub_c18 (by omega) (by omega)
  by_cases g19 : n < 160
  · exact key _ _ sub_c19 (by omega) (by omega)
  by_cases g20 : n < 168
  · exact key _ _ sub_c20 (by omega) (by omega)
  by_cases g21 : n < 176
  · exact key _ _ sub_c21 (by omega) (by omega)
  by_cases g22 : n < 184
  · exact key _ _ sub_c22 (by omega) (by omega)
  by_cases g23 : n < 192
  · exact key _ _ sub_c23 (by omega) (by omega)
  by_cases g24 : n < 200
  · exact key _ _ sub_c24 (by omega) (by omega)
  by_cases g25 : n < 208
  · exact key _ _ sub_c25 (by omega) (by omega)
  by_cases g26 : n < 216
  · exact key _ _ sub_c26 (by omega) (by omega)
  by_cases g27 : n < 224
  · exact key _ _ sub_c27 (by omega) (by omega)
  by_cases g28 : n < 232
  · exact key _ _ sub_c28 (by omega) (by omega)
  by_cases g29 : n < 240
  · exact key _ _ sub_c29 (by omega) (by omega)
  by_cases g30 : n < 248
  · exact key _ _ sub_c30 (by omega) (by omega)
  by_cases g31 : n < 256
  · exact key _ _ sub_c31 (by omega) (by omega)
  omega
theorem subT_spec (b : UInt8) : subS b = g8 subT b.toNat := by
  apply UInt8.toNat_inj.1
  have h := sub_at b.toNat b.toNat_lt
  unfold subOk at h
  rw [beq_iff_eq] at h
  rw [subT_g8, ← h, ← pw_nat, ← aff_nat]
  rfl
theorem us_N : (List.range 256).all (fun i => unsTN.getD (subTN.getD i 0) 0 == i && subTN.getD (unsTN.getD i 0) 0 == i) = true := by decide +kernel
theorem us (b : UInt8) : g8 unsT (g8 subT b.toNat).toNat = b ∧ g8 subT (g8 unsT b.toNat).toNat = b := by
  have h := List.all_eq_true.1 us_N b.toNat (List.mem_range.2 b.toNat_lt)
  simp only [Bool.and_eq_true, beq_iff_eq] at h
  exact ⟨UInt8.toNat_inj.1 (by rw [unsT_g8, subT_g8]; exact h.1), UInt8.toNat_inj.1 (by rw [subT_g8, unsT_g8]; exact h.2)⟩
theorem subS_inj (a b : UInt8) : subS a = subS b ↔ a = b := by
  constructor
  · intro h
    rw [subT_spec, subT_spec] at h
    have := (us a).1
    rw [h, (us b).1] at this
    exact this.symm
  · intro h
    rw [h]
/-- The table turned about: the first i bytes laid. -/
def unsI (sub : List UInt8) : Nat → List UInt8
  | 0 => List.replicate 256 0
  | i + 1 => (unsI sub i).set (g8 sub i).toNat (UInt8.ofNat i)
theorem unsI_len (sub : List UInt8) (i : Nat) : (unsI sub i).length = 256 := by
  induction i with
  | zero => exact List.length_replicate
  | succ i ih => rw [unsI, List.length_set, ih]
def unsIN (sub : List Nat) : Nat → List Nat
  | 0 => List.replicate 256 0
  | i + 1 => (unsIN sub i).set (sub.getD i 0) i
theorem unsI_nat (i : Nat) : unsI subT i = (unsIN subTN i).map UInt8.ofNat := by
  induction i with
  | zero => rw [unsI, unsIN, List.map_replicate]; rfl
  | succ i ih => rw [unsI, unsIN, ih, subT_g8, ← List.map_set]
theorem unsIN_all : unsIN subTN 256 = unsTN := by decide +kernel
theorem unsI_all : unsI subT 256 = unsT := by rw [unsI_nat, unsIN_all]; rfl
/-- The powers of 3, forwards and backwards. -/
def pq : Nat → UInt8 × UInt8
  | 0 => (1, 1)
  | k + 1 => (times (pq k).1 3, times (pq k).2 246)
def rz (q : UInt8) : Nat → UInt8
  | 0 => q
  | i + 1 => rz q i ^^^ (shl8 q (i + 1) ||| shr8 q (7 - i))
def tabI : Nat → List UInt8
  | 0 => List.replicate 256 0
  | k + 1 => (tabI k).set (pq (k + 1)).1.toNat (rz (pq (k + 1)).2 4 ^^^ c8 99)
theorem tabI_len (i : Nat) : (tabI i).length = 256 := by
  induction i with
  | zero => exact List.length_replicate
  | succ i ih => rw [tabI, List.length_set, ih]
theorem rz_aff (q : UInt8) : rz q 4 ^^^ c8 99 = aff q := by
  have := u8_every (fun q => rz q 4 ^^^ c8 99 == aff q) (by decide +kernel) q
  simpa using this
/-- Over numbers: k more rounds from p, q, the table t; at the end whether p was 1 at the last round alone. -/
def goN : Nat → Nat → Nat → List Nat → Bool × List Nat
  | 0, p, q, t => (p == 1, t)
  | k + 1, p, q, t =>
    let p' := timesN p 3
    let q' := timesN q 246
    let r := goN k p' q' (t.set p' (affN q'))
    ((k == 0 || p' != 1) && r.1, r.2)
theorem pq_nat (k : Nat) : (pq (k + 1)).1.toNat = timesN (pq k).1.toNat 3 ∧ (pq (k + 1)).2.toNat = timesN (pq k).2.toNat 246 := by
  constructor
  · show (times (pq k).1 3).toNat = _
    rw [times_nat]; rfl
  · show (times (pq k).2 246).toNat = _
    rw [times_nat]; rfl
theorem goN_spec : ∀ (k j : Nat) (t : List Nat), tabI j = t.map UInt8.ofNat → (goN k (pq j).1.toNat (pq j).2.toNat t).1 = true →
    (∀ i, i < k → (pq (j + i + 1)).1.toNat = 1 → i + 1 = k) ∧ (pq (j + k)).1.toNat = 1 ∧ tabI (j + k) = ((goN k (pq j).1.toNat (pq j).2.toNat t).2).map UInt8.ofNat
  | 0, j, t, ht, h => ⟨fun i hi => absurd hi (Nat.not_lt_zero _), by simpa [goN] using h, by simpa [goN] using ht⟩
  | k + 1, j, t, ht, h => by
    obtain ⟨h1, h2⟩ := pq_nat j
    simp only [goN, Bool.and_eq_true] at h
    rw [← h1, ← h2] at h
    have ht' : tabI (j + 1) = (t.set (pq (j + 1)).1.toNat (affN (pq (j + 1)).2.toNat)).map UInt8.ofNat := by
      rw [tabI, ht, List.map_set, rz_aff]
      congr 1
      apply UInt8.toNat_inj.1
      have hl : affN (pq (j + 1)).2.toNat < 256 := by rw [← aff_nat]; exact UInt8.toNat_lt _
      rw [aff_nat, UInt8.toNat_ofNat']
      omega
    obtain ⟨a, b, c⟩ := goN_spec k (j + 1) _ ht' h.2
    refine ⟨fun i hi he => ?_, by rw [show j + (k + 1) = j + 1 + k by omega]; exact b, ?_⟩
    · cases i with
      | zero =>
        have h3 := h.1
        simp only [Bool.or_eq_true, beq_iff_eq, bne_iff_ne, ne_eq] at h3
        rcases h3 with h3 | h3
        · omega
        · exact absurd he h3
      | succ i =>
        have := a i (by omega) (by rw [show j + 1 + i + 1 = j + (i + 1) + 1 by omega]; exact he)
        omega
    · rw [show j + (k + 1) = j + 1 + k by omega, c]
      simp only [goN]
      rw [← h1, ← h2]
theorem goN_ok : (goN 255 1 1 (List.replicate 256 0)).1 = true := by decide +kernel
theorem goN_tab : ((goN 255 1 1 (List.replicate 256 0)).2).set 0 99 = subTN := by decide +kernel
theorem go_all : (∀ i, i < 255 → (pq (i + 1)).1.toNat = 1 → i = 254) ∧ (pq 255).1.toNat = 1 ∧ (tabI 255).set 0 99 = subT := by
  obtain ⟨a, b, c⟩ := goN_spec 255 0 (List.replicate 256 0) (by rw [tabI, List.map_replicate]; rfl) goN_ok
  refine ⟨fun i hi he => ?_, by simpa using b, ?_⟩
  · have := a i hi (by simpa using he)
    omega
  · rw [Nat.zero_add] at c
    rw [c]
    show ((((goN 255 1 1 (List.replicate 256 0)).2).map UInt8.ofNat).set 0 (UInt8.ofNat 99)) = subT
    rw [← List.map_set, goN_tab]
    rfl
end Go.Xr

/- Layer 3, aes: the round keys and a new cipher. -/
namespace Go.Xr
open Go
set_option linter.unusedVariables false
def pwr : Nat → UInt8
  | 0 => 1
  | r + 1 => tw (pwr r)
/-- Byte n of the round keys, off those before. -/
def kv (sub : List UInt8) (n : Nat) (A : List UInt8) : UInt8 :=
  if n % 16 = 0 then g8 A (n - 16) ^^^ g8 sub (g8 A (n - 3)).toNat ^^^ pwr (n / 16 - 1)
  else if n % 16 < 4 then g8 A (n - 16) ^^^ g8 sub (g8 A (n / 16 * 16 - 16 + (12 + (n % 16 + 1) % 4))).toNat
  else g8 A (n - 16) ^^^ g8 A (n - 4)
def KS (sub key : List UInt8) : Nat → List UInt8
  | 0 => key
  | m + 1 => KS sub key m ++ [kv sub (16 + m) (KS sub key m)]
theorem KS_len (sub key : List UInt8) (hk : key.length = 16) (m : Nat) : (KS sub key m).length = 16 + m := by
  induction m with
  | zero => exact hk
  | succ m ih => rw [KS, List.length_append, ih]; rfl
theorem KS_pre (sub key : List UInt8) (hk : key.length = 16) (m j : Nat) (hj : j < 16 + m) (d : Nat) : g8 (KS sub key (m + d)) j = g8 (KS sub key m) j := by
  induction d with
  | zero => rfl
  | succ d ih =>
    rw [← ih, ← Nat.add_assoc, KS]
    unfold g8
    rw [List.getD_eq_getElem?_getD, List.getD_eq_getElem?_getD, List.getElem?_append_left (by rw [KS_len _ _ hk]; omega)]
theorem kv0 (sub : List UInt8) (r : Nat) (hr : 1 ≤ r) (A : List UInt8) : kv sub (16 * r) A = g8 A (16 * (r - 1) + 0) ^^^ g8 sub (g8 A (16 * (r - 1) + 13)).toNat ^^^ pwr (r - 1) := by
  unfold kv
  rw [if_pos (by omega), show 16 * r - 16 = 16 * (r - 1) + 0 by omega, show 16 * r - 3 = 16 * (r - 1) + 13 by omega, show 16 * r / 16 - 1 = r - 1 by omega]
theorem kv1 (sub : List UInt8) (r i : Nat) (hr : 1 ≤ r) (hi : 0 < i) (hi4 : i < 4) (A : List UInt8) : kv sub (16 * r + i) A = g8 A (16 * (r - 1) + i) ^^^ g8 sub (g8 A (16 * (r - 1) + (12 + (i + 1) % 4))).toNat := by
  unfold kv
  rw [if_neg (by omega), if_pos (by omega), show 16 * r + i - 16 = 16 * (r - 1) + i by omega, show (16 * r + i) / 16 * 16 - 16 + (12 + ((16 * r + i) % 16 + 1) % 4) = 16 * (r - 1) + (12 + (i + 1) % 4) by omega]
theorem kv2 (sub : List UInt8) (r i : Nat) (hr : 1 ≤ r) (hi : 4 ≤ i) (h16 : i < 16) (A : List UInt8) : kv sub (16 * r + i) A = g8 A (16 * (r - 1) + i) ^^^ g8 A (16 * r + i - 4) := by
  unfold kv
  rw [if_neg (by omega), if_neg (by omega), show 16 * r + i - 16 = 16 * (r - 1) + i by omega]
/-- The cipher's bytes: round keys so far, then room, then the tables. -/
def TT (A sub uns : List UInt8) : List UInt8 := A ++ (List.replicate (176 - A.length) 0 ++ (sub ++ uns))
theorem TT_len (A sub uns : List UInt8) (hA : A.length ≤ 176) (hs : sub.length = 256) (hu : uns.length = 256) : (TT A sub uns).length = 688 := by
  simp only [TT, List.length_append, List.length_replicate, hs, hu]
  omega
theorem g8_app1 (A B : List UInt8) (i : Nat) (h : i < A.length) : g8 (A ++ B) i = g8 A i := by
  unfold g8
  rw [List.getD_eq_getElem?_getD, List.getD_eq_getElem?_getD, List.getElem?_append_left h]
theorem g8_app2 (A B : List UInt8) (i : Nat) (h : A.length ≤ i) : g8 (A ++ B) i = g8 B (i - A.length) := by
  unfold g8
  rw [List.getD_eq_getElem?_getD, List.getD_eq_getElem?_getD, List.getElem?_append_right h]
theorem TT_key (A sub uns : List UInt8) (i : Nat) (h : i < A.length) : g8 (TT A sub uns) i = g8 A i := g8_app1 _ _ _ h
theorem TT_sub (A sub uns : List UInt8) (hA : A.length ≤ 176) (hs : sub.length = 256) (i : Nat) (h : i < 256) : g8 (TT A sub uns) (176 + i) = g8 sub i := by
  unfold TT
  rw [g8_app2 _ _ _ (by omega), g8_app2 _ _ _ (by rw [List.length_replicate]; omega), List.length_replicate, g8_app1 _ _ _ (by omega)]
  congr 1
  omega
theorem TT_uns (A sub uns : List UInt8) (hA : A.length ≤ 176) (hs : sub.length = 256) (i : Nat) (h : i < 256) : g8 (TT A sub uns) (432 + i) = g8 uns i := by
  unfold TT
  rw [g8_app2 _ _ _ (by omega), g8_app2 _ _ _ (by rw [List.length_replicate]; omega), List.length_replicate, g8_app2 _ _ _ (by omega)]
  congr 1
  omega
theorem TT_set (A sub uns : List UInt8) (hA : A.length < 176) (v : UInt8) : (TT A sub uns).set A.length v = TT (A ++ [v]) sub uns := by
  unfold TT
  rw [List.set_append_right _ _ (Nat.le_refl _), Nat.sub_self, show 176 - A.length = (175 - A.length) + 1 by omega, List.replicate_succ, List.cons_append, List.set_cons_zero, List.append_assoc, List.length_append, show 176 - (A.length + [v].length) = 175 - A.length by rw [List.length_singleton]; omega]
  rfl
theorem TT_setsub (A sub uns : List UInt8) (hA : A.length ≤ 176) (hs : sub.length = 256) (i : Nat) (hi : i < 256) (v : UInt8) : (TT A sub uns).set (176 + i) v = TT A (sub.set i v) uns := by
  unfold TT
  rw [List.set_append_right _ _ (by omega), List.set_append_right _ _ (by rw [List.length_replicate]; omega), List.length_replicate, List.set_append_left _ _ (by omega), show 176 + i - A.length - (176 - A.length) = i by omega]
theorem TT_setuns (A sub uns : List UInt8) (hA : A.length ≤ 176) (hs : sub.length = 256) (i : Nat) (hi : i < 256) (v : UInt8) : (TT A sub uns).set (432 + i) v = TT A sub (uns.set i v) := by
  unfold TT
  rw [List.set_append_right _ _ (by omega), List.set_append_right _ _ (by rw [List.length_replicate]; omega), List.length_replicate, List.set_append_right _ _ (by omega), show 432 + i - A.length - (176 - A.length) - sub.length = i by omega]
theorem TT_dropsub (A sub uns : List UInt8) (hA : A.length ≤ 176) (hs : sub.length = 256) (hu : uns.length = 256) : ((ciph (TT A sub uns)).drop 176).take 256 = bv sub := by
  have e1 : TT A sub uns = (A ++ List.replicate (176 - A.length) 0) ++ (sub ++ uns) := by simp [TT]
  have l1 : (A ++ List.replicate (176 - A.length) (0 : UInt8)).length = 176 := by rw [List.length_append, List.length_replicate]; omega
  unfold ciph
  rw [List.drop_append_of_le_length (by rw [bv_length, TT_len _ _ _ hA hs hu]; decide), List.take_append_of_le_length (by rw [List.length_drop, bv_length, TT_len _ _ _ hA hs hu]; decide), bv_drop, bv_take, e1, List.drop_append_of_le_length (by omega), List.drop_eq_nil_of_le (by omega), List.nil_append, List.take_append_of_le_length (by omega), List.take_of_length_le (by omega)]
theorem TT_begin (key sub uns : List UInt8) (hk : key.length = 16) (hs : sub.length = 256) : splice (ciph (TT [] sub uns)) 0 (bv key) = ciph (TT key sub uns) := by
  unfold splice ciph TT
  simp only [List.take_zero, List.nil_append, List.length_nil, Nat.zero_add, bv_length, hk, Nat.sub_zero]
  rw [show (176 : Nat) = 16 + 160 by decide, ← List.replicate_append_replicate, List.append_assoc (List.replicate 16 0), bv_append, List.append_assoc, List.drop_append_of_le_length (by rw [bv_length, List.length_replicate]; exact Nat.le_refl _), List.drop_eq_nil_of_le (by rw [bv_length, List.length_replicate]; exact Nat.le_refl _), List.nil_append, bv_append key, List.append_assoc]
/-- The bytes of the cipher of a key. -/
def ciT (key : List UInt8) : List UInt8 := TT (KS subT key 160) subT unsT
theorem ciT_len (key : List UInt8) (hk : key.length = 16) : (ciT key).length = 688 := TT_len _ _ _ (by rw [KS_len _ _ hk]; decide) subT_len unsT_len
theorem ciph_set (T : List UInt8) (i : Nat) (v : UInt8) (h : i < T.length) : (ciph T).set i (bt v) = ciph (T.set i v) := by
  unfold ciph
  rw [List.set_append_left _ _ (by rw [bv_length]; exact h), bv_set]
end Go.Xr
namespace Go.Proofs.YtneoagelcjfanaaGreatDoor.aes
open Go Go.Xr Go.RowKit
set_option linter.unusedVariables false
set_option linter.unusedSimpArgs false
attribute [local go_sem] xor_u8 xor_u8_c or_u8 or_u8_c shl_u8 shr_u8 at_bt eql_u8_c eqg_u8_c

set_option maxRecDepth 20000 in
theorem new_bad {w : World} (s : ByteArray) (hs : s.size ≠ 16) (hs2 : s.size ≤ 9223372036854775807) :
    Calls Tryz.prog 92 #[.string s] w fun e w' => e = .returned (.tuple #[.pointer none, .int .i64 2]) ∧ w = w' := by
  have hne : ((s.size : Int) != 16) = true := by simp; omega
  clear hs
  go_enter Tryz.func92, Tryz.ntmps92
  go_wp2_with fail
  go_ret2
  exact ⟨rfl, rfl⟩

def c0 : List UInt8 := List.replicate 688 0
set_option maxRecDepth 20000 in
theorem infC : ∃ i, Tryz.prog.info? 179 = some i ∧ i.zero = some (.agg (bv (List.replicate 688 0) ++ [Value.bool false]).toArray) := ⟨_, rfl, by kernel_rfl⟩
theorem C_fill (place : Nat → Option (Nat × Nat)) (h : place 3 = some (688, 1)) : Instr.fill place (bv (List.replicate 688 0) ++ [Value.bool false]).toArray [(3, Value.bool true)] = some (ciph c0).toArray := by
  rw [fill_step place _ 3 688 1 _ _ h rfl (by rw [List.size_toArray, List.length_append, bv_length, List.length_replicate]; decide)]
  simp only [Instr.fill]
  have hl : (bv (List.replicate 688 0)).length = 688 := by rw [bv_length, List.length_replicate]
  have := splice_end (bv (List.replicate 688 0)) [Value.bool true] [Value.bool false] rfl
  rw [hl] at this
  exact congrArg (fun l => some (List.toArray l)) this
theorem t3 {w : World} (P : UInt8) : Calls Tryz.prog 109 #[bt P, .int .u8 3] w fun e w' => e = .returned (bt (times P 3)) ∧ w = w' := times_any P 3
theorem t246 {w : World} (P : UInt8) : Calls Tryz.prog 109 #[bt P, .int .u8 246] w fun e w' => e = .returned (bt (times P 246)) ∧ w = w' := times_any P 246
set_option maxRecDepth 20000 in
theorem subAT : AggT Tryz.prog 177 256 := ⟨_, Tryz.underlying177, rfl, rfl⟩
theorem TT_zero : c0 = TT [] (tabI 0) (unsI subT 0) := by
  simp only [c0, TT, tabI, unsI, List.nil_append, List.length_nil, List.replicate_append_replicate]
theorem lit_u8 (n : Nat) (h : n < 256) : Value.int .u8 (n : Int) = bt (UInt8.ofNat n) := by
  unfold bt
  rw [UInt8.toNat_ofNat', Nat.mod_eq_of_lt (by omega)]

set_option maxRecDepth 20000 in
set_option maxHeartbeats 1000000 in
theorem new_any {w : World} (s : ByteArray) (hs : s.size = 16) :
    Calls Tryz.prog 92 #[.string s] w fun e w' => ∃ p, e = .returned (.tuple #[.pointer (some ⟨p, 0, none⟩), .int .i64 0]) ∧ Blk w' p (ciph (ciT s.data.toList)) ∧ w.heap.size ≤ p ∧ Fr [] w w' := by
  obtain ⟨i, hi, hz⟩ := infC
  obtain ⟨i2, hi2, hz2, _⟩ := infS
  have Hi := hid hi
  have Hz := hid hz
  have Hi2 := hid hi2
  have Hz2 := hid hz2
  have hp := fun w => Xr.run_places (P := Tryz.prog) [{ name := "rounds", type := 176, offset := 0, embedded := false, tag := "", pkgPath := "coffer/aes", byteOffset := 0 }, { name := "sub", type := 177, offset := 176, embedded := false, tag := "", pkgPath := "coffer/aes", byteOffset := 176 }, { name := "unsub", type := 177, offset := 432, embedded := false, tag := "", pkgPath := "coffer/aes", byteOffset := 432 }, { name := "made", type := 4, offset := 688, embedded := false, tag := "", pkgPath := "coffer/aes", byteOffset := 688 }] [(0, 176), (176, 256), (432, 256), (688, 1)] rfl w
  have Hp := hid hp
  have hne : ((s.size : Int) != 16) = false := by rw [hs]; rfl
  have hsl : s.data.toList.length = 16 := by rw [Array.length_toList]; exact hs
  have Hs := hid hs
  have Hsl := hid hsl
  have Hgo := hid go_all
  clear hi hz hi2 hz2 hp hs hsl
  go_enter Tryz.func92, Tryz.ntmps92
  go_wp2_with (first
    | (refine wpList_build_struct rfl _ _ rfl _ _ _ _ Tryz.underlying179 Hi.out Hz.out Hp.out (ciph c0) (C_fill _ rfl) ?_; simp only [World.size_alloc, World.size_drew, Act.put, List.setIfInBounds_toArray, List.set_cons_succ, List.set_cons_zero])
    | (refine wpList_box rfl _ _ rfl (ciph c0) rfl ?_; intro w1 f1 hlt1 hb1; simp only [World.size_alloc, World.size_drew, Act.put, List.setIfInBounds_toArray, List.set_cons_succ, List.set_cons_zero]))
  have q1 : Blk w1 w.heap.size (ciph (TT [] (tabI 0) (unsI subT 0))) := by rw [← TT_zero]; exact hb1
  obtain ⟨N, hN⟩ : ∃ N, w.heap.size = N := ⟨_, rfl⟩
  have HN := hid hN
  rw [hN] at q1 ⊢
  clear hb1 hlt1 hN
  go_loopg [5, 6] 254 (fun g pv qv wr => ∃ k : Nat, k + g = 254 ∧ pv = bt (pq k).1 ∧ qv = bt (pq k).2 ∧ Blk wr N (ciph (TT [] (tabI k) (unsI subT 0))) ∧ Fr [] w wr)
  case atStart => exact ⟨0, by omega, rfl, rfl, q1, f1⟩
  case round =>
    obtain ⟨k, hk, rfl, rfl, b1, f⟩ := hrel
    obtain ⟨G, rfl⟩ : ∃ G, G = gk := ⟨_, rfl⟩
    clear q1 f1
    obtain ⟨P, hP⟩ : ∃ P, (pq k).1 = P := ⟨_, rfl⟩
    obtain ⟨Q, hQ⟩ : ∃ Q, (pq k).2 = Q := ⟨_, rfl⟩
    have H1 := hid (show (pq (k + 1)).1 = times P 3 by rw [← hP]; rfl)
    have H2 := hid (show (pq (k + 1)).2 = times Q 246 by rw [← hQ]; rfl)
    rw [hP, hQ]
    clear hP hQ
    go_wp2_with fail
    refine (t3 P).mono ?_
    rintro e w' ⟨rfl, rfl⟩
    rw [← H1.out]
    go_wp2_with fail
    refine (t246 Q).mono ?_
    rintro e w' ⟨rfl, rfl⟩
    rw [← H2.out]
    go_wp2_with fail
    obtain ⟨P1, hP⟩ : ∃ P1, (pq (k + 1)).1 = P1 := ⟨_, rfl⟩
    obtain ⟨Q1, hQ⟩ : ∃ Q1, (pq (k + 1)).2 = Q1 := ⟨_, rfl⟩
    have HP := hid hP
    have HQ := hid hQ
    rw [hP, hQ]
    clear H1 H2 hP hQ
    go_loopw [7, 26] (fun xv iv wr' => ∃ i : Nat, i ≤ 4 ∧ iv = .int .i64 i ∧ xv = bt (rz Q1 i) ∧ wr = wr') (fun _ iv _ => 4 - (intOf iv).toNat)
    case atStart => exact ⟨0, by omega, rfl, rfl, rfl⟩
    case round =>
      obtain ⟨i, hi, rfl, rfl, rfl⟩ := hrel
      by_cases hlt : i < 4
      · have hd1 : decide ((i : Int) < 4) = true := by simp; omega
        have hm1 : (0 : Int) ≤ 7 - (i : Int) := by omega
        have hm2 : (i : Int) ≤ 7 := by omega
        have hm3 : ((7 : Int) - (i : Int)).toNat = 7 - i := by omega
        have hm4 : ((i : Int) + 1).toNat = i + 1 := by omega
        have hm5 : (0 : Int) ≤ (i : Int) + 1 := by omega
        go_wp2_with fail
        go_roundw
        case rel => exact ⟨i + 1, by omega, by go_num, rfl, trivial⟩
        case measure => simp [intOf]; omega
      · have hd1 : decide ((i : Int) < 4) = false := by simp; omega
        have ei : i = 4 := by omega
        obtain ⟨V, hV⟩ : ∃ V, rz Q1 i ^^^ c8 99 = V := ⟨_, rfl⟩
        have HV := hid hV
        have hx := P1.toNat_lt
        have hx1 : (P1.toNat : Int) < 256 := by omega
        have hx2 : P1.toNat < 256 := hx
        have hTl := TT_len [] (tabI k) (unsI subT 0) (by decide) (tabI_len k) (unsI_len _ 0)
        have Hstep := hid (show (TT [] (tabI k) (unsI subT 0)).set (176 + P1.toNat) V = TT [] (tabI (k + 1)) (unsI subT 0) by
          rw [TT_setsub _ _ _ (by decide) (tabI_len k) _ hx2, tabI, HP.out, HQ.out, ← ei, hV])
        have HTl := hid hTl
        clear hTl hV ei hi hlt
        cases G with
        | succ G =>
          have hne1 : ((P1.toNat : Int) == 1) = false := by
            rw [beq_eq_false_iff_ne]
            intro h
            have := Hgo.out.1 k (by omega) (by rw [HP.out]; omega)
            omega
          go_wp2_with (refine wpList_put rfl _ _ _ rfl rfl (bt V) (by rw [← HV.out]; rfl) rfl b1 (by unfold ciph; rw [List.length_append, bv_length, HTl.out]; show 176 + P1.toNat < 688 + 1; omega) (by kernel_rfl) ?_; intro w2 f2 b2 hs2; rw [ciph_set _ _ _ (by rw [HTl.out]; omega), Hstep.out] at b2; simp only [World.size_alloc, World.size_drew, Act.put, List.setIfInBounds_toArray, List.set_cons_succ, List.set_cons_zero])
          go_roundg G
          case rel => exact ⟨k + 1, by omega, by rw [HP.out], by rw [HQ.out], b2, f.trans f2 (by simp; have := HN.out; omega)⟩
          case measure => omega
        | zero =>
          obtain rfl : k = 254 := by omega
          have hne1 : ((P1.toNat : Int) == 1) = true := by rw [show P1.toNat = 1 by rw [← HP.out]; exact Hgo.out.2.1]; rfl
          have HTl2 := hid (TT_len [] (tabI (254 + 1)) (unsI subT 0) (by decide) (tabI_len _) (unsI_len _ 0))
          have Hstep2 := hid (show (TT [] (tabI (254 + 1)) (unsI subT 0)).set 176 (UInt8.ofNat 99) = TT [] subT (unsI subT 0) by
            rw [show (176 : Nat) = 176 + 0 by rfl, TT_setsub _ _ _ (by decide) (tabI_len _) _ (by decide)]
            exact congrArg (fun x => TT [] x (unsI subT 0)) Hgo.out.2.2)
          clear hk HP HQ
          go_wp2_with (first
            | (refine wpList_put rfl _ _ _ rfl rfl (bt V) (by rw [← HV.out]; rfl) rfl b1 (by unfold ciph; rw [List.length_append, bv_length, HTl.out]; show 176 + P1.toNat < 688 + 1; omega) (by kernel_rfl) ?_; intro w2 f2 b2 hs2; rw [ciph_set _ _ _ (by rw [HTl.out]; omega), Hstep.out] at b2; simp only [World.size_alloc, World.size_drew, Act.put, List.setIfInBounds_toArray, List.set_cons_succ, List.set_cons_zero])
            | (refine wpList_put rfl _ _ _ rfl rfl (bt (UInt8.ofNat 99)) rfl rfl b2 (by unfold ciph; rw [List.length_append, bv_length, HTl2.out]; decide) (by kernel_rfl) ?_; intro w3 f4 b3 hs3; rw [ciph_set _ _ _ (by rw [HTl2.out]; decide), Hstep2.out] at b3; simp only [World.size_alloc, World.size_drew, Act.put, List.setIfInBounds_toArray, List.set_cons_succ, List.set_cons_zero])
            | (refine wpList_load_ag rfl _ _ rfl rfl (bv subT) b3 subAT (bvl subT_len) (TT_dropsub _ _ _ (by decide) subT_len (unsI_len _ _)) ?_; simp only [World.size_alloc, World.size_drew, Act.put, List.setIfInBounds_toArray, List.set_cons_succ, List.set_cons_zero]))
          have f5 := (f.trans f2 (by simp; have := HN.out; omega)).trans f4 (by simp; have := HN.out; omega)
          clear f f2 f4 b1 b2 hne1 Hstep Hstep2 HTl2 HTl hx hx1 hx2 HV
          go_loopw [60] (fun iv wr => ∃ i : Nat, i ≤ 256 ∧ iv = .int .i64 i ∧ Blk wr N (ciph (TT [] subT (unsI subT i))) ∧ Fr [] w wr) (fun iv _ => 256 - (intOf iv).toNat)
          case atStart => exact ⟨0, by omega, rfl, b3, f5⟩
          case round =>
            obtain ⟨i, hi, rfl, b4, f6⟩ := hrel
            clear b3 f5
            by_cases hlt : i < 256
            · have hd2 : decide ((i : Int) < 256) = true := by simp; omega
              obtain ⟨Y, hY⟩ : ∃ Y, g8 subT i = Y := ⟨_, rfl⟩
              have hx := Y.toNat_lt
              have hx1 : (Y.toNat : Int) < 256 := by omega
              have hx2 : Y.toNat < 256 := hx
              have hix : ∀ w, (Instr.index 177 (.agg (bv subT).toArray) (.int .i64 (i : Int))).run Tryz.prog w = .ok (bt Y) w := fun w => index_agg w _ 5 256 _ .i64 i Tryz.underlying177 rfl (by rw [List.size_toArray]; exact bvl subT_len) (bt Y) (by omega) (by omega) (by rw [Int.toNat_natCast, bv_getElem?, g8_eq subT i (by rw [subT_len]; exact hlt), hY]; rfl) rfl
              have HTl3 := hid (TT_len [] subT (unsI subT i) (by decide) subT_len (unsI_len _ i))
              have Hstep3 := hid (show (TT [] subT (unsI subT i)).set (432 + Y.toNat) (UInt8.ofNat i) = TT [] subT (unsI subT (i + 1)) by
                rw [TT_setuns _ _ _ (by decide) subT_len _ hx2, unsI, hY])
              clear hY
              go_wp2_with (refine wpList_put rfl _ _ _ rfl rfl (bt (UInt8.ofNat i)) (lit_u8 i hlt) rfl b4 (by unfold ciph; rw [List.length_append, bv_length, HTl3.out]; show 432 + Y.toNat < 688 + 1; omega) (by kernel_rfl) ?_; intro w5 f7 b5 hs5; rw [ciph_set _ _ _ (by rw [HTl3.out]; omega), Hstep3.out] at b5; simp only [World.size_alloc, World.size_drew, Act.put, List.setIfInBounds_toArray, List.set_cons_succ, List.set_cons_zero])
              go_roundw
              case rel => exact ⟨i + 1, by omega, by go_num, b5, f6.trans f7 (by simp; have := HN.out; omega)⟩
              case measure => simp [intOf]; omega
            · have hd2 : decide ((i : Int) < 256) = false := by simp; omega
              have ei : i = 256 := by omega
              rw [ei, unsI_all] at b4
              clear ei hi hlt
              go_wp2_with (refine wpList_copy_str rfl 67 9 5 _ _ rfl 16 16 s 16 (by rw [Hs.out]; rfl) rfl rfl b4 Tryz.underlying67 rfl (by unfold ciph; rw [List.length_append, bv_length, TT_len _ _ _ (by decide) subT_len unsT_len]; decide) ?_; intro w5 f7 b5 hs5; rw [List.take_of_length_le (by rw [Hsl.out]; exact Nat.le_refl _), TT_begin _ _ _ Hsl.out subT_len] at b5; simp only [World.size_alloc, World.size_drew, Act.put, List.setIfInBounds_toArray, List.set_cons_succ, List.set_cons_zero]; simp only [show ((16 : Nat) : Int) = 16 from rfl])
              obtain ⟨key, hkey⟩ : ∃ key, s.data.toList = key := ⟨_, rfl⟩
              rw [hkey] at b5
              have Hkey := hid hkey
              have Hkl := hid (show key.length = 16 by rw [← hkey]; exact Hsl.out)
              have f8 := f6.trans f7 (by simp; have := HN.out; omega)
              have hNw : N < w5.heap.size := b5.lt
              clear f6 f7 b4 hkey
              go_loopw [11, 12] (fun pv rv wr => ∃ r : Nat, 1 ≤ r ∧ r ≤ 11 ∧ rv = .int .i64 r ∧ pv = bt (pwr (r - 1)) ∧ Blk wr N (ciph (TT (KS subT key (16 * (r - 1))) subT unsT)) ∧ Fr [] w wr ∧ N < wr.heap.size) (fun _ rv _ => 11 - (intOf rv).toNat)
              case atStart => exact ⟨1, by decide, by decide, rfl, rfl, b5, f8, hNw⟩
              case round =>
                obtain ⟨r, hr1, hr, rfl, rfl, b6, f9, hnw⟩ := hrel
                clear b5 f8 hNw
                by_cases hlt : r < 11
                · have hd3 : decide ((r : Int) < 11) = true := by simp; omega
                  have hm1 : (0 : Int) ≤ (r : Int) - 1 := by omega
                  have hm2 : ((r : Int) - 1).toNat = r - 1 := by omega
                  have hm3 : (r : Int) ≤ 11 := by omega
                  obtain ⟨A0, hA0⟩ : ∃ A0, KS subT key (16 * (r - 1)) = A0 := ⟨_, rfl⟩
                  have hA0l : A0.length = 16 * r := by rw [← hA0, KS_len _ _ Hkl.out]; omega
                  obtain ⟨W, hW⟩ : ∃ W, rk (TT A0 subT unsT) (r - 1) = W := ⟨_, rfl⟩
                  have hWl : W.length = 16 := by rw [← hW]; exact rk_len _ (TT_len _ _ _ (by omega) subT_len unsT_len) _ (by omega)
                  have HWl := hid hWl
                  have hW0 : ∀ j, j < 16 → g8 W j = g8 A0 (16 * (r - 1) + j) := fun j hj => by
                    rw [← TT_key A0 subT unsT _ (by omega), ← hW]
                    unfold rk g8
                    rw [List.getD_eq_getElem?_getD, List.getD_eq_getElem?_getD, List.getElem?_take, if_pos hj, List.getElem?_drop]
                  have HW0 := hid hW0
                  have HA0 := hid hA0
                  have Hdr := hid (show ((ciph (TT A0 subT unsT)).drop ((r - 1) * 16)).take 16 = bv W by rw [← hW]; exact ciph_rk _ (TT_len _ _ _ (by omega) subT_len unsT_len) _ (by omega))
                  rw [hA0] at b6
                  clear hA0 hA0l hW hWl hW0
                  go_wp2_with (first
                    | (refine wpList_load_ag rfl _ _ rfl rfl (bv W) b6 sqT (bvl HWl.out) Hdr.out ?_; simp only [World.size_alloc, World.size_drew, Act.put, List.setIfInBounds_toArray, List.set_cons_succ, List.set_cons_zero])
                    | (refine wpList_alloc_any rfl _ rfl _ _ 16 Hi2.out Hz2.out rfl ?_; intro zs w6 hzl hze f10 hlt10 hb10; rw [hze] at hb10; clear hzl hze; simp only [World.size_alloc, World.size_drew, Act.put, List.setIfInBounds_toArray, List.set_cons_succ, List.set_cons_zero])
                    | (refine wpList_store_ag rfl _ _ _ rfl rfl (bv W) rfl (show Blk w6 wr.heap.size (bv (List.replicate 16 0)) from hb10) sqT (bvl HWl.out) (by decide) (bv_one _) ?_; intro w7 f11 b11 hs11; rw [splice_all _ _ (by rw [bvl HWl.out]; rfl)] at b11; (try simp only [World.size_alloc, World.size_drew, Act.put, List.setIfInBounds_toArray, List.set_cons_succ, List.set_cons_zero])))
                  obtain ⟨Nw, hNw⟩ : ∃ Nw, wr.heap.size = Nw := ⟨_, rfl⟩
                  rw [hNw] at b11 hlt10 f11 hnw ⊢
                  have c0 : Blk w7 N (ciph (TT (KS subT key (16 * (r - 1) + 0)) subT unsT)) := by rw [Nat.add_zero, HA0.out]; exact f11.blk (f10.blk b6 (by simp)) (by simp; omega)
                  have HNw : w.heap.size ≤ Nw := by have := f9.size; omega
                  have f12 := (f9.trans' f10).trans f11 (by simp; omega)
                  clear hb10 f9 f10 f11 b6 hs11 hNw Hdr hlt10
                  go_loopw [95] (fun iv wr => ∃ i : Nat, i ≤ 16 ∧ iv = .int .i64 i ∧ Blk wr N (ciph (TT (KS subT key (16 * (r - 1) + i)) subT unsT)) ∧ Blk wr Nw (bv W) ∧ Fr [] w wr) (fun iv _ => 16 - (intOf iv).toNat)
                  case atStart => exact ⟨0, by omega, rfl, c0, b11, f12⟩
                  case round =>
                    obtain ⟨i, hi, rfl, d1, d2, g⟩ := hrel
                    clear c0 b11 f12
                    by_cases hli : i < 16
                    · have hd4 : decide ((i : Int) < 16) = true := by simp; omega
                      obtain ⟨A, hA⟩ : ∃ A, KS subT key (16 * (r - 1) + i) = A := ⟨_, rfl⟩
                      have hAl : A.length = 16 * r + i := by rw [← hA, KS_len _ _ Hkl.out]; omega
                      have hWA : ∀ j, j < 16 → g8 W j = g8 A (16 * (r - 1) + j) := fun j hj => by
                        rw [HW0.out j hj, ← HA0.out, ← hA, KS_pre _ _ Hkl.out _ _ (by omega)]
                      have hTl : (TT A subT unsT).length = 688 := TT_len _ _ _ (by omega) subT_len unsT_len
                      have hcl : (ciph (TT A subT unsT)).length = 689 := by unfold ciph; rw [List.length_append, bv_length, hTl]; rfl
                      have hnext : KS subT key (16 * (r - 1) + (i + 1)) = A ++ [kv subT (16 * r + i) A] := by
                        rw [← Nat.add_assoc, KS, hA, show 16 + (16 * (r - 1) + i) = 16 * r + i by omega]
                      have hset : ∀ v, (ciph (TT A subT unsT)).set (r * 16 + i) (bt v) = ciph (TT (A ++ [v]) subT unsT) := fun v => by
                        rw [ciph_set _ _ _ (by omega), show r * 16 + i = A.length by omega, TT_set _ _ _ (by omega)]
                      rw [hA] at d1
                      have kW : ∀ j, j < 16 → wr.cell? ⟨Nw, j, none⟩ = some (bt (g8 W j)) := fun j hj => by rw [d2.cell, bv_getElem?, g8_eq W j (by rw [HWl.out]; exact hj)]; rfl
                      have kS : ∀ x : UInt8, wr.cell? ⟨N, 176 + x.toNat, none⟩ = some (bt (g8 subT x.toNat)) := fun x => by
                        have := x.toNat_lt
                        rw [d1.cell, ciph_get _ hTl _ (by omega), TT_sub _ _ _ (by omega) subT_len _ (by omega)]
                      have kA : ∀ j, j < 16 * r + i → wr.cell? ⟨N, j, none⟩ = some (bt (g8 A j)) := fun j hj => by
                        rw [d1.cell, ciph_get _ hTl _ (by omega), TT_key _ _ _ _ (by omega)]
                      have Hnext := hid hnext
                      have Hset := hid hset
                      have KW := hid kW
                      have KSb := hid kS
                      have KA := hid kA
                      have HWA := hid hWA
                      have Hcl := hid hcl
                      clear hA hAl hWA hTl hcl hnext hset kW kS kA
                      have hcase : (i = 0) ∨ (0 < i ∧ i < 4) ∨ 4 ≤ i := by omega
                      rcases hcase with h0 | ⟨h0, h4⟩ | h4
                      case' inl =>
                        have Hv := hid (show kv subT (16 * r + i) A = g8 W 0 ^^^ g8 subT (g8 W 13).toNat ^^^ pwr (r - 1) by
                          rw [HWA.out 0 (by omega), HWA.out 13 (by omega), h0, Nat.add_zero, kv0 _ _ hr1])
                        have hd5 : ((i : Int) == 0) = true := by rw [h0]; rfl
                        have k0 := KW.out i hli
                        rw [show g8 W i = g8 W 0 by rw [h0]] at k0
                        have k1 := KW.out 13 (by omega)
                        obtain ⟨X0, hX0⟩ : ∃ X0, g8 W 0 = X0 := ⟨_, rfl⟩
                        obtain ⟨X, hX⟩ : ∃ X, g8 W 13 = X := ⟨_, rfl⟩
                        have k2 := KSb.out X
                        obtain ⟨Y, hY⟩ : ∃ Y, g8 subT X.toNat = Y := ⟨_, rfl⟩
                        rw [hX0] at k0
                        rw [hX] at k1
                        rw [hY] at k2
                        have hV := Hv.out
                        rw [hX0, hX, hY] at hV
                        have HV2 := hid hV
                        have hx := X.toNat_lt
                        have hx1 : (X.toNat : Int) < 256 := by omega
                        clear h0 hX0 hX hY hV
                        go_wp2_with fail
                        refine wp_region_D (fun _ => True) false [] (by kernel_rfl) ?_
                        refine WD.pure [0, 1, 2, 3, 4, 5, 6, 7, 8, 9, 10, 11, 12, 13, 14, 15, 16] (by kernel_rfl) trivial ?_
                        simp only [pick, List.toList_toArray, List.map_cons, List.map_nil, List.getD_cons_succ, List.getD_cons_zero]
                        repeat (first | go_big_quiet_step (fail))
                        refine wpQuiet_nil ?_
                        refine WD.eff 17 (by kernel_rfl) ?_
                        simp only [pick, List.toList_toArray, List.map_cons, List.map_nil, List.getD_cons_succ, List.getD_cons_zero]
                        refine wpList_put rfl _ _ _ rfl rfl (bt (kv subT (16 * r + i) A)) (by rw [HV2.out]; rfl) rfl d1.drew (by rw [Hcl.out]; omega) (by kernel_rfl) ?_
                        intro w8 f8 b8 hs8
                        try refine wpList_nil ?_
                        refine AfterD.on trivial (by kernel_rfl) ?_
                        try simp only [World.size_alloc, World.size_drew, Act.put, List.setIfInBounds_toArray, List.set_cons_succ, List.set_cons_zero]
                        refine WD.done (by kernel_rfl) ?_
                      case' inr.inl =>
                        have Hv := hid (show kv subT (16 * r + i) A = g8 W i ^^^ g8 subT (g8 W (12 + (i + 1) % 4)).toNat by
                          rw [HWA.out i hli, HWA.out (12 + (i + 1) % 4) (by omega), kv1 _ _ _ hr1 h0 h4])
                        have hd5 : ((i : Int) == 0) = false := by simp; omega
                        have hd6 : decide ((i : Int) < 4) = true := by simp; omega
                        have k0 := KW.out i hli
                        obtain ⟨J, hJ⟩ : ∃ J, 12 + (i + 1) % 4 = J := ⟨_, rfl⟩
                        have hJ1 : (12 + ((i : Int) + 1) % 4).toNat = J := by omega
                        have hJ2 : J < 16 := by omega
                        have k1 := KW.out J hJ2
                        obtain ⟨X0, hX0⟩ : ∃ X0, g8 W i = X0 := ⟨_, rfl⟩
                        obtain ⟨X, hX⟩ : ∃ X, g8 W J = X := ⟨_, rfl⟩
                        have k2 := KSb.out X
                        obtain ⟨Y, hY⟩ : ∃ Y, g8 subT X.toNat = Y := ⟨_, rfl⟩
                        rw [hX0] at k0
                        rw [hX] at k1
                        rw [hY] at k2
                        have hV := Hv.out
                        rw [hJ, hX0, hX, hY] at hV
                        have HV2 := hid hV
                        have hx := X.toNat_lt
                        have hx1 : (X.toNat : Int) < 256 := by omega
                        clear hX0 hX hY hV hJ
                        go_wp2_with fail
                        refine wp_region_D (fun _ => True) false [] (by kernel_rfl) ?_
                        refine WD.pure [0, 1, 2, 3, 4, 5, 6, 7, 8, 9, 10, 11, 12, 13, 14, 15, 16, 17, 18] (by kernel_rfl) trivial ?_
                        simp only [pick, List.toList_toArray, List.map_cons, List.map_nil, List.getD_cons_succ, List.getD_cons_zero]
                        repeat (first | go_big_quiet_step (fail))
                        refine wpQuiet_nil ?_
                        refine WD.eff 19 (by kernel_rfl) ?_
                        simp only [pick, List.toList_toArray, List.map_cons, List.map_nil, List.getD_cons_succ, List.getD_cons_zero]
                        refine wpList_put rfl _ _ _ rfl rfl (bt (kv subT (16 * r + i) A)) (by rw [HV2.out]; rfl) rfl d1.drew (by rw [Hcl.out]; omega) (by kernel_rfl) ?_
                        intro w8 f8 b8 hs8
                        try refine wpList_nil ?_
                        refine AfterD.on trivial (by kernel_rfl) ?_
                        try simp only [World.size_alloc, World.size_drew, Act.put, List.setIfInBounds_toArray, List.set_cons_succ, List.set_cons_zero]
                        refine WD.done (by kernel_rfl) ?_
                      case' inr.inr =>
                        have Hv := hid (show kv subT (16 * r + i) A = g8 W i ^^^ g8 A (r * 16 + (i - 4)) by
                          rw [HWA.out i hli, kv2 _ _ _ hr1 h4 hli, show 16 * r + i - 4 = r * 16 + (i - 4) by omega])
                        have hd5 : ((i : Int) == 0) = false := by simp; omega
                        have hd6 : decide ((i : Int) < 4) = false := by simp; omega
                        have k0 := KW.out i hli
                        have k1 := KA.out (r * 16 + (i - 4)) (by omega)
                        have hm5 : ((i : Int) - 4).toNat = i - 4 := by omega
                        have hm6 : (0 : Int) ≤ (i : Int) - 4 := by omega
                        obtain ⟨X0, hX0⟩ : ∃ X0, g8 W i = X0 := ⟨_, rfl⟩
                        obtain ⟨X, hX⟩ : ∃ X, g8 A (r * 16 + (i - 4)) = X := ⟨_, rfl⟩
                        rw [hX0] at k0
                        rw [hX] at k1
                        have hV := Hv.out
                        rw [hX0, hX] at hV
                        have HV2 := hid hV
                        clear hX0 hX hV
                        go_wp2_with fail
                        refine wp_region_D (fun _ => True) false [] (by kernel_rfl) ?_
                        refine WD.pure [0, 1, 2, 3, 4, 5, 6, 7, 8, 9, 10, 11, 12, 13] (by kernel_rfl) trivial ?_
                        simp only [pick, List.toList_toArray, List.map_cons, List.map_nil, List.getD_cons_succ, List.getD_cons_zero]
                        repeat (first | go_big_quiet_step (fail))
                        refine wpQuiet_nil ?_
                        refine WD.eff 14 (by kernel_rfl) ?_
                        simp only [pick, List.toList_toArray, List.map_cons, List.map_nil, List.getD_cons_succ, List.getD_cons_zero]
                        refine wpList_put rfl _ _ _ rfl rfl (bt (kv subT (16 * r + i) A)) (by rw [HV2.out]; rfl) rfl d1.drew (by rw [Hcl.out]; omega) (by kernel_rfl) ?_
                        intro w8 f8 b8 hs8
                        try refine wpList_nil ?_
                        refine AfterD.on trivial (by kernel_rfl) ?_
                        try simp only [World.size_alloc, World.size_drew, Act.put, List.setIfInBounds_toArray, List.set_cons_succ, List.set_cons_zero]
                        refine WD.done (by kernel_rfl) ?_
                      all_goals
                        rw [Hset.out, ← Hnext.out] at b8
                        have gg : Fr [N] wr w8 := ((Fr.refl _ wr).drew).trans' f8
                        clear f8 hs8
                        go_wp2_with fail
                        go_roundw
                        case rel => exact ⟨i + 1, by omega, by go_num, b8, gg.blk d2 (by simp; omega), g.trans gg (by simp; have := HN.out; omega)⟩
                        case measure => simp [intOf]; omega
                    · have hd4 : decide ((i : Int) < 16) = false := by simp; omega
                      have ei : i = 16 := by omega
                      rw [ei, show 16 * (r - 1) + 16 = 16 * (r + 1 - 1) by omega] at d1
                      have htw := hid (show tw (pwr (r - 1)) = pwr (r + 1 - 1) by rw [Nat.add_sub_cancel]; obtain ⟨q, rfl⟩ : ∃ q, r = q + 1 := ⟨r - 1, by omega⟩; rfl)
                      clear ei hli hi
                      go_wp2_with (go_at_call 110; refine (twice_any _).mono ?_; rintro e w' ⟨rfl, rfl⟩; rw [htw.out])
                      go_roundw
                      case rel => exact ⟨r + 1, by omega, by omega, by go_num, rfl, d1, g, by have := d1.lt; omega⟩
                      case measure => simp [intOf]; omega
                · have hd3 : decide ((r : Int) < 11) = false := by simp; omega
                  have er : r = 11 := by omega
                  rw [er] at b6
                  have HT := hid (show TT (KS subT key (16 * (11 - 1))) subT unsT = ciT s.data.toList by rw [Hkey.out]; rfl)
                  rw [HT.out] at b6
                  clear er hlt hr1 hr
                  go_wp2_with fail
                  go_ret2
                  exact ⟨N, rfl, b6, by have := HN.out; omega, f9⟩
end Go.Proofs.YtneoagelcjfanaaGreatDoor.aes

/- Layer 3, the document's aes: with, mix, the tables. -/
namespace Go.Xr
open Go
set_option linter.unusedVariables false
/-- v is a slice that starts at the head of a block and reads as the bytes l. -/
def Sb (w : World) (v : Value) (l : List UInt8) : Prop := ∃ b cap cs, v = .slice (some ⟨b, 0, none⟩) l.length cap ∧ l.length ≤ cap ∧ cap ≤ maxLen ∧ Blk w b cs ∧ cs.take l.length = bv l
theorem Sb.keep {w w' : World} {v : Value} {l : List UInt8} (h : Sb w v l) (f : Fr [] w w') : Sb w' v l := by
  obtain ⟨b, cap, cs, h1, h2, h3, h4, h5⟩ := h
  exact ⟨b, cap, cs, h1, h2, h3, f.blk h4 (by simp), h5⟩
theorem Sb.cells {w : World} {v : Value} {l : List UInt8} (h : Sb w v l) : ∃ b cap, v = .slice (some ⟨b, 0, none⟩) l.length cap ∧ l.length ≤ cap ∧ cap ≤ maxLen ∧ b < w.heap.size ∧ ∀ j, j < l.length → w.cell? ⟨b, j, none⟩ = some (bt (g8 l j)) := by
  obtain ⟨b, cap, cs, h1, h2, h3, h4, h5⟩ := h
  refine ⟨b, cap, h1, h2, h3, h4.lt, fun j hj => ?_⟩
  have : (cs.take l.length)[j]? = (bv l)[j]? := by rw [h5]
  rw [List.getElem?_take, if_pos hj, bv_getElem?, g8_eq l j hj] at this
  rw [h4.cell, this]
  rfl
theorem Sb.of {w : World} {b cap : Nat} {l : List UInt8} (h : Blk w b (bv l)) (hn : l.length ≤ cap) (hc : cap ≤ maxLen) : Sb w (.slice (some ⟨b, 0, none⟩) l.length cap) l :=
  ⟨b, cap, _, rfl, hn, hc, h, List.take_of_length_le (by rw [bv_length]; exact Nat.le_refl _)⟩
theorem cells_keep {w w' : World} {S : List Nat} {b n : Nat} {f : Nat → Value} (h : ∀ j, j < n → w.cell? ⟨b, j, none⟩ = some (f j)) (fr : Fr S w w') (hb : b < w.heap.size) (hS : b ∉ S) : ∀ j, j < n → w'.cell? ⟨b, j, none⟩ = some (f j) := fun j hj =>
  (World.cell?_of_block (w := w) (fr.block b hb hS)).trans (h j hj)
end Go.Xr
namespace Go.Proofs.YtneoagelcjfanaaGreatDoor.aes
open Go Go.Xr Go.RowKit
set_option linter.unusedVariables false
set_option linter.unusedSimpArgs false
attribute [local go_sem] xor_u8 xor_u8_c at_bt

set_option maxRecDepth 20000 in
theorem rwith_any {w : World} {v : Value} {A : List UInt8} (s : ByteArray) (hv : Sb w v A) (hA : A.length = 16) (hs : s.size = 16) :
    Calls Tryz.prog 134 #[v, .string s] w fun e w' => ∃ N, e = .returned (.slice (some ⟨N, 0, none⟩) 16 16) ∧ Blk w' N (bv (xorL A s.data.toList)) ∧ w.heap.size ≤ N ∧ Fr [] w w' := by
  obtain ⟨i5, hi5, hz5, hs5, hb5⟩ := inf5
  have Hi := hid hi5
  have Hz := hid hz5
  have Hs := hid hs5
  have Hb := hid hb5
  obtain ⟨ba, ca, rfl, hc1, hc2, hlt, hcell⟩ := hv.cells
  rw [hA] at hcell hc1
  rw [hA]
  unfold maxLen at hc2
  have Hc := hid hcell
  have HA := hid hA
  have Hsz := hid hs
  obtain ⟨K, hK⟩ : ∃ K, s.data.toList = K := ⟨_, rfl⟩
  have HK := hid hK
  clear hi5 hz5 hs5 hb5 hcell hA hs hv hK
  rw [HK.out]
  go_enter Tryz.func134, Tryz.ntmps134
  go_wp2_with (refine wpList_make_blk rfl _ _ _ rfl 16 16 .i64 .i64 rfl rfl 5 _ _ 1 Tryz.underlying67 Hi.out Hz.out Hs.out Hb.out rfl (by decide) (by decide) (by decide) ?_; intro w1 f1 hlt1 hb1; simp only [World.size_alloc, World.size_drew, Act.put, List.setIfInBounds_toArray, List.set_cons_succ, List.set_cons_zero])
  obtain ⟨N, hN⟩ : ∃ N, w.heap.size = N := ⟨_, rfl⟩
  rw [hN] at hb1 hlt hlt1 ⊢
  have HN := hid hN
  have q1 : Blk w1 N (bv (partL (xorL A K) 0)) := by rw [partL_zero]; exact hb1
  have Hc1 := hid (cells_keep Hc.out f1 (by omega) (by simp))
  clear hb1 hN
  go_loopw [6] (fun iv wr => ∃ i : Nat, i ≤ 16 ∧ iv = .int .i64 i ∧ Blk wr N (bv (partL (xorL A K) i)) ∧ Hid (∀ j, j < 16 → wr.cell? ⟨ba, j, none⟩ = some (bt (g8 A j))) ∧ Fr [] w wr) (fun iv _ => 16 - (intOf iv).toNat)
  case atStart => exact ⟨0, by omega, rfl, q1, Hc1, f1⟩
  case round =>
    obtain ⟨i, hi, rfl, b1, hc, f⟩ := hrel
    clear q1 f1 Hc1
    by_cases hli : i < 16
    · have hd : decide ((i : Int) < 16) = true := by simp; omega
      have k1 := hc.out i hli
      have hix : ∀ w0 : World, (Instr.index 9 (.string s) (.int .i64 i)).run Tryz.prog w0 = .ok (bt (g8 K i)) w0 := fun w0 => by
        have := index_str (P := Tryz.prog) w0 9 s .i64 i i Tryz.underlying9 rfl (by rw [Hsz.out]; exact hli) 0
        rw [HK.out] at this
        exact this
      have HX := hid (show g8 (xorL A K) i = g8 A i ^^^ g8 K i by simp [g8, xorL, hli])
      go_wp2_with fail
      refine wp_region_D (fun _ => True) false [] (by kernel_rfl) ?_
      refine WD.pure [0, 1, 2, 3, 4, 5, 6, 7, 8, 9, 10] (by kernel_rfl) trivial ?_
      simp only [pick, List.toList_toArray, List.map_cons, List.map_nil, List.getD_cons_succ, List.getD_cons_zero]
      repeat (first | go_big_quiet_step (fail))
      refine wpQuiet_nil ?_
      refine WD.eff 11 (by kernel_rfl) ?_
      simp only [pick, List.toList_toArray, List.map_cons, List.map_nil, List.getD_cons_succ, List.getD_cons_zero]
      refine wpList_put rfl _ _ _ rfl rfl (bt (g8 (xorL A K) i)) (by rw [HX.out]; rfl) rfl b1.drew (by rw [bv_length, partL_len _ (xorL_len _ _) i hi]; exact hli) (by kernel_rfl) ?_
      intro w2 f2 b2 hs2
      try refine wpList_nil ?_
      refine AfterD.on trivial (by kernel_rfl) ?_
      try simp only [World.size_alloc, World.size_drew, Act.put, List.setIfInBounds_toArray, List.set_cons_succ, List.set_cons_zero]
      refine WD.done (by kernel_rfl) ?_
      rw [← bv_set, partL_set _ (xorL_len _ _) i hli] at b2
      have f3 : Fr [N] wr w2 := ((Fr.refl _ wr).drew).trans' f2
      have hlr := b1.lt
      clear hix k1 f2
      go_wp2_with fail
      go_roundw
      case rel => exact ⟨i + 1, by omega, by go_num, b2, hid (cells_keep hc.out f3 (by omega) (by simp; omega)), f.trans f3 (by simp; have := HN.out; omega)⟩
      case measure => simp [intOf]; omega
    · have hd : decide ((i : Int) < 16) = false := by simp; omega
      have ei : i = 16 := by omega
      rw [ei, partL_all _ (xorL_len _ _)] at b1
      clear ei hi hli
      go_wp2_with fail
      go_ret
      exact ⟨N, rfl, b1, by have := HN.out; omega, f⟩

set_option maxRecDepth 20000 in
set_option maxHeartbeats 1000000 in
theorem rmix_any {w : World} {v u : Value} {A F : List UInt8} (hv : Sb w v A) (hA : A.length = 16) (hu : Sb w u F) (hF : F.length = 4) :
    Calls Tryz.prog 135 #[v, u] w fun e w' => ∃ N, e = .returned (.slice (some ⟨N, 0, none⟩) 16 16) ∧ Blk w' N (bv (mixL F A)) ∧ w.heap.size ≤ N ∧ Fr [] w w' := by
  obtain ⟨i5, hi5, hz5, hs5, hb5⟩ := inf5
  have Hi := hid hi5
  have Hz := hid hz5
  have Hs := hid hs5
  have Hb := hid hb5
  obtain ⟨ba, ca, rfl, hc1, hc2, hlt, hcell⟩ := hv.cells
  obtain ⟨bf, cf, rfl, hc3, hc4, hlt2, hcell2⟩ := hu.cells
  rw [hA] at hcell hc1
  rw [hF] at hcell2 hc3
  rw [hA, hF]
  unfold maxLen at hc2 hc4
  have Hc := hid hcell
  have Hd := hid hcell2
  clear hi5 hz5 hs5 hb5 hcell hcell2 hA hv hu hF
  go_enter Tryz.func135, Tryz.ntmps135
  go_wp2_with (refine wpList_make_blk rfl _ _ _ rfl 16 16 .i64 .i64 rfl rfl 5 _ _ 1 Tryz.underlying67 Hi.out Hz.out Hs.out Hb.out rfl (by decide) (by decide) (by decide) ?_; intro w1 f1 hlt1 hb1; simp only [World.size_alloc, World.size_drew, Act.put, List.setIfInBounds_toArray, List.set_cons_succ, List.set_cons_zero])
  obtain ⟨N, hN⟩ : ∃ N, w.heap.size = N := ⟨_, rfl⟩
  rw [hN] at hb1 hlt hlt2 hlt1 ⊢
  have HN := hid hN
  have q1 : Blk w1 N (bv (mixI F A (4 * 0))) := by rw [Nat.mul_zero, mixI_zero]; exact hb1
  have Hc1 := hid (cells_keep Hc.out f1 (by omega) (by simp))
  have Hd1 := hid (cells_keep Hd.out f1 (by omega) (by simp))
  clear hb1 hN
  go_loopw [6] (fun iv wr => ∃ c : Nat, c ≤ 4 ∧ iv = .int .i64 c ∧ Blk wr N (bv (mixI F A (4 * c))) ∧ Hid (∀ j, j < 16 → wr.cell? ⟨ba, j, none⟩ = some (bt (g8 A j))) ∧ Hid (∀ j, j < 4 → wr.cell? ⟨bf, j, none⟩ = some (bt (g8 F j))) ∧ Fr [] w wr) (fun iv _ => 4 - (intOf iv).toNat)
  case atStart => exact ⟨0, by omega, rfl, q1, Hc1, Hd1, f1⟩
  case round =>
    obtain ⟨c, hcc, rfl, b1, hc, hd, f⟩ := hrel
    clear q1 f1 Hc1 Hd1
    by_cases hlc : c < 4
    · have hd1 : decide ((c : Int) < 4) = true := by simp; omega
      go_wp2_with fail
      clear hd1
      go_loopw [7] (fun iv wr => ∃ r : Nat, r ≤ 4 ∧ iv = .int .i64 r ∧ Blk wr N (bv (mixI F A (4 * c + r))) ∧ Hid (∀ j, j < 16 → wr.cell? ⟨ba, j, none⟩ = some (bt (g8 A j))) ∧ Hid (∀ j, j < 4 → wr.cell? ⟨bf, j, none⟩ = some (bt (g8 F j))) ∧ Fr [] w wr) (fun iv _ => 4 - (intOf iv).toNat)
      case atStart => exact ⟨0, by omega, rfl, b1, hc, hd, f⟩
      case round =>
        obtain ⟨r, hrr, rfl, b2, hc2, hd2, f2⟩ := hrel
        clear b1 hc hd f
        by_cases hlr : r < 4
        · have hd1 : decide ((r : Int) < 4) = true := by simp; omega
          obtain ⟨i, hi⟩ : ∃ i, 4 * c + r = i := ⟨_, rfl⟩
          have hi16 : i < 16 := by omega
          rw [hi, ← mixI_start F A i hi16] at b2
          go_wp2_with fail
          clear hd1
          go_loopw [8] (fun iv wr => ∃ k : Nat, k ≤ 4 ∧ iv = .int .i64 k ∧ Blk wr N (bv ((mixI F A i).set i (mixP F A i k))) ∧ Hid (∀ j, j < 16 → wr.cell? ⟨ba, j, none⟩ = some (bt (g8 A j))) ∧ Hid (∀ j, j < 4 → wr.cell? ⟨bf, j, none⟩ = some (bt (g8 F j))) ∧ Fr [] w wr) (fun iv _ => 4 - (intOf iv).toNat)
          case atStart => exact ⟨0, by omega, rfl, b2, hc2, hd2, f2⟩
          case round =>
            obtain ⟨k, hkk, rfl, b3, hc3, hd3, f3⟩ := hrel
            clear b2 hc2 hd2 f2
            by_cases hlk : k < 4
            · have hd1 : decide ((k : Int) < 4) = true := by simp; omega
              have hml := mixI_len F A i (by omega)
              obtain ⟨P, hP⟩ : ∃ P, mixP F A i k = P := ⟨_, rfl⟩
              obtain ⟨X, hX⟩ : ∃ X, g8 F ((k + 4 - r) % 4) = X := ⟨_, rfl⟩
              obtain ⟨Y, hY⟩ : ∃ Y, g8 A (4 * c + k) = Y := ⟨_, rfl⟩
              have Hnx := hid (show mixP F A i (k + 1) = P ^^^ times X Y by
                rw [mixP, hP, show (k + 4 - i % 4) % 4 = (k + 4 - r) % 4 by omega, show i / 4 * 4 + k = 4 * c + k by omega, hX, hY])
              have k0 : wr.cell? ⟨N, 4 * c + r, none⟩ = some (bt P) := by rw [hi, b3.cell, bv_getElem?, List.getElem?_set_self (by omega), hP]; rfl
              obtain ⟨J, hJ⟩ : ∃ J, (k + 4 - r) % 4 = J := ⟨_, rfl⟩
              have k1 : wr.cell? ⟨bf, J, none⟩ = some (bt X) := by rw [hd3.out _ (by omega), ← hJ, hX]
              have k2 : wr.cell? ⟨ba, 4 * c + k, none⟩ = some (bt Y) := by rw [hc3.out _ (by omega), hY]
              have m1 : (((k : Int) - (r : Int)) % 4).toNat = J := by omega
              have m2 : (0 : Int) ≤ (k : Int) - (r : Int) + 4 := by omega
              have Hml := hid hml
              have Hii := hid hi
              clear hP hX hY hJ hi hml
              go_wp2_with fail
              refine wp_region_D (fun _ => True) false [27] (by kernel_rfl) ?_
              refine WD.pure [0, 1, 2, 3, 4, 5, 6, 7, 8, 9, 10, 11, 12, 13, 14, 15, 16, 17, 18, 19, 20, 21, 22, 23, 24, 25, 26] (by kernel_rfl) trivial ?_
              simp only [pick, List.toList_toArray, List.map_cons, List.map_nil, List.getD_cons_succ, List.getD_cons_zero]
              repeat (first | go_big_quiet_step (fail))
              refine wpQuiet_nil ?_
              refine WD.eff 27 (by kernel_rfl) ?_
              simp only [pick, List.toList_toArray, List.map_cons, List.map_nil, List.getD_cons_succ, List.getD_cons_zero]
              go_wp2_with (go_at_call 133; refine (rtimes_any _ _).mono ?_; rintro e w' ⟨rfl, rfl⟩)
              try refine wpList_nil ?_
              refine AfterD.quiet trivial rfl ?_
              try simp only [World.size_alloc, World.size_drew, Act.put, List.setIfInBounds_toArray, List.set_cons_succ, List.set_cons_zero]
              refine WD.pure [28, 29] (by kernel_rfl) trivial ?_
              simp only [pick, List.toList_toArray, List.map_cons, List.map_nil, List.getD_cons_succ, List.getD_cons_zero]
              repeat (first | go_big_quiet_step (fail))
              refine wpQuiet_nil ?_
              refine WD.eff 30 (by kernel_rfl) ?_
              simp only [pick, List.toList_toArray, List.map_cons, List.map_nil, List.getD_cons_succ, List.getD_cons_zero]
              refine wpList_put rfl _ _ _ rfl rfl (bt (P ^^^ times X Y)) rfl rfl b3.drew (by rw [bv_length, List.length_set, Hml.out, Hii.out]; exact hi16) (by kernel_rfl) ?_
              intro w4 f4 b4 hs4
              try refine wpList_nil ?_
              refine AfterD.on trivial (by kernel_rfl) ?_
              try simp only [World.size_alloc, World.size_drew, Act.put, List.setIfInBounds_toArray, List.set_cons_succ, List.set_cons_zero]
              refine WD.done (by kernel_rfl) ?_
              rw [← bv_set, Hii.out, List.set_set, ← Hnx.out] at b4
              have f5 : Fr [N] wr w4 := ((Fr.refl _ wr).drew).trans' f4
              have hl5 := b3.lt
              clear f4 hs4 k0 k1 k2
              go_wp2_with fail
              go_roundw
              case rel => exact ⟨k + 1, by omega, by go_num, b4, hid (cells_keep hc3.out f5 (by omega) (by simp; omega)), hid (cells_keep hd3.out f5 (by omega) (by simp; omega)), f3.trans f5 (by simp; have := HN.out; omega)⟩
              case measure => simp [intOf]; omega
            · have hd1 : decide ((k : Int) < 4) = false := by simp; omega
              have ek : k = 4 := by omega
              rw [ek, mixI_next F A i hi16] at b3
              rw [← hi] at b3
              clear ek hlk hkk hi
              go_wp2_with fail
              go_roundw
              case rel => exact ⟨r + 1, by omega, by go_num, b3, hc3, hd3, f3⟩
              case measure => simp [intOf]; omega
        · have hd1 : decide ((r : Int) < 4) = false := by simp; omega
          have er : r = 4 := by omega
          rw [er, show 4 * c + 4 = 4 * (c + 1) by omega] at b2
          clear er hlr hrr
          go_wp2_with fail
          go_roundw
          case rel => exact ⟨c + 1, by omega, by go_num, b2, hc2, hd2, f2⟩
          case measure => simp [intOf]; omega
    · have hd1 : decide ((c : Int) < 4) = false := by simp; omega
      have ec : c = 4 := by omega
      rw [ec, mixI_all] at b1
      clear ec hlc hcc
      go_wp2_with fail
      go_ret
      exact ⟨N, rfl, b1, by have := HN.out; omega, f⟩

theorem subT_of (i : Nat) (h : i < 256) : subS (UInt8.ofNat i) = Xr.g8 subT i := by
  rw [subT_spec, UInt8.toNat_ofNat', Nat.mod_eq_of_lt (by omega)]
/-- The first i bytes of the table. -/
def subI (i : Nat) : List UInt8 := subT.take i ++ List.replicate (256 - i) 0
theorem subI_len (i : Nat) (hi : i ≤ 256) : (subI i).length = 256 := by
  simp only [subI, List.length_append, List.length_take, List.length_replicate, subT_len]
  omega
theorem subI_all : subI 256 = subT := by
  unfold subI
  rw [List.take_of_length_le (by rw [subT_len]; exact Nat.le_refl _), Nat.sub_self, List.replicate_zero, List.append_nil]
theorem subI_set (i : Nat) (hi : i < 256) : (subI i).set i (Xr.g8 subT i) = subI (i + 1) := by
  have h : (subT.take i).length = i := by rw [List.length_take, subT_len]; omega
  have e : subT[i]'(by rw [subT_len]; exact hi) = Xr.g8 subT i := by simp [Xr.g8, List.getD, List.getElem?_eq_getElem (show i < subT.length by rw [subT_len]; exact hi)]
  unfold subI
  rw [List.set_append_right _ _ (by omega), h, Nat.sub_self, show 256 - i = (256 - (i + 1)) + 1 by omega, List.replicate_succ, List.set_cons_zero, List.take_succ_eq_append_getElem (by rw [subT_len]; exact hi), List.append_assoc, e]
  rfl
set_option maxRecDepth 20000 in
theorem table_f {w : World} :
    Calls Tryz.prog 125 #[.bool false] w fun e w' => ∃ N, e = .returned (.slice (some ⟨N, 0, none⟩) 256 256) ∧ Blk w' N (bv subT) ∧ w.heap.size ≤ N ∧ Fr [] w w' := by
  obtain ⟨i5, hi5, hz5, hs5, hb5⟩ := inf5
  have Hi := hid hi5
  have Hz := hid hz5
  have Hs := hid hs5
  have Hb := hid hb5
  clear hi5 hz5 hs5 hb5
  obtain ⟨L, hL⟩ : ∃ L : Nat → List UInt8, L = if false then unsI subT else subI := ⟨_, rfl⟩
  have hL0 : L 0 = List.replicate 256 0 := by rw [hL]; simp [unsI, subI]
  have hLl : ∀ i, i ≤ 256 → (L i).length = 256 := fun i hi => by rw [hL]; first | exact unsI_len _ _ | exact subI_len _ hi
  have hLs : ∀ i, i < 256 → (L i).set (if false then (Xr.g8 subT i).toNat else i) (if false then UInt8.ofNat i else Xr.g8 subT i) = L (i + 1) := fun i hi => by rw [hL]; first | rfl | exact subI_set i hi
  have hLe : L 256 = subT := by rw [hL]; first | exact unsI_all | exact subI_all
  have HLl := hid hLl
  have HLs := hid hLs
  have HLe := hid hLe
  have HL0 := hid hL0
  clear hL hL0 hLl hLs hLe
  go_enter Tryz.func125, Tryz.ntmps125
  go_wp2_with (refine wpList_make_blk rfl _ _ _ rfl 256 256 .i64 .i64 rfl rfl 5 _ _ 1 Tryz.underlying67 Hi.out Hz.out Hs.out Hb.out rfl (by decide) (by decide) (by decide) ?_; intro w1 f1 hlt1 hb1; simp only [World.size_alloc, World.size_drew, Act.put, List.setIfInBounds_toArray, List.set_cons_succ, List.set_cons_zero])
  obtain ⟨N, hN⟩ : ∃ N, w.heap.size = N := ⟨_, rfl⟩
  rw [hN] at hb1 hlt1 ⊢
  have HN := hid hN
  have q1 : Blk w1 N (bv (L 0)) := by rw [HL0.out, bv_replicate]; exact hb1
  clear hb1 hN
  go_loopw [4] (fun iv wr => ∃ i : Nat, i ≤ 256 ∧ iv = .int .i64 i ∧ Blk wr N (bv (L i)) ∧ Fr [] w wr) (fun iv _ => 256 - (intOf iv).toNat)
  case atStart => exact ⟨0, by omega, rfl, q1, f1⟩
  case round =>
    obtain ⟨i, hi, rfl, b1, f⟩ := hrel
    clear q1 f1
    by_cases hli : i < 256
    · have hd : decide ((i : Int) < 256) = true := by simp; omega
      have H := hid (rsub_any (w := wr) (UInt8.ofNat i))
      have H2 : Hid (Calls Tryz.prog 132 #[.int .u8 (i : Int)] wr fun e w' => e = .returned (bt (Xr.g8 subT i)) ∧ wr = w') := by
        rw [lit_u8 i hli, ← subT_of i hli]; exact H
      obtain ⟨X, hX⟩ : ∃ X, Xr.g8 subT i = X := ⟨_, rfl⟩
      have hx := X.toNat_lt
      have hx1 : (X.toNat : Int) < 256 := by omega
      have hx2 : X.toNat < 256 := hx
      have Hst := hid (HLs.out i hli)
      have Hl := hid (HLl.out i hi)
      rw [hX] at H2 Hst
      clear hX H
      go_wp2_with (first
        | (go_at_call 132; refine H2.out.mono ?_; rintro e w' ⟨rfl, rfl⟩)
        | (refine wpList_put rfl _ _ _ rfl rfl (bt (if false then UInt8.ofNat i else X)) (by first | rfl | exact lit_u8 i hli) rfl b1 (by rw [bv_length, Hl.out]; first | exact hx2 | exact hli) (by kernel_rfl) ?_; intro w2 f2 b2 hs2; simp only [World.size_alloc, World.size_drew, Act.put, List.setIfInBounds_toArray, List.set_cons_succ, List.set_cons_zero]))
      have b3 : Blk w2 N (bv (L (i + 1))) := by rw [← Hst.out, bv_set]; exact b2
      clear b2
      go_roundw
      case rel => exact ⟨i + 1, by omega, by go_num, b3, f.trans f2 (by simp; have := HN.out; omega)⟩
      case measure => simp [intOf]; omega
    · have hd : decide ((i : Int) < 256) = false := by simp; omega
      have ei : i = 256 := by omega
      rw [ei, HLe.out] at b1
      clear ei hi hli
      go_wp2_with fail
      go_ret
      exact ⟨N, rfl, b1, by have := HN.out; omega, f⟩
set_option maxRecDepth 20000 in
theorem table_t {w : World} :
    Calls Tryz.prog 125 #[.bool true] w fun e w' => ∃ N, e = .returned (.slice (some ⟨N, 0, none⟩) 256 256) ∧ Blk w' N (bv unsT) ∧ w.heap.size ≤ N ∧ Fr [] w w' := by
  obtain ⟨i5, hi5, hz5, hs5, hb5⟩ := inf5
  have Hi := hid hi5
  have Hz := hid hz5
  have Hs := hid hs5
  have Hb := hid hb5
  clear hi5 hz5 hs5 hb5
  obtain ⟨L, hL⟩ : ∃ L : Nat → List UInt8, L = if true then unsI subT else subI := ⟨_, rfl⟩
  have hL0 : L 0 = List.replicate 256 0 := by rw [hL]; simp [unsI, subI]
  have hLl : ∀ i, i ≤ 256 → (L i).length = 256 := fun i hi => by rw [hL]; first | exact unsI_len _ _ | exact subI_len _ hi
  have hLs : ∀ i, i < 256 → (L i).set (if true then (Xr.g8 subT i).toNat else i) (if true then UInt8.ofNat i else Xr.g8 subT i) = L (i + 1) := fun i hi => by rw [hL]; first | rfl | exact subI_set i hi
  have hLe : L 256 = unsT := by rw [hL]; first | exact unsI_all | exact subI_all
  have HLl := hid hLl
  have HLs := hid hLs
  have HLe := hid hLe
  have HL0 := hid hL0
  clear hL hL0 hLl hLs hLe
  go_enter Tryz.func125, Tryz.ntmps125
  go_wp2_with (refine wpList_make_blk rfl _ _ _ rfl 256 256 .i64 .i64 rfl rfl 5 _ _ 1 Tryz.underlying67 Hi.out Hz.out Hs.out Hb.out rfl (by decide) (by decide) (by decide) ?_; intro w1 f1 hlt1 hb1; simp only [World.size_alloc, World.size_drew, Act.put, List.setIfInBounds_toArray, List.set_cons_succ, List.set_cons_zero])
  obtain ⟨N, hN⟩ : ∃ N, w.heap.size = N := ⟨_, rfl⟩
  rw [hN] at hb1 hlt1 ⊢
  have HN := hid hN
  have q1 : Blk w1 N (bv (L 0)) := by rw [HL0.out, bv_replicate]; exact hb1
  clear hb1 hN
  go_loopw [4] (fun iv wr => ∃ i : Nat, i ≤ 256 ∧ iv = .int .i64 i ∧ Blk wr N (bv (L i)) ∧ Fr [] w wr) (fun iv _ => 256 - (intOf iv).toNat)
  case atStart => exact ⟨0, by omega, rfl, q1, f1⟩
  case round =>
    obtain ⟨i, hi, rfl, b1, f⟩ := hrel
    clear q1 f1
    by_cases hli : i < 256
    · have hd : decide ((i : Int) < 256) = true := by simp; omega
      have H := hid (rsub_any (w := wr) (UInt8.ofNat i))
      have H2 : Hid (Calls Tryz.prog 132 #[.int .u8 (i : Int)] wr fun e w' => e = .returned (bt (Xr.g8 subT i)) ∧ wr = w') := by
        rw [lit_u8 i hli, ← subT_of i hli]; exact H
      obtain ⟨X, hX⟩ : ∃ X, Xr.g8 subT i = X := ⟨_, rfl⟩
      have hx := X.toNat_lt
      have hx1 : (X.toNat : Int) < 256 := by omega
      have hx2 : X.toNat < 256 := hx
      have Hst := hid (HLs.out i hli)
      have Hl := hid (HLl.out i hi)
      rw [hX] at H2 Hst
      clear hX H
      go_wp2_with (first
        | (go_at_call 132; refine H2.out.mono ?_; rintro e w' ⟨rfl, rfl⟩)
        | (refine wpList_put rfl _ _ _ rfl rfl (bt (if true then UInt8.ofNat i else X)) (by first | rfl | exact lit_u8 i hli) rfl b1 (by rw [bv_length, Hl.out]; first | exact hx2 | exact hli) (by kernel_rfl) ?_; intro w2 f2 b2 hs2; simp only [World.size_alloc, World.size_drew, Act.put, List.setIfInBounds_toArray, List.set_cons_succ, List.set_cons_zero]))
      have b3 : Blk w2 N (bv (L (i + 1))) := by rw [← Hst.out, bv_set]; exact b2
      clear b2
      go_roundw
      case rel => exact ⟨i + 1, by omega, by go_num, b3, f.trans f2 (by simp; have := HN.out; omega)⟩
      case measure => simp [intOf]; omega
    · have hd : decide ((i : Int) < 256) = false := by simp; omega
      have ei : i = 256 := by omega
      rw [ei, HLe.out] at b1
      clear ei hi hli
      go_wp2_with fail
      go_ret
      exact ⟨N, rfl, b1, by have := HN.out; omega, f⟩
end Go.Proofs.YtneoagelcjfanaaGreatDoor.aes

/- Layer 3, the document's aes: a block, there and back. -/
namespace Go.Xr
open Go
set_option linter.unusedVariables false
theorem gxi : ∀ i : Nat, i < 16 → (4 * (((i : Int) / 4 + (i : Int)) % 4) + (i : Int) % 4).toNat = (i + i % 4 * 4) % 16 := by decide
def keyS (T : List UInt8) (r : Nat) : ByteArray := ⟨(rk T r).toArray⟩
def keysOf (T : List UInt8) : List ByteArray := (List.range 11).map fun r => keyS T r
theorem keysOf_len (T : List UInt8) : (keysOf T).length = 11 := by simp [keysOf]
/-- v is a slice of strings that starts at the head of a block. -/
def Ss (w : World) (v : Value) (l : List ByteArray) : Prop := ∃ b cap, v = .slice (some ⟨b, 0, none⟩) l.length cap ∧ l.length ≤ cap ∧ cap ≤ maxLen ∧ b < w.heap.size ∧ ∀ j, j < l.length → w.cell? ⟨b, j, none⟩ = some (.string (l.getD j ⟨#[]⟩))
theorem Ss.keep {w w' : World} {v : Value} {l : List ByteArray} (h : Ss w v l) (f : Fr [] w w') : Ss w' v l := by
  obtain ⟨b, cap, h1, h2, h3, h4, h5⟩ := h
  exact ⟨b, cap, h1, h2, h3, f.lt h4, fun j hj => (World.cell?_of_block (w := w) (f.block b h4 (by simp))).trans (h5 j hj)⟩
theorem Sb.of_own {w : World} {v : Value} {n : Nat} {l : List UInt8} {b : Nat} (h : Xr.Own w 1 v n (bv l) (some b)) : Sb w v l := by
  have hl : l.length = n := by have := h.1; rw [bv_length] at this; omega
  rcases h.2 with ⟨_, _, h1⟩ | ⟨b', cap, cs, hB, hv, h1, h2, h3, h4, h5⟩
  · cases h1
  · subst hl
    exact ⟨b', cap, cs, hv, h1, h2, h3, by rw [Nat.mul_one] at h5; exact h5⟩
theorem Sb.of' {w : World} {b cap n : Nat} {l : List UInt8} (h : Blk w b (bv l)) (hl : l.length = n) (hn : n ≤ cap) (hc : cap ≤ maxLen) : Sb w (.slice (some ⟨b, 0, none⟩) n cap) l := by
  subst hl
  exact Sb.of h hn hc
theorem keysOf_get (T : List UInt8) (r : Nat) (hr : r < 11) : (keysOf T).getD r ⟨#[]⟩ = keyS T r := by
  simp [keysOf, List.getD, hr]
theorem keyS_list (T : List UInt8) (r : Nat) : (keyS T r).data.toList = rk T r := rfl
def subOf (T : List UInt8) : List UInt8 := (T.drop 176).take 256
theorem subOf_len (T : List UInt8) (hT : T.length = 688) : (subOf T).length = 256 := by simp [subOf, hT]
theorem subOf_get (T : List UInt8) (i : Nat) (hi : i < 256) : g8 (subOf T) i = g8 T (176 + i) := by
  unfold subOf g8
  rw [List.getD_eq_getElem?_getD, List.getD_eq_getElem?_getD, List.getElem?_take, if_pos hi, List.getElem?_drop]
def unsOf (T : List UInt8) : List UInt8 := (T.drop 432).take 256
theorem unsOf_len (T : List UInt8) (hT : T.length = 688) : (unsOf T).length = 256 := by simp [unsOf, hT]
theorem unsOf_get (T : List UInt8) (i : Nat) (hi : i < 256) : g8 (unsOf T) i = g8 T (432 + i) := by
  unfold unsOf g8
  rw [List.getD_eq_getElem?_getD, List.getD_eq_getElem?_getD, List.getElem?_take, if_pos hi, List.getElem?_drop]
end Go.Xr
namespace Go.Proofs.YtneoagelcjfanaaGreatDoor.aes
open Go Go.Xr Go.RowKit
set_option linter.unusedVariables false
set_option linter.unusedSimpArgs false
attribute [local go_sem] xor_u8 xor_u8_c at_bt

set_option maxRecDepth 20000 in
set_option maxHeartbeats 1000000 in
theorem rblock_any {w : World} {v u : Value} {T : List UInt8} (s : ByteArray) (hv : Ss w v (keysOf T)) (hu : Sb w u (subOf T)) (hT : T.length = 688) (hs : s.size = 16) :
    Calls Tryz.prog 127 #[v, u, .string s] w fun e w' => e = .returned (.string ⟨(blockS T s.data.toList).toArray⟩) ∧ Fr [] w w' := by
  obtain ⟨i5, hi5, hz5, hs5, hb5⟩ := inf5
  have Hi := hid hi5
  have Hz := hid hz5
  have Hs := hid hs5
  have Hb := hid hb5
  obtain ⟨bk, ck, rfl, hk1, hk2, hkl, hkey⟩ := hv
  obtain ⟨bs, cs, rfl, hc3, hc4, hsl, hsub⟩ := hu.cells
  rw [keysOf_len] at hkey hk1
  rw [subOf_len T hT] at hsub hc3
  rw [keysOf_len, subOf_len T hT]
  unfold maxLen at hk2 hc4
  have Hk : Hid (∀ j, j < 11 → w.cell? ⟨bk, j, none⟩ = some (.string (keyS T j))) := hid fun j hj => by rw [hkey j hj, keysOf_get T j hj]
  have Hd : Hid (∀ j, j < 256 → w.cell? ⟨bs, j, none⟩ = some (bt (g8 T (176 + j)))) := hid fun j hj => by rw [hsub j hj, subOf_get T j hj]
  have HT := hid hT
  have Hsz := hid hs
  obtain ⟨S, hS⟩ : ∃ S, s.data.toList = S := ⟨_, rfl⟩
  have HS := hid hS
  have HSl := hid (show S.length = 16 by rw [← hS, Array.length_toList]; exact hs)
  have hmx : s.size ≤ maxLen := by rw [hs]; decide
  have k0 := Hk.out 0 (by decide)
  have Hrl := hid fun r (hr : r ≤ 11) => rk_len T hT r hr
  rw [hS]
  have Hmx := hid hmx
  clear hi5 hz5 hs5 hb5 hkey hsub hT hs hu hS hmx
  go_enter Tryz.func127, Tryz.ntmps127
  go_wp2_with (first
    | (refine wpList_bytes_own rfl 9 67 5 _ rfl s rfl Hmx.out Tryz.underlying9 Tryz.underlying67 Tryz.underlying5 ?_; intro w1 c1 f1 hlt1 ho1; rw [HS.out] at ho1; have k1 := f1.cell_some k0; simp only [World.size_alloc, World.size_drew, Act.put, List.setIfInBounds_toArray, List.set_cons_succ, List.set_cons_zero])
    | (go_at_call 134; refine (rwith_any (keyS T 0) (Sb.of_own ho1) HSl.out (by show (rk T 0).toArray.size = 16; rw [List.size_toArray]; exact Hrl.out 0 (by decide))).mono ?_; rintro e w2 ⟨N0, rfl, hN0, hge, f2⟩))
  have f3 := f1.trans' f2
  have q0 : Blk w2 N0 (bv (blkR T S (1 - 1))) := hN0
  have Hk2 := hid (cells_keep Hk.out f3 hkl (by simp))
  have Hd2 := hid (cells_keep Hd.out f3 hsl (by simp))
  have hge0 : w.heap.size ≤ N0 := by have := f1.size; omega
  clear f1 f2 hN0 k0 k1 ho1 hlt1 hge hc3
  go_loopw [7, 8] (fun bv0 rv wr => ∃ r N : Nat, 1 ≤ r ∧ r ≤ 11 ∧ rv = .int .i64 r ∧ bv0 = .slice (some ⟨N, 0, none⟩) 16 16 ∧ Blk wr N (bv (blkR T S (r - 1))) ∧ Hid (∀ j, j < 11 → wr.cell? ⟨bk, j, none⟩ = some (.string (keyS T j))) ∧ Hid (∀ j, j < 256 → wr.cell? ⟨bs, j, none⟩ = some (bt (g8 T (176 + j)))) ∧ Fr [] w wr) (fun _ rv _ => 11 - (intOf rv).toNat)
  case atStart => exact ⟨1, N0, by decide, by decide, rfl, rfl, q0, Hk2, Hd2, f3⟩
  case round =>
    obtain ⟨r, N, hr1, hr, rfl, rfl, b1, hk, hd, f⟩ := hrel
    clear q0 Hk2 Hd2 f3 hge0
    by_cases hlt : r < 11
    · have hd1 : decide ((r : Int) ≤ 10) = true := by simp; omega
      obtain ⟨C, hC⟩ : ∃ C, blkR T S (r - 1) = C := ⟨_, rfl⟩
      have HC := hid hC
      have HCl := hid (show C.length = 16 by rw [← hC]; exact blkR_len _ _ _)
      rw [hC] at b1
      clear hC
      go_wp2_with (refine wpList_make_blk rfl _ _ _ rfl 16 16 .i64 .i64 rfl rfl 5 _ _ 1 Tryz.underlying67 Hi.out Hz.out Hs.out Hb.out rfl (by decide) (by decide) (by decide) ?_; intro w3 f4 hlt4 hb4; simp only [World.size_alloc, World.size_drew, Act.put, List.setIfInBounds_toArray, List.set_cons_succ, List.set_cons_zero])
      obtain ⟨Nt, hNt⟩ : ∃ Nt, wr.heap.size = Nt := ⟨_, rfl⟩
      rw [hNt] at hb4 hlt4 ⊢
      have c1 := f4.blk b1 (by simp)
      have c3 : Blk w3 Nt (bv (partL (shs T C) 0)) := by rw [partL_zero]; exact hb4
      have hk3 := hid (cells_keep hk.out f4 (f.lt hkl) (by simp))
      have hd3 := hid (cells_keep hd.out f4 (f.lt hsl) (by simp))
      have g4 := f.trans' f4
      have HNt : w.heap.size ≤ Nt := by have := f.size; omega
      have hNN : N < Nt := by have := b1.lt; omega
      clear b1 hb4 hk hd f f4 hNt hlt4
      clear hd1
      go_loopw [10] (fun iv wr => ∃ i : Nat, i ≤ 16 ∧ iv = .int .i64 i ∧ Blk wr N (bv C) ∧ Blk wr Nt (bv (partL (shs T C) i)) ∧ Hid (∀ j, j < 11 → wr.cell? ⟨bk, j, none⟩ = some (.string (keyS T j))) ∧ Hid (∀ j, j < 256 → wr.cell? ⟨bs, j, none⟩ = some (bt (g8 T (176 + j)))) ∧ Fr [] w wr) (fun iv _ => 16 - (intOf iv).toNat)
      case atStart => exact ⟨0, by omega, rfl, c1, c3, hk3, hd3, g4⟩
      case round =>
        obtain ⟨i, hi, rfl, d1, d2, hk, hd, g⟩ := hrel
        clear c1 c3 hk3 hd3 g4
        by_cases hli : i < 16
        · have hd2 : decide ((i : Int) < 16) = true := by simp; omega
          obtain ⟨J, hJ⟩ : ∃ J, (i + i % 4 * 4) % 16 = J := ⟨_, rfl⟩
          obtain ⟨X, hX⟩ : ∃ X, g8 C J = X := ⟨_, rfl⟩
          obtain ⟨Y, hY⟩ : ∃ Y, g8 T (176 + X.toNat) = Y := ⟨_, rfl⟩
          have hx := X.toNat_lt
          have hx2 : X.toNat < 256 := hx
          have k1 : wr.cell? ⟨N, J, none⟩ = some (bt X) := by rw [d1.cell, bv_getElem?, g8_eq C J (by rw [HCl.out]; omega), hX]; rfl
          have k2 : wr.cell? ⟨bs, X.toNat, none⟩ = some (bt Y) := by rw [hd.out _ hx2, hY]
          have hY2 := hid (show g8 (shs T C) i = Y by rw [shs_get T C i hli, hJ, hX, hY])
          have m1 : (4 * (((i : Int) / 4 + (i : Int)) % 4) + (i : Int) % 4).toNat = J := by rw [gxi i hli, hJ]
          have m2 : (X.toNat : Int) < 256 := by omega
          have m3 : 4 * (((i : Int) / 4 + (i : Int)) % 4) + (i : Int) % 4 < 16 := by omega
          clear hY hX hJ
          go_wp2_with (refine wpList_put rfl _ _ _ rfl rfl (bt Y) rfl rfl d2 (by rw [bv_length, partL_len _ (shs_len T C) i hi]; exact hli) (by kernel_rfl) ?_; intro w6 f6 b6 hs6; rw [← hY2.out, ← bv_set, partL_set _ (shs_len T C) i hli] at b6; simp only [World.size_alloc, World.size_drew, Act.put, List.setIfInBounds_toArray, List.set_cons_succ, List.set_cons_zero])
          have hl2 := d2.lt
          go_roundw
          case rel => exact ⟨i + 1, by omega, by go_num, f6.blk d1 (by simp; omega), b6, hid (cells_keep hk.out f6 (g.lt hkl) (by simp; omega)), hid (cells_keep hd.out f6 (g.lt hsl) (by simp; omega)), g.trans f6 (by simp; omega)⟩
          case measure => simp [intOf]; omega
        · have hd2 : decide ((i : Int) < 16) = false := by simp; omega
          have ei : i = 16 := by omega
          rw [ei, partL_all _ (shs_len T C)] at d2
          clear ei hli hi
          obtain ⟨D0, hD0⟩ : ∃ D0, shs T C = D0 := ⟨_, rfl⟩
          have HD0 := hid (show D0.length = 16 by rw [← hD0]; exact shs_len _ _)
          rw [hD0] at d2
          have HE := HC.out
          have hkr := hk.out r hlt
          by_cases hr10 : r < 10
          case' pos =>
            have hd10 : decide ((r : Int) < 10) = true := by simp; omega
            have HE2 := hid (show xorL (mixL F1 D0) (rk T r) = blkR T S r by
              obtain ⟨q, rfl⟩ : ∃ q, r = q + 1 := ⟨r - 1, by omega⟩
              rw [Nat.add_sub_cancel] at HE
              rw [blkR, if_pos hr10, HE, hD0])
            clear HE hr10
            go_wp2_with fail
            have hbF : Blk (wr.alloc (.cells #[.int .u8 2, .int .u8 3, .int .u8 1, .int .u8 1] 5)) wr.heap.size (bv F1) := Blk.alloc wr (bv F1) _
            have fF := (Fr.refl [] wr).alloc (.cells #[.int .u8 2, .int .u8 3, .int .u8 1, .int .u8 1] 5)
            generalize wr.alloc (.cells #[.int .u8 2, .int .u8 3, .int .u8 1, .int .u8 1] 5) = w5 at hbF fF ⊢
            refine (rmix_any (Sb.of' (fF.blk d2 (by simp)) HD0.out (by decide) (by decide)) HD0.out (Sb.of' (l := F1) hbF rfl (by decide) (by decide)) rfl).mono ?_
            rintro e w6 ⟨Nm, rfl, hNm, hge, f6⟩
            have gm := (fF.trans' f6)
            have hkm := gm.cell_some hkr
            obtain ⟨D, hD⟩ : ∃ D, mixL F1 D0 = D := ⟨_, rfl⟩
            have HD := hid (show D.length = 16 by rw [← hD]; exact mixL_len _ _)
            rw [hD] at HE2 hNm
            clear hD hbF fF f6 hge hkr
            go_wp2_with fail
          case' neg =>
            have hd10 : decide ((r : Int) < 10) = false := by simp; omega
            have HE2 := hid (show xorL D0 (rk T r) = blkR T S r by
              obtain ⟨q, rfl⟩ : ∃ q, r = q + 1 := ⟨r - 1, by omega⟩
              rw [Nat.add_sub_cancel] at HE
              rw [blkR, if_neg hr10, HE, hD0])
            clear HE hr10
            go_wp2_with fail
            have gm := Fr.refl [] wr
            have hNm := d2
            have hkm := hkr
            have HD := HD0
            clear hkr
          all_goals
            refine (rwith_any (keyS T r) (Sb.of' (cap := 16) hNm HD.out (by decide) (by decide)) HD.out (by show (rk T r).toArray.size = 16; rw [List.size_toArray]; exact Hrl.out r hr)).mono ?_
            rintro e w8 ⟨N8, rfl, hN8, hge8, f8⟩
            rw [keyS_list, HE2.out] at hN8
            have g8 := gm.trans' f8
            clear gm f8 hge8 hkm hNm HE2
            go_wp2_with fail
            go_roundw
            case rel => exact ⟨r + 1, N8, by omega, by omega, by go_num, rfl, hN8, hid (cells_keep hk.out g8 (g.lt hkl) (by simp)), hid (cells_keep hd.out g8 (g.lt hsl) (by simp)), g.trans' g8⟩
            case measure => simp [intOf]; omega
    · have er : r = 11 := by omega
      have hd1 : decide ((r : Int) ≤ 10) = false := by simp; omega
      rw [er] at b1
      clear er hlt
      have b2 : Blk wr N (bv (blockS T S)) := b1
      go_wp2_with (refine wpList_string_of_bytes rfl 67 9 5 _ rfl 16 16 rfl b2 (blockS T S) (blockS_len T S) (by rw [List.drop_zero, blockS_len, ← bvl (blockS_len T S), List.take_length]) Tryz.underlying67 Tryz.underlying5 Tryz.underlying9 ?_; simp only [World.size_alloc, World.size_drew, Act.put, List.setIfInBounds_toArray, List.set_cons_succ, List.set_cons_zero])
      go_ret
      exact ⟨rfl, f⟩
end Go.Proofs.YtneoagelcjfanaaGreatDoor.aes

/- Layer 3, the document's aes: the round keys. -/
namespace Go.Xr
open Go
set_option linter.unusedVariables false
theorem times_two (p : UInt8) : times p 2 = tw p := by
  have := u8_every (fun p => times p 2 == tw p) (by decide +kernel) p
  simpa using this
/-- What is laid upon the word before the last: of the four bytes at n = 4 * i. -/
def tl4 (sub : List UInt8) (i : Nat) (A : List UInt8) : List UInt8 :=
  if i % 4 = 0 then [g8 sub (g8 A (4 * i - 4 + 1)).toNat ^^^ pwr ((i - 1) / 4), g8 sub (g8 A (4 * i - 4 + 2)).toNat, g8 sub (g8 A (4 * i - 4 + 3)).toNat, g8 sub (g8 A (4 * i - 4)).toNat]
  else [g8 A (4 * i - 4), g8 A (4 * i - 4 + 1), g8 A (4 * i - 4 + 2), g8 A (4 * i - 4 + 3)]
theorem tl4_len (sub : List UInt8) (i : Nat) (A : List UInt8) : (tl4 sub i A).length = 4 := by unfold tl4; split <;> rfl
theorem kv_tl (sub key : List UInt8) (hk : key.length = 16) (i k : Nat) (hi : 4 ≤ i) (hk4 : k < 4) :
    kv sub (4 * i + k) (KS sub key (4 * i - 16 + k)) = g8 (KS sub key (4 * i - 16 + k)) (4 * i - 16 + k) ^^^ g8 (tl4 sub i (KS sub key (4 * i - 16))) k := by
  have pre : ∀ j, j < 4 * i → g8 (KS sub key (4 * i - 16 + k)) j = g8 (KS sub key (4 * i - 16)) j := fun j hj => KS_pre sub key hk _ _ (by omega) k
  by_cases h0 : i % 4 = 0
  · obtain ⟨r, rfl⟩ : ∃ r, i = 4 * r := ⟨i / 4, by omega⟩
    unfold tl4
    rw [if_pos h0, show (4 * r - 1) / 4 = r - 1 by omega]
    by_cases hk0 : k = 0
    · subst hk0
      rw [show 4 * (4 * r) + 0 = 16 * r by omega, kv0 _ _ (by omega), pre _ (by omega), pre _ (by omega), pre _ (by omega), UInt8.xor_assoc, show 16 * (r - 1) + 0 = 4 * (4 * r) - 16 + 0 by omega, show 16 * (r - 1) + 13 = 4 * (4 * r) - 4 + 1 by omega]
      rfl
    · rw [show 4 * (4 * r) + k = 16 * r + k by omega, kv1 _ _ _ (by omega) (by omega) hk4, pre _ (by omega), pre _ (by omega), pre _ (by omega), show 16 * (r - 1) + k = 4 * (4 * r) - 16 + k by omega]
      congr 1
      have h3 : k = 1 ∨ k = 2 ∨ k = 3 := by omega
      rcases h3 with rfl | rfl | rfl
      · rw [show 16 * (r - 1) + (12 + (1 + 1) % 4) = 4 * (4 * r) - 4 + 2 by omega]; rfl
      · rw [show 16 * (r - 1) + (12 + (2 + 1) % 4) = 4 * (4 * r) - 4 + 3 by omega]; rfl
      · rw [show 16 * (r - 1) + (12 + (3 + 1) % 4) = 4 * (4 * r) - 4 by omega]; rfl
  · obtain ⟨r, c, rfl, hc, hc4⟩ : ∃ r c, i = 4 * r + c ∧ 0 < c ∧ c < 4 := ⟨i / 4, i % 4, by omega, by omega, by omega⟩
    unfold tl4
    rw [if_neg h0, show 4 * (4 * r + c) + k = 16 * r + (4 * c + k) by omega, kv2 _ _ _ (by omega) (by omega) (by omega), pre _ (by omega), pre _ (by omega), pre _ (by omega), show 16 * (r - 1) + (4 * c + k) = 4 * (4 * r + c) - 16 + k by omega, show 16 * r + (4 * c + k) - 4 = 4 * (4 * r + c) - 4 + k by omega]
    congr 1
    have h3 : k = 0 ∨ k = 1 ∨ k = 2 ∨ k = 3 := by omega
    rcases h3 with rfl | rfl | rfl | rfl <;> rfl
theorem rk_ciT (key : List UInt8) (hk : key.length = 16) (r : Nat) (hr : r < 11) : rk (ciT key) r = ((KS subT key 160).drop (16 * r)).take 16 := by
  have hl := KS_len subT key hk 160
  unfold rk ciT TT
  rw [List.drop_append_of_le_length (by omega), List.take_append_of_le_length (by rw [List.length_drop]; omega)]
end Go.Xr
namespace Go.Proofs.YtneoagelcjfanaaGreatDoor.aes
open Go Go.Xr Go.RowKit
set_option linter.unusedVariables false
set_option linter.unusedSimpArgs false
attribute [local go_sem] xor_u8 xor_u8_c at_bt
theorem rtwo_any {w : World} (P : UInt8) : Calls Tryz.prog 133 #[bt P, .int .u8 2] w fun e w' => e = .returned (bt (tw P)) ∧ w = w' := by
  have := rtimes_any (w := w) P 2
  rw [times_two] at this
  exact this
set_option maxRecDepth 20000 in
theorem infStr : ∃ i, Tryz.prog.info? 9 = some i ∧ i.zero = some (.string ⟨#[]⟩) ∧ i.size = 1 ∧ i.bytes = 16 := ⟨_, rfl, rfl, rfl, rfl⟩
theorem four (A : List UInt8) (o : Nat) (h : o + 4 ≤ A.length) : (A.drop o).take 4 = [g8 A o, g8 A (o + 1), g8 A (o + 2), g8 A (o + 3)] := by
  apply List.ext_getElem?
  intro j
  rw [List.getElem?_take]
  by_cases hj : j < 4
  · rw [if_pos hj, List.getElem?_drop, g8_eq A _ (by omega)]
    have h3 : j = 0 ∨ j = 1 ∨ j = 2 ∨ j = 3 := by omega
    rcases h3 with rfl | rfl | rfl | rfl <;> rfl
  · rw [if_neg hj, List.getElem?_eq_none (by simp; omega)]

set_option maxRecDepth 20000 in
set_option maxHeartbeats 1000000 in
theorem rrounds_any {w : World} {u : Value} (s : ByteArray) (hu : Sb w u subT) (hs : s.size = 16) :
    Calls Tryz.prog 126 #[.string s, u] w fun e w' => ∃ v, e = .returned v ∧ Ss w' v (keysOf (ciT s.data.toList)) ∧ Fr [] w w' := by
  obtain ⟨i5, hi5, hz5, hs5, hb5⟩ := inf5
  have Hi := hid hi5
  have Hz := hid hz5
  have Hs := hid hs5
  have Hb := hid hb5
  obtain ⟨bs, cs, rfl, hc3, hc4, hsl, hsub⟩ := hu.cells
  rw [subT_len] at hsub hc3
  rw [subT_len]
  unfold maxLen at hc4
  have Hd := hid hsub
  obtain ⟨S, hS⟩ : ∃ S, s.data.toList = S := ⟨_, rfl⟩
  have HS := hid hS
  have HSl := hid (show S.length = 16 by rw [← hS, Array.length_toList]; exact hs)
  have Hmx := hid (show s.size ≤ maxLen by rw [hs]; decide)
  have Hsz := hid hs
  rw [hS]
  clear hi5 hz5 hs5 hb5 hsub hs hu hS
  go_enter Tryz.func126, Tryz.ntmps126
  go_wp2_with (refine wpList_bytes_own rfl 9 67 5 _ rfl s rfl Hmx.out Tryz.underlying9 Tryz.underlying67 Tryz.underlying5 ?_; intro w1 c1 f1 hlt1 ho1; rw [HS.out] at ho1; simp only [World.size_alloc, World.size_drew, Act.put, List.setIfInBounds_toArray, List.set_cons_succ, List.set_cons_zero])
  have Hd1 := hid (cells_keep Hd.out f1 hsl (by simp))
  have ho2 : Xr.Own w1 1 (.slice (some ⟨w.heap.size, 0, none⟩) s.size c1) (4 * 4) (bv (KS subT S (4 * 4 - 16))) (some w.heap.size) := by
    have key : ∀ n, n = s.size → Xr.Own w1 1 (.slice (some ⟨w.heap.size, 0, none⟩) s.size c1) n (bv S) (some w.heap.size) := fun n hn => by subst hn; exact ho1
    exact key (4 * 4) Hsz.out.symm
  clear ho1
  go_loopw [5, 6, 7] (fun bv0 pv iv wr => ∃ i b : Nat, 4 ≤ i ∧ i ≤ 44 ∧ iv = .int .i64 i ∧ pv = bt (pwr ((i - 1) / 4)) ∧ Xr.Own wr 1 bv0 (4 * i) (bv (KS subT S (4 * i - 16))) (some b) ∧ w.heap.size ≤ b ∧ Hid (∀ j, j < 256 → wr.cell? ⟨bs, j, none⟩ = some (bt (g8 subT j))) ∧ Fr [] w wr) (fun _ _ iv _ => 44 - (intOf iv).toNat)
  case atStart => exact ⟨4, _, by decide, by decide, rfl, rfl, ho2, Nat.le_refl _, Hd1, f1⟩
  case round =>
    obtain ⟨i, b, hi4, hi44, rfl, rfl, ho, hge, hd, f⟩ := hrel
    clear ho2 Hd1 f1 hlt1
    obtain ⟨b', cap, hbb, rfl, hnc, hcm, hcell⟩ := ho.opened (by omega)
    cases hbb
    unfold maxLen at hcm
    obtain ⟨A, hA⟩ : ∃ A, KS subT S (4 * i - 16) = A := ⟨_, rfl⟩
    have hAl : A.length = 4 * i := by rw [← hA, KS_len _ _ HSl.out]; omega
    have HA := hid hA
    have HAl := hid hAl
    rw [hA] at ho hcell
    have Hcell : Hid (∀ j, j < 4 * i → wr.cell? ⟨b, j, none⟩ = some (bt (g8 A j))) := hid fun j hj => by
      have := (hcell j (by rw [bv_length, hAl]; exact hj)).1
      rw [this, bv_getElem?, g8_eq A j (by omega)]
      rfl
    have Ho := hid ho
    clear hcell hA hAl ho
    by_cases hlt : i < 44
    · have hd1 : decide ((i : Int) < 44) = true := by simp; omega
      have Hm4 := hid (show 4 * i - (4 * i - 4) = 4 by omega)
      have ho0 : Xr.Own (wr.alloc (.cells #[] 5)) 1 (.slice (some ⟨wr.heap.size, 0, none⟩) 0 0) 0 [] (some wr.heap.size) := Xr.Own.blk (cs := []) (Blk.alloc wr [] _) (Nat.le_refl _) (by simp) (by simp)
      have Ho0 := hid ho0
      obtain ⟨T0, hT0⟩ : ∃ T0, [g8 A (4 * i - 4), g8 A (4 * i - 4 + 1), g8 A (4 * i - 4 + 2), g8 A (4 * i - 4 + 3)] = T0 := ⟨_, rfl⟩
      have HT0 := hid hT0
      have HT0l := hid (show T0.length = 4 by rw [← hT0]; rfl)
      have fa := (Fr.refl [] wr).alloc (.cells #[] 5)
      have hnews : ∀ j u, (bv T0)[j]? = some u → (wr.alloc (.cells #[] 5)).cell? ((⟨b, 4 * i - 4, none⟩ : Addr).add j) = some u := by
        intro j u hu
        have hj : j < 4 := by have := (List.getElem?_eq_some_iff.1 hu).1; rw [bv_length, HT0l.out] at this; exact this
        have e : (⟨b, 4 * i - 4, none⟩ : Addr).add j = ⟨b, 4 * i - 4 + j, none⟩ := by unfold Addr.add; split <;> simp_all
        rw [e, fa.cell_some (Hcell.out _ (by omega)), ← hu, bv_getElem?, ← hT0]
        have h3 : j = 0 ∨ j = 1 ∨ j = 2 ∨ j = 3 := by omega
        rcases h3 with rfl | rfl | rfl | rfl <;> rfl
      have Hnews := hid hnews
      clear hnews hT0 ho0
      have hc3 : (i % 4 = 0 ∧ Hid (tl4 subT i A = [g8 subT (g8 T0 1).toNat ^^^ pwr ((i - 1) / 4), g8 subT (g8 T0 2).toNat, g8 subT (g8 T0 3).toNat, g8 subT (g8 T0 0).toNat])) ∨ (¬ i % 4 = 0 ∧ Hid (tl4 subT i A = T0)) := by
        by_cases h : i % 4 = 0
        · exact .inl ⟨h, hid (by unfold tl4; rw [if_pos h, ← HT0.out]; rfl)⟩
        · exact .inr ⟨h, hid (by unfold tl4; rw [if_neg h, ← HT0.out])⟩
      rcases hc3 with ⟨hc, Htl⟩ | ⟨hc, Htl⟩
      case' inl =>
        have hd2 : (((i : Int) % 4) == 0) = true := by rw [beq_iff_eq]; omega
        have Hc := hid hc
        clear hc
        go_wp2_with (refine wpList_append rfl _ _ _ rfl 5 _ _ 1 1 Tryz.underlying67 Hi.out Hz.out Hs.out Hb.out rfl (by decide) rfl Ho0.out ⟨b, 4 * i - 4, none⟩ (4 * i - (4 * i - 4)) _ (bv T0) rfl (by rw [bv_length, HT0l.out, Hm4.out]) Hnews.out (bv_one _) (by rw [Hm4.out]; decide) (by rw [Hm4.out]; decide) ?_; intro v2 w2 B2 ho3 f3 hB3; rw [Hm4.out, Nat.zero_add, List.nil_append] at ho3; simp only [World.size_alloc, World.size_drew, Act.put, List.setIfInBounds_toArray, List.set_cons_succ, List.set_cons_zero])
        obtain ⟨b2, cap2, rfl, rfl, hn2, hm2, hcell2⟩ := ho3.opened (by decide)
        have hb2 : wr.heap.size ≤ b2 := by
          rcases hB3 with h | ⟨x, h, hx⟩
          · cases h; exact Nat.le_refl _
          · cases h; simp at hx; omega
        have f4 : Fr [] wr w2 := fa.trans f3 (by simp)
        have hlt2 : b2 < w2.heap.size := ho3.lt b2 rfl
        have Hq : Hid (∀ j, j < 4 → w2.cell? ⟨b2, j, none⟩ = some (bt (g8 T0 j))) := hid fun j hj => by
          rw [(hcell2 j (by rw [bv_length, HT0l.out]; exact hj)).1, bv_getElem?, g8_eq T0 j (by rw [HT0l.out]; exact hj)]; rfl
        have hd4 := hid (cells_keep hd.out f4 (f.lt hsl) (by simp))
        unfold maxLen at hm2
        clear hcell2 ho3 hB3 f3
        obtain ⟨X0, hX0⟩ : ∃ X0, g8 T0 0 = X0 := ⟨_, rfl⟩
        obtain ⟨X1, hX1⟩ : ∃ X1, g8 T0 1 = X1 := ⟨_, rfl⟩
        obtain ⟨X2, hX2⟩ : ∃ X2, g8 T0 2 = X2 := ⟨_, rfl⟩
        obtain ⟨X3, hX3⟩ : ∃ X3, g8 T0 3 = X3 := ⟨_, rfl⟩
        have k0 : w2.cell? ⟨b2, 0, none⟩ = some (bt X0) := by rw [Hq.out 0 (by decide), hX0]
        have k1 : w2.cell? ⟨b2, 1, none⟩ = some (bt X1) := by rw [Hq.out 1 (by decide), hX1]
        have k2 : w2.cell? ⟨b2, 2, none⟩ = some (bt X2) := by rw [Hq.out 2 (by decide), hX2]
        have k3 : w2.cell? ⟨b2, 3, none⟩ = some (bt X3) := by rw [Hq.out 3 (by decide), hX3]
        have n0 := X0.toNat_lt
        have n1 := X1.toNat_lt
        have n2 := X2.toNat_lt
        have n3 := X3.toNat_lt
        have s0 := hd4.out X0.toNat n0
        have s1 := hd4.out X1.toNat n1
        have s2 := hd4.out X2.toNat n2
        have s3 := hd4.out X3.toNat n3
        have m0 : (X0.toNat : Int) < 256 := by omega
        have m1 : (X1.toNat : Int) < 256 := by omega
        have m2 : (X2.toNat : Int) < 256 := by omega
        have m3 : (X3.toNat : Int) < 256 := by omega
        have htl := Htl.out
        rw [hX0, hX1, hX2, hX3] at htl
        have Htl2 := hid htl
        clear Hq hX0 hX1 hX2 hX3 htl
        refine wp_region_D (fun _ => True) false [] (by kernel_rfl) ?_
        refine WD.pure [0, 1, 2, 3, 4, 5, 6, 7, 8, 9, 10, 11, 12, 13, 14, 15, 16, 17, 18, 19, 20, 21, 22, 23, 24, 25] (by kernel_rfl) trivial ?_
        simp only [pick, List.toList_toArray, List.map_cons, List.map_nil, List.getD_cons_succ, List.getD_cons_zero]
        repeat (first | go_big_quiet_step (fail))
        refine wpQuiet_nil ?_
        refine WD.eff 26 (by kernel_rfl) ?_
        simp only [pick, List.toList_toArray, List.map_cons, List.map_nil, List.getD_cons_succ, List.getD_cons_zero]
        refine wpList_buildSlice_ones rfl _ 4 _ rfl 5 Tryz.underlying67 _ _ Hi.out Hz.out rfl Hs.out (by decide) (by decide) rfl (bv (tl4 subT i A)) (by rw [Htl2.out]; rfl) (bv_one _) ?_
        intro hbT
        try refine wpList_nil ?_
        refine AfterD.on trivial (by kernel_rfl) ?_
        try simp only [World.size_alloc, World.size_drew, Act.put, List.setIfInBounds_toArray, List.set_cons_succ, List.set_cons_zero]
        refine WD.pure [27] (by kernel_rfl) trivial ?_
        simp only [pick, List.toList_toArray, List.map_cons, List.map_nil, List.getD_cons_succ, List.getD_cons_zero]
        repeat (first | go_big_quiet_step (fail))
        refine wpQuiet_nil ?_
        refine WD.done (by kernel_rfl) ?_
        have fB := (Fr.refl [] w2).drew.alloc (.cells (bv (tl4 subT i A)).toArray 5)
        have hbT2 : Sb (w2.drew.alloc (.cells (bv (tl4 subT i A)).toArray 5)) (.slice (some ⟨w2.heap.size, 0, none⟩) 4 4) (tl4 subT i A) := Sb.of' hbT (tl4_len _ _ _) (by decide) (by decide)
        have Hpw := hid (show tw (pwr ((i - 1) / 4)) = pwr ((i + 1 - 1) / 4) by
          have e : (i + 1 - 1) / 4 = (i - 1) / 4 + 1 := by have := Hc.out; omega
          rw [e]; rfl)
        generalize w2.drew.alloc (.cells (bv (tl4 subT i A)).toArray 5) = w5 at fB hbT2 ⊢
        clear k0 k1 k2 k3 s0 s1 s2 s3 hbT
        go_wp2_with fail
        refine (rtwo_any _).mono ?_
        rintro e w' ⟨rfl, rfl⟩
        rw [Hpw.out]
        go_wp2_with fail
        have f5 := f4.trans' fB
        obtain ⟨b3, hb3⟩ : ∃ b3, w2.heap.size = b3 := ⟨_, rfl⟩
        have hb3n : b < b3 := by have := Ho.out.lt b rfl; have := f4.size; omega
        rw [hb3] at hbT2 ⊢
        clear f4 fB hd4
      case' inr =>
        have hd2 : (((i : Int) % 4) == 0) = false := by rw [beq_eq_false_iff_ne]; omega
        have Hc := hid hc
        clear hc
        go_wp2_with (refine wpList_append rfl _ _ _ rfl 5 _ _ 1 1 Tryz.underlying67 Hi.out Hz.out Hs.out Hb.out rfl (by decide) rfl Ho0.out ⟨b, 4 * i - 4, none⟩ (4 * i - (4 * i - 4)) _ (bv T0) rfl (by rw [bv_length, HT0l.out, Hm4.out]) Hnews.out (bv_one _) (by rw [Hm4.out]; decide) (by rw [Hm4.out]; decide) ?_; intro v2 w2 B2 ho3 f3 hB3; rw [Hm4.out, Nat.zero_add, List.nil_append] at ho3; simp only [World.size_alloc, World.size_drew, Act.put, List.setIfInBounds_toArray, List.set_cons_succ, List.set_cons_zero])
        obtain ⟨b2, cap2, rfl, rfl, hn2, hm2, hcell2⟩ := ho3.opened (by decide)
        have f4 : Fr [] wr w2 := fa.trans f3 (by simp)
        have hbT2 : Sb w2 (.slice (some ⟨b2, 0, none⟩) 4 cap2) (tl4 subT i A) := by
          rw [Htl.out]
          exact Sb.of_own ho3
        have Hpw := hid (show pwr ((i - 1) / 4) = pwr ((i + 1 - 1) / 4) by
          have e : (i + 1 - 1) / 4 = (i - 1) / 4 := by have := Hc.out; omega
          rw [e])
        rw [Hpw.out]
        have hb3n : b < b2 := by
          have := Ho.out.lt b rfl
          rcases hB3 with h | ⟨x, h, hx⟩
          · cases h; exact this
          · cases h; simp at hx; omega
        obtain ⟨w5, rfl⟩ : ∃ w5, w5 = w2 := ⟨_, rfl⟩
        obtain ⟨b3, rfl⟩ : ∃ b3, b3 = b2 := ⟨_, rfl⟩
        have f5 := f4
        clear hcell2 ho3 hB3 f3 f4
      all_goals
        obtain ⟨TL, hTL⟩ : ∃ TL, tl4 subT i A = TL := ⟨_, rfl⟩
        have hTl : TL.length = 4 := by rw [← hTL]; exact tl4_len _ _ _
        have HTl := hid hTl
        have Hkv : Hid (∀ k, k < 4 → kv subT (16 + (4 * i - 16 + k)) (KS subT S (4 * i - 16 + k)) = g8 (KS subT S (4 * i - 16 + k)) (4 * i - 16 + k) ^^^ g8 TL k) := hid fun k hk => by
          rw [show 16 + (4 * i - 16 + k) = 4 * i + k by omega, kv_tl subT S HSl.out i k hi4 hk, HA.out, hTL]
        rw [hTL] at hbT2
        have q1 : Xr.Own w5 1 (.slice (some ⟨b, 0, none⟩) (4 * i) cap) (4 * i + 0) (bv (KS subT S (4 * i - 16 + 0))) (some b) := by
          rw [Nat.add_zero, Nat.add_zero, HA.out]
          exact Ho.out.keep f5 (by simp)
        have q2 : Hid (∀ j, j < 4 → w5.cell? ⟨b3, j, none⟩ = some (bt (g8 TL j))) ∧ b3 < w5.heap.size := by
          obtain ⟨b', cap', e, _, _, hl, hc⟩ := hbT2.cells
          simp only [Value.slice.injEq, Option.some.injEq, Addr.mk.injEq] at e
          obtain ⟨⟨rfl, _⟩, _⟩ := e
          rw [hTl] at hc
          exact ⟨hid hc, hl⟩
        obtain ⟨q2, q3⟩ := q2
        have q4 := hid (cells_keep hd.out f5 (f.lt hsl) (by simp))
        have q5 := f.trans' f5
        have hne3 : b ≠ b3 := by omega
        clear hbT2 hTL hTl Hnews Ho0 fa Htl HT0 Hcell
        go_loopw [5, 9] (fun bv0 kv0 wr => ∃ k b' : Nat, k ≤ 4 ∧ kv0 = .int .i64 k ∧ Xr.Own wr 1 bv0 (4 * i + k) (bv (KS subT S (4 * i - 16 + k))) (some b') ∧ w.heap.size ≤ b' ∧ b' ≠ b3 ∧ b3 < wr.heap.size ∧ Hid (∀ j, j < 4 → wr.cell? ⟨b3, j, none⟩ = some (bt (g8 TL j))) ∧ Hid (∀ j, j < 256 → wr.cell? ⟨bs, j, none⟩ = some (bt (g8 subT j))) ∧ Fr [] w wr) (fun _ kv0 _ => 4 - (intOf kv0).toNat)
        case' atStart => exact ⟨0, b, by decide, rfl, q1, hge, hne3, q3, q2, q4, q5⟩
        case' round =>
          obtain ⟨k, b', hk4, rfl, ho5, hge5, hne5, hl5, hq5, hd5, f6⟩ := hrel
          clear q1 q2 q3 q4 q5
          by_cases hlk : k < 4
          · have hd3 : decide ((k : Int) < 4) = true := by simp; omega
            obtain ⟨b4, cap4, hbb, rfl, hnc4, hcm4, hcell4⟩ := ho5.opened (by omega)
            cases hbb
            obtain ⟨A5, hA5⟩ : ∃ A5, KS subT S (4 * i - 16 + k) = A5 := ⟨_, rfl⟩
            have hA5l : A5.length = 4 * i + k := by rw [← hA5, KS_len _ _ HSl.out]; omega
            have hnx : KS subT S (4 * i - 16 + (k + 1)) = A5 ++ [g8 A5 (4 * i - 16 + k) ^^^ g8 TL k] := by
              have := Hkv.out k hlk
              rw [← Nat.add_assoc, KS, this, hA5]
            rw [hA5] at ho5 hcell4
            obtain ⟨P, hP⟩ : ∃ P, g8 A5 (4 * i - 16 + k) = P := ⟨_, rfl⟩
            obtain ⟨Q, hQ⟩ : ∃ Q, g8 TL k = Q := ⟨_, rfl⟩
            have k1 : wr.cell? ⟨b', 4 * i - 16 + k, none⟩ = some (bt P) := by
              rw [(hcell4 (4 * i - 16 + k) (by rw [bv_length]; omega)).1, bv_getElem?, g8_eq A5 _ (by omega), hP]; rfl
            have k2 : wr.cell? ⟨b3, k, none⟩ = some (bt Q) := by rw [hq5.out k hlk, hQ]
            rw [hP, hQ] at hnx
            have Hnx := hid hnx
            have Ho5 := hid ho5
            have m1 : (4 * (i : Int) - 16 + (k : Int)).toNat = 4 * i - 16 + k := by omega
            have m2 : (16 : Int) ≤ 4 * (i : Int) := by omega
            have m3 : 4 * (i : Int) - 16 + (k : Int) < 4 * (i : Int) + (k : Int) := by omega
            unfold maxLen at hcm4
            clear hcell4 hA5 hP hQ hnx ho5
            go_wp2_with fail
            refine wp_region_D (fun _ => True) false [] (by kernel_rfl) ?_
            refine WD.pure [1, 2, 3, 4, 5, 6, 7, 8, 9, 10, 11, 12, 13] (by kernel_rfl) trivial ?_
            simp only [pick, List.toList_toArray, List.map_cons, List.map_nil, List.getD_cons_succ, List.getD_cons_zero]
            repeat (first | go_big_quiet_step (fail))
            refine wpQuiet_nil ?_
            refine WD.free [0] (by kernel_rfl) trivial ?_
            simp only [pick, List.toList_toArray, List.map_cons, List.map_nil, List.getD_cons_succ, List.getD_cons_zero]
            repeat (first | go_big_quiet_step (fail))
            refine wpQuiet_nil ?_
            refine WD.eff 14 (by kernel_rfl) ?_
            simp only [pick, List.toList_toArray, List.map_cons, List.map_nil, List.getD_cons_succ, List.getD_cons_zero]
            refine wpList_buildSlice_ones rfl _ 1 _ rfl 5 Tryz.underlying67 _ _ Hi.out Hz.out rfl Hs.out (by decide) (by decide) rfl (bv [P ^^^ Q]) rfl (bv_one _) ?_
            intro hbP
            try refine wpList_nil ?_
            refine AfterD.on trivial (by kernel_rfl) ?_
            try simp only [World.size_alloc, World.size_drew, Act.put, List.setIfInBounds_toArray, List.set_cons_succ, List.set_cons_zero]
            refine WD.eff 15 (by kernel_rfl) ?_
            simp only [pick, List.toList_toArray, List.map_cons, List.map_nil, List.getD_cons_succ, List.getD_cons_zero]
            have fP := (Fr.refl [] wr).drew.alloc (.cells (bv [P ^^^ Q]).toArray 5)
            have ho6 := Ho5.out.keep fP (by simp)
            have hltb := Ho5.out.lt b' rfl
            refine wpList_append rfl _ _ _ rfl 5 _ _ 1 1 Tryz.underlying67 Hi.out Hz.out Hs.out Hb.out rfl (by decide) rfl ho6 ⟨wr.heap.size, 0, none⟩ 1 1 (bv [P ^^^ Q]) rfl rfl (hbP.cells rfl) (bv_one _) (by unfold maxLen; omega) (by omega) ?_
            intro v7 w7 B7 ho7 f7 hB7
            try refine wpList_nil ?_
            refine AfterD.on trivial (by kernel_rfl) ?_
            try simp only [World.size_alloc, World.size_drew, Act.put, List.setIfInBounds_toArray, List.set_cons_succ, List.set_cons_zero]
            refine WD.pure [16] (by kernel_rfl) trivial ?_
            simp only [pick, List.toList_toArray, List.map_cons, List.map_nil, List.getD_cons_succ, List.getD_cons_zero]
            repeat (first | go_big_quiet_step (fail))
            refine wpQuiet_nil ?_
            refine WD.done (by kernel_rfl) ?_
            rw [← bv_append, ← Hnx.out] at ho7
            obtain ⟨b7, rfl, hb7, hb7n⟩ : ∃ b7, B7 = some b7 ∧ w.heap.size ≤ b7 ∧ b7 ≠ b3 := by
              rcases hB7 with h | ⟨x, h, hx⟩
              · exact ⟨b', h, hge5, hne5⟩
              · simp at hx; exact ⟨x, h, by have := f6.size; omega, by omega⟩
            have f8 : Fr [b'] wr w7 := fP.mono (by simp) |>.trans' f7
            clear k1 k2 hbP ho6 f7 fP hB7 m1 m2 m3
            go_wp2_with fail
            go_roundw
            case rel => exact ⟨k + 1, b7, by omega, by go_num, ho7, hb7, hb7n, Nat.lt_of_lt_of_le hl5 f8.size, hid (cells_keep hq5.out f8 hl5 (by simp; omega)), hid (cells_keep hd5.out f8 (f6.lt hsl) (by simp; omega)), f6.trans f8 (by simp; omega)⟩
            case measure => simp [intOf]; omega
          · have hd3 : decide ((k : Int) < 4) = false := by simp; omega
            have ek : k = 4 := by omega
            have ho8 : Xr.Own wr 1 u5 (4 * (i + 1)) (bv (KS subT S (4 * (i + 1) - 16))) (some b') := by
              rw [ek] at ho5
              rw [show 4 * (i + 1) = 4 * i + 4 by omega, show 4 * i + 4 - 16 = 4 * i - 16 + 4 by omega]
              exact ho5
            clear ek hlk hk4 ho5
            go_wp2_with fail
            go_roundw
            case rel => exact ⟨i + 1, b', by omega, by omega, by go_num, rfl, ho8, hge5, hd5, f6⟩
            case measure => simp [intOf]; omega
    · have ei : i = 44 := by omega
      have hd1 : decide ((i : Int) < 44) = false := by simp; omega
      obtain ⟨b5, cap5, cs5, hB5, hv5, hnc5, hcm5, hblk5, hcl5, htk5⟩ : ∃ b' cap' cs', some b = some b' ∧ Value.slice (some ⟨b, 0, none⟩) (4 * i) cap = Value.slice (some ⟨b', 0, none⟩) (4 * i) cap' ∧ 4 * i ≤ cap' ∧ cap' ≤ maxLen ∧ Blk wr b' cs' ∧ cs'.length = cap' * 1 ∧ cs'.take (4 * i * 1) = bv A := by
        rcases Ho.out.2 with ⟨h, _⟩ | h
        · cases h
        · exact h
      cases hB5
      cases hv5
      have hA160 : A = KS subT S 160 := by rw [← HA.out, ei]
      have Hcut : Hid (∀ r, r < 11 → (cs5.drop (16 * r)).take 16 = bv (rk (ciT S) r)) := hid fun r hr => by
        rw [rk_ciT S HSl.out r hr, ← hA160, ← bv_take, ← bv_drop, ← htk5, ei, List.drop_take, List.take_take, Nat.min_eq_left (by omega)]
      have Hei := hid ei
      have hc176 : 176 ≤ cap := by omega
      have Hcs := hid (show cs5.length = cap by omega)
      have Hrl := hid fun r (hr : r ≤ 11) => rk_len (ciT S) (ciT_len S HSl.out) r hr
      clear ei hlt htk5 hcl5 hA160 Ho hnc5 hnc
      obtain ⟨i9, hi9, hz9, hs9, hb9⟩ := infStr
      have Hi9 := hid hi9
      have Hz9 := hid hz9
      have Hs9 := hid hs9
      have Hb9 := hid hb9
      clear hi9 hz9 hs9 hb9
      go_wp2_with fail
      go_loopw [10, 11] (fun ov rv wr' => ∃ (r : Nat) (B : Option Nat), r ≤ 11 ∧ rv = .int .i64 r ∧ Xr.Own wr' 1 ov r ((List.range r).map fun j => .string (keyS (ciT S) j)) B ∧ Fresh wr B ∧ Fr [] wr wr') (fun _ rv _ => 11 - (intOf rv).toNat)
      case atStart => exact ⟨0, none, by decide, rfl, Xr.Own.nil _ _, Fresh.none _, Fr.refl _ _⟩
      case round =>
        obtain ⟨r, B, hr, rfl, hoo, hF, fo⟩ := hrel
        obtain ⟨oa, oc, rfl⟩ := hoo.isSlice
        by_cases hlr : r < 11
        · have hd3 : decide ((r : Int) < 11) = true := by simp; omega
          have hblk6 := fo.blk hblk5 (by simp)
          have Hl16 := hid (Hrl.out r hr)
          have Hcr := hid (Hcut.out r hlr)
          have hm1 : 16 * r + 16 ≤ cap := by omega
          go_wp2_with (first
            | (refine wpList_slice_lh rfl _ _ _ _ rfl rfl .i64 .i64 _ _ (16 * r) (16 * r + 16) rfl rfl (by omega) (by omega) (by omega) (by omega) (by omega) 5 Tryz.underlying67 rfl ?_; simp only [World.size_alloc, World.size_drew, Act.put, List.setIfInBounds_toArray, List.set_cons_succ, List.set_cons_zero])
            | (refine wpList_string_of_bytes rfl 67 9 5 _ rfl (16 * r + 16 - 16 * r) _ rfl hblk6 (rk (ciT S) r) (by rw [Hl16.out]; omega) (by rw [Nat.zero_add, Hl16.out]; exact Hcr.out) Tryz.underlying67 Tryz.underlying5 Tryz.underlying9 ?_; simp only [World.size_alloc, World.size_drew, Act.put, List.setIfInBounds_toArray, List.set_cons_succ, List.set_cons_zero])
            | (refine wpList_append1 rfl rfl 23 _ _ _ rfl rfl 9 _ _ 16 Tryz.underlying23 Hi9.out Hz9.out Hs9.out Hb9.out rfl (.string (keyS (ciT S) r)) rfl rfl rfl rfl hoo (by unfold maxLen; omega) (by omega) ?_; intro v3 w3 B3 ho3 f3 hB3; simp only [World.size_alloc, World.size_drew, Act.put, List.setIfInBounds_toArray, List.set_cons_succ, List.set_cons_zero]))
          have ho4 : Xr.Own w3 1 v3 (r + 1) ((List.range (r + 1)).map fun j => .string (keyS (ciT S) j)) B3 := by
            rw [List.range_succ, List.map_append]
            exact ho3
          clear ho3
          go_roundw
          case rel => exact ⟨r + 1, B3, by omega, by go_num, ho4, hF.step fo hB3, hF.fr fo f3⟩
          case measure => simp [intOf]; omega
        · have hd3 : decide ((r : Int) < 11) = false := by simp; omega
          have er : r = 11 := by omega
          have hs11 : Ss wr (.slice oa r oc) (keysOf (ciT S)) := by
            rw [er] at hoo ⊢
            obtain ⟨bq, cq, hBq, hvq, hnq, hmq, hcq⟩ := hoo.opened (by decide)
            have hl : (keysOf (ciT S)).length = 11 := keysOf_len _
            refine ⟨bq, cq, by rw [hl]; exact hvq, by rw [hl]; exact hnq, hmq, hoo.lt bq hBq, fun j hj => ?_⟩
            rw [hl] at hj
            rw [(hcq j (by simp; omega)).1, keysOf_get _ j hj]
            simp [hj]
          clear er hlr
          go_wp2_with fail
          go_ret
          exact ⟨_, rfl, hs11, f.trans' fo⟩
end Go.Proofs.YtneoagelcjfanaaGreatDoor.aes
