/- Layer 21, record: numbers read off bytes, the lowest first; readers. -/
import Derived.Test.YtneoagelcjfanaaGreatDoorRecB
import Derived.OwnWalk
namespace Go.Xr
open Go
set_option linter.unusedVariables false
/-- The number that bytes are, the lowest first. -/
def leV : List UInt8 → Nat
  | [] => 0
  | b :: r => b.toNat + 256 * leV r
theorem leV_lt : ∀ l : List UInt8, leV l < 256 ^ l.length
  | [] => by simp [leV]
  | b :: r => by
    have h := leV_lt r
    have hb := b.toNat_lt
    rw [leV, List.length_cons, Nat.pow_succ]
    omega
theorem leV_snoc : ∀ (l : List UInt8) (b : UInt8), leV (l ++ [b]) = leV l + b.toNat * 256 ^ l.length
  | [], b => by simp [leV]
  | a :: r, b => by
    rw [List.cons_append, leV, leV, leV_snoc r b, List.length_cons, Nat.pow_succ, Nat.mul_add]
    rw [show 256 * (b.toNat * 256 ^ r.length) = b.toNat * (256 ^ r.length * 256) by ac_rfl]
    omega
theorem shl64_nat (a : UInt64) (n : Nat) : (shl64 a n).toNat = a.toNat * 2 ^ n % 2 ^ 64 := by
  show (a.toBitVec <<< n).toNat = _
  rw [BitVec.toNat_shiftLeft, Nat.shiftLeft_eq]
  rfl
theorem or_nat (a b : UInt64) : (a ||| b).toNat = a.toNat ||| b.toNat := UInt64.toNat_or a b
/-- From the front: one more byte laid upon the number. -/
theorem get_step (l : List UInt8) (i : Nat) (h : i < l.length) (h8 : i < 4) :
    UInt64.ofNat (leV (l.take i)) ||| shl64 (l[i]).toUInt64 (8 * i) = UInt64.ofNat (leV (l.take (i + 1))) := by
  have e : l.take (i + 1) = l.take i ++ [l[i]] := List.take_succ_eq_append_getElem h
  have hl : (l.take i).length = i := by rw [List.length_take]; omega
  have h1 := leV_lt (l.take i)
  have h2 := leV_lt (l.take (i + 1))
  rw [hl] at h1
  rw [show (l.take (i + 1)).length = i + 1 by rw [List.length_take]; omega] at h2
  have hp : ∀ j, (256 : Nat) ^ j = 2 ^ (8 * j) := fun j => by rw [show (256 : Nat) = 2 ^ 8 from rfl, ← Nat.pow_mul]
  rw [hp] at h1 h2
  have hb := (l[i]).toNat_lt
  have h32 : 2 ^ (8 * (i + 1)) ≤ (2 : Nat) ^ 32 := Nat.pow_le_pow_right (by decide) (by omega)
  have h32' : 2 ^ (8 * i) ≤ (2 : Nat) ^ 24 := Nat.pow_le_pow_right (by decide) (by omega)
  have hbm : (l[i]).toNat * 2 ^ (8 * i) < 2 ^ 32 := by
    have : (l[i]).toNat * 2 ^ (8 * i) ≤ 255 * 2 ^ 24 := Nat.mul_le_mul (by omega) h32'
    omega
  apply UInt64.toNat_inj.1
  rw [or_nat, shl64_nat, UInt64.toNat_ofNat', UInt64.toNat_ofNat', UInt8.toNat_toUInt64, Nat.mod_eq_of_lt (by omega), Nat.mod_eq_of_lt (by omega), Nat.mod_eq_of_lt (by omega), e, leV_snoc, hl, hp]
  rw [Nat.or_comm, Nat.mul_comm, ← Nat.two_pow_add_eq_or_of_lt h1]
  omega
/-- From behind. -/
theorem num_step (b : UInt8) (r : List UInt8) (h : r.length < 4) : shl64 (UInt64.ofNat (leV r)) 8 ||| b.toUInt64 = UInt64.ofNat (leV (b :: r)) := by
  have h1 := leV_lt r
  have hb := b.toNat_lt
  have h24 : (256 : Nat) ^ r.length ≤ 256 ^ 3 := Nat.pow_le_pow_right (by decide) (by omega)
  apply UInt64.toNat_inj.1
  rw [or_nat, shl64_nat, UInt64.toNat_ofNat', UInt64.toNat_ofNat', UInt8.toNat_toUInt64, Nat.mod_eq_of_lt (by omega), Nat.mod_eq_of_lt (by omega), leV, Nat.mod_eq_of_lt (by omega)]
  rw [Nat.mul_comm, ← Nat.two_pow_add_eq_or_of_lt (show b.toNat < 2 ^ 8 by omega)]
  omega
theorem leV_le4 (l : List UInt8) (h : l.length ≤ 4) : leV l < 4294967296 := by
  have h1 := leV_lt l
  have h24 : (256 : Nat) ^ l.length ≤ 256 ^ 4 := Nat.pow_le_pow_right (by decide) h
  omega
theorem leV_leN (m : Nat) (h : m < 4294967296) : leV (leN m 4) = m := by
  have e : leN m 4 = [UInt8.ofNat (m / 2 ^ 0), UInt8.ofNat (m / 2 ^ 8), UInt8.ofNat (m / 2 ^ 16), UInt8.ofNat (m / 2 ^ 24)] := rfl
  rw [e]
  simp only [leV, UInt8.toNat_ofNat']
  omega
/-- A reader in memory. -/
def rdrL (s : ByteArray) (at' : Nat) (fault : Int) : List Value := [.string s, .int .i64 (at' : Int), .int .i64 fault, .bool true]
/-- The document's. -/
def rdrR (s : ByteArray) (at' : Nat) (fault : Int) : List Value := [.string s, .int .i64 (at' : Int), .int .i64 fault]
end Go.Xr
namespace Go.Proofs.YtneoagelcjfanaaGreatDoor.rcd
open Go Go.Xr Go.RowKit
set_option linter.unusedVariables false
set_option linter.unusedSimpArgs false

set_option maxRecDepth 20000 in
theorem rnew_any {w : World} (s : ByteArray) : Calls Tryz.prog 54 #[.string s] w fun e w' => e = .returned (.pointer (some ⟨w.heap.size, 0, none⟩)) ∧ Blk w' w.heap.size (rdrL s 0 0) ∧ w.heap.size < w'.heap.size ∧ Fr [] w w' := by
  go_enter Tryz.func54, Tryz.ntmps54
  go_wp2_with fail
  go_ret
  exact ⟨rfl, Blk.alloc w (rdrL s 0 0) _, by simp, (Fr.refl [] w).alloc _⟩
set_option maxRecDepth 20000 in
theorem rest_any {w : World} {p at' : Nat} {f : Int} (s : ByteArray) (h : Blk w p (rdrL s at' f)) (ha : at' ≤ s.size) (hs : s.size ≤ 9223372036854775807) : Calls Tryz.prog 97 #[.pointer (some ⟨p, 0, none⟩)] w fun e w' => e = .returned (.string (s.extract at' s.size)) ∧ Fr [] w w' := by
  have k0 : w.cell? ⟨p, 0, none⟩ = some (.string s) := h.cell 0
  have k1 : w.cell? ⟨p, 1, none⟩ = some (.int .i64 (at' : Int)) := h.cell 1
  have h0 : w.drew.cell? ⟨p, 0, none⟩ = some (.string s) := k0
  have h1 : w.drew.cell? ⟨p, 1, none⟩ = some (.int .i64 (at' : Int)) := k1
  go_enter Tryz.func97, Tryz.ntmps97
  go_wp2_with fail
  refine wp_region_D (fun _ => True) false [] (by kernel_rfl) ?_
  refine WD.pure [0, 1, 2, 3, 4, 5, 6, 7, 8, 9] (by kernel_rfl) trivial ?_
  simp only [pick, List.toList_toArray, List.map_cons, List.map_nil, List.getD_cons_succ, List.getD_cons_zero]
  repeat (first | go_big_quiet_step (fail) | (refine quiet_slice_vW (by rfl) _ _ _ _ rfl _ rfl _ _ rfl rfl (.string (s.extract at' s.size)) (fun w0 _ => run_slice_sl w0 _ Tryz.underlying9 s .i64 _ at' rfl ha) ?_; simp only [World.size_alloc, World.size_drew, Act.put, List.setIfInBounds_toArray, List.set_cons_succ, List.set_cons_zero]))
  refine wpQuiet_nil ?_
  refine WD.done (by kernel_rfl) ?_
  go_wp2_with fail
  go_ret
  exact ⟨rfl, (Fr.refl [] w).drew⟩

set_option maxRecDepth 20000 in
theorem bytes_fault {w : World} {p at' : Nat} {f : Int} (s : ByteArray) (n : Int) (h : Blk w p (rdrL s at' f)) (hf : f ≠ 0) : Calls Tryz.prog 95 #[.pointer (some ⟨p, 0, none⟩), .int .i64 n] w fun e w' => e = .returned (.string ⟨#[]⟩) ∧ w = w' := by
  have k2 : w.cell? ⟨p, 2, none⟩ = some (.int .i64 f) := h.cell 2
  have k3 : w.cell? ⟨p, 3, none⟩ = some (.bool true) := h.cell 3
  have hd : (f != 0) = true := by simpa using hf
  clear hf
  go_enter Tryz.func95, Tryz.ntmps95
  go_wp2_with fail
  go_ret
  exact ⟨rfl, rfl⟩
set_option maxRecDepth 20000 in
set_option maxHeartbeats 1000000 in
theorem bytes_any {w : World} {p at' : Nat} (s : ByteArray) (n : Nat) (h : Blk w p (rdrL s at' 0)) (hn : at' + n ≤ s.size) (hs : s.size ≤ 140737488355328) : Calls Tryz.prog 95 #[.pointer (some ⟨p, 0, none⟩), .int .i64 (n : Int)] w fun e w' => e = .returned (.string (s.extract at' (at' + n))) ∧ Blk w' p (rdrL s (at' + n) 0) ∧ Fr [p] w w' := by
  have k0 : w.cell? ⟨p, 0, none⟩ = some (.string s) := h.cell 0
  have k1 : w.cell? ⟨p, 1, none⟩ = some (.int .i64 (at' : Int)) := h.cell 1
  have k2 : w.cell? ⟨p, 2, none⟩ = some (.int .i64 0) := h.cell 2
  have k3 : w.cell? ⟨p, 3, none⟩ = some (.bool true) := h.cell 3
  have h0 : w.drew.cell? ⟨p, 0, none⟩ = some (.string s) := k0
  have h1 : w.drew.cell? ⟨p, 1, none⟩ = some (.int .i64 (at' : Int)) := k1
  have hd1 : decide ((n : Int) < 0) = false := by simp
  have hd2 : decide ((s.size : Int) - (at' : Int) < (n : Int)) = false := by simp; omega
  have h3 : (at' : Int) + (n : Int) ≤ 140737488355328 := by omega
  have hb := h.drew
  have hlen : 1 < (rdrL s at' 0).length := by simp [rdrL]
  go_enter Tryz.func95, Tryz.ntmps95
  go_wp2_with fail
  refine wp_region_D (fun _ => True) false [] (by kernel_rfl) ?_
  refine WD.pure [0, 1, 2, 3, 4, 5, 6, 7, 8, 9, 10, 11, 12] (by kernel_rfl) trivial ?_
  simp only [pick, List.toList_toArray, List.map_cons, List.map_nil, List.getD_cons_succ, List.getD_cons_zero]
  repeat (first | go_big_quiet_step (fail))
  refine wpQuiet_nil ?_
  refine WD.done (by kernel_rfl) ?_
  clear h0 h1 k0 k1 k2 k3
  have k1 : w.drew.cell? ⟨p, 1, none⟩ = some (.int .i64 (at' : Int)) := hb.cell 1
  go_wp2_with (refine wpList_put rfl _ _ _ rfl rfl (.int .i64 ((at' + n : Nat) : Int)) (by rw [Int.natCast_add]; rfl) rfl hb hlen (by kernel_rfl) ?_; intro w2 f2 b2 hs2; simp only [World.size_alloc, World.size_drew, Act.put, List.setIfInBounds_toArray, List.set_cons_succ, List.set_cons_zero])
  have j0 : w2.drew.cell? ⟨p, 0, none⟩ = some (.string s) := b2.cell 0
  have j1 : w2.drew.cell? ⟨p, 1, none⟩ = some (.int .i64 ((at' + n : Nat) : Int)) := b2.cell 1
  have hsub : ((at' + n : Nat) : Int) - (n : Int) = (at' : Int) := by omega
  refine wp_region_D (fun _ => True) false [] (by kernel_rfl) ?_
  refine WD.pure [0, 1, 2, 3, 4, 5, 6, 7, 8, 9, 10, 11, 12, 13, 14, 15] (by kernel_rfl) trivial ?_
  simp only [pick, List.toList_toArray, List.map_cons, List.map_nil, List.getD_cons_succ, List.getD_cons_zero]
  repeat (first | (refine quiet_slice_vW (by rfl) _ _ _ _ rfl _ rfl _ _ rfl rfl (.string (s.extract at' (at' + n))) (fun w0 _ => run_slice_s w0 _ Tryz.underlying9 s .i64 .i64 _ _ at' (at' + n) (by omega) rfl (by omega) hn) ?_; simp only [World.size_alloc, World.size_drew, Act.put, List.setIfInBounds_toArray, List.set_cons_succ, List.set_cons_zero]) | go_big_quiet_step (fail))
  refine wpQuiet_nil ?_
  refine WD.done (by kernel_rfl) ?_
  go_wp2_with fail
  go_ret
  exact ⟨rfl, b2.drew, (((Fr.refl [p] w).drew).trans' f2).drew⟩
set_option maxRecDepth 20000 in
theorem bytes_short {w : World} {p at' : Nat} (s : ByteArray) (n : Nat) (h : Blk w p (rdrL s at' 0)) (hn : s.size < at' + n) (ha : at' ≤ s.size) (hs : s.size ≤ 140737488355328) (hm : n ≤ 9223372036854775807) : Calls Tryz.prog 95 #[.pointer (some ⟨p, 0, none⟩), .int .i64 (n : Int)] w fun e w' => e = .returned (.string ⟨#[]⟩) ∧ Blk w' p (rdrL s at' 50) ∧ Fr [p] w w' := by
  have k0 : w.cell? ⟨p, 0, none⟩ = some (.string s) := h.cell 0
  have k1 : w.cell? ⟨p, 1, none⟩ = some (.int .i64 (at' : Int)) := h.cell 1
  have k2 : w.cell? ⟨p, 2, none⟩ = some (.int .i64 0) := h.cell 2
  have k3 : w.cell? ⟨p, 3, none⟩ = some (.bool true) := h.cell 3
  have h0 : w.drew.cell? ⟨p, 0, none⟩ = some (.string s) := k0
  have h1 : w.drew.cell? ⟨p, 1, none⟩ = some (.int .i64 (at' : Int)) := k1
  have hd1 : decide ((n : Int) < 0) = false := by simp
  have hd2 : decide ((s.size : Int) - (at' : Int) < (n : Int)) = true := by simp; omega
  have hb := h.drew
  have hlen : 2 < (rdrL s at' 0).length := by simp [rdrL]
  go_enter Tryz.func95, Tryz.ntmps95
  go_wp2_with fail
  refine wp_region_D (fun _ => True) false [] (by kernel_rfl) ?_
  refine WD.pure [0, 1, 2, 3, 4, 5, 6, 7, 8, 9, 10, 11, 12] (by kernel_rfl) trivial ?_
  simp only [pick, List.toList_toArray, List.map_cons, List.map_nil, List.getD_cons_succ, List.getD_cons_zero]
  repeat (first | go_big_quiet_step (fail))
  refine wpQuiet_nil ?_
  refine WD.done (by kernel_rfl) ?_
  clear h0 h1 k0 k1 k2 k3
  go_wp2_with (refine wpList_put rfl _ _ _ rfl rfl (.int .i64 50) rfl rfl hb hlen (by kernel_rfl) ?_; intro w2 f2 b2 hs2; simp only [World.size_alloc, World.size_drew, Act.put, List.setIfInBounds_toArray, List.set_cons_succ, List.set_cons_zero])
  go_ret
  exact ⟨rfl, b2, ((Fr.refl [p] w).drew).trans' f2⟩
end Go.Proofs.YtneoagelcjfanaaGreatDoor.rcd
