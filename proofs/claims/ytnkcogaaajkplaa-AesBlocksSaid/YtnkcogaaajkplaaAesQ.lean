/- Layer 3, aes: Rounds. -/
import Derived.Test.YtnkcogaaajkplaaAesP
namespace Go.Xr
open Go Go.RowKit
set_option linter.unusedVariables false
set_option linter.unusedSimpArgs false
theorem index_row {P : Program} (w : World) (t e : TypeId) (n m : Nat) (vs : List Value) (k : IntKind) (i : Nat) (h : P.underlying t = some (.array n e)) (hT : AggT P e m) (hi : i < n) :
    (Instr.index t (.agg vs.toArray) (.int k i)).run P w = .ok (.agg ((vs.drop (i * m)).take m).toArray) w := by
  obtain ⟨d, hu, hd, hs⟩ := hT
  cases hq : P.info? e with
  | none => simp [hq] at hs
  | some inf =>
    have hs1 : inf.size = m := by simpa [hq] using hs
    have hagg : (isAgg e).run P w = .ok true w := by
      unfold isAgg
      rw [Sem.run_bind, run_underlying hu w]
      cases d <;> simp_all [aggDesc]
    have h0 : (0 : Int) ≤ (i : Int) := by omega
    have h1 : (i : Int) < (n : Int) := by omega
    simp [Instr.index, asIntOf, run_underlying h, h0, h1, part, hagg, sizeOf, typeInfo, hq, hs1]
    intro h
    omega
/-- 's[:n:n]' of the whole of a slice that starts at a block's head. -/
theorem runSliceHM {P : Program} (w : World) (t e : TypeId) (b n c : Nat) (k1 k2 : IntKind) (ht : P.underlying t = some (.slice e)) (hs : (P.info? e).isSome = true) (hn : 0 < n) (hc : n ≤ c) :
    (Instr.sliceAt t (.slice (some ⟨b, 0, none⟩) n c) none (some (.int k1 n)) (some (.int k2 n))).run P w = .ok (.slice (some ⟨b, 0, none⟩) n n) w := by
  have he : P.elem t = e := by simp [Program.elem, ht]
  cases hq : P.info? e with
  | none => simp [hq] at hs
  | some inf =>
    have h1 : ¬ (n = 0) := by omega
    have h2 : (n : Int) ≤ (c : Int) := by omega
    have h3 : (0 : Int) ≤ (n : Int) := by omega
    simp [Instr.sliceAt, Instr.slice, run_underlying ht, Instr.sliceBounds, run_sliceBound, h2, h3, h1, sizeOf, typeInfo, hq, Addr.add]
end Go.Xr
namespace Go.Proofs.Ytnkcogaaajkplaa
open Go Go.Xr Go.RowKit
set_option linter.unusedVariables false
set_option linter.unusedSimpArgs false
theorem rndAT : AggT Try.prog 46 176 := ⟨_, Try.underlying46, rfl, rfl⟩
theorem ciph_rnd (T : List UInt8) (hT : T.length = 688) : ((ciph T).drop 0).take 176 = bv (T.take 176) := by
  unfold ciph
  rw [List.drop_zero, List.take_append_of_le_length (by rw [bv_length, hT]; decide), bv_take]

set_option maxRecDepth 20000 in
set_option maxHeartbeats 1000000 in
theorem rounds_any {w : World} {p : Nat} {T : List UInt8} (hT : T.length = 688) (hp : Blk w p (ciph T)) :
    Calls Try.prog 16 #[.pointer (some ⟨p, 0, none⟩)] w fun e w' => ∃ v, e = .returned v ∧ Ss w' v (keysOf T) ∧ Fr [] w w' := by
  obtain ⟨i9, hi9, hz9, hs9, hb9⟩ := infStr
  have Hi9 := hid hi9
  have Hz9 := hid hz9
  have Hs9 := hid hs9
  have Hb9 := hid hb9
  have Hsome := hid (show (Try.prog.info? 9).isSome = true by rw [hi9]; rfl)
  obtain ⟨i2, hi2, hz2, _⟩ := infS
  have Hi2 := hid hi2
  have Hz2 := hid hz2
  have HT := hid hT
  have Hl := hid (show (bv (T.take 176)).length = 176 by rw [bv_length, List.length_take, hT]; rfl)
  have Hrl := hid fun r (hr : r ≤ 11) => rk_len T hT r hr
  clear hi9 hz9 hs9 hb9 hi2 hz2 hT
  go_enter Try.func16, Try.ntmps16
  go_wp2_with (first
    | (go_at_call 26; refine (not_any HT.out hp).mono ?_; rintro e w' ⟨rfl, rfl⟩)
    | (refine wpList_load_ag rfl _ _ rfl rfl (bv (T.take 176)) hp rndAT Hl.out (ciph_rnd T HT.out) ?_; simp only [World.size_alloc, World.size_drew, Act.put, List.setIfInBounds_toArray, List.set_cons_succ, List.set_cons_zero]))
  go_loopw [3, 12] (fun ov rv wr' => ∃ (r : Nat) (B : Option Nat), r ≤ 11 ∧ rv = .int .i64 r ∧ Own wr' 1 ov r ((List.range r).map fun j => .string (keyS T j)) B ∧ Fresh w B ∧ Fr [] w wr') (fun _ rv _ => 11 - (intOf rv).toNat)
  case atStart => exact ⟨0, none, by decide, rfl, Own.nil _ _, Fresh.none _, Fr.refl _ _⟩
  case round =>
    obtain ⟨r, B, hr, rfl, hoo, hF, fo⟩ := hrel
    by_cases hlr : r < 11
    · obtain ⟨oa, oc, rfl⟩ := hoo.isSlice
      have hd3 : decide ((r : Int) < 11) = true := by simp; omega
      have hix : ∀ w0 : World, (Instr.index 46 (.agg (bv (T.take 176)).toArray) (.int .i64 (r : Int))).run Try.prog w0 = .ok (.agg (bv (rk T r)).toArray) w0 := fun w0 => by
        have := index_row (P := Try.prog) w0 46 45 11 16 (bv (T.take 176)) .i64 r Try.underlying46 sqT hlr
        rw [this]
        have e : ((bv (T.take 176)).drop (r * 16)).take 16 = bv (rk T r) := by
          unfold rk
          rw [bv_drop, bv_take, List.drop_take, List.take_take, Nat.min_eq_left (by omega), Nat.mul_comm]
        rw [e]
      have Hk16 := hid (Hrl.out r hr)
      have ho9 : ∀ w9, Fr [] wr w9 → Own w9 1 (.slice oa r oc) r ((List.range r).map fun j => .string (keyS T j)) B := fun w9 f9 => hoo.keep f9 (by simp)
      have Ho9 := hid ho9
      clear ho9
      go_wp2_with (first
        | (refine wpList_alloc_any rfl _ rfl _ _ 16 Hi2.out Hz2.out rfl ?_; intro zs w6 hzl hze f10 hlt10 hb10; rw [hze] at hb10; clear hzl hze; simp only [World.size_alloc, World.size_drew, Act.put, List.setIfInBounds_toArray, List.set_cons_succ, List.set_cons_zero])
        | (refine wpList_store_ag rfl _ _ _ rfl rfl (bv (rk T r)) rfl (show Blk w6 wr.heap.size (bv (List.replicate 16 0)) from hb10) sqT (bvl Hk16.out) (by decide) (bv_one _) ?_; intro w7 f11 b11 hs11; rw [splice_all _ _ (by rw [bvl Hk16.out]; rfl)] at b11; (try simp only [World.size_alloc, World.size_drew, Act.put, List.setIfInBounds_toArray, List.set_cons_succ, List.set_cons_zero]))
        | (refine wpList_string_of_bytes rfl 32 9 5 _ rfl 16 _ rfl b11 (rk T r) Hk16.out (by rw [List.drop_zero, Hk16.out, ← bvl Hk16.out, List.take_length]) Try.underlying32 Try.underlying5 Try.underlying9 ?_; simp only [World.size_alloc, World.size_drew, Act.put, List.setIfInBounds_toArray, List.set_cons_succ, List.set_cons_zero])
        | (refine wpList_append1 rfl rfl 34 _ _ _ rfl rfl 9 _ _ 16 Try.underlying34 Hi9.out Hz9.out Hs9.out Hb9.out rfl (.string (keyS T r)) rfl rfl rfl rfl (Ho9.out _ (f10.trans f11 (by simp))) (by unfold maxLen; omega) (by omega) ?_; intro v3 w3 B3 ho3 f3 hB3; simp only [World.size_alloc, World.size_drew, Act.put, List.setIfInBounds_toArray, List.set_cons_succ, List.set_cons_zero]))
      have f12 : Fr [] wr w7 := f10.trans f11 (by simp)
      have ho4 : Own w3 1 v3 (r + 1) ((List.range (r + 1)).map fun j => .string (keyS T j)) B3 := by
        rw [List.range_succ, List.map_append]
        exact ho3
      clear ho3 hix
      go_roundw
      case rel => exact ⟨r + 1, B3, by omega, by go_num, ho4, hF.step (fo.trans' f12) hB3, hF.fr (fo.trans' f12) f3⟩
      case measure => simp [intOf]; omega
    · have er : r = 11 := by omega
      have hd3 : decide ((r : Int) < 11) = false := by simp; omega
      obtain ⟨bq, cq, hBq, rfl, hnq, hmq, hcq⟩ := hoo.opened (by omega)
      have hqlt := hoo.lt bq hBq
      have hsl : ∀ w0 : World, (Instr.sliceAt 34 (.slice (some ⟨bq, 0, none⟩) r cq) none (some (.int .i64 (r : Int))) (some (.int .i64 (r : Int)))).run Try.prog w0 = .ok (.slice (some ⟨bq, 0, none⟩) r r) w0 := fun w0 => runSliceHM w0 34 9 bq r cq .i64 .i64 Try.underlying34 Hsome.out (by omega) hnq
      have hs11 : Ss wr (.slice (some ⟨bq, 0, none⟩) r r) (keysOf T) := by
        have hl : (keysOf T).length = 11 := keysOf_len _
        refine ⟨bq, r, by rw [hl, er], by rw [hl, er]; exact Nat.le_refl _, by rw [er]; decide, hqlt, fun j hj => ?_⟩
        rw [hl] at hj
        rw [(hcq j (by simp; omega)).1, keysOf_get _ j hj]
        simp [er, hj]
      clear er hlr hcq hoo
      go_wp2_with fail
      go_ret
      exact ⟨_, rfl, hs11, fo⟩
end Go.Proofs.Ytnkcogaaajkplaa
