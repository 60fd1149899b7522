/- Layer 8: Fill; a volume that is not made. -/
import Derived.Test.YtgafefecookgaaaVolN
namespace Go.Proofs.Ytgafefecookgaaa
open Go Go.Xr Go.RowKit
set_option linter.unusedVariables false
set_option linter.unusedSimpArgs false
set_option maxRecDepth 20000 in
theorem fill8_any (w : World) (c : UInt8) : Calls Try.prog 25 #[.int .u8 c.toNat] w fun e w' => e = .returned (.string (fill7 c)) ∧ Fr [] w w' := by
  obtain ⟨i5, hi5, hz5, hs5, hb5⟩ := inf5
  have Hi := hid hi5
  have Hz := hid hz5
  have Hs := hid hs5
  have Hb := hid hb5
  clear hi5 hz5 hs5 hb5
  go_enter Try.func25, Try.ntmps25
  go_wp2_with (refine wpList_make rfl _ _ _ rfl 512 512 .i64 .i64 rfl rfl 5 _ _ (bt 0) 1 1 Try.underlying49 Hi.out Hz.out Hs.out Hb.out rfl (by decide) (Nat.le_refl _) (by decide) (by decide) ?_; intro hb1; simp only [World.size_alloc, World.size_drew, Act.put, List.setIfInBounds_toArray, List.set_cons_succ, List.set_cons_zero])
  go_loopw [4] (fun i wr => ∃ m : Nat, m ≤ 512 ∧ i = .int .i64 m ∧ Blk wr w.heap.size (List.replicate m (bt c) ++ List.replicate (512 - m) (bt 0)) ∧ Fr [] w wr) (fun i _ => 512 - (intOf i).toNat)
  case atStart => exact ⟨0, by omega, rfl, by simpa using hb1, (Fr.refl [] w).alloc _⟩
  case round =>
    obtain ⟨m, hm, rfl, hb, f⟩ := hrel
    clear hb1
    by_cases hlt : m < 512
    · have hcm : wr.cell? ⟨w.heap.size, m, none⟩ = some (bt 0) := by
        rw [hb.cell, List.getElem?_append_right (by simp), List.getElem?_replicate_of_lt (by simp; omega)]
      have hf := hb.free m (by simp; omega)
      go_wp2
      go_roundw
      case rel =>
        refine ⟨m + 1, by omega, by go_num, ?_, f.setCell (.inr (Nat.le_refl _)) _⟩
        have h3 := hb.set m (bt c)
        rw [List.set_append_right _ _ (by simp)] at h3
        have e : (List.replicate (512 - m) (bt 0)).set (m - (List.replicate m (bt c)).length) (bt c) = bt c :: List.replicate (512 - (m + 1)) (bt 0) := by
          obtain ⟨k, hk⟩ : ∃ k, 512 - m = k + 1 := ⟨511 - m, by omega⟩
          have hk2 : 512 - (m + 1) = k := by omega
          rw [List.length_replicate, Nat.sub_self, hk, hk2, List.replicate_succ]
          rfl
        rw [e] at h3
        have e2 : List.replicate (m + 1) (bt c) ++ List.replicate (512 - (m + 1)) (bt 0) = List.replicate m (bt c) ++ (bt c :: List.replicate (512 - (m + 1)) (bt 0)) := by
          rw [List.replicate_succ']
          simp
        rw [e2]
        exact h3
      case measure => simp [intOf]; omega
    · obtain rfl : m = 512 := by omega
      have hb2 : Blk wr w.heap.size (bv (List.replicate 512 c)) := by
        have e : List.replicate (512 - 512) (bt 0) = [] := rfl
        rw [e, List.append_nil] at hb
        rw [bv_replicate]
        exact hb
      clear hb
      have HL := hid (show (List.replicate 512 c).length = 512 from List.length_replicate)
      have HV := hid (show ((bv (List.replicate 512 c)).drop 0).take (List.replicate 512 c).length = bv (List.replicate 512 c) by rw [List.drop_zero, ← bv_length, List.take_length])
      have HE := hid (show fill7 c = ⟨(List.replicate 512 c).toArray⟩ from rfl)
      generalize List.replicate 512 c = fl7 at *
      go_wp2_with (refine wpList_string_of_bytes rfl _ _ 5 _ rfl 512 512 rfl hb2 fl7 HL.out HV.out Try.underlying49 Try.underlying5 Try.underlying9 ?_; simp only [World.size_alloc, World.size_drew, Act.put, List.setIfInBounds_toArray, List.set_cons_succ, List.set_cons_zero])
      go_ret
      rw [HE.out]
      exact ⟨rfl, f⟩
section
variable {w w' w0 : World}
set_option maxRecDepth 20000 in
set_option maxHeartbeats 1000000 in
theorem of_dup {v : Value} {n : Nat} {xs : List (Option Nat)} {B K : Nat} (hrc : Rc w 1 v n (xs.map pv) (some B)) (hl : xs.length = n) (hpl : ∀ x ∈ xs, ∀ b, x = some b → Pln w b) (h2 : 2 ≤ n) (h16 : n ≤ 16) (hm : n % 2 = 0) (hd : dupAt xs n) :
    Calls Try.prog 27 #[v, .func (.func K) #[] #[]] w fun e w' => e = .returned (.tuple #[.pointer none, .int .i64 3]) ∧ Fr [] w w' := by
  have TW := hid fun (w1 : World) (f : Fr [] w w1) => twD_any (w := w1) (v := v) (xs := xs) (LB := some B) (by rw [hl]; exact hrc.keep f (by simp)) (fun x hx b hb => f.plain b (hpl x hx b hb)) (by omega)
  rw [hl] at TW
  obtain ⟨ad, c, rfl⟩ := hrc.isSlice
  have HD := hid hd
  have a1 : decide ((n : Int) < 2) = false := by simp; omega
  have a2 : decide ((16 : Int) < (n : Int)) = false := by simp; omega
  have a3 : (n : Int).tmod 2 = 0 := by rw [Int.tmod_eq_emod_of_nonneg (by omega)]; omega
  have a4 : decide (n < 2) = false := by simp; omega
  have a5 : decide (16 < n) = false := by simp; omega
  clear hrc hl hpl hd hm h2
  go_enter Try.func27, Try.ntmps27
  go_wp2_with fail
  obtain ⟨w1, hw1⟩ : ∃ w1, ((w.alloc (.cells #[Value.func (.func K) #[] #[]] 60)).alloc (.cells #[Value.pointer none] 26)).alloc (.cells #[Value.int .i64 0] 27) = w1 := ⟨_, rfl⟩
  obtain ⟨c3, hc3⟩ : ∃ c3, w.heap.size = c3 := ⟨_, rfl⟩
  have F1 := hid (show Fr [] w w1 by rw [← hw1]; exact (((Fr.refl [] w).alloc _).alloc _).alloc _)
  rw [hw1]
  have E1 := hid (show Ev w [] w1 [Res.blk (w.heap.size + 1 + 1) [.int .i64 0], Res.blk (w.heap.size + 1) [.pointer none], Res.blk w.heap.size [.func (.func K) #[] #[]]] by
    have g1 := (Ev.start w).new ((Fr.refl [] w).alloc _) (Res.On.blk (Blk.alloc w [Value.func (.func K) #[] #[]] 60)) (by simp [Res.blk])
    have g2 := g1.new ((Fr.refl [] _).alloc _) (Res.On.blk (Blk.alloc _ [Value.pointer none] 26)) (by simp [Res.blk])
    have g3 := g2.new ((Fr.refl [] _).alloc _) (Res.On.blk (Blk.alloc _ [Value.int .i64 0] 27)) (by simp [Res.blk])
    rw [← hw1]
    simpa [World.size_alloc] using g3)
  have TW1 := hid (TW.out w1 F1.out)
  obtain ⟨c4, hc4⟩ : ∃ c4, c3 + 1 = c4 := ⟨_, rfl⟩
  obtain ⟨c5, hc5⟩ : ∃ c5, c4 + 1 = c5 := ⟨_, rfl⟩
  have hz1 : w1.heap.size = c5 + 1 := by rw [← hw1, ← hc5, ← hc4, ← hc3]; simp
  rw [hc3, hc4, hc5]
  rw [hc3, hc4, hc5] at E1
  clear hw1 TW
  go_wp2_with (first
    | (go_at_call 46; refine TW1.out.mono ?_; rintro e w6 ⟨b, rfl, hb, f6⟩; have hbt : b = true := hb.2 HD.out; subst hbt; have E6 := hid (E1.out.step f6); have b4 : Blk w6 c4 [.pointer none] := E6.out.held.blkAt 1 rfl; clear hb TW1 f6)
    | (refine wpList_put rfl _ _ _ rfl rfl (.pointer none) rfl rfl b4 (by simp) (by kernel_rfl) ?_; intro w7 f7 b7 hs7; have E7 := hid (E6.out.at 1 rfl f7 (fun b hb => .inl hb) (Res.On.blk b7) (fun b hb => .inl hb)); have b5 : Blk w7 c5 [.int .i64 0] := E7.out.held.blkAt 0 rfl; clear b4; simp only [World.size_alloc, World.size_drew, Act.put, List.setIfInBounds_toArray, List.set_cons_succ, List.set_cons_zero])
    | (refine wpList_put rfl _ _ _ rfl rfl (.int .i64 3) rfl rfl b5 (by simp) (by kernel_rfl) ?_; intro w8 f8 b8 hs8; have E8 := hid (E7.out.at 0 rfl f8 (fun b hb => .inl hb) (Res.On.blk b8) (fun b hb => .inl hb)); clear b5; simp only [World.size_alloc, World.size_drew, Act.put, List.setIfInBounds_toArray, List.set_cons_succ, List.set_cons_zero]))
  have b4' : Blk w8 c4 [.pointer none] := E8.out.held.blkAt 1 rfl
  refine ⟨rfl, _, results_cell_2 rfl _ _ rfl rfl (b4'.cell 0) (b8.cell 0) _ Try.underlying26 rfl _ Try.underlying27 rfl, rfl, E8.out.nil⟩
end
end Go.Proofs.Ytgafefecookgaaa
