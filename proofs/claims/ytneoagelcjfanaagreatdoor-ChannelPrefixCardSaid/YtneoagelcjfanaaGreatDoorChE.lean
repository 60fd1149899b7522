/- Layer 22: Send. -/
import Derived.Test.YtneoagelcjfanaaGreatDoorChD
namespace Go.Proofs.YtneoagelcjfanaaGreatDoor.chn
open Go Go.Xr Go.RowKit Go.Proofs.YtneoagelcjfanaaGreatDoor Go.Proofs.YtneoagelcjfanaaGreatDoor.rcd
set_option linter.unusedVariables false
set_option linter.unusedSimpArgs false
theorem ne_emp {K : ByteArray} (h : 0 < K.size) : K.toList.isEmpty = false := by
  have hK1 : ¬(K = ⟨#[]⟩) := fun h2 => by rw [h2] at h; exact absurd h (by decide)
  have hKl : ¬(K.toList = []) := fun h2 => by
    have := beq_str2 K ⟨#[]⟩
    rw [h2] at this
    exact hK1 (of_decide_eq_true (this.symm.trans (by decide +kernel)))
  simpa using hKl
theorem cvi32 (w : World) (n : Nat) (h : n ≤ 4294967295) : (convert 3 75 (.int .i64 (n : Int))).run Tryz.prog w = .ok (W32 (UInt32.ofNat n)) w := by
  have e : Value.int .u32 (IntKind.u32.wrap (n : Int)) = W32 (UInt32.ofNat n) := by
    rw [wrap_u32']
    unfold W32
    refine congrArg (Value.int _) ?_
    rw [UInt32.toNat_ofNat']
    omega
  simp only [convert, Sem.run_bind, run_underlying Tryz.underlying3, run_underlying Tryz.underlying75, Result.andThen_ok, Conv.intToInt, e, Sem.run_pure]
section
variable {w w' w0 : World} {cb s o : Nat} {K : CH} {S : CHS} {rs l : List Res}
theorem csend_nil (w : World) (t : ByteArray) : Calls Tryz.prog 10 #[.pointer none, .string t] w fun e w' => e = .returned (.tuple #[.string ⟨#[]⟩, .int .i64 1]) ∧ w' = w := by
  go_enter Tryz.func10, Tryz.ntmps10
  go_wp2_with fail
  go_ret2
  exact ⟨rfl, rfl⟩
theorem csend_shut (h : Held w (chR cb s o K S)) (hc : S.cl = true) (t : ByteArray) : Calls Tryz.prog 10 #[.pointer (some ⟨cb, 0, none⟩), .string t] w fun e w' => e = .returned (.tuple #[.string ⟨#[]⟩, .int .i64 3]) ∧ w' = w := by
  have k3 : w.cell? ⟨cb, 3, none⟩ = some (.bool true) := by have := (h.blkAt 0 rfl).cell 3; rw [hc] at this; exact this
  clear h hc
  go_enter Tryz.func10, Tryz.ntmps10
  go_wp2_with fail
  go_ret2
  exact ⟨rfl, rfl⟩
set_option maxRecDepth 20000 in
set_option maxHeartbeats 4000000 in
theorem csend_any (h : Held w (chR cb s o K S)) (hk : KOk K) (hc : S.cl = false) (t : ByteArray) (ht : t.size ≤ 1099511627776) :
    Calls Tryz.prog 10 #[.pointer (some ⟨cb, 0, none⟩), .string t] w fun e w' => e = .returned (.tuple #[.string (sendS K S.ns t), .int .i64 0]) ∧ Ev w (chR cb s o K S) w' (chR cb s o K { S with ns := S.ns + UInt64.ofNat (pcs t) }) := by
  have k0 : w.cell? ⟨cb, 0, none⟩ = some (.pointer (some ⟨s, 0, none⟩)) := (h.blkAt 0 rfl).cell 0
  have k3 : w.cell? ⟨cb, 3, none⟩ = some (.bool false) := by have := (h.blkAt 0 rfl).cell 3; rw [hc] at this; exact this
  have HH := hid h
  clear h
  go_enter Tryz.func10, Tryz.ntmps10
  go_wp2_with fail
  have bd0 := hid (BD.made w)
  have F0 := hid ((Fr.refl [] w).alloc (.cells #[.pointer none, .slice none 0 0] 69))
  obtain ⟨b, hb⟩ : ∃ b, w.heap.size = b := ⟨_, rfl⟩
  rw [hb] at bd0 ⊢
  have HB := hid hb
  have HF := hid (show ∀ x ∈ feetOf (chR cb s o K S), x < b from fun x hx => by rw [← hb]; exact HH.out.ltAll x hx)
  have E0 := hid ((Ev.refl HH.out).step F0.out)
  clear k3 hb F0
  generalize (w.alloc (.cells #[.pointer none, .slice none 0 0] 69)) = w1 at *
  go_loopw [1] (fun tv wr => ∃ k : Nat, k ≤ pcs t ∧ tv = .string (leftT t k) ∧ Hid (BD wr b (wireK K S.ns t k)) ∧ Hid (Ev w (chR cb s o K S) wr (chR cb s o K { S with ns := S.ns + UInt64.ofNat k }))) (fun tv _ => strSz tv)
  case atStart => exact ⟨0, by omega, by rw [leftT_0], bd0, by simpa using E0⟩
  case round =>
    obtain ⟨k, hkp, rfl, bd, E⟩ := hrel
    clear bd0 E0 k0
    have HKP := hid hkp
    by_cases hz : 8192 * k < t.size
    · have hkt : k < pcs t := by unfold pcs; omega
      have hXs0 := leftT_size t k
      have hn0 : 0 < (leftT t k).size := by omega
      have hXs := hid hXs0
      clear hXs0
      have hc1 := hid (chunk_left t k)
      have hc2 := hid (left_left t k)
      have HCs := hid (chunk_size t k)
      have HW := hid (wireK_size K S.ns t k)
      obtain ⟨X2, hX2⟩ : ∃ X2, leftT t (k + 1) = X2 := ⟨_, rfl⟩
      have HX2 := hid hX2
      rw [hX2] at hc2
      clear hX2
      generalize leftT t k = X at *
      obtain ⟨n, hn⟩ : ∃ n, min X.size 8192 = n := ⟨_, rfl⟩
      have hmin : min (X.size : Int) 8192 = (n : Int) := by omega
      have hXe := ne_emp hn0
      rw [hn] at hc1 hc2
      have hnX : n ≤ X.size := by omega
      have hnp := hid (show 0 < n by omega)
      have hn8 : (n : Int) ≤ 8192 := by omega
      have hXb : X.size ≤ 1099511627776 := by have := hXs.out; omega
      have ED := hid (E.out.step ((Fr.refl [] wr).drew))
      have bD := hid (BD.keep bd.out ((Fr.refl [] wr).drew) (by simp))
      have hs0 : wr.drew.cell? ⟨cb, 0, none⟩ = some (.pointer (some ⟨s, 0, none⟩)) := (ED.out.held.blkAt 0 rfl).cell 0
      go_wp2_with fail
      refine wp_region_D (fun w' => w'.cell? ⟨cb, 0, none⟩ = some (.pointer (some ⟨s, 0, none⟩))) false [] (by kernel_rfl) ?_
      refine WD.pure [0, 1, 2, 3, 4, 5, 6] (by kernel_rfl) hs0 ?_
      simp only [pick, List.toList_toArray, List.map_cons, List.map_nil, List.getD_cons_succ, List.getD_cons_zero]
      repeat (first | (refine quiet_load_1R (by rfl) _ _ rfl rfl (.pointer (some ⟨s, 0, none⟩)) (fun w0 h => h) _ Tryz.underlying52 rfl ?_; simp only [World.size_alloc, World.size_drew, Act.put, List.setIfInBounds_toArray, List.set_cons_succ, List.set_cons_zero]) | go_big_quiet_step (fail))
      refine wpQuiet_nil ?_
      refine WD.eff 7 (by kernel_rfl) ?_
      simp only [pick, List.toList_toArray, List.map_cons, List.map_nil, List.getD_cons_succ, List.getD_cons_zero]
      obtain ⟨R, hR⟩ : ∃ R, recS K.co K.mo K.lo (S.ns + UInt64.ofNat k) (chunk t k) = R := ⟨_, rfl⟩
      obtain ⟨q, hq⟩ : ∃ q, clsN (chunk t k).size + 40 = q := ⟨_, rfl⟩
      have hRq0 : R.size = q := by rw [← hR, ← hq]; exact recS_size _ _ _ _ _ HCs.out
      have hq16 : q ≤ 16424 := by rw [← hq]; have := (clsN_le (chunk t k).size).2; omega
      have hSeal := hid (sseal_any (w := wr.drew) (p := s) (nx := S.ns + UInt64.ofNat k) (X.extract 0 n) (ED.out.held.blkAt 1 rfl) hk.ko (by rw [hc1.out]; exact HCs.out) (by have := hk.lo; omega))
      rw [show recS K.co K.mo K.lo (S.ns + UInt64.ofNat k) (X.extract 0 n) = R from by rw [hc1.out]; exact hR] at hSeal
      have HR := hid hR
      have HQ := hid hq
      have HRq := hid hRq0
      have hcv := fun w : World => cvi32 w q (by omega)
      rw [← hRq0] at hcv
      have hU := hid fun w1 : World => u32_any (w := w1) (UInt32.ofNat q)
      rw [toNat32c q (by omega), ← hRq0] at hU
      have hw0 := hid (show (wireK K S.ns t k).size ≤ 3000000000000 by have := HW.out; have := HKP.out; unfold pcs at this; omega)
      have hws := hid fun (w1 : World) (h : BD w1 b (wireK K S.ns t k)) => wstr_any b (wireK K S.ns t k) (u32S R.size) w1 h (by rw [HRq.out]; show _ + 4 ≤ _; have := hw0.out; omega) (Nat.le_of_lt h.lt)
      have hwr := hid fun (w1 : World) (h : BD w1 b (wireK K S.ns t k ++ u32S R.size)) => wstr_any b (wireK K S.ns t k ++ u32S R.size) R w1 h (by rw [ByteArray.size_append, HRq.out]; show _ + 4 + _ ≤ _; have := hw0.out; omega) (Nat.le_of_lt h.lt)
      have HF2 : Hid (∀ x ∈ feetOf (chR cb s o K { S with ns := S.ns + UInt64.ofNat (k + 1) }), x < b) := HF
      have hadd : S.ns + UInt64.ofNat k + 1 = S.ns + UInt64.ofNat (k + 1) := by
        rw [UInt64.add_assoc]
        congr 1
        exact (UInt64.ofNat_add k 1).symm
      rw [hadd] at hSeal
      have hsb := hid (show s < b from HF.out s (by simp [chR, feetOf, Res.blk]))
      have HwT := hid (show wireK K S.ns t (k + 1) = (wireK K S.ns t k ++ u32S R.size) ++ R by
        show wireK K S.ns t k ++ oneR K (S.ns + UInt64.ofNat k) (chunk t k) = _
        unfold oneR
        rw [HR.out, HQ.out, HRq.out, ByteArray.append_assoc])
      obtain ⟨W2, hW2⟩ : ∃ W2, wireK K S.ns t (k + 1) = W2 := ⟨_, rfl⟩
      have HW2 := hid hW2
      rw [hW2] at HwT
      clear hW2
      generalize wireK K S.ns t k = W1 at *
      clear hR hq hRq0 hadd hq16 hXs hc1 HW hw0 bd E hn0
      go_wp2_with (go_at_call 27; (with_reducible refine hSeal.out.mono ?_); rintro e w5 ⟨rfl, hb5, f5⟩; have E5 := hid (ED.out.at 1 rfl f5 (fun b hb => .inl hb) (Res.On.blk hb5) (fun b hb => .inl hb)); have B5 := hid (BD.keep bD.out f5 (by intro x hx; obtain rfl := List.mem_singleton.1 hx; exact hsb.out)); have hs5 : w5.cell? ⟨cb, 0, none⟩ = some (.pointer (some ⟨s, 0, none⟩)) := (E5.out.held.blkAt 0 rfl).cell 0; clear hSeal hb5 f5 ED bD)
      try refine wpList_nil ?_
      refine AfterD.on hs5 (by kernel_rfl) ?_
      try simp only [World.size_alloc, World.size_drew, Act.put, List.setIfInBounds_toArray, List.set_cons_succ, List.set_cons_zero]
      refine WD.pure [8, 9, 10, 11, 12] (by kernel_rfl) hs5 ?_
      simp only [pick, List.toList_toArray, List.map_cons, List.map_nil, List.getD_cons_succ, List.getD_cons_zero]
      repeat (first | (refine quiet_load_1R (by rfl) _ _ rfl rfl (.pointer (some ⟨s, 0, none⟩)) (fun w0 h => h) _ Tryz.underlying52 rfl ?_; simp only [World.size_alloc, World.size_drew, Act.put, List.setIfInBounds_toArray, List.set_cons_succ, List.set_cons_zero]) | go_big_quiet_step (fail))
      refine wpQuiet_nil ?_
      refine WD.done (by kernel_rfl) ?_
      go_wp2_with (first
        | (go_at_call 29; (with_reducible refine (hU.out _).mono ?_); rintro e w6 ⟨rfl, f6⟩; have E6 := hid (E5.out.step f6); have B6 := hid (BD.keep B5.out f6 (by simp)); have hws6 := hid (hws.out _ B6.out); clear hU f6 E5 B5 hs5 hws)
        | (go_at_call 28; (with_reducible refine hws6.out.mono ?_); rintro e w7 ⟨rfl, b7, f7⟩; have E7 := hid (Ev.bf E6.out f7 (by rw [HB.out]; exact Nat.le_refl _) HF2.out); have hwr7 := hid (hwr.out _ b7); clear hws6 b7 f7 E6 B6 hwr)
        | (go_at_call 28; (with_reducible refine hwr7.out.mono ?_); rintro e w8 ⟨rfl, b8, f8⟩; have E8 := hid (Ev.bf E7.out f8 (by rw [HB.out]; exact Nat.le_refl _) HF2.out); have B8 := hid b8; clear hwr7 b8 f8 E7))
      go_roundw
      case rel => exact ⟨k + 1, by omega, by rw [hc2.out, ← HX2.out], hid (by rw [HW2.out, HwT.out]; exact B8.out), E8⟩
      case measure =>
        show (X.extract n X.size).size < X.size
        rw [ByteArray.size_extract]
        have := hnp.out
        omega
    · have hke : k = pcs t := by unfold pcs at hkp ⊢; omega
      rw [leftT_end t k (by omega)]
      have hS := hid (bstr_any b (wireK K S.ns t k) wr bd.out (Nat.le_of_lt bd.out.lt))
      have HF2 : Hid (∀ x ∈ feetOf (chR cb s o K { S with ns := S.ns + UInt64.ofNat k }), x < b) := HF
      have HWe := hid (show sendS K S.ns t = wireK K S.ns t k by rw [hke]; rfl)
      have HKe := hid hke
      generalize wireK K S.ns t k = W1 at *
      clear bd hkp hz hke
      go_wp2_with (go_at_call 30; (with_reducible refine hS.out.mono ?_); rintro e w5 ⟨rfl, b5, f5⟩; have E5 := hid (Ev.bf E.out f5 (by rw [HB.out]; exact Nat.le_refl _) HF2.out); clear b5 f5 hS)
      go_ret2
      refine ⟨by rw [HWe.out]; rfl, ?_⟩
      have := E5.out
      rw [HKe.out] at this
      exact this
end
end Go.Proofs.YtneoagelcjfanaaGreatDoor.chn
