/- Layer 6, sector: Crash. -/
import Derived.Test.YtflapddkeeiieaaSecD
namespace Go.Proofs.Ytflapddkeeiieaa
open Go Go.Xr Go.RowKit
set_option linter.unusedVariables false
set_option linter.unusedSimpArgs false

def crashK : List (List UInt8) → List (Nat × List UInt8) → List Bool → List (List UInt8)
  | kept, (i, b) :: l, k :: ks => crashK (if k then kept.set i b else kept) l ks
  | kept, _, _ => kept

theorem crashK_snoc : ∀ (l : List (Nat × List UInt8)) (ks : List Bool) (kept : List (List UInt8)) (p : Nat × List UInt8) (k : Bool), l.length = ks.length →
    crashK kept (l ++ [p]) (ks ++ [k]) = if k then (crashK kept l ks).set p.1 p.2 else crashK kept l ks
  | [], [], kept, p, k, _ => by obtain ⟨i, b⟩ := p; simp [crashK]
  | [], _ :: _, _, _, _, h => by simp at h
  | _ :: _, [], _, _, _, h => by simp at h
  | (i, b) :: l, x :: ks, kept, p, k, h => by
    simp only [List.cons_append, crashK]
    exact crashK_snoc l ks _ p k (by simpa using h)

theorem crashK_len : ∀ (l : List (Nat × List UInt8)) (ks : List Bool) (kept : List (List UInt8)), (crashK kept l ks).length = kept.length
  | [], _, kept => by simp [crashK]
  | _ :: _, [], kept => by simp [crashK]
  | (i, b) :: l, x :: ks, kept => by
    simp only [crashK]
    rw [crashK_len l ks]
    split <;> simp

theorem crashK_512 : ∀ (l : List (Nat × List UInt8)) (ks : List Bool) (kept : List (List UInt8)), (∀ s ∈ kept, s.length = 512) → (∀ p ∈ l, p.2.length = 512) → ∀ s ∈ crashK kept l ks, s.length = 512
  | [], _, kept, h, _ => by simpa [crashK] using h
  | _ :: _, [], kept, h, _ => by simpa [crashK] using h
  | (i, b) :: l, x :: ks, kept, h, hl => by
    simp only [crashK]
    refine crashK_512 l ks _ ?_ (fun p hp => hl p (by simp [hp]))
    split
    · intro s hs
      rcases List.mem_or_eq_of_mem_set hs with h1 | h1
      · exact h s h1
      · rw [h1]; exact hl (i, b) (by simp)
    · exact h

/-- What a crash leaves. -/
def crashed (D : SD) (ks : List Bool) : SD :=
  { D with kept := crashK D.kept (D.loose.take (min ks.length D.loose.length)) (ks.take (min ks.length D.loose.length)), now := crashK D.kept (D.loose.take (min ks.length D.loose.length)) (ks.take (min ks.length D.loose.length)), loose := [] }

theorem crash_dead {w : World} {d : Nat} {D : SD} {pw : Option (Nat × Nat)} {F : List Nat} (h : Rep w d D pw F) (v : Value) (hd : D.dead = true) :
    Calls Try.prog 12 #[.pointer (some ⟨d, 0, none⟩), v] w fun e w' => e = .returned (.int .i64 60) ∧ Rep w' d D none F ∧ Fr F w w' := by
  obtain ⟨kv, nv, lv, tv, k, n, L, T, hF, H0⟩ := h.held
  have hb : Blk w d [kv, nv, lv, tv, .bool D.dead, pwv pw] := H0.blkAt 0 rfl
  have hc := hb.cell
  have hf := hb.free 5 (by simp)
  have Hg := hid h.good
  have HF := hid hF
  have Hd := hid hd
  clear h hF hd
  go_enter Try.func12, Try.ntmps12
  go_upto_region 3 with fail
  have fs : Fr [d] w (w.setCell ⟨d, 5, none⟩ (.pointer none)) := (Fr.refl [d] w).setCell (.inl (by simp)) _
  have H1 := Held.upd [] _ H0 fs (by simp [Res.blk]) (Res.On.blk (hb.set 5 (.pointer none))) (by simp [Res.blk])
  refine wp_world (fun w2 => Rep w2 d D none F ∧ Fr F w w2) ⟨?_, ?_⟩ ?_
  · rw [HF.out]
    exact Rep.ofHeld Hg.out H1
  · exact fs.mono (fun x hx => .inl (by rw [HF.out]; simp at hx; simp [feet, hx]))
  rintro w2 ⟨hr, f2⟩
  have hab := able_any hr (pw := none) trivial
  rw [show ableN D none = 60 by simp [ableN, Hd.out]] at hab
  go_wp2_with (go_at_call 35; refine hab.mono ?_; rintro e w' ⟨rfl, rfl⟩)
  go_ret
  exact ⟨rfl, hr, f2⟩

set_option maxHeartbeats 2000000 in
set_option maxRecDepth 20000 in
theorem crash_ok {w : World} {d : Nat} {D : SD} {pw : Option (Nat × Nat)} {F : List Nat} (h : Rep w d D pw F) (hd : D.dead = false) (hll : D.loose.length < 1000000) {kv0 : Value} {ks : List Bool} {KB : Option Nat} (hk0 : Rc w 1 kv0 ks.length (ks.map .bool) KB) (hKB : ∀ b, KB = some b → b ∉ F) (hkl : ks.length ≤ maxLen) :
    Calls Try.prog 12 #[.pointer (some ⟨d, 0, none⟩), kv0] w fun e w' => e = .returned (.int .i64 0) ∧ ∃ F', Rep w' d (crashed D ks) none F' ∧ Fr F w w' ∧ ∀ x ∈ F', x ∈ F ∨ w.heap.size ≤ x := by
  obtain ⟨kv, nv, lv, tv, k, n, L, T, hF, H0⟩ := h.held
  have hb : Blk w d [kv, nv, lv, tv, .bool D.dead, pwv pw] := H0.blkAt 0 rfl
  have hc := hb.cell
  have hf := hb.free 5 (by simp)
  have Hg := hid h.good
  have HF := hid hF
  have Hd := hid hd
  have hks : ks.length ≤ 9223372036854775807 := by unfold maxLen at hkl; omega
  have hkle : D.kept.length ≤ 16384 := h.good.le
  obtain ⟨ka0, kc0, rfl⟩ := hk0.isSlice
  clear h hF hd hkl
  go_enter Try.func12, Try.ntmps12
  go_upto_region 3 with fail
  refine wp_world (fun w2 => Held w2 (parts d D none kv nv lv tv k n L T) ∧ Fr F w w2) ⟨?_, ?_⟩ ?_
  · exact Held.upd [] _ H0 ((Fr.refl [d] w).setCell (a := ⟨d, 5, none⟩) (.inl (by simp)) (.pointer none)) (by simp [Res.blk]) (Res.On.blk (hb.set 5 (.pointer none))) (by simp [Res.blk])
  · exact ((Fr.refl [d] w).setCell (a := ⟨d, 5, none⟩) (.inl (by simp)) (.pointer none)).mono (fun x hx => .inl (by rw [HF.out]; simp at hx; simp [feet, hx]))
  rintro w2 ⟨H2, f2⟩
  have hr : Rep w2 d D none F := by rw [HF.out]; exact Rep.ofHeld Hg.out H2
  have hab := able_any hr (pw := none) trivial
  rw [show ableN D none = 0 by simp [ableN, Hd.out]] at hab
  have hk2 := hk0.keep f2 hKB
  clear hc hf hb H0 hk0 hr
  have hb2 : Blk w2 d [kv, nv, lv, tv, .bool D.dead, .pointer none] := H2.blkAt 0 rfl
  have hc2 := hb2.cell
  have hl2 := (H2.ownAt 3 rfl : Xr.Own w2 513 lv D.loose.length (wlc D.loose) L).rd
  obtain ⟨kcap, hkv, hkcap, hkcm⟩ : ∃ cap, kv = .slice (some ⟨k, 0, none⟩) D.kept.length cap ∧ D.kept.length ≤ cap ∧ cap ≤ maxLen := by
    rcases (H2.ownAt 1 rfl : Xr.Own w2 512 kv D.kept.length (fl D.kept) (some k)).shape with ⟨_, _, _, h1⟩ | ⟨b, cap, hb1, h1, h2, h3⟩
    · cases h1
    · cases hb1; exact ⟨cap, h1, h2, h3⟩
  subst hkv
  have hlc : ∃ la lc, lv = .slice la D.loose.length lc ∧ D.loose.length ≤ lc ∧ lc ≤ maxLen := by
    rcases hl2.2 with ⟨h1, h2, _⟩ | ⟨b, off, cap, cs, _, h2, h3, h4, _⟩
    · exact ⟨none, 0, by rw [h1, h2], by omega, by simp⟩
    · exact ⟨_, _, h2, h3, h4⟩
  obtain ⟨la, lc, rfl, hlc1, hlc2⟩ := hlc
  unfold maxLen at hlc2
  obtain ⟨M, hM1, hM2, hMm, hif⟩ : ∃ M : Nat, M ≤ ks.length ∧ M ≤ D.loose.length ∧ M = min ks.length D.loose.length ∧ (if D.loose.length < ks.length then (D.loose.length : Int) else (ks.length : Int)) = (M : Int) := by
    refine ⟨min ks.length D.loose.length, by omega, by omega, rfl, ?_⟩
    split <;> omega
  have HMm := hid hMm
  clear hMm
  go_wp2_with (go_at_call 35; refine hab.mono ?_; rintro e w' ⟨rfl, rfl⟩)
  go_quiet (fail)
  go_wp2_with fail
  have H2n := H2.keep0 ((Fr.refl [] w2).drewN nq)
  have f2n := f2.drewN nq
  have hk2n := hk2.keep ((Fr.refl [] w2).drewN nq) (by simp)
  generalize w2.drewN nq = w3 at *
  clear H2 hl2 hc2 hb2 hab
  have Hl512 := hid (show ∀ p ∈ D.loose, p.2.length = 512 from fun p hp => (Hg.out.l512 p hp).1)
  obtain ⟨i77, z77, hi77, hz77, hs77, hb77, hzc77⟩ := inf77
  have Hi := hid hi77
  have Hz := hid hz77
  have Hs := hid hs77
  have Hzc := hid hzc77
  clear hi77 hz77 hs77 hb77 hzc77
  go_loopw [32] (fun i wr => ∃ m : Nat, m ≤ M ∧ i = .int .i64 m ∧ Held wr (parts d { D with kept := crashK D.kept (D.loose.take m) (ks.take m) } none (.slice (some ⟨k, 0, none⟩) D.kept.length kcap) nv (.slice la D.loose.length lc) tv k n L T) ∧ Fr F w wr ∧ Rc wr 1 (.slice ka0 ks.length kc0) ks.length (ks.map .bool) KB) (fun i _ => M - (intOf i).toNat)
  case atStart => exact ⟨0, Nat.zero_le _, rfl, by simpa [crashK] using H2n, f2n, hk2n⟩
  case round =>
    obtain ⟨m, hm, rfl, H, f, hkr⟩ := hrel
    clear H2n f2n hk2n f2 hk2
    have hKl : (crashK D.kept (D.loose.take m) (ks.take m)).length = D.kept.length := crashK_len _ _ _
    have hK512 := crashK_512 (D.loose.take m) (ks.take m) D.kept Hg.out.k512 (fun p hp => Hl512.out p (List.mem_of_mem_take hp))
    have hbr : Blk wr d [.slice (some ⟨k, 0, none⟩) D.kept.length kcap, nv, .slice la D.loose.length lc, tv, .bool D.dead, .pointer none] := H.blkAt 0 rfl
    have hkr2 : Xr.Own wr 512 (.slice (some ⟨k, 0, none⟩) D.kept.length kcap) (crashK D.kept (D.loose.take m) (ks.take m)).length (fl (crashK D.kept (D.loose.take m) (ks.take m))) (some k) := H.ownAt 1 rfl
    have hlr := (H.ownAt 3 rfl : Xr.Own wr 513 (.slice la D.loose.length lc) D.loose.length (wlc D.loose) L).rd
    by_cases hlt : m < M
    · have hml : m < D.loose.length := by omega
      have hmk : m < ks.length := by omega
      obtain ⟨b, off, cap, cs, hB2, hv, hcap, hcm, hbb, hlen, hcs⟩ := hlr.some (by omega)
      obtain ⟨rfl, rfl⟩ : la = some ⟨b, off, none⟩ ∧ lc = cap := by simpa using hv
      obtain ⟨b2, off2, cap2, hB3, hv2, hcap2, hcm2, hblt2, hcs2⟩ := hkr.some (by omega)
      obtain ⟨rfl, rfl⟩ : ka0 = some ⟨b2, off2, none⟩ ∧ kc0 = cap2 := by simpa using hv2
      have h512 := hid (Hl512.out _ (List.getElem_mem hml))
      have hix : D.loose[m].1 < D.kept.length := (Hg.out.l512 _ (List.getElem_mem hml)).2
      have H77 := hid (show (Try.prog.info? 77).map (·.size) = some (Value.int .i64 (D.loose[m].1 : Int) :: bv D.loose[m].2).length by rw [List.length_cons, bv_length, h512.out, Hi.out]; exact congrArg some Hs.out)
      have H73 := hid (show (Try.prog.info? 73).map (·.size) = some (bv D.loose[m].2).length by rw [bv_length, h512.out]; rfl)
      have HV := hid (show (cs.drop (off + m * 513)).take (Value.int .i64 (D.loose[m].1 : Int) :: bv D.loose[m].2).length = Value.int .i64 (D.loose[m].1 : Int) :: bv D.loose[m].2 by
        rw [List.length_cons, bv_length, h512.out, ← List.drop_drop, take_drop_of (cs.drop off) _ (D.loose.length * 513) (m * 513) 513 hcs (by omega)]
        exact wlc_drop D.loose m hml Hl512.out)
      have hkcell := hcs2 m (by simpa using hmk)
      have hkm0 : (ks.map Value.bool)[m]? = some (Value.bool ks[m]) := by simp [hmk]
      rw [hkm0] at hkcell
      have Hsn : Hid (crashK D.kept (D.loose.take (m + 1)) (ks.take (m + 1)) = if ks[m] then (crashK D.kept (D.loose.take m) (ks.take m)).set D.loose[m].1 D.loose[m].2 else crashK D.kept (D.loose.take m) (ks.take m)) := by
        rw [List.take_succ_eq_append_getElem hml, List.take_succ_eq_append_getElem hmk]
        exact crashK_snoc _ _ _ _ _ (by simp; omega)
      have hone : ∀ u ∈ Value.int .i64 (D.loose[m].1 : Int) :: bv D.loose[m].2, u.oneCell' = true := by
        intro u hu
        rcases List.mem_cons.1 hu with rfl | hu
        · rfl
        · exact bv_one _ u hu
      generalize hK : crashK D.kept (D.loose.take m) (ks.take m) = K at *
      have HK := hid hK
      have HK512 := hid hK512
      have HKl := hid hKl
      clear hK hK512 hKl hcs hlen hv hcs2 hkm0 hv2 hlr
      cases hkm : ks[m] with
      | true =>
        rw [hkm] at hkcell Hsn
        clear hkm
        go_wp2_with (first
          | (refine wpList_load_agg rfl _ _ rfl rfl (Value.int .i64 (D.loose[m].1 : Int) :: bv D.loose[m].2) hbb _ Try.underlying77 rfl H77.out HV.out ?_; simp only [World.size_alloc, World.size_drew, Act.put, List.setIfInBounds_toArray, List.set_cons_succ, List.set_cons_zero])
          | (refine wpList_alloc_agg rfl _ rfl _ _ _ Hi.out Hz.out Hzc.out ?_; intro zs hzl hze hbz; have Hzl := hid hzl; clear hzl hze; (try simp only [World.size_alloc, World.size_drew, Act.put, List.setIfInBounds_toArray, List.set_cons_succ, List.set_cons_zero]))
          | (refine wpList_store_agg rfl _ _ _ rfl rfl (Value.int .i64 (D.loose[m].1 : Int) :: bv D.loose[m].2) rfl hbz H77.out (by rw [List.length_cons, bv_length, h512.out, Hzl.out]; exact Nat.le_refl _) hone ?_; intro w4 f3 hb3 hs3; rw [splice_all _ _ (by rw [Hzl.out, List.length_cons, bv_length, h512.out])] at hb3; have g3 : Fr [] wr w4 := ((Fr.refl [] wr).alloc _).trans f3 (by simp); have hkcell4 := hkcell; rw [← g3.cell_old (a := ⟨b2, off2 + m, none⟩) (by exact hblt2)] at hkcell4; clear hkcell; (try simp only [World.size_alloc, World.size_drew, Act.put, List.setIfInBounds_toArray, List.set_cons_succ, List.set_cons_zero])))
        have hb4 := g3.blk hbr (by simp)
        obtain ⟨kcs, hkb, hkcl, hkt⟩ : ∃ cs, Blk wr k cs ∧ cs.length = kcap * 512 ∧ cs.take (K.length * 512) = fl K := by
          rcases hkr2.2 with ⟨h1, _, _⟩ | ⟨b, cap, cs, h1, h2, _, _, h3, h4, h5⟩
          · cases h1
          · cases h1
            obtain ⟨_, _, rfl⟩ := Value.slice.inj h2
            exact ⟨cs, h3, h4, h5⟩
        have Hkcl := hid hkcl
        have Hkt := hid hkt
        clear hkcl hkt
        obtain ⟨ι, W, hι, hW1, hW2, hW0⟩ := family (fun w' => Blk w' d [.slice (some ⟨k, 0, none⟩) D.kept.length kcap, nv, .slice (some ⟨b, off, none⟩) D.loose.length lc, tv, .bool D.dead, .pointer none] ∧ Blk w' wr.heap.size (Value.int .i64 (D.loose[m].1 : Int) :: bv D.loose[m].2)) (w := w4.drew) ⟨hb4, hb3⟩
        have HW1 := hid hW1
        have HW2 := hid hW2
        have HW0 := hid hW0
        clear hW1 hW2 hW0
        have hS1 := fun j => (HW1.out j).1.cell
        have hS2 := fun j => (HW1.out j).2.cell
        refine wp_region_X (fun w' => ∃ j, w' = W j) true (by kernel_rfl) ?_
        refine WX.pure [0, 1, 2, 3, 4, 5, 6, 7, 8] (by kernel_rfl) HW0.out ?_
        simp only [pick, List.toList_toArray, List.map_cons, List.map_nil, List.getD_cons_succ, List.getD_cons_zero]
        repeat (go_big_quiet_step (fail))
        refine quiet_load_agg rfl _ _ rfl (by rfl) (bv D.loose[m].2) (fun w' hw => (by obtain ⟨j, rfl⟩ := hw; exact (HW1.out j).2)) _ Try.underlying73 rfl H73.out ?hv4 ?_
        case hv4 => rw [List.drop_succ_cons, List.drop_zero, List.take_length]
        simp only [World.size_alloc, World.size_drew, Act.put, List.setIfInBounds_toArray, List.set_cons_succ, List.set_cons_zero]
        repeat (go_big_quiet_step (fail))
        refine wpQuiet_nil ?_
        refine WX.eff 9 (by kernel_rfl) ?_
        simp only [pick, List.toList_toArray, List.map_cons, List.map_nil, List.getD_cons_succ, List.getD_cons_zero]
        have hfit : D.loose[m].1 * 512 + (bv D.loose[m].2).length ≤ K.length * 512 := by rw [bv_length, h512.out, HKl.out]; omega
        have hfit2 : D.loose[m].1 * 512 + (bv D.loose[m].2).length ≤ kcs.length := by
          rw [Hkcl.out]
          exact Nat.le_trans hfit (Nat.mul_le_mul_right _ (by rw [HKl.out]; exact hkcap))
        refine wpList_store_agg rfl _ _ _ rfl rfl (bv D.loose[m].2) rfl (g3.blk hkb (by simp)).drew H73.out hfit2 (bv_one _) ?_
        intro w5 f5 hb5 hs5
        refine wpList_nil ?_
        refine After.end rfl ?_
        refine WX.done (by kernel_rfl) ?_
        simp only [Act.put]
        have H4 := (H.keep0 g3).keep0 (Fr.refl [] w4).drew
        have hown : Xr.Own w5 512 (.slice (some ⟨k, 0, none⟩) D.kept.length kcap) (K.set D.loose[m].1 D.loose[m].2).length (fl (K.set D.loose[m].1 D.loose[m].2)) (some k) := by
          have h1 := Xr.Own.blk (n := K.length) (cap := kcap) (size := 512) hb5 (by rw [HKl.out]; exact hkcap) hkcm (by rw [splice_length _ _ _ hfit2, Hkcl.out])
          rw [take_splice _ _ _ _ hfit, Hkt.out, splice_flat K D.loose[m].1 D.loose[m].2 HK512.out (by rw [HKl.out]; exact hix) h512.out] at h1
          rw [List.length_set]
          rw [HKl.out] at h1 ⊢
          exact h1
        have H5 := Held.upd [_] _ H4 f5 (by simp [Res.own]) (Res.On.own hown) (fun b hb => .inl hb)
        have hkF : k ∈ F := by rw [HF.out]; simp [feet]
        have f6 : Fr F w w5 := ((f.trans g3 (by simp)).drew).trans f5 (fun x hx => .inl (by simp at hx; rw [hx]; exact hkF))
        have hkr5 := ((hkr.keep g3 (by simp)).keep (Fr.refl [] w4).drew (by simp)).keep f5 (fun x hx => by simp; exact fun e => hKB x hx (by rw [e]; exact hkF))
        clear hS1 hS2
        clear HW1 HW2 HW0 hι W ι
        go_wp2_with fail
        go_roundw
        case rel => exact ⟨m + 1, by omega, by go_num, by rw [Hsn.out]; exact H5, f6, hkr5⟩
        case measure => simp [intOf]; omega
      | false =>
        rw [hkm] at hkcell Hsn
        clear hkm
        go_wp2_with (first
          | (refine wpList_load_agg rfl _ _ rfl rfl (Value.int .i64 (D.loose[m].1 : Int) :: bv D.loose[m].2) hbb _ Try.underlying77 rfl H77.out HV.out ?_; simp only [World.size_alloc, World.size_drew, Act.put, List.setIfInBounds_toArray, List.set_cons_succ, List.set_cons_zero])
          | (refine wpList_alloc_agg rfl _ rfl _ _ _ Hi.out Hz.out Hzc.out ?_; intro zs hzl hze hbz; have Hzl := hid hzl; clear hzl hze; (try simp only [World.size_alloc, World.size_drew, Act.put, List.setIfInBounds_toArray, List.set_cons_succ, List.set_cons_zero]))
          | (refine wpList_store_agg rfl _ _ _ rfl rfl (Value.int .i64 (D.loose[m].1 : Int) :: bv D.loose[m].2) rfl hbz H77.out (by rw [List.length_cons, bv_length, h512.out, Hzl.out]; exact Nat.le_refl _) hone ?_; intro w4 f3 hb3 hs3; rw [splice_all _ _ (by rw [Hzl.out, List.length_cons, bv_length, h512.out])] at hb3; have g3 : Fr [] wr w4 := ((Fr.refl [] wr).alloc _).trans f3 (by simp); have hkcell4 := hkcell; rw [← g3.cell_old (a := ⟨b2, off2 + m, none⟩) (by exact hblt2)] at hkcell4; clear hkcell; (try simp only [World.size_alloc, World.size_drew, Act.put, List.setIfInBounds_toArray, List.set_cons_succ, List.set_cons_zero])))
        go_roundw
        case rel => exact ⟨m + 1, by omega, by go_num, by rw [Hsn.out]; exact H.keep0 g3, f.trans g3 (by simp), hkr.keep g3 (by simp)⟩
        case measure => simp [intOf]; omega
    · obtain rfl : m = M := by omega
      generalize hK : crashK D.kept (D.loose.take m) (ks.take m) = K at *
      have HK := hid hK
      have HK512 := hid hK512
      have HKl := hid hKl
      clear hK hKl hlr
      have hKle : K.length ≤ 16384 := by rw [HKl.out]; exact hkle
      have hcl := cloneS_any hkr2 (fl_one _) (by unfold maxLen; omega) (by omega)
      have hcr := hbr.cell
      go_wp2_with fail
      refine hcl.mono ?_
      rintro e w5 ⟨nv', n', rfl, hn1, hn', f1⟩
      have H1 := H.fresh f1 (Res.On.own hn1) (fun b hb => by simp [Res.own] at hb; omega)
      obtain ⟨na, nc, rfl⟩ := hn1.isSlice
      have hb1 := f1.blk hbr (by simp)
      have hc1 := hb1.cell
      have hf11 := hb1.free 1 (by simp)
      have hf12 := hb1.free 2 (by simp)
      go_wp2_with fail
      go_ret
      have fs : Fr [d] w5 ((w5.setCell ⟨d, 1, none⟩ (.slice na K.length nc)).setCell ⟨d, 2, none⟩ (.slice none 0 0)) := ((Fr.refl [d] w5).setCell (.inl (by simp)) _).setCell (.inl (by simp)) _
      have H2 := Held.upd [_] _ H1 fs (by simp [Res.blk]) (Res.On.blk ((hb1.set 1 (.slice na K.length nc)).set 2 (.slice none 0 0))) (by simp [Res.blk])
      have H3 := Held.new (r := Res.own 513 (.slice none 0 0) 0 [] none) H2 (Res.On.own (Xr.Own.nil _ _)) (by simp [Res.own])
      have H4 : Held _ [_, _, _, _, _] := Held.pick [2, 3, 1, 0, 6] H3 (by decide) rfl
      have hcr : crashed D ks = { D with kept := K, now := K, loose := [] } := by
        unfold crashed
        rw [← HMm.out, HK.out]
      refine ⟨rfl, feet d k n' none T, ?_, ?_, ?_⟩
      · rw [hcr]
        refine Rep.ofHeld ⟨rfl, ?_, hKle, HK512.out, HK512.out, by simp⟩ H4
        show 0 < K.length
        rw [HKl.out]
        exact Hg.out.pos
      · exact (f.trans f1 (by simp)).trans fs (fun x hx => .inl (by rw [HF.out]; simp at hx; simp [feet, hx]))
      · intro x hx
        simp only [feet, List.mem_cons, List.mem_append, Option.mem_toList] at hx
        rcases hx with rfl | rfl | rfl | hx | hx
        · exact .inl (by rw [HF.out]; simp [feet])
        · exact .inl (by rw [HF.out]; simp [feet])
        · have := f.size
          exact .inr (by omega)
        · cases hx
        · exact .inl (by rw [HF.out]; simp [feet, hx])
end Go.Proofs.Ytflapddkeeiieaa
