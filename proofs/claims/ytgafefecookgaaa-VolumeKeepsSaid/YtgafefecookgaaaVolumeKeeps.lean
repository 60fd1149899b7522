/- Layer 8: VolumeKeeps, the walk. -/
import Derived.Test.YtgafefecookgaaaVolT
namespace Go.Proofs.Ytgafefecookgaaa
open Go Go.Xr Go.RowKit
set_option linter.unusedVariables false
set_option linter.unusedSimpArgs false
set_option maxRecDepth 20000 in
theorem vk_inf9 : ∃ i, Try.prog.info? 9 = some i ∧ i.zero = some (.string ⟨#[]⟩) ∧ i.size = 1 ∧ i.bytes = 16 := ⟨_, rfl, rfl, rfl, rfl⟩
section
variable {w : World}
set_option maxRecDepth 20000 in
set_option maxHeartbeats 16000000 in
theorem volumeKeeps_walk (pairs : Int) {v0 : Value} {l : List Step8} {LB : Option Nat} (hl : Rc w 5 v0 l.length (l.flatMap stc8) LB) (hlok : ∀ s ∈ l, StOk8 w s) (hlm : l.length ≤ maxLen) :
    Calls Try.prog 5 #[.int .i64 pairs, v0] w fun e w' => e = .returned (.bool true) ∧ Fr [] w w' := by
  obtain ⟨la, lc, rfl⟩ := hl.isSlice
  unfold maxLen at hlm
  obtain ⟨i9, hi9, hz9, hs9, hb9⟩ := vk_inf9
  have Hi9 := hid hi9
  have Hz9 := hid hz9
  have Hs9 := hid hs9
  have Hb9 := hid hb9
  obtain ⟨i5, hi5, hz5, hs5, hb5⟩ := inf5
  have Hi5 := hid hi5
  have Hz5 := hid hz5
  have Hs5 := hid hs5
  have Hb5 := hid hb5
  clear hi9 hz9 hs9 hb9 hi5 hz5 hs5 hb5
  have HA := hid valive_any
  obtain ⟨q4, hq4, hqe⟩ := v_and16 pairs
  obtain ⟨k, hk⟩ : ∃ k, q4 % 4 = k := ⟨_, rfl⟩
  have hk4 : k < 4 := by omega
  obtain ⟨n, hn⟩ : ∃ n, 1 + k = n := ⟨_, rfl⟩
  obtain ⟨K, hK⟩ : ∃ K, 2 * n = K := ⟨_, rfl⟩
  obtain ⟨t, ht⟩ : ∃ t, 3 * n = t := ⟨_, rfl⟩
  have hrem1 := fun ty => vrem ty q4 4 (by omega) (by decide)
  rw [hk, show ((4 : Nat) : Int) = 4 from rfl] at hrem1
  have had1 := fun ty => v_add ty 1 k n hn (by omega)
  have hmu1 := fun ty => v_mul ty 2 n K hK (by omega)
  rw [show ((1 : Nat) : Int) = 1 from rfl] at had1
  rw [show ((2 : Nat) : Int) = 2 from rfl] at hmu1
  have HD := hid fun (w1 : World) => disks_any (w := w1) K 4 (by omega) (by decide) (by decide)
  rw [show ((4 : Nat) : Int) = 4 from rfl] at HD
  have HKK := hid hK
  have HTT := hid ht
  have HN1 := hid (show 1 ≤ n ∧ n ≤ 4 by omega)
  have ht12 : t ≤ 12 := by omega
  have hK8 : K ≤ 8 := by omega
  clear hk hk4 hn hK ht hq4
  go_enter Try.func5, Try.ntmps5
  go_wp2_with (first
    | (go_at_call 11; refine (HA.out _).mono ?_; rintro e w0 ⟨rfl, f0⟩; have F0 := hid f0; clear HA f0)
    | (go_at_call 6; refine (HD.out _).mono ?_; rintro e w1 ⟨vd, Xd, vx, Bx, Fs, Gs, rfl, hFl, hGl, ev1⟩; have nst := hid trivial; revert nst))
  intro _
  obtain ⟨ss, s1, s2, s3, ev2⟩ := disks_ss ev1 (k := n) (by rw [hFl, HKK.out])
  obtain ⟨B, rfl, erow⟩ := disks_row (ss := ss) (ev2.held.ownAt 0 rfl) hFl (by have := HKK.out; have := HN1.out; omega) s2
  rw [erow] at ev2
  have ev3 := ((Ev.start w).step F0.out).trans ev2
  have HMk := hid (mkall_new (e := 3) (i0 := 0) ev3 rfl (by have := HN1.out; omega) (by have := HN1.out; omega) s3 (by decide) (by decide))
  rw [s1] at HMk
  obtain ⟨D0, hD0⟩ : ∃ D0, ss.map VS.d = D0 := ⟨_, rfl⟩
  obtain ⟨cd, rfl⟩ : ∃ cd, vd = .slice (some ⟨B, 0, none⟩) K cd := by
    rcases (ev1.held.ownAt 0 rfl).shape with ⟨h0, _⟩ | ⟨b, c, h0, h1, _⟩
    · have := HKK.out; have := HN1.out; omega
    · cases h0
      exact ⟨c, h1⟩
  have hrowe : Res.own 1 (.slice (some ⟨B, 0, none⟩) K cd) (dsOf ss).length (((dsOf ss).map some).map pv) (some B) = Res.own 1 (.slice (some ⟨B, 0, none⟩) (2 * n) cd) (2 * n) (rowD D0) (some B) := by
    have e1 : (dsOf ss).length = 2 * n := by rw [dsOf, List.length_map, dsP_len, s1]
    rw [e1, dsOf_flat, hD0, ← HKK.out]
    rfl
  rw [hrowe, hD0] at HMk
  have HDl := hid (show D0.length = n by rw [← hD0, List.length_map, s1])
  obtain ⟨l0, hl0⟩ : ∃ l0, l0 = [Res.own 1 (.slice (some ⟨B, 0, none⟩) (2 * n) cd) (2 * n) (rowD D0) (some B), Res.own 1 vx K (Gs.map fun q => pv (some q.1)) Bx] := ⟨_, rfl⟩
  rw [← hl0] at HMk
  have HL0 := hid hl0
  clear ev1 ev2 ev3 erow s1 s2 s3 hFl hGl HD hrowe hD0 hl0 F0
  go_wp2_with (go_at_call 7; refine HMk.out.mono ?_; rintro r w2 ⟨X, rfl, o2, x1, x2, x3, va2⟩; have V2 := hid va2; have O2 := hid o2; have X1 := hid x1; have X2 := hid x2; have X3 := hid x3; have hl2 := hid (vlen_v va2 o2); rw [x1, x3, HTT.out] at hl2; clear va2 HMk o2 x1 x2 x3)
  go_wp2_with (first
    | (go_at_call 9; refine hl2.out.mono ?_; rintro r w3 ⟨rfl, f3⟩; have V3 := hid (V2.out.step f3); clear f3 hl2)
    | (refine wpList_make rfl _ _ _ rfl t t .i64 .i64 rfl rfl 9 _ _ (.string ⟨#[]⟩) 1 16 Try.underlying48 Hi9.out Hz9.out Hs9.out Hb9.out rfl (by decide) (Nat.le_refl _) (by omega) (by omega) ?_; intro hb1; have V4 := hid (V3.out.new ((Fr.refl [] w3).alloc _) (Res.On.blk hb1) (fun b hb => by simp [Res.blk] at hb; omega)); refine wpList_world (fun w' => Hid (VA w [] w' (Res.blk w3.heap.size (List.replicate (t * 1) (.string ⟨#[]⟩)) :: l0) X (List.replicate n (newM 3)) 0)) V4 ?_; clear hb1 V4; (try simp only [World.size_alloc, World.size_drew, Act.put, List.setIfInBounds_toArray, List.set_cons_succ, List.set_cons_zero]); intro w4 V4))
  generalize w3.heap.size = nb at *
  have A0 : Hid (AllOk 1000 (fun _ => List.replicate 3 Zs) (List.replicate n (newM 3))) := hid fun k M hk => by
    obtain rfl : M = newM 3 := List.eq_of_mem_replicate (List.mem_of_getElem? hk)
    obtain ⟨n1, n2, n3, n4⟩ := newM_ok 3 (by decide)
    refine ⟨n4, ?_, n1, by omega⟩
    obtain ⟨T0, T1, e⟩ := made_eq 3 []
    unfold newM
    rw [e]
    intro b
    cases b <;> rfl
  have N0 : Hid (NsOk (fun _ => List.replicate 3 Zs)) := hid fun k => ⟨rfl, fun x hx => by
    rw [List.eq_of_mem_replicate hx]
    show zsec.toArray.size = 512
    rw [List.size_toArray]
    exact List.length_replicate⟩
  generalize List.replicate n (newM 3) = M0 at *
  clear V3 V2
  go_loopw [11] (fun iv wr => ∃ i : Nat, i ≤ t ∧ iv = .int .i64 (i : Int) ∧ ∃ C : List ByteArray, C.length = t ∧ (∀ j, j < i → C[j]? = some Zs) ∧ Hid (VA w [] wr (Res.blk nb (C.map .string) :: l0) X M0 0)) (fun iv _ => t - (intOf iv).toNat)
  case atStart => exact ⟨0, by omega, rfl, List.replicate t ⟨#[]⟩, by simp, fun j h => by omega, by simpa using V4⟩
  case round =>
    obtain ⟨i, hi, rfl, C, hC, hCz, V5⟩ := hrel
    clear V4
    by_cases hlt : i < t
    · have hd1 : decide ((i : Int) < (t : Int)) = true := by simp; omega
      have hd1n : decide (i < t) = true := by simp; omega
      have hi12 : (i : Int) ≤ 12 := by omega
      have hbn := V5.out.held.blkAt 0 rfl
      have HZ := hid (show zsec.length = 512 by unfold zsec; exact List.length_replicate)
      have HC := hid hC
      have HCz := hid hCz
      clear hC hCz
      go_wp2_with (first
        | (refine wpList_make rfl _ _ _ rfl 512 512 .i64 .i64 rfl rfl 5 _ _ (bt 0) 1 1 Try.underlying49 Hi5.out Hz5.out Hs5.out Hb5.out rfl (by decide) (Nat.le_refl _) (by decide) (by decide) ?_; intro hb1; (try simp only [World.size_alloc, World.size_drew, Act.put, List.setIfInBounds_toArray, List.set_cons_succ, List.set_cons_zero]))
        | (refine wpList_string_of_bytes rfl _ _ 5 _ rfl 512 512 rfl hb1 zsec HZ.out (by unfold zsec; rw [bv_replicate, List.length_replicate, List.drop_zero, Nat.mul_one, List.take_replicate, Nat.min_self]) Try.underlying49 Try.underlying5 Try.underlying9 ?_; (try simp only [World.size_alloc, World.size_drew, Act.put, List.setIfInBounds_toArray, List.set_cons_succ, List.set_cons_zero]))
        | (refine wpList_put rfl _ _ _ rfl rfl (.string Zs) rfl rfl (hbn.old _) (by simp [HC.out]; omega) (by kernel_rfl) ?_; intro w7 f7 b7 hs7; have V7 := hid ((V5.out.step ((Fr.refl [] wr).alloc _)).ctx 0 rfl f7 (fun b hb => .inl hb) (Res.On.blk b7) (fun b hb => .inl hb)); clear hb1 hs7; simp only [World.size_alloc, World.size_drew, Act.put, List.setIfInBounds_toArray, List.set_cons_succ, List.set_cons_zero]))
      go_roundw
      case rel =>
        refine ⟨i + 1, by omega, by go_num, C.set i Zs, by rw [List.length_set]; exact HC.out, fun j hj => ?_, ?_⟩
        · by_cases e : j = i
          · subst e
            rw [List.getElem?_set_self (by rw [HC.out]; exact hlt)]
          · rw [List.getElem?_set_ne (fun e2 => e e2.symm)]
            exact HCz.out j (by omega)
        · rw [List.map_set]
          exact V7
      case measure => simp [intOf]; omega
    · have hit : i = t := by omega
      have hCe : C = vnow n t (fun _ => List.replicate 3 Zs) := by
        rw [vnow_zero (by have := HN1.out; omega) HTT.out]
        refine List.ext_getElem? fun j => ?_
        by_cases hj : j < t
        · rw [hCz j (by omega), List.getElem?_replicate_of_lt hj]
        · rw [List.getElem?_eq_none (by omega), List.getElem?_eq_none (by simp; omega)]
      subst hCe
      have hd5 : decide ((i : Int) < (t : Int)) = false := by simp; omega
      have hd5n : decide (i < t) = false := by simp; omega
      clear hC hCz hlt hi hit
      go_wp2_with fail
      clear hd5 hd5n
      go_loopw [12, 8] (fun iv vv wr => ∃ (i : Nat) (X : VX) (Ns : Nat → List ByteArray) (Ms : List MS) (wt : Int), i ≤ 50 ∧ i ≤ l.length ∧ iv = .int .i64 (i : Int) ∧ vv = .pointer (some ⟨X.vb, 0, none⟩) ∧ Hid (VOk X) ∧ Hid (X.ms.length = n) ∧ Hid (X.ds = D0) ∧ Hid (X.e = 3) ∧ Hid (NsOk Ns) ∧ Hid (AllOk (1000 + 1000 * i) Ns Ms) ∧ Hid (0 ≤ wt ∧ wt ≤ i) ∧ Hid (VA w [] wr (Res.blk nb ((vnow n t Ns).map .string) :: l0) X Ms wt)) (fun iv _ _ => 50 - (intOf iv).toNat)
      case atStart => exact ⟨0, X, _, M0, 0, by omega, by omega, rfl, rfl, O2, X1, X2, X3, N0, A0, hid (by omega), V5⟩
      case round =>
        clear V5 N0 A0 O2 X1 X2 X3
        obtain ⟨i, X, Ns, Ms, wt, hi, hil, rfl, rfl, O, X1, X2, X3, NO, AO, WT, V⟩ := hrel
        by_cases hlt : i < 50 ∧ i < l.length
        · obtain ⟨hlt1, hlt2⟩ := hlt
          have g1 : decide ((i : Int) < 50) = true := by simp; omega
          have g2 : decide (i < 50) = true := by simp; omega
          have g3 : decide ((i : Int) < (l.length : Int)) = true := by simp; omega
          have g4 : decide (i < l.length) = true := by simp; omega
          have hfr : Fr [] w wr := V.out.fr
          obtain ⟨b, off, cap, hv, hB, hblt, hcs⟩ := step_cell8 (hl.keep hfr (by simp)) i hlt2
          obtain ⟨rfl, rfl⟩ : la = some ⟨b, off, none⟩ ∧ lc = cap := by simpa using hv
          have c0 : wr.cell? ⟨b, off + i * 5, none⟩ = some (.int .i64 l[i].Do) := by simpa [stc8] using hcs 0 (by decide)
          have c1 : wr.cell? ⟨b, off + i * 5 + 1, none⟩ = some (.int .i64 l[i].I) := by simpa [stc8] using hcs 1 (by decide)
          have c2 : wr.cell? ⟨b, off + i * 5 + 2, none⟩ = some (.int .i64 l[i].D) := by simpa [stc8] using hcs 2 (by decide)
          have c3 : wr.cell? ⟨b, off + i * 5 + 3, none⟩ = some (bt l[i].C) := by simpa [stc8] using hcs 3 (by decide)
          have c4 : wr.cell? ⟨b, off + i * 5 + 4, none⟩ = some l[i].Keep := by simpa [stc8] using hcs 4 (by decide)
          have Hst := hid (hlok l[i] (List.getElem_mem hlt2))
          generalize l[i] = s at *
          clear hcs
          have Hone : Hid (∀ u ∈ stc8 s, u.oneCell' = true) := hid (by
            obtain ⟨ka, kc, hk⟩ := Hst.out.k.isSlice
            unfold stc8
            rw [hk]
            simp [Value.oneCell', bt])
          have HI50 := hid (And.intro hlt1 hlt2)
          obtain ⟨qd, hqd, hqde⟩ := v_and16 s.D
          obtain ⟨kd, hkd⟩ : ∃ kd, qd % K = kd := ⟨_, rfl⟩
          have hK0 : 0 < K := by have := HKK.out; have := HN1.out; omega
          have ht0 : 0 < t := by have := HTT.out; have := HN1.out; omega
          have hremD := fun ty => vrem ty qd K (by omega) hK0
          have hkK : kd < K := by rw [← hkd]; exact Nat.mod_lt _ hK0
          rw [hkd] at hremD
          obtain ⟨p, bb, hp, hkp⟩ := half kd n (by rw [HKK.out]; exact hkK)
          obtain ⟨ko, hko⟩ : ∃ ko, 2 * p + (!bb).toNat = ko := ⟨_, rfl⟩
          have hxor : bits .xor .i64 (kd : Int) 1 = (ko : Int) := by rw [hkp, ← hko]; exact xor1 p (by have := HN1.out; omega) bb
          have hoK : ko < K := by have := HKK.out; have := Bool.toNat_le (!bb); omega
          obtain ⟨d, hd⟩ : ∃ d, D0[p]? = some d := ⟨_, List.getElem?_eq_getElem (by rw [HDl.out]; exact hp)⟩
          obtain ⟨M, hM⟩ : ∃ M, Ms[p]? = some M := ⟨_, List.getElem?_eq_getElem (by rw [V.out.len.1, X1.out]; exact hp)⟩
          have HRow : Hid (∀ (w1 : World) (r1 r2 : Res) (X1 : VX) (Ms1 : List MS) (wt1 : Int), VA w [] w1 (r1 :: r2 :: l0) X1 Ms1 wt1 → w1.cell? ⟨B, kd, none⟩ = some (.pointer (some ⟨d bb, 0, none⟩)) ∧ w1.cell? ⟨B, ko, none⟩ = some (.pointer (some ⟨d (!bb), 0, none⟩))) := hid fun w1 r1 r2 X1 Ms1 wt1 h => by
            rw [HL0.out] at h
            have ho := h.held.ownAt 2 rfl
            have hn0 : 0 < n := by have := HN1.out; omega
            rw [hkp, ← hko]
            exact ⟨rowD_cell ho hn0 hd bb hp, rowD_cell ho hn0 hd (!bb) hp⟩
          have GM := hid (AO.out p M hM)
          have hdX : Hid (X.ds[p]? = some d) := hid (by rw [X2.out]; exact hd)
          have HMs := hid hM
          have hkK8 : (kd : Int) ≤ 8 := by omega
          have hoK8 : (ko : Int) ≤ 8 := by omega
          clear hkd hd hM hp hfr hblt hqd hkp hko
          by_cases h5 : s.Do = 5
          · have u5 : (s.Do == 5) = true := by simpa using h5
            clear h5
            cases hz : (M.s.X (!bb)).Dead with
            | true =>
              have hde := hid fun (w1 : World) (r1 r2 : Res) (h : VA w [] w1 (r1 :: r2 :: l0) X Ms wt) => vdead_at h HMs.out hdX.out GM.out.ok (!bb)
              rw [hz] at hde
              have OT := O
              have NT := X1
              have DT := X2
              have ET := X3
              have NOT := NO
              have AT := hid (AllOk.mono AO.out (show 1000 + 1000 * i ≤ 1000 + 1000 * i + 500 by omega))
              have WTt : Hid (0 ≤ wt ∧ wt ≤ (i : Int) + 1) := hid (by have := WT.out; omega)
              go_wp2_with (first
                | (refine wpList_store_ag rfl _ _ _ rfl rfl (stc8 s) rfl (Blk.alloc wr [.int .i64 0, .int .i64 0, .int .i64 0, .int .u8 0, .slice none 0 0] _) stepT8 rfl (by simp) Hone.out ?_; intro w7 f7 b7 hs7; have b7' : Blk w7 wr.heap.size (stc8 s) := b7; have V7 := hid (V.out.new (((Fr.refl [] wr).alloc _).trans f7 (fun x hx => .inr (by simp at hx; omega))) (Res.On.blk b7') (fun b hb => by simp [Res.blk] at hb; omega)); have kb := V7.out.held.blkAt 0 rfl; have k0 : w7.cell? ⟨wr.heap.size, 0, none⟩ = some (.int .i64 s.Do) := kb.cell 0; have k1 : w7.cell? ⟨wr.heap.size, 1, none⟩ = some (.int .i64 s.I) := kb.cell 1; have k2 : w7.cell? ⟨wr.heap.size, 2, none⟩ = some (.int .i64 s.D) := kb.cell 2; have k3 : w7.cell? ⟨wr.heap.size, 3, none⟩ = some (bt s.C) := kb.cell 3; have k4 : w7.cell? ⟨wr.heap.size, 4, none⟩ = some s.Keep := kb.cell 4; obtain ⟨r0, r1⟩ := HRow.out _ _ _ _ _ _ V7.out; clear kb f7 b7 b7' hs7 c0 c1 c2 c3 c4; simp only [World.size_alloc, World.size_drew, Act.put, List.setIfInBounds_toArray, List.set_cons_succ, List.set_cons_zero])
                | (go_at_call 20; refine (hde.out _ _ _ V7.out).mono ?_; rintro e w8 ⟨rfl, hw⟩; subst hw; clear hde))
              generalize wr.heap.size = sb at *
              have Vt := V7
              clear k0 k1 k2 k3 k4 r0 r1 V7 V AO WT O NO HMs GM hz hxor
              as_aux_lemma =>
                go_loopw [19] (fun qv wq => ∃ q : Nat, q ≤ t ∧ qv = .int .i64 (q : Int) ∧ Hid (VA w [] wq (Res.blk sb (stc8 s) :: Res.blk nb ((vnow n t Ns).map .string) :: l0) X Ms wt)) (fun qv _ => t - (intOf qv).toNat)
                case atStart => exact ⟨0, by omega, rfl, Vt⟩
                case round =>
                  obtain ⟨q, hq, rfl, VQ⟩ := hrel
                  clear Vt
                  by_cases hqt : q < t
                  · have b1 : decide ((q : Int) < (t : Int)) = true := by simp; omega
                    have b1n : decide (q < t) = true := by simp; omega
                    have hr := hid (vread_snd VQ.out OT.out NT.out ET.out AT.out NOT.out (by have := HI50.out; omega) HTT.out hqt)
                    have hcell : Hid (∀ w1 : World, VA w [] w1 (Res.blk sb (stc8 s) :: Res.blk nb ((vnow n t Ns).map .string) :: l0) X Ms wt → w1.cell? ⟨nb, q, none⟩ = some (.string (vnowAt n Ns q))) := hid fun w1 h => by
                      have := (h.held.blkAt 1 rfl).cell q
                      rw [List.getElem?_map, vnow_get hqt] at this
                      exact this
                    generalize vnowAt n Ns q = Sq at *
                    have hq12 : (q : Int) ≤ 12 := by omega
                    go_wp2_with (go_at_call 14; refine hr.out.mono ?_; rintro e w10 ⟨rfl, v10⟩; have V10 := hid v10; have kq10 := hcell.out _ v10; clear v10 hr)
                    go_roundw
                    case rel => exact ⟨q + 1, by omega, by go_num, V10⟩
                    case measure => simp [intOf]; omega
                  · obtain rfl : q = t := by omega
                    have b1 : decide ((q : Int) < (q : Int)) = false := by simp
                    clear hqt hq
                    go_wp2_with fail
                    go_roundw
                    case rel => exact ⟨i + 1, X, Ns, Ms, wt, by have := HI50.out; omega, by have := HI50.out; omega, by go_num, rfl, OT, NT, DT, ET, NOT, hid (AllOk.mono AT.out (by omega)), hid (by have := WTt.out; omega), hid VQ.out.less⟩
                    case measure => simp [intOf]; omega
            | false =>
              have hde := hid fun (w1 : World) (r1 r2 : Res) (h : VA w [] w1 (r1 :: r2 :: l0) X Ms wt) => vdead_at h HMs.out hdX.out GM.out.ok (!bb)
              rw [hz] at hde
              have hfa := hid fun (w1 : World) (r1 r2 : Res) (h : VA w [] w1 (r1 :: r2 :: l0) X Ms wt) => vfail_at h HMs.out hdX.out GM.out.ok bb
              have AF := hid (AllOk.fail AO.out HMs.out bb hz)
              generalize Ms.set p { M with s := M.s.fa bb } = Ms1 at *
              have hfl := hid fun (w1 : World) (r1 r2 : Res) (h : VA w [] w1 (r1 :: r2 :: l0) X Ms1 wt) => vflush_snd h O.out AF.out (by have := HI50.out; omega)
              have OT := O
              have NT := X1
              have DT := X2
              have ET := X3
              have NOT := NO
              have WTt : Hid (0 ≤ wt ∧ wt ≤ (i : Int) + 1) := hid (by have := WT.out; omega)
              go_wp2_with (first
                | (refine wpList_store_ag rfl _ _ _ rfl rfl (stc8 s) rfl (Blk.alloc wr [.int .i64 0, .int .i64 0, .int .i64 0, .int .u8 0, .slice none 0 0] _) stepT8 rfl (by simp) Hone.out ?_; intro w7 f7 b7 hs7; have b7' : Blk w7 wr.heap.size (stc8 s) := b7; have V7 := hid (V.out.new (((Fr.refl [] wr).alloc _).trans f7 (fun x hx => .inr (by simp at hx; omega))) (Res.On.blk b7') (fun b hb => by simp [Res.blk] at hb; omega)); have kb := V7.out.held.blkAt 0 rfl; have k0 : w7.cell? ⟨wr.heap.size, 0, none⟩ = some (.int .i64 s.Do) := kb.cell 0; have k1 : w7.cell? ⟨wr.heap.size, 1, none⟩ = some (.int .i64 s.I) := kb.cell 1; have k2 : w7.cell? ⟨wr.heap.size, 2, none⟩ = some (.int .i64 s.D) := kb.cell 2; have k3 : w7.cell? ⟨wr.heap.size, 3, none⟩ = some (bt s.C) := kb.cell 3; have k4 : w7.cell? ⟨wr.heap.size, 4, none⟩ = some s.Keep := kb.cell 4; obtain ⟨r0, r1⟩ := HRow.out _ _ _ _ _ _ V7.out; clear kb f7 b7 b7' hs7 c0 c1 c2 c3 c4; simp only [World.size_alloc, World.size_drew, Act.put, List.setIfInBounds_toArray, List.set_cons_succ, List.set_cons_zero])
                | (go_at_call 20; refine (hde.out _ _ _ V7.out).mono ?_; rintro e w8 ⟨rfl, hw⟩; subst hw; clear hde)
                | (go_at_call 21; refine (hfa.out _ _ _ V7.out).mono ?_; rintro e w9 ⟨rfl, v9⟩; have V9 := hid v9; clear hfa v9 k0 k1 k2 k3 k4 r0 r1 V7)
                | (go_at_call 18; refine (hfl.out _ _ _ V9.out).mono ?_; rintro e w10 ⟨rfl, Ms2, a2, v2⟩; have Vt := hid v2; have AT := hid (AllOk.mono a2 (show 1000 + 1000 * i + 12 ≤ 1000 + 1000 * i + 500 by omega)); clear hfl a2 v2 V9))
              generalize wr.heap.size = sb at *
              clear V AO WT O NO HMs GM hz AF hxor
              as_aux_lemma =>
                go_loopw [19] (fun qv wq => ∃ q : Nat, q ≤ t ∧ qv = .int .i64 (q : Int) ∧ Hid (VA w [] wq (Res.blk sb (stc8 s) :: Res.blk nb ((vnow n t Ns).map .string) :: l0) X Ms2 wt)) (fun qv _ => t - (intOf qv).toNat)
                case atStart => exact ⟨0, by omega, rfl, Vt⟩
                case round =>
                  obtain ⟨q, hq, rfl, VQ⟩ := hrel
                  clear Vt
                  by_cases hqt : q < t
                  · have b1 : decide ((q : Int) < (t : Int)) = true := by simp; omega
                    have b1n : decide (q < t) = true := by simp; omega
                    have hr := hid (vread_snd VQ.out OT.out NT.out ET.out AT.out NOT.out (by have := HI50.out; omega) HTT.out hqt)
                    have hcell : Hid (∀ w1 : World, VA w [] w1 (Res.blk sb (stc8 s) :: Res.blk nb ((vnow n t Ns).map .string) :: l0) X Ms2 wt → w1.cell? ⟨nb, q, none⟩ = some (.string (vnowAt n Ns q))) := hid fun w1 h => by
                      have := (h.held.blkAt 1 rfl).cell q
                      rw [List.getElem?_map, vnow_get hqt] at this
                      exact this
                    generalize vnowAt n Ns q = Sq at *
                    have hq12 : (q : Int) ≤ 12 := by omega
                    go_wp2_with (go_at_call 14; refine hr.out.mono ?_; rintro e w10 ⟨rfl, v10⟩; have V10 := hid v10; have kq10 := hcell.out _ v10; clear v10 hr)
                    go_roundw
                    case rel => exact ⟨q + 1, by omega, by go_num, V10⟩
                    case measure => simp [intOf]; omega
                  · obtain rfl : q = t := by omega
                    have b1 : decide ((q : Int) < (q : Int)) = false := by simp
                    clear hqt hq
                    go_wp2_with fail
                    go_roundw
                    case rel => exact ⟨i + 1, X, Ns, Ms2, wt, by have := HI50.out; omega, by have := HI50.out; omega, by go_num, rfl, OT, NT, DT, ET, NOT, hid (AllOk.mono AT.out (by omega)), hid (by have := WTt.out; omega), hid VQ.out.less⟩
                    case measure => simp [intOf]; omega
          · have u5 : (s.Do == 5) = false := by simpa using h5
            clear h5
            by_cases h6 : s.Do = 6
            · have u6 : (s.Do == 6) = true := by simpa using h6
              clear h6
              have hde := hid fun (w1 : World) (r1 r2 : Res) (h : VA w [] w1 (r1 :: r2 :: l0) X Ms wt) => vdead_at h HMs.out hdX.out GM.out.ok bb
              cases hz : (M.s.X bb).Dead with
              | true =>
                rw [hz] at hde
                have hrp := hid fun (w1 : World) (r1 r2 : Res) (h : VA w [] w1 (r1 :: r2 :: l0) X Ms wt) => vrepl_at h HMs.out hdX.out GM.out.ok bb
                have AF := hid (AllR.rp (AllOk.r AO.out) HMs.out bb)
                generalize Ms.set p { M with s := M.s.rp bb } = Ms1 at *
                have hrs := hid fun (w1 : World) (r1 r2 : Res) (h : VA w [] w1 (r1 :: r2 :: l0) X Ms1 wt) => vresync_snd h O.out AF.out NO.out (by have := HI50.out; omega)
                have OT := O
                have NT := X1
                have DT := X2
                have ET := X3
                have NOT := NO
                have WTt : Hid (0 ≤ wt ∧ wt ≤ (i : Int) + 1) := hid (by have := WT.out; omega)
                go_wp2_with (first
                  | (refine wpList_store_ag rfl _ _ _ rfl rfl (stc8 s) rfl (Blk.alloc wr [.int .i64 0, .int .i64 0, .int .i64 0, .int .u8 0, .slice none 0 0] _) stepT8 rfl (by simp) Hone.out ?_; intro w7 f7 b7 hs7; have b7' : Blk w7 wr.heap.size (stc8 s) := b7; have V7 := hid (V.out.new (((Fr.refl [] wr).alloc _).trans f7 (fun x hx => .inr (by simp at hx; omega))) (Res.On.blk b7') (fun b hb => by simp [Res.blk] at hb; omega)); have kb := V7.out.held.blkAt 0 rfl; have k0 : w7.cell? ⟨wr.heap.size, 0, none⟩ = some (.int .i64 s.Do) := kb.cell 0; have k1 : w7.cell? ⟨wr.heap.size, 1, none⟩ = some (.int .i64 s.I) := kb.cell 1; have k2 : w7.cell? ⟨wr.heap.size, 2, none⟩ = some (.int .i64 s.D) := kb.cell 2; have k3 : w7.cell? ⟨wr.heap.size, 3, none⟩ = some (bt s.C) := kb.cell 3; have k4 : w7.cell? ⟨wr.heap.size, 4, none⟩ = some s.Keep := kb.cell 4; obtain ⟨r0, r1⟩ := HRow.out _ _ _ _ _ _ V7.out; clear kb f7 b7 b7' hs7 c0 c1 c2 c3 c4; simp only [World.size_alloc, World.size_drew, Act.put, List.setIfInBounds_toArray, List.set_cons_succ, List.set_cons_zero])
                  | (go_at_call 20; refine (hde.out _ _ _ V7.out).mono ?_; rintro e w8 ⟨rfl, hw⟩; subst hw; clear hde)
                  | (go_at_call 22; refine (hrp.out _ _ _ V7.out).mono ?_; rintro e w9 ⟨cr, rfl, v9⟩; have V9 := hid v9; clear hrp v9 k0 k1 k2 k3 k4 r0 r1 V7)
                  | (go_at_call 16; refine (hrs.out _ _ _ V9.out).mono ?_; rintro e w10 ⟨kr, rfl, Ms2, a2, v2⟩; have Vt := hid v2; have AT := hid (AllOk.mono a2 (show 1000 + 1000 * i + 18 ≤ 1000 + 1000 * i + 500 by omega)); clear hrs a2 v2 V9))
                generalize wr.heap.size = sb at *
                clear V AO WT O NO HMs GM hz AF hxor
                as_aux_lemma =>
                  go_loopw [19] (fun qv wq => ∃ q : Nat, q ≤ t ∧ qv = .int .i64 (q : Int) ∧ Hid (VA w [] wq (Res.blk sb (stc8 s) :: Res.blk nb ((vnow n t Ns).map .string) :: l0) X Ms2 wt)) (fun qv _ => t - (intOf qv).toNat)
                  case atStart => exact ⟨0, by omega, rfl, Vt⟩
                  case round =>
                    obtain ⟨q, hq, rfl, VQ⟩ := hrel
                    clear Vt
                    by_cases hqt : q < t
                    · have b1 : decide ((q : Int) < (t : Int)) = true := by simp; omega
                      have b1n : decide (q < t) = true := by simp; omega
                      have hr := hid (vread_snd VQ.out OT.out NT.out ET.out AT.out NOT.out (by have := HI50.out; omega) HTT.out hqt)
                      have hcell : Hid (∀ w1 : World, VA w [] w1 (Res.blk sb (stc8 s) :: Res.blk nb ((vnow n t Ns).map .string) :: l0) X Ms2 wt → w1.cell? ⟨nb, q, none⟩ = some (.string (vnowAt n Ns q))) := hid fun w1 h => by
                        have := (h.held.blkAt 1 rfl).cell q
                        rw [List.getElem?_map, vnow_get hqt] at this
                        exact this
                      generalize vnowAt n Ns q = Sq at *
                      have hq12 : (q : Int) ≤ 12 := by omega
                      go_wp2_with (go_at_call 14; refine hr.out.mono ?_; rintro e w10 ⟨rfl, v10⟩; have V10 := hid v10; have kq10 := hcell.out _ v10; clear v10 hr)
                      go_roundw
                      case rel => exact ⟨q + 1, by omega, by go_num, V10⟩
                      case measure => simp [intOf]; omega
                    · obtain rfl : q = t := by omega
                      have b1 : decide ((q : Int) < (q : Int)) = false := by simp
                      clear hqt hq
                      go_wp2_with fail
                      go_roundw
                      case rel => exact ⟨i + 1, X, Ns, Ms2, wt, by have := HI50.out; omega, by have := HI50.out; omega, by go_num, rfl, OT, NT, DT, ET, NOT, hid (AllOk.mono AT.out (by omega)), hid (by have := WTt.out; omega), hid VQ.out.less⟩
                      case measure => simp [intOf]; omega
              | false =>
                rw [hz] at hde
                have hrs := hid fun (w1 : World) (r1 r2 : Res) (h : VA w [] w1 (r1 :: r2 :: l0) X Ms wt) => vresync_snd h O.out (AllOk.r AO.out) NO.out (by have := HI50.out; omega)
                have OT := O
                have NT := X1
                have DT := X2
                have ET := X3
                have NOT := NO
                have WTt : Hid (0 ≤ wt ∧ wt ≤ (i : Int) + 1) := hid (by have := WT.out; omega)
                go_wp2_with (first
                  | (refine wpList_store_ag rfl _ _ _ rfl rfl (stc8 s) rfl (Blk.alloc wr [.int .i64 0, .int .i64 0, .int .i64 0, .int .u8 0, .slice none 0 0] _) stepT8 rfl (by simp) Hone.out ?_; intro w7 f7 b7 hs7; have b7' : Blk w7 wr.heap.size (stc8 s) := b7; have V7 := hid (V.out.new (((Fr.refl [] wr).alloc _).trans f7 (fun x hx => .inr (by simp at hx; omega))) (Res.On.blk b7') (fun b hb => by simp [Res.blk] at hb; omega)); have kb := V7.out.held.blkAt 0 rfl; have k0 : w7.cell? ⟨wr.heap.size, 0, none⟩ = some (.int .i64 s.Do) := kb.cell 0; have k1 : w7.cell? ⟨wr.heap.size, 1, none⟩ = some (.int .i64 s.I) := kb.cell 1; have k2 : w7.cell? ⟨wr.heap.size, 2, none⟩ = some (.int .i64 s.D) := kb.cell 2; have k3 : w7.cell? ⟨wr.heap.size, 3, none⟩ = some (bt s.C) := kb.cell 3; have k4 : w7.cell? ⟨wr.heap.size, 4, none⟩ = some s.Keep := kb.cell 4; obtain ⟨r0, r1⟩ := HRow.out _ _ _ _ _ _ V7.out; clear kb f7 b7 b7' hs7 c0 c1 c2 c3 c4; simp only [World.size_alloc, World.size_drew, Act.put, List.setIfInBounds_toArray, List.set_cons_succ, List.set_cons_zero])
                  | (go_at_call 20; refine (hde.out _ _ _ V7.out).mono ?_; rintro e w8 ⟨rfl, hw⟩; subst hw; clear hde)
                  | (go_at_call 16; refine (hrs.out _ _ _ V7.out).mono ?_; rintro e w10 ⟨kr, rfl, Ms2, a2, v2⟩; have Vt := hid v2; have AT := hid (AllOk.mono a2 (show 1000 + 1000 * i + 18 ≤ 1000 + 1000 * i + 500 by omega)); clear hrs a2 v2 V7 k0 k1 k2 k3 k4 r0 r1))
                generalize wr.heap.size = sb at *
                clear V AO WT O NO HMs GM hz hxor
                as_aux_lemma =>
                  go_loopw [19] (fun qv wq => ∃ q : Nat, q ≤ t ∧ qv = .int .i64 (q : Int) ∧ Hid (VA w [] wq (Res.blk sb (stc8 s) :: Res.blk nb ((vnow n t Ns).map .string) :: l0) X Ms2 wt)) (fun qv _ => t - (intOf qv).toNat)
                  case atStart => exact ⟨0, by omega, rfl, Vt⟩
                  case round =>
                    obtain ⟨q, hq, rfl, VQ⟩ := hrel
                    clear Vt
                    by_cases hqt : q < t
                    · have b1 : decide ((q : Int) < (t : Int)) = true := by simp; omega
                      have b1n : decide (q < t) = true := by simp; omega
                      have hr := hid (vread_snd VQ.out OT.out NT.out ET.out AT.out NOT.out (by have := HI50.out; omega) HTT.out hqt)
                      have hcell : Hid (∀ w1 : World, VA w [] w1 (Res.blk sb (stc8 s) :: Res.blk nb ((vnow n t Ns).map .string) :: l0) X Ms2 wt → w1.cell? ⟨nb, q, none⟩ = some (.string (vnowAt n Ns q))) := hid fun w1 h => by
                        have := (h.held.blkAt 1 rfl).cell q
                        rw [List.getElem?_map, vnow_get hqt] at this
                        exact this
                      generalize vnowAt n Ns q = Sq at *
                      have hq12 : (q : Int) ≤ 12 := by omega
                      go_wp2_with (go_at_call 14; refine hr.out.mono ?_; rintro e w10 ⟨rfl, v10⟩; have V10 := hid v10; have kq10 := hcell.out _ v10; clear v10 hr)
                      go_roundw
                      case rel => exact ⟨q + 1, by omega, by go_num, V10⟩
                      case measure => simp [intOf]; omega
                    · obtain rfl : q = t := by omega
                      have b1 : decide ((q : Int) < (q : Int)) = false := by simp
                      clear hqt hq
                      go_wp2_with fail
                      go_roundw
                      case rel => exact ⟨i + 1, X, Ns, Ms2, wt, by have := HI50.out; omega, by have := HI50.out; omega, by go_num, rfl, OT, NT, DT, ET, NOT, hid (AllOk.mono AT.out (by omega)), hid (by have := WTt.out; omega), hid VQ.out.less⟩
                      case measure => simp [intOf]; omega
            · have u6 : (s.Do == 6) = false := by simpa using h6
              clear h6
              by_cases h4 : s.Do = 4
              · have u4 : (s.Do == 4) = true := by simpa using h4
                clear h4
                have hde := hid fun (w1 : World) (r1 r2 : Res) (h : VA w [] w1 (r1 :: r2 :: l0) X Ms wt) => vdead_at h HMs.out hdX.out GM.out.ok bb
                cases hz : (M.s.X bb).Dead with
                | true =>
                  rw [hz] at hde
                  have hrp := hid fun (w1 : World) (r1 r2 : Res) (h : VA w [] w1 (r1 :: r2 :: l0) X Ms wt) => vrepl_at h HMs.out hdX.out GM.out.ok bb
                  have AF := hid (AllR.rp (AllOk.r AO.out) HMs.out bb)
                  generalize Ms.set p { M with s := M.s.rp bb } = Ms1 at *
                  have hrs := hid fun (w1 : World) (r1 r2 : Res) (h : VA w [] w1 (r1 :: r2 :: l0) X Ms1 wt) => vresync_snd h O.out AF.out NO.out (by have := HI50.out; omega)
                  have OT := O
                  have NT := X1
                  have DT := X2
                  have ET := X3
                  have NOT := NO
                  have WTt : Hid (0 ≤ wt ∧ wt ≤ (i : Int) + 1) := hid (by have := WT.out; omega)
                  go_wp2_with (first
                    | (refine wpList_store_ag rfl _ _ _ rfl rfl (stc8 s) rfl (Blk.alloc wr [.int .i64 0, .int .i64 0, .int .i64 0, .int .u8 0, .slice none 0 0] _) stepT8 rfl (by simp) Hone.out ?_; intro w7 f7 b7 hs7; have b7' : Blk w7 wr.heap.size (stc8 s) := b7; have V7 := hid (V.out.new (((Fr.refl [] wr).alloc _).trans f7 (fun x hx => .inr (by simp at hx; omega))) (Res.On.blk b7') (fun b hb => by simp [Res.blk] at hb; omega)); have kb := V7.out.held.blkAt 0 rfl; have k0 : w7.cell? ⟨wr.heap.size, 0, none⟩ = some (.int .i64 s.Do) := kb.cell 0; have k1 : w7.cell? ⟨wr.heap.size, 1, none⟩ = some (.int .i64 s.I) := kb.cell 1; have k2 : w7.cell? ⟨wr.heap.size, 2, none⟩ = some (.int .i64 s.D) := kb.cell 2; have k3 : w7.cell? ⟨wr.heap.size, 3, none⟩ = some (bt s.C) := kb.cell 3; have k4 : w7.cell? ⟨wr.heap.size, 4, none⟩ = some s.Keep := kb.cell 4; obtain ⟨r0, r1⟩ := HRow.out _ _ _ _ _ _ V7.out; clear kb f7 b7 b7' hs7 c0 c1 c2 c3 c4; simp only [World.size_alloc, World.size_drew, Act.put, List.setIfInBounds_toArray, List.set_cons_succ, List.set_cons_zero])
                    | (go_at_call 20; refine (hde.out _ _ _ V7.out).mono ?_; rintro e w8 ⟨rfl, hw⟩; subst hw; clear hde)
                    | (go_at_call 22; refine (hrp.out _ _ _ V7.out).mono ?_; rintro e w9 ⟨cr, rfl, v9⟩; have V9 := hid v9; clear hrp v9 k0 k1 k2 k3 k4 r0 r1 V7)
                    | (go_at_call 16; refine (hrs.out _ _ _ V9.out).mono ?_; rintro e w10 ⟨kr, rfl, Ms2, a2, v2⟩; have Vt := hid v2; have AT := hid (AllOk.mono a2 (show 1000 + 1000 * i + 18 ≤ 1000 + 1000 * i + 500 by omega)); clear hrs a2 v2 V9))
                  generalize wr.heap.size = sb at *
                  clear V AO WT O NO HMs GM hz AF hxor
                  as_aux_lemma =>
                    go_loopw [19] (fun qv wq => ∃ q : Nat, q ≤ t ∧ qv = .int .i64 (q : Int) ∧ Hid (VA w [] wq (Res.blk sb (stc8 s) :: Res.blk nb ((vnow n t Ns).map .string) :: l0) X Ms2 wt)) (fun qv _ => t - (intOf qv).toNat)
                    case atStart => exact ⟨0, by omega, rfl, Vt⟩
                    case round =>
                      obtain ⟨q, hq, rfl, VQ⟩ := hrel
                      clear Vt
                      by_cases hqt : q < t
                      · have b1 : decide ((q : Int) < (t : Int)) = true := by simp; omega
                        have b1n : decide (q < t) = true := by simp; omega
                        have hr := hid (vread_snd VQ.out OT.out NT.out ET.out AT.out NOT.out (by have := HI50.out; omega) HTT.out hqt)
                        have hcell : Hid (∀ w1 : World, VA w [] w1 (Res.blk sb (stc8 s) :: Res.blk nb ((vnow n t Ns).map .string) :: l0) X Ms2 wt → w1.cell? ⟨nb, q, none⟩ = some (.string (vnowAt n Ns q))) := hid fun w1 h => by
                          have := (h.held.blkAt 1 rfl).cell q
                          rw [List.getElem?_map, vnow_get hqt] at this
                          exact this
                        generalize vnowAt n Ns q = Sq at *
                        have hq12 : (q : Int) ≤ 12 := by omega
                        go_wp2_with (go_at_call 14; refine hr.out.mono ?_; rintro e w10 ⟨rfl, v10⟩; have V10 := hid v10; have kq10 := hcell.out _ v10; clear v10 hr)
                        go_roundw
                        case rel => exact ⟨q + 1, by omega, by go_num, V10⟩
                        case measure => simp [intOf]; omega
                      · obtain rfl : q = t := by omega
                        have b1 : decide ((q : Int) < (q : Int)) = false := by simp
                        clear hqt hq
                        go_wp2_with fail
                        go_roundw
                        case rel => exact ⟨i + 1, X, Ns, Ms2, wt, by have := HI50.out; omega, by have := HI50.out; omega, by go_num, rfl, OT, NT, DT, ET, NOT, hid (AllOk.mono AT.out (by omega)), hid (by have := WTt.out; omega), hid VQ.out.less⟩
                        case measure => simp [intOf]; omega
                | false =>
                  rw [hz] at hde
                  have hrs := hid fun (w1 : World) (r1 r2 : Res) (h : VA w [] w1 (r1 :: r2 :: l0) X Ms wt) => vresync_snd h O.out (AllOk.r AO.out) NO.out (by have := HI50.out; omega)
                  have OT := O
                  have NT := X1
                  have DT := X2
                  have ET := X3
                  have NOT := NO
                  have WTt : Hid (0 ≤ wt ∧ wt ≤ (i : Int) + 1) := hid (by have := WT.out; omega)
                  go_wp2_with (first
                    | (refine wpList_store_ag rfl _ _ _ rfl rfl (stc8 s) rfl (Blk.alloc wr [.int .i64 0, .int .i64 0, .int .i64 0, .int .u8 0, .slice none 0 0] _) stepT8 rfl (by simp) Hone.out ?_; intro w7 f7 b7 hs7; have b7' : Blk w7 wr.heap.size (stc8 s) := b7; have V7 := hid (V.out.new (((Fr.refl [] wr).alloc _).trans f7 (fun x hx => .inr (by simp at hx; omega))) (Res.On.blk b7') (fun b hb => by simp [Res.blk] at hb; omega)); have kb := V7.out.held.blkAt 0 rfl; have k0 : w7.cell? ⟨wr.heap.size, 0, none⟩ = some (.int .i64 s.Do) := kb.cell 0; have k1 : w7.cell? ⟨wr.heap.size, 1, none⟩ = some (.int .i64 s.I) := kb.cell 1; have k2 : w7.cell? ⟨wr.heap.size, 2, none⟩ = some (.int .i64 s.D) := kb.cell 2; have k3 : w7.cell? ⟨wr.heap.size, 3, none⟩ = some (bt s.C) := kb.cell 3; have k4 : w7.cell? ⟨wr.heap.size, 4, none⟩ = some s.Keep := kb.cell 4; obtain ⟨r0, r1⟩ := HRow.out _ _ _ _ _ _ V7.out; clear kb f7 b7 b7' hs7 c0 c1 c2 c3 c4; simp only [World.size_alloc, World.size_drew, Act.put, List.setIfInBounds_toArray, List.set_cons_succ, List.set_cons_zero])
                    | (go_at_call 20; refine (hde.out _ _ _ V7.out).mono ?_; rintro e w8 ⟨rfl, hw⟩; subst hw; clear hde)
                    | (go_at_call 16; refine (hrs.out _ _ _ V7.out).mono ?_; rintro e w10 ⟨kr, rfl, Ms2, a2, v2⟩; have Vt := hid v2; have AT := hid (AllOk.mono a2 (show 1000 + 1000 * i + 18 ≤ 1000 + 1000 * i + 500 by omega)); clear hrs a2 v2 V7 k0 k1 k2 k3 k4 r0 r1))
                  generalize wr.heap.size = sb at *
                  clear V AO WT O NO HMs GM hz hxor
                  as_aux_lemma =>
                    go_loopw [19] (fun qv wq => ∃ q : Nat, q ≤ t ∧ qv = .int .i64 (q : Int) ∧ Hid (VA w [] wq (Res.blk sb (stc8 s) :: Res.blk nb ((vnow n t Ns).map .string) :: l0) X Ms2 wt)) (fun qv _ => t - (intOf qv).toNat)
                    case atStart => exact ⟨0, by omega, rfl, Vt⟩
                    case round =>
                      obtain ⟨q, hq, rfl, VQ⟩ := hrel
                      clear Vt
                      by_cases hqt : q < t
                      · have b1 : decide ((q : Int) < (t : Int)) = true := by simp; omega
                        have b1n : decide (q < t) = true := by simp; omega
                        have hr := hid (vread_snd VQ.out OT.out NT.out ET.out AT.out NOT.out (by have := HI50.out; omega) HTT.out hqt)
                        have hcell : Hid (∀ w1 : World, VA w [] w1 (Res.blk sb (stc8 s) :: Res.blk nb ((vnow n t Ns).map .string) :: l0) X Ms2 wt → w1.cell? ⟨nb, q, none⟩ = some (.string (vnowAt n Ns q))) := hid fun w1 h => by
                          have := (h.held.blkAt 1 rfl).cell q
                          rw [List.getElem?_map, vnow_get hqt] at this
                          exact this
                        generalize vnowAt n Ns q = Sq at *
                        have hq12 : (q : Int) ≤ 12 := by omega
                        go_wp2_with (go_at_call 14; refine hr.out.mono ?_; rintro e w10 ⟨rfl, v10⟩; have V10 := hid v10; have kq10 := hcell.out _ v10; clear v10 hr)
                        go_roundw
                        case rel => exact ⟨q + 1, by omega, by go_num, V10⟩
                        case measure => simp [intOf]; omega
                      · obtain rfl : q = t := by omega
                        have b1 : decide ((q : Int) < (q : Int)) = false := by simp
                        clear hqt hq
                        go_wp2_with fail
                        go_roundw
                        case rel => exact ⟨i + 1, X, Ns, Ms2, wt, by have := HI50.out; omega, by have := HI50.out; omega, by go_num, rfl, OT, NT, DT, ET, NOT, hid (AllOk.mono AT.out (by omega)), hid (by have := WTt.out; omega), hid VQ.out.less⟩
                        case measure => simp [intOf]; omega
              · have u4 : (s.Do == 4) = false := by simpa using h4
                clear h4
                by_cases h7 : s.Do = 7
                · have u7 : (s.Do == 7) = true := by simpa using h7
                  clear h7
                  have HRowJ : Hid (∀ (w1 : World) (r1 r2 : Res) (X1 : VX) (Ms1 : List MS) (wt1 : Int), VA w [] w1 (r1 :: r2 :: l0) X1 Ms1 wt1 → ∀ (q : Nat) (e : Bool → Nat) (b : Bool), D0[q]? = some e → q < n → w1.cell? ⟨B, 2 * q + b.toNat, none⟩ = some (.pointer (some ⟨e b, 0, none⟩))) := hid fun w1 r1 r2 X1 Ms1 wt1 h q e b hq hqn => by
                    rw [HL0.out] at h
                    exact rowD_cell (h.held.ownAt 2 rfl) (by have := HN1.out; omega) hq b hqn
                  go_wp2_with (first
                    | (refine wpList_store_ag rfl _ _ _ rfl rfl (stc8 s) rfl (Blk.alloc wr [.int .i64 0, .int .i64 0, .int .i64 0, .int .u8 0, .slice none 0 0] _) stepT8 rfl (by simp) Hone.out ?_; intro w7 f7 b7 hs7; have b7' : Blk w7 wr.heap.size (stc8 s) := b7; have V7 := hid (V.out.new (((Fr.refl [] wr).alloc _).trans f7 (fun x hx => .inr (by simp at hx; omega))) (Res.On.blk b7') (fun b hb => by simp [Res.blk] at hb; omega)); have kb := V7.out.held.blkAt 0 rfl; have k0 : w7.cell? ⟨wr.heap.size, 0, none⟩ = some (.int .i64 s.Do) := kb.cell 0; have k1 : w7.cell? ⟨wr.heap.size, 1, none⟩ = some (.int .i64 s.I) := kb.cell 1; have k2 : w7.cell? ⟨wr.heap.size, 2, none⟩ = some (.int .i64 s.D) := kb.cell 2; have k3 : w7.cell? ⟨wr.heap.size, 3, none⟩ = some (bt s.C) := kb.cell 3; have k4 : w7.cell? ⟨wr.heap.size, 4, none⟩ = some s.Keep := kb.cell 4; obtain ⟨r0, r1⟩ := HRow.out _ _ _ _ _ _ V7.out; clear kb f7 b7 b7' hs7 c0 c1 c2 c3 c4; simp only [World.size_alloc, World.size_drew, Act.put, List.setIfInBounds_toArray, List.set_cons_succ, List.set_cons_zero])
                    | fail)
                  generalize wr.heap.size = sb at *
                  clear k0 k1 k2 k3 k4 r0 r1 HRow
                  go_loopw [17] (fun jv wj => ∃ j : Nat, j ≤ K ∧ jv = .int .i64 (j : Int) ∧ Hid (VA w [] wj (Res.blk sb (stc8 s) :: Res.blk nb ((vnow n t Ns).map .string) :: l0) X Ms wt)) (fun jv _ => K - (intOf jv).toNat)
                  case atStart => exact ⟨0, by omega, rfl, V7⟩
                  case round =>
                    obtain ⟨j, hj, rfl, VJ⟩ := hrel
                    clear V7
                    by_cases hjk : j < K
                    · have b1 : decide ((j : Int) < (K : Int)) = true := by simp; omega
                      have b1n : decide (j < K) = true := by simp; omega
                      have hj8 : (j : Int) ≤ 8 := by omega
                      obtain ⟨p2, b2, hp2, hj2⟩ := half j n (by rw [HKK.out]; exact hjk)
                      obtain ⟨d2, hd2⟩ : ∃ d, D0[p2]? = some d := ⟨_, List.getElem?_eq_getElem (by rw [HDl.out]; exact hp2)⟩
                      obtain ⟨M2, hM2⟩ : ∃ M, Ms[p2]? = some M := ⟨_, List.getElem?_eq_getElem (by rw [V.out.len.1, X1.out]; exact hp2)⟩
                      have G2 := AO.out p2 M2 hM2
                      have VD := hid (VJ.out.step ((Fr.refl [] _).drew))
                      have hcr := hid (vcrash_at VD.out hM2 (by rw [X2.out]; exact hd2) G2.ok G2.snd (by have := G2.T; have := HI50.out; omega) b2 Hst.out.k Hst.out.kl)
                      have hrow := HRowJ.out _ _ _ _ _ _ VD.out p2 d2 b2 hd2 hp2
                      rw [← hj2] at hrow
                      have hkp : (World.drew _).cell? ⟨sb, 4, none⟩ = some s.Keep := (VD.out.held.blkAt 0 rfl).cell 4
                      have hSS := And.intro hrow hkp
                      clear hrow hkp hd2 hM2 hp2 hj2 G2
                      go_wp2_with fail
                      refine wp_region_D (fun w' => w'.cell? ⟨B, j, none⟩ = some (.pointer (some ⟨d2 b2, 0, none⟩)) ∧ w'.cell? ⟨sb, 4, none⟩ = some s.Keep) true [] (by kernel_rfl) ?_
                      refine WD.pure [0, 1, 2, 3, 4, 5] (by kernel_rfl) hSS ?_
                      simp only [pick, List.toList_toArray, List.map_cons, List.map_nil, List.getD_cons_succ, List.getD_cons_zero]
                      repeat (first | (refine quiet_load_1R (by rfl) _ _ rfl rfl (.pointer (some ⟨d2 b2, 0, none⟩)) (fun w0 h => h.1) _ Try.underlying37 rfl ?_; simp only [World.size_alloc, World.size_drew, Act.put, List.setIfInBounds_toArray, List.set_cons_succ, List.set_cons_zero]) | (refine quiet_load_1R (by rfl) _ _ rfl rfl s.Keep (fun w0 h => h.2) _ Try.underlying50 rfl ?_; simp only [World.size_alloc, World.size_drew, Act.put, List.setIfInBounds_toArray, List.set_cons_succ, List.set_cons_zero]) | go_big_quiet_step (fail))
                      refine wpQuiet_nil ?_
                      refine WD.eff 6 (by kernel_rfl) ?_
                      simp only [pick, List.toList_toArray, List.map_cons, List.map_nil, List.getD_cons_succ, List.getD_cons_zero]
                      go_wp2_with (go_at_call 23; refine hcr.out.mono ?_; rintro e w10 ⟨c, rfl, v10⟩; have V10 := hid v10; clear v10 hcr)
                      try refine wpList_nil ?_
                      refine AfterD.end rfl (by kernel_rfl) ?_
                      try simp only [World.size_alloc, World.size_drew, Act.put, List.setIfInBounds_toArray, List.set_cons_succ, List.set_cons_zero]
                      refine WD.done (by kernel_rfl) ?_
                      go_wp2_with fail
                      go_roundw
                      case rel => exact ⟨j + 1, by omega, by go_num, V10⟩
                      case measure => simp [intOf]; omega
                    · obtain rfl : j = K := by omega
                      have b1 : decide ((j : Int) < (j : Int)) = false := by simp
                      clear hjk hj
                      have hop := hid fun (w1 : World) (h : VA w [] w1 (Res.blk sb (stc8 s) :: Res.blk nb ((vnow n t Ns).map .string) :: l0) X Ms wt) => vopen_any (i0 := 2) (v := .slice (some ⟨B, 0, none⟩) j cd) (B := B) h O.out AO.out NO.out X2.out X1.out (by rw [HL0.out, ← HKK.out]; rfl)
                      go_wp2_with (go_at_call 24; refine (hop.out _ VJ.out).mono ?_; rintro e w10 ⟨X', rfl, o', y1, y2, y3, vt⟩; have Vt := hid vt; have OT := hid o'; have NT := hid y1; have DT := hid y2; have ET := hid y3; clear hop vt o' y1 y2 y3)
                      have NOT := NO
                      have AT := hid (AllOk.mono AO.out (show 1000 + 1000 * i ≤ 1000 + 1000 * i + 500 by omega))
                      have WTt : Hid (0 ≤ (0 : Int) ∧ (0 : Int) ≤ (i : Int) + 1) := hid (by omega)
                      clear V AO WT O NO HMs GM hxor VJ HRowJ
                      as_aux_lemma =>
                        go_loopw [19] (fun qv wq => ∃ q : Nat, q ≤ t ∧ qv = .int .i64 (q : Int) ∧ Hid (VA w [] wq (Res.blk sb (stc8 s) :: Res.blk nb ((vnow n t Ns).map .string) :: l0) X' Ms 0)) (fun qv _ => t - (intOf qv).toNat)
                        case atStart => exact ⟨0, by omega, rfl, Vt⟩
                        case round =>
                          obtain ⟨q, hq, rfl, VQ⟩ := hrel
                          clear Vt
                          by_cases hqt : q < t
                          · have b1 : decide ((q : Int) < (t : Int)) = true := by simp; omega
                            have b1n : decide (q < t) = true := by simp; omega
                            have hr := hid (vread_snd VQ.out OT.out NT.out ET.out AT.out NOT.out (by have := HI50.out; omega) HTT.out hqt)
                            have hcell : Hid (∀ w1 : World, VA w [] w1 (Res.blk sb (stc8 s) :: Res.blk nb ((vnow n t Ns).map .string) :: l0) X' Ms 0 → w1.cell? ⟨nb, q, none⟩ = some (.string (vnowAt n Ns q))) := hid fun w1 h => by
                              have := (h.held.blkAt 1 rfl).cell q
                              rw [List.getElem?_map, vnow_get hqt] at this
                              exact this
                            generalize vnowAt n Ns q = Sq at *
                            have hq12 : (q : Int) ≤ 12 := by omega
                            go_wp2_with (go_at_call 14; refine hr.out.mono ?_; rintro e w10 ⟨rfl, v10⟩; have V10 := hid v10; have kq10 := hcell.out _ v10; clear v10 hr)
                            go_roundw
                            case rel => exact ⟨q + 1, by omega, by go_num, V10⟩
                            case measure => simp [intOf]; omega
                          · obtain rfl : q = t := by omega
                            have b1 : decide ((q : Int) < (q : Int)) = false := by simp
                            clear hqt hq
                            go_wp2_with fail
                            go_roundw
                            case rel => exact ⟨i + 1, X', Ns, Ms, 0, by have := HI50.out; omega, by have := HI50.out; omega, by go_num, rfl, OT, NT, DT, ET, NOT, hid (AllOk.mono AT.out (by omega)), hid (by have := WTt.out; omega), hid VQ.out.less⟩
                            case measure => simp [intOf]; omega
                · have u7 : (s.Do == 7) = false := by simpa using h7
                  clear h7
                  obtain ⟨qi, hqi, hqie⟩ := v_and16 s.I
                  obtain ⟨ji, hji⟩ : ∃ ji, qi % t = ji := ⟨_, rfl⟩
                  have hremI := fun ty => vrem ty qi t (by omega) ht0
                  have hjt : ji < t := by rw [← hji]; exact Nat.mod_lt _ ht0
                  rw [hji] at hremI
                  have hj12 : (ji : Int) ≤ 12 := by omega
                  have hfi := hid fun w1 : World => fill8_any w1 s.C
                  have hSz := fill7_size s.C
                  have hlb : ji < ((vnow n t Ns).map Value.string).length := by rw [List.length_map, vnow_len]; exact hjt
                  have hset := vnow_set NO.out (show 0 < n by have := HN1.out; omega) HTT.out hjt (fill7 s.C)
                  have NOT := hid (NO.out.upd (ji % n) (ji / n) hSz)
                  have hwr := hid fun (w1 : World) (r1 r2 : Res) (h : VA w [] w1 (r1 :: r2 :: l0) X Ms wt) => vwrite_snd h O.out X1.out X3.out AO.out NO.out (by have := HI50.out; omega) HTT.out hjt hSz WT.out.1 (by have := WT.out; have := HI50.out; omega)
                  have hfl := hid fun (w1 : World) (r1 r2 : Res) (Ms1 : List MS) (wt1 : Int) (h : VA w [] w1 (r1 :: r2 :: l0) X Ms1 wt1) (hA : AllF (1000 + 1000 * i + 12) (updN Ns (ji % n) ((Ns (ji % n)).set (ji / n) (fill7 s.C))) Ms1) => vflush_snd h O.out hA (by have := HI50.out; omega)
                  generalize updN Ns (ji % n) ((Ns (ji % n)).set (ji / n) (fill7 s.C)) = Ns2 at *
                  generalize fill7 s.C = Sf at *
                  have hput : Hid (∀ (w1 w2 : World) (r1 : Res), VA w [] w1 (r1 :: Res.blk nb ((vnow n t Ns).map .string) :: l0) X Ms wt → Fr [nb] w1 w2 → Blk w2 nb (((vnow n t Ns).map .string).set ji (.string Sf)) → VA w [] w2 (r1 :: Res.blk nb ((vnow n t Ns2).map .string) :: l0) X Ms wt) := hid fun w1 w2 r1 h f2 hb => by
                    have := h.ctx 1 rfl f2 (fun b hb => .inl hb) (Res.On.blk hb) (fun b hb => .inl hb)
                    rw [← List.map_set, hset] at this
                    exact this
                  have hcell : Hid (∀ w1 : World, Blk w1 nb (((vnow n t Ns).map .string).set ji (.string Sf)) → w1.cell? ⟨nb, ji, none⟩ = some (.string Sf)) := hid fun w1 hb => by
                    have := hb.cell ji
                    rw [List.getElem?_set_self hlb] at this
                    exact this
                  have OT := O
                  have NT := X1
                  have DT := X2
                  have ET := X3
                  have WTt : Hid (0 ≤ wt + 1 ∧ wt + 1 ≤ (i : Int) + 1) := hid (by have := WT.out; omega)
                  obtain ⟨wt1, hwt1⟩ : ∃ x, wt + 1 = x := ⟨_, rfl⟩
                  rw [hwt1] at hwr WTt
                  clear hji hqi hset hSz hwt1
                  go_wp2_with (first
                    | (refine wpList_store_ag rfl _ _ _ rfl rfl (stc8 s) rfl (Blk.alloc wr [.int .i64 0, .int .i64 0, .int .i64 0, .int .u8 0, .slice none 0 0] _) stepT8 rfl (by simp) Hone.out ?_; intro w7 f7 b7 hs7; have b7' : Blk w7 wr.heap.size (stc8 s) := b7; have V7 := hid (V.out.new (((Fr.refl [] wr).alloc _).trans f7 (fun x hx => .inr (by simp at hx; omega))) (Res.On.blk b7') (fun b hb => by simp [Res.blk] at hb; omega)); have kb := V7.out.held.blkAt 0 rfl; have k0 : w7.cell? ⟨wr.heap.size, 0, none⟩ = some (.int .i64 s.Do) := kb.cell 0; have k1 : w7.cell? ⟨wr.heap.size, 1, none⟩ = some (.int .i64 s.I) := kb.cell 1; have k2 : w7.cell? ⟨wr.heap.size, 2, none⟩ = some (.int .i64 s.D) := kb.cell 2; have k3 : w7.cell? ⟨wr.heap.size, 3, none⟩ = some (bt s.C) := kb.cell 3; have k4 : w7.cell? ⟨wr.heap.size, 4, none⟩ = some s.Keep := kb.cell 4; obtain ⟨r0, r1⟩ := HRow.out _ _ _ _ _ _ V7.out; clear kb f7 b7 b7' hs7 c0 c1 c2 c3 c4; simp only [World.size_alloc, World.size_drew, Act.put, List.setIfInBounds_toArray, List.set_cons_succ, List.set_cons_zero])
                    | (go_at_call 25; refine (hfi.out _).mono ?_; rintro e w12 ⟨rfl, f12⟩; have V12 := hid (V7.out.step f12); have b12 := V12.out.held.blkAt 1 rfl; clear hfi f12 k0 k1 k2 k3 k4 r0 r1 V7)
                    | (refine wpList_put rfl _ _ _ rfl rfl (.string Sf) rfl rfl b12 hlb (by kernel_rfl) ?_; intro w13 f13 b13 hs13; have V13 := hid (hput.out _ _ _ V12.out f13 b13); have k13 := hcell.out _ b13; clear b12 b13 f13 hs13 V12; simp only [World.size_alloc, World.size_drew, Act.put, List.setIfInBounds_toArray, List.set_cons_succ, List.set_cons_zero])
                    | (go_at_call 17; refine (hwr.out _ _ _ V13.out).mono ?_; rintro e w14 ⟨rfl, Ms1, a1, v14⟩; have hf14 := hid (hfl.out _ _ _ _ _ v14 a1); clear hwr a1 v14 V13 k13 hfl)
                    | (go_at_call 18; refine hf14.out.mono ?_; rintro e w15 ⟨rfl, Ms2, a2, v2⟩; have Vt := hid v2; have AT := hid (AllOk.mono a2 (show 1000 + 1000 * i + 12 + 12 ≤ 1000 + 1000 * i + 500 by omega)); clear hf14 a2 v2))
                  generalize wr.heap.size = sb at *
                  clear V AO WT O NO HMs GM hxor
                  as_aux_lemma =>
                    go_loopw [19] (fun qv wq => ∃ q : Nat, q ≤ t ∧ qv = .int .i64 (q : Int) ∧ Hid (VA w [] wq (Res.blk sb (stc8 s) :: Res.blk nb ((vnow n t Ns2).map .string) :: l0) X Ms2 wt1)) (fun qv _ => t - (intOf qv).toNat)
                    case atStart => exact ⟨0, by omega, rfl, Vt⟩
                    case round =>
                      obtain ⟨q, hq, rfl, VQ⟩ := hrel
                      clear Vt
                      by_cases hqt : q < t
                      · have b1 : decide ((q : Int) < (t : Int)) = true := by simp; omega
                        have b1n : decide (q < t) = true := by simp; omega
                        have hr := hid (vread_snd VQ.out OT.out NT.out ET.out AT.out NOT.out (by have := HI50.out; omega) HTT.out hqt)
                        have hcell : Hid (∀ w1 : World, VA w [] w1 (Res.blk sb (stc8 s) :: Res.blk nb ((vnow n t Ns2).map .string) :: l0) X Ms2 wt1 → w1.cell? ⟨nb, q, none⟩ = some (.string (vnowAt n Ns2 q))) := hid fun w1 h => by
                          have := (h.held.blkAt 1 rfl).cell q
                          rw [List.getElem?_map, vnow_get hqt] at this
                          exact this
                        generalize vnowAt n Ns2 q = Sq at *
                        have hq12 : (q : Int) ≤ 12 := by omega
                        go_wp2_with (go_at_call 14; refine hr.out.mono ?_; rintro e w10 ⟨rfl, v10⟩; have V10 := hid v10; have kq10 := hcell.out _ v10; clear v10 hr)
                        go_roundw
                        case rel => exact ⟨q + 1, by omega, by go_num, V10⟩
                        case measure => simp [intOf]; omega
                      · obtain rfl : q = t := by omega
                        have b1 : decide ((q : Int) < (q : Int)) = false := by simp
                        clear hqt hq
                        go_wp2_with fail
                        go_roundw
                        case rel => exact ⟨i + 1, X, Ns2, Ms2, wt1, by have := HI50.out; omega, by have := HI50.out; omega, by go_num, rfl, OT, NT, DT, ET, NOT, hid (AllOk.mono AT.out (by omega)), hid (by have := WTt.out; omega), hid VQ.out.less⟩
                        case measure => simp [intOf]; omega
        · have hfr := hid V.out.fr
          clear V O X1 X2 X3 NO AO WT
          by_cases hx : i < l.length
          · have hx2 : ¬ i < 50 := fun h => hlt ⟨h, hx⟩
            have a1 : decide ((i : Int) < (l.length : Int)) = true := by simp; omega
            have a1n : decide (i < l.length) = true := by simp; omega
            have a2 : decide ((i : Int) < 50) = false := by simp; omega
            have a2n : decide (i < 50) = false := by simp; omega
            clear hlt hi hil
            go_wp2_with fail
            go_ret
            exact ⟨rfl, hfr.out⟩
          · have a1 : decide ((i : Int) < (l.length : Int)) = false := by simp; omega
            have a1n : decide (i < l.length) = false := by simp; omega
            clear hlt hi hil
            go_wp2_with fail
            go_ret
            exact ⟨rfl, hfr.out⟩
end
end Go.Proofs.Ytgafefecookgaaa
