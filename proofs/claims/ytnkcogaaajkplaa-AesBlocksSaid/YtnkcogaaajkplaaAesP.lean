/- Layer 3, the document's aes: the round keys. -/
import Derived.Test.YtnkcogaaajkplaaAesO
import Derived.Test.YtnkcogaaajkplaaSlice2
namespace Go.Xr
open Go
set_option linter.unusedVariables false
theorem times_two (p : UInt8) : times p 2 = tw p := by
  have := u8_every (fun p => times p 2 == tw p) (by decide +kernel) p
  simpa using this
/-- What is laid upon the word before the last: of the four bytes at n = 4 * i. -/
def tl4 (sub : List UInt8) (i : Nat) (A : List UInt8) : List UInt8 :=
  if i % 4 = 0 then [g8 sub (g8 A (4 * i - 4 + 1)).toNat ^^^ pwr ((i - 1) / 4), g8 sub (g8 A (4 * i - 4 + 2)).toNat, g8 sub (g8 A (4 * i - 4 + 3)).toNat, g8 sub (g8 A (4 * i - 4)).toNat]
  else [g8 A (4 * i - 4), g8 A (4 * i - 4 + 1), g8 A (4 * i - 4 + 2), g8 A (4 * i - 4 + 3)]
theorem tl4_len (sub : List UInt8) (i : Nat) (A : List UInt8) : (tl4 sub i A).length = 4 := by unfold tl4; split <;> rfl
theorem kv_tl (sub key : List UInt8) (hk : key.length = 16) (i k : Nat) (hi : 4 ≤ i) (hk4 : k < 4) :
    kv sub (4 * i + k) (KS sub key (4 * i - 16 + k)) = g8 (KS sub key (4 * i - 16 + k)) (4 * i - 16 + k) ^^^ g8 (tl4 sub i (KS sub key (4 * i - 16))) k := by
  have pre : ∀ j, j < 4 * i → g8 (KS sub key (4 * i - 16 + k)) j = g8 (KS sub key (4 * i - 16)) j := fun j hj => KS_pre sub key hk _ _ (by omega) k
  by_cases h0 : i % 4 = 0
  · obtain ⟨r, rfl⟩ : ∃ r, i = 4 * r := ⟨i / 4, by omega⟩
    unfold tl4
    rw [if_pos h0, show (4 * r - 1) / 4 = r - 1 by omega]
    by_cases hk0 : k = 0
    · subst hk0
      rw [show 4 * (4 * r) + 0 = 16 * r by omega, kv0 _ _ (by omega), pre _ (by omega), pre _ (by omega), pre _ (by omega), UInt8.xor_assoc, show 16 * (r - 1) + 0 = 4 * (4 * r) - 16 + 0 by omega, show 16 * (r - 1) + 13 = 4 * (4 * r) - 4 + 1 by omega]
      rfl
    · rw [show 4 * (4 * r) + k = 16 * r + k by omega, kv1 _ _ _ (by omega) (by omega) hk4, pre _ (by omega), pre _ (by omega), pre _ (by omega), show 16 * (r - 1) + k = 4 * (4 * r) - 16 + k by omega]
      congr 1
      have h3 : k = 1 ∨ k = 2 ∨ k = 3 := by omega
      rcases h3 with rfl | rfl | rfl
      · rw [show 16 * (r - 1) + (12 + (1 + 1) % 4) = 4 * (4 * r) - 4 + 2 by omega]; rfl
      · rw [show 16 * (r - 1) + (12 + (2 + 1) % 4) = 4 * (4 * r) - 4 + 3 by omega]; rfl
      · rw [show 16 * (r - 1) + (12 + (3 + 1) % 4) = 4 * (4 * r) - 4 by omega]; rfl
  · obtain ⟨r, c, rfl, hc, hc4⟩ : ∃ r c, i = 4 * r + c ∧ 0 < c ∧ c < 4 := ⟨i / 4, i % 4, by omega, by omega, by omega⟩
    unfold tl4
    rw [if_neg h0, show 4 * (4 * r + c) + k = 16 * r + (4 * c + k) by omega, kv2 _ _ _ (by omega) (by omega) (by omega), pre _ (by omega), pre _ (by omega), pre _ (by omega), show 16 * (r - 1) + (4 * c + k) = 4 * (4 * r + c) - 16 + k by omega, show 16 * r + (4 * c + k) - 4 = 4 * (4 * r + c) - 4 + k by omega]
    congr 1
    have h3 : k = 0 ∨ k = 1 ∨ k = 2 ∨ k = 3 := by omega
    rcases h3 with rfl | rfl | rfl | rfl <;> rfl
theorem rk_ciT (key : List UInt8) (hk : key.length = 16) (r : Nat) (hr : r < 11) : rk (ciT key) r = ((KS subT key 160).drop (16 * r)).take 16 := by
  have hl := KS_len subT key hk 160
  unfold rk ciT TT
  rw [List.drop_append_of_le_length (by omega), List.take_append_of_le_length (by rw [List.length_drop]; omega)]
end Go.Xr
namespace Go.Proofs.Ytnkcogaaajkplaa
open Go Go.Xr Go.RowKit
set_option linter.unusedVariables false
set_option linter.unusedSimpArgs false
attribute [local go_sem] xor_u8 xor_u8_c at_bt
theorem t2 {w : World} (P : UInt8) : Calls Try.prog 7 #[bt P, .int .u8 2] w fun e w' => e = .returned (bt (tw P)) ∧ w = w' := by
  have := rtimes_any (w := w) P 2
  rw [times_two] at this
  exact this
theorem infStr : ∃ i, Try.prog.info? 9 = some i ∧ i.zero = some (.string ⟨#[]⟩) ∧ i.size = 1 ∧ i.bytes = 16 := ⟨_, rfl, rfl, rfl, rfl⟩
theorem four (A : List UInt8) (o : Nat) (h : o + 4 ≤ A.length) : (A.drop o).take 4 = [g8 A o, g8 A (o + 1), g8 A (o + 2), g8 A (o + 3)] := by
  apply List.ext_getElem?
  intro j
  rw [List.getElem?_take]
  by_cases hj : j < 4
  · rw [if_pos hj, List.getElem?_drop, g8_eq A _ (by omega)]
    have h3 : j = 0 ∨ j = 1 ∨ j = 2 ∨ j = 3 := by omega
    rcases h3 with rfl | rfl | rfl | rfl <;> rfl
  · rw [if_neg hj, List.getElem?_eq_none (by simp; omega)]

set_option maxRecDepth 20000 in
set_option maxHeartbeats 1000000 in
theorem rrounds_any {w : World} {u : Value} (s : ByteArray) (hu : Sb w u subT) (hs : s.size = 16) :
    Calls Try.prog 15 #[.string s, u] w fun e w' => ∃ v, e = .returned v ∧ Ss w' v (keysOf (ciT s.data.toList)) ∧ Fr [] w w' := by
  obtain ⟨i5, hi5, hz5, hs5, hb5⟩ := inf5
  have Hi := hid hi5
  have Hz := hid hz5
  have Hs := hid hs5
  have Hb := hid hb5
  obtain ⟨bs, cs, rfl, hc3, hc4, hsl, hsub⟩ := hu.cells
  rw [subT_len] at hsub hc3
  rw [subT_len]
  unfold maxLen at hc4
  have Hd := hid hsub
  obtain ⟨S, hS⟩ : ∃ S, s.data.toList = S := ⟨_, rfl⟩
  have HS := hid hS
  have HSl := hid (show S.length = 16 by rw [← hS, Array.length_toList]; exact hs)
  have Hmx := hid (show s.size ≤ maxLen by rw [hs]; decide)
  have Hsz := hid hs
  rw [hS]
  clear hi5 hz5 hs5 hb5 hsub hs hu hS
  go_enter Try.func15, Try.ntmps15
  go_wp2_with (refine wpList_bytes_own rfl 9 32 5 _ rfl s rfl Hmx.out Try.underlying9 Try.underlying32 Try.underlying5 ?_; intro w1 c1 f1 hlt1 ho1; rw [HS.out] at ho1; simp only [World.size_alloc, World.size_drew, Act.put, List.setIfInBounds_toArray, List.set_cons_succ, List.set_cons_zero])
  have Hd1 := hid (cells_keep Hd.out f1 hsl (by simp))
  have ho2 : Own w1 1 (.slice (some ⟨w.heap.size, 0, none⟩) s.size c1) (4 * 4) (bv (KS subT S (4 * 4 - 16))) (some w.heap.size) := by
    have key : ∀ n, n = s.size → Own w1 1 (.slice (some ⟨w.heap.size, 0, none⟩) s.size c1) n (bv S) (some w.heap.size) := fun n hn => by subst hn; exact ho1
    exact key (4 * 4) Hsz.out.symm
  clear ho1
  go_loopw [5, 6, 7] (fun bv0 pv iv wr => ∃ i b : Nat, 4 ≤ i ∧ i ≤ 44 ∧ iv = .int .i64 i ∧ pv = bt (pwr ((i - 1) / 4)) ∧ Own wr 1 bv0 (4 * i) (bv (KS subT S (4 * i - 16))) (some b) ∧ w.heap.size ≤ b ∧ Hid (∀ j, j < 256 → wr.cell? ⟨bs, j, none⟩ = some (bt (g8 subT j))) ∧ Fr [] w wr) (fun _ _ iv _ => 44 - (intOf iv).toNat)
  case atStart => exact ⟨4, _, by decide, by decide, rfl, rfl, ho2, Nat.le_refl _, Hd1, f1⟩
  case round =>
    obtain ⟨i, b, hi4, hi44, rfl, rfl, ho, hge, hd, f⟩ := hrel
    clear ho2 Hd1 f1 hlt1
    obtain ⟨b', cap, hbb, rfl, hnc, hcm, hcell⟩ := ho.opened (by omega)
    cases hbb
    unfold maxLen at hcm
    obtain ⟨A, hA⟩ : ∃ A, KS subT S (4 * i - 16) = A := ⟨_, rfl⟩
    have hAl : A.length = 4 * i := by rw [← hA, KS_len _ _ HSl.out]; omega
    have HA := hid hA
    have HAl := hid hAl
    rw [hA] at ho hcell
    have Hcell : Hid (∀ j, j < 4 * i → wr.cell? ⟨b, j, none⟩ = some (bt (g8 A j))) := hid fun j hj => by
      have := (hcell j (by rw [bv_length, hAl]; exact hj)).1
      rw [this, bv_getElem?, g8_eq A j (by omega)]
      rfl
    have Ho := hid ho
    clear hcell hA hAl ho
    by_cases hlt : i < 44
    · have hd1 : decide ((i : Int) < 44) = true := by simp; omega
      have Hm4 := hid (show 4 * i - (4 * i - 4) = 4 by omega)
      have ho0 : Own (wr.alloc (.cells #[] 5)) 1 (.slice (some ⟨wr.heap.size, 0, none⟩) 0 0) 0 [] (some wr.heap.size) := Own.blk (cs := []) (Blk.alloc wr [] _) (Nat.le_refl _) (by simp) (by simp)
      have Ho0 := hid ho0
      obtain ⟨T0, hT0⟩ : ∃ T0, [g8 A (4 * i - 4), g8 A (4 * i - 4 + 1), g8 A (4 * i - 4 + 2), g8 A (4 * i - 4 + 3)] = T0 := ⟨_, rfl⟩
      have HT0 := hid hT0
      have HT0l := hid (show T0.length = 4 by rw [← hT0]; rfl)
      have fa := (Fr.refl [] wr).alloc (.cells #[] 5)
      have hnews : ∀ j u, (bv T0)[j]? = some u → (wr.alloc (.cells #[] 5)).cell? ((⟨b, 4 * i - 4, none⟩ : Addr).add j) = some u := by
        intro j u hu
        have hj : j < 4 := by have := (List.getElem?_eq_some_iff.1 hu).1; rw [bv_length, HT0l.out] at this; exact this
        have e : (⟨b, 4 * i - 4, none⟩ : Addr).add j = ⟨b, 4 * i - 4 + j, none⟩ := by unfold Addr.add; split <;> simp_all
        rw [e, fa.cell_some (Hcell.out _ (by omega)), ← hu, bv_getElem?, ← hT0]
        have h3 : j = 0 ∨ j = 1 ∨ j = 2 ∨ j = 3 := by omega
        rcases h3 with rfl | rfl | rfl | rfl <;> rfl
      have Hnews := hid hnews
      clear hnews hT0 ho0
      have hc3 : (i % 4 = 0 ∧ Hid (tl4 subT i A = [g8 subT (g8 T0 1).toNat ^^^ pwr ((i - 1) / 4), g8 subT (g8 T0 2).toNat, g8 subT (g8 T0 3).toNat, g8 subT (g8 T0 0).toNat])) ∨ (¬ i % 4 = 0 ∧ Hid (tl4 subT i A = T0)) := by
        by_cases h : i % 4 = 0
        · exact .inl ⟨h, hid (by unfold tl4; rw [if_pos h, ← HT0.out]; rfl)⟩
        · exact .inr ⟨h, hid (by unfold tl4; rw [if_neg h, ← HT0.out])⟩
      rcases hc3 with ⟨hc, Htl⟩ | ⟨hc, Htl⟩
      case' inl =>
        have hd2 : (((i : Int) % 4) == 0) = true := by rw [beq_iff_eq]; omega
        have Hc := hid hc
        clear hc
        go_wp2_with (refine wpList_append rfl _ _ _ rfl 5 _ _ 1 1 Try.underlying32 Hi.out Hz.out Hs.out Hb.out rfl (by decide) rfl Ho0.out ⟨b, 4 * i - 4, none⟩ (4 * i - (4 * i - 4)) _ (bv T0) rfl (by rw [bv_length, HT0l.out, Hm4.out]) Hnews.out (bv_one _) (by rw [Hm4.out]; decide) (by rw [Hm4.out]; decide) ?_; intro v2 w2 B2 ho3 f3 hB3; rw [Hm4.out, Nat.zero_add, List.nil_append] at ho3; simp only [World.size_alloc, World.size_drew, Act.put, List.setIfInBounds_toArray, List.set_cons_succ, List.set_cons_zero])
        obtain ⟨b2, cap2, rfl, rfl, hn2, hm2, hcell2⟩ := ho3.opened (by decide)
        have hb2 : wr.heap.size ≤ b2 := by
          rcases hB3 with h | ⟨x, h, hx⟩
          · cases h; exact Nat.le_refl _
          · cases h; simp at hx; omega
        have f4 : Fr [] wr w2 := fa.trans f3 (by simp)
        have hlt2 : b2 < w2.heap.size := ho3.lt b2 rfl
        have Hq : Hid (∀ j, j < 4 → w2.cell? ⟨b2, j, none⟩ = some (bt (g8 T0 j))) := hid fun j hj => by
          rw [(hcell2 j (by rw [bv_length, HT0l.out]; exact hj)).1, bv_getElem?, g8_eq T0 j (by rw [HT0l.out]; exact hj)]; rfl
        have hd4 := hid (cells_keep hd.out f4 (f.lt hsl) (by simp))
        unfold maxLen at hm2
        clear hcell2 ho3 hB3 f3
        obtain ⟨X0, hX0⟩ : ∃ X0, g8 T0 0 = X0 := ⟨_, rfl⟩
        obtain ⟨X1, hX1⟩ : ∃ X1, g8 T0 1 = X1 := ⟨_, rfl⟩
        obtain ⟨X2, hX2⟩ : ∃ X2, g8 T0 2 = X2 := ⟨_, rfl⟩
        obtain ⟨X3, hX3⟩ : ∃ X3, g8 T0 3 = X3 := ⟨_, rfl⟩
        have k0 : w2.cell? ⟨b2, 0, none⟩ = some (bt X0) := by rw [Hq.out 0 (by decide), hX0]
        have k1 : w2.cell? ⟨b2, 1, none⟩ = some (bt X1) := by rw [Hq.out 1 (by decide), hX1]
        have k2 : w2.cell? ⟨b2, 2, none⟩ = some (bt X2) := by rw [Hq.out 2 (by decide), hX2]
        have k3 : w2.cell? ⟨b2, 3, none⟩ = some (bt X3) := by rw [Hq.out 3 (by decide), hX3]
        have n0 := X0.toNat_lt
        have n1 := X1.toNat_lt
        have n2 := X2.toNat_lt
        have n3 := X3.toNat_lt
        have s0 := hd4.out X0.toNat n0
        have s1 := hd4.out X1.toNat n1
        have s2 := hd4.out X2.toNat n2
        have s3 := hd4.out X3.toNat n3
        have m0 : (X0.toNat : Int) < 256 := by omega
        have m1 : (X1.toNat : Int) < 256 := by omega
        have m2 : (X2.toNat : Int) < 256 := by omega
        have m3 : (X3.toNat : Int) < 256 := by omega
        have htl := Htl.out
        rw [hX0, hX1, hX2, hX3] at htl
        have Htl2 := hid htl
        clear Hq hX0 hX1 hX2 hX3 htl
        refine wp_region_D (fun _ => True) false [] (by kernel_rfl) ?_
        refine WD.pure [0, 1, 2, 3, 4, 5, 6, 7, 8, 9, 10, 11, 12, 13, 14, 15, 16, 17, 18, 19, 20, 21, 22, 23, 24, 25] (by kernel_rfl) trivial ?_
        simp only [pick, List.toList_toArray, List.map_cons, List.map_nil, List.getD_cons_succ, List.getD_cons_zero]
        repeat (first | go_big_quiet_step (fail))
        refine wpQuiet_nil ?_
        refine WD.eff 26 (by kernel_rfl) ?_
        simp only [pick, List.toList_toArray, List.map_cons, List.map_nil, List.getD_cons_succ, List.getD_cons_zero]
        refine wpList_buildSlice_ones rfl _ 4 _ rfl 5 Try.underlying32 _ _ Hi.out Hz.out rfl Hs.out (by decide) (by decide) rfl (bv (tl4 subT i A)) (by rw [Htl2.out]; rfl) (bv_one _) ?_
        intro hbT
        try refine wpList_nil ?_
        refine AfterD.on trivial (by kernel_rfl) ?_
        try simp only [World.size_alloc, World.size_drew, Act.put, List.setIfInBounds_toArray, List.set_cons_succ, List.set_cons_zero]
        refine WD.pure [27] (by kernel_rfl) trivial ?_
        simp only [pick, List.toList_toArray, List.map_cons, List.map_nil, List.getD_cons_succ, List.getD_cons_zero]
        repeat (first | go_big_quiet_step (fail))
        refine wpQuiet_nil ?_
        refine WD.done (by kernel_rfl) ?_
        have fB := (Fr.refl [] w2).drew.alloc (.cells (bv (tl4 subT i A)).toArray 5)
        have hbT2 : Sb (w2.drew.alloc (.cells (bv (tl4 subT i A)).toArray 5)) (.slice (some ⟨w2.heap.size, 0, none⟩) 4 4) (tl4 subT i A) := Sb.of' hbT (tl4_len _ _ _) (by decide) (by decide)
        have Hpw := hid (show tw (pwr ((i - 1) / 4)) = pwr ((i + 1 - 1) / 4) by
          have e : (i + 1 - 1) / 4 = (i - 1) / 4 + 1 := by have := Hc.out; omega
          rw [e]; rfl)
        generalize w2.drew.alloc (.cells (bv (tl4 subT i A)).toArray 5) = w5 at fB hbT2 ⊢
        clear k0 k1 k2 k3 s0 s1 s2 s3 hbT
        go_wp2_with fail
        refine (t2 _).mono ?_
        rintro e w' ⟨rfl, rfl⟩
        rw [Hpw.out]
        go_wp2_with fail
        have f5 := f4.trans' fB
        obtain ⟨b3, hb3⟩ : ∃ b3, w2.heap.size = b3 := ⟨_, rfl⟩
        have hb3n : b < b3 := by have := Ho.out.lt b rfl; have := f4.size; omega
        rw [hb3] at hbT2 ⊢
        clear f4 fB hd4
      case' inr =>
        have hd2 : (((i : Int) % 4) == 0) = false := by rw [beq_eq_false_iff_ne]; omega
        have Hc := hid hc
        clear hc
        go_wp2_with (refine wpList_append rfl _ _ _ rfl 5 _ _ 1 1 Try.underlying32 Hi.out Hz.out Hs.out Hb.out rfl (by decide) rfl Ho0.out ⟨b, 4 * i - 4, none⟩ (4 * i - (4 * i - 4)) _ (bv T0) rfl (by rw [bv_length, HT0l.out, Hm4.out]) Hnews.out (bv_one _) (by rw [Hm4.out]; decide) (by rw [Hm4.out]; decide) ?_; intro v2 w2 B2 ho3 f3 hB3; rw [Hm4.out, Nat.zero_add, List.nil_append] at ho3; simp only [World.size_alloc, World.size_drew, Act.put, List.setIfInBounds_toArray, List.set_cons_succ, List.set_cons_zero])
        obtain ⟨b2, cap2, rfl, rfl, hn2, hm2, hcell2⟩ := ho3.opened (by decide)
        have f4 : Fr [] wr w2 := fa.trans f3 (by simp)
        have hbT2 : Sb w2 (.slice (some ⟨b2, 0, none⟩) 4 cap2) (tl4 subT i A) := by
          rw [Htl.out]
          exact Sb.of_own ho3
        have Hpw := hid (show pwr ((i - 1) / 4) = pwr ((i + 1 - 1) / 4) by
          have e : (i + 1 - 1) / 4 = (i - 1) / 4 := by have := Hc.out; omega
          rw [e])
        rw [Hpw.out]
        have hb3n : b < b2 := by
          have := Ho.out.lt b rfl
          rcases hB3 with h | ⟨x, h, hx⟩
          · cases h; exact this
          · cases h; simp at hx; omega
        obtain ⟨w5, rfl⟩ : ∃ w5, w5 = w2 := ⟨_, rfl⟩
        obtain ⟨b3, rfl⟩ : ∃ b3, b3 = b2 := ⟨_, rfl⟩
        have f5 := f4
        clear hcell2 ho3 hB3 f3 f4
      all_goals
        obtain ⟨TL, hTL⟩ : ∃ TL, tl4 subT i A = TL := ⟨_, rfl⟩
        have hTl : TL.length = 4 := by rw [← hTL]; exact tl4_len _ _ _
        have HTl := hid hTl
        have Hkv : Hid (∀ k, k < 4 → kv subT (16 + (4 * i - 16 + k)) (KS subT S (4 * i - 16 + k)) = g8 (KS subT S (4 * i - 16 + k)) (4 * i - 16 + k) ^^^ g8 TL k) := hid fun k hk => by
          rw [show 16 + (4 * i - 16 + k) = 4 * i + k by omega, kv_tl subT S HSl.out i k hi4 hk, HA.out, hTL]
        rw [hTL] at hbT2
        have q1 : Own w5 1 (.slice (some ⟨b, 0, none⟩) (4 * i) cap) (4 * i + 0) (bv (KS subT S (4 * i - 16 + 0))) (some b) := by
          rw [Nat.add_zero, Nat.add_zero, HA.out]
          exact Ho.out.keep f5 (by simp)
        have q2 : Hid (∀ j, j < 4 → w5.cell? ⟨b3, j, none⟩ = some (bt (g8 TL j))) ∧ b3 < w5.heap.size := by
          obtain ⟨b', cap', e, _, _, hl, hc⟩ := hbT2.cells
          simp only [Value.slice.injEq, Option.some.injEq, Addr.mk.injEq] at e
          obtain ⟨⟨rfl, _⟩, _⟩ := e
          rw [hTl] at hc
          exact ⟨hid hc, hl⟩
        obtain ⟨q2, q3⟩ := q2
        have q4 := hid (cells_keep hd.out f5 (f.lt hsl) (by simp))
        have q5 := f.trans' f5
        have hne3 : b ≠ b3 := by omega
        clear hbT2 hTL hTl Hnews Ho0 fa Htl HT0 Hcell
        go_loopw [5, 9] (fun bv0 kv0 wr => ∃ k b' : Nat, k ≤ 4 ∧ kv0 = .int .i64 k ∧ Own wr 1 bv0 (4 * i + k) (bv (KS subT S (4 * i - 16 + k))) (some b') ∧ w.heap.size ≤ b' ∧ b' ≠ b3 ∧ b3 < wr.heap.size ∧ Hid (∀ j, j < 4 → wr.cell? ⟨b3, j, none⟩ = some (bt (g8 TL j))) ∧ Hid (∀ j, j < 256 → wr.cell? ⟨bs, j, none⟩ = some (bt (g8 subT j))) ∧ Fr [] w wr) (fun _ kv0 _ => 4 - (intOf kv0).toNat)
        case' atStart => exact ⟨0, b, by decide, rfl, q1, hge, hne3, q3, q2, q4, q5⟩
        case' round =>
          obtain ⟨k, b', hk4, rfl, ho5, hge5, hne5, hl5, hq5, hd5, f6⟩ := hrel
          clear q1 q2 q3 q4 q5
          by_cases hlk : k < 4
          · have hd3 : decide ((k : Int) < 4) = true := by simp; omega
            obtain ⟨b4, cap4, hbb, rfl, hnc4, hcm4, hcell4⟩ := ho5.opened (by omega)
            cases hbb
            obtain ⟨A5, hA5⟩ : ∃ A5, KS subT S (4 * i - 16 + k) = A5 := ⟨_, rfl⟩
            have hA5l : A5.length = 4 * i + k := by rw [← hA5, KS_len _ _ HSl.out]; omega
            have hnx : KS subT S (4 * i - 16 + (k + 1)) = A5 ++ [g8 A5 (4 * i - 16 + k) ^^^ g8 TL k] := by
              have := Hkv.out k hlk
              rw [← Nat.add_assoc, KS, this, hA5]
            rw [hA5] at ho5 hcell4
            obtain ⟨P, hP⟩ : ∃ P, g8 A5 (4 * i - 16 + k) = P := ⟨_, rfl⟩
            obtain ⟨Q, hQ⟩ : ∃ Q, g8 TL k = Q := ⟨_, rfl⟩
            have k1 : wr.cell? ⟨b', 4 * i - 16 + k, none⟩ = some (bt P) := by
              rw [(hcell4 (4 * i - 16 + k) (by rw [bv_length]; omega)).1, bv_getElem?, g8_eq A5 _ (by omega), hP]; rfl
            have k2 : wr.cell? ⟨b3, k, none⟩ = some (bt Q) := by rw [hq5.out k hlk, hQ]
            rw [hP, hQ] at hnx
            have Hnx := hid hnx
            have Ho5 := hid ho5
            have m1 : (4 * (i : Int) - 16 + (k : Int)).toNat = 4 * i - 16 + k := by omega
            have m2 : (16 : Int) ≤ 4 * (i : Int) := by omega
            have m3 : 4 * (i : Int) - 16 + (k : Int) < 4 * (i : Int) + (k : Int) := by omega
            unfold maxLen at hcm4
            clear hcell4 hA5 hP hQ hnx ho5
            go_wp2_with fail
            refine wp_region_D (fun _ => True) false [] (by kernel_rfl) ?_
            refine WD.pure [1, 2, 3, 4, 5, 6, 7, 8, 9, 10, 11, 12, 13] (by kernel_rfl) trivial ?_
            simp only [pick, List.toList_toArray, List.map_cons, List.map_nil, List.getD_cons_succ, List.getD_cons_zero]
            repeat (first | go_big_quiet_step (fail))
            refine wpQuiet_nil ?_
            refine WD.free [0] (by kernel_rfl) trivial ?_
            simp only [pick, List.toList_toArray, List.map_cons, List.map_nil, List.getD_cons_succ, List.getD_cons_zero]
            repeat (first | go_big_quiet_step (fail))
            refine wpQuiet_nil ?_
            refine WD.eff 14 (by kernel_rfl) ?_
            simp only [pick, List.toList_toArray, List.map_cons, List.map_nil, List.getD_cons_succ, List.getD_cons_zero]
            refine wpList_buildSlice_ones rfl _ 1 _ rfl 5 Try.underlying32 _ _ Hi.out Hz.out rfl Hs.out (by decide) (by decide) rfl (bv [P ^^^ Q]) rfl (bv_one _) ?_
            intro hbP
            try refine wpList_nil ?_
            refine AfterD.on trivial (by kernel_rfl) ?_
            try simp only [World.size_alloc, World.size_drew, Act.put, List.setIfInBounds_toArray, List.set_cons_succ, List.set_cons_zero]
            refine WD.eff 15 (by kernel_rfl) ?_
            simp only [pick, List.toList_toArray, List.map_cons, List.map_nil, List.getD_cons_succ, List.getD_cons_zero]
            have fP := (Fr.refl [] wr).drew.alloc (.cells (bv [P ^^^ Q]).toArray 5)
            have ho6 := Ho5.out.keep fP (by simp)
            have hltb := Ho5.out.lt b' rfl
            refine wpList_append rfl _ _ _ rfl 5 _ _ 1 1 Try.underlying32 Hi.out Hz.out Hs.out Hb.out rfl (by decide) rfl ho6 ⟨wr.heap.size, 0, none⟩ 1 1 (bv [P ^^^ Q]) rfl rfl (hbP.cells rfl) (bv_one _) (by unfold maxLen; omega) (by omega) ?_
            intro v7 w7 B7 ho7 f7 hB7
            try refine wpList_nil ?_
            refine AfterD.on trivial (by kernel_rfl) ?_
            try simp only [World.size_alloc, World.size_drew, Act.put, List.setIfInBounds_toArray, List.set_cons_succ, List.set_cons_zero]
            refine WD.pure [16] (by kernel_rfl) trivial ?_
            simp only [pick, List.toList_toArray, List.map_cons, List.map_nil, List.getD_cons_succ, List.getD_cons_zero]
            repeat (first | go_big_quiet_step (fail))
            refine wpQuiet_nil ?_
            refine WD.done (by kernel_rfl) ?_
            rw [← bv_append, ← Hnx.out] at ho7
            obtain ⟨b7, rfl, hb7, hb7n⟩ : ∃ b7, B7 = some b7 ∧ w.heap.size ≤ b7 ∧ b7 ≠ b3 := by
              rcases hB7 with h | ⟨x, h, hx⟩
              · exact ⟨b', h, hge5, hne5⟩
              · simp at hx; exact ⟨x, h, by have := f6.size; omega, by omega⟩
            have f8 : Fr [b'] wr w7 := fP.mono (by simp) |>.trans' f7
            clear k1 k2 hbP ho6 f7 fP hB7 m1 m2 m3
            go_wp2_with fail
            go_roundw
            case rel => exact ⟨k + 1, b7, by omega, by go_num, ho7, hb7, hb7n, Nat.lt_of_lt_of_le hl5 f8.size, hid (cells_keep hq5.out f8 hl5 (by simp; omega)), hid (cells_keep hd5.out f8 (f6.lt hsl) (by simp; omega)), f6.trans f8 (by simp; omega)⟩
            case measure => simp [intOf]; omega
          · have hd3 : decide ((k : Int) < 4) = false := by simp; omega
            have ek : k = 4 := by omega
            have ho8 : Own wr 1 u5 (4 * (i + 1)) (bv (KS subT S (4 * (i + 1) - 16))) (some b') := by
              rw [ek] at ho5
              rw [show 4 * (i + 1) = 4 * i + 4 by omega, show 4 * i + 4 - 16 = 4 * i - 16 + 4 by omega]
              exact ho5
            clear ek hlk hk4 ho5
            go_wp2_with fail
            go_roundw
            case rel => exact ⟨i + 1, b', by omega, by omega, by go_num, rfl, ho8, hge5, hd5, f6⟩
            case measure => simp [intOf]; omega
    · have ei : i = 44 := by omega
      have hd1 : decide ((i : Int) < 44) = false := by simp; omega
      obtain ⟨b5, cap5, cs5, hB5, hv5, hnc5, hcm5, hblk5, hcl5, htk5⟩ : ∃ b' cap' cs', some b = some b' ∧ Value.slice (some ⟨b, 0, none⟩) (4 * i) cap = Value.slice (some ⟨b', 0, none⟩) (4 * i) cap' ∧ 4 * i ≤ cap' ∧ cap' ≤ maxLen ∧ Blk wr b' cs' ∧ cs'.length = cap' * 1 ∧ cs'.take (4 * i * 1) = bv A := by
        rcases Ho.out.2 with ⟨h, _⟩ | h
        · cases h
        · exact h
      cases hB5
      cases hv5
      have hA160 : A = KS subT S 160 := by rw [← HA.out, ei]
      have Hcut : Hid (∀ r, r < 11 → (cs5.drop (16 * r)).take 16 = bv (rk (ciT S) r)) := hid fun r hr => by
        rw [rk_ciT S HSl.out r hr, ← hA160, ← bv_take, ← bv_drop, ← htk5, ei, List.drop_take, List.take_take, Nat.min_eq_left (by omega)]
      have Hei := hid ei
      have hc176 : 176 ≤ cap := by omega
      have Hcs := hid (show cs5.length = cap by omega)
      have Hrl := hid fun r (hr : r ≤ 11) => rk_len (ciT S) (ciT_len S HSl.out) r hr
      clear ei hlt htk5 hcl5 hA160 Ho hnc5 hnc
      obtain ⟨i9, hi9, hz9, hs9, hb9⟩ := infStr
      have Hi9 := hid hi9
      have Hz9 := hid hz9
      have Hs9 := hid hs9
      have Hb9 := hid hb9
      clear hi9 hz9 hs9 hb9
      go_wp2_with fail
      go_loopw [10, 11] (fun ov rv wr' => ∃ (r : Nat) (B : Option Nat), r ≤ 11 ∧ rv = .int .i64 r ∧ Own wr' 1 ov r ((List.range r).map fun j => .string (keyS (ciT S) j)) B ∧ Fresh wr B ∧ Fr [] wr wr') (fun _ rv _ => 11 - (intOf rv).toNat)
      case atStart => exact ⟨0, none, by decide, rfl, Own.nil _ _, Fresh.none _, Fr.refl _ _⟩
      case round =>
        obtain ⟨r, B, hr, rfl, hoo, hF, fo⟩ := hrel
        obtain ⟨oa, oc, rfl⟩ := hoo.isSlice
        by_cases hlr : r < 11
        · have hd3 : decide ((r : Int) < 11) = true := by simp; omega
          have hblk6 := fo.blk hblk5 (by simp)
          have Hl16 := hid (Hrl.out r hr)
          have Hcr := hid (Hcut.out r hlr)
          have hm1 : 16 * r + 16 ≤ cap := by omega
          go_wp2_with (first
            | (refine wpList_slice_lh rfl _ _ _ _ rfl rfl .i64 .i64 _ _ (16 * r) (16 * r + 16) rfl rfl (by omega) (by omega) (by omega) (by omega) (by omega) 5 Try.underlying32 rfl ?_; simp only [World.size_alloc, World.size_drew, Act.put, List.setIfInBounds_toArray, List.set_cons_succ, List.set_cons_zero])
            | (refine wpList_string_of_bytes rfl 32 9 5 _ rfl (16 * r + 16 - 16 * r) _ rfl hblk6 (rk (ciT S) r) (by rw [Hl16.out]; omega) (by rw [Nat.zero_add, Hl16.out]; exact Hcr.out) Try.underlying32 Try.underlying5 Try.underlying9 ?_; simp only [World.size_alloc, World.size_drew, Act.put, List.setIfInBounds_toArray, List.set_cons_succ, List.set_cons_zero])
            | (refine wpList_append1 rfl rfl 34 _ _ _ rfl rfl 9 _ _ 16 Try.underlying34 Hi9.out Hz9.out Hs9.out Hb9.out rfl (.string (keyS (ciT S) r)) rfl rfl rfl rfl hoo (by unfold maxLen; omega) (by omega) ?_; intro v3 w3 B3 ho3 f3 hB3; simp only [World.size_alloc, World.size_drew, Act.put, List.setIfInBounds_toArray, List.set_cons_succ, List.set_cons_zero]))
          have ho4 : Own w3 1 v3 (r + 1) ((List.range (r + 1)).map fun j => .string (keyS (ciT S) j)) B3 := by
            rw [List.range_succ, List.map_append]
            exact ho3
          clear ho3
          go_roundw
          case rel => exact ⟨r + 1, B3, by omega, by go_num, ho4, hF.step fo hB3, hF.fr fo f3⟩
          case measure => simp [intOf]; omega
        · have hd3 : decide ((r : Int) < 11) = false := by simp; omega
          have er : r = 11 := by omega
          have hs11 : Ss wr (.slice oa r oc) (keysOf (ciT S)) := by
            rw [er] at hoo ⊢
            obtain ⟨bq, cq, hBq, hvq, hnq, hmq, hcq⟩ := hoo.opened (by decide)
            have hl : (keysOf (ciT S)).length = 11 := keysOf_len _
            refine ⟨bq, cq, by rw [hl]; exact hvq, by rw [hl]; exact hnq, hmq, hoo.lt bq hBq, fun j hj => ?_⟩
            rw [hl] at hj
            rw [(hcq j (by simp; omega)).1, keysOf_get _ j hj]
            simp [hj]
          clear er hlr
          go_wp2_with fail
          go_ret
          exact ⟨_, rfl, hs11, f.trans' fo⟩
end Go.Proofs.Ytnkcogaaajkplaa
