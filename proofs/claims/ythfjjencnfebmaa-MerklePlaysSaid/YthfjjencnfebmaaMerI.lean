/- Layer 10, merkle: a copy of a tree. -/
import Derived.Test.YthfjjencnfebmaaMerH
namespace Go.Proofs.Ythfjjencnfebmaa.mer
open Go Go.Xr Go.RowKit
set_option linter.unusedVariables false
set_option linter.unusedSimpArgs false
theorem copy_nil {w : World} : Calls Try.prog 25 #[.pointer none] w fun e w' => e = .returned (.pointer none) ∧ w' = w := by
  go_enter Try.func25, Try.ntmps25
  go_wp2_with (go_at_call 24; refine len_nil.mono ?_; rintro e w1 ⟨rfl, rfl⟩)
  go_ret
  exact ⟨rfl, rfl⟩
theorem chain_pos : ∀ {rows : List (List ByteArray)}, Chain rows → ∀ r ∈ rows, 0 < r.length ∧ r.length ≤ 16384
  | r :: rest, ⟨h1, h2, h3, h4, h5⟩, x, hx => by
    rcases List.mem_cons.1 hx with rfl | hx
    · exact ⟨h1, h2⟩
    · exact chain_pos h5 x hx
/-- Between two rounds of 'Copy': so many rows are copied. -/
def CopyI (w0 : World) (tb bt : Nat) (tags : List ByteArray) (dn : List (List ByteArray)) (w : World) : Prop :=
  ∃ vt vr B rvs bs, Blk w tb [vt, vr] ∧ Xr.Own w 1 vt tags.length (tags.map .string) (some bt) ∧ Xr.Own w 1 vr dn.length rvs B ∧ RowsAt w rvs dn bs ∧ (tb :: bt :: (B.toList ++ bs)).Nodup ∧ (∀ b ∈ tb :: bt :: (B.toList ++ bs), w0.heap.size ≤ b) ∧ Fr [] w0 w
attribute [local go_sem] Oper.semAt_some
set_option maxRecDepth 20000 in
set_option maxHeartbeats 1000000 in
theorem copy_any {w : World} {bl : List Nat} {tb : Nat} {tags : List ByteArray} (h : TreeAt w bl tb tags (rowsS tags)) (hl : tags.length ≤ 16384) (hn : 0 < tags.length) : Calls Try.prog 25 #[.pointer (some ⟨tb, 0, none⟩)] w fun e w' => (∃ tb' bl', e = .returned (.pointer (some ⟨tb', 0, none⟩)) ∧ TreeAt w' bl' tb' tags (rowsS tags) ∧ ∀ b ∈ bl', w.heap.size ≤ b) ∧ Fr [] w w' := by
  obtain ⟨i9, hi9, hz9, hs9, hb9⟩ := inf9
  have Hi := hid hi9
  have Hz := hid hz9
  have Hs := hid hs9
  have Hb := hid hb9
  obtain ⟨i22, hi22, hz22, hs22, hb22⟩ := inf22
  have Hi2 := hid hi22
  have Hz2 := hid hz22
  have Hs2 := hid hs22
  have Hb2 := hid hb22
  clear hi9 hz9 hs9 hb9 hi22 hz22 hs22 hb22
  have Hl := hid (len_any h)
  have HC := hid (chain_pos (chain_rows tags (by omega) hl))
  have hrl := rowsS_length tags (by omega)
  obtain ⟨rvs, h⟩ := h
  obtain ⟨bt, ct, br, cr, bs, rfl, h1, h2, h3, h4, h5, h6, h7⟩ := h.cells
  have HT := hid h
  obtain ⟨rows, hrows⟩ : ∃ rows, rowsS tags = rows := ⟨_, rfl⟩
  have hr0 : 0 < rows.length := by
    obtain ⟨pre, x, ex⟩ := rowsS_last tags hn
    rw [← hrows, ex]
    simp
  rw [hrows] at h1 h3 h5 h6 HC HT hrl ⊢
  obtain ⟨m, hm⟩ : ∃ m, rows.length = m := ⟨_, rfl⟩
  have Hm := hid hm
  rw [hm] at h1 h5 hrl hr0
  have hc := clone_any h2.rd.rc (by omega) hn
  have Hc := hid hc
  have k0 : w.cell? ⟨tb, 0, none⟩ = some (.slice (some ⟨bt, 0, none⟩) tags.length ct) := h1.cell 0
  have k1 : w.cell? ⟨tb, 1, none⟩ = some (.slice (some ⟨br, 0, none⟩) m cr) := h1.cell 1
  have hz : (((tags.length : Int)) == 0) = false := by simp; intro h; rw [h] at hn; simp at hn
  have hz2 : decide ((tags.length : Int) = 0) = false := by simp; intro h; rw [h] at hn; simp at hn
  obtain ⟨n, hnn⟩ : ∃ n, tags.length = n := ⟨_, rfl⟩
  have Hn := hid hnn
  rw [hnn] at k0 hz hz2 Hc Hl hl hn hrl
  clear h h1 h2 h3 h6 hm hrows hnn hc
  go_enter Try.func25, Try.ntmps25
  go_wp2_with (first
    | (go_at_call 24; refine Hl.out.mono ?_; rintro e w1 ⟨rfl, hw1⟩; have hw2 := hw1.symm; subst hw2)
    | (go_at_call 41; refine Hc.out.mono ?_; rintro e w1 ⟨⟨vt, bt1, rfl, ho1, hbt⟩, f1⟩; obtain ⟨va, vc, rfl⟩ := ho1.isSlice; have k2 := f1.cell_some k1)
    | (refine wpList_box rfl _ _ rfl [.slice va n vc, .slice none 0 0] rfl ?_; intro w2 f2 hlt2 hb2; have k3 := f2.cell_some k2; simp only [World.size_alloc, World.size_drew, Act.put, List.setIfInBounds_toArray, List.set_cons_succ, List.set_cons_zero]))
  obtain ⟨t2, ht2⟩ : ∃ t2, w1.heap.size = t2 := ⟨_, rfl⟩
  rw [ht2] at hb2 ⊢
  have hbt2 : bt1 < t2 := by have := ho1.lt bt1 rfl; omega
  have hI0 : CopyI w t2 bt1 tags [] w2 := ⟨_, _, none, [], [], hb2, (by rw [Hn.out]; exact ho1.keep f2 (by simp)), Own.nil _ 1, ⟨rfl, rfl, by simp⟩, by simp; omega, by simp; have := f1.size; omega, f1.trans' f2⟩
  have HI0 := hid hI0
  have Hw1 := hid ht2
  have ht2w : w.heap.size ≤ t2 := by have := f1.size; omega
  clear hI0 hb2 f1 f2 ho1 k1 k2 ht2
  go_loopw [21] (fun kv wr => ∃ (k : Nat) (dn todo : List (List ByteArray)), kv = .int .i64 (k : Int) ∧ rows = dn ++ todo ∧ dn.length = k ∧ CopyI w t2 bt1 tags dn wr) (fun kv _ => m - (intOf kv).toNat)
  case atStart => exact ⟨0, [], rows, rfl, rfl, rfl, HI0.out⟩
  case round =>
    obtain ⟨k, dn, todo, rfl, e1, e2, vt, vr, B, rv2, bs2, c1, c2, c3, c4, c5, c6, f⟩ := hrel
    clear HI0
    have HmE := Hm.out
    rw [e1, List.length_append] at HmE
    by_cases hkl : k < m
    · have hd2 : decide ((k : Int) < (m : Int)) = true := by simp; omega
      have hd2' : (k : Int) < (m : Int) := by omega
      obtain ⟨row, rest, rfl⟩ : ∃ row rest, todo = row :: rest := by
        cases todo with
        | nil => simp at HmE; omega
        | cons a b => exact ⟨a, b, rfl⟩
      have T := HT.out.keep f (by simp)
      rw [e1] at T
      obtain ⟨bt3, ct3, br3, cr3, bs3, hbl, g1, g2, g3, g4, g5, g6, g7⟩ := T.cells
      obtain ⟨rfl, rfl, rfl⟩ : bt = bt3 ∧ br = br3 ∧ bs = bs3 := by simpa using hbl
      obtain ⟨v, b, r1, r2, r3⟩ := g6.2.2 k row (by rw [← e2]; simp)
      obtain ⟨cv, rfl⟩ : ∃ cv, v = .slice (some ⟨b, 0, none⟩) row.length cv := by
        rcases r3.shape with ⟨_, _, _, h0⟩ | ⟨b2, ct, h0, hv, hc2, _⟩
        · cases h0
        · cases h0; exact ⟨ct, hv⟩
      have kk2 : wr.cell? ⟨br, k, none⟩ = some (.slice (some ⟨b, 0, none⟩) row.length cv) := by rw [g3.cellAt rfl (by rw [g6.1]; simp; omega), r1]
      obtain ⟨p1, p2⟩ := HC.out row (by rw [e1]; simp)
      have Hcl := hid (clone_any (r3.keep (Fr.refl [] wr).drew (by simp)).rd.rc (by omega) p1)
      obtain ⟨ra, rc, rfl⟩ := c3.isSlice
      obtain ⟨dm, hdm⟩ : ∃ dm, dn.length = dm := ⟨_, rfl⟩
      have Hdm := hid hdm
      rw [hdm] at c1 c3
      obtain ⟨rn, hrn⟩ : ∃ rn, row.length = rn := ⟨_, rfl⟩
      have Hrn := hid hrn
      rw [hrn] at kk2 Hcl
      have hdmb : dm ≤ 16384 := by omega
      have E1 := hid e1
      have E2 := hid e2
      have C4 := hid c4
      have C5 := hid c5
      have C6 := hid c6
      have C2 := hid c2
      have F := hid f
      clear T g1 g2 g3 g4 g5 g6 g7 r1 r2 r3 hbl p1 p2 hdm hrn e1 e2 HmE c2 c4 c5 c6 f
      go_wp2_with fail
      refine wp_region_D (fun w' => Blk w' t2 [vt, .slice ra dm rc]) true [] (by kernel_rfl) ?_
      refine WD.pure [5] (by kernel_rfl) c1.drew ?_
      simp only [pick, List.toList_toArray, List.map_cons, List.map_nil, List.getD_cons_succ, List.getD_cons_zero]
      repeat (first | (refine quiet_load_1R (by rfl) _ _ rfl rfl (.slice ra dm rc) (fun w0 h => h.cell 1) _ Try.underlying62 rfl ?_; simp only [World.size_alloc, World.size_drew, Act.put, List.setIfInBounds_toArray, List.set_cons_succ, List.set_cons_zero]) | go_big_quiet_step (fail))
      refine wpQuiet_nil ?_
      refine WD.free [0, 1, 2, 3] (by kernel_rfl) c1.drew ?_
      simp only [pick, List.toList_toArray, List.map_cons, List.map_nil, List.getD_cons_succ, List.getD_cons_zero]
      repeat (first | (refine quiet_load_1R (by rfl) _ _ rfl rfl (.slice ra dm rc) (fun w0 h => h.cell 1) _ Try.underlying62 rfl ?_; simp only [World.size_alloc, World.size_drew, Act.put, List.setIfInBounds_toArray, List.set_cons_succ, List.set_cons_zero]) | go_big_quiet_step (fail))
      refine wpQuiet_nil ?_
      refine WD.held [4] (by kernel_rfl) c1.drew ?_
      simp only [pick, List.toList_toArray, List.map_cons, List.map_nil, List.getD_cons_succ, List.getD_cons_zero]
      repeat (first | (refine quiet_load_1R (by rfl) _ _ rfl rfl (.slice ra dm rc) (fun w0 h => h.cell 1) _ Try.underlying62 rfl ?_; simp only [World.size_alloc, World.size_drew, Act.put, List.setIfInBounds_toArray, List.set_cons_succ, List.set_cons_zero]) | go_big_quiet_step (fail))
      refine wpQuiet_nil ?_
      refine WD.eff 6 (by kernel_rfl) ?_
      simp only [pick, List.toList_toArray, List.map_cons, List.map_nil, List.getD_cons_succ, List.getD_cons_zero]
      have f0 : Fr [] wr wr.drew := (Fr.refl [] wr).drew
      go_wp2_with (go_at_call 41; refine Hcl.out.mono ?_; rintro e w5 ⟨⟨v5, b5, rfl, ho5, hb5⟩, f5⟩; obtain ⟨va5, vc5, rfl⟩ := ho5.isSlice)
      have d5 : Blk w5 t2 [vt, .slice ra dm rc] := f5.blk c1.drew (by simp)
      try refine wpList_nil ?_
      refine AfterD.on d5 (by kernel_rfl) ?_
      try simp only [World.size_alloc, World.size_drew, Act.put, List.setIfInBounds_toArray, List.set_cons_succ, List.set_cons_zero]
      refine WD.eff 7 (by kernel_rfl) ?_
      simp only [pick, List.toList_toArray, List.map_cons, List.map_nil, List.getD_cons_succ, List.getD_cons_zero]
      go_wp2_with (refine wpList_buildSlice_r rfl _ 1 _ rfl 22 Try.underlying62 _ _ Hi2.out Hz2.out rfl Hs2.out (by decide) (by decide) (by decide) [.slice va5 rn vc5] rfl (by intro v hv; simp at hv; rcases hv with rfl; rfl) ?_; intro w6 f6 hlt6 hb6; simp only [World.size_alloc, World.size_drew, Act.put, List.setIfInBounds_toArray, List.set_cons_succ, List.set_cons_zero])
      have d6 : Blk w6 t2 [vt, .slice ra dm rc] := f6.blk d5 (by simp)
      try refine wpList_nil ?_
      refine AfterD.on d6 (by kernel_rfl) ?_
      try simp only [World.size_alloc, World.size_drew, Act.put, List.setIfInBounds_toArray, List.set_cons_succ, List.set_cons_zero]
      refine WD.eff 8 (by kernel_rfl) ?_
      simp only [pick, List.toList_toArray, List.map_cons, List.map_nil, List.getD_cons_succ, List.getD_cons_zero]
      have g6 : Fr [] wr w6 := (f0.trans' f5).trans' f6
      have hnd := C5.out
      simp only [List.nodup_cons, List.mem_cons, not_or, List.mem_append, List.nodup_append, Option.mem_toList] at hnd
      go_wp2_with (refine wpList_append_rc rfl _ _ _ rfl 22 _ _ 1 24 Try.underlying62 Hi2.out Hz2.out Hs2.out Hb2.out rfl (by decide) rfl (c3.keep g6 (by simp)) rfl (rc_blk hb6 rfl (by simp [maxLen])) (by intro u hu; simp at hu; subst hu; rfl) (by unfold maxLen; omega) (by omega) ?_; intro v7 w7 B7 ho7 f7 hB7; obtain ⟨a7, c7, rfl⟩ := ho7.isSlice; simp only [World.size_alloc, World.size_drew, Act.put, List.setIfInBounds_toArray, List.set_cons_succ, List.set_cons_zero])
      have d7 : Blk w7 t2 [vt, .slice ra dm rc] := f7.blk d6 (by intro hx; exact hnd.1.2.1 (by simpa using hx))
      try refine wpList_nil ?_
      refine AfterD.on d7 (by kernel_rfl) ?_
      try simp only [World.size_alloc, World.size_drew, Act.put, List.setIfInBounds_toArray, List.set_cons_succ, List.set_cons_zero]
      refine WD.pure [9, 10] (by kernel_rfl) d7 ?_
      simp only [pick, List.toList_toArray, List.map_cons, List.map_nil, List.getD_cons_succ, List.getD_cons_zero]
      repeat (first | (refine quiet_load_1R (by rfl) _ _ rfl rfl (.slice ra dm rc) (fun w0 h => h.cell 1) _ Try.underlying62 rfl ?_; simp only [World.size_alloc, World.size_drew, Act.put, List.setIfInBounds_toArray, List.set_cons_succ, List.set_cons_zero]) | go_big_quiet_step (fail))
      refine wpQuiet_nil ?_
      refine WD.eff 11 (by kernel_rfl) ?_
      simp only [pick, List.toList_toArray, List.map_cons, List.map_nil, List.getD_cons_succ, List.getD_cons_zero]
      go_wp2_with (refine wpList_put rfl _ _ _ rfl rfl (.slice a7 (dm + 1) c7) rfl rfl d7 (by simp) (by kernel_rfl) ?_; intro w8 f8 b8 hs8; simp only [World.size_alloc, World.size_drew, Act.put, List.setIfInBounds_toArray, List.set_cons_succ, List.set_cons_zero])
      try refine wpList_nil ?_
      refine AfterD.end rfl (by kernel_rfl) ?_
      try simp only [World.size_alloc, World.size_drew, Act.put, List.setIfInBounds_toArray, List.set_cons_succ, List.set_cons_zero]
      refine WD.done (by kernel_rfl) ?_
      have hs5 := f5.size
      have hs6 := f6.size
      have hs7 := f7.size
      have hb5l := ho5.lt b5 rfl
      rw [World.size_drew] at hb5 hs5
      have hl1 := c1.lt
      have hl2 := C2.out.lt bt1 rfl
      have hl3 := c3.lt
      have hl4 := C4.out.lt
      have g8 : Fr (t2 :: B.toList) wr w8 := ((g6.mono (by simp)).trans' (f7.mono (fun x hx => .inl (List.mem_cons_of_mem _ hx)))).trans' (f8.mono (fun x hx => .inl (by simp at hx; simp [hx])))
      have hF := F.out.size
      have h6 := C6.out
      obtain ⟨b7, rfl, hb7⟩ : ∃ b7, B7 = some b7 ∧ (B = some b7 ∨ w6.heap.size ≤ b7) := by
        rcases hB7 with rfl | ⟨x, rfl, hx⟩
        · rcases ho7.shape with ⟨_, h0, _⟩ | ⟨b9, _, h0, _⟩
          · simp at h0
          · exact ⟨b9, h0, .inl h0⟩
        · exact ⟨x, rfl, .inr hx⟩
      have n1 : b7 ≠ t2 := by
        rcases hb7 with h | h
        · rintro rfl; exact hnd.1.2.1 h
        · omega
      have n2 : b7 ≠ bt1 := by
        rcases hb7 with h | h
        · rintro rfl; exact hnd.2.1.1 h
        · omega
      have n3 : b7 ∉ bs2 := by
        rcases hb7 with h | h
        · intro hm; exact hnd.2.2.2.2 _ h _ hm rfl
        · intro hm; have := hl4 _ hm; omega
      have n4 : b7 ≠ b5 := by
        rcases hb7 with h | h
        · have := hl3 _ h; omega
        · omega
      have n5 : b5 ∉ bs2 := fun hm => by have := hl4 _ hm; omega
      have hS : ∀ x ∈ bs2, x ∉ t2 :: B.toList := by
        intro x hx hm
        rcases List.mem_cons.1 hm with rfl | hm
        · exact hnd.1.2.2 hx
        · exact hnd.2.2.2.2 _ (by simpa using hm) _ hx rfl
      have hS5 : b5 ∉ t2 :: B.toList := by
        intro hm
        rcases List.mem_cons.1 hm with h | hm
        · omega
        · have := hl3 b5 (by simpa using hm); omega
      have g58 : Fr (t2 :: B.toList) w5 w8 := ((f6.mono (by simp)).trans' (f7.mono (fun x hx => .inl (List.mem_cons_of_mem _ hx)))).trans' (f8.mono (fun x hx => .inl (by simp at hx; simp [hx])))
      have q8 : CopyI w t2 bt1 tags (dn ++ [row]) w8 := by
        refine ⟨vt, .slice a7 (dm + 1) c7, some b7, rv2 ++ [.slice va5 rn vc5], bs2 ++ [b5], b8, C2.out.keep g8 ?_, ?_, (C4.out.keep g8 hS).snoc (by rw [Hrn.out]; exact ho5.keep g58 (by intro x hx; cases hx; exact hS5)), ?_, ?_, F.out.trans g8 ?_⟩
        · intro x hx hm
          cases hx
          rcases List.mem_cons.1 hm with h | hm
          · exact hnd.1.1 h.symm
          · exact hnd.2.1.1 (by simpa using hm)
        · rw [List.length_append, Hdm.out]
          exact ho7.keep f8 (by intro x hx; cases hx; simp; exact n1)
        · simp only [Option.toList_some, List.cons_append, List.nil_append, List.nodup_cons, List.mem_cons, not_or, List.mem_append, List.nodup_append, List.not_mem_nil, or_false, not_false_eq_true, List.nodup_nil, and_true]
          refine ⟨⟨hnd.1.1, fun h => n1 h.symm, hnd.1.2.2, by omega⟩, ⟨fun h => n2 h.symm, hnd.2.1.2, by omega⟩, ⟨n3, n4⟩, hnd.2.2.2.1, ?_⟩
          exact ⟨trivial, fun x hx y hy h => n5 (hy ▸ h ▸ hx)⟩
        · simp only [Option.toList_some, List.cons_append, List.nil_append, List.mem_cons, List.mem_append, List.not_mem_nil, or_false]
          rintro x (rfl | rfl | rfl | hx | rfl)
          · exact h6 _ (by simp)
          · exact h6 _ (by simp)
          · rcases hb7 with h | h
            · exact h6 _ (by simp [h])
            · omega
          · exact h6 _ (by simp [hx])
          · omega
        · intro x hx
          refine .inr (h6 _ ?_)
          rcases List.mem_cons.1 hx with rfl | hx
          · simp
          · simp at hx
            simp [hx]
      clear hnd n1 n2 n3 n4 n5 hS hS5 hb7 ho7 hl1 hl2 hl3 hl4 h6
      go_wp2_with fail
      go_roundw
      case rel => exact ⟨k + 1, dn ++ [row], rest, by go_num, by rw [E1.out]; simp, by rw [List.length_append, E2.out]; rfl, q8⟩
      case measure => simp [intOf]; omega
    · have hd2 : decide ((k : Int) < (m : Int)) = false := by simp; omega
      have hd2' : ¬ ((k : Int) < (m : Int)) := by omega
      obtain rfl : todo = [] := List.eq_nil_of_length_eq_zero (by omega)
      rw [List.append_nil] at e1
      obtain ⟨b7, rfl⟩ : ∃ b7, B = some b7 := by
        rcases c3.shape with ⟨_, h0, _⟩ | ⟨b9, _, h0, _⟩
        · rw [e2] at h0; simp at HmE; omega
        · exact ⟨b9, h0⟩
      have q : TreeAt wr (t2 :: bt1 :: b7 :: bs2) t2 tags rows := by rw [e1]; exact ⟨rv2, vt, bt1, vr, b7, bs2, rfl, c1, c2, c3, c4, by simpa using c5⟩
      clear e1 e2 HmE c1 c2 c3 c4 c5
      go_wp2_with fail
      go_ret
      exact ⟨⟨t2, rfl, _, q, by simpa using c6⟩, f⟩
end Go.Proofs.Ythfjjencnfebmaa.mer
