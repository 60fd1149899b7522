/- Layer 10, merkle: a tag is set. -/
import Derived.Test.YthfjjencnfebmaaMerF
namespace Go.Xr
open Go
set_option linter.unusedVariables false
/-- One element of an owned slice is written. -/
theorem Own.put {w : World} {v : Value} {n : Nat} {xs : List Value} {b : Nat} (h : Xr.Own w 1 v n xs (some b)) : ∃ cs, Blk w b cs ∧ n ≤ cs.length ∧ ∀ (i : Nat) (x : Value) (w' : World), Blk w' b (cs.set i x) → Xr.Own w' 1 v n (xs.set i x) (some b) := by
  obtain ⟨cs, h1, h2, h3, h4⟩ := h.blkOf
  refine ⟨cs, h1, h2, fun i x w' hb => ?_⟩
  have := h4 w' _ hb (by simp)
  rwa [List.take_set, h3] at this
end Go.Xr
namespace Go.Proofs.Ythfjjencnfebmaa.mer
open Go Go.Xr Go.RowKit
set_option linter.unusedVariables false
set_option linter.unusedSimpArgs false
/-- Rows in which part i of the first is p: what follows in those above. -/
def setF : List (List ByteArray) → Nat → ByteArray → List (List ByteArray)
  | [], _, _ => []
  | r :: rest, i, p => r.set i p :: setF rest (i / 8) (nodeS (grp (r.set i p) i))
/-- Rows that are one above the other. -/
def Chain : List (List ByteArray) → Prop
  | [] => True
  | r :: rest => 0 < r.length ∧ r.length ≤ 16384 ∧ (∀ s ∈ r, s.size = 32) ∧ (∀ r2, rest.head? = some r2 → r2.length = (r.length + 7) / 8) ∧ Chain rest
theorem rowsF_head (f : Nat) (r : List ByteArray) : (rowsF f r).head? = some r := by
  cases f with
  | zero => rfl
  | succ f =>
    simp only [rowsF]
    split <;> rfl
theorem chain_rowsF : ∀ (f : Nat) (r : List ByteArray), 0 < r.length → r.length ≤ 16384 → (∀ s ∈ r, s.size = 32) → Chain (rowsF f r)
  | 0, r, h1, h2, h3 => ⟨h1, h2, h3, by simp, trivial⟩
  | f + 1, r, h1, h2, h3 => by
    simp only [rowsF]
    split
    · exact ⟨h1, h2, h3, by simp, trivial⟩
    · refine ⟨h1, h2, h3, fun r2 h => ?_, chain_rowsF f (upS r) (upS_pos r h1) (by rw [upS_len]; omega) (upS_32 r)⟩
      rw [rowsF_head] at h
      cases h
      exact upS_len r
theorem chain_rows (tags : List ByteArray) (h1 : 0 < tags.length) (h2 : tags.length ≤ 16384) : Chain (rowsS tags) := chain_rowsF _ _ (by rw [leafs_len]; exact h1) (by rw [leafs_len]; exact h2) (leafs_32 tags)
theorem upS_set (r : List ByteArray) (i : Nat) (p : ByteArray) (hi : i < r.length) : upS (r.set i p) = (upS r).set (i / 8) (nodeS (grp (r.set i p) i)) := by
  apply List.ext_getElem?
  intro j
  unfold upS upN
  rw [List.getElem?_map, List.getElem?_set, List.length_set, List.getElem?_map, List.length_map, List.length_range]
  by_cases hj : j < (r.length + 7) / 8
  · rw [List.getElem?_range hj, Option.map_some, Option.map_some]
    by_cases hji : i / 8 = j
    · subst hji
      rw [if_pos rfl, if_pos hj]
      unfold grp
      rw [Nat.mul_comm]
    · rw [if_neg hji]
      congr 2
      apply List.ext_getElem?
      intro k
      rw [List.getElem?_take, List.getElem?_take]
      by_cases hk : k < 8
      · rw [if_pos hk, if_pos hk, List.getElem?_drop, List.getElem?_drop, List.getElem?_set_ne (by omega)]
      · rw [if_neg hk, if_neg hk]
  · have e : (List.range ((r.length + 7) / 8))[j]? = none := List.getElem?_eq_none (by simp; omega)
    rw [e]
    by_cases hji : i / 8 = j
    · rw [if_pos hji, if_neg (by omega)]; rfl
    · rw [if_neg hji]; rfl
theorem setF_rowsF : ∀ (f : Nat) (r : List ByteArray) (i : Nat) (p : ByteArray), i < r.length → setF (rowsF f r) i p = rowsF f (r.set i p)
  | 0, r, i, p, h => rfl
  | f + 1, r, i, p, h => by
    simp only [rowsF, List.length_set]
    split
    · rfl
    · rw [setF, setF_rowsF f (upS r) (i / 8) _ (by rw [upS_len]; omega), upS_set r i p h]
theorem leafs_set (tags : List ByteArray) (i : Nat) (t : ByteArray) (h : i < tags.length) : leafs (tags.set i t) = (leafs tags).set i (leafS i t) := by
  unfold leafs
  apply List.ext_getElem?
  intro j
  rw [List.getElem?_mapIdx, List.getElem?_set, List.getElem?_set, List.length_mapIdx, List.getElem?_mapIdx]
  by_cases hji : i = j
  · subst hji
    rw [if_pos rfl, if_pos rfl, if_pos h, if_pos h]
    rfl
  · rw [if_neg hji, if_neg hji]
theorem rowsS_set (tags : List ByteArray) (i : Nat) (t : ByteArray) (h : i < tags.length) : setF (rowsS tags) i (leafS i t) = rowsS (tags.set i t) := by
  unfold rowsS
  rw [setF_rowsF _ _ _ _ (by rw [leafs_len]; exact h), List.length_set, leafs_set _ _ _ h]
theorem RowsAt.put {w w' : World} {rvs : List Value} {rows : List (List ByteArray)} {bs : List Nat} (h : RowsAt w rvs rows bs) (hn : bs.Nodup) {k b : Nat} {v : Value} {r r' : List ByteArray} (hk : rows[k]? = some r) (hb : bs[k]? = some b) (hv : rvs[k]? = some v) (f : Fr [b] w w') (ho : Xr.Own w' 1 v r'.length (r'.map .string) (some b)) : RowsAt w' rvs (rows.set k r') bs := by
  obtain ⟨h1, h2, h3⟩ := h
  refine ⟨by simpa using h1, by simpa using h2, fun j r2 hj => ?_⟩
  rw [List.getElem?_set] at hj
  by_cases hjk : k = j
  · subst hjk
    rw [if_pos rfl] at hj
    split at hj
    · cases hj
      exact ⟨v, b, hv, hb, ho⟩
    · cases hj
  · rw [if_neg hjk] at hj
    obtain ⟨v2, b2, e1, e2, e3⟩ := h3 j r2 hj
    refine ⟨v2, b2, e1, e2, e3.keep f fun x hx => ?_⟩
    cases hx
    intro hm
    obtain rfl : b2 = b := by simpa using hm
    obtain ⟨l1, q1⟩ := List.getElem?_eq_some_iff.1 e2
    obtain ⟨l2, q2⟩ := List.getElem?_eq_some_iff.1 hb
    exact hjk ((List.getElem_inj hn).1 (q2.trans q1.symm))
/-- Between two rounds of 'Set': the first rows are done. -/
def SetI (w0 : World) (bl : List Nat) (tb : Nat) (tags : List ByteArray) (rows : List (List ByteArray)) (rvs : List Value) (R : List (List ByteArray)) (k i : Nat) (p : ByteArray) (w : World) : Prop :=
  ∃ dn todo, p.size = 32 ∧ R = dn ++ setF todo i p ∧ dn.length = k ∧ (dn ++ todo).length = rows.length ∧ Chain todo ∧ (∀ r, todo.head? = some r → i < r.length) ∧ TreeP w bl tb tags (dn ++ todo) rvs ∧ Fr bl w0 w
set_option maxRecDepth 20000 in
theorem set_nil {w : World} (i : Int) (tag : ByteArray) : Calls Try.prog 20 #[.pointer none, .int .i64 i, .string tag] w fun e w' => e = .returned (.int .i64 1) ∧ w' = w := by
  go_enter Try.func20, Try.ntmps20
  go_wp2_with (go_at_call 36; refine (not_nil i).mono ?_; rintro e w1 ⟨rfl, rfl⟩)
  go_ret
  exact ⟨rfl, rfl⟩
theorem set_not {w : World} {bl : List Nat} {tb : Nat} {tags : List ByteArray} {rows : List (List ByteArray)} (h : TreeAt w bl tb tags rows) (hn : 0 < tags.length) (i : Int) (tag : ByteArray) (hi : ¬ (0 ≤ i ∧ i < tags.length)) : Calls Try.prog 20 #[.pointer (some ⟨tb, 0, none⟩), .int .i64 i, .string tag] w fun e w' => e = .returned (.int .i64 2) ∧ w' = w := by
  have Hl := hid (not_any h hn i)
  have HN := hid (show notI tags.length i = 2 by unfold notI; rw [if_neg hi])
  go_enter Try.func20, Try.ntmps20
  go_wp2_with (go_at_call 36; refine Hl.out.mono ?_; rintro e w1 ⟨rfl, rfl⟩; rw [HN.out])
  go_ret
  exact ⟨rfl, rfl⟩
theorem str_some {s : ByteArray} (h : s.size ≠ 0) : s.toList.isEmpty = false := by
  rw [ByteArray.toList_eq]
  cases e : s.data.toList with
  | nil => exact absurd (show s.size = 0 by simp [ByteArray.size, ← Array.length_toList, e]) h
  | cons _ _ => rfl
theorem str_none {s : ByteArray} (h : s.size = 0) : s.toList.isEmpty = true := by
  rw [ByteArray.toList_eq]
  cases e : s.data.toList with
  | nil => rfl
  | cons _ _ => exact absurd h (by simp [ByteArray.size, ← Array.length_toList, e])
set_option maxRecDepth 20000 in
theorem set_size {w : World} {bl : List Nat} {tb : Nat} {tags : List ByteArray} {rows : List (List ByteArray)} (h : TreeAt w bl tb tags rows) (hn : 0 < tags.length) (i : Int) (tag : ByteArray) (hi : 0 ≤ i ∧ i < tags.length) (ht : tag.size ≠ 0 ∧ tag.size ≠ 32) : Calls Try.prog 20 #[.pointer (some ⟨tb, 0, none⟩), .int .i64 i, .string tag] w fun e w' => e = .returned (.int .i64 2) ∧ w' = w := by
  have Hl := hid (not_any h hn i)
  have HN := hid (show notI tags.length i = 0 by unfold notI; rw [if_pos hi])
  have hs1 := str_some ht.1
  have hs3 : ((tag.size : Int) != 32) = true := by simp; omega
  go_enter Try.func20, Try.ntmps20
  go_wp2_with (go_at_call 36; refine Hl.out.mono ?_; rintro e w1 ⟨rfl, rfl⟩; rw [HN.out])
  go_ret
  exact ⟨rfl, rfl⟩
set_option maxRecDepth 20000 in
set_option maxHeartbeats 1000000 in
theorem set_any {w : World} {bl : List Nat} {tb : Nat} {tags : List ByteArray} (h : TreeAt w bl tb tags (rowsS tags)) (hl : tags.length ≤ 16384) (i : Nat) (tag : ByteArray) (hi : i < tags.length) (ht : tag.size = 0 ∨ tag.size = 32) : Calls Try.prog 20 #[.pointer (some ⟨tb, 0, none⟩), .int .i64 (i : Int), .string tag] w fun e w' => e = .returned (.int .i64 0) ∧ TreeAt w' bl tb (tags.set i tag) (rowsS (tags.set i tag)) ∧ Fr bl w w' := by
  have Hl := hid (not_any h (by omega) i)
  have HN := hid (show notI tags.length i = 0 by unfold notI; rw [if_pos (by omega)])
  have HR := hid (rowsS_set tags i tag hi)
  have HC := hid (chain_rows tags (by omega) hl)
  have HH := hid (show ∀ r, (rowsS tags).head? = some r → i < r.length by
    intro r hr
    unfold rowsS at hr
    rw [rowsF_head] at hr
    cases hr
    rw [leafs_len]
    exact hi)
  have Ht := hid ht
  have hts : tag.size < 1099511627000 := by omega
  clear ht
  obtain ⟨rvs, h⟩ := h
  obtain ⟨bt, ct, br, cr, bs, rfl, h1, h2, h3, h4, h5, h6, h7⟩ := h.cells
  have k0 : w.cell? ⟨tb, 0, none⟩ = some (.slice (some ⟨bt, 0, none⟩) tags.length ct) := h1.cell 0
  obtain ⟨tcs, hb2, hlen2, hput2⟩ := h2.put
  obtain ⟨n, hn⟩ : ∃ n, tags.length = n := ⟨_, rfl⟩
  have Hn := hid hn
  have hi1 : (i : Int) < (tags.length : Int) := by omega
  have hi2 : decide ((i : Int) < (tags.length : Int)) = true := by simp; omega
  rw [hn] at hi1 hi2 k0 Hl HN
  rcases Ht.out with ht | ht
  · have hs1 := str_none ht
    clear Ht ht
    go_enter Try.func20, Try.ntmps20
    go_wp2_with (first
      | (go_at_call 36; refine Hl.out.mono ?_; rintro e w1 ⟨rfl, rfl⟩; rw [HN.out])
      | (refine wpList_put rfl _ _ _ rfl rfl (.string tag) rfl rfl hb2 (by omega) (by kernel_rfl) ?_; intro w2 f2 b2 hs2; revert f2; simp only [World.size_alloc, World.size_drew, Act.put, List.setIfInBounds_toArray, List.set_cons_succ, List.set_cons_zero]))
    intro f2
    have hnd := h7
    simp only [List.nodup_cons, List.mem_cons, not_or] at hnd
    have hlt := h.lt
    have q2 : TreeP w2 (tb :: bt :: br :: bs) tb (tags.set i tag) (rowsS tags) rvs := by
      refine ⟨_, bt, _, br, bs, rfl, f2.blk h1 (by simp; exact hnd.1.1), ?_, h3.keep f2 (by intro x hx; cases hx; simp; exact fun h => hnd.2.1.1 h.symm), h6.keep f2 (by intro x hx; simp; rintro rfl; exact hnd.2.1.2 hx), h7⟩
      have := hput2 _ _ _ b2
      rw [List.length_set, List.map_set]
      exact this
    have k1 : w2.cell? ⟨tb, 1, none⟩ = some (.slice (some ⟨br, 0, none⟩) (rowsS tags).length cr) := (f2.blk h1 (by simp; exact hnd.1.1)).cell 1
    obtain ⟨rows, hrows⟩ : ∃ rows, rowsS tags = rows := ⟨_, rfl⟩
    rw [hrows] at k1 q2 h5 HR HC HH
    obtain ⟨Rn, hRn⟩ : ∃ Rn, rows.length = Rn := ⟨_, rfl⟩
    have HRn := hid hRn
    rw [hRn] at k1 h5
    have HF2 := hid f2
    have hRb : Rn ≤ 9223372036854775807 := by
      rcases h3.shape with ⟨_, _, _, h0⟩ | ⟨_, _, _, hv, hx, hm⟩
      · cases h0
      · simp at hv; unfold maxLen at hm; rw [hrows] at hx; omega
    clear h h1 h2 h3 h6 hb2 hput2 k0 hrows hRn f2 b2
    go_wp2_with (go_at_call 37; refine (leaf_any i tag (by omega) hts).mono ?_; rintro e w3 ⟨rfl, f3⟩; have k3 := f3.cell_some k1)
    have hI0 : SetI w1 (tb :: bt :: br :: bs) tb (tags.set i tag) rows rvs (rowsS (tags.set i tag)) 0 i (leafS i tag) w3 := by
      refine ⟨[], rows, shaS_size _, HR.out.symm, rfl, rfl, HC.out, HH.out, q2.keep f3 (by simp), (HF2.out.mono (by simp)).trans' (f3.mono (by simp))⟩
    have HI0 := hid hI0
    clear hI0 q2 k1 k3
    go_loopw [1, 8, 41] (fun iv pv kv wr => ∃ (i' k : Nat) (p : ByteArray), iv = .int .i64 (i' : Int) ∧ pv = .string p ∧ kv = .int .i64 (k : Int) ∧ k ≤ Rn ∧ SetI w1 (tb :: bt :: br :: bs) tb (tags.set i tag) rows rvs (rowsS (tags.set i tag)) k i' p wr) (fun _ _ kv _ => Rn - (intOf kv).toNat)
    case atStart => exact ⟨i, 0, _, rfl, rfl, rfl, by omega, HI0.out⟩
    case round =>
      obtain ⟨i', k, p, rfl, rfl, rfl, hk, dn, todo, e0, e1, e2, e3, e4, e5, e6, e7⟩ := hrel
      clear HI0
      by_cases hkl : k < Rn
      · have hd1 : decide ((k : Int) < (Rn : Int)) = true := by simp; omega
        have hd1' : (k : Int) < (Rn : Int) := by omega
        obtain ⟨row, rest, rfl⟩ : ∃ row rest, todo = row :: rest := by
          cases todo with
          | nil => rw [HRn.out] at e3; simp at e3; omega
          | cons a b => exact ⟨a, b, rfl⟩
        have hil := e5 row rfl
        obtain ⟨c1, c2, c3, c4, c5⟩ := e4
        obtain ⟨bt2, ct2, br2, cr2, bs2, hbl, g1, g2, g3, g4, g5, g6, g7⟩ := e6.cells
        obtain ⟨rfl, rfl, rfl⟩ : bt = bt2 ∧ br = br2 ∧ bs = bs2 := by simpa using hbl
        obtain ⟨v, b, r1, r2, r3⟩ := g6.2.2 k row (by rw [← e2]; simp)
        obtain ⟨cv, rfl, hcv⟩ : ∃ cv, v = .slice (some ⟨b, 0, none⟩) row.length cv ∧ row.length ≤ cv := by
          rcases r3.shape with ⟨_, _, _, h0⟩ | ⟨b2, ct, h0, hv, hc2, _⟩
          · cases h0
          · cases h0; exact ⟨ct, hv, hc2⟩
        have kk1 : wr.cell? ⟨tb, 1, none⟩ = some (.slice (some ⟨br, 0, none⟩) Rn cr2) := by rw [← HRn.out, ← e3]; exact g1.cell 1
        have kk2 : wr.cell? ⟨br, k, none⟩ = some (.slice (some ⟨b, 0, none⟩) row.length cv) := by rw [g3.cellAt rfl (by rw [g6.1, e3, HRn.out]; exact hkl), r1]
        obtain ⟨cs, s1, s2, s3⟩ := r3.put
        have hbm : b ∈ bs := List.mem_of_getElem? r2
        have hbtb : tb ≠ b := fun h => hnd.1.2.2 (h ▸ hbm)
        obtain ⟨rn, hrn⟩ : ∃ rn, row.length = rn := ⟨_, rfl⟩
        have HG := hid (show (row.set i' p).length = rn by rw [List.length_set, hrn])
        have H32 := hid c3
        have HC4 := hid c4
        have hil1 : (i' : Int) < (rn : Int) := by omega
        have hil2 : decide ((i' : Int) < (rn : Int)) = true := by simp; omega
        have S3 := hid s3
        have R3 := hid r3
        have G6 := hid g6
        have G1 := hid g1
        have G2 := hid g2
        have G3 := hid g3
        have E6 := hid e6
        have E1 := hid e1
        have Hrn := hid hrn
        have E2 := hid e2
        have E3 := hid e3
        have C5 := hid c5
        have R1 := hid r1
        have R2 := hid r2
        rw [hrn] at kk2 c1 c2 hil hcv
        have htl : tb < wr.heap.size := g1.lt
        clear s3 r3 g1 g2 g3 g6 e1 e2 e3 e5 e6 c3 c4 c5 hrn r1 r2
        by_cases hk1 : k + 1 < Rn
        · have hd2 : decide ((k : Int) + 1 < (Rn : Int)) = true := by simp; omega
          have hd2' : (k : Int) + 1 < (Rn : Int) := by omega
          have hq : ∀ t, binOp .quo t (.int .i64 (i' : Int)) (.int .i64 8) = pure (.int .i64 ((i' / 8 : Nat) : Int)) := fun t => quo_i t i' 8 (by omega) (by decide)
          obtain ⟨r', hr'⟩ : ∃ r', row.set i' p = r' := ⟨_, rfl⟩
          have Hgl := hid (grp_len (row.set i' p) i')
          rw [hr'] at Hgl HG
          obtain ⟨G, hG⟩ : ∃ G, grp r' i' = G := ⟨_, rfl⟩
          rw [hG] at Hgl
          have HGG := hid hG
          have Hr' := hid hr'
          clear hr' hG
          obtain ⟨i8, hi8⟩ : ∃ i8, i' / 8 = i8 := ⟨_, rfl⟩
          rw [hi8] at hq
          have Hi8 := hid hi8
          have Hgs := hid (show (G.map ByteArray.size).sum < 1099511627000 by
            have h1 := sum_le G 32 fun s hs => by
              rw [← HGG.out] at hs
              have hm := List.mem_of_mem_drop (List.mem_of_mem_take hs)
              rw [← Hr'.out] at hm
              rcases List.mem_or_eq_of_mem_set hm with h | h
              · rw [H32.out s h]; exact Nat.le_refl _
              · rw [h, e0]; exact Nat.le_refl _
            have h2 := Hgl.out
            omega)
          clear hi8
          go_wp2_with (first
            | (refine wpList_put rfl _ _ _ rfl rfl (.string p) rfl rfl s1 (by have := Hrn.out; omega) (by kernel_rfl) ?_; intro w5 f5 b5 hs5; have k51 := (World.cell?_of_block (a := ⟨tb, 1, none⟩) (f5.block tb htl (by simp; exact hbtb))).trans kk1; simp only [World.size_alloc, World.size_drew, Act.put, List.setIfInBounds_toArray, List.set_cons_succ, List.set_cons_zero])
            | (go_at_call 39; refine (group_any (l := r') (B := some b) (w := w5) (by
                  have ho := S3.out i' (.string p) w5 b5
                  have := ho.rd.rc
                  rw [← List.map_set, Hr'.out, Hrn.out] at this
                  rw [HG.out]; exact this) (by rw [HG.out]; omega) i' (by rw [HG.out]; exact hil)).mono ?_; rintro e w6 ⟨⟨v6, rfl, h6⟩, hw6⟩; have hw7 := hw6.symm; subst hw7; rw [HGG.out] at h6)
            | (go_at_call 38; refine (node_any h6 (by rw [Hgl.out]; omega) Hgs.out).mono ?_; rintro e w7 ⟨rfl, f7⟩))
          have q5 : TreeP w5 (tb :: bt :: br :: bs) tb (tags.set i tag) (dn ++ row.set i' p :: rest) rvs := by
            have ho := S3.out i' (.string p) w5 b5
            have e : (dn ++ row :: rest).set k (row.set i' p) = dn ++ row.set i' p :: rest := by
              rw [List.set_append_right _ _ (by rw [E2.out]; exact Nat.le_refl _), E2.out, Nat.sub_self, List.set_cons_zero]
            refine ⟨_, bt, _, br, bs, rfl, f5.blk G1.out (by simp; exact hbtb), G2.out.keep f5 (by intro x hx; cases hx; simp; rintro rfl; exact hnd.2.1.2 hbm), ?_, ?_, g7⟩
            · have := G3.out.keep f5 (by intro x hx; cases hx; simp; rintro rfl; exact hnd.2.2.1 hbm)
              simpa using this
            · rw [← e]
              refine G6.out.put (r := row) hnd.2.2.2 (by rw [← E2.out]; simp) R2.out R1.out f5 ?_
              rw [List.length_set, List.map_set]
              exact ho
          go_roundw
          case rel =>
            refine ⟨i8, k + 1, nodeS G, rfl, rfl, by go_num, by omega, dn ++ [row.set i' p], rest, shaS_size _, ?_, by rw [List.length_append, E2.out]; rfl, by have := E3.out; simpa using this, C5.out, ?_, ?_, (e7.trans' (f5.mono (by simp [hbm]))).trans' (f7.mono (by simp))⟩
            · rw [E1.out, setF, Hr'.out, HGG.out, Hi8.out]
              simp
            · intro r2 hr2
              have h1 := HC4.out r2 hr2
              have h2 := Hrn.out
              have h3 := Hi8.out
              omega
            · have := q5.keep f7 (by simp)
              simpa using this
          case measure => simp [intOf]; omega
        · have hd2 : decide ((k : Int) + 1 < (Rn : Int)) = false := by simp; omega
          have hd2' : ¬ ((k : Int) + 1 < (Rn : Int)) := by omega
          have hrest : rest = [] := by
            have h1 := E3.out
            have h2 := E2.out
            rw [HRn.out, List.length_append, List.length_cons] at h1
            exact List.eq_nil_of_length_eq_zero (by omega)
          have Hrest := hid hrest
          clear hrest
          go_wp2_with (refine wpList_put rfl _ _ _ rfl rfl (.string p) rfl rfl s1 (by have := Hrn.out; omega) (by kernel_rfl) ?_; intro w5 f5 b5 hs5; have k51 := (World.cell?_of_block (a := ⟨tb, 1, none⟩) (f5.block tb htl (by simp; exact hbtb))).trans kk1; simp only [World.size_alloc, World.size_drew, Act.put, List.setIfInBounds_toArray, List.set_cons_succ, List.set_cons_zero])
          have q5 : TreeP w5 (tb :: bt :: br :: bs) tb (tags.set i tag) (dn ++ row.set i' p :: rest) rvs := by
            have ho := S3.out i' (.string p) w5 b5
            have e : (dn ++ row :: rest).set k (row.set i' p) = dn ++ row.set i' p :: rest := by
              rw [List.set_append_right _ _ (by rw [E2.out]; exact Nat.le_refl _), E2.out, Nat.sub_self, List.set_cons_zero]
            refine ⟨_, bt, _, br, bs, rfl, f5.blk G1.out (by simp; exact hbtb), G2.out.keep f5 (by intro x hx; cases hx; simp; rintro rfl; exact hnd.2.1.2 hbm), ?_, ?_, g7⟩
            · have := G3.out.keep f5 (by intro x hx; cases hx; simp; rintro rfl; exact hnd.2.2.1 hbm)
              simpa using this
            · rw [← e]
              refine G6.out.put (r := row) hnd.2.2.2 (by rw [← E2.out]; simp) R2.out R1.out f5 ?_
              rw [List.length_set, List.map_set]
              exact ho
          go_roundw
          case rel =>
            have E3' := E3.out
            have E1' := E1.out
            rw [Hrest.out] at q5 E3' E1'
            refine ⟨i', k + 1, p, rfl, rfl, by go_num, by omega, dn ++ [row.set i' p], [], e0, by rw [E1']; simp [setF], by rw [List.length_append, E2.out]; rfl, by simpa using E3', trivial, by simp, by simpa using q5, e7.trans' (f5.mono (by simp [hbm]))⟩
          case measure => simp [intOf]; omega
      · have hd1 : decide ((k : Int) < (Rn : Int)) = false := by simp; omega
        have hd1' : ¬ ((k : Int) < (Rn : Int)) := by omega
        obtain rfl : todo = [] := by
          rw [HRn.out, List.length_append] at e3
          exact List.eq_nil_of_length_eq_zero (by omega)
        simp only [setF, List.append_nil] at e1 e6
        rw [← e1] at e6
        clear e1 e2 e3 e4 e5
        go_wp2_with fail
        go_ret
        exact ⟨rfl, ⟨rvs, e6⟩, e7⟩
  · have hs1 := str_some (s := tag) (by omega)
    have hs3 : ((tag.size : Int) != 32) = false := by rw [ht]; rfl
    clear Ht ht
    go_enter Try.func20, Try.ntmps20
    go_wp2_with (first
      | (go_at_call 36; refine Hl.out.mono ?_; rintro e w1 ⟨rfl, rfl⟩; rw [HN.out])
      | (refine wpList_put rfl _ _ _ rfl rfl (.string tag) rfl rfl hb2 (by omega) (by kernel_rfl) ?_; intro w2 f2 b2 hs2; revert f2; simp only [World.size_alloc, World.size_drew, Act.put, List.setIfInBounds_toArray, List.set_cons_succ, List.set_cons_zero]))
    intro f2
    have hnd := h7
    simp only [List.nodup_cons, List.mem_cons, not_or] at hnd
    have hlt := h.lt
    have q2 : TreeP w2 (tb :: bt :: br :: bs) tb (tags.set i tag) (rowsS tags) rvs := by
      refine ⟨_, bt, _, br, bs, rfl, f2.blk h1 (by simp; exact hnd.1.1), ?_, h3.keep f2 (by intro x hx; cases hx; simp; exact fun h => hnd.2.1.1 h.symm), h6.keep f2 (by intro x hx; simp; rintro rfl; exact hnd.2.1.2 hx), h7⟩
      have := hput2 _ _ _ b2
      rw [List.length_set, List.map_set]
      exact this
    have k1 : w2.cell? ⟨tb, 1, none⟩ = some (.slice (some ⟨br, 0, none⟩) (rowsS tags).length cr) := (f2.blk h1 (by simp; exact hnd.1.1)).cell 1
    obtain ⟨rows, hrows⟩ : ∃ rows, rowsS tags = rows := ⟨_, rfl⟩
    rw [hrows] at k1 q2 h5 HR HC HH
    obtain ⟨Rn, hRn⟩ : ∃ Rn, rows.length = Rn := ⟨_, rfl⟩
    have HRn := hid hRn
    rw [hRn] at k1 h5
    have HF2 := hid f2
    have hRb : Rn ≤ 9223372036854775807 := by
      rcases h3.shape with ⟨_, _, _, h0⟩ | ⟨_, _, _, hv, hx, hm⟩
      · cases h0
      · simp at hv; unfold maxLen at hm; rw [hrows] at hx; omega
    clear h h1 h2 h3 h6 hb2 hput2 k0 hrows hRn f2 b2
    go_wp2_with (go_at_call 37; refine (leaf_any i tag (by omega) hts).mono ?_; rintro e w3 ⟨rfl, f3⟩; have k3 := f3.cell_some k1)
    have hI0 : SetI w1 (tb :: bt :: br :: bs) tb (tags.set i tag) rows rvs (rowsS (tags.set i tag)) 0 i (leafS i tag) w3 := by
      refine ⟨[], rows, shaS_size _, HR.out.symm, rfl, rfl, HC.out, HH.out, q2.keep f3 (by simp), (HF2.out.mono (by simp)).trans' (f3.mono (by simp))⟩
    have HI0 := hid hI0
    clear hI0 q2 k1 k3
    go_loopw [1, 8, 41] (fun iv pv kv wr => ∃ (i' k : Nat) (p : ByteArray), iv = .int .i64 (i' : Int) ∧ pv = .string p ∧ kv = .int .i64 (k : Int) ∧ k ≤ Rn ∧ SetI w1 (tb :: bt :: br :: bs) tb (tags.set i tag) rows rvs (rowsS (tags.set i tag)) k i' p wr) (fun _ _ kv _ => Rn - (intOf kv).toNat)
    case atStart => exact ⟨i, 0, _, rfl, rfl, rfl, by omega, HI0.out⟩
    case round =>
      obtain ⟨i', k, p, rfl, rfl, rfl, hk, dn, todo, e0, e1, e2, e3, e4, e5, e6, e7⟩ := hrel
      clear HI0
      by_cases hkl : k < Rn
      · have hd1 : decide ((k : Int) < (Rn : Int)) = true := by simp; omega
        have hd1' : (k : Int) < (Rn : Int) := by omega
        obtain ⟨row, rest, rfl⟩ : ∃ row rest, todo = row :: rest := by
          cases todo with
          | nil => rw [HRn.out] at e3; simp at e3; omega
          | cons a b => exact ⟨a, b, rfl⟩
        have hil := e5 row rfl
        obtain ⟨c1, c2, c3, c4, c5⟩ := e4
        obtain ⟨bt2, ct2, br2, cr2, bs2, hbl, g1, g2, g3, g4, g5, g6, g7⟩ := e6.cells
        obtain ⟨rfl, rfl, rfl⟩ : bt = bt2 ∧ br = br2 ∧ bs = bs2 := by simpa using hbl
        obtain ⟨v, b, r1, r2, r3⟩ := g6.2.2 k row (by rw [← e2]; simp)
        obtain ⟨cv, rfl, hcv⟩ : ∃ cv, v = .slice (some ⟨b, 0, none⟩) row.length cv ∧ row.length ≤ cv := by
          rcases r3.shape with ⟨_, _, _, h0⟩ | ⟨b2, ct, h0, hv, hc2, _⟩
          · cases h0
          · cases h0; exact ⟨ct, hv, hc2⟩
        have kk1 : wr.cell? ⟨tb, 1, none⟩ = some (.slice (some ⟨br, 0, none⟩) Rn cr2) := by rw [← HRn.out, ← e3]; exact g1.cell 1
        have kk2 : wr.cell? ⟨br, k, none⟩ = some (.slice (some ⟨b, 0, none⟩) row.length cv) := by rw [g3.cellAt rfl (by rw [g6.1, e3, HRn.out]; exact hkl), r1]
        obtain ⟨cs, s1, s2, s3⟩ := r3.put
        have hbm : b ∈ bs := List.mem_of_getElem? r2
        have hbtb : tb ≠ b := fun h => hnd.1.2.2 (h ▸ hbm)
        obtain ⟨rn, hrn⟩ : ∃ rn, row.length = rn := ⟨_, rfl⟩
        have HG := hid (show (row.set i' p).length = rn by rw [List.length_set, hrn])
        have H32 := hid c3
        have HC4 := hid c4
        have hil1 : (i' : Int) < (rn : Int) := by omega
        have hil2 : decide ((i' : Int) < (rn : Int)) = true := by simp; omega
        have S3 := hid s3
        have R3 := hid r3
        have G6 := hid g6
        have G1 := hid g1
        have G2 := hid g2
        have G3 := hid g3
        have E6 := hid e6
        have E1 := hid e1
        have Hrn := hid hrn
        have E2 := hid e2
        have E3 := hid e3
        have C5 := hid c5
        have R1 := hid r1
        have R2 := hid r2
        rw [hrn] at kk2 c1 c2 hil hcv
        have htl : tb < wr.heap.size := g1.lt
        clear s3 r3 g1 g2 g3 g6 e1 e2 e3 e5 e6 c3 c4 c5 hrn r1 r2
        by_cases hk1 : k + 1 < Rn
        · have hd2 : decide ((k : Int) + 1 < (Rn : Int)) = true := by simp; omega
          have hd2' : (k : Int) + 1 < (Rn : Int) := by omega
          have hq : ∀ t, binOp .quo t (.int .i64 (i' : Int)) (.int .i64 8) = pure (.int .i64 ((i' / 8 : Nat) : Int)) := fun t => quo_i t i' 8 (by omega) (by decide)
          obtain ⟨r', hr'⟩ : ∃ r', row.set i' p = r' := ⟨_, rfl⟩
          have Hgl := hid (grp_len (row.set i' p) i')
          rw [hr'] at Hgl HG
          obtain ⟨G, hG⟩ : ∃ G, grp r' i' = G := ⟨_, rfl⟩
          rw [hG] at Hgl
          have HGG := hid hG
          have Hr' := hid hr'
          clear hr' hG
          obtain ⟨i8, hi8⟩ : ∃ i8, i' / 8 = i8 := ⟨_, rfl⟩
          rw [hi8] at hq
          have Hi8 := hid hi8
          have Hgs := hid (show (G.map ByteArray.size).sum < 1099511627000 by
            have h1 := sum_le G 32 fun s hs => by
              rw [← HGG.out] at hs
              have hm := List.mem_of_mem_drop (List.mem_of_mem_take hs)
              rw [← Hr'.out] at hm
              rcases List.mem_or_eq_of_mem_set hm with h | h
              · rw [H32.out s h]; exact Nat.le_refl _
              · rw [h, e0]; exact Nat.le_refl _
            have h2 := Hgl.out
            omega)
          clear hi8
          go_wp2_with (first
            | (refine wpList_put rfl _ _ _ rfl rfl (.string p) rfl rfl s1 (by have := Hrn.out; omega) (by kernel_rfl) ?_; intro w5 f5 b5 hs5; have k51 := (World.cell?_of_block (a := ⟨tb, 1, none⟩) (f5.block tb htl (by simp; exact hbtb))).trans kk1; simp only [World.size_alloc, World.size_drew, Act.put, List.setIfInBounds_toArray, List.set_cons_succ, List.set_cons_zero])
            | (go_at_call 39; refine (group_any (l := r') (B := some b) (w := w5) (by
                  have ho := S3.out i' (.string p) w5 b5
                  have := ho.rd.rc
                  rw [← List.map_set, Hr'.out, Hrn.out] at this
                  rw [HG.out]; exact this) (by rw [HG.out]; omega) i' (by rw [HG.out]; exact hil)).mono ?_; rintro e w6 ⟨⟨v6, rfl, h6⟩, hw6⟩; have hw7 := hw6.symm; subst hw7; rw [HGG.out] at h6)
            | (go_at_call 38; refine (node_any h6 (by rw [Hgl.out]; omega) Hgs.out).mono ?_; rintro e w7 ⟨rfl, f7⟩))
          have q5 : TreeP w5 (tb :: bt :: br :: bs) tb (tags.set i tag) (dn ++ row.set i' p :: rest) rvs := by
            have ho := S3.out i' (.string p) w5 b5
            have e : (dn ++ row :: rest).set k (row.set i' p) = dn ++ row.set i' p :: rest := by
              rw [List.set_append_right _ _ (by rw [E2.out]; exact Nat.le_refl _), E2.out, Nat.sub_self, List.set_cons_zero]
            refine ⟨_, bt, _, br, bs, rfl, f5.blk G1.out (by simp; exact hbtb), G2.out.keep f5 (by intro x hx; cases hx; simp; rintro rfl; exact hnd.2.1.2 hbm), ?_, ?_, g7⟩
            · have := G3.out.keep f5 (by intro x hx; cases hx; simp; rintro rfl; exact hnd.2.2.1 hbm)
              simpa using this
            · rw [← e]
              refine G6.out.put (r := row) hnd.2.2.2 (by rw [← E2.out]; simp) R2.out R1.out f5 ?_
              rw [List.length_set, List.map_set]
              exact ho
          go_roundw
          case rel =>
            refine ⟨i8, k + 1, nodeS G, rfl, rfl, by go_num, by omega, dn ++ [row.set i' p], rest, shaS_size _, ?_, by rw [List.length_append, E2.out]; rfl, by have := E3.out; simpa using this, C5.out, ?_, ?_, (e7.trans' (f5.mono (by simp [hbm]))).trans' (f7.mono (by simp))⟩
            · rw [E1.out, setF, Hr'.out, HGG.out, Hi8.out]
              simp
            · intro r2 hr2
              have h1 := HC4.out r2 hr2
              have h2 := Hrn.out
              have h3 := Hi8.out
              omega
            · have := q5.keep f7 (by simp)
              simpa using this
          case measure => simp [intOf]; omega
        · have hd2 : decide ((k : Int) + 1 < (Rn : Int)) = false := by simp; omega
          have hd2' : ¬ ((k : Int) + 1 < (Rn : Int)) := by omega
          have hrest : rest = [] := by
            have h1 := E3.out
            have h2 := E2.out
            rw [HRn.out, List.length_append, List.length_cons] at h1
            exact List.eq_nil_of_length_eq_zero (by omega)
          have Hrest := hid hrest
          clear hrest
          go_wp2_with (refine wpList_put rfl _ _ _ rfl rfl (.string p) rfl rfl s1 (by have := Hrn.out; omega) (by kernel_rfl) ?_; intro w5 f5 b5 hs5; have k51 := (World.cell?_of_block (a := ⟨tb, 1, none⟩) (f5.block tb htl (by simp; exact hbtb))).trans kk1; simp only [World.size_alloc, World.size_drew, Act.put, List.setIfInBounds_toArray, List.set_cons_succ, List.set_cons_zero])
          have q5 : TreeP w5 (tb :: bt :: br :: bs) tb (tags.set i tag) (dn ++ row.set i' p :: rest) rvs := by
            have ho := S3.out i' (.string p) w5 b5
            have e : (dn ++ row :: rest).set k (row.set i' p) = dn ++ row.set i' p :: rest := by
              rw [List.set_append_right _ _ (by rw [E2.out]; exact Nat.le_refl _), E2.out, Nat.sub_self, List.set_cons_zero]
            refine ⟨_, bt, _, br, bs, rfl, f5.blk G1.out (by simp; exact hbtb), G2.out.keep f5 (by intro x hx; cases hx; simp; rintro rfl; exact hnd.2.1.2 hbm), ?_, ?_, g7⟩
            · have := G3.out.keep f5 (by intro x hx; cases hx; simp; rintro rfl; exact hnd.2.2.1 hbm)
              simpa using this
            · rw [← e]
              refine G6.out.put (r := row) hnd.2.2.2 (by rw [← E2.out]; simp) R2.out R1.out f5 ?_
              rw [List.length_set, List.map_set]
              exact ho
          go_roundw
          case rel =>
            have E3' := E3.out
            have E1' := E1.out
            rw [Hrest.out] at q5 E3' E1'
            refine ⟨i', k + 1, p, rfl, rfl, by go_num, by omega, dn ++ [row.set i' p], [], e0, by rw [E1']; simp [setF], by rw [List.length_append, E2.out]; rfl, by simpa using E3', trivial, by simp, by simpa using q5, e7.trans' (f5.mono (by simp [hbm]))⟩
          case measure => simp [intOf]; omega
      · have hd1 : decide ((k : Int) < (Rn : Int)) = false := by simp; omega
        have hd1' : ¬ ((k : Int) < (Rn : Int)) := by omega
        obtain rfl : todo = [] := by
          rw [HRn.out, List.length_append] at e3
          exact List.eq_nil_of_length_eq_zero (by omega)
        simp only [setF, List.append_nil] at e1 e6
        rw [← e1] at e6
        clear e1 e2 e3 e4 e5
        go_wp2_with fail
        go_ret
        exact ⟨rfl, ⟨rvs, e6⟩, e7⟩
end Go.Proofs.Ythfjjencnfebmaa.mer
