/- Layer 10, merkle: a path; a copy. -/
import Derived.Test.YthfjjencnfebmaaMerG
namespace Go.Proofs.Ythfjjencnfebmaa.mer
open Go Go.Xr Go.RowKit
set_option linter.unusedVariables false
set_option linter.unusedSimpArgs false
/-- The path of part i through rows but the last. -/
def pathF : List (List ByteArray) → Nat → List ByteArray
  | [], _ => []
  | r :: rest, i => catS (grp r i) :: pathF rest (i / 8)
def pathS (tags : List ByteArray) (i : Nat) : List ByteArray := pathF (rowsS tags).dropLast i
theorem rowsF_length : ∀ (f : Nat) (r : List ByteArray), 0 < r.length → (rowsF f r).length ≤ r.length
  | 0, r, h => h
  | f + 1, r, h => by
    simp only [rowsF]
    split
    · exact h
    · have := rowsF_length f (upS r) (upS_pos r h)
      rw [upS_len] at this
      rw [List.length_cons]
      omega
theorem rowsS_length (tags : List ByteArray) (h : 0 < tags.length) : (rowsS tags).length ≤ tags.length := by
  have := rowsF_length tags.length (leafs tags) (by rw [leafs_len]; exact h)
  rwa [leafs_len] at this
theorem path_nil {w : World} (i : Int) : Calls Try.prog 21 #[.pointer none, .int .i64 i] w fun e w' => e = .returned (.tuple #[.slice none 0 0, .int .i64 1]) ∧ w' = w := by
  go_enter Try.func21, Try.ntmps21
  go_wp2_with (go_at_call 36; refine (not_nil i).mono ?_; rintro e w1 ⟨rfl, rfl⟩)
  go_ret2
  exact ⟨rfl, rfl⟩
theorem path_not {w : World} {bl : List Nat} {tb : Nat} {tags : List ByteArray} {rows : List (List ByteArray)} (h : TreeAt w bl tb tags rows) (hn : 0 < tags.length) (i : Int) (hi : ¬ (0 ≤ i ∧ i < tags.length)) : Calls Try.prog 21 #[.pointer (some ⟨tb, 0, none⟩), .int .i64 i] w fun e w' => e = .returned (.tuple #[.slice none 0 0, .int .i64 2]) ∧ w' = w := by
  have Hl := hid (not_any h hn i)
  have HN := hid (show notI tags.length i = 2 by unfold notI; rw [if_neg hi])
  go_enter Try.func21, Try.ntmps21
  go_wp2_with (go_at_call 36; refine Hl.out.mono ?_; rintro e w1 ⟨rfl, rfl⟩; rw [HN.out])
  go_ret2
  exact ⟨rfl, rfl⟩
theorem run_slice_none_h (P : Program) (w0 : World) (t e : TypeId) (ht : P.underlying t = some (.slice e)) (hs : (P.info? e).map (·.size) = some 1) (b o : Nat) (n c k : Nat) (kh : IntKind) (ki : Int) (hki : ki = (k : Int)) (h1 : k ≤ n) (h2 : n ≤ c) :
    (Instr.sliceAt t (.slice (some ⟨b, o, none⟩) n c) none (some (.int kh ki)) none).run P w0 = .ok (.slice (some ⟨b, o, none⟩) k c) w0 := by
  subst hki
  cases hq : P.info? e with
  | none => simp [hq] at hs
  | some i =>
    have h4 : (0 : Int) ≤ (k : Int) := by omega
    have h5 : (k : Int) ≤ (c : Int) := by omega
    simp [Instr.sliceAt, Instr.slice, run_underlying ht, Instr.sliceBounds, run_sliceBound, h4, h5, sizeOf, typeInfo, hq]
    all_goals simp [Addr.add]
set_option maxRecDepth 20000 in
set_option maxHeartbeats 1000000 in
theorem path_any {w : World} {bl : List Nat} {tb : Nat} {tags : List ByteArray} (h : TreeAt w bl tb tags (rowsS tags)) (hl : tags.length ≤ 16384) (i : Nat) (hi : i < tags.length) : Calls Try.prog 21 #[.pointer (some ⟨tb, 0, none⟩), .int .i64 (i : Int)] w fun e w' => (∃ v B, e = .returned (.tuple #[v, .int .i64 0]) ∧ Rc w' 1 v (pathS tags i).length ((pathS tags i).map .string) B ∧ ∀ b, B = some b → w.heap.size ≤ b) ∧ Fr [] w w' := by
  obtain ⟨i9, hi9, hz9, hs9, hb9⟩ := inf9
  have Hi := hid hi9
  have Hz := hid hz9
  have Hs := hid hs9
  have Hb := hid hb9
  clear hi9 hz9 hs9 hb9
  have Hl := hid (not_any h (by omega) i)
  have HN := hid (show notI tags.length i = 0 by unfold notI; rw [if_pos (by omega)])
  have HC := hid (chain_rows tags (by omega) hl)
  have HH := hid (show ∀ r, (rowsS tags).head? = some r → i < r.length by
    intro r hr
    unfold rowsS at hr
    rw [rowsF_head] at hr
    cases hr
    rw [leafs_len]
    exact hi)
  obtain ⟨pre, x, ex⟩ := rowsS_last tags (by omega)
  have HP := hid (show pathS tags i = pathF pre i by unfold pathS; rw [ex]; simp)
  obtain ⟨rvs, h⟩ := h
  obtain ⟨bt, ct, br, cr, bs, rfl, h1, h2, h3, h4, h5, h6, h7⟩ := h.cells
  have HT := hid h
  obtain ⟨rows, hrows⟩ : ∃ rows, rowsS tags = rows := ⟨_, rfl⟩
  rw [hrows] at h1 h3 h5 h6 ex HC HH HT
  have hrl : rows.length ≤ tags.length := by rw [← hrows]; exact rowsS_length tags (by omega)
  obtain ⟨m, hm⟩ : ∃ m, rows.length = m := ⟨_, rfl⟩
  have Hm := hid hm
  rw [hm] at h1 h5 hrl
  have hm1 : m = pre.length + 1 := by rw [← hm, ex]; simp
  have k1 : w.cell? ⟨tb, 1, none⟩ = some (.slice (some ⟨br, 0, none⟩) m cr) := h1.cell 1
  obtain ⟨q, hq⟩ : ∃ q, pre.length = q := ⟨_, rfl⟩
  have Hq := hid hq
  rw [hq] at hm1
  have hsub : (m : Int) - 1 = (q : Int) := by omega
  have hqb : q ≤ 16384 := by omega
  have Hsl := hid fun w0 : World => run_slice_none_h Try.prog w0 62 22 Try.underlying62 (by kernel_rfl) br 0 m cr q .i64 (q : Int) rfl (by omega) h5
  have hd1 : decide ((q : Int) ≤ (m : Int)) = true := by simp; omega
  clear h h1 h2 h3 h6 hm hq hrows hm1 hrl
  go_enter Try.func21, Try.ntmps21
  go_wp2_with (go_at_call 36; refine Hl.out.mono ?_; rintro e w1 ⟨rfl, rfl⟩; rw [HN.out])
  refine wp_region_D (fun _ => True) false [] (by kernel_rfl) ?_
  refine WD.pure [0, 1, 2, 3, 4, 5, 6, 7, 8, 9, 10, 11, 12] (by kernel_rfl) trivial ?_
  simp only [pick, List.toList_toArray, List.map_cons, List.map_nil, List.getD_cons_succ, List.getD_cons_zero]
  repeat (first | (refine quiet_slice_vW (by rfl) _ _ _ _ rfl _ rfl _ _ rfl rfl _ (fun w0 _ => Hsl.out w0) ?_; simp only [World.size_alloc, World.size_drew, Act.put, List.setIfInBounds_toArray, List.set_cons_succ, List.set_cons_zero]) | go_big_quiet_step (fail))
  refine wpQuiet_nil ?_
  refine WD.done (by kernel_rfl) ?_
  go_wp2_with fail
  go_loopw [1, 7, 28] (fun iv lv kv wr => ∃ (i' k : Nat) (dn todo : List (List ByteArray)) (l : List ByteArray) (B : Option Nat), iv = .int .i64 (i' : Int) ∧ kv = .int .i64 (k : Int) ∧ pre = dn ++ todo ∧ dn.length = k ∧ Chain (todo ++ [[x]]) ∧ (∀ r, (todo ++ [[x]]).head? = some r → i' < r.length) ∧
      pathF pre i = l ++ pathF todo i' ∧ l.length = k ∧ (∀ s ∈ l, s.size ≤ 256) ∧ Xr.Own wr 1 lv l.length (l.map .string) B ∧ (∀ b, B = some b → w1.heap.size ≤ b) ∧ Fr [] w1 wr) (fun _ _ kv _ => q - (intOf kv).toNat)
  case atStart => exact ⟨i, 0, [], pre, [], none, rfl, rfl, rfl, rfl, by rw [← ex]; exact HC.out, by rw [← ex]; exact HH.out, rfl, rfl, by simp, Own.nil _ 1, by simp, (Fr.refl [] _).drew⟩
  case round =>
    obtain ⟨i', k, dn, todo, l, B, rfl, rfl, e1, e2, e3, e4, e5, e6, e7, e8, e9, f⟩ := hrel
    have E5 := hid e5
    have E9 := hid e9
    by_cases hkl : k < q
    · have hd2 : decide ((k : Int) < (q : Int)) = true := by simp; omega
      have hd2' : (k : Int) < (q : Int) := by omega
      obtain ⟨row, rest, rfl⟩ : ∃ row rest, todo = row :: rest := by
        cases todo with
        | nil => have := Hq.out; rw [e1] at this; simp at this; omega
        | cons a b => exact ⟨a, b, rfl⟩
      have hil := e4 row rfl
      rw [List.cons_append] at e3
      obtain ⟨c1, c2, c3, c4, c5⟩ := e3
      have T := HT.out.keep f (by simp)
      rw [ex, e1] at T
      obtain ⟨bt2, ct2, br2, cr2, bs2, hbl, g1, g2, g3, g4, g5, g6, g7⟩ := T.cells
      obtain ⟨rfl, rfl, rfl⟩ : bt = bt2 ∧ br = br2 ∧ bs = bs2 := by simpa using hbl
      obtain ⟨v, b, r1, r2, r3⟩ := g6.2.2 k row (by rw [← e2]; simp)
      obtain ⟨cv, rfl, hcv⟩ : ∃ cv, v = .slice (some ⟨b, 0, none⟩) row.length cv ∧ row.length ≤ cv := by
        rcases r3.shape with ⟨_, _, _, h0⟩ | ⟨b2, ct, h0, hv, hc2, _⟩
        · cases h0
        · cases h0; exact ⟨ct, hv, hc2⟩
      have hQ := Hq.out
      rw [e1, List.length_append, List.length_cons] at hQ
      have kk2 : wr.cell? ⟨br, k, none⟩ = some (.slice (some ⟨b, 0, none⟩) row.length cv) := by rw [g3.cellAt rfl (by rw [g6.1]; simp; omega), r1]
      have hr := r3.rd.rc
      obtain ⟨rn, hrn⟩ : ∃ rn, row.length = rn := ⟨_, rfl⟩
      have Hrn := hid hrn
      have hq : ∀ t, binOp .quo t (.int .i64 (i' : Int)) (.int .i64 8) = pure (.int .i64 ((i' / 8 : Nat) : Int)) := fun t => quo_i t i' 8 (by omega) (by decide)
      have Hgl := hid (grp_len row i')
      have HG := hid (group_any hr (by omega) i' hil)
      have Hil := hid hil
      obtain ⟨G, hG⟩ : ∃ G, grp row i' = G := ⟨_, rfl⟩
      have HGG := hid hG
      rw [hG] at Hgl HG
      have Hgs := hid (show (G.map ByteArray.size).sum ≤ 256 by
        have h1 := sum_le G 32 fun s hs => by
          rw [← HGG.out] at hs
          rw [c3 s (List.mem_of_mem_drop (List.mem_of_mem_take hs))]; exact Nat.le_refl _
        have h2 := Hgl.out
        omega)
      have Hcs := hid (catS_size G)
      obtain ⟨CG, hCG⟩ : ∃ CG, catS G = CG := ⟨_, rfl⟩
      have HCG := hid hCG
      obtain ⟨i8, hi8⟩ : ∃ i8, i' / 8 = i8 := ⟨_, rfl⟩
      rw [hi8] at hq
      have Hi8 := hid hi8
      obtain ⟨la, lc, rfl⟩ := e8.isSlice
      have E6 := hid e6
      have E1 := hid e1
      have E2 := hid e2
      have C4 := hid c4
      have C5 := hid c5
      have hlb : l.length ≤ 16384 := by omega
      rw [hrn] at kk2 HG
      clear T g1 g2 g3 g4 g5 g6 g7 r1 r2 r3 hr hrn hG hCG hi8 e1 e2 e4 e5 e6 e9 c1 c2 c3 c4 c5 hil hcv hQ hbl
      go_wp2_with (first
        | (go_at_call 39; refine HG.out.mono ?_; rintro e w6 ⟨⟨v6, rfl, h6⟩, hw6⟩; have hw7 := hw6.symm; subst hw7)
        | (go_at_call 40; refine (join_any h6 (by rw [Hgl.out]; omega) (by rw [Hcs.out]; have := Hgs.out; omega)).mono ?_; rintro e w7 ⟨rfl, f7⟩; rw [HCG.out])
        | (refine wpList_buildSlice_r rfl _ 1 _ rfl 9 Try.underlying22 _ _ Hi.out Hz.out rfl Hs.out (by decide) (by decide) (by decide) [.string CG] rfl (by intro v hv; simp at hv; rcases hv with rfl; rfl) ?_; intro w8 f8 hlt8 hb8; simp only [World.size_alloc, World.size_drew, Act.put, List.setIfInBounds_toArray, List.set_cons_succ, List.set_cons_zero])
        | (refine wpList_append_rc rfl _ _ _ rfl 9 _ _ 1 16 Try.underlying22 Hi.out Hz.out Hs.out Hb.out rfl (by decide) rfl ((e8.keep f7 (by simp)).keep f8 (by simp)) rfl (rc_blk hb8 rfl (by simp [maxLen])) (by intro u hu; simp at hu; subst hu; rfl) (by unfold maxLen; omega) (by omega) ?_; intro v9 w9 B9 ho9 f9 hB9; simp only [World.size_alloc, World.size_drew, Act.put, List.setIfInBounds_toArray, List.set_cons_succ, List.set_cons_zero]))
      go_roundw
      case rel =>
        refine ⟨i8, k + 1, dn ++ [row], rest, l ++ [CG], B9, rfl, by go_num, by rw [E1.out]; simp, by rw [List.length_append, E2.out]; rfl, C5.out, ?_, ?_, by rw [List.length_append, E6.out]; rfl, ?_, by simpa using ho9, ?_, ?_⟩
        · intro r2 hr2
          have h1 := C4.out r2 hr2
          have h2 := Hil.out
          have h3 := Hi8.out
          omega
        · rw [E5.out, pathF, HGG.out, HCG.out, Hi8.out]; simp
        · intro s hs
          rcases List.mem_append.1 hs with h | h
          · exact e7 s h
          · obtain rfl : s = CG := by simpa using h
            rw [← HCG.out, Hcs.out]; exact Hgs.out
        · have := f.size
          have := f7.size
          have := f8.size
          intro b' hb'
          rcases hB9 with rfl | ⟨y, rfl, hy⟩
          · exact E9.out b' hb'
          · cases hb'; omega
        · refine ((f.trans' f7).trans' f8).trans f9 ?_
          intro y hy
          exact .inr (E9.out y (by simpa using hy))
      case measure => simp [intOf]; omega
    · have hd2 : decide ((k : Int) < (q : Int)) = false := by simp; omega
      have hd2' : ¬ ((k : Int) < (q : Int)) := by omega
      obtain rfl : todo = [] := by
        have := Hq.out
        rw [e1, List.length_append] at this
        exact List.eq_nil_of_length_eq_zero (by omega)
      have HE := hid (show pathS tags i = l by rw [HP.out, e5]; simp [pathF])
      have H9 := hid e9
      have F := hid f
      rcases e8.shape with ⟨rfl, h0, _, rfl⟩ | ⟨b, lc, rfl, rfl, hlc, hlm⟩
      · obtain rfl : l = [] := List.eq_nil_of_length_eq_zero h0
        clear e1 e2 e3 e4 e5 e6 e7 e8 e9
        go_wp2_with fail
        go_ret2
        exact ⟨⟨_, rfl, none, by rw [HE.out]; exact Rc.nil _ 1, by simp⟩, F.out⟩
      · have Hsl := hid fun w0 : World => run_hm_rc (P := Try.prog) w0 22 9 (some ⟨b, 0, none⟩) l.length lc l.length .i64 .i64 Try.underlying22 (by kernel_rfl) (Nat.le_refl _) hlc ⟨_, _, rfl⟩
        have hc := hid (rc_cut e8.rd.rc (Nat.le_refl l.length))
        clear e1 e2 e3 e4 e5 e6 e7 e8 e9
        go_wp2_with (refine wpList_slice_v rfl _ _ _ _ _ rfl _ rfl _ _ _ rfl rfl rfl _ (Hsl.out _) ?_; simp only [World.size_alloc, World.size_drew, Act.put, List.setIfInBounds_toArray, List.set_cons_succ, List.set_cons_zero])
        go_ret2
        refine ⟨⟨_, rfl, some b, ?_, fun b' hb' => H9.out b' hb'⟩, F.out⟩
        rw [HE.out]
        exact rc_as hc.out rfl (by rw [List.take_of_length_le (by simp)])
end Go.Proofs.Ythfjjencnfebmaa.mer
