/- Layer 21, record: what is done to a row of records. -/
import Derived.Test.YtgbkbhklgbjgmaaRecP
namespace Go.Xr
open Go
set_option linter.unusedVariables false
theorem own_put {w' : World} {b n cap : Nat} {l : List ByteArray} {cs : List Value} (hn : l.length = n) (ht : cs.take n = l.map .string) (hnc : n ≤ cap) (hcm : cap ≤ maxLen) (hl : cs.length = cap) (k : Nat) (V : ByteArray) (hb : Blk w' b (cs.set k (.string V))) :
    Rc w' 1 (.slice (some ⟨b, 0, none⟩) n cap) n ((l.set k V).map .string) (some b) := by
  have h := (Own.blk (n := n) (size := 1) hb hnc hcm (by rw [List.length_set]; omega)).rd.rc
  rw [Nat.mul_one, List.take_set, ht, ← List.map_set] at h
  exact h
end Go.Xr
namespace Go.Proofs.Ytgbkbhklgbjgmaa.rcd
open Go Go.Xr Go.RowKit
set_option linter.unusedVariables false
set_option linter.unusedSimpArgs false
attribute [local go_sem] xor_u8
set_option maxRecDepth 20000 in
theorem rpad_long {w : World} (s : ByteArray) (n : Nat) (h : n < s.size + 4) (h4 : 4 ≤ n) (hn : n ≤ 16384) (hs : s.size ≤ 140737488351232) : Calls Try.prog 31 #[.string s, .int .i64 (n : Int)] w fun e w' => e = .returned (.tuple #[.string ⟨#[]⟩, .int .i64 4]) ∧ Fr [] w w' := by
  have hd1 : decide ((n : Int) < 4) = false := by simp; omega
  have hd2 : decide ((n : Int) - 4 < (s.size : Int)) = true := by simp; omega
  clear h
  go_enter Try.func31, Try.ntmps31
  go_wp2_with fail
  go_ret2
  exact ⟨rfl, Fr.refl _ _⟩
/-- Whatever is padded and sealed. -/
theorem rpad_some {w : World} (s : ByteArray) (hs : s.size ≤ 4096) : Calls Try.prog 31 #[.string s, .int .i64 256] w fun e w' => (∃ P k, e = .returned (.tuple #[.string P, .int .i64 k]) ∧ P.size ≤ 256) ∧ Fr [] w w' := by
  by_cases h : s.size + 4 ≤ 256
  · refine (rpad_any s 256 h (by decide) (by decide)).mono ?_
    rintro e w' ⟨rfl, f⟩
    exact ⟨⟨_, _, rfl, by rw [padS_size _ _ h]; exact Nat.le_refl _⟩, f⟩
  · refine (rpad_long s 256 (by omega) (by decide) (by decide) (by omega)).mono ?_
    rintro e w' ⟨rfl, f⟩
    exact ⟨⟨_, _, rfl, Nat.zero_le _⟩, f⟩

/-- What a turn answers. -/
def TurnedTo (w w' : World) (l : List ByteArray) (e : Ending) : Prop := (∃ (u : Value) (l' : List ByteArray) (B : Option Nat), e = .returned u ∧ Rc w' 1 u l'.length (l'.map .string) B ∧ l'.length ≤ l.length + 1 ∧ ∀ s ∈ l', s.size ≤ 100000) ∧ Fr [] w w'
theorem set_small {l : List ByteArray} {V : ByteArray} (k : Nat) (h : ∀ s ∈ l, s.size ≤ 100000) (hV : V.size ≤ 100000) : ∀ s ∈ l.set k V, s.size ≤ 100000 := by
  intro s hs
  rcases List.mem_or_eq_of_mem_set hs with h1 | rfl
  · exact h s h1
  · exact hV

set_option maxRecDepth 20000 in
set_option maxHeartbeats 8000000 in
theorem turned_any {w : World} {v : Value} {l : List ByteArray} {LB : Option Nat} (d N A : Int) (y : UInt8) (X : ByteArray) (hN1 : -9223372036854775808 ≤ N) (hN2 : N ≤ 9223372036854775807) (hA1 : -9223372036854775808 ≤ A) (hA2 : A ≤ 9223372036854775807) (hX : X.size ≤ 4096) (hl : Rc w 1 v l.length (l.map .string) LB) (ho : ∀ s ∈ l, s.size ≤ 100000) (hlm : l.length ≤ 1000) :
    Calls Try.prog 19 #[v, .agg #[.int .i64 d, .int .i64 N, .int .i64 A, bt y, .string X]] w fun e w' => TurnedTo w w' l e := by
  obtain ⟨la, lc, rfl⟩ := hl.isSlice
  have Hl := hid hl
  have Ho := hid ho
  obtain ⟨i9, hi9, hz9, hs9, hb9⟩ := infS9
  have Hi := hid hi9
  have Hz := hid hz9
  have Hs9 := hid hs9
  have Hb9 := hid hb9
  have HTE : ∀ (w' : World) (e : Ending), ((∃ (u : Value) (l' : List ByteArray) (B : Option Nat), e = .returned u ∧ Rc w' 1 u l'.length (l'.map .string) B ∧ l'.length ≤ l.length + 1 ∧ ∀ s ∈ l', s.size ≤ 100000) ∧ Fr [] w w') → TurnedTo w w' l e := fun _ _ h => h
  obtain ⟨n, hn⟩ : ∃ n, l.length = n := ⟨_, rfl⟩
  have Hn := hid hn
  have HTE2 := hid HTE
  rw [hn] at hlm ⊢
  clear hl ho hn hi9 hz9 hs9 hb9 HTE
  go_enter Try.func19, Try.ntmps19
  go_wp2_with (first
    | (refine wpList_box rfl _ _ rfl [.int .i64 d, .int .i64 N, .int .i64 A, bt y, .string X] rfl ?_; intro w1 f1 hlt1 ht1; simp only [World.size_alloc, World.size_drew, Act.put, List.setIfInBounds_toArray, List.set_cons_succ, List.set_cons_zero])
    | (refine wpList_append_rc rfl _ _ _ rfl 9 _ _ 1 16 Try.underlying24 Hi.out Hz.out Hs9.out Hb9.out rfl (by decide) rfl (Xr.Own.nil _ 1) rfl (Hn.out ▸ Hl.out.keep f1 (by simp)) (str_one l) (by unfold maxLen; omega) (by omega) ?_; intro v2 w2 B2 ho2 f2 hB2; rw [Nat.zero_add, List.nil_append] at ho2; simp only [World.size_alloc, World.size_drew, Act.put, List.setIfInBounds_toArray, List.set_cons_succ, List.set_cons_zero]; revert ho2))
  intro ho2
  have g2 : Fr [] w w2 := f1.trans f2 (by simp)
  have ht2 := f2.blk ht1 (by simp)
  have kt0 := ht2.cell 0
  have kt1 := ht2.cell 1
  have kt2 := ht2.cell 2
  have kt3 := ht2.cell 3
  have kt4 := ht2.cell 4
  have hB3 : ∀ b, B2 = some b → w.heap.size ≤ b := by
    intro b hb
    rcases hB2 with h | ⟨b', h, hge⟩
    · rw [h] at hb; cases hb
    · rw [h] at hb; cases hb; have := f1.size; omega
  clear f1 f2 hlt1 ht1 hB2
  by_cases hn0 : n = 0 ∨ N < 0
  case pos =>
    have hcase : ((n : Int) == 0) = true ∨ (((n : Int) == 0) = false ∧ decide (N < 0) = true) := by
      by_cases h : n = 0
      · exact .inl (by simp; omega)
      · exact .inr ⟨by simp; omega, by simp; omega⟩
    obtain ⟨a2, c2, rfl⟩ := ho2.isSlice
    rcases hcase with hc | ⟨hc, hc2⟩
    all_goals
      go_wp2_with (first
        | (refine wpList_buildSlice_any rfl _ 1 _ rfl 9 Try.underlying24 _ _ Hi.out Hz.out rfl Hs9.out (by decide) (by decide) rfl [.string X] rfl (by simp [Value.oneCell']) ?_; intro w3 f3 hlt3 hb3; simp only [World.size_alloc, World.size_drew, Act.put, List.setIfInBounds_toArray, List.set_cons_succ, List.set_cons_zero])
        | (refine wpList_append rfl _ _ _ rfl 9 _ _ 1 16 Try.underlying24 Hi.out Hz.out Hs9.out Hb9.out rfl (by decide) rfl (ho2.keep f3 (by simp)) _ 1 1 [.string X] rfl rfl (hb3.cells rfl) (by simp [Value.oneCell']) (by unfold maxLen; omega) (by omega) ?_; intro v4 w4 B4 ho4 f4 hB4; simp only [World.size_alloc, World.size_drew, Act.put, List.setIfInBounds_toArray, List.set_cons_succ, List.set_cons_zero]))
      go_ret
      refine HTE2.out _ _ ⟨⟨v4, l ++ [X], B4, rfl, rc_as ho4.rd.rc (by rw [List.length_append, Hn.out]; rfl) (by simp), by simp, ?_⟩, (g2.trans' f3).trans f4 (fun x hx => .inr (hB3 x (by simpa using hx)))⟩
      intro s hs
      rcases List.mem_append.1 hs with h | h
      · exact Ho.out s h
      · simp at h; subst h; omega
  case neg =>
    have hc1 : ((n : Int) == 0) = false := by simp; omega
    have hc2 : decide (N < 0) = false := by simp; omega
    obtain ⟨k, hkE⟩ : ∃ k : Nat, N % (n : Int) = (k : Int) := Int.eq_ofNat_of_zero_le (Int.emod_nonneg _ (by omega))
    have hkE2 : N.tmod (n : Int) = (k : Int) := by rw [Int.tmod_eq_emod_of_nonneg (by omega)]; exact hkE
    have hkn : k < n := by have := Int.emod_lt_of_pos N (show 0 < (n : Int) by omega); omega
    rcases ho2.2 with ⟨_, h, _⟩ | ⟨b, cap, cs, rfl, rfl, hnc, hcm, hbk, hcl, htk⟩
    · omega
    rw [Nat.mul_one] at hcl htk
    have Hcs := hid htk
    have hwb : w.heap.size ≤ b := hB3 b rfl
    have HbS := hid (show ∀ x ∈ [b], x ∈ ([] : List Nat) ∨ w.heap.size ≤ x by simp; omega)
    obtain ⟨lb, off, rfl, hlbw, hck⟩ := rc_str (wr := w2) Hl.out g2 k (by rw [Hn.out]; exact hkn)
    obtain ⟨K, hK⟩ : ∃ K, l[k]'(by rw [Hn.out]; exact hkn) = K := ⟨_, rfl⟩
    have hKo : K.size ≤ 100000 := by rw [← hK]; exact Ho.out _ (List.getElem_mem _)
    rw [hK] at hck
    have HK := hid (show ∃ h : k < l.length, l[k]'h = K from ⟨by rw [Hn.out]; exact hkn, hK⟩)
    have hcut := fun (w0 : World) (f : Fr [] w2 w0) => rc_cut (ho2.keep f (by simp)).rd.rc (Nat.le_of_lt hkn)
    have Hcut := hid hcut
    have Hlow : Hid (∀ m, m ≤ n → ∃ U, (∀ (w0 : World) (li : Int), li = (m : Int) → (Instr.sliceAt 24 (.slice (some ⟨lb, off, none⟩) n lc) (some (.int .i64 li)) none none).run Try.prog w0 = .ok U w0) ∧ ∀ w0 : World, Fr [] w2 w0 → Rc w0 1 U (n - m) ((l.map .string).drop m) LB) := hid fun m hm =>
      ⟨_, fun w0 li hli => run_low_rc w0 _ 9 _ n lc m .i64 li hli Try.underlying24 (by kernel_rfl) hm, fun w0 f => rc_low (ad := some ⟨lb, off, none⟩) (n := n) (c := lc) (w := w0) (xs := l.map .string) (B := LB) (Hn.out ▸ Hl.out.keep (g2.trans' f) (by simp)) hm⟩
    have HlbB := hid (show lb ∉ [b] by simp; omega)
    clear hn0 hK htk hcut hB3
    by_cases d0 : d = 0
    case pos =>
      subst d0
      obtain ⟨U, hU⟩ := Hlow.out (k + 1) hkn
      have HU := hid hU
      clear hU
      go_wp2_with fail
      have gd := (Fr.refl [] w2).drew
      refine wp_region_D (fun _ => True) false [] (by kernel_rfl) ?_
      refine WD.pure [0, 1, 2, 3, 4, 5, 6, 7] (by kernel_rfl) trivial ?_
      simp only [pick, List.toList_toArray, List.map_cons, List.map_nil, List.getD_cons_succ, List.getD_cons_zero]
      repeat (first | (refine quiet_slice_v3 (by rfl) _ _ _ _ _ rfl _ rfl _ _ _ rfl rfl rfl (.slice (some ⟨b, 0, none⟩) k k) (fun w0 _ => run_hm_rc w0 _ 9 _ n cap k .i64 .i64 Try.underlying24 (by kernel_rfl) (Nat.le_of_lt hkn) hnc ⟨_, _, rfl⟩) ?_; simp only [World.size_alloc, World.size_drew, Act.put, List.setIfInBounds_toArray, List.set_cons_succ, List.set_cons_zero]) | (refine quiet_slice_v3 (by rfl) _ _ _ _ _ rfl _ rfl _ _ _ rfl rfl rfl U (fun w0 _ => HU.out.1 w0 _ (by omega)) ?_; simp only [World.size_alloc, World.size_drew, Act.put, List.setIfInBounds_toArray, List.set_cons_succ, List.set_cons_zero]) | go_big_quiet_step (fail))
      refine wpQuiet_nil ?_
      refine WD.eff 8 (by kernel_rfl) ?_
      simp only [pick, List.toList_toArray, List.map_cons, List.map_nil, List.getD_cons_succ, List.getD_cons_zero]
      refine wpList_append_cut rfl _ _ _ rfl 9 _ _ 1 16 Try.underlying24 Hi.out Hz.out Hs9.out Hb9.out rfl (by decide) rfl (Hcut.out _ gd) rfl (HU.out.2 _ gd) (fun u hu => str_one l u (List.mem_of_mem_drop hu)) (by unfold maxLen; omega) (by omega) ?_
      intro v5 w5 B5 hr5 f5 _
      simp only [World.size_alloc, World.size_drew, Act.put, List.setIfInBounds_toArray, List.set_cons_succ, List.set_cons_zero]
      try refine wpList_nil ?_
      refine AfterD.on trivial (by kernel_rfl) ?_
      try simp only [World.size_alloc, World.size_drew, Act.put, List.setIfInBounds_toArray, List.set_cons_succ, List.set_cons_zero]
      refine WD.pure [9] (by kernel_rfl) trivial ?_
      simp only [pick, List.toList_toArray, List.map_cons, List.map_nil, List.getD_cons_succ, List.getD_cons_zero]
      repeat (first | (refine quiet_slice_v3 (by rfl) _ _ _ _ _ rfl _ rfl _ _ _ rfl rfl rfl (.slice (some ⟨b, 0, none⟩) k k) (fun w0 _ => run_hm_rc w0 _ 9 _ n cap k .i64 .i64 Try.underlying24 (by kernel_rfl) (Nat.le_of_lt hkn) hnc ⟨_, _, rfl⟩) ?_; simp only [World.size_alloc, World.size_drew, Act.put, List.setIfInBounds_toArray, List.set_cons_succ, List.set_cons_zero]) | (refine quiet_slice_v3 (by rfl) _ _ _ _ _ rfl _ rfl _ _ _ rfl rfl rfl U (fun w0 _ => HU.out.1 w0 _ (by omega)) ?_; simp only [World.size_alloc, World.size_drew, Act.put, List.setIfInBounds_toArray, List.set_cons_succ, List.set_cons_zero]) | go_big_quiet_step (fail))
      refine wpQuiet_nil ?_
      refine WD.done (by kernel_rfl) ?_
      go_wp2_with fail
      go_ret
      refine HTE2.out _ _ ⟨⟨v5, l.take k ++ l.drop (k + 1), B5, rfl, rc_as hr5 (by rw [List.length_append, List.length_take, List.length_drop, Hn.out]; omega) (by rw [List.map_append, List.map_take, List.map_drop]), by rw [List.length_append, List.length_take, List.length_drop]; omega, ?_⟩, (g2.trans' gd).trans' f5⟩
      intro s hs
      rcases List.mem_append.1 hs with h | h
      · exact Ho.out s (List.mem_of_mem_take h)
      · exact Ho.out s (List.mem_of_mem_drop h)
    case neg =>
      have e0 : (d == 0) = false := by simpa using d0
      by_cases d1 : d = 1
      case pos =>
        subst d1
        obtain ⟨U, hU⟩ := Hlow.out k (Nat.le_of_lt hkn)
        have HU := hid hU
        clear hU
        go_wp2_with fail
        have gd := (Fr.refl [] w2).drew
        have hcd : w2.drew.cell? ⟨lb, off + k, none⟩ = some (.string K) := hck
        refine wp_region_D (fun _ => True) false [] (by kernel_rfl) ?_
        refine WD.pure [4, 5, 6, 7] (by kernel_rfl) trivial ?_
        simp only [pick, List.toList_toArray, List.map_cons, List.map_nil, List.getD_cons_succ, List.getD_cons_zero]
        repeat (first | (refine quiet_slice_v3 (by rfl) _ _ _ _ _ rfl _ rfl _ _ _ rfl rfl rfl (.slice (some ⟨b, 0, none⟩) k k) (fun w0 _ => run_hm_rc w0 _ 9 _ n cap k .i64 .i64 Try.underlying24 (by kernel_rfl) (Nat.le_of_lt hkn) hnc ⟨_, _, rfl⟩) ?_; simp only [World.size_alloc, World.size_drew, Act.put, List.setIfInBounds_toArray, List.set_cons_succ, List.set_cons_zero]) | go_big_quiet_step (fail))
        refine wpQuiet_nil ?_
        refine WD.free [0, 1, 2, 3] (by kernel_rfl) trivial ?_
        simp only [pick, List.toList_toArray, List.map_cons, List.map_nil, List.getD_cons_succ, List.getD_cons_zero]
        repeat (first | (refine quiet_slice_v3 (by rfl) _ _ _ _ _ rfl _ rfl _ _ _ rfl rfl rfl (.slice (some ⟨b, 0, none⟩) k k) (fun w0 _ => run_hm_rc w0 _ 9 _ n cap k .i64 .i64 Try.underlying24 (by kernel_rfl) (Nat.le_of_lt hkn) hnc ⟨_, _, rfl⟩) ?_; simp only [World.size_alloc, World.size_drew, Act.put, List.setIfInBounds_toArray, List.set_cons_succ, List.set_cons_zero]) | go_big_quiet_step (fail))
        refine wpQuiet_nil ?_
        refine WD.eff 8 (by kernel_rfl) ?_
        simp only [pick, List.toList_toArray, List.map_cons, List.map_nil, List.getD_cons_succ, List.getD_cons_zero]
        refine wpList_buildSlice_any rfl _ 1 _ rfl 9 Try.underlying24 _ _ Hi.out Hz.out rfl Hs9.out (by decide) (by decide) rfl [.string K] rfl (by simp [Value.oneCell']) ?_
        intro w3 f3 hlt3 hb3
        have g3 := gd.trans' f3
        simp only [World.size_alloc, World.size_drew, Act.put, List.setIfInBounds_toArray, List.set_cons_succ, List.set_cons_zero]
        try refine wpList_nil ?_
        refine AfterD.on trivial (by kernel_rfl) ?_
        try simp only [World.size_alloc, World.size_drew, Act.put, List.setIfInBounds_toArray, List.set_cons_succ, List.set_cons_zero]
        refine WD.eff 9 (by kernel_rfl) ?_
        simp only [pick, List.toList_toArray, List.map_cons, List.map_nil, List.getD_cons_succ, List.getD_cons_zero]
        refine wpList_append_cut rfl _ _ _ rfl 9 _ _ 1 16 Try.underlying24 Hi.out Hz.out Hs9.out Hb9.out rfl (by decide) rfl (Hcut.out _ g3) rfl (rc_of_blk hb3 rfl (by decide)) (by simp [Value.oneCell']) (by unfold maxLen; omega) (by omega) ?_
        intro v5 w5 B5 hr5 f5 ho5
        obtain ⟨ho5, b5, rfl, hb5⟩ := ho5 (by decide)
        have g5 := g3.trans' f5
        have hb5w : w2.heap.size ≤ b5 := by have := g3.size; omega
        simp only [World.size_alloc, World.size_drew, Act.put, List.setIfInBounds_toArray, List.set_cons_succ, List.set_cons_zero]
        try refine wpList_nil ?_
        refine AfterD.on trivial (by kernel_rfl) ?_
        try simp only [World.size_alloc, World.size_drew, Act.put, List.setIfInBounds_toArray, List.set_cons_succ, List.set_cons_zero]
        refine WD.pure [10] (by kernel_rfl) trivial ?_
        simp only [pick, List.toList_toArray, List.map_cons, List.map_nil, List.getD_cons_succ, List.getD_cons_zero]
        repeat (first | (refine quiet_slice_v3 (by rfl) _ _ _ _ _ rfl _ rfl _ _ _ rfl rfl rfl (.slice (some ⟨b, 0, none⟩) k k) (fun w0 _ => run_hm_rc w0 _ 9 _ n cap k .i64 .i64 Try.underlying24 (by kernel_rfl) (Nat.le_of_lt hkn) hnc ⟨_, _, rfl⟩) ?_; simp only [World.size_alloc, World.size_drew, Act.put, List.setIfInBounds_toArray, List.set_cons_succ, List.set_cons_zero]) | go_big_quiet_step (fail))
        refine wpQuiet_nil ?_
        refine WD.done (by kernel_rfl) ?_
        go_wp2_with (first
          | (refine wpList_slice_v rfl _ _ _ _ _ rfl _ rfl _ _ _ rfl rfl rfl U (HU.out.1 _ _ rfl) ?_; simp only [World.size_alloc, World.size_drew, Act.put, List.setIfInBounds_toArray, List.set_cons_succ, List.set_cons_zero])
          | (refine wpList_append_rc rfl _ _ _ rfl 9 _ _ 1 16 Try.underlying24 Hi.out Hz.out Hs9.out Hb9.out rfl (by decide) rfl ho5 rfl (HU.out.2 _ g5) (fun u hu => str_one l u (List.mem_of_mem_drop hu)) (by unfold maxLen; omega) (by omega) ?_; intro v6 w6 B6 ho6 f6 hB6; simp only [World.size_alloc, World.size_drew, Act.put, List.setIfInBounds_toArray, List.set_cons_succ, List.set_cons_zero]))
        go_ret
        refine HTE2.out _ _ ⟨⟨v6, (l.take k ++ [K]) ++ l.drop k, B6, rfl, rc_as ho6.rd.rc (by rw [List.length_append, List.length_append, List.length_take, List.length_drop, Hn.out, List.length_singleton]; omega) (by rw [List.map_append, List.map_append, List.map_take, List.map_drop]; rfl), by rw [List.length_append, List.length_append, List.length_take, List.length_drop, Hn.out, List.length_singleton]; omega, ?_⟩, (g2.trans' g5).trans f6 (by have := g2.size; simp; omega)⟩
        intro s hs
        rcases List.mem_append.1 hs with h | h
        · rcases List.mem_append.1 h with h | h
          · exact Ho.out s (List.mem_of_mem_take h)
          · simp at h; subst h; exact hKo
        · exact Ho.out s (List.mem_of_mem_drop h)
      case neg =>
        have e1 : (d == 1) = false := by simpa using d1
        by_cases d2 : d = 2
        case pos =>
          subst d2
          obtain ⟨e, heE⟩ : ∃ e : Nat, (n : Int) - 1 = (e : Int) := Int.eq_ofNat_of_zero_le (by omega)
          have hen : e < n := by omega
          obtain ⟨lb2, off2, hab, _, hce⟩ := rc_str (wr := w2) Hl.out g2 e (by rw [Hn.out]; exact hen)
          obtain ⟨rfl, rfl⟩ : lb = lb2 ∧ off = off2 := by simp at hab; exact hab
          obtain ⟨E, hE⟩ : ∃ E, l[e]'(by rw [Hn.out]; exact hen) = E := ⟨_, rfl⟩
          have hEo : E.size ≤ 100000 := by rw [← hE]; exact Ho.out _ (List.getElem_mem _)
          rw [hE] at hce
          clear hE hab
          go_wp2_with (first
            | (refine wpList_put rfl _ _ _ rfl rfl (.string E) rfl rfl hbk (by omega) (by kernel_rfl) ?_; intro w4 f4 b4 hs4; have hck4 : w4.cell? ⟨lb, off + k, none⟩ = some (.string K) := (World.cell?_of_block (w := w2) (f4.block lb (by have := g2.size; omega) HlbB.out)).trans hck; simp only [World.size_alloc, World.size_drew, Act.put, List.setIfInBounds_toArray, List.set_cons_succ, List.set_cons_zero])
            | (refine wpList_put rfl _ _ _ rfl rfl (.string K) rfl rfl b4 (by rw [List.length_set]; omega) (by kernel_rfl) ?_; intro w5 f5 b5 hs5; simp only [World.size_alloc, World.size_drew, Act.put, List.setIfInBounds_toArray, List.set_cons_succ, List.set_cons_zero]))
          go_ret
          refine HTE2.out _ _ ⟨⟨_, (l.set k E).set e K, some b, rfl, by rw [List.length_set, List.length_set, Hn.out]; exact own_put (l := l.set k E) (by rw [List.length_set]; exact Hn.out) (by rw [List.take_set, Hcs.out, ← List.map_set]) hnc hcm (by rw [List.length_set]; exact hcl) e K b5, by rw [List.length_set, List.length_set]; omega, set_small e (set_small k Ho.out hEo) hKo⟩, (g2.trans f4 HbS.out).trans f5 HbS.out⟩
        case neg =>
          have e2 : (d == 2) = false := by simpa using d2
          by_cases d3 : d = 3
          case pos =>
            subst d3
            by_cases hA : K.size ≠ 0 ∧ 0 ≤ A
            case pos =>
              have hK1 : ¬(K = ⟨#[]⟩) := fun h => hA.1 (by rw [h]; rfl)
              have hKl : ¬(K.toList = []) := fun h => by
                have := beq_str2 K ⟨#[]⟩
                rw [h] at this
                exact hK1 (of_decide_eq_true (this.symm.trans (by decide +kernel)))
              have hKe : K.toList.isEmpty = false := by simpa using hKl
              have hA3 : decide (0 ≤ A) = true := by simpa using hA.2
              have hK0 : 0 < K.size := Nat.pos_of_ne_zero hA.1
              obtain ⟨j, hjE⟩ : ∃ j : Nat, A % (K.size : Int) = (j : Int) := Int.eq_ofNat_of_zero_le (Int.emod_nonneg _ (by omega))
              have hjE2 : A.tmod (K.size : Int) = (j : Int) := by rw [Int.tmod_eq_emod_of_nonneg hA.2]; exact hjE
              have hjk : j < K.size := by have := Int.emod_lt_of_pos A (show 0 < (K.size : Int) by omega); omega
              obtain ⟨L, hL⟩ : ∃ L, K.data.toList = L := ⟨_, rfl⟩
              have HL := hid hL
              have HLl := hid (show L.length = K.size by rw [← hL, bytes_len])
              clear hA hK1 hL
              go_wp2_with (refine wpList_bytes_own rfl 9 57 5 _ rfl K rfl (by unfold maxLen; omega) Try.underlying9 Try.underlying57 Try.underlying5 ?_; intro w3 c3 f3 hlt3 ho3; simp only [World.size_alloc, World.size_drew, Act.put, List.setIfInBounds_toArray, List.set_cons_succ, List.set_cons_zero]; revert ho3)
              all_goals try (rename_i hh; rw [hKe] at hh; cases hh)
              intro ho3
              rw [HL.out] at ho3
              obtain ⟨N3, hN3⟩ : ∃ N3, w2.heap.size = N3 := ⟨_, rfl⟩
              rw [hN3] at ho3 ⊢
              obtain ⟨cs3, hb3, hl3, htk3, hre3⟩ := ho3.blkOf
              have kj : w3.drew.cell? ⟨N3, j, none⟩ = some (bt (g8 L j)) := by
                have h := ho3.cellAt rfl (j := j) (by rw [bv_length, HLl.out]; exact hjk)
                rw [show w3.drew.cell? ⟨N3, j, none⟩ = w3.cell? ⟨N3, j, none⟩ from rfl, h, bv, List.getElem?_map, g8, List.getD_eq_getElem?_getD, List.getElem?_eq_getElem (by rw [HLl.out]; exact hjk)]
                rfl
              have ht3 := f3.blk ht2 (by simp)
              have k32 : w3.drew.cell? ⟨w.heap.size, 2, none⟩ = some (.int .i64 A) := ht3.cell 2
              have k33 : w3.drew.cell? ⟨w.heap.size, 3, none⟩ = some (bt y) := ht3.cell 3
              have hb3d := hb3.drew
              have g3 := (g2.trans' f3).drew
              have hbk3 := (f3.blk hbk (by simp)).drew
              have Hbn := hid (show b ∉ [N3] by have := hbk.lt; simp; omega)
              have HwN := hid (show w.heap.size ≤ N3 by have := g2.size; omega)
              have HreN := hid hre3
              clear hb3 f3 ht3 hlt3 hre3
              go_wp2_with fail
              refine wp_region_D (fun _ => True) false [] (by kernel_rfl) ?_
              refine WD.pure [0, 1, 2, 3, 4, 5, 6, 7, 8, 9, 10, 11, 12, 13, 14, 15, 16, 17] (by kernel_rfl) trivial ?_
              simp only [pick, List.toList_toArray, List.map_cons, List.map_nil, List.getD_cons_succ, List.getD_cons_zero]
              repeat (first | go_big_quiet_step (fail))
              refine wpQuiet_nil ?_
              refine WD.eff 18 (by kernel_rfl) ?_
              simp only [pick, List.toList_toArray, List.map_cons, List.map_nil, List.getD_cons_succ, List.getD_cons_zero]
              refine wpList_put rfl _ _ _ rfl rfl (bt (g8 L j ^^^ y)) rfl rfl hb3d (by omega) (by kernel_rfl) ?_
              intro w4 f4 b4 hs4
              have ho4 := HreN.out w4 _ b4 (by rw [List.length_set])
              rw [List.take_set, htk3, ← bv_set] at ho4
              have hbk := f4.blk hbk3 Hbn.out
              have g2 := g3.trans f4 (by have := HwN.out; simp; omega)
              simp only [World.size_alloc, World.size_drew, Act.put, List.setIfInBounds_toArray, List.set_cons_succ, List.set_cons_zero]
              try refine wpList_nil ?_
              refine AfterD.on trivial (by kernel_rfl) ?_
              try simp only [World.size_alloc, World.size_drew, Act.put, List.setIfInBounds_toArray, List.set_cons_succ, List.set_cons_zero]
              refine WD.done (by kernel_rfl) ?_
              obtain ⟨V, hV⟩ : ∃ V : ByteArray, ⟨(L.set j (g8 L j ^^^ y)).toArray⟩ = V := ⟨_, rfl⟩
              have hVs : V.size ≤ 100000 := by rw [← hV, size_mk', List.length_set, HLl.out]; exact hKo
              generalize L.set j (g8 L j ^^^ y) = L2 at ho4 hV
              clear kj k32 k33 hbk3 g3 f4 b4 hs4 htk3 hb3d
              go_wp2_with (first
                | (refine wpList_string_of_own rfl 57 9 5 _ rfl rfl ho4 Try.underlying57 Try.underlying5 Try.underlying9 ?_; rw [hV]; simp only [World.size_alloc, World.size_drew, Act.put, List.setIfInBounds_toArray, List.set_cons_succ, List.set_cons_zero])
                | (refine wpList_put rfl _ _ _ rfl rfl (.string V) rfl rfl hbk (by omega) (by kernel_rfl) ?_; intro w5 f5 b5 hs5; simp only [World.size_alloc, World.size_drew, Act.put, List.setIfInBounds_toArray, List.set_cons_succ, List.set_cons_zero]))
              go_ret
              exact HTE2.out _ _ ⟨⟨_, l.set k V, some b, rfl, by rw [List.length_set, Hn.out]; exact own_put Hn.out Hcs.out hnc hcm hcl k V b5, by rw [List.length_set]; omega, set_small k Ho.out (by omega)⟩, g2.trans f5 HbS.out⟩
            case neg =>
              have hA3 : (K = ⟨#[]⟩) ∨ (decide (0 ≤ A) = false) := by
                by_cases h : 0 ≤ A
                · exact .inl (by
                    have h0 : K.size = 0 := by by_cases h0 : K.size = 0
                                               · exact h0
                                               · exact absurd ⟨h0, h⟩ hA
                    apply ByteArray.ext
                    exact Array.eq_empty_of_size_eq_zero h0)
                · exact .inr (by simpa using h)
              clear hA
              rcases hA3 with rfl | h
              all_goals
                go_wp2_with fail
                all_goals go_ret
                all_goals exact HTE2.out _ _ ⟨⟨_, l, some b, rfl, rc_as ho2.rd.rc Hn.out.symm rfl, by omega, Ho.out⟩, g2⟩
          case neg =>
            have e3 : (d == 3) = false := by simpa using d3
            by_cases d4 : d = 4
            case pos =>
              subst d4
              by_cases hA : 0 ≤ A ∧ A < (K.size : Int)
              case pos =>
                obtain ⟨q, rfl⟩ := Int.eq_ofNat_of_zero_le hA.1
                have hqs : q ≤ K.size := by omega
                have hA3 : decide ((q : Int) < (K.size : Int)) = true := by simp; omega
                have hA4 : decide (q < K.size) = true := by simp; omega
                have hcd : w2.drew.cell? ⟨lb, off + k, none⟩ = some (.string K) := hck
                have hd2 : w2.drew.cell? ⟨w.heap.size, 2, none⟩ = some (.int .i64 (q : Int)) := kt2
                have hVs : (K.extract 0 q).size ≤ 100000 := by simp; omega
                obtain ⟨V, hV⟩ : ∃ V, K.extract 0 q = V := ⟨_, rfl⟩
                have HV := hid hV
                rw [hV] at hVs
                have Hrs := hid (show ∀ w0 : World, (Instr.sliceAt 9 (.string K) none (some (.int .i64 (q : Int))) none).run Try.prog w0 = .ok (.string V) w0 from fun w0 => by rw [← HV.out]; exact run_slice_sh w0 _ Try.underlying9 K .i64 _ q rfl hqs)
                clear hA hV
                go_wp2_with fail
                refine wp_region_D (fun _ => True) false [] (by kernel_rfl) ?_
                refine WD.pure [0, 1, 2, 3, 4, 5, 6, 7, 8, 9, 10, 11, 12] (by kernel_rfl) trivial ?_
                simp only [pick, List.toList_toArray, List.map_cons, List.map_nil, List.getD_cons_succ, List.getD_cons_zero]
                repeat (first | go_big_quiet_step (fail))
                refine wpQuiet_nil ?_
                refine WD.done (by kernel_rfl) ?_
                go_wp2_with fail
                have hcd : w2.drew.drew.cell? ⟨lb, off + k, none⟩ = some (.string K) := hck
                have hd2 : w2.drew.drew.cell? ⟨w.heap.size, 2, none⟩ = some (.int .i64 (q : Int)) := kt2
                have hbd := hbk.drew.drew
                refine wp_region_D (fun _ => True) false [] (by kernel_rfl) ?_
                refine WD.pure [0, 1, 2, 3, 4, 5, 6, 7, 8, 9] (by kernel_rfl) trivial ?_
                simp only [pick, List.toList_toArray, List.map_cons, List.map_nil, List.getD_cons_succ, List.getD_cons_zero]
                repeat (first | (refine quiet_slice_vW (by rfl) _ _ _ _ rfl _ rfl _ _ rfl rfl _ (fun w0 _ => Hrs.out w0) ?_; simp only [World.size_alloc, World.size_drew, Act.put, List.setIfInBounds_toArray, List.set_cons_succ, List.set_cons_zero]) | go_big_quiet_step (fail))
                refine wpQuiet_nil ?_
                refine WD.eff 10 (by kernel_rfl) ?_
                simp only [pick, List.toList_toArray, List.map_cons, List.map_nil, List.getD_cons_succ, List.getD_cons_zero]
                refine wpList_put rfl _ _ _ rfl rfl (.string V) rfl rfl hbd (by omega) (by kernel_rfl) ?_
                intro w5 f5 b5 hs5
                simp only [World.size_alloc, World.size_drew, Act.put, List.setIfInBounds_toArray, List.set_cons_succ, List.set_cons_zero]
                try refine wpList_nil ?_
                refine AfterD.on trivial (by kernel_rfl) ?_
                try simp only [World.size_alloc, World.size_drew, Act.put, List.setIfInBounds_toArray, List.set_cons_succ, List.set_cons_zero]
                refine WD.done (by kernel_rfl) ?_
                go_wp2_with fail
                have g2 := (g2.drew).drew
                go_ret
                exact HTE2.out _ _ ⟨⟨_, l.set k V, some b, rfl, by rw [List.length_set, Hn.out]; exact own_put Hn.out Hcs.out hnc hcm hcl k V b5, by rw [List.length_set]; omega, set_small k Ho.out (by omega)⟩, g2.trans f5 HbS.out⟩
              case neg =>
                have hA3 : (decide (0 ≤ A) = false) ∨ (decide (0 ≤ A) = true ∧ decide (A < (K.size : Int)) = false) := by
                  by_cases h : 0 ≤ A
                  · exact .inr ⟨by simpa using h, by simp; omega⟩
                  · exact .inl (by simpa using h)
                clear hA
                have hcd : w2.drew.cell? ⟨lb, off + k, none⟩ = some (.string K) := hck
                have hd2 : w2.drew.cell? ⟨w.heap.size, 2, none⟩ = some (.int .i64 A) := kt2
                rcases hA3 with h | ⟨h, h'⟩
                all_goals
                  go_wp2_with fail
                  refine wp_region_D (fun _ => True) false [] (by kernel_rfl) ?_
                  refine WD.pure [0, 1, 2, 3, 4, 5, 6, 7, 8, 9, 10, 11, 12] (by kernel_rfl) trivial ?_
                  simp only [pick, List.toList_toArray, List.map_cons, List.map_nil, List.getD_cons_succ, List.getD_cons_zero]
                  repeat (first | go_big_quiet_step (fail))
                  refine wpQuiet_nil ?_
                  refine WD.done (by kernel_rfl) ?_
                  go_wp2_with fail
                  go_ret
                  exact HTE2.out _ _ ⟨⟨_, l, some b, rfl, rc_as (ho2.keep ((Fr.refl [] w2).drew) (by simp)).rd.rc Hn.out.symm rfl, by omega, Ho.out⟩, g2.drew⟩
            case neg =>
              have e4 : (d == 4) = false := by simpa using d4
              by_cases d5 : d = 5
              case pos =>
                subst d5
                go_wp2_with (refine wpList_put rfl _ _ _ rfl rfl (.string X) rfl rfl hbk (by omega) (by kernel_rfl) ?_; intro w5 f5 b5 hs5; simp only [World.size_alloc, World.size_drew, Act.put, List.setIfInBounds_toArray, List.set_cons_succ, List.set_cons_zero])
                go_ret
                exact HTE2.out _ _ ⟨⟨_, l.set k X, some b, rfl, by rw [List.length_set, Hn.out]; exact own_put Hn.out Hcs.out hnc hcm hcl k X b5, by rw [List.length_set]; omega, set_small k Ho.out (by omega)⟩, g2.trans f5 HbS.out⟩
              case neg =>
                have e5 : (d == 5) = false := by simpa using d5
                by_cases d6 : d = 6
                case pos =>
                  subst d6
                  have hcv : ∀ w0 : World, (convert 3 36 (.int .i64 (k : Int))).run Try.prog w0 = .ok (W64 (UInt64.ofNat k)) w0 := fun w0 => cv_iu w0 k (by omega)
                  generalize UInt64.ofNat k = ku at hcv
                  have H1 := hid fun w0 : World => keys_of (w := w0) 0
                  rw [show bt 0 = .int .u8 0 from rfl] at H1
                  have hks := k_sizes 0
                  obtain ⟨C, hC⟩ : ∃ C, kC 0 = C := ⟨_, rfl⟩
                  obtain ⟨M, hM⟩ : ∃ C, kM 0 = C := ⟨_, rfl⟩
                  rw [hC, hM] at H1 hks
                  have Hks := hid hks
                  clear hC hM hks
                  go_wp2_with fail
                  refine (rpad_some X hX).mono ?_
                  rintro e w3 ⟨⟨P, kk, rfl, hPs⟩, f3⟩
                  go_wp2_with fail
                  refine (H1.out _).mono ?_
                  rintro e w4 ⟨rfl, f4⟩
                  have H2 := hid fun w0 : World => rseal_good (w := w0) C M ⟨#[119, 97, 121]⟩ P ku Hks.out.1 Hks.out.2 (by omega) (by decide)
                  obtain ⟨V, hV⟩ : ∃ V, sealT C M (n8 ku) ⟨#[119, 97, 121]⟩ P = V := ⟨_, rfl⟩
                  rw [hV] at H2
                  have hVs : V.size ≤ 100000 := by rw [← hV, sealT_size, n8_size]; omega
                  clear hV
                  go_wp2_with fail
                  refine (H2.out _).mono ?_
                  rintro e w4' ⟨rfl, f4'⟩
                  have g2 := ((g2.trans' f3).trans' f4).trans' f4'
                  have hbk := f4'.blk (f4.blk (f3.blk hbk (by simp)) (by simp)) (by simp)
                  go_wp2_with (refine wpList_put rfl _ _ _ rfl rfl (.string V) rfl rfl hbk (by omega) (by kernel_rfl) ?_; intro w5 f5 b5 hs5; simp only [World.size_alloc, World.size_drew, Act.put, List.setIfInBounds_toArray, List.set_cons_succ, List.set_cons_zero])
                  go_ret
                  exact HTE2.out _ _ ⟨⟨_, l.set k V, some b, rfl, by rw [List.length_set, Hn.out]; exact own_put Hn.out Hcs.out hnc hcm hcl k V b5, by rw [List.length_set]; omega, set_small k Ho.out (by omega)⟩, g2.trans f5 HbS.out⟩
                case neg =>
                  have e6 : (d == 6) = false := by simpa using d6
                  go_wp2_with fail
                  go_ret
                  exact HTE2.out _ _ ⟨⟨_, l, some b, rfl, rc_as ho2.rd.rc Hn.out.symm rfl, by omega, Ho.out⟩, g2⟩
end Go.Proofs.Ytgbkbhklgbjgmaa.rcd
