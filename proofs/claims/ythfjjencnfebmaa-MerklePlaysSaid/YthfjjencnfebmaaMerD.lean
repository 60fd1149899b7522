/- Layer 10, merkle: the row above a row. -/
import Derived.Test.YthfjjencnfebmaaMerC
namespace Go.Proofs.Ythfjjencnfebmaa.mer
open Go Go.Xr Go.RowKit
set_option linter.unusedVariables false
set_option linter.unusedSimpArgs false
/-- The row above a row: the first m parts. -/
def upN (l : List ByteArray) (m : Nat) : List ByteArray := (List.range m).map fun j => nodeS ((l.drop (8 * j)).take 8)
def upS (l : List ByteArray) : List ByteArray := upN l ((l.length + 7) / 8)
theorem upN_len (l : List ByteArray) (m : Nat) : (upN l m).length = m := by simp [upN]
theorem upN_succ (l : List ByteArray) (m : Nat) : upN l (m + 1) = upN l m ++ [nodeS ((l.drop (8 * m)).take 8)] := by simp [upN, List.range_succ]
/-- Between two rounds: the first k parts lie in a slice of its own, in the result's cell. -/
def UpI (w : World) (M c0 : Nat) (l : List ByteArray) (k : Nat) (W : World) : Prop :=
  (∃ v B, Blk W c0 [v] ∧ Xr.Own W 1 v k ((upN l k).map .string) B ∧ ∀ b, B = some b → M + 2 ≤ b) ∧ Fr [] w W
theorem UpI.keep {w : World} {M c0 : Nat} {l : List ByteArray} {k : Nat} {A B : World} (h : UpI w M c0 l k A) (f : Fr [M, M + 1] A B) (hc : c0 < M) (hw : w.heap.size ≤ M) : UpI w M c0 l k B := by
  obtain ⟨⟨v, X, h1, h2, h3⟩, h4⟩ := h
  refine ⟨⟨v, X, f.blk h1 (by simp; omega), h2.keep f fun b hb => ?_, h3⟩, h4.trans f (by simp; omega)⟩
  have := h3 b hb
  simp
  omega
attribute [local go_sem] Oper.semAt_some

set_option maxRecDepth 20000 in
set_option maxHeartbeats 1000000 in
theorem up_any {w : World} {v : Value} {l : List ByteArray} {B : Option Nat} (h : Rc w 1 v l.length (l.map .string) B) (hl : l.length ≤ 16384) (h32 : ∀ s ∈ l, s.size = 32) :
    Calls Try.prog 46 #[v] w fun e w' => (∃ v' B', e = .returned v' ∧ Xr.Own w' 1 v' (upS l).length ((upS l).map .string) B' ∧ ∀ b, B' = some b → w.heap.size ≤ b) ∧ Fr [] w w' := by
  obtain ⟨i9, hi9, hz9, hs9, hb9⟩ := inf9
  have Hi := hid hi9
  have Hz := hid hz9
  have Hs := hid hs9
  have Hb := hid hb9
  clear hi9 hz9 hs9 hb9
  obtain ⟨ad, c, rfl⟩ := h.isSlice
  obtain ⟨hnc, hcm⟩ : l.length ≤ c ∧ c ≤ maxLen := by
    obtain ⟨_, _, ad', c', hv, h1, h2, _⟩ := h
    obtain ⟨_, rfl⟩ : ad = ad' ∧ c = c' := by simpa using hv
    exact ⟨h1, h2⟩
  refine callsIn_wide.1 (callsIn_of_wp_marks (n := 3) Try.func46 rfl trivial ?_ rfl)
  refine wpIn_wide.2 ?_
  simp only [Try.ntmps46, List.size_toArray, List.length_cons, List.length_nil, Nat.reduceAdd, Nat.reduceSub, Array.replicate_succ, Array.replicate_zero, List.push_toArray, List.append_toArray, List.nil_append, List.cons_append]
  go_wp2_with (go_at_call 47; refine chunk_any.mono ?_; rintro e w3 ⟨cb, nb, rfl, hcb, hnb, hcb1, hcb2, hnb1, hnb2, f3⟩)
  have b0 := Blk.alloc w [Value.slice none 0 0] 22
  have b3 := f3.blk b0 (by simp)
  have g3 : Fr [] w w3 := ((Fr.refl [] w).alloc _).trans' f3
  obtain ⟨M, hM⟩ : ∃ M, w3.heap.size = M := ⟨_, rfl⟩
  obtain ⟨c0, hc0⟩ : ∃ c0, w.heap.size = c0 := ⟨_, rfl⟩
  have hcM : c0 < M := by have := b3.lt; omega
  rw [hc0] at b3 ⊢
  rw [hM] at hcb2 hnb2
  rw [World.size_alloc, hc0] at hcb1 hnb1
  clear b0 f3
  have hI0 : UpI w M c0 l 0 w3 := ⟨⟨_, none, b3, Own.nil w3 1, by simp⟩, g3⟩
  have hseq := chunk_seq (w := w3) (cb := cb) (nb := nb) hnc hcm (by omega) hcb hnb
  have HI := hid hI0
  clear b3 g3 hI0 hcb hnb
  refine wpIn_wide.1 (wpIn_rangeFunc_N (n := 3) (gf := 57) rfl (enters_of Try.func57 (by kernel_rfl) rfl) hseq rfl ?hKeep (UpI w M c0 l) ?hI HI.out
    (fun v => { tmps := #[.slice ad l.length c, undef, .pointer (some ⟨c0, 0, none⟩), v, .slice ad l.length c, .func (.func 57) #[] #[.pointer (some ⟨cb, 0, none⟩), .pointer (some ⟨nb, 0, none⟩)], v, undef, undef, undef, undef, undef, undef], defers := [] }) ?assign ?body ?done)
  case hKeep =>
    rintro b (rfl | rfl) <;> omega
  case hI =>
    intro k A B h f
    rw [hM] at f
    exact h.keep f hcM (by omega)
  case assign =>
    intro l' k W K hK
    gi_wp2
    exact hK
  case body =>
    intro l' k W hk hWs hI
    rw [hM] at hWs ⊢
    obtain ⟨⟨v, X, b1, ho1, hX⟩, f⟩ := hI
    have hr := rc_winV (h.keep f (by simp)) (8 * k) (min (8 * k + 8) l.length) (by omega) (by omega)
    obtain ⟨G, hG⟩ : ∃ G, (l.drop (8 * k)).take 8 = G := ⟨_, rfl⟩
    have hr2 : Rc W 1 (winV ad (8 * k) (min (8 * k + 8) l.length)) G.length (G.map .string) B := rc_as hr (by rw [← hG, List.length_take, List.length_drop]; omega) (by
      rw [← hG, List.map_take, List.map_drop, List.take_eq_take_iff, List.length_drop, List.length_map]
      omega)
    have HGn := hid (show upN l (k + 1) = upN l k ++ [nodeS G] by rw [upN_succ, hG])
    have hGl : G.length ≤ 8 := by rw [← hG, List.length_take]; omega
    have hGs : (G.map ByteArray.size).sum < 1099511627000 := by
      have := sum_le G 32 fun s hs => by
        rw [← hG] at hs
        rw [h32 s (List.mem_of_mem_drop (List.mem_of_mem_take hs))]
        exact Nat.le_refl _
      omega
    obtain ⟨V, hV⟩ : ∃ V, winV ad (8 * k) (min (8 * k + 8) l.length) = V := ⟨_, rfl⟩
    rw [hV] at hr2 ⊢
    have hkl : k ≤ 16384 := by omega
    clear hr hG hV hk h
    refine wpIn_block ?_
    refine wpIn_region_D (by kernel_rfl) (fun w' => Blk w' c0 [v]) true [] (by kernel_rfl) ?_
    refine WD.pure [1] (by kernel_rfl) b1.drew ?_
    simp only [pick, List.toList_toArray, List.map_cons, List.map_nil, List.getD_cons_succ, List.getD_cons_zero]
    repeat (first | (refine quiet_load_1R (by rfl) _ _ rfl rfl v (fun w0 h => h.cell 0) _ Try.underlying22 rfl ?_; simp only [World.size_alloc, World.size_drew, Act.put, List.setIfInBounds_toArray, List.set_cons_succ, List.set_cons_zero]) | go_big_quiet_step (fail))
    refine wpQuiet_nil ?_
    refine WD.held [0] (by kernel_rfl) b1.drew ?_
    simp only [pick, List.toList_toArray, List.map_cons, List.map_nil, List.getD_cons_succ, List.getD_cons_zero]
    repeat (first | (refine quiet_load_1R (by rfl) _ _ rfl rfl v (fun w0 h => h.cell 0) _ Try.underlying22 rfl ?_; simp only [World.size_alloc, World.size_drew, Act.put, List.setIfInBounds_toArray, List.set_cons_succ, List.set_cons_zero]) | go_big_quiet_step (fail))
    refine wpQuiet_nil ?_
    refine WD.eff 2 (by kernel_rfl) ?_
    simp only [pick, List.toList_toArray, List.map_cons, List.map_nil, List.getD_cons_succ, List.getD_cons_zero]
    have f0 : Fr [] W W.drew := (Fr.refl [] W).drew
    have hr3 := hr2.keep f0 (by simp)
    go_wp2_with (go_at_call 38; refine (node_any hr3 (by omega) hGs).mono ?_; rintro e w5 ⟨rfl, f5⟩)
    have c5 : Blk w5 c0 [v] := f5.blk b1.drew (by simp)
    try refine wpList_nil ?_
    refine AfterD.on c5 (by kernel_rfl) ?_
    try simp only [World.size_alloc, World.size_drew, Act.put, List.setIfInBounds_toArray, List.set_cons_succ, List.set_cons_zero]
    refine WD.eff 3 (by kernel_rfl) ?_
    simp only [pick, List.toList_toArray, List.map_cons, List.map_nil, List.getD_cons_succ, List.getD_cons_zero]
    go_wp2_with (refine wpList_buildSlice_r rfl _ 1 _ rfl 9 Try.underlying22 _ _ Hi.out Hz.out rfl Hs.out (by decide) (by decide) (by decide) [.string (nodeS G)] rfl (by intro v hv; simp at hv; rcases hv with rfl; rfl) ?_; intro w6 f6 hlt6 hb6; simp only [World.size_alloc, World.size_drew, Act.put, List.setIfInBounds_toArray, List.set_cons_succ, List.set_cons_zero])
    have c6 : Blk w6 c0 [v] := f6.blk c5 (by simp)
    try refine wpList_nil ?_
    refine AfterD.on c6 (by kernel_rfl) ?_
    try simp only [World.size_alloc, World.size_drew, Act.put, List.setIfInBounds_toArray, List.set_cons_succ, List.set_cons_zero]
    refine WD.eff 4 (by kernel_rfl) ?_
    simp only [pick, List.toList_toArray, List.map_cons, List.map_nil, List.getD_cons_succ, List.getD_cons_zero]
    have g6 : Fr [] W w6 := (f0.trans' f5).trans' f6
    have ho6 := ho1.keep g6 (by simp)
    go_wp2_with (refine wpList_append_rc rfl _ _ _ rfl 9 _ _ 1 16 Try.underlying22 Hi.out Hz.out Hs.out Hb.out rfl (by decide) rfl ho6 rfl (rc_as (l' := [nodeS G]) (rc_blk hb6 rfl (by simp [maxLen])) rfl rfl) (str_one _) (by simp [maxLen]; omega) (by simp; omega) ?_; intro v7 w7 B7 ho7 f7 hB7; simp only [World.size_alloc, World.size_drew, Act.put, List.setIfInBounds_toArray, List.set_cons_succ, List.set_cons_zero])
    have hX6 : ∀ b, B7 = some b → M + 2 ≤ b := by
      have := g6.size
      rcases hB7 with rfl | ⟨b, rfl, hb⟩
      · exact hX
      · intro b' hb'; cases hb'; omega
    have hXn : c0 ∉ X.toList := fun h => by have := hX c0 (by simpa using h); omega
    have hv7 : v7.oneCell' = true := by obtain ⟨_, _, rfl⟩ := ho7.isSlice; rfl
    have c7 : Blk w7 c0 [v] := f7.blk c6 hXn
    try refine wpList_nil ?_
    refine AfterD.on c7 (by kernel_rfl) ?_
    try simp only [World.size_alloc, World.size_drew, Act.put, List.setIfInBounds_toArray, List.set_cons_succ, List.set_cons_zero]
    refine WD.eff 5 (by kernel_rfl) ?_
    simp only [pick, List.toList_toArray, List.map_cons, List.map_nil, List.getD_cons_succ, List.getD_cons_zero]
    go_wp2_with (refine wpList_put rfl _ _ _ rfl rfl v7 rfl hv7 c7 (by simp) (by kernel_rfl) ?_; intro w8 f8 b8 hs8; simp only [World.size_alloc, World.size_drew, Act.put, List.setIfInBounds_toArray, List.set_cons_succ, List.set_cons_zero])
    have c8 : Blk w8 c0 [v7] := b8
    have hc07 : ∀ b, B7 = some b → b ∉ [c0] := fun b hb => by have := hX6 b hb; simp; omega
    have ho8 : Xr.Own w8 1 v7 (k + 1) ((upN l (k + 1)).map .string) B7 := by
      rw [HGn.out, List.map_append]
      exact ho7.keep f8 hc07
    have hXc : ∀ b, X = some b → M + 2 ≤ b := hX
    have g8 : Fr (X.toList ++ [c0]) W w8 := ((g6.mono (by simp)).trans' (f7.mono (fun x hx => .inl (List.mem_append_left _ hx)))).trans' (f8.mono (fun x hx => .inl (List.mem_append_right _ hx)))
    clear hc07 hv7
    try refine wpList_nil ?_
    refine AfterD.end rfl (by kernel_rfl) ?_
    try simp only [World.size_alloc, World.size_drew, Act.put, List.setIfInBounds_toArray, List.set_cons_succ, List.set_cons_zero]
    refine WD.done (by kernel_rfl) ?_
    refine ⟨g8.kept ?_, ⟨⟨v7, B7, c8, ho8, hX6⟩, f.trans g8 ?_⟩⟩
    · intro b hb
      have hbM : b < M + 2 := by rcases hb with (rfl | rfl) | rfl | rfl <;> omega
      have hbc : b ≠ c0 := by rcases hb with (rfl | rfl) | rfl | rfl <;> omega
      refine ⟨by omega, fun h => ?_⟩
      rcases List.mem_append.1 h with h | h
      · have := hX b (by simpa using h); omega
      · exact hbc (by simpa using h)
    · intro b hb
      rcases List.mem_append.1 hb with h | h
      · have := hX b (by simpa using h); exact .inr (by omega)
      · simp at h; exact .inr (by omega)
  case done =>
    intro D W hD hI hDf
    rw [hM] at hD
    obtain ⟨⟨v, X, b1, ho1, hX⟩, f⟩ := hI
    have HD := hid hDf
    have hE : (l.length + 7) / 8 = (upS l).length := (upN_len l _).symm
    have HO := hid (show Xr.Own W 1 v (upS l).length ((upS l).map .string) X by rw [← hE]; exact ho1)
    have hv1 : v.oneCell' = true := by obtain ⟨_, _, rfl⟩ := ho1.isSlice; rfl
    have k1 : W.cell? ⟨c0, 0, none⟩ = some v := b1.cell 0
    clear hDf hE ho1 hseq HI
    go_wp2_with (refine wpList_put rfl _ _ _ rfl rfl v rfl hv1 b1 (by simp) (by kernel_rfl) ?_; intro w8 f8 b8 hs8; simp only [World.size_alloc, World.size_drew, Act.put, List.setIfInBounds_toArray, List.set_cons_succ, List.set_cons_zero])
    have hDl : D < W.heap.size := (Array.getElem?_eq_some_iff.1 HD.out).1
    have hD8 : w8.heap[D]? = some (.deferred (some [])) := (f8.block D hDl (by simp; omega)).trans HD.out
    have fD := fr_putObj w8 D (.deferred none)
    have c8 := fD.blk (show Blk w8 c0 [v] from b8) (by simp; omega)
    refine ⟨by simp, .inl ⟨_, _, rfl, run_takeDeferred hD8, ?_⟩⟩
    refine ⟨v, results_cell_1 rfl _ _ rfl (c8.cell 0) _ Try.underlying22 rfl, ⟨v, X, rfl, ?_, fun b hb => by have := hX b hb; omega⟩, ?_⟩
    · have ho8 := HO.out.keep f8 fun b hb => by have := hX b hb; simp; omega
      refine ho8.keep fD fun b hb hbD => ?_
      obtain rfl : b = D := by simpa using hbD
      rcases ho8.2 with ⟨_, _, h0⟩ | ⟨b', cap, cs, h0, _, _, _, hbb, _⟩
      · rw [hb] at h0; cases h0
      · rw [hb] at h0
        cases h0
        obtain ⟨_, _, hg, _⟩ := hbb
        rw [hD8] at hg
        cases hg
    · exact (f.trans f8 (by simp; omega)).trans fD (by simp; omega)
end Go.Proofs.Ythfjjencnfebmaa.mer
