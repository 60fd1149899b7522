/- Layer 8: a volume of two disks of which no mirror is made. -/
import Derived.Test.YtgafefecookgaaaVolO
namespace Go.Proofs.Ytgafefecookgaaa
open Go Go.Xr Go.RowKit
set_option linter.unusedVariables false
set_option linter.unusedSimpArgs false
attribute [local go_sem] Oper.semAt_some
/-- Ahead of the round. -/
def OfF (w : World) (c3 c4 c5 c6 : Nat) (tv : Value) (bad : List Nat) (k : Nat) (W : World) : Prop :=
  k = 0 ∧ Ev w [] W (ofH c3 c4 c5 c6 tv (.slice none 0 0) [] none) ∧ ∀ b ∈ feetOf (ofH c3 c4 c5 c6 tv (.slice none 0 0) [] none), b ∉ bad
/-- Behind it. -/
def OfX (w : World) (c4 c5 : Nat) (c : Int) (bad : List Nat) (W : World) : Prop :=
  Ev w [] W [Res.blk c5 [.int .i64 c], Res.blk c4 [.pointer none]] ∧ c4 ∉ bad ∧ c5 ∉ bad
theorem OfF.keep {w A B : World} {c3 c4 c5 c6 k : Nat} {tv : Value} {bad S : List Nat} (h : OfF w c3 c4 c5 c6 tv bad k A) (f : Fr S A B) (hS : ∀ b ∈ S, w.heap.size ≤ b ∧ b ∈ bad) : OfF w c3 c4 c5 c6 tv bad k B :=
  ⟨h.1, Ev.skip h.2.1 f (fun b hb => ⟨(hS b hb).1, fun hf => h.2.2 b hf (hS b hb).2⟩), h.2.2⟩
theorem OfX.keep {w A B : World} {c4 c5 : Nat} {c : Int} {bad S : List Nat} (h : OfX w c4 c5 c bad A) (f : Fr S A B) (hS : ∀ b ∈ S, w.heap.size ≤ b ∧ b ∈ bad) : OfX w c4 c5 c bad B :=
  ⟨Ev.skip h.1 f (fun b hb => ⟨(hS b hb).1, fun hf => by
    simp [feetOf, Res.blk] at hf
    rcases hf with rfl | rfl
    · exact h.2.2 (hS _ hb).2
    · exact h.2.1 (hS _ hb).2⟩), h.2⟩
set_option maxRecDepth 20000 in
set_option maxHeartbeats 4000000 in
theorem of_fail {w : World} {B cap n : Nat} (hn : n = 2) {x0 x1 : Option Nat} {c : Int} (hrc : Rc w 1 (.slice (some ⟨B, 0, none⟩) n cap) n ([x0, x1].map pv) (some B)) (hc2 : n ≤ cap) (hcm : cap ≤ maxLen)
    (hpl : ∀ x ∈ [x0, x1], ∀ b, x = some b → Pln w b) (hd : ¬ dupAt [x0, x1] 2) (hc : c ≠ 0)
    (HT : ∀ w1, Fr [] w w1 → Calls Try.prog 28 #[pv x0, pv x1] w1 fun e w' => e = .returned (.tuple #[.pointer none, .int .i64 c]) ∧ w' = w1) :
    Calls Try.prog 27 #[.slice (some ⟨B, 0, none⟩) n cap, .func (.func 28) #[] #[]] w fun e w' => e = .returned (.tuple #[.pointer none, .int .i64 c]) ∧ Fr [] w w' := by
  have TW := hid fun (w1 : World) (f : Fr [] w w1) => twD_any (w := w1) (v := .slice (some ⟨B, 0, none⟩) n cap) (xs := [x0, x1]) (LB := some B) (by have := hrc.keep f (by simp); rw [hn] at this ⊢; exact this) (fun x hx b hb => f.plain b (hpl x hx b hb)) (by simp)
  have ND := hid hd
  have HT' := hid HT
  have HC := hid fun (w1 : World) (f : Fr [] w w1) => (show w1.cell? ⟨B, 0, none⟩ = some (pv x0) ∧ w1.cell? ⟨B, 1, none⟩ = some (pv x1) from by
    obtain ⟨b, off, c2, hB, hv2, _, _, _, h4⟩ := (hrc.keep f (by simp)).some (by omega)
    obtain ⟨⟨rfl, rfl⟩, _⟩ : (B = b ∧ 0 = off) ∧ cap = c2 := by simpa using hv2
    exact ⟨by simpa using h4 0 (by simp), by simpa using h4 1 (by simp)⟩)
  have hp0 : (pv x0).oneCell' = true := by cases x0 <;> rfl
  have hp1 : (pv x1).oneCell' = true := by cases x1 <;> rfl
  generalize pv x0 = y0 at *
  generalize pv x1 = y1 at *
  have hcb : (c != 0) = true := by simpa using hc
  have hv1 : (Value.int .i64 c).oneCell' = true := rfl
  have HN := hid hn
  have hn2 : 2 ≤ n := by omega
  have hn16 : n ≤ 16 := by omega
  have a1 : decide ((n : Int) < 2) = false := by rw [hn]; decide
  have a2 : decide ((16 : Int) < (n : Int)) = false := by rw [hn]; decide
  have a3 : (n : Int).tmod 2 = 0 := by rw [hn]; decide
  have a4 : decide (n < 2) = false := by rw [hn]; decide
  have a5 : decide (16 < n) = false := by rw [hn]; decide
  clear hrc hpl hd HT hn
  refine callsIn_wide.1 (callsIn_of_wp_marks (n := 3) Try.func27 rfl trivial ?_ rfl)
  refine wpIn_wide.2 ?_
  simp only [Try.ntmps27, List.size_toArray, List.length_cons, List.length_nil, Nat.reduceAdd, Nat.reduceSub, Array.replicate_succ, Array.replicate_zero, List.push_toArray, List.append_toArray, List.nil_append, List.cons_append]
  go_wp2_with fail
  obtain ⟨w1, hw1⟩ : ∃ w1, ((w.alloc (.cells #[Value.func (.func 28) #[] #[]] 60)).alloc (.cells #[Value.pointer none] 26)).alloc (.cells #[Value.int .i64 0] 27) = w1 := ⟨_, rfl⟩
  obtain ⟨c3, hc3⟩ : ∃ c3, w.heap.size = c3 := ⟨_, rfl⟩
  have F1 := hid (show Fr [] w w1 by rw [← hw1]; exact (((Fr.refl [] w).alloc _).alloc _).alloc _)
  rw [hw1]
  have E1 := hid (show Ev w [] w1 [Res.blk (w.heap.size + 1 + 1) [.int .i64 0], Res.blk (w.heap.size + 1) [.pointer none], Res.blk w.heap.size [.func (.func 28) #[] #[]]] by
    have g1 := (Ev.start w).new ((Fr.refl [] w).alloc _) (Res.On.blk (Blk.alloc w [Value.func (.func 28) #[] #[]] 60)) (by simp [Res.blk])
    have g2 := g1.new ((Fr.refl [] _).alloc _) (Res.On.blk (Blk.alloc _ [Value.pointer none] 26)) (by simp [Res.blk])
    have g3 := g2.new ((Fr.refl [] _).alloc _) (Res.On.blk (Blk.alloc _ [Value.int .i64 0] 27)) (by simp [Res.blk])
    rw [← hw1]
    simpa [World.size_alloc] using g3)
  have TW1 := hid (TW.out w1 F1.out)
  obtain ⟨c4, hc4⟩ : ∃ c4, c3 + 1 = c4 := ⟨_, rfl⟩
  obtain ⟨c5, hc5⟩ : ∃ c5, c4 + 1 = c5 := ⟨_, rfl⟩
  have hz1 : w1.heap.size = c5 + 1 := by rw [← hw1, ← hc5, ← hc4, ← hc3]; simp
  rw [hc3, hc4, hc5]
  rw [hc3, hc4, hc5] at E1
  clear hw1 TW
  go_wp2_with (first
    | (go_at_call 46; refine TW1.out.mono ?_; rintro e w6 ⟨b, rfl, hb, f6⟩; have hbf : b = false := (by cases b; rfl; exact absurd (hb.1 rfl) ND.out); subst hbf; have F6 := hid f6; clear hb f6))
  go_wp2_with (go_at_call 47; refine chunk2_any.mono ?_; rintro e w7 ⟨cb, nb, rfl, hcb, hnb, hcb1, hcb2, hnb1, hnb2, f7⟩)
  clear TW1 ND
  obtain ⟨c6, hc6⟩ : ∃ c6, w6.heap.size = c6 := ⟨_, rfl⟩
  have hs6 := F6.out.size
  have hc56 : c5 < c6 := by omega
  have b6 := Blk.alloc w6 [Value.slice none 0 0] 61
  have g6 := (E1.out.step F6.out).new ((Fr.refl [] w6).alloc _) (Res.On.blk b6) (by simp [Res.blk])
  have g7 := Ev.step (Ev.new g6 (Fr.refl [] _) (Res.On.own (Own.nil _ 1)) (by simp [Res.own])) f7
  rw [hc6] at g7 ⊢
  have hlow := hid fun (b : Nat) (hb : b ∈ feetOf (ofH c3 c4 c5 c6 (.func (.func 28) #[] #[]) (.slice none 0 0) [] none)) => (show b < c6 + 1 from by
    have h := (Ev.new g6 (Fr.refl [] _) (Res.On.own (Own.nil _ 1)) (by simp [Res.own])).held.ltAll b (by rw [hc6]; exact hb)
    rw [World.size_alloc, hc6] at h
    exact h)
  rw [World.size_alloc, hc6] at hcb1 hnb1
  obtain ⟨M, hM⟩ : ∃ M, w7.heap.size = M := ⟨_, rfl⟩
  rw [hM] at hcb2 hnb2
  have hI0 : OfF w c3 c4 c5 c6 (.func (.func 28) #[] #[]) [cb, nb, M, M + 1] 0 w7 := ⟨rfl, g7, fun b hb => by
    have := hlow.out b hb
    simp
    omega⟩
  have HI := hid hI0
  have hseq := chunk2_seq (w := w7) (cb := cb) (nb := nb) hc2 hcm (by omega) hcb hnb
  clear b6 g6 g7 hlow hI0 hcb hnb f7
  refine wpIn_wide.1 (wpIn_rangeFunc_M (n := 3) (gf := 61) rfl (enters_of Try.func61 (by kernel_rfl) rfl) hseq rfl ?hKeep (OfF w c3 c4 c5 c6 (.func (.func 28) #[] #[]) [cb, nb, M, M + 1]) (OfX w c4 c5 c [cb, nb, M, M + 1]) ?hI ?hIx HI.out (fun v => { tmps := #[Value.slice (some ⟨B, 0, none⟩) n cap, .func (.func 28) #[] #[], undef, .pointer (some ⟨c3, 0, none⟩), .pointer (some ⟨c4, 0, none⟩), .pointer (some ⟨c5, 0, none⟩), .pointer (some ⟨c6, 0, none⟩), v, undef, undef, .bool false, .slice (some ⟨B, 0, none⟩) n cap, .int .i64 (n : Int), .bool false, .bool false, .slice (some ⟨B, 0, none⟩) n cap, .int .i64 (n : Int), .bool false, .bool false, .bool false, .slice (some ⟨B, 0, none⟩) n cap, .int .i64 (n : Int), .int .i64 0, .bool false, .bool false, .bool false, .slice (some ⟨B, 0, none⟩) n cap, .bool false, .slice (some ⟨B, 0, none⟩) n cap, .func (.func 61) #[] #[.pointer (some ⟨cb, 0, none⟩), .pointer (some ⟨nb, 0, none⟩)], v, undef, undef, undef, undef, undef, undef, undef, undef, undef, undef, undef, undef, undef, undef, undef, undef, undef, undef, undef, undef, undef, undef], defers := [] }) ?assign ?body ?done ?stop)
  case hKeep =>
    rintro b (rfl | rfl) <;> omega
  case hI =>
    intro k A B h f
    rw [hM] at f
    exact h.keep f fun b hb => by simp at hb ⊢; omega
  case hIx =>
    intro A B h f
    rw [hM] at f
    exact h.keep f fun b hb => by simp at hb ⊢; omega
  case assign =>
    intro l' k W K hK
    gi_wp2
    exact hK
  case body =>
    intro l' k W hk hWs hI
    rw [hM] at hWs ⊢
    obtain ⟨rfl, hp2, hp3⟩ := hI
    have hV : winV (some ⟨B, 0, none⟩) (2 * 0) (min (2 * 0 + 2) n) = .slice (some ⟨B, 0, none⟩) 2 2 := by rw [HN.out]; rfl
    rw [hV]
    have HP2 := hid hp2
    have HP3 := hid hp3
    have f0 : Fr [] W W.drew := (Fr.refl [] W).drew
    have E0 := hid ((Ev.refl hp2.held).step f0)
    have G0 := hid (hp2.step f0)
    have hs0 : W.drew.cell? ⟨c3, 0, none⟩ = some (.func (.func 28) #[] #[]) ∧ W.drew.cell? ⟨B, 0, none⟩ = some y0 ∧ W.drew.cell? ⟨B, 1, none⟩ = some y1 := ⟨(E0.out.held.blkAt 4 rfl).cell 0, HC.out W.drew G0.out.nil⟩
    clear hV hp2 hp3 hk HC
    refine wpIn_block (wpIn_seq ?_)
    refine wpIn_region_D (by kernel_rfl) (fun w' => w'.cell? ⟨c3, 0, none⟩ = some (.func (.func 28) #[] #[]) ∧ w'.cell? ⟨B, 0, none⟩ = some y0 ∧ w'.cell? ⟨B, 1, none⟩ = some y1) false [] (by kernel_rfl) ?_
    refine WD.pure [0, 1, 2, 3, 4, 5, 6] (by kernel_rfl) hs0 ?_
    simp only [pick, List.toList_toArray, List.map_cons, List.map_nil, List.getD_cons_succ, List.getD_cons_zero]
    repeat (first | (refine quiet_load_1R (by rfl) _ _ rfl rfl (.func (.func 28) #[] #[]) (fun w0 h => h.1) _ Try.underlying60 rfl ?_; simp only [World.size_alloc, World.size_drew, Act.put, List.setIfInBounds_toArray, List.set_cons_succ, List.set_cons_zero]) | (refine quiet_load_1R (by rfl) _ _ rfl rfl y0 (fun w0 h => h.2.1) _ Try.underlying37 rfl ?_; simp only [World.size_alloc, World.size_drew, Act.put, List.setIfInBounds_toArray, List.set_cons_succ, List.set_cons_zero]) | (refine quiet_load_1R (by rfl) _ _ rfl rfl y1 (fun w0 h => h.2.2) _ Try.underlying37 rfl ?_; simp only [World.size_alloc, World.size_drew, Act.put, List.setIfInBounds_toArray, List.set_cons_succ, List.set_cons_zero]) | go_big_quiet_step (fail))
    refine wpQuiet_nil ?_
    refine WD.eff 7 (by kernel_rfl) ?_
    simp only [pick, List.toList_toArray, List.map_cons, List.map_nil, List.getD_cons_succ, List.getD_cons_zero]
    go_wp2_with (go_at_call 28; refine (HT'.out _ G0.out.nil).mono ?_; rintro e w9 ⟨rfl, hw⟩; subst hw)
    try refine wpList_nil ?_
    refine AfterD.on hs0 (by kernel_rfl) ?_
    try simp only [World.size_alloc, World.size_drew, Act.put, List.setIfInBounds_toArray, List.set_cons_succ, List.set_cons_zero]
    refine WD.pure [8, 9, 10, 11, 12] (by kernel_rfl) hs0 ?_
    simp only [pick, List.toList_toArray, List.map_cons, List.map_nil, List.getD_cons_succ, List.getD_cons_zero]
    repeat (first | (refine quiet_load_1R (by rfl) _ _ rfl rfl (.func (.func 28) #[] #[]) (fun w0 h => h.1) _ Try.underlying60 rfl ?_; simp only [World.size_alloc, World.size_drew, Act.put, List.setIfInBounds_toArray, List.set_cons_succ, List.set_cons_zero]) | (refine quiet_load_1R (by rfl) _ _ rfl rfl y0 (fun w0 h => h.2.1) _ Try.underlying37 rfl ?_; simp only [World.size_alloc, World.size_drew, Act.put, List.setIfInBounds_toArray, List.set_cons_succ, List.set_cons_zero]) | (refine quiet_load_1R (by rfl) _ _ rfl rfl y1 (fun w0 h => h.2.2) _ Try.underlying37 rfl ?_; simp only [World.size_alloc, World.size_drew, Act.put, List.setIfInBounds_toArray, List.set_cons_succ, List.set_cons_zero]) | go_big_quiet_step (fail))
    refine wpQuiet_nil ?_
    refine WD.done (by kernel_rfl) ?_
    refine wpIn_seq_k fun K hK => ?_
    clear hK
    refine wpIn_seq ?_
    refine wpIn_region_W (by kernel_rfl) ?_
    go_wp2_with fail
    refine wpIn_cond_true rfl ?_
    refine wpIn_seq ?_
    refine wpIn_region_W (by kernel_rfl) ?_
    have b4 : Blk W.drew c4 [.pointer none] := E0.out.held.blkAt 3 rfl
    go_wp2_with (first
      | (refine wpList_put rfl _ _ _ rfl rfl (.pointer none) rfl rfl b4 (by simp) (by kernel_rfl) ?_; intro w7 f7 b7 hs7; have E7 := hid (E0.out.at 3 rfl f7 (fun b hb => .inl hb) (Res.On.blk b7) (fun b hb => .inl hb)); have b5 : Blk w7 c5 [.int .i64 0] := E7.out.held.blkAt 2 rfl; clear b4; simp only [World.size_alloc, World.size_drew, Act.put, List.setIfInBounds_toArray, List.set_cons_succ, List.set_cons_zero])
      | (refine wpList_put rfl _ _ _ rfl rfl (.int .i64 c) rfl rfl b5 (by simp) (by kernel_rfl) ?_; intro w8 f8 b8 hs8; have E8 := hid (E7.out.at 2 rfl f8 (fun b hb => .inl hb) (Res.On.blk b8) (fun b hb => .inl hb)); clear b5; simp only [World.size_alloc, World.size_drew, Act.put, List.setIfInBounds_toArray, List.set_cons_succ, List.set_cons_zero]))
    refine wpIn_ret ?_
    have G8 := HP2.out.trans E8.out
    have hcs : c4 ∈ feetOf (ofH c3 c4 c5 c6 (.func (.func 28) #[] #[]) (.slice none 0 0) [] none) ∧ c5 ∈ feetOf (ofH c3 c4 c5 c6 (.func (.func 28) #[] #[]) (.slice none 0 0) [] none) := by simp [feetOf, ofH, Res.own, Res.blk]
    refine ⟨E8.out.fr.kept fun b hb => ⟨by omega, fun hf => HP3.out b hf ?_⟩, G8.pick [2, 3] (by decide) rfl, HP3.out c4 hcs.1, HP3.out c5 hcs.2⟩
    rcases hb with (rfl | rfl) | rfl | rfl <;> simp
  case stop =>
    intro D W hD hI hDf
    rw [hM] at hD
    subst hD
    obtain ⟨E10, hn4, hn5⟩ := hI
    have hDn : D ∉ feetOf [Res.blk c5 [.int .i64 c], Res.blk c4 [.pointer none]] := fun h => by
      simp [feetOf, Res.blk] at h
      rcases h with rfl | rfl
      · exact hn5 (by simp)
      · exact hn4 (by simp)
    have fD := fr_putObj W D (.deferred none) (pln_def hDf)
    have E11 := Ev.skip E10 fD (fun b hb => by
      obtain rfl : b = D := by simpa using hb
      exact ⟨by omega, hDn⟩)
    have b5' := E11.held.blkAt 0 rfl
    have b4' := E11.held.blkAt 1 rfl
    refine wpIn_ret ?_
    refine ⟨by simp, .inl ⟨_, _, rfl, run_takeDeferred hDf, ?_⟩⟩
    exact ⟨_, results_cell_2 rfl _ _ rfl rfl (b4'.cell 0) (b5'.cell 0) _ Try.underlying26 rfl _ Try.underlying27 rfl, rfl, E11.nil⟩
  case done =>
    intro D W hD hI hDf
    exact absurd hI.1 (by have := HN.out; omega)
section
variable {w w' w0 : World}
set_option maxRecDepth 20000 in
theorem mkall_fail {B cap n : Nat} (hn : n = 2) {x0 x1 : Option Nat} {c : Int} (hrc : Rc w 1 (.slice (some ⟨B, 0, none⟩) n cap) n ([x0, x1].map pv) (some B)) (hc2 : n ≤ cap) (hcm : cap ≤ maxLen)
    (hpl : ∀ x ∈ [x0, x1], ∀ b, x = some b → Pln w b) (hd : ¬ dupAt [x0, x1] 2) (hc : c ≠ 0)
    (HT : ∀ w1, Fr [] w w1 → Calls Try.prog 28 #[pv x0, pv x1] w1 fun e w' => e = .returned (.tuple #[.pointer none, .int .i64 c]) ∧ w' = w1) :
    Calls Try.prog 7 #[.slice (some ⟨B, 0, none⟩) n cap] w fun e w' => e = .returned (.tuple #[.pointer none, .int .i64 c]) ∧ Fr [] w w' := by
  have HO := hid (of_fail hn hrc hc2 hcm hpl hd hc HT)
  clear hrc hpl hd HT hn hc2 hcm hc
  go_enter Try.func7, Try.ntmps7
  go_wp2_with (go_at_call 27; refine HO.out.mono ?_; rintro r w5 ⟨rfl, f5⟩)
  go_ret2
  exact ⟨rfl, f5⟩
set_option maxRecDepth 20000 in
theorem mkall_dup {v : Value} {n : Nat} {xs : List (Option Nat)} {B : Nat} (hrc : Rc w 1 v n (xs.map pv) (some B)) (hl : xs.length = n) (hpl : ∀ x ∈ xs, ∀ b, x = some b → Pln w b) (h2 : 2 ≤ n) (h16 : n ≤ 16) (hm : n % 2 = 0) (hd : dupAt xs n) :
    Calls Try.prog 7 #[v] w fun e w' => e = .returned (.tuple #[.pointer none, .int .i64 3]) ∧ Fr [] w w' := by
  have HO := hid (of_dup (K := 28) hrc hl hpl h2 h16 hm hd)
  obtain ⟨ad, c, rfl⟩ := hrc.isSlice
  clear hrc hpl hd hl
  go_enter Try.func7, Try.ntmps7
  go_wp2_with (go_at_call 27; refine HO.out.mono ?_; rintro r w5 ⟨rfl, f5⟩)
  go_ret2
  exact ⟨rfl, f5⟩
end
end Go.Proofs.Ytgafefecookgaaa
