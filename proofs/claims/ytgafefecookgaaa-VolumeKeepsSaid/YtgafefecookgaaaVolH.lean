/- Layer 8: a volume of disks (volume.of). -/
import Derived.Test.YtgafefecookgaaaVolG
namespace Go.Xr
open Go Go.RowKit
/-! A region that draws nothing, in a round: the plain walk of it. -/
theorem wpListIn_of {l n : Nat} {P : Program} {ops : Array Oper} {Q : Exit → Act → World → Prop} (hL : ¬ LetsOut Q) : ∀ (rest : List Oper) (a : Act) (w : World), (∀ o ∈ rest, ∀ c, o.op ≠ .defer c) → wpList P ops Q rest a w → wpListIn (Fence.wide.inRound l) n P ops Q rest a w
  | [], _, _, _, h => h
  | o :: rest, a, w, hd, h => by
    unfold wpList at h
    refine wpListIn_step fun K hK => ?_
    have ih := fun (a : Act) (w : World) => wpListIn_of (l := l) (n := n) (P := P) (ops := ops) hL rest a w (fun o ho => hd o (List.mem_cons_of_mem _ ho))
    by_cases hw : Region.wanted o (yielded ops a.tmps) = true
    · simp only [hw, if_true] at h ⊢
      rcases h with h | ⟨_, h⟩
      · exact oper_wpIn_round (hd o (List.mem_cons_self ..)) (Oper.wp_mono (fun a w h => hK _ _ (ih a w h)) h)
      · exact (hL h).elim
    · simp only [hw, if_false, Bool.false_eq_true] at h ⊢
      exact ⟨fun _ _ => trivial, hK _ _ (ih _ _ h)⟩
theorem wpIn_region_W {l n : Nat} {P : Program} {ops : Array Oper} {Q : Exit → Act → World → Prop} {id : Nat} {a : Act} {w : World} (hd : noDefer ops = true) (h : wpList P ops (fun e a w => e = .normal ∧ Q .normal a w) ops.toList a w) : (Code.region id ops false).wpIn (Fence.wide.inRound l) n P Q a w := by
  refine wpIn_mono (wpIn_region_list (wpListIn_of (Q := fun e a w => e = .normal ∧ Q .normal a w) (by rintro ⟨_, _, h, _⟩; cases h) _ _ _ (fun o ho c hc => ?_) h)) (fun e a w ⟨he, hq⟩ => by subst he; exact hq)
  obtain ⟨i, hi⟩ := List.getElem?_of_mem ho
  exact noDefer_at hd (by rw [← Array.getElem?_toList]; exact hi) c hc
/-- Two results, each in one cell. -/
theorem results_cell_2 {P : Program} {fn : Func} {p p2 : Tmp} {ty ty2 : TypeId} (h : fn.results = #[.cell p ty, .cell p2 ty2]) (tmps : Array Value) (w : World) {b b2 : Nat} {v v2 : Value} (hp : tmps.getD p undef = .pointer (some ⟨b, 0, none⟩)) (hp2 : tmps.getD p2 undef = .pointer (some ⟨b2, 0, none⟩)) (hv : w.cell? ⟨b, 0, none⟩ = some v) (hv2 : w.cell? ⟨b2, 0, none⟩ = some v2) (d : TypeDesc)
    (hu : P.underlying ty = some d) (hd : aggDesc d = false) (d2 : TypeDesc) (hu2 : P.underlying ty2 = some d2) (hd2 : aggDesc d2 = false) : (results fn tmps).run P w = .ok (.tuple #[v, v2]) w := by
  have hr := run_load_one w ty d hu hd hv
  have hr2 := run_load_one w ty2 d2 hu2 hd2 hv2
  have hp' : tmps[p]?.getD undef = .pointer (some ⟨b, 0, none⟩) := by simpa using hp
  have hp2' : tmps[p2]?.getD undef = .pointer (some ⟨b2, 0, none⟩) := by simpa using hp2
  simp [results, h, hp', hp2', asAddr, hr, hr2]
end Go.Xr
namespace Go.Proofs.Ytgafefecookgaaa
open Go Go.Xr Go.RowKit
set_option linter.unusedVariables false
set_option linter.unusedSimpArgs false
attribute [local go_sem] Oper.semAt_some
def ofH (c3 c4 c5 c6 : Nat) (tv v : Value) (xs : List Value) (X : Option Nat) : List Res :=
  [Res.own 1 v xs.length xs X, Res.blk c6 [v], Res.blk c5 [.int .i64 0], Res.blk c4 [.pointer none], Res.blk c3 [tv]]
def ofR (H l : List Res) (ss : List VS) (ps : List VP) (k : Nat) : List Res := H ++ (l ++ (vpsC ps ++ vssC (ss.drop k)))
def mxs (ps : List VP) : List Value := ps.map fun p => pv (some p.m)
/-- Between two rounds: k mirrors are made, and stand in a list of its own. -/
def OfI (w : World) (c3 c4 c5 c6 : Nat) (tv : Value) (l : List Res) (ss : List VS) (mf : Sys → MS) (bad : List Nat) (k : Nat) (W : World) : Prop :=
  ∃ (ps : List VP) (v : Value) (X : Option Nat), ps.map (fun p => (p.d, p.M)) = (ss.take k).map (fun s => (s.d, mf s.s)) ∧
    Ev w (l ++ vssC ss) W (ofR (ofH c3 c4 c5 c6 tv v (mxs ps) X) l ss ps k) ∧ ∀ b ∈ feetOf (ofR (ofH c3 c4 c5 c6 tv v (mxs ps) X) l ss ps k), b ∉ bad
theorem OfI.keep {w A B : World} {c3 c4 c5 c6 k : Nat} {tv : Value} {l : List Res} {ss : List VS} {mf : Sys → MS} {bad S : List Nat} (h : OfI w c3 c4 c5 c6 tv l ss mf bad k A) (f : Fr S A B) (hS : ∀ b ∈ S, w.heap.size ≤ b ∧ b ∈ bad) : OfI w c3 c4 c5 c6 tv l ss mf bad k B := by
  obtain ⟨ps, v, X, h1, h2, h3⟩ := h
  exact ⟨ps, v, X, h1, Ev.skip h2 f (fun b hb => ⟨(hS b hb).1, fun hf => h3 b hf (hS b hb).2⟩), h3⟩
theorem ofR_out (H l : List Res) {ss : List VS} (ps : List VP) {k : Nat} {s : VS} (hk : ss[k]? = some s) : (ofR H l ss ps k).Perm ((H ++ (l ++ (vpsC ps ++ vssC (ss.drop (k + 1))))) ++ vsC s) := by
  have e : ss.drop k = s :: ss.drop (k + 1) := by
    obtain ⟨hlt, e⟩ := List.getElem?_eq_some_iff.1 hk
    rw [List.drop_eq_getElem_cons hlt, e]
  unfold ofR
  rw [e]
  show (H ++ (l ++ (vpsC ps ++ (vsC s ++ vssC (ss.drop (k + 1)))))).Perm _
  simp only [List.append_assoc]
  exact (((List.perm_append_comm).append_left _).append_left _).append_left _
theorem ofR_in (H l : List Res) (ss : List VS) (ps : List VP) (k : Nat) (p : VP) : ((H ++ (l ++ (vpsC ps ++ vssC (ss.drop (k + 1))))) ++ vpC p).Perm (ofR H l ss (ps ++ [p]) (k + 1)) := by
  unfold ofR
  have e : vpsC (ps ++ [p]) = vpsC ps ++ vpC p := by simp [vpsC]
  rw [e]
  simp only [List.append_assoc]
  exact (((List.perm_append_comm).append_left _).append_left _).append_left _
set_option maxRecDepth 20000 in
set_option maxHeartbeats 4000000 in
theorem of_Make {w : World} {l : List Res} {ss : List VS} {v : Value} {B i0 : Nat} (mf : Sys → MS)
    (h : Held w (l ++ vssC ss)) (hi : l[i0]? = some (Res.own 1 v (dsOf ss).length (((dsOf ss).map some).map pv) (some B))) (h1 : 1 ≤ ss.length) (h8 : ss.length ≤ 8)
    (L : Nat) (hok : ∀ s ∈ ss, SysOk (mf s.s).s ∧ (mf s.s).s.len false = L) (h2 : 2 ≤ L)
    (HT : ∀ s ∈ ss, ∀ (l1 : List Res) (w1 : World), Held w1 (l1 ++ vsC s) → Calls Try.prog 28 #[.pointer (some ⟨s.d false, 0, none⟩), .pointer (some ⟨s.d true, 0, none⟩)] w1 fun e w' => ∃ m FF', e = .returned (.tuple #[.pointer (some ⟨m, 0, none⟩), .int .i64 0]) ∧ Ev w1 (l1 ++ vsC s) w' (l1 ++ mirC [] m s.d FF' (mf s.s))) :
    Calls Try.prog 27 #[v, .func (.func 28) #[] #[]] w fun e w' => ∃ vb rb v' ps, e = .returned (.tuple #[.pointer (some ⟨vb, 0, none⟩), .int .i64 0]) ∧ ps.map (fun p : VP => (p.d, p.M)) = ss.map (fun s => (s.d, mf s.s)) ∧ Ev w (l ++ vssC ss) w' (volR vb rb v' (ps.map VP.m) ((L : Int) - 1) 0 ++ (l ++ vpsC ps)) := by
  have hdl : (dsOf ss).length = 2 * ss.length := by simp [dsOf, dsP_len]
  have ho0 := h.ownAt i0 (by rw [List.getElem?_append_left (List.getElem?_eq_some_iff.1 hi).1]; exact hi)
  have TW := hid fun (w1 : World) (f : Fr [] w w1) => twD_any (w := w1) (v := v) (xs := (dsOf ss).map some) (LB := some B) (by
    have := (ho0.rd.rc).keep f (by simp)
    simpa using this) (fun x hx b hb => by
    subst hb
    obtain ⟨d, hd, e⟩ := List.mem_map.1 hx
    obtain rfl : d = b := Option.some.inj e
    obtain ⟨q, hq, rfl⟩ := List.mem_map.1 hd
    exact (vss_dk (h.keep0 f) q hq).2) (by rw [List.length_map, hdl]; omega)
  have ND := hid (dup_none (vss_nodup h) ((dsOf ss).map some).length)
  have HH := hid h
  have HO := hid ho0
  obtain ⟨c, hv, hnc, hcm⟩ : ∃ c, v = .slice (some ⟨B, 0, none⟩) (2 * ss.length) c ∧ 2 * ss.length ≤ c ∧ c ≤ maxLen := by
    rcases ho0.shape with ⟨_, _, _, h1⟩ | ⟨b, cap, hb1, h1, h2, h3⟩
    · cases h1
    · cases hb1
      rw [hdl] at h1 h2
      exact ⟨cap, h1, h2, h3⟩
  subst hv
  obtain ⟨n, hn⟩ : ∃ n, 2 * ss.length = n := ⟨_, rfl⟩
  have Hn := hid hn
  rw [hn] at hnc ⊢
  have hn16 : n ≤ 16 := by omega
  have hn2 : 2 ≤ n := by omega
  have a1 : decide ((n : Int) < 2) = false := by simp; omega
  have a2 : decide ((16 : Int) < (n : Int)) = false := by simp; omega
  have a3 : (n : Int).tmod 2 = 0 := by rw [← hn, Int.tmod_eq_emod_of_nonneg (by omega)]; omega
  have a4 : decide (n < 2) = false := by simp; omega
  have a5 : decide (16 < n) = false := by simp; omega
  rw [hn] at TW
  clear hdl ho0 h hn h1 h8
  refine callsIn_wide.1 (callsIn_of_wp_marks (n := 3) Try.func27 rfl trivial ?_ rfl)
  refine wpIn_wide.2 ?_
  simp only [Try.ntmps27, List.size_toArray, List.length_cons, List.length_nil, Nat.reduceAdd, Nat.reduceSub, Array.replicate_succ, Array.replicate_zero, List.push_toArray, List.append_toArray, List.nil_append, List.cons_append]
  go_wp2_with fail
  obtain ⟨w1, hw1⟩ : ∃ w1, ((w.alloc (.cells #[Value.func (.func 28) #[] #[]] 60)).alloc (.cells #[Value.pointer none] 26)).alloc (.cells #[Value.int .i64 0] 27) = w1 := ⟨_, rfl⟩
  obtain ⟨c3, hc3⟩ : ∃ c3, w.heap.size = c3 := ⟨_, rfl⟩
  have F1 := hid (show Fr [] w w1 by rw [← hw1]; exact (((Fr.refl [] w).alloc _).alloc _).alloc _)
  rw [hw1]
  have E1 := hid (show Ev w (l ++ vssC ss) w1 (Res.blk (w.heap.size + 1 + 1) [.int .i64 0] :: Res.blk (w.heap.size + 1) [.pointer none] :: Res.blk w.heap.size [.func (.func 28) #[] #[]] :: (l ++ vssC ss)) by
    have g1 := (Ev.refl HH.out).new ((Fr.refl [] w).alloc _) (Res.On.blk (Blk.alloc w [Value.func (.func 28) #[] #[]] 60)) (by simp [Res.blk])
    have g2 := g1.new ((Fr.refl [] _).alloc _) (Res.On.blk (Blk.alloc _ [Value.pointer none] 26)) (by simp [Res.blk])
    have g3 := g2.new ((Fr.refl [] _).alloc _) (Res.On.blk (Blk.alloc _ [Value.int .i64 0] 27)) (by simp [Res.blk])
    rw [← hw1]
    simpa [World.size_alloc] using g3)
  have TW1 := hid (TW.out w1 F1.out)
  obtain ⟨c4, hc4⟩ : ∃ c4, c3 + 1 = c4 := ⟨_, rfl⟩
  obtain ⟨c5, hc5⟩ : ∃ c5, c4 + 1 = c5 := ⟨_, rfl⟩
  have hz1 : w1.heap.size = c5 + 1 := by rw [← hw1, ← hc5, ← hc4, ← hc3]; simp
  rw [hc3, hc4, hc5]
  rw [hc3, hc4, hc5] at E1
  clear hw1 TW
  go_wp2_with (first
    | (go_at_call 46; refine TW1.out.mono ?_; rintro e w6 ⟨b, rfl, hb, f6⟩; have hbf : b = false := (by cases b; rfl; exact absurd (hb.1 rfl) ND.out); subst hbf; have F6 := hid f6; clear hb f6))
  go_wp2_with (go_at_call 47; refine chunk2_any.mono ?_; rintro e w7 ⟨cb, nb, rfl, hcb, hnb, hcb1, hcb2, hnb1, hnb2, f7⟩)
  clear TW1 ND
  obtain ⟨c6, hc6⟩ : ∃ c6, w6.heap.size = c6 := ⟨_, rfl⟩
  have hs6 := F6.out.size
  have hc56 : c5 < c6 := by omega
  have b6 := Blk.alloc w6 [Value.slice none 0 0] 61
  have g6 := (E1.out.step F6.out).new ((Fr.refl [] w6).alloc _) (Res.On.blk b6) (by simp [Res.blk])
  have g7 := Ev.step (Ev.new g6 (Fr.refl [] _) (Res.On.own (Own.nil _ 1)) (by simp [Res.own])) f7
  rw [hc6] at g7 ⊢
  have hlow := hid fun (b : Nat) (hb : b ∈ feetOf (ofR (ofH c3 c4 c5 c6 (.func (.func 28) #[] #[]) (.slice none 0 0) (mxs []) none) l ss [] 0)) => (show b < c6 + 1 from by
    have h := (Ev.new g6 (Fr.refl [] _) (Res.On.own (Own.nil _ 1)) (by simp [Res.own])).held.ltAll b (by rw [hc6]; exact hb)
    rw [World.size_alloc, hc6] at h
    exact h)
  rw [World.size_alloc, hc6] at hcb1 hnb1
  obtain ⟨M, hM⟩ : ∃ M, w7.heap.size = M := ⟨_, rfl⟩
  rw [hM] at hcb2 hnb2
  have hI0 : OfI w c3 c4 c5 c6 (.func (.func 28) #[] #[]) l ss mf [cb, nb, M, M + 1] 0 w7 := ⟨[], _, none, rfl, g7, fun b hb => by
    have := hlow.out b hb
    simp
    omega⟩
  have HI := hid hI0
  have hseq := chunk2_seq (w := w7) (cb := cb) (nb := nb) hnc hcm (by omega) hcb hnb
  clear b6 g6 g7 hlow hI0 hcb hnb f7
  have HC := hid fun (w1 : World) (hH : List Res × Unit) (ps' : List VP) (k' : Nat) (h1 : Held w1 (ofR hH.1 l ss ps' k')) (i : Nat) (q : VS × Bool) (hq : (dsP ss)[i]? = some q) => (show w1.cell? ⟨B, i, none⟩ = some (.pointer (some ⟨q.1.d q.2, 0, none⟩)) from by
    have h2 : (ofR hH.1 l ss ps' k')[hH.1.length + i0]? = some (Res.own 1 (.slice (some ⟨B, 0, none⟩) (2 * ss.length) c) (dsOf ss).length (((dsOf ss).map some).map pv) (some B)) := by
      unfold ofR
      rw [List.getElem?_append_right (by omega), Nat.add_sub_cancel_left, List.getElem?_append_left (List.getElem?_eq_some_iff.1 hi).1]
      exact hi
    have hlt : i < (dsOf ss).length := by rw [dsOf, List.length_map]; exact (List.getElem?_eq_some_iff.1 hq).1
    obtain ⟨b, off, c2, hB, hv2, _, _, _, h4⟩ := ((h1.ownAt _ h2).rd.rc).some (by omega)
    obtain ⟨⟨rfl, rfl⟩, _⟩ : (B = b ∧ 0 = off) ∧ 2 * ss.length = (dsOf ss).length ∧ c = c2 := by simpa using hv2
    have := h4 i (by simpa using hlt)
    rw [Nat.zero_add] at this
    rw [this]
    simp [dsOf, hq, pv])
  refine wpIn_wide.1 (wpIn_rangeFunc_M (n := 3) (gf := 61) rfl (enters_of Try.func61 (by kernel_rfl) rfl) hseq rfl ?hKeep (OfI w c3 c4 c5 c6 (.func (.func 28) #[] #[]) l ss mf [cb, nb, M, M + 1]) (fun _ => False) ?hI (fun _ _ h _ => h) HI.out (fun v => { tmps := #[Value.slice (some ⟨B, 0, none⟩) n c, .func (.func 28) #[] #[], undef, .pointer (some ⟨c3, 0, none⟩), .pointer (some ⟨c4, 0, none⟩), .pointer (some ⟨c5, 0, none⟩), .pointer (some ⟨c6, 0, none⟩), v, undef, undef, .bool false, .slice (some ⟨B, 0, none⟩) n c, .int .i64 (n : Int), .bool false, .bool false, .slice (some ⟨B, 0, none⟩) n c, .int .i64 (n : Int), .bool false, .bool false, .bool false, .slice (some ⟨B, 0, none⟩) n c, .int .i64 (n : Int), .int .i64 0, .bool false, .bool false, .bool false, .slice (some ⟨B, 0, none⟩) n c, .bool false, .slice (some ⟨B, 0, none⟩) n c, .func (.func 61) #[] #[.pointer (some ⟨cb, 0, none⟩), .pointer (some ⟨nb, 0, none⟩)], v, undef, undef, undef, undef, undef, undef, undef, undef, undef, undef, undef, undef, undef, undef, undef, undef, undef, undef, undef, undef, undef, undef], defers := [] }) ?assign ?body ?done ?stop)
  case hKeep =>
    rintro b (rfl | rfl) <;> omega
  case hI =>
    intro k A B h f
    rw [hM] at f
    exact h.keep f fun b hb => by simp at hb ⊢; omega
  case assign =>
    intro l' k W K hK
    gi_wp2
    exact hK
  case body =>
    intro l' k W hk hWs hI
    rw [hM] at hWs ⊢
    obtain ⟨ps, v, X, hp1, hp2, hp3⟩ := hI
    have hkl : k < ss.length := by have := Hn.out; omega
    obtain ⟨s, hs⟩ : ∃ s, ss[k]? = some s := ⟨_, List.getElem?_eq_getElem hkl⟩
    obtain ⟨q1, q2⟩ := dsP_get ss k s hs
    have HSf := hid fun (w1 : World) (ps' : List VP) (k' : Nat) (h1 : Held w1 (ofR (ofH c3 c4 c5 c6 (.func (.func 28) #[] #[]) v (mxs ps) X) l ss ps' k')) =>
      (show w1.cell? ⟨c3, 0, none⟩ = some (.func (.func 28) #[] #[]) ∧ w1.cell? ⟨B, 2 * k, none⟩ = some (.pointer (some ⟨s.d false, 0, none⟩)) ∧ w1.cell? ⟨B, 2 * k + 1, none⟩ = some (.pointer (some ⟨s.d true, 0, none⟩)) from
        ⟨(h1.blkAt 4 rfl).cell 0, HC.out w1 (_, ()) _ _ h1 _ _ q1, HC.out w1 (_, ()) _ _ h1 _ _ q2⟩)
    have hV : winV (some ⟨B, 0, none⟩) (2 * k) (min (2 * k + 2) n) = .slice (some ⟨B, 2 * k, none⟩) 2 2 := by
      have e : min (2 * k + 2) n = 2 * k + 2 := by have := Hn.out; omega
      rw [e]
      unfold winV
      rw [if_neg (by omega), show 2 * k + 2 - 2 * k = 2 by omega]
      simp [Addr.add]
      try exact fun h => h.symm
    rw [hV]
    have HSm := hid (List.mem_of_getElem? hs)
    have HP1 := hid hp1
    have HP2 := hid hp2
    have HP3 := hid hp3
    have HK := hid hs
    have hs0 := HSf.out W.drew ps k (hp2.held.keep0 (Fr.refl [] W).drew)
    have hk8 : k ≤ 8 := by omega
    obtain ⟨j, hj⟩ : ∃ j, 2 * k = j := ⟨_, rfl⟩
    rw [hj] at HSf hs0 ⊢
    have hj8 : j ≤ 16 := by omega
    clear hV q1 q2 hp1 hp2 hp3 hs hj hk
    refine wpIn_block (wpIn_seq ?_)
    refine wpIn_region_D (by kernel_rfl) (fun w' => w'.cell? ⟨c3, 0, none⟩ = some (.func (.func 28) #[] #[]) ∧ w'.cell? ⟨B, j, none⟩ = some (.pointer (some ⟨s.d false, 0, none⟩)) ∧ w'.cell? ⟨B, j + 1, none⟩ = some (.pointer (some ⟨s.d true, 0, none⟩))) false [] (by kernel_rfl) ?_
    refine WD.pure [0, 1, 2, 3, 4, 5, 6] (by kernel_rfl) hs0 ?_
    simp only [pick, List.toList_toArray, List.map_cons, List.map_nil, List.getD_cons_succ, List.getD_cons_zero]
    repeat (first | (refine quiet_load_1R (by rfl) _ _ rfl rfl (.func (.func 28) #[] #[]) (fun w0 h => h.1) _ Try.underlying60 rfl ?_; simp only [World.size_alloc, World.size_drew, Act.put, List.setIfInBounds_toArray, List.set_cons_succ, List.set_cons_zero]) | (refine quiet_load_1R (by rfl) _ _ rfl rfl (.pointer (some ⟨s.d false, 0, none⟩)) (fun w0 h => h.2.1) _ Try.underlying37 rfl ?_; simp only [World.size_alloc, World.size_drew, Act.put, List.setIfInBounds_toArray, List.set_cons_succ, List.set_cons_zero]) | (refine quiet_load_1R (by rfl) _ _ rfl rfl (.pointer (some ⟨s.d true, 0, none⟩)) (fun w0 h => h.2.2) _ Try.underlying37 rfl ?_; simp only [World.size_alloc, World.size_drew, Act.put, List.setIfInBounds_toArray, List.set_cons_succ, List.set_cons_zero]) | go_big_quiet_step (fail))
    refine wpQuiet_nil ?_
    refine WD.eff 7 (by kernel_rfl) ?_
    simp only [pick, List.toList_toArray, List.map_cons, List.map_nil, List.getD_cons_succ, List.getD_cons_zero]
    have f0 : Fr [] W W.drew := (Fr.refl [] W).drew
    have E0 := hid (Ev.perm ((Ev.refl HP2.out.held).step f0) (ofR_out _ l ps HK.out))
    go_wp2_with (go_at_call 28; refine (HT s HSm.out _ _ E0.out.held).mono ?_; rintro e w9 ⟨m, FF', rfl, E9⟩)
    have E10 := hid (Ev.perm (E0.out.trans E9) (ofR_in _ l ss ps k ⟨m, s.d, FF', mf s.s⟩))
    have hs10 := HSf.out w9 _ _ E10.out.held
    clear E0 E9 HSf hs0
    try refine wpList_nil ?_
    refine AfterD.on hs10 (by kernel_rfl) ?_
    try simp only [World.size_alloc, World.size_drew, Act.put, List.setIfInBounds_toArray, List.set_cons_succ, List.set_cons_zero]
    refine WD.pure [8, 9, 10, 11, 12] (by kernel_rfl) hs10 ?_
    simp only [pick, List.toList_toArray, List.map_cons, List.map_nil, List.getD_cons_succ, List.getD_cons_zero]
    repeat (first | (refine quiet_load_1R (by rfl) _ _ rfl rfl (.func (.func 28) #[] #[]) (fun w0 h => h.1) _ Try.underlying60 rfl ?_; simp only [World.size_alloc, World.size_drew, Act.put, List.setIfInBounds_toArray, List.set_cons_succ, List.set_cons_zero]) | (refine quiet_load_1R (by rfl) _ _ rfl rfl (.pointer (some ⟨s.d false, 0, none⟩)) (fun w0 h => h.2.1) _ Try.underlying37 rfl ?_; simp only [World.size_alloc, World.size_drew, Act.put, List.setIfInBounds_toArray, List.set_cons_succ, List.set_cons_zero]) | (refine quiet_load_1R (by rfl) _ _ rfl rfl (.pointer (some ⟨s.d true, 0, none⟩)) (fun w0 h => h.2.2) _ Try.underlying37 rfl ?_; simp only [World.size_alloc, World.size_drew, Act.put, List.setIfInBounds_toArray, List.set_cons_succ, List.set_cons_zero]) | go_big_quiet_step (fail))
    refine wpQuiet_nil ?_
    refine WD.done (by kernel_rfl) ?_
    refine wpIn_seq_k fun K hK => ?_
    have HNext := hid hK
    clear hK
    refine wpIn_seq ?_
    gi_wp2
    refine HNext.out _ _ ?_
    clear HNext
    refine wpIn_region_W (by kernel_rfl) ?_
    obtain ⟨i9, z9, hi9, hz9, hs9, hb9, hzc9⟩ := infMp
    have Hi := hid hi9
    have Hz := hid hz9
    have Hs := hid hs9
    have Hb := hid hb9
    have Hzc := hid hzc9
    clear hi9 hz9 hs9 hb9 hzc9 hs10
    have b9 : Blk w9 c6 [v] := E10.out.held.blkAt 1 rfl
    have o9 : Xr.Own w9 1 v (mxs ps).length (mxs ps) X := E10.out.held.ownAt 0 rfl
    have hle : (mxs ps).length ≤ 8 := by
      have h := congrArg List.length HP1.out
      rw [List.length_map, List.length_map, List.length_take] at h
      simp [mxs]
      omega
    have hle1 : (mxs ps).length + 1 ≤ maxLen := by unfold maxLen; omega
    have hle2 : ((mxs ps).length + 1) * 8 ≤ 140737488355328 := by omega
    have c9 : w9.cell? ⟨c6, 0, none⟩ = some v := b9.cell 0
    go_wp2_with (first
      | (refine wpList_buildSlice_r rfl _ 1 _ rfl 71 Try.underlying61 _ _ Hi.out Hz.out Hzc.out Hs.out (by decide) (by decide) (by decide) [.pointer (some ⟨m, 0, none⟩)] rfl (by intro v hv; simp at hv; rcases hv with rfl; rfl) ?_
         intro w10 f10 hlt10 hb10
         have o10 := o9.keep f10 (by simp)
         have b10 := f10.blk b9 (by simp)
         simp only [World.size_alloc, World.size_drew, Act.put, List.setIfInBounds_toArray, List.set_cons_succ, List.set_cons_zero])
      | (refine wpList_append_rc (u := .slice (some ⟨w9.heap.size, 0, none⟩) 1 1) (m := 1) (v := v) (n := (mxs ps).length) (xs := mxs ps) (B := X) (XB := some w9.heap.size) (w := w10) (news := [.pointer (some ⟨m, 0, none⟩)]) rfl _ _ _ rfl 71 _ _ 1 8 Try.underlying61 Hi.out Hz.out Hs.out Hb.out Hzc.out (by decide) rfl o10 rfl (rc_blk (n := 1) (xs := [.pointer (some ⟨m, 0, none⟩)]) hb10 rfl (by simp [maxLen])) (by intro u hu; simp at hu; rw [hu]; rfl) hle1 hle2 ?_
         intro v11 w11 X11 ho11 f11 hX11
         have ho12 : Xr.Own w11 1 v11 (mxs (ps ++ [⟨m, s.d, FF', mf s.s⟩])).length (mxs (ps ++ [⟨m, s.d, FF', mf s.s⟩])) X11 := by
           have e : mxs (ps ++ [⟨m, s.d, FF', mf s.s⟩]) = mxs ps ++ [.pointer (some ⟨m, 0, none⟩)] := by simp [mxs, pv]
           rw [e, List.length_append]
           exact ho11
         have E11 := hid ((E10.out.step f10).at 0 rfl f11 (fun b hb => .inl hb) (Res.On.own ho12) (fun b hb => by
           rcases hX11 with rfl | ⟨b', rfl, hb'⟩
           · exact .inl hb
           · obtain rfl : b = b' := by simpa [Res.own] using hb
             exact .inr hb'))
         have hv11 : v11.oneCell' = true := by obtain ⟨_, _, rfl⟩ := ho11.isSlice; rfl
         have b11 : Blk w11 c6 [v] := E11.out.held.blkAt 1 rfl
         clear b9 o9 c9 o10 b10 f10 f11 ho11 ho12 hb10 hX11
         simp only [World.size_alloc, World.size_drew, Act.put, List.setIfInBounds_toArray, List.set_cons_succ, List.set_cons_zero])
      | (refine wpList_put rfl _ _ _ rfl rfl v11 rfl hv11 b11 (by simp) (by kernel_rfl) ?_; intro w12 f12 b12 hs12; simp only [World.size_alloc, World.size_drew, Act.put, List.setIfInBounds_toArray, List.set_cons_succ, List.set_cons_zero]))
    have b13 : Blk w12 c6 [v11] := b12
    have E12 := E11.out.at 1 rfl f12 (fun b hb => .inl hb) (Res.On.blk b13) (fun b hb => .inl hb)
    have E13 : Ev W (ofR (ofH c3 c4 c5 c6 (.func (.func 28) #[] #[]) v (mxs ps) X) l ss ps k) w12 (ofR (ofH c3 c4 c5 c6 (.func (.func 28) #[] #[]) v11 (mxs (ps ++ [⟨m, s.d, FF', mf s.s⟩])) X11) l ss (ps ++ [⟨m, s.d, FF', mf s.s⟩]) (k + 1)) := E12
    refine ⟨E13.fr.kept fun b hb => ⟨by omega, fun hf => HP3.out b hf ?_⟩, ps ++ [⟨m, s.d, FF', mf s.s⟩], v11, X11, ?_, HP2.out.trans E13, fun b hb => ?_⟩
    · rcases hb with (rfl | rfl) | rfl | rfl <;> simp
    · rw [List.map_append, HP1.out, List.take_add_one, HK.out]
      simp
    · rcases E13.low b hb with h | h
      · exact HP3.out b h
      · simp
        omega
  case stop =>
    intro D W hD h
    exact h.elim
  case done =>
    intro D W hD hI hDf
    rw [hM] at hD
    subst hD
    obtain ⟨ps, v, X, hp1, hp2, hp3⟩ := hI
    have e : (n + 1) / 2 = ss.length := by have := Hn.out; omega
    have hofr : ofR (ofH c3 c4 c5 c6 (.func (.func 28) #[] #[]) v (mxs ps) X) l ss ps ss.length = ((ofH c3 c4 c5 c6 (.func (.func 28) #[] #[]) v (mxs ps) X ++ l) ++ vpsC ps) := by
      unfold ofR
      rw [List.drop_length]
      simp [vssC, List.append_assoc]
    rw [e, List.take_length] at hp1
    rw [e, hofr] at hp2 hp3
    have HDf := hid hDf
    have HP1 := hid hp1
    have HP2 := hid hp2
    have HP3 := hid hp3
    have b0 : Blk W c6 [v] := hp2.held.blkAt 1 rfl
    have c0 : W.cell? ⟨c6, 0, none⟩ = some v := b0.cell 0
    have hpl : ps.length = ss.length := by simpa using congrArg List.length hp1
    have hh0 : Held W ((ofH c3 c4 c5 c6 (.func (.func 28) #[] #[]) v (mxs ps) X ++ l) ++ vpsC ps) := hp2.held
    have o0 : Xr.Own W 1 v ps.length (ps.map fun p => pv (some p.m)) X := by
      have := hp2.held.ownAt 0 rfl
      simpa [mxs] using this
    obtain ⟨B0, rfl⟩ : ∃ B0, X = some B0 := by
      rcases o0.shape with ⟨h, _⟩ | ⟨b, _, h, _⟩
      · have := Hn.out; exact absurd h (by omega)
      · exact ⟨b, h⟩
    have hall : ∀ p ∈ ps, SysOk p.M.s ∧ p.M.s.len false = L := fun p hp => by
      have : (p.d, p.M) ∈ ps.map (fun p : VP => (p.d, p.M)) := List.mem_map.2 ⟨p, hp, rfl⟩
      rw [hp1] at this
      obtain ⟨s, hs, e⟩ := List.mem_map.1 this
      have := hok s hs
      rw [(Prod.mk.inj e).2] at this
      exact this
    have HMk := hid (vmake_ok hh0 o0 (by have := Hn.out; omega) (by have := Hn.out; omega) (fun p hp => (hall p hp).1) L (fun p hp => (hall p hp).2) h2)
    have HwM := hid (show w.heap.size ≤ D by omega)
    clear hp1 hp2 hp3 hDf hseq HI HC HT hh0 o0 hall hofr
    go_wp2_with (first
      | (go_at_call 13
         refine HMk.out.mono ?_
         rintro e w8 ⟨vb, rb, v8, rfl, E8⟩
         have b4 : Blk w8 c4 [.pointer none] := E8.held.blkAt 5 rfl)
      | (refine wpList_put rfl _ _ _ rfl rfl (.pointer (some ⟨vb, 0, none⟩)) rfl rfl b4 (by simp) (by kernel_rfl) ?_
         intro w9 f9 b9 hs9
         have b9' : Blk w9 c4 [.pointer (some ⟨vb, 0, none⟩)] := b9
         have E9 := E8.at 5 rfl f9 (fun b hb => .inl hb) (Res.On.blk b9') (fun b hb => .inl hb)
         have b5 : Blk w9 c5 [.int .i64 0] := E9.held.blkAt 4 rfl
         simp only [World.size_alloc, World.size_drew, Act.put, List.setIfInBounds_toArray, List.set_cons_succ, List.set_cons_zero])
      | (refine wpList_put rfl _ _ _ rfl rfl (.int .i64 0) rfl rfl b5 (by simp) (by kernel_rfl) ?_
         intro w10 f10 b10 hs10
         have b10' : Blk w10 c5 [.int .i64 0] := b10
         have E10 := E9.at 4 rfl f10 (fun b hb => .inl hb) (Res.On.blk b10') (fun b hb => .inl hb)
         simp only [World.size_alloc, World.size_drew, Act.put, List.setIfInBounds_toArray, List.set_cons_succ, List.set_cons_zero]))
    have hDl : D < W.heap.size := (Array.getElem?_eq_some_iff.1 HDf.out).1
    have hDn : D ∉ feetOf ((ofH c3 c4 c5 c6 (.func (.func 28) #[] #[]) v (mxs ps) (some B0) ++ l) ++ vpsC ps) := fun h => HP3.out D h (by simp)
    have hD8 : w10.heap[D]? = some (.deferred (some [])) := (E10.fr.block D hDl hDn).trans HDf.out
    have fD := fr_putObj w10 D (.deferred none) (pln_def hD8)
    have E11 := Ev.skip (HP2.out.trans E10) fD (fun b hb => by
      obtain rfl : b = D := by simpa using hb
      exact ⟨HwM.out, fun h => by
        rcases E10.low b h with h | h
        · exact hDn h
        · omega⟩)
    have b4' := E11.held.blkAt 5 rfl
    have b5' := E11.held.blkAt 4 rfl
    refine ⟨by simp, .inl ⟨_, _, rfl, run_takeDeferred hD8, ?_⟩⟩
    refine ⟨_, results_cell_2 rfl _ _ rfl rfl (b4'.cell 0) (b5'.cell 0) _ Try.underlying26 rfl _ Try.underlying27 rfl, ⟨vb, rb, v8, ps, rfl, HP1.out, ?_⟩⟩
    exact Ev.less (volR vb rb v8 (ps.map VP.m) ((L : Int) - 1) 0) _ (Ev.less (volR vb rb v8 (ps.map VP.m) ((L : Int) - 1) 0) _ (Ev.less (volR vb rb v8 (ps.map VP.m) ((L : Int) - 1) 0) _ (Ev.less (volR vb rb v8 (ps.map VP.m) ((L : Int) - 1) 0) _ (Ev.less (volR vb rb v8 (ps.map VP.m) ((L : Int) - 1) 0) _ E11))))
set_option maxRecDepth 20000 in
set_option maxHeartbeats 4000000 in
theorem of_Open {w : World} {l : List Res} {ss : List VS} {v : Value} {B i0 : Nat} (mf : Sys → MS)
    (h : Held w (l ++ vssC ss)) (hi : l[i0]? = some (Res.own 1 v (dsOf ss).length (((dsOf ss).map some).map pv) (some B))) (h1 : 1 ≤ ss.length) (h8 : ss.length ≤ 8)
    (L : Nat) (hok : ∀ s ∈ ss, SysOk (mf s.s).s ∧ (mf s.s).s.len false = L) (h2 : 2 ≤ L)
    (HT : ∀ s ∈ ss, ∀ (l1 : List Res) (w1 : World), Held w1 (l1 ++ vsC s) → Calls Try.prog 44 #[.pointer (some ⟨s.d false, 0, none⟩), .pointer (some ⟨s.d true, 0, none⟩)] w1 fun e w' => ∃ m FF', e = .returned (.tuple #[.pointer (some ⟨m, 0, none⟩), .int .i64 0]) ∧ Ev w1 (l1 ++ vsC s) w' (l1 ++ mirC [] m s.d FF' (mf s.s))) :
    Calls Try.prog 27 #[v, .func (.func 44) #[] #[]] w fun e w' => ∃ vb rb v' ps, e = .returned (.tuple #[.pointer (some ⟨vb, 0, none⟩), .int .i64 0]) ∧ ps.map (fun p : VP => (p.d, p.M)) = ss.map (fun s => (s.d, mf s.s)) ∧ Ev w (l ++ vssC ss) w' (volR vb rb v' (ps.map VP.m) ((L : Int) - 1) 0 ++ (l ++ vpsC ps)) := by
  have hdl : (dsOf ss).length = 2 * ss.length := by simp [dsOf, dsP_len]
  have ho0 := h.ownAt i0 (by rw [List.getElem?_append_left (List.getElem?_eq_some_iff.1 hi).1]; exact hi)
  have TW := hid fun (w1 : World) (f : Fr [] w w1) => twD_any (w := w1) (v := v) (xs := (dsOf ss).map some) (LB := some B) (by
    have := (ho0.rd.rc).keep f (by simp)
    simpa using this) (fun x hx b hb => by
    subst hb
    obtain ⟨d, hd, e⟩ := List.mem_map.1 hx
    obtain rfl : d = b := Option.some.inj e
    obtain ⟨q, hq, rfl⟩ := List.mem_map.1 hd
    exact (vss_dk (h.keep0 f) q hq).2) (by rw [List.length_map, hdl]; omega)
  have ND := hid (dup_none (vss_nodup h) ((dsOf ss).map some).length)
  have HH := hid h
  have HO := hid ho0
  obtain ⟨c, hv, hnc, hcm⟩ : ∃ c, v = .slice (some ⟨B, 0, none⟩) (2 * ss.length) c ∧ 2 * ss.length ≤ c ∧ c ≤ maxLen := by
    rcases ho0.shape with ⟨_, _, _, h1⟩ | ⟨b, cap, hb1, h1, h2, h3⟩
    · cases h1
    · cases hb1
      rw [hdl] at h1 h2
      exact ⟨cap, h1, h2, h3⟩
  subst hv
  obtain ⟨n, hn⟩ : ∃ n, 2 * ss.length = n := ⟨_, rfl⟩
  have Hn := hid hn
  rw [hn] at hnc ⊢
  have hn16 : n ≤ 16 := by omega
  have hn2 : 2 ≤ n := by omega
  have a1 : decide ((n : Int) < 2) = false := by simp; omega
  have a2 : decide ((16 : Int) < (n : Int)) = false := by simp; omega
  have a3 : (n : Int).tmod 2 = 0 := by rw [← hn, Int.tmod_eq_emod_of_nonneg (by omega)]; omega
  have a4 : decide (n < 2) = false := by simp; omega
  have a5 : decide (16 < n) = false := by simp; omega
  rw [hn] at TW
  clear hdl ho0 h hn h1 h8
  refine callsIn_wide.1 (callsIn_of_wp_marks (n := 3) Try.func27 rfl trivial ?_ rfl)
  refine wpIn_wide.2 ?_
  simp only [Try.ntmps27, List.size_toArray, List.length_cons, List.length_nil, Nat.reduceAdd, Nat.reduceSub, Array.replicate_succ, Array.replicate_zero, List.push_toArray, List.append_toArray, List.nil_append, List.cons_append]
  go_wp2_with fail
  obtain ⟨w1, hw1⟩ : ∃ w1, ((w.alloc (.cells #[Value.func (.func 44) #[] #[]] 60)).alloc (.cells #[Value.pointer none] 26)).alloc (.cells #[Value.int .i64 0] 27) = w1 := ⟨_, rfl⟩
  obtain ⟨c3, hc3⟩ : ∃ c3, w.heap.size = c3 := ⟨_, rfl⟩
  have F1 := hid (show Fr [] w w1 by rw [← hw1]; exact (((Fr.refl [] w).alloc _).alloc _).alloc _)
  rw [hw1]
  have E1 := hid (show Ev w (l ++ vssC ss) w1 (Res.blk (w.heap.size + 1 + 1) [.int .i64 0] :: Res.blk (w.heap.size + 1) [.pointer none] :: Res.blk w.heap.size [.func (.func 44) #[] #[]] :: (l ++ vssC ss)) by
    have g1 := (Ev.refl HH.out).new ((Fr.refl [] w).alloc _) (Res.On.blk (Blk.alloc w [Value.func (.func 44) #[] #[]] 60)) (by simp [Res.blk])
    have g2 := g1.new ((Fr.refl [] _).alloc _) (Res.On.blk (Blk.alloc _ [Value.pointer none] 26)) (by simp [Res.blk])
    have g3 := g2.new ((Fr.refl [] _).alloc _) (Res.On.blk (Blk.alloc _ [Value.int .i64 0] 27)) (by simp [Res.blk])
    rw [← hw1]
    simpa [World.size_alloc] using g3)
  have TW1 := hid (TW.out w1 F1.out)
  obtain ⟨c4, hc4⟩ : ∃ c4, c3 + 1 = c4 := ⟨_, rfl⟩
  obtain ⟨c5, hc5⟩ : ∃ c5, c4 + 1 = c5 := ⟨_, rfl⟩
  have hz1 : w1.heap.size = c5 + 1 := by rw [← hw1, ← hc5, ← hc4, ← hc3]; simp
  rw [hc3, hc4, hc5]
  rw [hc3, hc4, hc5] at E1
  clear hw1 TW
  go_wp2_with (first
    | (go_at_call 46; refine TW1.out.mono ?_; rintro e w6 ⟨b, rfl, hb, f6⟩; have hbf : b = false := (by cases b; rfl; exact absurd (hb.1 rfl) ND.out); subst hbf; have F6 := hid f6; clear hb f6))
  go_wp2_with (go_at_call 47; refine chunk2_any.mono ?_; rintro e w7 ⟨cb, nb, rfl, hcb, hnb, hcb1, hcb2, hnb1, hnb2, f7⟩)
  clear TW1 ND
  obtain ⟨c6, hc6⟩ : ∃ c6, w6.heap.size = c6 := ⟨_, rfl⟩
  have hs6 := F6.out.size
  have hc56 : c5 < c6 := by omega
  have b6 := Blk.alloc w6 [Value.slice none 0 0] 61
  have g6 := (E1.out.step F6.out).new ((Fr.refl [] w6).alloc _) (Res.On.blk b6) (by simp [Res.blk])
  have g7 := Ev.step (Ev.new g6 (Fr.refl [] _) (Res.On.own (Own.nil _ 1)) (by simp [Res.own])) f7
  rw [hc6] at g7 ⊢
  have hlow := hid fun (b : Nat) (hb : b ∈ feetOf (ofR (ofH c3 c4 c5 c6 (.func (.func 44) #[] #[]) (.slice none 0 0) (mxs []) none) l ss [] 0)) => (show b < c6 + 1 from by
    have h := (Ev.new g6 (Fr.refl [] _) (Res.On.own (Own.nil _ 1)) (by simp [Res.own])).held.ltAll b (by rw [hc6]; exact hb)
    rw [World.size_alloc, hc6] at h
    exact h)
  rw [World.size_alloc, hc6] at hcb1 hnb1
  obtain ⟨M, hM⟩ : ∃ M, w7.heap.size = M := ⟨_, rfl⟩
  rw [hM] at hcb2 hnb2
  have hI0 : OfI w c3 c4 c5 c6 (.func (.func 44) #[] #[]) l ss mf [cb, nb, M, M + 1] 0 w7 := ⟨[], _, none, rfl, g7, fun b hb => by
    have := hlow.out b hb
    simp
    omega⟩
  have HI := hid hI0
  have hseq := chunk2_seq (w := w7) (cb := cb) (nb := nb) hnc hcm (by omega) hcb hnb
  clear b6 g6 g7 hlow hI0 hcb hnb f7
  have HC := hid fun (w1 : World) (hH : List Res × Unit) (ps' : List VP) (k' : Nat) (h1 : Held w1 (ofR hH.1 l ss ps' k')) (i : Nat) (q : VS × Bool) (hq : (dsP ss)[i]? = some q) => (show w1.cell? ⟨B, i, none⟩ = some (.pointer (some ⟨q.1.d q.2, 0, none⟩)) from by
    have h2 : (ofR hH.1 l ss ps' k')[hH.1.length + i0]? = some (Res.own 1 (.slice (some ⟨B, 0, none⟩) (2 * ss.length) c) (dsOf ss).length (((dsOf ss).map some).map pv) (some B)) := by
      unfold ofR
      rw [List.getElem?_append_right (by omega), Nat.add_sub_cancel_left, List.getElem?_append_left (List.getElem?_eq_some_iff.1 hi).1]
      exact hi
    have hlt : i < (dsOf ss).length := by rw [dsOf, List.length_map]; exact (List.getElem?_eq_some_iff.1 hq).1
    obtain ⟨b, off, c2, hB, hv2, _, _, _, h4⟩ := ((h1.ownAt _ h2).rd.rc).some (by omega)
    obtain ⟨⟨rfl, rfl⟩, _⟩ : (B = b ∧ 0 = off) ∧ 2 * ss.length = (dsOf ss).length ∧ c = c2 := by simpa using hv2
    have := h4 i (by simpa using hlt)
    rw [Nat.zero_add] at this
    rw [this]
    simp [dsOf, hq, pv])
  refine wpIn_wide.1 (wpIn_rangeFunc_M (n := 3) (gf := 61) rfl (enters_of Try.func61 (by kernel_rfl) rfl) hseq rfl ?hKeep (OfI w c3 c4 c5 c6 (.func (.func 44) #[] #[]) l ss mf [cb, nb, M, M + 1]) (fun _ => False) ?hI (fun _ _ h _ => h) HI.out (fun v => { tmps := #[Value.slice (some ⟨B, 0, none⟩) n c, .func (.func 44) #[] #[], undef, .pointer (some ⟨c3, 0, none⟩), .pointer (some ⟨c4, 0, none⟩), .pointer (some ⟨c5, 0, none⟩), .pointer (some ⟨c6, 0, none⟩), v, undef, undef, .bool false, .slice (some ⟨B, 0, none⟩) n c, .int .i64 (n : Int), .bool false, .bool false, .slice (some ⟨B, 0, none⟩) n c, .int .i64 (n : Int), .bool false, .bool false, .bool false, .slice (some ⟨B, 0, none⟩) n c, .int .i64 (n : Int), .int .i64 0, .bool false, .bool false, .bool false, .slice (some ⟨B, 0, none⟩) n c, .bool false, .slice (some ⟨B, 0, none⟩) n c, .func (.func 61) #[] #[.pointer (some ⟨cb, 0, none⟩), .pointer (some ⟨nb, 0, none⟩)], v, undef, undef, undef, undef, undef, undef, undef, undef, undef, undef, undef, undef, undef, undef, undef, undef, undef, undef, undef, undef, undef, undef], defers := [] }) ?assign ?body ?done ?stop)
  case hKeep =>
    rintro b (rfl | rfl) <;> omega
  case hI =>
    intro k A B h f
    rw [hM] at f
    exact h.keep f fun b hb => by simp at hb ⊢; omega
  case assign =>
    intro l' k W K hK
    gi_wp2
    exact hK
  case body =>
    intro l' k W hk hWs hI
    rw [hM] at hWs ⊢
    obtain ⟨ps, v, X, hp1, hp2, hp3⟩ := hI
    have hkl : k < ss.length := by have := Hn.out; omega
    obtain ⟨s, hs⟩ : ∃ s, ss[k]? = some s := ⟨_, List.getElem?_eq_getElem hkl⟩
    obtain ⟨q1, q2⟩ := dsP_get ss k s hs
    have HSf := hid fun (w1 : World) (ps' : List VP) (k' : Nat) (h1 : Held w1 (ofR (ofH c3 c4 c5 c6 (.func (.func 44) #[] #[]) v (mxs ps) X) l ss ps' k')) =>
      (show w1.cell? ⟨c3, 0, none⟩ = some (.func (.func 44) #[] #[]) ∧ w1.cell? ⟨B, 2 * k, none⟩ = some (.pointer (some ⟨s.d false, 0, none⟩)) ∧ w1.cell? ⟨B, 2 * k + 1, none⟩ = some (.pointer (some ⟨s.d true, 0, none⟩)) from
        ⟨(h1.blkAt 4 rfl).cell 0, HC.out w1 (_, ()) _ _ h1 _ _ q1, HC.out w1 (_, ()) _ _ h1 _ _ q2⟩)
    have hV : winV (some ⟨B, 0, none⟩) (2 * k) (min (2 * k + 2) n) = .slice (some ⟨B, 2 * k, none⟩) 2 2 := by
      have e : min (2 * k + 2) n = 2 * k + 2 := by have := Hn.out; omega
      rw [e]
      unfold winV
      rw [if_neg (by omega), show 2 * k + 2 - 2 * k = 2 by omega]
      simp [Addr.add]
      try exact fun h => h.symm
    rw [hV]
    have HSm := hid (List.mem_of_getElem? hs)
    have HP1 := hid hp1
    have HP2 := hid hp2
    have HP3 := hid hp3
    have HK := hid hs
    have hs0 := HSf.out W.drew ps k (hp2.held.keep0 (Fr.refl [] W).drew)
    have hk8 : k ≤ 8 := by omega
    obtain ⟨j, hj⟩ : ∃ j, 2 * k = j := ⟨_, rfl⟩
    rw [hj] at HSf hs0 ⊢
    have hj8 : j ≤ 16 := by omega
    clear hV q1 q2 hp1 hp2 hp3 hs hj hk
    refine wpIn_block (wpIn_seq ?_)
    refine wpIn_region_D (by kernel_rfl) (fun w' => w'.cell? ⟨c3, 0, none⟩ = some (.func (.func 44) #[] #[]) ∧ w'.cell? ⟨B, j, none⟩ = some (.pointer (some ⟨s.d false, 0, none⟩)) ∧ w'.cell? ⟨B, j + 1, none⟩ = some (.pointer (some ⟨s.d true, 0, none⟩))) false [] (by kernel_rfl) ?_
    refine WD.pure [0, 1, 2, 3, 4, 5, 6] (by kernel_rfl) hs0 ?_
    simp only [pick, List.toList_toArray, List.map_cons, List.map_nil, List.getD_cons_succ, List.getD_cons_zero]
    repeat (first | (refine quiet_load_1R (by rfl) _ _ rfl rfl (.func (.func 44) #[] #[]) (fun w0 h => h.1) _ Try.underlying60 rfl ?_; simp only [World.size_alloc, World.size_drew, Act.put, List.setIfInBounds_toArray, List.set_cons_succ, List.set_cons_zero]) | (refine quiet_load_1R (by rfl) _ _ rfl rfl (.pointer (some ⟨s.d false, 0, none⟩)) (fun w0 h => h.2.1) _ Try.underlying37 rfl ?_; simp only [World.size_alloc, World.size_drew, Act.put, List.setIfInBounds_toArray, List.set_cons_succ, List.set_cons_zero]) | (refine quiet_load_1R (by rfl) _ _ rfl rfl (.pointer (some ⟨s.d true, 0, none⟩)) (fun w0 h => h.2.2) _ Try.underlying37 rfl ?_; simp only [World.size_alloc, World.size_drew, Act.put, List.setIfInBounds_toArray, List.set_cons_succ, List.set_cons_zero]) | go_big_quiet_step (fail))
    refine wpQuiet_nil ?_
    refine WD.eff 7 (by kernel_rfl) ?_
    simp only [pick, List.toList_toArray, List.map_cons, List.map_nil, List.getD_cons_succ, List.getD_cons_zero]
    have f0 : Fr [] W W.drew := (Fr.refl [] W).drew
    have E0 := hid (Ev.perm ((Ev.refl HP2.out.held).step f0) (ofR_out _ l ps HK.out))
    go_wp2_with (go_at_call 44; refine (HT s HSm.out _ _ E0.out.held).mono ?_; rintro e w9 ⟨m, FF', rfl, E9⟩)
    have E10 := hid (Ev.perm (E0.out.trans E9) (ofR_in _ l ss ps k ⟨m, s.d, FF', mf s.s⟩))
    have hs10 := HSf.out w9 _ _ E10.out.held
    clear E0 E9 HSf hs0
    try refine wpList_nil ?_
    refine AfterD.on hs10 (by kernel_rfl) ?_
    try simp only [World.size_alloc, World.size_drew, Act.put, List.setIfInBounds_toArray, List.set_cons_succ, List.set_cons_zero]
    refine WD.pure [8, 9, 10, 11, 12] (by kernel_rfl) hs10 ?_
    simp only [pick, List.toList_toArray, List.map_cons, List.map_nil, List.getD_cons_succ, List.getD_cons_zero]
    repeat (first | (refine quiet_load_1R (by rfl) _ _ rfl rfl (.func (.func 44) #[] #[]) (fun w0 h => h.1) _ Try.underlying60 rfl ?_; simp only [World.size_alloc, World.size_drew, Act.put, List.setIfInBounds_toArray, List.set_cons_succ, List.set_cons_zero]) | (refine quiet_load_1R (by rfl) _ _ rfl rfl (.pointer (some ⟨s.d false, 0, none⟩)) (fun w0 h => h.2.1) _ Try.underlying37 rfl ?_; simp only [World.size_alloc, World.size_drew, Act.put, List.setIfInBounds_toArray, List.set_cons_succ, List.set_cons_zero]) | (refine quiet_load_1R (by rfl) _ _ rfl rfl (.pointer (some ⟨s.d true, 0, none⟩)) (fun w0 h => h.2.2) _ Try.underlying37 rfl ?_; simp only [World.size_alloc, World.size_drew, Act.put, List.setIfInBounds_toArray, List.set_cons_succ, List.set_cons_zero]) | go_big_quiet_step (fail))
    refine wpQuiet_nil ?_
    refine WD.done (by kernel_rfl) ?_
    refine wpIn_seq_k fun K hK => ?_
    have HNext := hid hK
    clear hK
    refine wpIn_seq ?_
    gi_wp2
    refine HNext.out _ _ ?_
    clear HNext
    refine wpIn_region_W (by kernel_rfl) ?_
    obtain ⟨i9, z9, hi9, hz9, hs9, hb9, hzc9⟩ := infMp
    have Hi := hid hi9
    have Hz := hid hz9
    have Hs := hid hs9
    have Hb := hid hb9
    have Hzc := hid hzc9
    clear hi9 hz9 hs9 hb9 hzc9 hs10
    have b9 : Blk w9 c6 [v] := E10.out.held.blkAt 1 rfl
    have o9 : Xr.Own w9 1 v (mxs ps).length (mxs ps) X := E10.out.held.ownAt 0 rfl
    have hle : (mxs ps).length ≤ 8 := by
      have h := congrArg List.length HP1.out
      rw [List.length_map, List.length_map, List.length_take] at h
      simp [mxs]
      omega
    have hle1 : (mxs ps).length + 1 ≤ maxLen := by unfold maxLen; omega
    have hle2 : ((mxs ps).length + 1) * 8 ≤ 140737488355328 := by omega
    have c9 : w9.cell? ⟨c6, 0, none⟩ = some v := b9.cell 0
    go_wp2_with (first
      | (refine wpList_buildSlice_r rfl _ 1 _ rfl 71 Try.underlying61 _ _ Hi.out Hz.out Hzc.out Hs.out (by decide) (by decide) (by decide) [.pointer (some ⟨m, 0, none⟩)] rfl (by intro v hv; simp at hv; rcases hv with rfl; rfl) ?_
         intro w10 f10 hlt10 hb10
         have o10 := o9.keep f10 (by simp)
         have b10 := f10.blk b9 (by simp)
         simp only [World.size_alloc, World.size_drew, Act.put, List.setIfInBounds_toArray, List.set_cons_succ, List.set_cons_zero])
      | (refine wpList_append_rc (u := .slice (some ⟨w9.heap.size, 0, none⟩) 1 1) (m := 1) (v := v) (n := (mxs ps).length) (xs := mxs ps) (B := X) (XB := some w9.heap.size) (w := w10) (news := [.pointer (some ⟨m, 0, none⟩)]) rfl _ _ _ rfl 71 _ _ 1 8 Try.underlying61 Hi.out Hz.out Hs.out Hb.out Hzc.out (by decide) rfl o10 rfl (rc_blk (n := 1) (xs := [.pointer (some ⟨m, 0, none⟩)]) hb10 rfl (by simp [maxLen])) (by intro u hu; simp at hu; rw [hu]; rfl) hle1 hle2 ?_
         intro v11 w11 X11 ho11 f11 hX11
         have ho12 : Xr.Own w11 1 v11 (mxs (ps ++ [⟨m, s.d, FF', mf s.s⟩])).length (mxs (ps ++ [⟨m, s.d, FF', mf s.s⟩])) X11 := by
           have e : mxs (ps ++ [⟨m, s.d, FF', mf s.s⟩]) = mxs ps ++ [.pointer (some ⟨m, 0, none⟩)] := by simp [mxs, pv]
           rw [e, List.length_append]
           exact ho11
         have E11 := hid ((E10.out.step f10).at 0 rfl f11 (fun b hb => .inl hb) (Res.On.own ho12) (fun b hb => by
           rcases hX11 with rfl | ⟨b', rfl, hb'⟩
           · exact .inl hb
           · obtain rfl : b = b' := by simpa [Res.own] using hb
             exact .inr hb'))
         have hv11 : v11.oneCell' = true := by obtain ⟨_, _, rfl⟩ := ho11.isSlice; rfl
         have b11 : Blk w11 c6 [v] := E11.out.held.blkAt 1 rfl
         clear b9 o9 c9 o10 b10 f10 f11 ho11 ho12 hb10 hX11
         simp only [World.size_alloc, World.size_drew, Act.put, List.setIfInBounds_toArray, List.set_cons_succ, List.set_cons_zero])
      | (refine wpList_put rfl _ _ _ rfl rfl v11 rfl hv11 b11 (by simp) (by kernel_rfl) ?_; intro w12 f12 b12 hs12; simp only [World.size_alloc, World.size_drew, Act.put, List.setIfInBounds_toArray, List.set_cons_succ, List.set_cons_zero]))
    have b13 : Blk w12 c6 [v11] := b12
    have E12 := E11.out.at 1 rfl f12 (fun b hb => .inl hb) (Res.On.blk b13) (fun b hb => .inl hb)
    have E13 : Ev W (ofR (ofH c3 c4 c5 c6 (.func (.func 44) #[] #[]) v (mxs ps) X) l ss ps k) w12 (ofR (ofH c3 c4 c5 c6 (.func (.func 44) #[] #[]) v11 (mxs (ps ++ [⟨m, s.d, FF', mf s.s⟩])) X11) l ss (ps ++ [⟨m, s.d, FF', mf s.s⟩]) (k + 1)) := E12
    refine ⟨E13.fr.kept fun b hb => ⟨by omega, fun hf => HP3.out b hf ?_⟩, ps ++ [⟨m, s.d, FF', mf s.s⟩], v11, X11, ?_, HP2.out.trans E13, fun b hb => ?_⟩
    · rcases hb with (rfl | rfl) | rfl | rfl <;> simp
    · rw [List.map_append, HP1.out, List.take_add_one, HK.out]
      simp
    · rcases E13.low b hb with h | h
      · exact HP3.out b h
      · simp
        omega
  case stop =>
    intro D W hD h
    exact h.elim
  case done =>
    intro D W hD hI hDf
    rw [hM] at hD
    subst hD
    obtain ⟨ps, v, X, hp1, hp2, hp3⟩ := hI
    have e : (n + 1) / 2 = ss.length := by have := Hn.out; omega
    have hofr : ofR (ofH c3 c4 c5 c6 (.func (.func 44) #[] #[]) v (mxs ps) X) l ss ps ss.length = ((ofH c3 c4 c5 c6 (.func (.func 44) #[] #[]) v (mxs ps) X ++ l) ++ vpsC ps) := by
      unfold ofR
      rw [List.drop_length]
      simp [vssC, List.append_assoc]
    rw [e, List.take_length] at hp1
    rw [e, hofr] at hp2 hp3
    have HDf := hid hDf
    have HP1 := hid hp1
    have HP2 := hid hp2
    have HP3 := hid hp3
    have b0 : Blk W c6 [v] := hp2.held.blkAt 1 rfl
    have c0 : W.cell? ⟨c6, 0, none⟩ = some v := b0.cell 0
    have hpl : ps.length = ss.length := by simpa using congrArg List.length hp1
    have hh0 : Held W ((ofH c3 c4 c5 c6 (.func (.func 44) #[] #[]) v (mxs ps) X ++ l) ++ vpsC ps) := hp2.held
    have o0 : Xr.Own W 1 v ps.length (ps.map fun p => pv (some p.m)) X := by
      have := hp2.held.ownAt 0 rfl
      simpa [mxs] using this
    obtain ⟨B0, rfl⟩ : ∃ B0, X = some B0 := by
      rcases o0.shape with ⟨h, _⟩ | ⟨b, _, h, _⟩
      · have := Hn.out; exact absurd h (by omega)
      · exact ⟨b, h⟩
    have hall : ∀ p ∈ ps, SysOk p.M.s ∧ p.M.s.len false = L := fun p hp => by
      have : (p.d, p.M) ∈ ps.map (fun p : VP => (p.d, p.M)) := List.mem_map.2 ⟨p, hp, rfl⟩
      rw [hp1] at this
      obtain ⟨s, hs, e⟩ := List.mem_map.1 this
      have := hok s hs
      rw [(Prod.mk.inj e).2] at this
      exact this
    have HMk := hid (vmake_ok hh0 o0 (by have := Hn.out; omega) (by have := Hn.out; omega) (fun p hp => (hall p hp).1) L (fun p hp => (hall p hp).2) h2)
    have HwM := hid (show w.heap.size ≤ D by omega)
    clear hp1 hp2 hp3 hDf hseq HI HC HT hh0 o0 hall hofr
    go_wp2_with (first
      | (go_at_call 13
         refine HMk.out.mono ?_
         rintro e w8 ⟨vb, rb, v8, rfl, E8⟩
         have b4 : Blk w8 c4 [.pointer none] := E8.held.blkAt 5 rfl)
      | (refine wpList_put rfl _ _ _ rfl rfl (.pointer (some ⟨vb, 0, none⟩)) rfl rfl b4 (by simp) (by kernel_rfl) ?_
         intro w9 f9 b9 hs9
         have b9' : Blk w9 c4 [.pointer (some ⟨vb, 0, none⟩)] := b9
         have E9 := E8.at 5 rfl f9 (fun b hb => .inl hb) (Res.On.blk b9') (fun b hb => .inl hb)
         have b5 : Blk w9 c5 [.int .i64 0] := E9.held.blkAt 4 rfl
         simp only [World.size_alloc, World.size_drew, Act.put, List.setIfInBounds_toArray, List.set_cons_succ, List.set_cons_zero])
      | (refine wpList_put rfl _ _ _ rfl rfl (.int .i64 0) rfl rfl b5 (by simp) (by kernel_rfl) ?_
         intro w10 f10 b10 hs10
         have b10' : Blk w10 c5 [.int .i64 0] := b10
         have E10 := E9.at 4 rfl f10 (fun b hb => .inl hb) (Res.On.blk b10') (fun b hb => .inl hb)
         simp only [World.size_alloc, World.size_drew, Act.put, List.setIfInBounds_toArray, List.set_cons_succ, List.set_cons_zero]))
    have hDl : D < W.heap.size := (Array.getElem?_eq_some_iff.1 HDf.out).1
    have hDn : D ∉ feetOf ((ofH c3 c4 c5 c6 (.func (.func 44) #[] #[]) v (mxs ps) (some B0) ++ l) ++ vpsC ps) := fun h => HP3.out D h (by simp)
    have hD8 : w10.heap[D]? = some (.deferred (some [])) := (E10.fr.block D hDl hDn).trans HDf.out
    have fD := fr_putObj w10 D (.deferred none) (pln_def hD8)
    have E11 := Ev.skip (HP2.out.trans E10) fD (fun b hb => by
      obtain rfl : b = D := by simpa using hb
      exact ⟨HwM.out, fun h => by
        rcases E10.low b h with h | h
        · exact hDn h
        · omega⟩)
    have b4' := E11.held.blkAt 5 rfl
    have b5' := E11.held.blkAt 4 rfl
    refine ⟨by simp, .inl ⟨_, _, rfl, run_takeDeferred hD8, ?_⟩⟩
    refine ⟨_, results_cell_2 rfl _ _ rfl rfl (b4'.cell 0) (b5'.cell 0) _ Try.underlying26 rfl _ Try.underlying27 rfl, ⟨vb, rb, v8, ps, rfl, HP1.out, ?_⟩⟩
    exact Ev.less (volR vb rb v8 (ps.map VP.m) ((L : Int) - 1) 0) _ (Ev.less (volR vb rb v8 (ps.map VP.m) ((L : Int) - 1) 0) _ (Ev.less (volR vb rb v8 (ps.map VP.m) ((L : Int) - 1) 0) _ (Ev.less (volR vb rb v8 (ps.map VP.m) ((L : Int) - 1) 0) _ (Ev.less (volR vb rb v8 (ps.map VP.m) ((L : Int) - 1) 0) _ E11))))
end Go.Proofs.Ytgafefecookgaaa
