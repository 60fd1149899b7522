/- Layer 2: MacOfs, the walk. -/
import Derived.Test.YtfcpnicgffbmeaaMacKeys
namespace Go.Xr
open Go Go.RowKit
set_option linter.unusedVariables false
section
variable {P : Program} {ops : Array Oper} {Q : Exit → Act → World → Prop} {a : Act} {w : World} {K : Act → World → Prop} {rest : List Oper} {o : Oper}
theorem run_append_none (t ty e : TypeId) (i : TypeInfo) (ht : P.underlying t = some (.slice e)) (hi : P.info? e = some i) (w : World) (ad : Option Addr) (n cap c : Nat) (h : n ≤ cap) :
    (Builtin.append_ #[t, t] ty #[.slice ad n cap, .slice none 0 c]).run P w = .ok (.slice ad n cap) w := by
  cases ad <;> simp [Builtin.append_, run_underlying ht, sizeOf, typeInfo, hi, Builtin.lenOf, Builtin.firstCells, h, storeCells]
/-- append to a slice of its own of an argument's row, nil too. -/
theorem wpList_append_rc (hg : o.guard = none) (s x : Operand) (t : TypeId) (ho : o.op = .call { callee := .builtin .append, args := #[s, x], argTypes := #[t, t] })
    (e : TypeId) (i : TypeInfo) (z : Value) (size bytes : Nat) (ht : P.underlying t = some (.slice e)) (hi : P.info? e = some i) (hz : i.zero = some z)
    (hsize : i.size = size) (hby : i.bytes = bytes) (hzs : z.cells.size = size) (hsz : 0 < size) {v : Value} {n : Nat} {xs : List Value} {B : Option Nat} (hs : a.eval s = v) (h : Own w size v n xs B)
    {u : Value} {m : Nat} {news : List Value} {XB : Option Nat} (hx : a.eval x = u) (hr : Rc w size u m news XB) (h1 : ∀ u ∈ news, u.oneCell' = true)
    (h63 : n + m ≤ maxLen) (hbytes : (n + m) * bytes ≤ 140737488355328)
    (hK : ∀ v' w' B', Own w' size v' (n + m) (xs ++ news) B' → Fr B.toList w w' → (B' = B ∨ ∃ b, B' = some b ∧ w.heap.size ≤ b) → wpList P ops Q rest (a.put o.dst v') w') : wpList P ops Q (o :: rest) a w := by
  obtain ⟨hl, _, ad, c, rfl, hc1, hc2, hc3⟩ := hr
  cases ad with
  | some ad =>
    refine wpList_append hg s x t ho e i z size bytes ht hi hz hsize hby hzs hsz hs h ad m c news hx hl (fun j u hj => ?_) h1 h63 hbytes hK
    have hjl : j < news.length := by
      by_cases hh : j < news.length
      · exact hh
      · rw [List.getElem?_eq_none (by omega)] at hj; cases hj
    have hm : 0 < m := by
      by_cases hh : 0 < m
      · exact hh
      · have : m = 0 := by omega
        rw [this] at hl
        omega
    obtain ⟨b, off, _, hb, hcs⟩ := hc3 hm
    cases hb
    have e1 : (⟨b, off, none⟩ : Addr).add j = ⟨b, off + j, none⟩ := by
      unfold Addr.add
      split <;> simp_all
    rw [e1, hcs j hjl, hj]
  | none =>
    have hm : m = 0 := by
      by_cases hh : 0 < m
      · obtain ⟨b, off, _, hb, _⟩ := hc3 hh
        cases hb
      · omega
    subst hm
    obtain rfl : news = [] := List.eq_nil_of_length_eq_zero (by omega)
    refine wpList_plain hg fun K hk => ?_
    have hrun : (Builtin.append_ #[t, t] o.type #[v, .slice none 0 c]).run P w = .ok v w := by
      rcases h.2 with ⟨rfl, _, _⟩ | ⟨b, cap, cs, _, rfl, hnc, _⟩
      · exact run_append_none t _ e i ht hi w none 0 0 c (Nat.le_refl _)
      · exact run_append_none t _ e i ht hi w _ n cap c hnc
    unfold Oper.wp execOp
    simp only [ho, resolve, invoke, builtin, Sem.run_bind, Sem.run_pure, Result.andThen_ok, List.map_toArray, List.map_cons, List.map_nil, hs, hx, hrun]
    exact hk _ _ (hK v w B (by rw [List.append_nil]; exact h) (Fr.refl _ _) (.inl rfl))
end
end Go.Xr
namespace Go.Proofs.Ytfcpnicgffbmeaa
open Go Go.Xr Go.RowKit
set_option linter.unusedVariables false
set_option linter.unusedSimpArgs false

theorem inf9b : ∃ i, Try.prog.info? 9 = some i ∧ i.zero = some (.string ⟨#[]⟩) ∧ i.size = 1 ∧ i.bytes = 16 := ⟨_, rfl, rfl, rfl, rfl⟩
theorem str_one (l : List ByteArray) : ∀ u ∈ l.map Value.string, u.oneCell' = true := by
  intro u hu
  obtain ⟨s, _, rfl⟩ := List.mem_map.1 hu
  rfl

set_option maxRecDepth 20000 in
set_option maxHeartbeats 1000000 in
theorem ofs_walk {w : World} {v : Value} {l : List ByteArray} {LB : Option Nat} (key s : ByteArray) (hl : Rc w 1 v l.length (l.map .string) LB) (hm : l.length ≤ maxLen) (ho : ∀ s ∈ l, s.size ≤ 140737488351232) (hk : key.size ≤ 140737488351232) (hs : s.size ≤ 140737488351232) :
    Calls Try.prog 3 #[.string key, .string s, v] w fun e w' => e = .returned (.bool true) ∧ Fr [] w w' := by
  unfold maxLen at hm
  obtain ⟨i9, hi9, hz9, hs9, hb9⟩ := inf9b
  have Hi := hid hi9
  have Hz := hid hz9
  have Hs9 := hid hs9
  have Hb9 := hid hb9
  clear hi9 hz9 hs9 hb9
  have h1 := fun (w0 : World) (h : Rc w0 1 v l.length (l.map .string) LB) => small_any h hm ho
  have h2 := fun (w0 : World) (b : Nat) (h : Blk w0 b [.string key, .string s]) => small_any (l := [key, s]) (rc_of_blk h rfl (by simp [maxLen])) (by simp) (by simp; omega)
  have Ho := hid ho
  clear ho
  cases c2 : smallS [key, s]
  all_goals
    cases c1 : smallS l
  all_goals
    rw [c1] at h1
    rw [c2] at h2
    have H1 := hid h1
    have H2 := hid h2
    clear h1 h2
  case true.true =>
    have hb := small_yes c2
    have hc := small_yes c1
    simp [totL] at hb
    have hal := allL_tot l
    clear c1 c2
    obtain ⟨T, hT⟩ : ∃ T, macS key (allS l) = T := ⟨_, rfl⟩
    obtain ⟨U, hU⟩ : ∃ U, macS key s = U := ⟨_, rfl⟩
    have h3 := fun (w0 : World) (v0 : Value) (B0 : Option Nat) (h : Rc w0 1 v0 l.length (l.map .string) B0) => mall_any (w := w0) key (by omega) h (by omega)
    have h4 := fun (w0 : World) (h : Rc w0 1 v l.length (l.map .string) LB) => rall_any (w := w0) key (by omega) h (by omega)
    have h5 := fun w0 : World => mof_any (w := w0) key s (by omega) (by omega)
    have h6 := fun w0 : World => rmac_any (w := w0) key s (by omega) (by omega)
    rw [hT] at h3 h4
    rw [hU] at h5 h6
    have H3 := hid h3
    have H4 := hid h4
    have H5 := hid h5
    have H6 := hid h6
    have Hlr := hid hl
    have hl2 : l.length ≤ 200 := hc.2
    obtain ⟨la, lc, rfl⟩ := hl.isSlice
    clear h3 h4 h5 h6 hT hU hb hc hl hal
    go_enter Try.func3, Try.ntmps3
    go_wp2_with (refine wpList_buildSlice_any rfl _ 2 _ rfl 9 Try.underlying22 _ _ Hi.out Hz.out rfl Hs9.out (by decide) (by decide) rfl [.string key, .string s] rfl (by simp [Value.oneCell']) ?_; intro w2 f2 hlt2 hb2; simp only [World.size_alloc, World.size_drew, Act.put, List.setIfInBounds_toArray, List.set_cons_succ, List.set_cons_zero])
    refine (H2.out _ _ hb2).mono ?_
    rintro e w3 ⟨rfl, f3⟩
    have g3 := f2.trans' f3
    go_wp2_with fail
    refine (H1.out _ (Hlr.out.keep g3 (by simp))).mono ?_
    rintro e w4 ⟨rfl, f4⟩
    have g4 := g3.trans' f4
    clear hb2 f2 f3 g3 f4
    go_wp2_with (refine wpList_append_rc rfl _ _ _ rfl 9 _ _ 1 16 Try.underlying22 Hi.out Hz.out Hs9.out Hb9.out rfl (by decide) rfl (Own.nil _ 1) rfl (Hlr.out.keep g4 (by simp)) (str_one l) (by unfold maxLen; omega) (by omega) ?_; intro v5 w5 B5 ho5 f5 hB5; rw [Nat.zero_add, List.nil_append] at ho5; have hr5 := ho5.rd.rc; obtain ⟨ka, kc, rfl⟩ := hr5.isSlice; simp only [World.size_alloc, World.size_drew, Act.put, List.setIfInBounds_toArray, List.set_cons_succ, List.set_cons_zero])
    have Hr5 := hid hr5
    have g5 := g4.trans' f5
    clear hr5 ho5 hB5 f5 g4
    refine (H5.out _).mono ?_
    rintro e w6 ⟨rfl, f6⟩
    go_wp2_with fail
    refine (H6.out _).mono ?_
    rintro e w7 ⟨rfl, f7⟩
    go_wp2_with fail
    refine (H3.out _ _ _ ((Hr5.out.keep f6 (by simp)).keep f7 (by simp))).mono ?_
    rintro e w8 ⟨rfl, f8⟩
    have k8 := (f6.trans' f7).trans' f8
    go_wp2_with fail
    refine (H4.out _ (Hlr.out.keep (g5.trans' k8) (by simp))).mono ?_
    rintro e w9 ⟨rfl, f9⟩
    have k9 := k8.trans' f9
    clear f6 f7 f8 k8 f9
    go_wp2_with fail
    go_loopw [8] (fun iv wr => ∃ i : Nat, i ≤ l.length ∧ iv = .int .i64 i ∧ Fr [] w5 wr) (fun iv _ => l.length - (intOf iv).toNat)
    case atStart => exact ⟨0, by omega, rfl, k9⟩
    case round =>
      obtain ⟨i, hi, rfl, f⟩ := hrel
      clear k9
      by_cases hlt : i < l.length
      · have hd1 : decide (i < l.length) = true := by simp; omega
        obtain ⟨lb, off, rfl, hlb, hcell⟩ := rc_str Hlr.out (g5.trans' f) i hlt
        obtain ⟨kb, koff, rfl, hkb, hcellk⟩ := rc_str Hr5.out f i hlt
        obtain ⟨s0, hs0⟩ : ∃ s, l[i] = s := ⟨_, rfl⟩
        rw [hs0] at hcell hcellk
        clear hs0
        go_wp2_with fail
        obtain ⟨ι, W, hι, hW1, hW2, hW0⟩ := family (fun w' => w'.cell? ⟨lb, off + i, none⟩ = some (.string s0) ∧ w'.cell? ⟨kb, koff + i, none⟩ = some (.string s0)) (w := wr.drew) ⟨hcell, hcellk⟩
        have HW1 := hid hW1
        have HW2 := hid hW2
        have HW0 := hid hW0
        clear hW1 hW2 hW0
        have hS1 : ∀ i, (W i).cell? ⟨lb, off + _, none⟩ = some (.string s0) := fun i => (HW1.out i).1
        have hS2 : ∀ i, (W i).cell? ⟨kb, koff + _, none⟩ = some (.string s0) := fun i => (HW1.out i).2
        refine wp_region_X (fun w' => ∃ j, w' = W j) false (by kernel_rfl) ?_
        refine WX.pure [0, 1, 2, 3, 4, 5, 6, 7, 8] (by kernel_rfl) HW0.out ?_
        simp only [pick, List.toList_toArray, List.map_cons, List.map_nil, List.getD_cons_succ, List.getD_cons_zero]
        repeat (go_big_quiet_step (fail))
        refine wpQuiet_nil ?_
        refine WX.done (by kernel_rfl) ?_
        clear hS1 hS2
        clear HW1 HW2 HW0 hι W ι
        have f2 := f.drew
        go_wp2_with fail
        go_roundw
        case rel => exact ⟨i + 1, by omega, by go_num, f2⟩
        case measure => simp [intOf]; omega
      · have ei : i = l.length := by omega
        have hd1 : decide (i < l.length) = false := by simp; omega
        clear ei
        go_wp2_with fail
        refine alive_any.mono ?_
        rintro e w10 ⟨rfl, f10⟩
        go_wp2_with fail
        go_ret
        exact ⟨rfl, (g5.trans' f).trans' f10⟩
  case true.false =>
    clear c1 c2
    have Hlr := hid hl
    obtain ⟨la, lc, rfl⟩ := hl.isSlice
    clear hl
    go_enter Try.func3, Try.ntmps3
    go_wp2_with (refine wpList_buildSlice_any rfl _ 2 _ rfl 9 Try.underlying22 _ _ Hi.out Hz.out rfl Hs9.out (by decide) (by decide) rfl [.string key, .string s] rfl (by simp [Value.oneCell']) ?_; intro w2 f2 hlt2 hb2; simp only [World.size_alloc, World.size_drew, Act.put, List.setIfInBounds_toArray, List.set_cons_succ, List.set_cons_zero])
    refine (H2.out _ _ hb2).mono ?_
    rintro e w3 ⟨rfl, f3⟩
    have g3 := f2.trans' f3
    go_wp2_with fail
    refine (H1.out _ (Hlr.out.keep g3 (by simp))).mono ?_
    rintro e w4 ⟨rfl, f4⟩
    go_wp2_with fail
    refine alive_any.mono ?_
    rintro e w9 ⟨rfl, f9⟩
    go_wp2_with fail
    go_ret
    exact ⟨rfl, (g3.trans' f4).trans' f9⟩
  all_goals
    clear c1 c2
    obtain ⟨la, lc, rfl⟩ := hl.isSlice
    clear hl
    go_enter Try.func3, Try.ntmps3
    go_wp2_with (refine wpList_buildSlice_any rfl _ 2 _ rfl 9 Try.underlying22 _ _ Hi.out Hz.out rfl Hs9.out (by decide) (by decide) rfl [.string key, .string s] rfl (by simp [Value.oneCell']) ?_; intro w2 f2 hlt2 hb2; simp only [World.size_alloc, World.size_drew, Act.put, List.setIfInBounds_toArray, List.set_cons_succ, List.set_cons_zero])
    refine (H2.out _ _ hb2).mono ?_
    rintro e w3 ⟨rfl, f3⟩
    go_wp2_with fail
    refine alive_any.mono ?_
    rintro e w9 ⟨rfl, f9⟩
    go_wp2_with fail
    go_ret
    exact ⟨rfl, (f2.trans' f3).trans' f9⟩
end Go.Proofs.Ytfcpnicgffbmeaa
