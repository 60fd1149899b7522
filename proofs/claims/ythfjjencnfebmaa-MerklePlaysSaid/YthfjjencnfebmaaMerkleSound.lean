/- Layer 10: MerkleSound, the walk. -/
import Derived.Test.YthfjjencnfebmaaMerS
namespace Go.Proofs.Ythfjjencnfebmaa.mer
open Go Go.Xr Go.RowKit
set_option linter.unusedVariables false
set_option linter.unusedSimpArgs false
theorem chain_32 : ∀ {rows : List (List ByteArray)}, Chain rows → ∀ r ∈ rows, ∀ s ∈ r, s.size = 32
  | r :: rest, ⟨h1, h2, h3, h4, h5⟩, x, hx => by
    rcases List.mem_cons.1 hx with rfl | hx
    · exact h3
    · exact chain_32 h5 x hx
theorem pathF_size : ∀ (rows : List (List ByteArray)) (i : Nat), (∀ r ∈ rows, ∀ s ∈ r, s.size = 32) → ∀ s ∈ pathF rows i, s.size ≤ 256
  | [], i, h, s, hs => by simp [pathF] at hs
  | r :: rest, i, h, s, hs => by
    rw [pathF] at hs
    rcases List.mem_cons.1 hs with rfl | hs
    · rw [catS_32 (grp r i) fun x hx => h r List.mem_cons_self x (List.mem_of_mem_drop (List.mem_of_mem_take hx)), grp_len]
      omega
    · exact pathF_size rest _ (fun r hr => h r (List.mem_cons_of_mem _ hr)) s hs
theorem pathF_len : ∀ (rows : List (List ByteArray)) (i : Nat), (pathF rows i).length = rows.length
  | [], i => rfl
  | r :: rest, i => by rw [pathF, List.length_cons, List.length_cons, pathF_len rest]
theorem pathS_size (tags : List ByteArray) (i : Nat) (h1 : 0 < tags.length) (h2 : tags.length ≤ 16384) : ∀ s ∈ pathS tags i, s.size ≤ 256 := by
  refine pathF_size _ i fun r hr => ?_
  exact chain_32 (chain_rows tags h1 h2) r (List.dropLast_subset _ hr)
theorem pathS_len (tags : List ByteArray) (i : Nat) (h1 : 0 < tags.length) : (pathS tags i).length ≤ tags.length := by
  unfold pathS
  rw [pathF_len, List.length_dropLast]
  have := rowsS_length tags h1
  omega
/-- The first tags, and nothing behind them. -/
def tagsN (l : List ByteArray) (k : Nat) : List ByteArray := l.take k ++ List.replicate (l.length - k) ⟨#[]⟩
theorem tagsN_len (l : List ByteArray) (k : Nat) (h : k ≤ l.length) : (tagsN l k).length = l.length := by simp [tagsN]; omega
theorem tagsN_all (l : List ByteArray) : tagsN l l.length = l := by simp [tagsN]
theorem tagsN_set (l : List ByteArray) (k : Nat) (x : ByteArray) (h : l[k]? = some x) : (tagsN l k).set k x = tagsN l (k + 1) := by
  obtain ⟨hk, _⟩ := List.getElem?_eq_some_iff.1 h
  unfold tagsN
  rw [List.set_append_right _ _ (by rw [List.length_take]; omega), List.length_take, Nat.min_eq_left (by omega), Nat.sub_self, show l.length - k = (l.length - (k + 1)) + 1 by omega, List.replicate_succ, List.set_cons_zero, List.take_add_one, h, List.append_assoc]
  rfl
set_option maxRecDepth 20000 in
set_option maxHeartbeats 2000000 in
theorem sound_walk {w : World} {v v2 : Value} {l l2 : List ByteArray} {B B2 : Option Nat} (h : Rc w 1 v l.length (l.map .string) B) (ho : ∀ s ∈ l, s.size ≤ 140737488351232) (hm : l.length ≤ 9223372036854775807) (i : Int)
    (other : ByteArray) (hot : other.size ≤ 140737488351232) (h2 : Rc w 1 v2 l2.length (l2.map .string) B2) (ho2 : ∀ s ∈ l2, s.size ≤ 140737488351232) (hm2 : l2.length ≤ 9223372036854775807) :
    Calls Try.prog 6 #[v, .int .i64 i, .string other, v2] w fun e w' => e = .returned (.bool true) ∧ Fr [] w w' := by
  obtain ⟨la, lc, rfl⟩ := h.isSlice
  obtain ⟨la2, lc2, rfl⟩ := h2.isSlice
  have HS2 := hid fun (w0 : World) (f0 : Fr [] w w0) => size_any (w := w0) (h2.keep f0 (by simp)) ho2 hm2 ⟨#[]⟩ other 0 0 (by decide) hot
  have H := hid h
  have H2 := hid h2
  have HO := hid ho
  obtain ⟨m, hmm⟩ : ∃ m, l.length = m := ⟨_, rfl⟩
  obtain ⟨m2, hmm2⟩ : ∃ m2, l2.length = m2 := ⟨_, rfl⟩
  have Hm := hid hmm
  have Hm2 := hid hmm2
  rw [hmm] at hm ⊢
  rw [hmm2] at HS2 hm2 ⊢
  clear h ho h2 ho2 hmm hmm2
  by_cases c1 : 100 < m
  · have d1 : decide ((100 : Int) < (m : Int)) = true := by simp; omega
    go_enter Try.func6, Try.ntmps6
    go_wp2_with (go_at_call 10; refine alive_any.mono ?_; rintro e w3 ⟨rfl, f3⟩)
    go_ret
    exact ⟨rfl, f3⟩
  have d1 : decide ((100 : Int) < (m : Int)) = false := by simp; omega
  have d1' : ¬ ((100 : Int) < (m : Int)) := by omega
  by_cases c2 : m = 0
  · have d2 : ((m : Int) == 0) = true := by simp; omega
    have d2' : decide ((m : Int) = 0) = true := by simp; omega
    subst c2
    go_enter Try.func6, Try.ntmps6
    go_wp2_with (go_at_call 10; refine alive_any.mono ?_; rintro e w3 ⟨rfl, f3⟩)
    go_ret
    exact ⟨rfl, f3⟩
  have d2 : ((m : Int) == 0) = false := by simp; omega
  have d2' : decide ((m : Int) = 0) = false := by simp; omega
  by_cases c3 : i < 0
  · have d3 : decide (i < 0) = true := by simp; omega
    go_enter Try.func6, Try.ntmps6
    go_wp2_with (go_at_call 10; refine alive_any.mono ?_; rintro e w3 ⟨rfl, f3⟩)
    go_ret
    exact ⟨rfl, f3⟩
  have d3 : decide (i < 0) = false := by simp; omega
  by_cases c4 : (m : Int) ≤ i
  · have d4 : decide ((m : Int) ≤ i) = true := by simp; omega
    go_enter Try.func6, Try.ntmps6
    go_wp2_with (go_at_call 10; refine alive_any.mono ?_; rintro e w3 ⟨rfl, f3⟩)
    go_ret
    exact ⟨rfl, f3⟩
  have d4 : decide ((m : Int) ≤ i) = false := by simp; omega
  obtain ⟨I, rfl⟩ : ∃ I : Nat, i = (I : Int) := ⟨i.toNat, by omega⟩
  have hI : I < m := by omega
  have hI' : (I : Int) < (m : Int) := by omega
  have hmb : m ≤ 100 := by omega
  have hm1 : 1 ≤ m := by omega
  have dI : decide ((I : Int) < (m : Int)) = true := by simp; omega
  have HN := hid fun w0 : World => new_any (w := w0) m hm1 (by omega)
  clear c1 c2 c3 c4
  go_enter Try.func6, Try.ntmps6
  go_wp2_with (go_at_call 9; refine (HS2.out _ (Fr.refl _ _)).mono ?_; rintro e w1 ⟨⟨s, rfl, hs⟩, f1⟩; revert f1)
  intro f1
  by_cases hs8 : s ≤ 8192
  · obtain ⟨_, p3, p1, p2⟩ := hs hs8
    have d5 : decide ((8192 : Int) < (s : Int)) = false := by simp; omega
    have d5' : ¬ ((8192 : Int) < (s : Int)) := by omega
    have P2 := hid p2
    clear hs p2 HS2
    go_wp2_with (go_at_call 19; refine (HN.out _).mono ?_; rintro e w2 ⟨tb, bl, rfl, hT, hbl, f2⟩; revert f2)
    intro f2
    have HT := hid (show TreeAt w2 bl tb (tagsN l 0) (rowsS (tagsN l 0)) by
      have e : tagsN l 0 = List.replicate m ⟨#[]⟩ := by unfold tagsN; rw [Hm.out]; simp
      rw [e]; exact hT)
    have HB := hid (show ∀ b ∈ bl, w1.heap.size ≤ b from hbl)
    have F2 := hid (f1.trans' f2)
    have f1s := f1.size
    clear hT hbl f1 f2
    go_wp2_with fail
    go_loopw [11] (fun kv wr => ∃ k : Nat, kv = .int .i64 (k : Int) ∧ k ≤ m ∧ TreeAt wr bl tb (tagsN l k) (rowsS (tagsN l k)) ∧ (∀ x ∈ l.take k, x.size ≤ 32) ∧ Fr [] w wr) (fun kv _ => m - (intOf kv).toNat)
    case atStart => exact ⟨0, rfl, Nat.zero_le _, HT.out, by simp, F2.out⟩
    case round =>
      obtain ⟨k, rfl, hk, hT, hx, f⟩ := hrel
      clear HT
      by_cases hkm : k < m
      · have g1 : decide ((k : Int) < (m : Int)) = true := by simp; omega
        have g1' : (k : Int) < (m : Int) := by omega
        obtain ⟨b1, o1, rfl, hB1, hlb1, hi1, q1⟩ := rc_elem (l := l) (n := m) (by have := H.out.keep f (by simp); rw [Hm.out] at this; exact this) hkm
        have Hx := hid (show l[k]? = some l[k] from List.getElem?_eq_getElem hi1)
        obtain ⟨X, hX⟩ : ∃ X, l[k] = X := ⟨_, rfl⟩
        rw [hX] at q1 Hx
        have htl := tagsN_len l k (by rw [Hm.out]; exact hk)
        rw [Hm.out] at htl
        have Hxs := hid hx
        have HtX := hid hT
        have Htl := hid htl
        by_cases hsz : X.size = 0 ∨ X.size = 32
        · have HSet := hid (set_any hT (by rw [htl]; omega) k X (by rw [htl]; exact hkm) hsz)
          rw [tagsN_set l k X Hx.out] at HSet
          have Hsz := hid hsz
          clear hX hi1 hB1 hx hT htl hsz
          go_wp2_with (go_at_call 20; refine HSet.out.mono ?_; rintro e w5 ⟨rfl, hT5, f5⟩)
          go_roundw
          case rel =>
            refine ⟨k + 1, by first | rfl | go_num, by omega, hT5, ?_, f.trans f5 (fun b hb => .inr (Nat.le_trans f1s (HB.out b hb)))⟩
            intro x hx
            rw [List.take_add_one, Hx.out] at hx
            rcases List.mem_append.1 hx with h | h
            · exact Hxs.out x h
            · obtain rfl : x = X := by simpa using h
              have := Hsz.out
              omega
          case measure => simp [intOf]; omega
        · have HSet := hid (set_size hT (by rw [htl]; omega) (k : Int) X ⟨by omega, by rw [htl]; omega⟩ (by omega))
          clear hX hi1 hB1 hx hT htl hsz
          go_wp2_with (first
            | (go_at_call 20; refine HSet.out.mono ?_; rintro e w5 ⟨rfl, hw⟩; have hw' := hw.symm; subst hw')
            | (go_at_call 10; refine alive_any.mono ?_; rintro e w6 ⟨rfl, f6⟩))
          go_ret
          exact ⟨rfl, f.trans' f6⟩
      · have g1 : decide ((k : Int) < (m : Int)) = false := by simp; omega
        have g1' : ¬ ((k : Int) < (m : Int)) := by omega
        have hkm2 : k = l.length := by rw [Hm.out]; omega
        rw [hkm2, tagsN_all] at hT
        have Hx := hid (show ∀ x ∈ l, x.size ≤ 32 by rw [hkm2, List.take_of_length_le (Nat.le_refl _)] at hx; exact hx)
        clear hkm2 hx hkm
        have hIl : I < l.length := by rw [Hm.out]; exact hI
        have HP := hid (path_any hT (by rw [Hm.out]; omega) I hIl)
        have Hps := hid (pathS_size l I (by rw [Hm.out]; omega) (by rw [Hm.out]; omega))
        have Hpl := hid (pathS_len l I (by rw [Hm.out]; omega))
        have hV := verS_path l I hIl (by rw [Hm.out]; omega)
        obtain ⟨pre, er⟩ := rowsS_root l (by rw [Hm.out]; omega)
        obtain ⟨b1, o1, rfl, hB1, hlb1, hi1, q1⟩ := rc_elem (l := l) (n := m) (by have := H.out.keep f (by simp); rw [Hm.out] at this; exact this) hI
        have HX := hid (Hx.out l[I] (List.getElem_mem _))
        obtain ⟨X, hX⟩ : ∃ X, l[I] = X := ⟨_, rfl⟩
        rw [hX] at hV q1 HX
        obtain ⟨P, hP⟩ : ∃ P, pathS l I = P := ⟨_, rfl⟩
        rw [hP] at hV HP Hps Hpl
        obtain ⟨RT, hRT⟩ : ∃ RT, rootS l = RT := ⟨_, rfl⟩
        rw [hRT] at hV er
        rw [Hm.out] at hV Hpl
        have HV := hid hV
        have HT := hid hT
        rw [er] at HT
        clear hT hV er hX hP hRT hi1 hB1 hIl
        go_wp2_with (go_at_call 21; refine HP.out.mono ?_; rintro e w5 ⟨⟨pv, PB, rfl, hr5, hB5⟩, f5⟩; revert f5)
        intro f5
        have g5 := f.trans' f5
        have HT5 := hid (HT.out.keep f5 (by simp))
        obtain ⟨pa, pc, rfl⟩ := hr5.isSlice
        have Hr5 := hid hr5
        have q5 := f5.cell_some q1
        have HVr := hid fun (w0 : World) (f0 : Fr [] w5 w0) => verify_any (w := w0) (hr5.keep f0 (by simp)) (by have := Hpl.out; omega) (fun s hs => by have := Hps.out s hs; omega) RT (m : Int) (I : Int) X (by have := HX.out; omega)
        rw [HV.out] at HVr
        have HVo := hid fun (w0 : World) (f0 : Fr [] w5 w0) => verify_any (w := w0) (H2.out.keep (g5.trans' f0) (by simp)) (by rw [Hm2.out]; omega) (fun s hs => by have := P2.out s hs; omega) RT (m : Int) (I : Int) other (by omega)
        have HRt := hid fun (w0 : World) (f0 : Fr [] w5 w0) => root_any (w := w0) (HT5.out.keep f0 (by simp)) (by rw [Hm.out]; omega)
        have HCl := hid fun (w0 : World) (f0 : Fr [] w5 w0) => clash_any (w := w0) (hr5.keep f0 (by simp)) (by have := Hpl.out; omega) (fun s hs => by have := Hps.out s hs; omega) (H2.out.keep (g5.trans' f0) (by simp)) (by rw [Hm2.out]; omega) (fun s hs => by have := P2.out s hs; omega) (m : Int) (I : Int) X other (by have := HX.out; omega) (by omega)
        rw [Hm2.out] at HVo HCl
        obtain ⟨pm, hpm⟩ : ∃ pm, P.length = pm := ⟨_, rfl⟩
        rw [hpm] at HVr HCl ⊢
        have G5 := hid g5
        clear hr5 hB5 q1 hpm
        obtain ⟨VO, hVO⟩ : ∃ VO, verS RT (m : Int) (I : Int) other l2 = VO := ⟨_, rfl⟩
        rw [hVO] at HVo
        obtain ⟨⟨cx, cy, D⟩, hC⟩ : ∃ C, clashS (m : Int) (I : Int) X other P l2 = C := ⟨_, rfl⟩
        rw [hC] at HCl
        simp only at HCl
        go_wp2_with fail
        refine wp_region_D (fun w' => w'.cell? ⟨b1, o1 + I, none⟩ = some (.string X)) false [] (by kernel_rfl) ?_
        refine WD.pure [0, 1, 2, 3] (by kernel_rfl) q5 ?_
        simp only [pick, List.toList_toArray, List.map_cons, List.map_nil, List.getD_cons_succ, List.getD_cons_zero]
        repeat (first | (refine quiet_load_1R (by rfl) _ _ rfl rfl (.string X) (fun w0 h => h) _ Try.underlying9 rfl ?_; simp only [World.size_alloc, World.size_drew, Act.put, List.setIfInBounds_toArray, List.set_cons_succ, List.set_cons_zero]) | (refine quiet_len_v (by rfl) _ _ rfl Try.underlying22 rfl ?_; simp only [World.size_alloc, World.size_drew, Act.put, List.setIfInBounds_toArray, List.set_cons_succ, List.set_cons_zero]) | go_big_quiet_step (fail))
        refine wpQuiet_nil ?_
        refine WD.free [5, 7, 8, 9, 10, 12] (by kernel_rfl) q5 ?_
        simp only [pick, List.toList_toArray, List.map_cons, List.map_nil, List.getD_cons_succ, List.getD_cons_zero]
        repeat (first | (refine quiet_load_1R (by rfl) _ _ rfl rfl (.string X) (fun w0 h => h) _ Try.underlying9 rfl ?_; simp only [World.size_alloc, World.size_drew, Act.put, List.setIfInBounds_toArray, List.set_cons_succ, List.set_cons_zero]) | (refine quiet_len_v (by rfl) _ _ rfl Try.underlying22 rfl ?_; simp only [World.size_alloc, World.size_drew, Act.put, List.setIfInBounds_toArray, List.set_cons_succ, List.set_cons_zero]) | go_big_quiet_step (fail))
        refine wpQuiet_nil ?_
        refine WD.held [6, 11] (by kernel_rfl) q5 ?_
        simp only [pick, List.toList_toArray, List.map_cons, List.map_nil, List.getD_cons_succ, List.getD_cons_zero]
        repeat (first | (refine quiet_load_1R (by rfl) _ _ rfl rfl (.string X) (fun w0 h => h) _ Try.underlying9 rfl ?_; simp only [World.size_alloc, World.size_drew, Act.put, List.setIfInBounds_toArray, List.set_cons_succ, List.set_cons_zero]) | (refine quiet_len_v (by rfl) _ _ rfl Try.underlying22 rfl ?_; simp only [World.size_alloc, World.size_drew, Act.put, List.setIfInBounds_toArray, List.set_cons_succ, List.set_cons_zero]) | go_big_quiet_step (fail))
        refine wpQuiet_nil ?_
        refine WD.eff 4 (by kernel_rfl) ?_
        simp only [pick, List.toList_toArray, List.map_cons, List.map_nil, List.getD_cons_succ, List.getD_cons_zero]
        have f0 : Fr [] w5 w5.drew := (Fr.refl [] w5).drew
        go_wp2_with (go_at_call 22; refine (HRt.out _ f0).mono ?_; rintro e w6 ⟨rfl, f6⟩)
        have g6 := f0.trans' f6
        have q6 := g6.cell_some q5
        try refine wpList_nil ?_
        refine AfterD.on q6 (by kernel_rfl) ?_
        try simp only [World.size_alloc, World.size_drew, Act.put, List.setIfInBounds_toArray, List.set_cons_succ, List.set_cons_zero]
        refine WD.eff 13 (by kernel_rfl) ?_
        simp only [pick, List.toList_toArray, List.map_cons, List.map_nil, List.getD_cons_succ, List.getD_cons_zero]
        go_wp2_with (go_at_call 12; refine (HVr.out _ g6).mono ?_; rintro e w7 ⟨rfl, f7⟩)
        have g7 := g6.trans' f7
        have q7 := g7.cell_some q5
        try refine wpList_nil ?_
        refine AfterD.on q7 (by kernel_rfl) ?_
        try simp only [World.size_alloc, World.size_drew, Act.put, List.setIfInBounds_toArray, List.set_cons_succ, List.set_cons_zero]
        refine WD.pure [14, 15] (by kernel_rfl) q7 ?_
        simp only [pick, List.toList_toArray, List.map_cons, List.map_nil, List.getD_cons_succ, List.getD_cons_zero]
        repeat (first | (refine quiet_load_1R (by rfl) _ _ rfl rfl (.string X) (fun w0 h => h) _ Try.underlying9 rfl ?_; simp only [World.size_alloc, World.size_drew, Act.put, List.setIfInBounds_toArray, List.set_cons_succ, List.set_cons_zero]) | (refine quiet_len_v (by rfl) _ _ rfl Try.underlying22 rfl ?_; simp only [World.size_alloc, World.size_drew, Act.put, List.setIfInBounds_toArray, List.set_cons_succ, List.set_cons_zero]) | go_big_quiet_step (fail))
        refine wpQuiet_nil ?_
        refine WD.done (by kernel_rfl) ?_
        have hxo := beq_str2 other X
        by_cases hox : other = X
        · have g8 : (other.toList == X.toList) = true := by rw [hxo]; exact decide_eq_true hox
          have hD : D = false := by
            have := clashS_same (m : Int) (I : Int) X P l2
            rw [← hox] at hC
            rw [← hox] at this
            rw [this] at hC
            exact (congrArg (fun c => c.2.2) hC).symm
          clear hC hVO hxo hox
          subst hD
          go_wp2_with (first
            | (go_at_call 16; refine (HCl.out _ g7).mono ?_; rintro e w9 ⟨rfl, f9⟩)
            | (go_at_call 10; refine alive_any.mono ?_; rintro e w10 ⟨rfl, f10⟩))
          go_ret
          exact ⟨rfl, ((G5.out.trans' g7).trans' f9).trans' f10⟩
        · have g8 : (other.toList == X.toList) = false := by rw [hxo]; exact decide_eq_false hox
          cases VO
          · have hD : D = false := by
              have := clashS_no (m : Int) (I : Int) X other RT P l2 HV.out hVO
              rw [hC] at this
              exact this
            clear hC hVO hxo hox
            subst hD
            go_wp2_with (first
              | (go_at_call 22; refine (HRt.out _ g7).mono ?_; rintro e w8 ⟨rfl, f8⟩; have g88 := g7.trans' f8; have q8 := f8.cell_some q7)
              | (go_at_call 12; refine (HVo.out _ g88).mono ?_; rintro e w9 ⟨rfl, f9⟩; have g9 := g88.trans' f9; have q9 := f9.cell_some q8)
              | (go_at_call 16; refine (HCl.out _ g9).mono ?_; rintro e w10 ⟨rfl, f10⟩)
              | (go_at_call 10; refine alive_any.mono ?_; rintro e w11 ⟨rfl, f11⟩))
            go_ret
            exact ⟨rfl, ((G5.out.trans' g9).trans' f10).trans' f11⟩
          · have hy := clashS_yes (m : Int) (I : Int) X other RT P l2 (fun e => hox e.symm) HV.out hVO
            have hlw := clashS_law (m : Int) (I : Int) X other P l2 hy 8192 (by have := HX.out; omega) p3 (fun s hs => by have := Hps.out s hs; omega) P2.out
            rw [hC] at hy hlw
            have hD : D = true := hy
            obtain ⟨e1, e2, e3, e4⟩ : cx ≠ cy ∧ shaS cx = shaS cy ∧ cx.size ≤ 8192 + 9 ∧ cy.size ≤ 8192 + 9 := hlw
            have O1 := hid fun w0 : World => rof_any (w := w0) cx (by omega)
            have O2 := hid fun w0 : World => rof_any (w := w0) cy (by omega)
            rw [← e2] at O2
            obtain ⟨SX, hSX⟩ : ∃ SX, shaS cx = SX := ⟨_, rfl⟩
            rw [hSX] at O1 O2
            have hxy : (cx.toList == cy.toList) = false := by rw [beq_str2]; exact decide_eq_false e1
            clear hC hVO hxo hox hy e1 e2 hSX
            subst hD
            go_wp2_with (first
              | (go_at_call 22; refine (HRt.out _ g7).mono ?_; rintro e w8 ⟨rfl, f8⟩; have g88 := g7.trans' f8; have q8 := f8.cell_some q7)
              | (go_at_call 12; refine (HVo.out _ g88).mono ?_; rintro e w9 ⟨rfl, f9⟩; have g9 := g88.trans' f9; have q9 := f9.cell_some q8)
              | (go_at_call 16; refine (HCl.out _ g9).mono ?_; rintro e w10 ⟨rfl, f10⟩)
              | (go_at_call 18; refine (O1.out _).mono ?_; rintro e w12 ⟨rfl, f12⟩; clear O1)
              | (go_at_call 18; refine (O2.out _).mono ?_; rintro e w13 ⟨rfl, f13⟩)
              | (go_at_call 10; refine alive_any.mono ?_; rintro e w11 ⟨rfl, f11⟩))
            go_ret
            exact ⟨rfl, ((((G5.out.trans' g9).trans' f10).trans' f12).trans' f13).trans' f11⟩
  · have d5 : decide ((8192 : Int) < (s : Int)) = true := by simp; omega
    go_wp2_with (go_at_call 10; refine alive_any.mono ?_; rintro e w3 ⟨rfl, f3⟩)
    go_ret
    exact ⟨rfl, f1.trans' f3⟩
end Go.Proofs.Ythfjjencnfebmaa.mer
