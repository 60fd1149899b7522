/- Layer 21, record: the row of records that the statements seal. -/
import Derived.Test.YtgbkbhklgbjgmaaRecO
import Derived.Test.YtgbkbhklgbjgmaaAppR
import Derived.Test.YtgbkbhklgbjgmaaThree
namespace Go.Xr
open Go
set_option linter.unusedVariables false
def fitB (t : ByteArray) : Bool := decide (t.size ≤ 8192)
def fitS (l : List ByteArray) : List ByteArray := l.filter fitB
theorem fitS_take (l : List ByteArray) (i : Nat) (h : i < l.length) : fitS (l.take (i + 1)) = fitS (l.take i) ++ (if fitB (l[i]'h) then [l[i]'h] else []) := by
  unfold fitS
  rw [List.take_succ_eq_append_getElem h, List.filter_append]
  congr 1
  by_cases hf : fitB l[i] = true <;> simp [hf]
theorem fitS_le (l : List ByteArray) : (fitS l).length ≤ l.length := List.length_filter_le _ _
theorem fitS_mem {l : List ByteArray} {t : ByteArray} (h : t ∈ fitS l) : t.size ≤ 8192 := by
  unfold fitS at h
  have := (List.mem_filter.1 h).2
  simpa [fitB] using this
end Go.Xr
namespace Go.Proofs.Ytgbkbhklgbjgmaa.rcd
open Go Go.Xr Go.RowKit
set_option linter.unusedVariables false
set_option linter.unusedSimpArgs false
def wayS : ByteArray := ⟨#[119, 97, 121]⟩
def recsOf (C M lab : ByteArray) (ts : List ByteArray) : List ByteArray := ts.mapIdx fun i t => recS C M lab (UInt64.ofNat i) t
theorem recsOf_len (C M lab : ByteArray) (ts : List ByteArray) : (recsOf C M lab ts).length = ts.length := by simp [recsOf]
theorem recsOf_snoc (C M lab : ByteArray) (ts : List ByteArray) (t : ByteArray) : recsOf C M lab (ts ++ [t]) = recsOf C M lab ts ++ [recS C M lab (UInt64.ofNat ts.length) t] := by
  simp [recsOf, List.mapIdx_append]
theorem recsOf_get (C M lab : ByteArray) (ts : List ByteArray) (i : Nat) (h : i < ts.length) : (recsOf C M lab ts)[i]? = some (recS C M lab (UInt64.ofNat i) ts[i]) := by
  simp [recsOf, List.getElem?_mapIdx, h]
/-- The row of the statements. -/
def madeS (l : List ByteArray) : List ByteArray := recsOf (kC 0) (kM 0) wayS (fitS l)
theorem madeS_len (l : List ByteArray) : (madeS l).length = (fitS l).length := recsOf_len _ _ _ _
theorem madeS_size (l : List ByteArray) : ∀ r ∈ madeS l, r.size ≤ 16424 := by
  intro r hr
  obtain ⟨i, hi, rfl⟩ := List.mem_iff_getElem.1 hr
  have hi2 : i < (fitS l).length := by rw [← madeS_len]; exact hi
  have h1 := recsOf_get (kC 0) (kM 0) wayS (fitS l) i hi2
  have h2 : (madeS l)[i]? = some (madeS l)[i] := List.getElem?_eq_getElem hi
  have h3 : (madeS l)[i] = recS (kC 0) (kM 0) wayS (UInt64.ofNat i) (fitS l)[i] := Option.some.inj (h2.symm.trans h1)
  have h4 : ((fitS l)[i]).size ≤ 8192 := fitS_mem (List.getElem_mem _)
  rw [h3, recS_size _ _ _ _ _ h4]
  have := clsN_le ((fitS l)[i]).size
  omega
set_option maxRecDepth 20000 in
theorem infS9 : ∃ i, Try.prog.info? 9 = some i ∧ i.zero = some (.string ⟨#[]⟩) ∧ i.size = 1 ∧ i.bytes = 16 := ⟨_, rfl, rfl, rfl, rfl⟩
theorem cv_iu (w : World) (m : Nat) (h : m < 18446744073709551616) : (convert 3 36 (.int .i64 (m : Int))).run Try.prog w = .ok (W64 (UInt64.ofNat m)) w := by
  have e : Value.int .u64 (IntKind.u64.wrap (m : Int)) = W64 (UInt64.ofNat m) := by
    rw [val_u64, UInt64.toNat_ofNat', Nat.mod_eq_of_lt (by omega)]
    congr 1
    simp [IntKind.wrap, IntKind.bits, IntKind.signed]
    omega
  simp only [convert, Sem.run_bind, run_underlying Try.underlying3, run_underlying Try.underlying36, Result.andThen_ok, Conv.intToInt, e, Sem.run_pure]

set_option maxRecDepth 20000 in
set_option maxHeartbeats 2000000 in
theorem sealed_any {w : World} {v : Value} {l : List ByteArray} {LB : Option Nat} (hl : Rc w 1 v l.length (l.map .string) LB) (ho : ∀ s ∈ l, s.size ≤ 140737488351232) (hlm : l.length ≤ 20) :
    Calls Try.prog 18 #[v] w fun e w' => (∃ u B, e = .returned u ∧ Rc w' 1 u (fitS l).length ((madeS l).map .string) B) ∧ Fr [] w w' := by
  obtain ⟨la, lc, rfl⟩ := hl.isSlice
  have Hl := hid hl
  have Ho := hid ho
  obtain ⟨i9, hi9, hz9, hs9, hb9⟩ := infS9
  have Hi := hid hi9
  have Hz := hid hz9
  have Hs9 := hid hs9
  have Hb9 := hid hb9
  obtain ⟨n, hn⟩ : ∃ n, l.length = n := ⟨_, rfl⟩
  have Hn := hid hn
  rw [hn] at hlm ⊢
  have H1 := hid fun w0 : World => keys_of (w := w0) 0
  rw [show bt 0 = .int .u8 0 from rfl] at H1
  obtain ⟨C, hC⟩ : ∃ C, kC 0 = C := ⟨_, rfl⟩
  obtain ⟨M, hM⟩ : ∃ C, kM 0 = C := ⟨_, rfl⟩
  have HM := hid (show ∀ l, madeS l = recsOf C M wayS (fitS l) from fun l => by rw [madeS, hC, hM])
  have Hk := hid (k_may 0)
  rw [hC, hM] at H1 Hk
  clear hl ho hn hC hM hi9 hz9 hs9 hb9
  go_enter Try.func18, Try.ntmps18
  go_wp2_with fail
  go_loopw [3, 4] (fun ov iv wr => ∃ (i : Nat) (m : Nat) (R : List ByteArray) (B : Option Nat), i ≤ n ∧ iv = .int .i64 i ∧ Hid ((fitS (l.take i)).length = m) ∧ Hid (recsOf C M wayS (fitS (l.take i)) = R) ∧ m ≤ i ∧ Xr.Own wr 1 ov m (R.map .string) B ∧ (∀ b, B = some b → w.heap.size ≤ b) ∧ Fr [] w wr) (fun _ iv _ => n - (intOf iv).toNat)
  case atStart => exact ⟨0, 0, [], none, by omega, rfl, hid rfl, hid rfl, by omega, Xr.Own.nil _ 1, by simp, Fr.refl _ _⟩
  case round =>
    obtain ⟨i, m, R, B, hi, rfl, Hm, HR, hmi, own, hB, f⟩ := hrel
    obtain ⟨oa, oc, rfl⟩ := own.isSlice
    by_cases hli : i < n
    case neg =>
      have h1 : decide (i < n) = false := by simp; omega
      have hin : i = n := by omega
      have HE := hid (show (fitS l).length = m ∧ madeS l = R by
        have e := Hm.out
        have e2 := HR.out
        rw [hin, ← Hn.out, List.take_length] at e e2
        exact ⟨e, by rw [HM.out, e2]⟩)
      clear hin
      go_wp2_with fail
      go_ret
      rw [HE.out.1, HE.out.2]
      exact ⟨⟨_, B, rfl, own.rd.rc⟩, f⟩
    case pos =>
      have h1 : decide (i < n) = true := by simp; omega
      obtain ⟨lb, off, rfl, hlbw, hcell⟩ := rc_str (wr := wr) Hl.out f i (by rw [Hn.out]; exact hli)
      have hnx := fitS_take l i (by rw [Hn.out]; exact hli)
      obtain ⟨S, hS⟩ : ∃ S, l[i]'(by rw [Hn.out]; exact hli) = S := ⟨_, rfl⟩
      have hSo : S.size ≤ 140737488351232 := by rw [← hS]; exact Ho.out _ (List.getElem_mem _)
      rw [hS] at hcell hnx
      have Hnx := hid hnx
      clear hS hnx
      by_cases hbig : 8192 < S.size
      case pos =>
        have hd3 : decide ((S.size : Int) ≤ 8192) = false := by simp; omega
        have hd4 : decide (S.size ≤ 8192) = false := by simp; omega
        have HF := hid (show fitS (l.take (i + 1)) = fitS (l.take i) by rw [Hnx.out, if_neg (by simp [fitB]; omega), List.append_nil])
        go_wp2_with fail
        go_roundw
        case rel => exact ⟨i + 1, m, R, B, by omega, by go_num, hid (by rw [HF.out]; exact Hm.out), hid (by rw [HF.out]; exact HR.out), by omega, own, hB, f⟩
        case measure => simp [intOf]; omega
      case neg =>
        have hd3 : decide ((S.size : Int) ≤ 8192) = true := by simp; omega
        have hd4 : decide (S.size ≤ 8192) = true := by simp; omega
        have HF := hid (show fitS (l.take (i + 1)) = fitS (l.take i) ++ [S] by rw [Hnx.out, if_pos (by simp [fitB]; omega)])
        have H2 := hid fun w0 : World => rrec_any (w := w0) C M wayS S (UInt64.ofNat m) Hk.out (by omega) (by decide)
        obtain ⟨T, hT⟩ : ∃ T, recS C M wayS (UInt64.ofNat m) S = T := ⟨_, rfl⟩
        have HT := hid hT
        rw [hT] at H2
        have HRl := hid (show (R.map Value.string).length = m by rw [List.length_map, ← HR.out, recsOf_len]; exact Hm.out)
        have hcv : ∀ w0 : World, (convert 3 36 (.int .i64 (m : Int))).run Try.prog w0 = .ok (W64 (UInt64.ofNat m)) w0 := fun w0 => cv_iu w0 m (by omega)
        have HlB := hid (show ∀ b, B = some b → b ≠ lb from fun b hb => by have := hB b hb; omega)
        rw [show wayS = ⟨#[119, 97, 121]⟩ from rfl] at H2
        generalize UInt64.ofNat m = mu at H2 hcv
        have Hcv := hid hcv
        clear hT hcv hbig
        have own0 : Xr.Own wr.drew 1 (.slice oa m oc) m (R.map .string) B := own.keep ((Fr.refl [] wr).drew) (by simp)
        have g0 := f.drew
        have c0 : wr.drew.cell? ⟨lb, off + i, none⟩ = some (.string S) := hcell
        go_wp2_with fail
        refine wp_region_D (fun w' => w'.cell? ⟨lb, off + i, none⟩ = some (.string S)) false [] (by kernel_rfl) ?_
        refine WD.free [0, 2, 5, 6, 7] (by kernel_rfl) c0 ?_
        simp only [pick, List.toList_toArray, List.map_cons, List.map_nil, List.getD_cons_succ, List.getD_cons_zero]
        repeat (first | (refine quiet_conv_v (by rfl) _ _ _ rfl _ rfl (W64 mu) (fun wq _ => Hcv.out wq) ?_; simp only [World.size_alloc, World.size_drew, Act.put, List.setIfInBounds_toArray, List.set_cons_succ, List.set_cons_zero]) | (refine quiet_len_v (by rfl) _ _ rfl Try.underlying24 rfl ?_; simp only [World.size_alloc, World.size_drew, Act.put, List.setIfInBounds_toArray, List.set_cons_succ, List.set_cons_zero]) | (refine quiet_load_1S rfl _ _ rfl rfl (.string S) (fun _ h => h) _ Try.underlying9 rfl ?_; simp only [World.size_alloc, World.size_drew, Act.put, List.setIfInBounds_toArray, List.set_cons_succ, List.set_cons_zero]) | go_big_quiet_step (fail))
        refine wpQuiet_nil ?_
        refine WD.held [3, 4, 8] (by kernel_rfl) c0 ?_
        simp only [pick, List.toList_toArray, List.map_cons, List.map_nil, List.getD_cons_succ, List.getD_cons_zero]
        repeat (first | (refine quiet_conv_v (by rfl) _ _ _ rfl _ rfl (W64 mu) (fun wq _ => Hcv.out wq) ?_; simp only [World.size_alloc, World.size_drew, Act.put, List.setIfInBounds_toArray, List.set_cons_succ, List.set_cons_zero]) | (refine quiet_len_v (by rfl) _ _ rfl Try.underlying24 rfl ?_; simp only [World.size_alloc, World.size_drew, Act.put, List.setIfInBounds_toArray, List.set_cons_succ, List.set_cons_zero]) | (refine quiet_load_1S rfl _ _ rfl rfl (.string S) (fun _ h => h) _ Try.underlying9 rfl ?_; simp only [World.size_alloc, World.size_drew, Act.put, List.setIfInBounds_toArray, List.set_cons_succ, List.set_cons_zero]) | go_big_quiet_step (fail))
        refine wpQuiet_nil ?_
        refine WD.eff 1 (by kernel_rfl) ?_
        simp only [pick, List.toList_toArray, List.map_cons, List.map_nil, List.getD_cons_succ, List.getD_cons_zero]
        go_wp2_with fail
        refine (H1.out _).mono ?_
        rintro e w2 ⟨rfl, f2⟩
        go_wp2_with fail
        have c2 := f2.cell_some c0
        try refine wpList_nil ?_
        refine AfterD.on c2 (by kernel_rfl) ?_
        try simp only [World.size_alloc, World.size_drew, Act.put, List.setIfInBounds_toArray, List.set_cons_succ, List.set_cons_zero]
        refine WD.eff 9 (by kernel_rfl) ?_
        simp only [pick, List.toList_toArray, List.map_cons, List.map_nil, List.getD_cons_succ, List.getD_cons_zero]
        go_wp2_with fail
        refine (H2.out _).mono ?_
        rintro e w3 ⟨rfl, f3⟩
        go_wp2_with fail
        have c3 := f3.cell_some c2
        try refine wpList_nil ?_
        refine AfterD.on c3 (by kernel_rfl) ?_
        try simp only [World.size_alloc, World.size_drew, Act.put, List.setIfInBounds_toArray, List.set_cons_succ, List.set_cons_zero]
        refine WD.eff 10 (by kernel_rfl) ?_
        simp only [pick, List.toList_toArray, List.map_cons, List.map_nil, List.getD_cons_succ, List.getD_cons_zero]
        refine wpList_buildSlice_any rfl _ 1 _ rfl 9 Try.underlying24 _ _ Hi.out Hz.out rfl Hs9.out (by decide) (by decide) rfl [.string T] rfl (by simp [Value.oneCell']) ?_
        intro w4 f4 hlt4 hb4
        have c4 := f4.cell_some c3
        have own4 := ((own0.keep f2 (by simp)).keep f3 (by simp)).keep f4 (by simp)
        have g4 := ((g0.trans' f2).trans' f3).trans' f4
        have hbb : ∀ b, B = some b → w.heap.size ≤ b := hB
        simp only [World.size_alloc, World.size_drew, Act.put, List.setIfInBounds_toArray, List.set_cons_succ, List.set_cons_zero]
        try refine wpList_nil ?_
        refine AfterD.on c4 (by kernel_rfl) ?_
        try simp only [World.size_alloc, World.size_drew, Act.put, List.setIfInBounds_toArray, List.set_cons_succ, List.set_cons_zero]
        refine WD.eff 11 (by kernel_rfl) ?_
        simp only [pick, List.toList_toArray, List.map_cons, List.map_nil, List.getD_cons_succ, List.getD_cons_zero]
        refine wpList_append rfl _ _ _ rfl 9 _ _ 1 16 Try.underlying24 Hi.out Hz.out Hs9.out Hb9.out rfl (by decide) rfl own4 _ 1 1 [.string T] rfl rfl (hb4.cells rfl) (by simp [Value.oneCell']) (by unfold maxLen; omega) (by omega) ?_
        intro v5 w5 B5 own5 f5 hB5
        have c5 : w5.cell? ⟨lb, off + i, none⟩ = some (.string S) := (World.cell?_of_block (w := w4) (f5.block lb (by have := g4.size; omega) (by
          cases B with
          | none => simp
          | some b => have := HlB.out b rfl; simp; exact fun h => this h.symm))).trans c4
        simp only [World.size_alloc, World.size_drew, Act.put, List.setIfInBounds_toArray, List.set_cons_succ, List.set_cons_zero]
        try refine wpList_nil ?_
        refine AfterD.on c5 (by kernel_rfl) ?_
        try simp only [World.size_alloc, World.size_drew, Act.put, List.setIfInBounds_toArray, List.set_cons_succ, List.set_cons_zero]
        refine WD.pure [12] (by kernel_rfl) c5 ?_
        simp only [pick, List.toList_toArray, List.map_cons, List.map_nil, List.getD_cons_succ, List.getD_cons_zero]
        repeat (first | (refine quiet_conv_v (by rfl) _ _ _ rfl _ rfl (W64 mu) (fun wq _ => Hcv.out wq) ?_; simp only [World.size_alloc, World.size_drew, Act.put, List.setIfInBounds_toArray, List.set_cons_succ, List.set_cons_zero]) | (refine quiet_len_v (by rfl) _ _ rfl Try.underlying24 rfl ?_; simp only [World.size_alloc, World.size_drew, Act.put, List.setIfInBounds_toArray, List.set_cons_succ, List.set_cons_zero]) | (refine quiet_load_1S rfl _ _ rfl rfl (.string S) (fun _ h => h) _ Try.underlying9 rfl ?_; simp only [World.size_alloc, World.size_drew, Act.put, List.setIfInBounds_toArray, List.set_cons_succ, List.set_cons_zero]) | go_big_quiet_step (fail))
        refine wpQuiet_nil ?_
        refine WD.done (by kernel_rfl) ?_
        have g5 := g4.trans f5 (by
          intro x hx
          cases B with
          | none => simp at hx
          | some b => simp at hx; subst hx; exact .inr (hbb _ rfl))
        have hB6 : ∀ b, B5 = some b → w.heap.size ≤ b := by
          rcases hB5 with rfl | ⟨b, rfl, hb⟩
          · exact hbb
          · intro b' hb'; cases hb'; have := g4.size; omega
        clear own0 own own4 g0 g4 f2 f3 f4 f5 f c0 c2 c3 c4 c5 hcell hB hB5 hb4 hlt4 hbb
        go_wp2_with fail
        go_roundw
        case rel => exact ⟨i + 1, m + 1, R ++ [T], B5, by omega, by go_num, hid (by rw [HF.out, List.length_append, Hm.out]; rfl), hid (by rw [HF.out, recsOf_snoc, HR.out, Hm.out, HT.out]), by omega, by simpa using own5, hB6, g5⟩
        case measure => simp [intOf]; omega
end Go.Proofs.Ytgbkbhklgbjgmaa.rcd
