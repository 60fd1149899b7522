/- Layer 1, sha: books, what they answer; ShaFull, the walk. -/
import Derived.Test.YtkohnmlnpbkphaaShaU
namespace Go.Xr
open Go
set_option linter.unusedVariables false
theorem shrI (t : TypeId) (a c : Nat) (yk : IntKind) (h : c ≤ 64) : binOp .shr t (.int .i64 (a : Int)) (.int yk (c : Int)) = pure (.int .i64 ((a / 2 ^ c : Nat) : Int)) := by
  have hn : ¬ ((c : Int) < 0) := by omega
  simp only [binOp, Op.shift, hn, if_false, IntKind.bits, Int.toNat_natCast, Nat.min_eq_left h]
  rw [Int.fdiv_eq_ediv_of_nonneg _ (by exact Int.pow_nonneg (by decide)), Int.natCast_ediv, Int.natCast_pow]
  rfl
section
variable {P : Program} {ops : Array Oper} {Q : Exit → Act → World → Prop} {a : Act} {w : World} {rest : List Oper} {o : Oper}
theorem wpList_build_any (hg : o.guard = none) (t : TypeId) (n : Nat) (ps : Array (Nat × Operand)) (ho : o.op = .buildSlice t n ps) (e : TypeId) (hu : P.underlying t = some (.slice e)) (i : TypeInfo) (z : Value) (hi : P.info? e = some i) (hz : i.zero = some z) (hzs : z.cells.size = 1)
    (hs : i.size = 1) (hn : n ≤ 16777216) (hn0 : 0 < n) (hidx : ps.toList.map (·.1) = List.range n) (vs : List Value) (hvs : ps.toList.map (fun p => a.eval p.2) = vs) (h1 : ∀ v ∈ vs, v.oneCell' = true)
    (h : ∀ w', Fr [] w w' → w.heap.size < w'.heap.size → Blk w' w.heap.size vs → wpList P ops Q rest (a.put o.dst (.slice (some ⟨w.heap.size, 0, none⟩) n n)) w') : wpList P ops Q (o :: rest) a w :=
  wpList_buildSlice_ones hg t n ps ho e hu i z hi hz hzs hs hn hn0 hidx vs hvs h1 fun hb => h _ ((Fr.refl [] w).alloc _) (by simp) hb
end
end Go.Xr
namespace Go.Proofs.Ytkohnmlnpbkphaa
open Go Go.Xr Go.RowKit
set_option linter.unusedVariables false
set_option linter.unusedSimpArgs false
set_option maxRecDepth 20000 in
theorem blen_any {w : World} {p bb kb : Nat} {B : BookS} (h : BookM w p bb kb B) : Calls Try.prog 27 #[.pointer (some ⟨p, 0, none⟩)] w fun e w' => e = .returned (.int .i64 (B.nk : Int)) ∧ w = w' := by
  have k1 : w.cell? ⟨p, 1, none⟩ = some (.map (some kb)) := h.blk.cell 1
  have hlen := h.len
  go_enter Try.func27, Try.ntmps27
  go_wp2_with fail
  go_ret
  exact ⟨rfl, rfl⟩
set_option maxRecDepth 20000 in
theorem bclash_any {w : World} {p bb kb : Nat} {B : BookS} (h : BookM w p bb kb B) : Calls Try.prog 28 #[.pointer (some ⟨p, 0, none⟩)] w fun e w' => e = .returned (.tuple #[.string B.x, .string B.y, .bool B.cl]) ∧ Fr [] w w' := by
  have k2 : w.drew.cell? ⟨p, 2, none⟩ = some (.string B.x) := h.blk.cell 2
  have k3 : w.drew.cell? ⟨p, 3, none⟩ = some (.string B.y) := h.blk.cell 3
  have k4 : w.drew.cell? ⟨p, 4, none⟩ = some (.bool B.cl) := h.blk.cell 4
  go_enter Try.func28, Try.ntmps28
  go_wp2_with fail
  refine wp_region_D (fun _ => True) false [] (by kernel_rfl) ?_
  refine WD.pure [0, 1, 2, 3, 4, 5, 6, 7, 8, 9, 10, 11, 12, 13, 14] (by kernel_rfl) trivial ?_
  simp only [pick, List.toList_toArray, List.map_cons, List.map_nil, List.getD_cons_succ, List.getD_cons_zero]
  repeat (first | go_big_quiet_step (fail))
  refine wpQuiet_nil ?_
  refine WD.done (by kernel_rfl) ?_
  go_wp2_with fail
  go_ret3
  exact ⟨rfl, (Fr.refl [] w).drew⟩
theorem cvi_8' (w : World) (x : Nat) : (convert 3 5 (.int .i64 (x : Int))).run Try.prog w = .ok (bt (UInt8.ofNat x)) w := by
  have e : Value.int .u8 (IntKind.u8.wrap (x : Int)) = bt (UInt8.ofNat x) := by
    rw [int_u8]
    refine congrArg bt (UInt8.toNat_inj.1 ?_)
    have h1 : (UInt8.ofBitVec (BitVec.ofInt 8 (x : Int))).toNat = (BitVec.ofInt 8 (x : Int)).toNat := rfl
    rw [UInt8.toNat_ofNat', h1, BitVec.toNat_ofInt]
    omega
  simp only [convert, Sem.run_bind, run_underlying Try.underlying3, run_underlying Try.underlying5, Result.andThen_ok, Conv.intToInt, e, Sem.run_pure]
def tS (i : Nat) (s : ByteArray) : ByteArray := (⟨#[UInt8.ofNat i, UInt8.ofNat (i / 256)]⟩ : ByteArray) ++ s
theorem tS_size (i : Nat) (s : ByteArray) : (tS i s).size = s.size + 2 := by
  unfold tS
  rw [ByteArray.size_append]
  show 2 + s.size = _
  omega
theorem tS_inj {i j : Nat} {s : ByteArray} (hi : i < 256) (hj : j < 256) (h : tS i s = tS j s) : i = j := by
  have h1 : (tS i s).data.toList[0]? = (tS j s).data.toList[0]? := by rw [h]
  unfold tS at h1
  simp at h1
  have h2 := congrArg UInt8.toNat h1
  rw [UInt8.toNat_ofNat', UInt8.toNat_ofNat'] at h2
  omega

theorem BookS.put_kf (B : BookS) (s : ByteArray) : (B.put s).kf = fun x => if x = s then some true else B.kf x := rfl
theorem BookS.put_nk (B : BookS) (s : ByteArray) : (B.put s).nk = if (B.kf s).isSome then B.nk else B.nk + 1 := rfl
theorem BookS.put_nb (B : BookS) (s : ByteArray) : (B.put s).nb ≤ B.nb + 1 := by
  show (if (B.bf (shaS s)).isSome then B.nb else B.nb + 1) ≤ B.nb + 1
  split <;> omega
/-- What a book knows behind so many of the texts. -/
structure FullI (s : ByteArray) (i : Nat) (B : BookS) : Prop where
  new : ∀ j, i ≤ j → j < 256 → B.kf (tS j s) = none
  far : ∀ x, x.size ≠ s.size + 2 → B.kf x = none
  old : 0 < i → B.kf (tS 0 s) = some true
theorem FullI.step {s : ByteArray} {i : Nat} {B : BookS} (h : FullI s i B) (hi : i < 256) : FullI s (i + 1) (B.put (tS i s)) where
  new j h1 h2 := by
    rw [BookS.put_kf]
    simp only
    rw [if_neg (fun e => by have := tS_inj h2 hi e; omega)]
    exact h.new j (by omega) h2
  far x hx := by
    rw [BookS.put_kf]
    simp only
    rw [if_neg (fun e => hx (by rw [e, tS_size]))]
    exact h.far x hx
  old _ := by
    rw [BookS.put_kf]
    simp only
    by_cases h0 : i = 0
    · rw [if_pos (by rw [h0])]
    · rw [if_neg (fun e => h0 (tS_inj (by omega) hi e).symm)]
      exact h.old (by omega)
set_option maxRecDepth 20000 in
set_option maxHeartbeats 2000000 in
theorem full_walk {w : World} (s : ByteArray) : Calls Try.prog 7 #[.string s] w fun e w' => e = .returned (.bool true) ∧ Fr [] w w' := by
  by_cases hbig : 200 < s.size
  case pos =>
    have hd : decide (200 < (s.size : Int)) = true := by simp; omega
    have hd' : decide (200 < s.size) = true := by simp; omega
    go_enter Try.func7, Try.ntmps7
    go_wp2_with fail
    refine alive_any.mono ?_
    rintro e w1 ⟨rfl, f1⟩
    go_wp2_with fail
    go_ret
    exact ⟨rfl, f1⟩
  case neg =>
    have hd : decide (200 < (s.size : Int)) = false := by simp; omega
    have hd' : decide (200 < s.size) = false := by simp; omega
    have hs2 : s.size ≤ 200 := by omega
    obtain ⟨i5, hi5, hz5, hs5, hb5⟩ := inf5
    have Hi := hid hi5
    have Hz := hid hz5
    have Hs := hid hs5
    clear hbig hi5 hz5 hs5 hb5
    go_enter Try.func7, Try.ntmps7
    go_wp2_with fail
    refine newb_any.mono ?_
    rintro e w1 ⟨p, bb, kb, rfl, h1, hp, hbb, hkb, f1⟩
    have HS := hid (show ∀ x ∈ [p, bb, kb], x ∈ ([] : List Nat) ∨ w.heap.size ≤ x by simp; omega)
    go_wp2_with fail
    go_loopw [4] (fun iv wr => ∃ (i : Nat) (B : BookS), i ≤ 256 ∧ iv = .int .i64 i ∧ BookM wr p bb kb B ∧ B.nk = i ∧ B.nb ≤ i ∧ Hid (FullI s i B) ∧ Fr [] w wr) (fun iv _ => 256 - (intOf iv).toNat)
    case atStart => exact ⟨0, BookS.empty, by omega, rfl, h1, rfl, Nat.le_refl _, hid ⟨fun _ _ _ => rfl, fun _ _ => rfl, fun h => absurd h (by decide)⟩, f1⟩
    case round =>
      obtain ⟨i, B, hi, rfl, hM, hnk, hnb, HI, f⟩ := hrel
      clear h1 f1
      by_cases hlt : i < 256
      case pos =>
        have hl1 : decide ((i : Int) < 256) = true := by simp; omega
        have hl2 : decide (i < 256) = true := by simp; omega
        have hsr : ∀ t, binOp .shr t (.int .i64 (i : Int)) (.int .u64 8) = pure (.int .i64 ((i / 256 : Nat) : Int)) := fun t => shrI t i 8 .u64 (by decide)
        obtain ⟨q, hq⟩ : ∃ q, i / 256 = q := ⟨_, rfl⟩
        have hT : (⟨[UInt8.ofNat i, UInt8.ofNat q].toArray⟩ : ByteArray) ++ s = tS i s := by rw [← hq]; rfl
        rw [hq] at hsr
        have hc1 : ∀ w0 : World, (convert 3 5 (.int .i64 (i : Int))).run Try.prog w0 = .ok (bt (UInt8.ofNat i)) w0 := fun w0 => cvi_8' w0 i
        have hc2 : ∀ w0 : World, (convert 3 5 (.int .i64 (q : Int))).run Try.prog w0 = .ok (bt (UInt8.ofNat q)) w0 := fun w0 => cvi_8' w0 q
        have hnew := HI.out.new i (Nat.le_refl _) hlt
        have HP := hid fun (w0 : World) (h : BookM w0 p bb kb B) => bof_put h (tS i s) (by rw [tS_size]; omega) (.inr (by omega)) (by omega) (by omega)
        have HT := hid hT
        have Hnew := hid hnew
        generalize UInt8.ofNat i = ub at hc1 HT
        generalize UInt8.ofNat q = uq at hc2 HT
        clear hT hq hnew
        go_wp2_with (first
          | (refine wpList_build_any rfl _ 2 _ rfl 5 Try.underlying29 _ _ Hi.out Hz.out rfl Hs.out (by decide) (by decide) rfl [bt ub, bt uq] rfl (bv_one [ub, uq]) ?_; intro w2 f2 hlt2 hb2; simp only [World.size_alloc, World.size_drew, Act.put, List.setIfInBounds_toArray, List.set_cons_succ, List.set_cons_zero])
          | (refine wpList_string_of_bytes rfl _ _ 5 _ rfl 2 2 rfl hb2 [ub, uq] rfl rfl Try.underlying29 Try.underlying5 Try.underlying9 ?_; simp only [World.size_alloc, World.size_drew, Act.put, List.setIfInBounds_toArray, List.set_cons_succ, List.set_cons_zero]))
        rw [show (⟨#[ub, uq]⟩ : ByteArray) ++ s = tS i s from HT.out]
        refine (HP.out _ (hM.keep f2 (by simp) (by simp) (by simp))).mono ?_
        rintro e w3 ⟨rfl, hM3, f3⟩
        have g3 := (f.trans' f2).trans f3 HS.out
        clear f f2 f3 hM hb2
        go_wp2_with fail
        go_roundw
        case rel =>
          refine ⟨i + 1, B.put (tS i s), by omega, by go_num, hM3, ?_, ?_, hid (HI.out.step hlt), g3⟩
          · rw [BookS.put_nk, Hnew.out]
            simp only [Option.isSome_none, Bool.false_eq_true, if_false]
            omega
          · have := BookS.put_nb B (tS i s)
            omega
        case measure => simp [intOf]; omega
      case neg =>
        have hl1 : decide ((i : Int) < 256) = false := by simp; omega
        have hl2 : decide (i < 256) = false := by simp; omega
        have hi6 : i = 256 := by omega
        obtain ⟨X, hX⟩ : ∃ X : ByteArray, s ++ ⟨#[111, 110, 101, 32, 109, 111, 114, 101, 44, 32, 111, 102, 32, 97, 110, 111, 116, 104, 101, 114, 32, 108, 101, 110, 103, 116, 104]⟩ = X := ⟨_, rfl⟩
        have hXs : X.size = s.size + 27 := by rw [← hX, ByteArray.size_append]; rfl
        have HX := hid hX
        have hold : B.kf (tS 0 s) = some true := HI.out.old (by omega)
        have Hf := hid (bof_full hM X (by omega) (HI.out.far X (by omega)) (by omega))
        have Hp := hid (bof_put hM (tS 0 s) (by rw [tS_size]; omega) (.inl (by rw [hold]; simp)) (by omega) (by omega))
        have Hnk := hid (show (B.put (tS 0 s)).nk = 256 by rw [BookS.put_nk, hold]; simp; omega)
        clear hX hold hXs hi6
        go_wp2_with fail
        rw [HX.out]
        refine Hf.out.mono ?_
        rintro e w' ⟨rfl, rfl⟩
        go_wp2_with fail
        rw [show (⟨#[0, 0]⟩ : ByteArray) ++ s = tS 0 s from rfl]
        refine Hp.out.mono ?_
        rintro e w3 ⟨rfl, hM3, f3⟩
        have g3 := f.trans f3 HS.out
        go_wp2_with fail
        refine (blen_any hM3).mono ?_
        rintro e w' ⟨rfl, rfl⟩
        rw [Hnk.out]
        go_wp2_with fail
        refine alive_any.mono ?_
        rintro e w4 ⟨rfl, f4⟩
        go_wp2_with fail
        go_ret
        exact ⟨rfl, g3.trans' f4⟩
end Go.Proofs.Ytkohnmlnpbkphaa
