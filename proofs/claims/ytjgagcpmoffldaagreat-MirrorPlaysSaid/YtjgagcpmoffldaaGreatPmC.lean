/- Layer 7 (great seat): the document's superblock and what a disk tells of itself. -/
import Derived.Test.YtjgagcpmoffldaaGreatPmB
import Derived.Test.YtjgagcpmoffldaaGreatGMirB
import Derived.Test.YtjgagcpmoffldaaGreatGSha
namespace Go.Proofs.YtjgagcpmoffldaaGreat
open Go Go.Xr Go.RowKit
set_option linter.unusedVariables false
set_option linter.unusedSimpArgs false
set_option maxRecDepth 20000 in
theorem pinf5 : ∃ i, Tryz.prog.info? 5 = some i ∧ i.zero = some (bt 0) ∧ i.size = 1 ∧ i.bytes = 1 := ⟨_, rfl, rfl, rfl, rfl⟩
set_option maxRecDepth 20000 in
set_option maxHeartbeats 1000000 in
theorem rsuper_any {w : World} (gen : UInt64) (n : Nat) (hn : n ≤ 16384) : Calls Tryz.prog 36 #[W64 gen, .int .i64 (n : Int)] w fun e w' => e = .returned (.string (supS gen n)) ∧ Fr [] w w' := by
  obtain ⟨i5, hi5, hz5, hs5, hb5⟩ := pinf5
  have Hi := hid hi5
  have Hz := hid hz5
  have Hs := hid hs5
  have Hb := hid hb5
  have h4 : (UInt64.ofNat n).toNat = n := by rw [UInt64.toNat_ofNat']; omega
  have H1 := hid (show (⟨#[67, 79, 70, 77]⟩ ++ ⟨(leN gen.toNat 8).toArray⟩ ++ ⟨(leN n 4).toArray⟩ : ByteArray) = supH gen n from rfl)
  have H2 := hid (show (supH gen n ++ shaS (supH gen n)) ++ ⟨(List.replicate 464 0).toArray⟩ = supS gen n from rfl)
  have H4 := supH2_size gen n
  have h32 := hid fun w : World => rcd.num_any (w := w) (UInt64.ofNat n) 4 (by decide)
  rw [h4, show W64 (UInt64.ofNat n) = .int .u64 (n : Int) by unfold W64; rw [h4]] at h32
  have h64 := hid fun w : World => rcd.num_any (w := w) gen 8 (by decide)
  have g1 : (⟨(leN gen.toNat 8).toArray⟩ : ByteArray).size ≤ 8 := by rw [size_mk', leN_len]; omega
  have g2 : (⟨(leN n 4).toArray⟩ : ByteArray).size ≤ 4 := by rw [size_mk', leN_len]; omega
  obtain ⟨LZ, hLZ⟩ : ∃ L : List UInt8, List.replicate 464 0 = L := ⟨_, rfl⟩
  have HLZ := hid (show List.replicate 464 (bt 0) = bv LZ by rw [← hLZ, bv_replicate])
  have HLl := hid (show LZ.length = 464 by rw [← hLZ, List.length_replicate])
  have g3 : (⟨LZ.toArray⟩ : ByteArray).size ≤ 464 := by rw [size_mk', ← hLZ, List.length_replicate]; omega
  have g4 : (supH gen n).size ≤ 16 := by rw [supH_size]; omega
  rw [hLZ] at H2
  clear hLZ
  generalize supS gen n = Z at *
  generalize supH gen n = H at *
  generalize (⟨(leN gen.toNat 8).toArray⟩ : ByteArray) = G at *
  generalize (⟨(leN n 4).toArray⟩ : ByteArray) = M at *
  have g5 : (⟨#[67, 79, 70, 77]⟩ ++ G ++ M : ByteArray).size ≤ 16 := by rw [H1.out]; exact g4
  have hof := hid fun w : World => rof_any (w := w) H (by omega)
  have g6 : (shaS H).size ≤ 32 := by rw [shaS_size]; omega
  generalize shaS H = D at *
  have h48 : (⟨#[67, 79, 70, 77]⟩ ++ G ++ M ++ D : ByteArray).size = 48 := by rw [H1.out]; exact H4
  have HZ := hid (show ⟨#[67, 79, 70, 77]⟩ ++ G ++ M ++ D ++ ⟨LZ.toArray⟩ = Z by rw [H1.out, H2.out])
  rw [← H1.out] at hof
  clear H4 g4 H1 H2 hi5 hz5 hs5 hb5 h4
  go_enter Tryz.func36, Tryz.ntmps36
  go_wp2_with (first
    | (go_at_call 73; refine (h64.out _).mono ?_; rintro e w1 ⟨rfl, f1⟩; clear h64)
    | (go_at_call 73; refine (h32.out _).mono ?_; rintro e w2 ⟨rfl, f2⟩; clear h32)
    | (go_at_call 74; refine (hof.out _).mono ?_; rintro e w3 ⟨rfl, f3⟩)
    | (refine wpList_make_blk rfl _ _ _ rfl 464 464 .i64 .i64 rfl rfl 5 _ _ 1 Tryz.underlying106 Hi.out Hz.out Hs.out Hb.out rfl (Nat.le_refl _) (by decide) (by decide) ?_; intro w4 f4 hlt4 hb4; rw [HLZ.out] at hb4; simp only [World.size_alloc, World.size_drew, Act.put, List.setIfInBounds_toArray, List.set_cons_succ, List.set_cons_zero])
    | (refine wpList_string_of_bytes rfl 106 9 5 _ rfl 464 464 rfl hb4 LZ HLl.out (by rw [List.drop_zero]; exact List.take_of_length_le (by rw [bv_length, HLl.out]; exact Nat.le_refl _)) Tryz.underlying106 Tryz.underlying5 Tryz.underlying9 ?_; simp only [World.size_alloc, World.size_drew, Act.put, List.setIfInBounds_toArray, List.set_cons_succ, List.set_cons_zero]))
  go_ret
  rw [HZ.out]
  exact ⟨rfl, ((f1.trans' f2).trans' f3).trans' f4⟩
theorem num_step8 (b : UInt8) (r : List UInt8) (h : r.length < 8) : shl64 (UInt64.ofNat (leV r)) 8 ||| b.toUInt64 = UInt64.ofNat (leV (b :: r)) := by
  have h1 := leV_lt r
  have hb := b.toNat_lt
  have h24 : (256 : Nat) ^ r.length ≤ 256 ^ 7 := Nat.pow_le_pow_right (by decide) (by omega)
  apply UInt64.toNat_inj.1
  rw [or_nat, shl64_nat, UInt64.toNat_ofNat', UInt64.toNat_ofNat', UInt8.toNat_toUInt64, Nat.mod_eq_of_lt (by omega), Nat.mod_eq_of_lt (by omega), leV, Nat.mod_eq_of_lt (by omega)]
  rw [Nat.mul_comm, ← Nat.two_pow_add_eq_or_of_lt (show b.toNat < 2 ^ 8 by omega)]
  omega
set_option maxRecDepth 20000 in
set_option maxHeartbeats 1000000 in
theorem pbytes_any {w : World} {p : Nat} (s : ByteArray) (h : Blk w p [.string s, .int .i64 4, .int .i64 0]) (hs : s.size = 512) : Calls Tryz.prog 87 #[.pointer (some ⟨p, 0, none⟩), .int .i64 8] w fun e w' => e = .returned (.string (s.extract 4 12)) ∧ Fr [p] w w' := by
  have k0 : w.cell? ⟨p, 0, none⟩ = some (.string s) := h.cell 0
  have k1 : w.cell? ⟨p, 1, none⟩ = some (.int .i64 4) := h.cell 1
  have k2 : w.cell? ⟨p, 2, none⟩ = some (.int .i64 0) := h.cell 2
  have h0 : w.drew.cell? ⟨p, 0, none⟩ = some (.string s) := k0
  have h1 : w.drew.cell? ⟨p, 1, none⟩ = some (.int .i64 4) := k1
  have hsi : (s.size : Int) = 512 := by omega
  have hd2 : decide ((508 : Int) < 8) = false := rfl
  have hb2 := h.drew.drew
  go_enter Tryz.func87, Tryz.ntmps87
  go_wp2_with fail
  refine wp_region_D (fun _ => True) false [] (by kernel_rfl) ?_
  refine WD.pure [0, 1, 2, 3, 4, 5, 6, 7, 8, 9, 10, 11] (by kernel_rfl) trivial ?_
  simp only [pick, List.toList_toArray, List.map_cons, List.map_nil, List.getD_cons_succ, List.getD_cons_zero]
  repeat (first | go_big_quiet_step (fail))
  refine wpQuiet_nil ?_
  refine WD.done (by kernel_rfl) ?_
  clear h0 h1
  have h0 : w.drew.drew.cell? ⟨p, 0, none⟩ = some (.string s) := k0
  have h1 : w.drew.drew.cell? ⟨p, 1, none⟩ = some (.int .i64 4) := k1
  go_wp2_with fail
  refine wp_region_D (fun _ => True) false [] (by kernel_rfl) ?_
  refine WD.pure [0, 1, 2, 3, 4, 5, 6, 7, 8, 9, 10, 11, 12, 13, 14, 15] (by kernel_rfl) trivial ?_
  simp only [pick, List.toList_toArray, List.map_cons, List.map_nil, List.getD_cons_succ, List.getD_cons_zero]
  repeat (first | (refine quiet_slice_vW (by rfl) _ _ _ _ rfl _ rfl _ _ rfl rfl (.string (s.extract 4 12)) (fun w0 _ => run_slice_s w0 _ Tryz.underlying9 s .i64 .i64 _ _ 4 12 rfl rfl (by omega) (by omega)) ?_; simp only [World.size_alloc, World.size_drew, Act.put, List.setIfInBounds_toArray, List.set_cons_succ, List.set_cons_zero]) | go_big_quiet_step (fail))
  refine wpQuiet_nil ?_
  refine WD.done (by kernel_rfl) ?_
  go_wp2_with (refine wpList_put rfl _ _ _ rfl rfl (.int .i64 12) rfl rfl hb2 (by simp) (by kernel_rfl) ?_; intro w2 f2 b2 hs2; simp only [World.size_alloc, World.size_drew, Act.put, List.setIfInBounds_toArray, List.set_cons_succ, List.set_cons_zero])
  go_ret
  exact ⟨rfl, ((((Fr.refl [p] w).drew).drew).trans' f2)⟩
theorem cv8_64p (w : World) (a : UInt8) : (convert 5 55 (bt a)).run Tryz.prog w = .ok (W64 a.toUInt64) w := conv_u8_u64 w _ _ a Tryz.underlying5 Tryz.underlying55 rfl
attribute [local go_sem] or_u64 shl_u64 cv8_64p
theorem gen_take (s : ByteArray) (hs : s.size = 512) : UInt64.ofNat (leV ((s.extract 4 12).data.toList.drop 0)) = genS s := by
  unfold genS tell8
  rw [List.drop_zero, ByteArray.data_extract, ByteArray.data_extract, Array.toList_extract, Array.toList_extract, List.extract_eq_take_drop, List.extract_eq_take_drop, List.take_take]
  have e : min 8 (s.size - 4) = 8 := by omega
  rw [e]
set_option maxRecDepth 20000 in
set_option maxHeartbeats 1000000 in
theorem pnum_any {w : World} {p : Nat} (s : ByteArray) (h : Blk w p [.string s, .int .i64 4, .int .i64 0]) (hs : s.size = 512) : Calls Tryz.prog 66 #[.pointer (some ⟨p, 0, none⟩), .int .i64 8] w fun e w' => e = .returned (W64 (genS s)) ∧ Fr [p] w w' := by
  have Hb := hid (pbytes_any s h hs)
  obtain ⟨D, hD⟩ : ∃ D, s.extract 4 12 = D := ⟨_, rfl⟩
  have HDs := hid (show D.size = 8 by rw [← hD, ByteArray.size_extract]; omega)
  obtain ⟨L, hL⟩ : ∃ L, D.data.toList = L := ⟨_, rfl⟩
  have HLl := hid (show L.length = 8 by rw [← hL, Array.length_toList]; exact HDs.out)
  have HDl := hid hL
  have Hfin := hid (show UInt64.ofNat (leV (L.drop 0)) = genS s by rw [← hL, ← hD]; exact gen_take s hs)
  have hDi : (D.size : Int) = 8 := by rw [HDs.out]; rfl
  rw [hD] at Hb
  clear hD hL h hs
  go_enter Tryz.func66, Tryz.ntmps66
  go_wp2_with fail
  refine Hb.out.mono ?_
  rintro e w1 ⟨rfl, f1⟩
  go_wp2_with fail
  go_loopw [6, 7] (fun xv iv wr => ∃ i : Nat, i ≤ 8 ∧ iv = .int .i64 ((i : Int) - 1) ∧ xv = W64 (UInt64.ofNat (leV (L.drop i))) ∧ wr = w1) (fun _ iv _ => (intOf iv + 1).toNat)
  case atStart => exact ⟨8, by decide, by first | rfl | simp, by rw [List.drop_eq_nil_of_le (by rw [HLl.out]; exact Nat.le_refl _)]; rfl, rfl⟩
  case round =>
    obtain ⟨i, hi, rfl, rfl, rfl⟩ := hrel
    cases i with
    | zero =>
      have hd : decide ((0 : Int) ≤ ((0 : Nat) : Int) - 1) = false := by decide
      rw [Hfin.out]
      clear hi
      go_wp2_with fail
      go_ret
      exact ⟨rfl, f1⟩
    | succ q =>
      rw [show (((q + 1 : Nat) : Int) - 1) = (q : Int) by omega]
      have hqL : q < L.length := by rw [HLl.out]; omega
      obtain ⟨X, hX⟩ : ∃ X, g8 L q = X := ⟨_, rfl⟩
      have hge : L[q] = X := by
        have := g8_eq L q hqL
        rw [List.getElem?_eq_getElem hqL, hX] at this
        exact Option.some.inj this
      have Hst := hid (show shl64 (UInt64.ofNat (leV (L.drop (q + 1)))) 8 ||| X.toUInt64 = UInt64.ofNat (leV (L.drop q)) by
        rw [num_step8 X (L.drop (q + 1)) (by rw [List.length_drop, HLl.out]; omega), ← hge, ← List.drop_eq_getElem_cons hqL])
      obtain ⟨V, hV⟩ : ∃ V, UInt64.ofNat (leV (L.drop (q + 1))) = V := ⟨_, rfl⟩
      rw [hV] at Hst ⊢
      have hix : ∀ w0 : World, (Instr.index 9 (.string D) (.int .i64 (q : Int))).run Tryz.prog w0 = .ok (bt X) w0 := fun w0 => by
        rw [← hX, ← HDl.out]
        exact index_str (P := Tryz.prog) w0 9 D .i64 q q Tryz.underlying9 rfl (by rw [HDs.out]; omega) 0
      have hq4 : (q : Int) ≤ 7 := by omega
      clear hX hge hV
      go_wp2_with fail
      go_roundw
      case rel => exact ⟨q, by omega, rfl, by rw [← Hst.out], by first | rfl | trivial⟩
      case measure => simp [intOf]
section
variable {w w' w0 : World} {l rs : List Res} {pbs : List Nat} {s : Sys} {d : Bool → Nat} {FF FF' : Bool → List Nat}
set_option maxRecDepth 20000 in
set_option maxHeartbeats 2000000 in
theorem pstamp_any (b : Bool) (h : Held w (l ++ sysX pbs s d FF)) (ok : SysOk s) (ht : s.T < 1000000) :
    Calls Tryz.prog 29 #[.pointer (some ⟨d b, 0, none⟩)] w fun e w' => e = .returned (.tuple #[W64 (s.stG b), .bool (s.stO b)]) ∧ Fr [] w w' := by
  have hR := hid (xR b h ok ht 0)
  have hsz := mt_rd_size (ok.g b) (s.lf b) 0
  unfold Sys.stG Sys.stO
  by_cases hz : s.rdC b 0 = 0
  · have hS : (s.rdS b 0).size = 512 := hsz hz
    rw [if_pos hz, if_pos hz]
    rw [hz] at hR
    obtain ⟨kb, kc, lv, tv, pv, hb, _⟩ := xsee b h ok
    have hn := (len_pos ok b).2
    generalize s.rdS b 0 = S at *
    generalize s.len b = n at *
    generalize d b = db at *
    have h2 := hid fun (w1 : World) (p : Nat) (hb : Blk w1 p [.string S, .int .i64 4, .int .i64 0]) => pnum_any S hb hS
    have h3 := hid fun w1 : World => rsuper_any (w := w1) (genS S) n hn
    have HB := hid fun (w1 : World) (f : Fr [] w w1) => ((f.blk hb (by simp)).cell 0 : w1.cell? ⟨db, 0, none⟩ = some (.slice (some ⟨kb, 0, none⟩) n kc))
    generalize genS S = g at *
    generalize supS g n = Z at *
    clear h ok hsz hz hb ht
    go_enter Tryz.func29, Tryz.ntmps29
    go_wp2_with (first
      | (go_at_call 41; with_reducible refine hR.out.mono ?_; rintro e w5 ⟨rfl, hw⟩; subst hw)
      | (refine wpList_box rfl _ _ rfl [.string S, .int .i64 4, .int .i64 0] rfl ?_; intro w6 f6 hlt6 hb6; simp only [World.size_alloc, World.size_drew, Act.put, List.setIfInBounds_toArray, List.set_cons_succ, List.set_cons_zero])
      | (go_at_call 66; refine (h2.out _ _ hb6).mono ?_; rintro e w7 ⟨rfl, f7⟩; have F7 := hid (f6.trans f7 (fun x hx => .inr (by simp at hx; omega))); have kk := HB.out _ F7.out)
      | (go_at_call 36; refine (h3.out _).mono ?_; rintro e w9 ⟨rfl, f9⟩))
    go_ret2
    rw [← mt_beq]
    exact ⟨rfl, F7.out.trans' f9⟩
  · rw [if_neg hz, if_neg hz]
    have u0 : (s.rdC b 0 != 0) = true := by simpa using hz
    generalize s.rdC b 0 = c at *
    generalize d b = db at *
    clear h ok hsz hz
    go_enter Tryz.func29, Tryz.ntmps29
    go_wp2_with (first
      | (go_at_call 41; with_reducible refine hR.out.mono ?_; rintro e w5 ⟨rfl, hw⟩; subst hw))
    go_ret2
    exact ⟨rfl, Fr.refl [] _⟩
end
end Go.Proofs.YtjgagcpmoffldaaGreat
