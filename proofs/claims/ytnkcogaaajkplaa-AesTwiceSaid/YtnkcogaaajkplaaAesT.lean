/- Layer 3, aes: the stream of a nonce, as an iterator. -/
import Derived.Test.YtnkcogaaajkplaaAesH
import Derived.Test.YtnkcogaaajkplaaRf
namespace Go.Xr
open Go
set_option linter.unusedVariables false
/-- A number of 16 bytes, the highest first, and 1: from byte i - 1 down. -/
def incF : Nat → List UInt8 → List UInt8
  | 0, l => l
  | i + 1, l => if (g8 l i + c8 1).toNat = 0 then incF i (l.set i (g8 l i + c8 1)) else l.set i (g8 l i + c8 1)
theorem incF_len (i : Nat) (l : List UInt8) : (incF i l).length = l.length := by
  induction i generalizing l with
  | zero => rfl
  | succ i ih =>
    rw [incF]
    split
    · rw [ih, List.length_set]
    · rw [List.length_set]
def ctr (nn : List UInt8) : Nat → List UInt8
  | 0 => nn
  | j + 1 => incF 16 (ctr nn j)
theorem ctr_len (nn : List UInt8) (j : Nat) : (ctr nn j).length = nn.length := by
  induction j with
  | zero => rfl
  | succ j ih => rw [ctr, incF_len, ih]
def strm (T nn : List UInt8) (k : Nat) : UInt8 := g8 (blockS T (ctr nn (k / 16))) (k % 16)
end Go.Xr
namespace Go.Proofs.Ytnkcogaaajkplaa
open Go Go.Xr Go.RowKit
set_option linter.unusedVariables false
set_option linter.unusedSimpArgs false
attribute [local go_sem] add_u8_c neq_u8_c neg_u8_c

set_option maxRecDepth 20000 in
set_option maxHeartbeats 1000000 in
theorem stream_seq {w : World} {p cb nb : Nat} {T : List UInt8} (s : ByteArray) (hT : T.length = 688) (hs : s.size = 16) (hp : Blk w p (ciph T)) (hcb : w.cell? ⟨cb, 0, none⟩ = some (.pointer (some ⟨p, 0, none⟩))) (hnb : w.cell? ⟨nb, 0, none⟩ = some (.string s)) :
    SeqB Try.prog 1 32 #[.pointer (some ⟨cb, 0, none⟩), .pointer (some ⟨nb, 0, none⟩)] (fun k => bt (strm T s.data.toList k)) (fun b => b = p ∨ b = cb) w := by
  intro l S J Jx W N hfr hS hJ hJx hY h0
  have hp1 := hfr.blk hp (by simp)
  have hcb1 := hfr.cell_some hcb
  have hnb1 := hfr.cell_some hnb
  have hsl : s.data.toList.length = 16 := by rw [Array.length_toList]; exact hs
  have hne : ((s.size : Int) != 16) = false := by rw [hs]; rfl
  obtain ⟨i2, hi2, hz2, _⟩ := infS
  have Hi2 := hid hi2
  have Hz2 := hid hz2
  have HT := hid hT
  have Hs := hid hs
  have Hsl := hid hsl
  have HJ := hid hJ
  have HY := hid hY
  have HS := hid hS
  have hpS : p ∉ S := fun h => (hS p h).2 (.inl rfl)
  have hcS : cb ∉ S := fun h => (hS cb h).2 (.inr rfl)
  have HpS := hid hpS
  have HcS := hid hcS
  have hplt := hp1.lt
  have hclt : cb < W.heap.size := by
    unfold World.cell? at hcb1
    rcases Nat.lt_or_ge cb W.heap.size with h | h
    · exact h
    · simp [h] at hcb1
  clear hi2 hz2 hT hs hsl hJ hJx hY hS hpS hcS hfr hp hcb hnb
  show Calls _ _ #[.func (.yield l) #[] #[], .pointer (some ⟨cb, 0, none⟩), .pointer (some ⟨nb, 0, none⟩)] W _
  go_enter Try.func32, Try.ntmps32
  go_wp2_with (first
    | (go_at_call 26; refine (not_any HT.out hp1).mono ?_; rintro e w' ⟨rfl, rfl⟩)
    | (refine wpList_bytes_of_string rfl 9 32 5 _ rfl s rfl Try.underlying9 Try.underlying32 Try.underlying5 ?_; intro w1 cap f1 hlt1 hb1 hcap; simp only [World.size_alloc, World.size_drew, Act.put, List.setIfInBounds_toArray, List.set_cons_succ, List.set_cons_zero])
    | (refine wpList_arrayAt rfl 45 _ rfl 16 5 Try.underlying45 rfl (by rw [Hs.out]; exact Nat.le_refl _) ?_; simp only [World.size_alloc, World.size_drew, Act.put, List.setIfInBounds_toArray, List.set_cons_succ, List.set_cons_zero])
    | (refine wpList_load_ag rfl _ _ rfl rfl (bv s.data.toList) hb1 sqT (bvl Hsl.out) (by rw [List.drop_zero, ← bvl Hsl.out]; exact List.take_left) ?_; simp only [World.size_alloc, World.size_drew, Act.put, List.setIfInBounds_toArray, List.set_cons_succ, List.set_cons_zero])
    | (refine wpList_alloc_any rfl _ rfl _ _ 16 Hi2.out Hz2.out rfl ?_; intro zs w3 hzl hze f3 hlt3 hb3; rw [hze] at hb3; clear hzl hze; simp only [World.size_alloc, World.size_drew, Act.put, List.setIfInBounds_toArray, List.set_cons_succ, List.set_cons_zero])
    | (refine wpList_store_ag rfl _ _ _ rfl rfl (bv s.data.toList) rfl (show Blk w3 w1.heap.size (bv (List.replicate 16 0)) from hb3) sqT (bvl Hsl.out) (by decide) (bv_one _) ?_; intro w4 f4 b4 hs4; rw [splice_all _ _ (by rw [bvl Hsl.out]; rfl)] at b4; simp only [World.size_alloc, World.size_drew, Act.put, List.setIfInBounds_toArray, List.set_cons_succ, List.set_cons_zero]))
  obtain ⟨Nn, hNn⟩ : ∃ Nn, w1.heap.size = Nn := ⟨_, rfl⟩
  rw [hNn] at b4 f4 hlt1 hlt3 ⊢
  have g4 : Fr [] W w4 := (f1.trans' f3).trans f4 (by simp; omega)
  have q1 : J (16 * 0) w4 := HJ.out 0 _ _ h0 (g4.below (Nat.le_refl _) (by simp))
  have q2 := g4.blk hp1 (by simp)
  have q3 := g4.cell_some hcb1
  have q4 : Blk w4 Nn (bv (ctr s.data.toList 0)) := b4
  have q5 : W.heap.size ≤ Nn := by omega
  have q6 : W.heap.size ≤ w4.heap.size := g4.size
  have Hcl := hid fun j => (ctr_len s.data.toList j).trans Hsl.out
  obtain ⟨nn, hnn⟩ : ∃ nn, s.data.toList = nn := ⟨_, rfl⟩
  rw [hnn] at q4 Hcl HY
  have Hnn := hid hnn
  clear hb1 hb3 b4 f1 f3 f4 g4 hNn hlt1 hlt3 hs4 hcap hnb1 hcb1 hp1 h0 hnn
  go_loopg [4] (N + 1) (fun g tv wr => ∃ j Nn, g + 16 * j = N + 1 ∧ tv = .pointer (some ⟨Nn, 0, none⟩) ∧ W.heap.size ≤ Nn ∧ W.heap.size ≤ wr.heap.size ∧ J (16 * j) wr ∧ Blk wr p (ciph T) ∧ wr.cell? ⟨cb, 0, none⟩ = some (.pointer (some ⟨p, 0, none⟩)) ∧ Blk wr Nn (bv (ctr nn j)))
  case atStart => exact ⟨0, Nn, by omega, rfl, q5, q6, q1, q2, q3, q4⟩
  case round =>
    obtain ⟨j, M, hg, rfl, hM, hsz, hJj, b1, b2, b3⟩ := hrel
    obtain ⟨G, rfl⟩ : ∃ G, G = gk := ⟨_, rfl⟩
    clear q1 q2 q3 q4 q5 q6
    obtain ⟨C, hC⟩ : ∃ C, ctr nn j = C := ⟨_, rfl⟩
    have HC := hid hC
    have HCl := hid (show C.length = 16 by rw [← hC]; exact Hcl.out j)
    rw [hC] at b3
    clear hC
    go_wp2_with (first
      | (refine wpList_load_ag rfl _ _ rfl rfl (bv C) b3 sqT (bvl HCl.out) (whole (bvl HCl.out)) ?_; simp only [World.size_alloc, World.size_drew, Act.put, List.setIfInBounds_toArray, List.set_cons_succ, List.set_cons_zero])
      | (go_at_call 24; refine (block_any HT.out HCl.out b1).mono ?_; rintro e w5 ⟨rfl, f5⟩))
    obtain ⟨K, hK⟩ : ∃ K, blockS T C = K := ⟨_, rfl⟩
    have HKl := hid (show K.length = 16 by rw [← hK]; exact blockS_len _ _)
    have HK : Hid (∀ i, i < 16 → strm T nn (16 * j + i) = g8 K i) := hid fun i hi => by
      unfold strm
      rw [show (16 * j + i) / 16 = j by omega, show (16 * j + i) % 16 = i by omega, HC.out, hK]
    rw [hK]
    have r1 : J (16 * j + 0) w5 := HJ.out _ _ _ hJj (f5.below hsz (by simp))
    have r2 := f5.blk b1 (by simp)
    have r3 := f5.cell_some b2
    have r4 := f5.blk b3 (by simp)
    have r5 : W.heap.size ≤ w5.heap.size := Nat.le_trans hsz f5.size
    clear hJj b1 b2 b3 f5 hsz hK
    go_loopw [22] (fun iv wr => ∃ i : Nat, i ≤ 16 ∧ iv = .int .i64 i ∧ (i = 0 ∨ 16 * j + i < N) ∧ W.heap.size ≤ wr.heap.size ∧ J (16 * j + i) wr ∧ Blk wr p (ciph T) ∧ wr.cell? ⟨cb, 0, none⟩ = some (.pointer (some ⟨p, 0, none⟩)) ∧ Blk wr M (bv C)) (fun iv _ => 16 - (intOf iv).toNat)
    case atStart => exact ⟨0, by decide, rfl, .inl rfl, r5, r1, r2, r3, r4⟩
    case round =>
      obtain ⟨i, hi, rfl, hiN, hsz, hJi, b1, b2, b3⟩ := hrel
      clear r1 r2 r3 r4 r5
      by_cases hli : i < 16
      · have hd : decide ((i : Int) < 16) = true := by simp; omega
        obtain ⟨X, hX⟩ : ∃ X, g8 K i = X := ⟨_, rfl⟩
        have hix : ∀ w0 : World, (Instr.index 45 (.agg (bv K).toArray) (.int .i64 (i : Int))).run Try.prog w0 = .ok (bt X) w0 := fun w0 => index_agg w0 _ 5 16 _ .i64 i Try.underlying45 rfl (by rw [List.size_toArray]; exact bvl HKl.out) (bt X) (by omega) (by omega) (by rw [Int.toNat_natCast, bv_getElem?, g8_eq K i (by rw [HKl.out]; exact hli), hX]; rfl) rfl
        obtain ⟨fn, tmps, assign, body, hy, hR⟩ := HY.out (16 * j + i) wr hJi
        rw [HK.out i hli, hX] at hy
        clear hX
        refine (wpIn_wide (n := 2)).1 ?_
        gi_wp2
        refine hR.mono ?_
        rintro e W2 (⟨rfl, hJ2, hf2, hN2⟩ | ⟨rfl, hJ2⟩)
        · have c1 := hf2.blk b1 HpS.out
          have c2 : W2.cell? ⟨cb, 0, none⟩ = some (.pointer (some ⟨p, 0, none⟩)) := (World.cell?_of_block (w := wr) (hf2.block cb (by omega) HcS.out)).trans b2
          have c3 := hf2.blk b3 (fun h => by have := (HS.out M h).1; omega)
          have c4 : W.heap.size ≤ W2.heap.size := Nat.le_trans hsz hf2.size
          clear hy hR hix hJi b1 b2 b3 hf2
          gi_wp2
          go_roundw
          case rel => exact ⟨i + 1, by omega, by go_num, .inr hN2, c4, hJ2, c1, c2, c3⟩
          case measure => simp [intOf]; omega
        · gi_wp2
          refine bodyPost_ret (results_none rfl _ _ _) rfl ?_
          exact ⟨⟨_, rfl⟩, _, hJ2⟩
      · have hd : decide ((i : Int) < 16) = false := by simp; omega
        have ei : i = 16 := by omega
        have hNj : 16 * j + 16 < N := by omega
        have hJ3 : J (16 * (j + 1)) wr := by rw [show 16 * (j + 1) = 16 * j + i by omega]; exact hJi
        have HE : Hid (ctr nn (j + 1) = incF 16 C) := hid (by rw [ctr, HC.out])
        clear ei hli hi hiN hJi
        go_wp2_with fail
        clear hd
        go_loopw [7] (fun iv wr => ∃ (r : Nat) (L : List UInt8), r ≤ 16 ∧ iv = .int .i64 ((r : Int) - 1) ∧ W.heap.size ≤ wr.heap.size ∧ J (16 * (j + 1)) wr ∧ Blk wr p (ciph T) ∧ wr.cell? ⟨cb, 0, none⟩ = some (.pointer (some ⟨p, 0, none⟩)) ∧ Blk wr M (bv L) ∧ L.length = 16 ∧ Hid (incF 16 C = incF r L)) (fun iv _ => (intOf iv + 1).toNat)
        case atStart => exact ⟨16, C, by decide, rfl, hsz, hJ3, b1, b2, b3, HCl.out, hid rfl⟩
        case round =>
          obtain ⟨r, L, hr, rfl, hsz, hJ4, b1, b2, b3, hLl, hE⟩ := hrel
          cases r with
          | zero =>
            have HD := hid (show ctr nn (j + 1) = L by rw [HE.out, hE.out]; rfl)
            obtain ⟨D, rfl⟩ : ∃ D, D = L := ⟨_, rfl⟩
            have HDl := hid hLl
            clear hE hLl hr
            go_wp2_with (first
              | (refine wpList_load_ag rfl _ _ rfl rfl (bv D) b3 sqT (bvl HDl.out) (whole (bvl HDl.out)) ?_; simp only [World.size_alloc, World.size_drew, Act.put, List.setIfInBounds_toArray, List.set_cons_succ, List.set_cons_zero])
              | (refine wpList_alloc_any rfl _ rfl _ _ 16 Hi2.out Hz2.out rfl ?_; intro zs w7 hzl hze f7 hlt7 hb7; rw [hze] at hb7; clear hzl hze; simp only [World.size_alloc, World.size_drew, Act.put, List.setIfInBounds_toArray, List.set_cons_succ, List.set_cons_zero])
              | (refine wpList_store_ag rfl _ _ _ rfl rfl (bv D) rfl (show Blk w7 wr.heap.size (bv (List.replicate 16 0)) from hb7) sqT (bvl HDl.out) (by decide) (bv_one _) ?_; intro w8 f8 b8 hs8; rw [splice_all _ _ (by rw [bvl HDl.out]; rfl)] at b8; simp only [World.size_alloc, World.size_drew, Act.put, List.setIfInBounds_toArray, List.set_cons_succ, List.set_cons_zero]))
            have f9 : Fr [] wr w8 := f7.trans f8 (by simp)
            go_roundg (N + 1 - 16 * (j + 1))
            case rel => exact ⟨j + 1, wr.heap.size, by omega, rfl, by omega, Nat.le_trans hsz f9.size, HJ.out _ _ _ hJ4 (f9.below (by omega) (by simp)), f9.blk b1 (by simp), f9.cell_some b2, by rw [HD.out]; exact b8⟩
            case measure => omega
          | succ q =>
            rw [show (((q + 1 : Nat) : Int) - 1) = (q : Int) by omega]
            obtain ⟨X, hX⟩ : ∃ X, g8 L q = X := ⟨_, rfl⟩
            obtain ⟨Y, hY⟩ : ∃ Y, X + c8 1 = Y := ⟨_, rfl⟩
            have k1 : wr.cell? ⟨M, q, none⟩ = some (bt X) := by rw [b3.cell, bv_getElem?, g8_eq L q (by omega), hX]; rfl
            have hq : q < 16 := by omega
            have HLl := hid hLl
            have hE2 : incF 16 C = if Y.toNat = 0 then incF q (L.set q Y) else L.set q Y := by
              have h := hE.out
              generalize incF 16 C = Z at h ⊢
              rw [incF, hX, hY] at h
              exact h
            have HYe := hid hY
            have hJ5 : ∀ w6, Fr [M] wr w6 → J (16 * (j + 1)) w6 := fun w6 f6 => HJ.out _ _ _ hJ4 (f6.below hsz (by simp; omega))
            have HJ5 := hid hJ5
            have hMp : p ≠ M := by omega
            have hMc : cb ≠ M := by omega
            clear hX hY hLl hJ5 hE
            by_cases hy0 : Y.toNat = 0
            · have hne2 : ((Y.toNat : Int) != 0) = false := by rw [hy0]; rfl
              rw [if_pos hy0] at hE2
              have HE2 := hid hE2
              clear hE2 hy0
              go_wp2_with (refine wpList_put rfl _ _ _ rfl rfl (bt Y) (by rw [← HYe.out]; rfl) rfl b3 (by rw [bv_length, HLl.out]; exact hq) (by kernel_rfl) ?_; intro w6 f6 b6 hs6; have k6 : w6.cell? ⟨M, q, none⟩ = some (bt Y) := (by rw [b6.cell, List.getElem?_set_self (by rw [bv_length, HLl.out]; exact hq)]); simp only [World.size_alloc, World.size_drew, Act.put, List.setIfInBounds_toArray, List.set_cons_succ, List.set_cons_zero])
              rw [← bv_set] at b6
              go_roundw
              case rel => exact ⟨q, L.set q Y, by omega, rfl, by omega, HJ5.out _ f6, f6.blk b1 (by simp; omega), (World.cell?_of_block (w := wr) (f6.block cb (by omega) (by simp; omega))).trans b2, b6, by rw [List.length_set]; exact HLl.out, HE2⟩
              case measure => simp [intOf]
            · have hne2 : ((Y.toNat : Int) != 0) = true := by simp; omega
              rw [if_neg hy0] at hE2
              obtain ⟨D, hD⟩ : ∃ D, L.set q Y = D := ⟨_, rfl⟩
              have HD := hid (show ctr nn (j + 1) = D by rw [HE.out, hE2, hD])
              have HDl := hid (show D.length = 16 by rw [← hD, List.length_set]; exact HLl.out)
              have HDs := hid hD
              clear hE2 hy0 hD
              go_wp2_with (first
                | (refine wpList_put rfl _ _ _ rfl rfl (bt Y) (by rw [← HYe.out]; rfl) rfl b3 (by rw [bv_length, HLl.out]; exact hq) (by kernel_rfl) ?_; intro w6 f6 b6 hs6; have k6 : w6.cell? ⟨M, q, none⟩ = some (bt Y) := (by rw [b6.cell, List.getElem?_set_self (by rw [bv_length, HLl.out]; exact hq)]); rw [← bv_set, HDs.out] at b6; simp only [World.size_alloc, World.size_drew, Act.put, List.setIfInBounds_toArray, List.set_cons_succ, List.set_cons_zero])
                | (refine wpList_load_ag rfl _ _ rfl rfl (bv D) b6 sqT (bvl HDl.out) (whole (bvl HDl.out)) ?_; simp only [World.size_alloc, World.size_drew, Act.put, List.setIfInBounds_toArray, List.set_cons_succ, List.set_cons_zero])
                | (refine wpList_alloc_any rfl _ rfl _ _ 16 Hi2.out Hz2.out rfl ?_; intro zs w7 hzl hze f7 hlt7 hb7; rw [hze] at hb7; clear hzl hze; simp only [World.size_alloc, World.size_drew, Act.put, List.setIfInBounds_toArray, List.set_cons_succ, List.set_cons_zero])
                | (refine wpList_store_ag rfl _ _ _ rfl rfl (bv D) rfl (show Blk w7 w6.heap.size (bv (List.replicate 16 0)) from hb7) sqT (bvl HDl.out) (by decide) (bv_one _) ?_; intro w8 f8 b8 hs8; rw [splice_all _ _ (by rw [bvl HDl.out]; rfl)] at b8; simp only [World.size_alloc, World.size_drew, Act.put, List.setIfInBounds_toArray, List.set_cons_succ, List.set_cons_zero]))
              have f9 : Fr [] w6 w8 := f7.trans f8 (by simp)
              have e1 := f6.blk b1 (by simp; omega)
              have e2 : w6.cell? ⟨cb, 0, none⟩ = some (.pointer (some ⟨p, 0, none⟩)) := (World.cell?_of_block (w := wr) (f6.block cb (by omega) (by simp; omega))).trans b2
              have e3 : W.heap.size ≤ w6.heap.size := Nat.le_trans hsz f6.size
              go_roundg (N + 1 - 16 * (j + 1))
              case rel => exact ⟨j + 1, w6.heap.size, by omega, rfl, by omega, Nat.le_trans e3 f9.size, HJ.out _ _ _ (HJ5.out _ f6) (f9.below e3 (by simp)), f9.blk e1 (by simp), f9.cell_some e2, by rw [HD.out]; exact b8⟩
              case measure => omega
end Go.Proofs.Ytnkcogaaajkplaa
