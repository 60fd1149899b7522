/- Several texts put together: AesT, AesU, AesV. What each shows stands ahead of it. -/
import Derived.Test.YtneoagelcjfanaaGreatDoorGAes
import Derived.Test.YtneoagelcjfanaaGreatDoorGCore
/- Layer 3, aes: the stream of a nonce, as an iterator. -/
namespace Go.Xr
open Go
set_option linter.unusedVariables false
/-- A number of 16 bytes, the highest first, and 1: from byte i - 1 down. -/
def incF : Nat → List UInt8 → List UInt8
  | 0, l => l
  | i + 1, l => if (g8 l i + c8 1).toNat = 0 then incF i (l.set i (g8 l i + c8 1)) else l.set i (g8 l i + c8 1)
theorem incF_len (i : Nat) (l : List UInt8) : (incF i l).length = l.length := by
  induction i generalizing l with
  | zero => rfl
  | succ i ih =>
    rw [incF]
    split
    · rw [ih, List.length_set]
    · rw [List.length_set]
def ctr (nn : List UInt8) : Nat → List UInt8
  | 0 => nn
  | j + 1 => incF 16 (ctr nn j)
theorem ctr_len (nn : List UInt8) (j : Nat) : (ctr nn j).length = nn.length := by
  induction j with
  | zero => rfl
  | succ j ih => rw [ctr, incF_len, ih]
def strm (T nn : List UInt8) (k : Nat) : UInt8 := g8 (blockS T (ctr nn (k / 16))) (k % 16)
end Go.Xr
namespace Go.Proofs.YtneoagelcjfanaaGreatDoor.aes
open Go Go.Xr Go.RowKit
set_option linter.unusedVariables false
set_option linter.unusedSimpArgs false
attribute [local go_sem] add_u8_c neq_u8_c neg_u8_c

set_option maxRecDepth 20000 in
set_option maxHeartbeats 1000000 in
theorem stream_seq {w : World} {p cb nb : Nat} {T : List UInt8} (s : ByteArray) (hT : T.length = 688) (hs : s.size = 16) (hp : Blk w p (ciph T)) (hcb : w.cell? ⟨cb, 0, none⟩ = some (.pointer (some ⟨p, 0, none⟩))) (hnb : w.cell? ⟨nb, 0, none⟩ = some (.string s)) :
    SeqB Tryz.prog 1 123 #[.pointer (some ⟨cb, 0, none⟩), .pointer (some ⟨nb, 0, none⟩)] (fun k => bt (strm T s.data.toList k)) (fun b => b = p ∨ b = cb) w := by
  intro l S J Jx W N hfr hS hJ hJx hY h0
  have hp1 := hfr.blk hp (by simp)
  have hcb1 := hfr.cell_some hcb
  have hnb1 := hfr.cell_some hnb
  have hsl : s.data.toList.length = 16 := by rw [Array.length_toList]; exact hs
  have hne : ((s.size : Int) != 16) = false := by rw [hs]; rfl
  obtain ⟨i2, hi2, hz2, _⟩ := infS
  have Hi2 := hid hi2
  have Hz2 := hid hz2
  have HT := hid hT
  have Hs := hid hs
  have Hsl := hid hsl
  have HJ := hid hJ
  have HY := hid hY
  have HS := hid hS
  have hpS : p ∉ S := fun h => (hS p h).2 (.inl rfl)
  have hcS : cb ∉ S := fun h => (hS cb h).2 (.inr rfl)
  have HpS := hid hpS
  have HcS := hid hcS
  have hplt := hp1.lt
  have hclt : cb < W.heap.size := by
    unfold World.cell? at hcb1
    rcases Nat.lt_or_ge cb W.heap.size with h | h
    · exact h
    · simp [h] at hcb1
  clear hi2 hz2 hT hs hsl hJ hJx hY hS hpS hcS hfr hp hcb hnb
  show Calls _ _ #[.func (.yield l) #[] #[], .pointer (some ⟨cb, 0, none⟩), .pointer (some ⟨nb, 0, none⟩)] W _
  go_enter Tryz.func123, Tryz.ntmps123
  go_wp2_with (first
    | (go_at_call 111; refine (not_any HT.out hp1).mono ?_; rintro e w' ⟨rfl, rfl⟩)
    | (refine wpList_bytes_of_string rfl 9 67 5 _ rfl s rfl Tryz.underlying9 Tryz.underlying67 Tryz.underlying5 ?_; intro w1 cap f1 hlt1 hb1 hcap; simp only [World.size_alloc, World.size_drew, Act.put, List.setIfInBounds_toArray, List.set_cons_succ, List.set_cons_zero])
    | (refine wpList_arrayAt rfl 175 _ rfl 16 5 Tryz.underlying175 rfl (by rw [Hs.out]; exact Nat.le_refl _) ?_; simp only [World.size_alloc, World.size_drew, Act.put, List.setIfInBounds_toArray, List.set_cons_succ, List.set_cons_zero])
    | (refine wpList_load_ag rfl _ _ rfl rfl (bv s.data.toList) hb1 sqT (bvl Hsl.out) (by rw [List.drop_zero, ← bvl Hsl.out]; exact List.take_left) ?_; simp only [World.size_alloc, World.size_drew, Act.put, List.setIfInBounds_toArray, List.set_cons_succ, List.set_cons_zero])
    | (refine wpList_alloc_any rfl _ rfl _ _ 16 Hi2.out Hz2.out rfl ?_; intro zs w3 hzl hze f3 hlt3 hb3; rw [hze] at hb3; clear hzl hze; simp only [World.size_alloc, World.size_drew, Act.put, List.setIfInBounds_toArray, List.set_cons_succ, List.set_cons_zero])
    | (refine wpList_store_ag rfl _ _ _ rfl rfl (bv s.data.toList) rfl (show Blk w3 w1.heap.size (bv (List.replicate 16 0)) from hb3) sqT (bvl Hsl.out) (by decide) (bv_one _) ?_; intro w4 f4 b4 hs4; rw [splice_all _ _ (by rw [bvl Hsl.out]; rfl)] at b4; simp only [World.size_alloc, World.size_drew, Act.put, List.setIfInBounds_toArray, List.set_cons_succ, List.set_cons_zero]))
  obtain ⟨Nn, hNn⟩ : ∃ Nn, w1.heap.size = Nn := ⟨_, rfl⟩
  rw [hNn] at b4 f4 hlt1 hlt3 ⊢
  have g4 : Fr [] W w4 := (f1.trans' f3).trans f4 (by simp; omega)
  have q1 : J (16 * 0) w4 := HJ.out 0 _ _ h0 (g4.below (Nat.le_refl _) (by simp))
  have q2 := g4.blk hp1 (by simp)
  have q3 := g4.cell_some hcb1
  have q4 : Blk w4 Nn (bv (ctr s.data.toList 0)) := b4
  have q5 : W.heap.size ≤ Nn := by omega
  have q6 : W.heap.size ≤ w4.heap.size := g4.size
  have Hcl := hid fun j => (ctr_len s.data.toList j).trans Hsl.out
  obtain ⟨nn, hnn⟩ : ∃ nn, s.data.toList = nn := ⟨_, rfl⟩
  rw [hnn] at q4 Hcl HY
  have Hnn := hid hnn
  clear hb1 hb3 b4 f1 f3 f4 g4 hNn hlt1 hlt3 hs4 hcap hnb1 hcb1 hp1 h0 hnn
  go_loopg [4] (N + 1) (fun g tv wr => ∃ j Nn, g + 16 * j = N + 1 ∧ tv = .pointer (some ⟨Nn, 0, none⟩) ∧ W.heap.size ≤ Nn ∧ W.heap.size ≤ wr.heap.size ∧ J (16 * j) wr ∧ Blk wr p (ciph T) ∧ wr.cell? ⟨cb, 0, none⟩ = some (.pointer (some ⟨p, 0, none⟩)) ∧ Blk wr Nn (bv (ctr nn j)))
  case atStart => exact ⟨0, Nn, by omega, rfl, q5, q6, q1, q2, q3, q4⟩
  case round =>
    obtain ⟨j, M, hg, rfl, hM, hsz, hJj, b1, b2, b3⟩ := hrel
    obtain ⟨G, rfl⟩ : ∃ G, G = gk := ⟨_, rfl⟩
    clear q1 q2 q3 q4 q5 q6
    obtain ⟨C, hC⟩ : ∃ C, ctr nn j = C := ⟨_, rfl⟩
    have HC := hid hC
    have HCl := hid (show C.length = 16 by rw [← hC]; exact Hcl.out j)
    rw [hC] at b3
    clear hC
    go_wp2_with (first
      | (refine wpList_load_ag rfl _ _ rfl rfl (bv C) b3 sqT (bvl HCl.out) (whole (bvl HCl.out)) ?_; simp only [World.size_alloc, World.size_drew, Act.put, List.setIfInBounds_toArray, List.set_cons_succ, List.set_cons_zero])
      | (go_at_call 124; refine (block_any HT.out HCl.out b1).mono ?_; rintro e w5 ⟨rfl, f5⟩))
    obtain ⟨K, hK⟩ : ∃ K, blockS T C = K := ⟨_, rfl⟩
    have HKl := hid (show K.length = 16 by rw [← hK]; exact blockS_len _ _)
    have HK : Hid (∀ i, i < 16 → strm T nn (16 * j + i) = g8 K i) := hid fun i hi => by
      unfold strm
      rw [show (16 * j + i) / 16 = j by omega, show (16 * j + i) % 16 = i by omega, HC.out, hK]
    rw [hK]
    have r1 : J (16 * j + 0) w5 := HJ.out _ _ _ hJj (f5.below hsz (by simp))
    have r2 := f5.blk b1 (by simp)
    have r3 := f5.cell_some b2
    have r4 := f5.blk b3 (by simp)
    have r5 : W.heap.size ≤ w5.heap.size := Nat.le_trans hsz f5.size
    clear hJj b1 b2 b3 f5 hsz hK
    go_loopw [22] (fun iv wr => ∃ i : Nat, i ≤ 16 ∧ iv = .int .i64 i ∧ (i = 0 ∨ 16 * j + i < N) ∧ W.heap.size ≤ wr.heap.size ∧ J (16 * j + i) wr ∧ Blk wr p (ciph T) ∧ wr.cell? ⟨cb, 0, none⟩ = some (.pointer (some ⟨p, 0, none⟩)) ∧ Blk wr M (bv C)) (fun iv _ => 16 - (intOf iv).toNat)
    case atStart => exact ⟨0, by decide, rfl, .inl rfl, r5, r1, r2, r3, r4⟩
    case round =>
      obtain ⟨i, hi, rfl, hiN, hsz, hJi, b1, b2, b3⟩ := hrel
      clear r1 r2 r3 r4 r5
      by_cases hli : i < 16
      · have hd : decide ((i : Int) < 16) = true := by simp; omega
        obtain ⟨X, hX⟩ : ∃ X, g8 K i = X := ⟨_, rfl⟩
        have hix : ∀ w0 : World, (Instr.index 175 (.agg (bv K).toArray) (.int .i64 (i : Int))).run Tryz.prog w0 = .ok (bt X) w0 := fun w0 => index_agg w0 _ 5 16 _ .i64 i Tryz.underlying175 rfl (by rw [List.size_toArray]; exact bvl HKl.out) (bt X) (by omega) (by omega) (by rw [Int.toNat_natCast, bv_getElem?, g8_eq K i (by rw [HKl.out]; exact hli), hX]; rfl) rfl
        obtain ⟨fn, tmps, assign, body, hy, hR⟩ := HY.out (16 * j + i) wr hJi
        rw [HK.out i hli, hX] at hy
        clear hX
        refine (wpIn_wide (n := 2)).1 ?_
        gi_wp2
        refine hR.mono ?_
        rintro e W2 (⟨rfl, hJ2, hf2, hN2⟩ | ⟨rfl, hJ2⟩)
        · have c1 := hf2.blk b1 HpS.out
          have c2 : W2.cell? ⟨cb, 0, none⟩ = some (.pointer (some ⟨p, 0, none⟩)) := (World.cell?_of_block (w := wr) (hf2.block cb (by omega) HcS.out)).trans b2
          have c3 := hf2.blk b3 (fun h => by have := (HS.out M h).1; omega)
          have c4 : W.heap.size ≤ W2.heap.size := Nat.le_trans hsz hf2.size
          clear hy hR hix hJi b1 b2 b3 hf2
          gi_wp2
          go_roundw
          case rel => exact ⟨i + 1, by omega, by go_num, .inr hN2, c4, hJ2, c1, c2, c3⟩
          case measure => simp [intOf]; omega
        · gi_wp2
          refine bodyPost_ret (results_none rfl _ _ _) rfl ?_
          exact ⟨⟨_, rfl⟩, _, hJ2⟩
      · have hd : decide ((i : Int) < 16) = false := by simp; omega
        have ei : i = 16 := by omega
        have hNj : 16 * j + 16 < N := by omega
        have hJ3 : J (16 * (j + 1)) wr := by rw [show 16 * (j + 1) = 16 * j + i by omega]; exact hJi
        have HE : Hid (ctr nn (j + 1) = incF 16 C) := hid (by rw [ctr, HC.out])
        clear ei hli hi hiN hJi
        go_wp2_with fail
        clear hd
        go_loopw [7] (fun iv wr => ∃ (r : Nat) (L : List UInt8), r ≤ 16 ∧ iv = .int .i64 ((r : Int) - 1) ∧ W.heap.size ≤ wr.heap.size ∧ J (16 * (j + 1)) wr ∧ Blk wr p (ciph T) ∧ wr.cell? ⟨cb, 0, none⟩ = some (.pointer (some ⟨p, 0, none⟩)) ∧ Blk wr M (bv L) ∧ L.length = 16 ∧ Hid (incF 16 C = incF r L)) (fun iv _ => (intOf iv + 1).toNat)
        case atStart => exact ⟨16, C, by decide, rfl, hsz, hJ3, b1, b2, b3, HCl.out, hid rfl⟩
        case round =>
          obtain ⟨r, L, hr, rfl, hsz, hJ4, b1, b2, b3, hLl, hE⟩ := hrel
          cases r with
          | zero =>
            have HD := hid (show ctr nn (j + 1) = L by rw [HE.out, hE.out]; rfl)
            obtain ⟨D, rfl⟩ : ∃ D, D = L := ⟨_, rfl⟩
            have HDl := hid hLl
            clear hE hLl hr
            go_wp2_with (first
              | (refine wpList_load_ag rfl _ _ rfl rfl (bv D) b3 sqT (bvl HDl.out) (whole (bvl HDl.out)) ?_; simp only [World.size_alloc, World.size_drew, Act.put, List.setIfInBounds_toArray, List.set_cons_succ, List.set_cons_zero])
              | (refine wpList_alloc_any rfl _ rfl _ _ 16 Hi2.out Hz2.out rfl ?_; intro zs w7 hzl hze f7 hlt7 hb7; rw [hze] at hb7; clear hzl hze; simp only [World.size_alloc, World.size_drew, Act.put, List.setIfInBounds_toArray, List.set_cons_succ, List.set_cons_zero])
              | (refine wpList_store_ag rfl _ _ _ rfl rfl (bv D) rfl (show Blk w7 wr.heap.size (bv (List.replicate 16 0)) from hb7) sqT (bvl HDl.out) (by decide) (bv_one _) ?_; intro w8 f8 b8 hs8; rw [splice_all _ _ (by rw [bvl HDl.out]; rfl)] at b8; simp only [World.size_alloc, World.size_drew, Act.put, List.setIfInBounds_toArray, List.set_cons_succ, List.set_cons_zero]))
            have f9 : Fr [] wr w8 := f7.trans f8 (by simp)
            go_roundg (N + 1 - 16 * (j + 1))
            case rel => exact ⟨j + 1, wr.heap.size, by omega, rfl, by omega, Nat.le_trans hsz f9.size, HJ.out _ _ _ hJ4 (f9.below (by omega) (by simp)), f9.blk b1 (by simp), f9.cell_some b2, by rw [HD.out]; exact b8⟩
            case measure => omega
          | succ q =>
            rw [show (((q + 1 : Nat) : Int) - 1) = (q : Int) by omega]
            obtain ⟨X, hX⟩ : ∃ X, g8 L q = X := ⟨_, rfl⟩
            obtain ⟨Y, hY⟩ : ∃ Y, X + c8 1 = Y := ⟨_, rfl⟩
            have k1 : wr.cell? ⟨M, q, none⟩ = some (bt X) := by rw [b3.cell, bv_getElem?, g8_eq L q (by omega), hX]; rfl
            have hq : q < 16 := by omega
            have HLl := hid hLl
            have hE2 : incF 16 C = if Y.toNat = 0 then incF q (L.set q Y) else L.set q Y := by
              have h := hE.out
              generalize incF 16 C = Z at h ⊢
              rw [incF, hX, hY] at h
              exact h
            have HYe := hid hY
            have hJ5 : ∀ w6, Fr [M] wr w6 → J (16 * (j + 1)) w6 := fun w6 f6 => HJ.out _ _ _ hJ4 (f6.below hsz (by simp; omega))
            have HJ5 := hid hJ5
            have hMp : p ≠ M := by omega
            have hMc : cb ≠ M := by omega
            clear hX hY hLl hJ5 hE
            by_cases hy0 : Y.toNat = 0
            · have hne2 : ((Y.toNat : Int) != 0) = false := by rw [hy0]; rfl
              rw [if_pos hy0] at hE2
              have HE2 := hid hE2
              clear hE2 hy0
              go_wp2_with (refine wpList_put rfl _ _ _ rfl rfl (bt Y) (by rw [← HYe.out]; rfl) rfl b3 (by rw [bv_length, HLl.out]; exact hq) (by kernel_rfl) ?_; intro w6 f6 b6 hs6; have k6 : w6.cell? ⟨M, q, none⟩ = some (bt Y) := (by rw [b6.cell, List.getElem?_set_self (by rw [bv_length, HLl.out]; exact hq)]); simp only [World.size_alloc, World.size_drew, Act.put, List.setIfInBounds_toArray, List.set_cons_succ, List.set_cons_zero])
              rw [← bv_set] at b6
              go_roundw
              case rel => exact ⟨q, L.set q Y, by omega, rfl, by omega, HJ5.out _ f6, f6.blk b1 (by simp; omega), (World.cell?_of_block (w := wr) (f6.block cb (by omega) (by simp; omega))).trans b2, b6, by rw [List.length_set]; exact HLl.out, HE2⟩
              case measure => simp [intOf]
            · have hne2 : ((Y.toNat : Int) != 0) = true := by simp; omega
              rw [if_neg hy0] at hE2
              obtain ⟨D, hD⟩ : ∃ D, L.set q Y = D := ⟨_, rfl⟩
              have HD := hid (show ctr nn (j + 1) = D by rw [HE.out, hE2, hD])
              have HDl := hid (show D.length = 16 by rw [← hD, List.length_set]; exact HLl.out)
              have HDs := hid hD
              clear hE2 hy0 hD
              go_wp2_with (first
                | (refine wpList_put rfl _ _ _ rfl rfl (bt Y) (by rw [← HYe.out]; rfl) rfl b3 (by rw [bv_length, HLl.out]; exact hq) (by kernel_rfl) ?_; intro w6 f6 b6 hs6; have k6 : w6.cell? ⟨M, q, none⟩ = some (bt Y) := (by rw [b6.cell, List.getElem?_set_self (by rw [bv_length, HLl.out]; exact hq)]); rw [← bv_set, HDs.out] at b6; simp only [World.size_alloc, World.size_drew, Act.put, List.setIfInBounds_toArray, List.set_cons_succ, List.set_cons_zero])
                | (refine wpList_load_ag rfl _ _ rfl rfl (bv D) b6 sqT (bvl HDl.out) (whole (bvl HDl.out)) ?_; simp only [World.size_alloc, World.size_drew, Act.put, List.setIfInBounds_toArray, List.set_cons_succ, List.set_cons_zero])
                | (refine wpList_alloc_any rfl _ rfl _ _ 16 Hi2.out Hz2.out rfl ?_; intro zs w7 hzl hze f7 hlt7 hb7; rw [hze] at hb7; clear hzl hze; simp only [World.size_alloc, World.size_drew, Act.put, List.setIfInBounds_toArray, List.set_cons_succ, List.set_cons_zero])
                | (refine wpList_store_ag rfl _ _ _ rfl rfl (bv D) rfl (show Blk w7 w6.heap.size (bv (List.replicate 16 0)) from hb7) sqT (bvl HDl.out) (by decide) (bv_one _) ?_; intro w8 f8 b8 hs8; rw [splice_all _ _ (by rw [bvl HDl.out]; rfl)] at b8; simp only [World.size_alloc, World.size_drew, Act.put, List.setIfInBounds_toArray, List.set_cons_succ, List.set_cons_zero]))
              have f9 : Fr [] w6 w8 := f7.trans f8 (by simp)
              have e1 := f6.blk b1 (by simp; omega)
              have e2 : w6.cell? ⟨cb, 0, none⟩ = some (.pointer (some ⟨p, 0, none⟩)) := (World.cell?_of_block (w := wr) (f6.block cb (by omega) (by simp; omega))).trans b2
              have e3 : W.heap.size ≤ w6.heap.size := Nat.le_trans hsz f6.size
              go_roundg (N + 1 - 16 * (j + 1))
              case rel => exact ⟨j + 1, w6.heap.size, by omega, rfl, by omega, Nat.le_trans e3 f9.size, HJ.out _ _ _ (HJ5.out _ f6) (f9.below e3 (by simp)), f9.blk e1 (by simp), f9.cell_some e2, by rw [HD.out]; exact b8⟩
              case measure => omega
end Go.Proofs.YtneoagelcjfanaaGreatDoor.aes

/- Layer 3, aes: a text turned. -/
namespace Go.Xr
open Go Go.RowKit
set_option linter.unusedVariables false
set_option linter.unusedSimpArgs false
def turnL (T nn l : List UInt8) : List UInt8 := (List.range l.length).map fun i => g8 l i ^^^ strm T nn i
theorem turnL_len (T nn l : List UInt8) : (turnL T nn l).length = l.length := by simp [turnL]
theorem turnL_get (T nn l : List UInt8) (i : Nat) (hi : i < l.length) : g8 (turnL T nn l) i = g8 l i ^^^ strm T nn i := by simp [turnL, g8, List.getD, hi]
/-- The first k bytes turned. -/
def turnI (T nn l : List UInt8) (k : Nat) : List UInt8 := (turnL T nn l).take k ++ l.drop k
theorem turnI_len (T nn l : List UInt8) (k : Nat) (hk : k ≤ l.length) : (turnI T nn l k).length = l.length := by
  simp only [turnI, List.length_append, List.length_take, List.length_drop, turnL_len]
  omega
theorem turnI_zero (T nn l : List UInt8) : turnI T nn l 0 = l := by simp [turnI]
theorem turnI_all (T nn l : List UInt8) : turnI T nn l l.length = turnL T nn l := by
  unfold turnI
  rw [List.take_of_length_le (by rw [turnL_len]; exact Nat.le_refl _), List.drop_eq_nil_of_le (Nat.le_refl _), List.append_nil]
theorem turnI_get (T nn l : List UInt8) (k : Nat) (hk : k < l.length) : (turnI T nn l k)[k]? = some (g8 l k) := by
  have h : ((turnL T nn l).take k).length = k := by rw [List.length_take, turnL_len]; omega
  unfold turnI
  rw [List.getElem?_append_right (by omega), h, Nat.sub_self, List.getElem?_drop, Nat.add_zero, g8_eq l k hk]
theorem turnI_set (T nn l : List UInt8) (k : Nat) (hk : k < l.length) : (turnI T nn l k).set k (g8 l k ^^^ strm T nn k) = turnI T nn l (k + 1) := by
  have h : ((turnL T nn l).take k).length = k := by rw [List.length_take, turnL_len]; omega
  have e : (turnL T nn l)[k]'(by rw [turnL_len]; exact hk) = g8 l k ^^^ strm T nn k := by simp [turnL]
  unfold turnI
  rw [List.set_append_right _ _ (by omega), h, Nat.sub_self, List.drop_eq_getElem_cons hk, List.set_cons_zero, List.take_succ_eq_append_getElem (by rw [turnL_len]; exact hk), List.append_assoc, e]
  rfl
theorem below_blk {A B : World} {N b : Nat} {cs : List Value} (h : Below N A B) (hb : Blk A b cs) (hlt : b < N) : Blk B b cs := hb.same (h.block b hlt)
theorem below_fr {w A B : World} {N : Nat} (f : Fr [] w A) (h : Below N A B) (hN : w.heap.size ≤ N) : Fr [] w B :=
  ⟨h.os.trans f.os, h.tape.trans f.tape, h.output.trans f.output, Nat.le_trans f.size h.size, fun k hk hn => (h.block k (by omega)).trans (f.block k hk hn), fun k hk => (f.plain k hk).same (h.block k (by have := hk.lt; omega))⟩
/-- A cell of a block is written, within a fence. -/
theorem wpListIn_put {F : Fence} {m : Nat} {P : Program} {ops : Array Oper} {Q : Exit → Act → World → Prop} {a : Act} {w : World} {rest : List Oper} {o : Oper} (hg : o.guard = none) (ty : TypeId) (x y : Operand) (ho : o.op = .store ty x y) {b off : Nat} (hx : a.eval x = .pointer (some ⟨b, off, none⟩)) (v : Value) (hy : a.eval y = v) (h1 : v.oneCell' = true) {cs : List Value} (hb : Blk w b cs) (hoff : off < cs.length)
    (hs : (P.info? ty).map (·.size) = some 1) (h : ∀ w', Fr [b] w w' → Blk w' b (cs.set off v) → w'.heap.size = w.heap.size → wpListIn F m P ops Q rest (a.put o.dst undef) w') : wpListIn F m P ops Q (o :: rest) a w := by
  refine wpListIn_plain hg fun K hK => ?_
  cases hq : P.info? ty with
  | none => simp [hq] at hs
  | some i =>
    have hs1 : i.size = 1 := by simpa [hq] using hs
    have hvc : v.cells = #[v] := by cases v <;> simp_all [Value.cells, Value.oneCell']
    have hst := store_one (P := P) w b off v h1 (by rw [hb.cell]; simp; exact hoff) (hb.free off hoff)
    have hr : (storeVar ty ⟨b, off, none⟩ v).run P w = .ok () (w.setCell ⟨b, off, none⟩ v) := by simp [storeVar, sizeOf, typeInfo, hq, hs1, hvc, hst]
    unfold Oper.wpIn
    refine ⟨?_, ?_⟩
    · simp [Oper.about, ho]
    · rw [Oper.semAt_plain F _ _ (by rw [ho]; intro c hc'; cases hc')]
      unfold execOp
      simp only [ho, hx, hy, Instr.storeAt, Instr.sureAddr, Sem.run_bind, Sem.run_pure, Result.andThen_ok, hr]
      exact hK _ _ (h _ ((Fr.refl [b] w).setCell (.inl (by simp)) v) (hb.set off v) (by simp))
/-- Between two rounds: k bytes are turned. -/
def TI (w : World) (Bd Bb Bi : Nat) (n : Nat) (v : Value) (T nn L : List UInt8) (k : Nat) (W : World) : Prop :=
  k ≤ n ∧ Blk W Bb [v] ∧ Blk W Bi [.int .i64 k] ∧ (∃ cs, Blk W Bd cs ∧ cs.take n = bv (turnI T nn L k) ∧ n ≤ cs.length) ∧ Fr [] w W
theorem TI.keep {w A B : World} {Bd Bb Bi n k N : Nat} {v : Value} {T nn L : List UInt8} (h : TI w Bd Bb Bi n v T nn L k A) (hb : Below N A B) (h1 : Bd < N) (h2 : Bb < N) (h3 : Bi < N) (h4 : w.heap.size ≤ N) : TI w Bd Bb Bi n v T nn L k B := by
  obtain ⟨a, b, c, ⟨cs, d, e, f⟩, g⟩ := h
  exact ⟨a, below_blk hb b h2, below_blk hb c h3, ⟨cs, below_blk hb d h1, e, f⟩, below_fr g hb h4⟩
end Go.Xr
namespace Go.Proofs.YtneoagelcjfanaaGreatDoor.aes
open Go Go.Xr Go.RowKit
set_option linter.unusedVariables false
set_option linter.unusedSimpArgs false
attribute [local go_sem] xor_u8 Oper.semAt_some

theorem stream_any {w : World} {p : Nat} (s : ByteArray) :
    Calls Tryz.prog 112 #[.pointer (some ⟨p, 0, none⟩), .string s] w fun e w' => ∃ cb nb, e = .returned (.func (.func 123) #[] #[.pointer (some ⟨cb, 0, none⟩), .pointer (some ⟨nb, 0, none⟩)]) ∧
      w'.cell? ⟨cb, 0, none⟩ = some (.pointer (some ⟨p, 0, none⟩)) ∧ w'.cell? ⟨nb, 0, none⟩ = some (.string s) ∧ w.heap.size ≤ cb ∧ cb < w'.heap.size ∧ Fr [] w w' := by
  go_enter Tryz.func112, Tryz.ntmps112
  go_wp2_with fail
  go_ret
  have b1 := Blk.alloc w [Value.pointer (some ⟨p, 0, none⟩)] 147
  have b2 := Blk.alloc (w.alloc (.cells [Value.pointer (some ⟨p, 0, none⟩)].toArray 147)) [Value.string s] 9
  have b1' := b1.old (.cells [Value.string s].toArray 9)
  have e2 := b2.cell 0
  rw [World.size_alloc] at e2
  exact ⟨w.heap.size, w.heap.size + 1, rfl, b1'.cell 0, e2, Nat.le_refl _, by simp; omega, ((Fr.refl [] w).alloc _).alloc _⟩
theorem turn_bad {w : World} {p : Nat} {T : List UInt8} (n s : ByteArray) (hT : T.length = 688) (hn : n.size ≠ 16) (hn2 : n.size ≤ 9223372036854775807) (hp : Blk w p (ciph T)) :
    Calls Tryz.prog 93 #[.pointer (some ⟨p, 0, none⟩), .string n, .string s] w fun e w' => e = .returned (.tuple #[.string ⟨#[]⟩, .int .i64 2]) ∧ w = w' := by
  have HT := hid hT
  have hne : ((n.size : Int) != 16) = true := by simp; omega
  clear hT hn
  go_enter Tryz.func93, Tryz.ntmps93
  go_wp2_with (go_at_call 111; refine (not_any HT.out hp).mono ?_; rintro e w' ⟨rfl, rfl⟩)
  go_ret2
  exact ⟨rfl, rfl⟩

set_option maxRecDepth 20000 in
set_option maxHeartbeats 1000000 in
theorem turn_any {w : World} {p : Nat} {T : List UInt8} (n s : ByteArray) (hT : T.length = 688) (hn : n.size = 16) (hs : s.size ≤ 140737488355328) (hp : Blk w p (ciph T)) :
    Calls Tryz.prog 93 #[.pointer (some ⟨p, 0, none⟩), .string n, .string s] w fun e w' => e = .returned (.tuple #[.string ⟨(turnL T n.data.toList s.data.toList).toArray⟩, .int .i64 0]) ∧ Fr [] w w' := by
  have HT := hid hT
  have hne : ((n.size : Int) != 16) = false := by rw [hn]; rfl
  have Hn := hid hn
  have Hmx := hid (show s.size ≤ maxLen by unfold maxLen; omega)
  obtain ⟨L, hL⟩ : ∃ L, s.data.toList = L := ⟨_, rfl⟩
  have HL := hid hL
  have HLl := hid (show L.length = s.size by rw [← hL]; exact Array.length_toList)
  have hplt := hp.lt
  clear hT hn hL
  refine callsIn_wide.1 (callsIn_of_wp_marks (n := 3) Tryz.func93 rfl trivial ?_ rfl)
  refine wpIn_wide.2 ?_
  simp only [Tryz.ntmps93, List.size_toArray, List.length_cons, List.length_nil, Nat.reduceAdd, Nat.reduceSub, Array.replicate_succ, Array.replicate_zero, List.push_toArray, List.append_toArray, List.nil_append, List.cons_append]
  go_wp2_with (first
    | (go_at_call 111; refine (not_any HT.out hp).mono ?_; rintro e w' ⟨rfl, rfl⟩)
    | (refine wpList_bytes_own rfl 9 67 5 _ rfl s rfl Hmx.out Tryz.underlying9 Tryz.underlying67 Tryz.underlying5 ?_; intro w1 c1 f1 hlt1 ho1; rw [HL.out] at ho1; simp only [World.size_alloc, World.size_drew, Act.put, List.setIfInBounds_toArray, List.set_cons_succ, List.set_cons_zero])
    | (go_at_call 112; refine (stream_any n).mono ?_; rintro e w3 ⟨cb, nb, rfl, hcb, hnb, hcb1, hcb2, f3⟩))
  have bb := (Blk.alloc w1 [Value.slice (some ⟨w.heap.size, 0, none⟩) s.size c1] 67).old (.cells [Value.int .i64 0].toArray 3)
  have bi := Blk.alloc (w1.alloc (.cells [Value.slice (some ⟨w.heap.size, 0, none⟩) s.size c1].toArray 67)) [Value.int .i64 0] 3
  rw [World.size_alloc] at bi
  have fa : Fr [] w1 ((w1.alloc (.cells [Value.slice (some ⟨w.heap.size, 0, none⟩) s.size c1].toArray 67)).alloc (.cells [Value.int .i64 0].toArray 3)) := ((Fr.refl [] w1).alloc _).alloc _
  have bb3 := f3.blk bb (by simp)
  have bi3 := f3.blk bi (by simp)
  have f13 : Fr [] w1 w3 := fa.trans' f3
  have ho3 := ho1.keep f13 (by simp)
  have hp3 : Blk w3 p (ciph T) := f13.blk (f1.blk hp (by simp)) (by simp)
  have g3 : Fr [] w w3 := f1.trans' f13
  have hsz3 : w1.heap.size + 1 < w3.heap.size := bi3.lt
  have hcb4 : w1.heap.size + 2 ≤ cb := by simp at hcb1; omega
  obtain ⟨Bb, hBb⟩ : ∃ Bb, w1.heap.size = Bb := ⟨_, rfl⟩
  obtain ⟨Bd, hBd⟩ : ∃ Bd, w.heap.size = Bd := ⟨_, rfl⟩
  rw [hBb] at bb3 bi3 hsz3 hcb4 hlt1 ⊢
  rw [hBd] at bb3 ho3 hlt1 hplt ⊢
  clear fa f3 bb bi f13 hcb1 f1
  have hd3 : ∃ cs, Blk w3 Bd cs ∧ cs.take s.size = bv L ∧ s.size ≤ cs.length := by
    obtain ⟨cs, h1, h2, h3, _⟩ := ho3.blkOf
    exact ⟨cs, h1, h3, h2⟩
  have hz0 : w.heap.size ≤ w3.heap.size := g3.size
  have hI0 : TI w Bd Bb (Bb + 1) s.size (.slice (some ⟨Bd, 0, none⟩) s.size c1) T n.data.toList L 0 w3 := by
    refine ⟨Nat.zero_le _, bb3, bi3, ?_, g3⟩
    rw [turnI_zero]
    exact hd3
  have hseq := stream_seq (w := w3) (p := p) (cb := cb) (nb := nb) n HT.out Hn.out hp3 hcb hnb
  refine wpIn_wide.1 (wpIn_rangeFunc_B (n := 3) (gf := 123) rfl (enters_of Tryz.func123 (by kernel_rfl) rfl) hseq rfl [Bd, Bb + 1] ?hS ?hKeep (s.size + 2)
    (TI w Bd Bb (Bb + 1) s.size (.slice (some ⟨Bd, 0, none⟩) s.size c1) T n.data.toList L)
    (fun c k W => c = .exit 1 ∧ TI w Bd Bb (Bb + 1) s.size (.slice (some ⟨Bd, 0, none⟩) s.size c1) T n.data.toList L s.size W)
    (fun k A B h hb => h.keep hb (by omega) (by omega) (by omega) hz0) (fun c k A B h hb => ⟨h.1, h.2.keep hb (by omega) (by omega) (by omega) hz0⟩) hI0
    (fun v => { tmps := #[.pointer (some ⟨p, 0, none⟩), .string n, .string s, undef, undef, undef, .string ⟨#[]⟩, .int .i64 0, .pointer (some ⟨Bb, 0, none⟩), .pointer (some ⟨Bb + 1, 0, none⟩), v, .bool false, .pointer (some ⟨p, 0, none⟩), .bool false, .bool false, .string n, .int .i64 n.size, .bool false, .string s, .slice (some ⟨Bd, 0, none⟩) s.size c1, .pointer (some ⟨p, 0, none⟩), .string n, .func (.func 123) #[] #[.pointer (some ⟨cb, 0, none⟩), .pointer (some ⟨nb, 0, none⟩)], v, undef, undef, undef, undef, undef, undef, undef, undef, undef, undef, undef, undef, undef, undef, undef], defers := [] }) ?assign ?body ?stop)
  case hS =>
    intro b hb
    simp only [List.mem_cons, List.not_mem_nil, or_false] at hb
    rcases hb with rfl | rfl
    · exact ⟨by omega, by rintro (h | h) <;> omega⟩
    · exact ⟨by omega, by rintro (h | h) <;> omega⟩
  case hKeep =>
    rintro b (rfl | rfl)
    · omega
    · exact hcb2
  case assign =>
    intro l k W K hK
    gi_wp2
    exact hK
  case body =>
    intro l k W hl hI
    dsimp only
    obtain ⟨hk, b1, b2, ⟨cs, b3, hcs, hcl⟩, f⟩ := hI
    have kb : W.cell? ⟨Bb, 0, none⟩ = some (.slice (some ⟨Bd, 0, none⟩) s.size c1) := b1.cell 0
    have ki : W.cell? ⟨Bb + 1, 0, none⟩ = some (.int .i64 k) := b2.cell 0
    by_cases hkn : k < s.size
    · have hd : ((k : Int) == (s.size : Int)) = false := by rw [beq_eq_false_iff_ne]; omega
      have hkL : k < L.length := by rw [HLl.out]; exact hkn
      have kd : W.cell? ⟨Bd, k, none⟩ = some (bt (g8 L k)) := by
        rw [b3.cell]
        have : (cs.take s.size)[k]? = (bv (turnI T n.data.toList L k))[k]? := by rw [hcs]
        rw [List.getElem?_take, if_pos hkn, bv_getElem?, turnI_get _ _ _ _ hkL] at this
        exact this
      obtain ⟨X, hX⟩ : ∃ X, g8 L k = X := ⟨_, rfl⟩
      obtain ⟨Y, hY⟩ : ∃ Y, strm T n.data.toList k = Y := ⟨_, rfl⟩
      rw [hX] at kd
      rw [hY]
      have Hset := hid (show (cs.set k (bt (X ^^^ Y))).take s.size = bv (turnI T n.data.toList L (k + 1)) by
        rw [List.take_set, hcs, ← bv_set, ← hX, ← hY, turnI_set _ _ _ _ hkL])
      have hkm : (k : Int) < 140737488355328 := by omega
      have hne1 : Bb + 1 ≠ Bd := by omega
      have hne2 : Bb ≠ Bd := by omega
      clear hX hY hcs
      gi_wp2_with (first
        | (refine wpListIn_put rfl _ _ _ rfl rfl (bt (X ^^^ Y)) rfl rfl b3 (by omega) (by kernel_rfl) ?_; intro w6 f6 b6 hs6; have ki6 : w6.cell? ⟨Bb + 1, 0, none⟩ = some (.int .i64 k) := ((f6.blk b2 (by simp; omega)).cell 0); have b26 := f6.blk b2 (by simp; omega); simp only [World.size_alloc, World.size_drew, Act.put, List.setIfInBounds_toArray, List.set_cons_succ, List.set_cons_zero])
        | (refine wpListIn_put rfl _ _ _ rfl rfl (.int .i64 (k + 1)) rfl rfl b26 (by simp) (by kernel_rfl) ?_; intro w7 f7 b7 hs7; simp only [World.size_alloc, World.size_drew, Act.put, List.setIfInBounds_toArray, List.set_cons_succ, List.set_cons_zero]))
      have hb7 : Blk w7 (Bb + 1) [.int .i64 ((k + 1 : Nat) : Int)] := b7
      exact ⟨(f6.mono (T := [Bd, Bb + 1]) (by simp)).trans' (f7.mono (by simp)), ⟨by omega, f7.blk (f6.blk b1 (by simp; omega)) (by simp), hb7, ⟨_, f7.blk b6 (by simp; omega), Hset.out, by rw [List.length_set]; exact hcl⟩, (f.trans f6 (by simp; omega)).trans f7 (by simp; omega)⟩, by omega⟩
    · have ek : k = s.size := by omega
      have hd : ((k : Int) == (s.size : Int)) = true := by rw [ek]; exact beq_self_eq_true _
      have hIe : TI w Bd Bb (Bb + 1) s.size (.slice (some ⟨Bd, 0, none⟩) s.size c1) T n.data.toList L s.size W := by
        rw [ek] at b2 hcs
        exact ⟨Nat.le_refl _, b1, b2, ⟨cs, b3, hcs, hcl⟩, f⟩
      have HIe := hid hIe
      clear ek hkn hIe
      gi_wp2
      exact ⟨Fr.refl _ _, rfl, HIe.out⟩
  case stop =>
    rintro D c k W hD ⟨rfl, hI⟩ hK
    obtain ⟨hk, b1, b2, ⟨cs, b3, hcs, hcl⟩, f⟩ := hI
    have kb : W.cell? ⟨Bb, 0, none⟩ = some (.slice (some ⟨Bd, 0, none⟩) s.size c1) := b1.cell 0
    have Hall := hid (show turnI T n.data.toList L s.size = turnL T n.data.toList L by rw [← HLl.out]; exact turnI_all _ _ _)
    have Htl := hid (show (turnL T n.data.toList L).length = s.size by rw [turnL_len, HLl.out])
    rw [Hall.out] at hcs
    have Hcs := hid hcs
    have HD := hid hK
    clear hcs hK
    refine wpIn_wide.2 ?_
    go_wp2_with (refine wpList_string_of_bytes rfl 67 9 5 _ rfl s.size _ rfl b3 (turnL T n.data.toList L) Htl.out (by rw [List.drop_zero, Htl.out]; exact Hcs.out) Tryz.underlying67 Tryz.underlying5 Tryz.underlying9 ?_; simp only [World.size_alloc, World.size_drew, Act.put, List.setIfInBounds_toArray, List.set_cons_succ, List.set_cons_zero])
    refine ⟨by simp, .inl ⟨_, _, rfl, run_takeDeferred HD.out, ?_⟩⟩
    refine ⟨_, results_tmp2 rfl _ _ _, ?_, ?_⟩
    · rw [HL.out]
      rfl
    · exact f.trans (fr_putObj W D _ (pln_def HD.out)) (by simp; omega)
end Go.Proofs.YtneoagelcjfanaaGreatDoor.aes

/- Layer 3, the document's aes: the stream of a nonce, in plain words. -/
namespace Go.Xr
open Go
set_option linter.unusedVariables false
/-- The first n bytes of the stream. -/
def strL (T nn : List UInt8) (n : Nat) : List UInt8 := (List.range n).map (strm T nn)
theorem strL_len (T nn : List UInt8) (n : Nat) : (strL T nn n).length = n := by simp [strL]
theorem strL_get (T nn : List UInt8) (n i : Nat) (hi : i < n) : g8 (strL T nn n) i = strm T nn i := by simp [strL, g8, List.getD, hi]
theorem strL_take (T nn : List UInt8) (n m : Nat) (h : n ≤ m) : (strL T nn m).take n = strL T nn n := by
  apply List.ext_getElem?
  intro i
  rw [List.getElem?_take]
  by_cases hi : i < n
  · rw [if_pos hi, g8_eq _ i (by rw [strL_len]; omega), g8_eq _ i (by rw [strL_len]; exact hi), strL_get _ _ _ _ (by omega), strL_get _ _ _ _ hi]
  · rw [if_neg hi, List.getElem?_eq_none (by rw [strL_len]; omega)]
theorem strL_block (T nn : List UInt8) (j : Nat) : strL T nn (16 * (j + 1)) = strL T nn (16 * j) ++ blockS T (ctr nn j) := by
  apply List.ext_getElem?
  intro i
  by_cases hi : i < 16 * j
  · rw [List.getElem?_append_left (by rw [strL_len]; exact hi), g8_eq _ i (by rw [strL_len]; omega), g8_eq _ i (by rw [strL_len]; exact hi), strL_get _ _ _ _ (by omega), strL_get _ _ _ _ hi]
  · rw [List.getElem?_append_right (by rw [strL_len]; omega), strL_len]
    by_cases h2 : i < 16 * (j + 1)
    · rw [g8_eq _ i (by rw [strL_len]; exact h2), strL_get _ _ _ _ h2, g8_eq _ (i - 16 * j) (by rw [blockS_len]; omega)]
      unfold strm
      rw [show i / 16 = j by omega, show i % 16 = i - 16 * j by omega]
    · rw [List.getElem?_eq_none (by rw [strL_len]; omega), List.getElem?_eq_none (by rw [blockS_len]; omega)]
theorem turnL_str (T nn l : List UInt8) (i : Nat) (hi : i < l.length) : g8 (turnL T nn l) i = g8 l i ^^^ g8 (strL T nn l.length) i := by
  rw [turnL_get _ _ _ _ hi, strL_get _ _ _ _ hi]
end Go.Xr
