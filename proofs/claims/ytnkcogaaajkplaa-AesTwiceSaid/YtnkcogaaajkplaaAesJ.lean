/- Layer 3, aes: the round keys and a new cipher. -/
import Derived.Test.YtnkcogaaajkplaaAesK
import Derived.Test.YtnkcogaaajkplaaCopy
import Derived.Test.YtnkcogaaajkplaaAesH
import Derived.Deep.LoopGhost
namespace Go.Xr
open Go
set_option linter.unusedVariables false
def pwr : Nat → UInt8
  | 0 => 1
  | r + 1 => tw (pwr r)
/-- Byte n of the round keys, off those before. -/
def kv (sub : List UInt8) (n : Nat) (A : List UInt8) : UInt8 :=
  if n % 16 = 0 then g8 A (n - 16) ^^^ g8 sub (g8 A (n - 3)).toNat ^^^ pwr (n / 16 - 1)
  else if n % 16 < 4 then g8 A (n - 16) ^^^ g8 sub (g8 A (n / 16 * 16 - 16 + (12 + (n % 16 + 1) % 4))).toNat
  else g8 A (n - 16) ^^^ g8 A (n - 4)
def KS (sub key : List UInt8) : Nat → List UInt8
  | 0 => key
  | m + 1 => KS sub key m ++ [kv sub (16 + m) (KS sub key m)]
theorem KS_len (sub key : List UInt8) (hk : key.length = 16) (m : Nat) : (KS sub key m).length = 16 + m := by
  induction m with
  | zero => exact hk
  | succ m ih => rw [KS, List.length_append, ih]; rfl
theorem KS_pre (sub key : List UInt8) (hk : key.length = 16) (m j : Nat) (hj : j < 16 + m) (d : Nat) : g8 (KS sub key (m + d)) j = g8 (KS sub key m) j := by
  induction d with
  | zero => rfl
  | succ d ih =>
    rw [← ih, ← Nat.add_assoc, KS]
    unfold g8
    rw [List.getD_eq_getElem?_getD, List.getD_eq_getElem?_getD, List.getElem?_append_left (by rw [KS_len _ _ hk]; omega)]
theorem kv0 (sub : List UInt8) (r : Nat) (hr : 1 ≤ r) (A : List UInt8) : kv sub (16 * r) A = g8 A (16 * (r - 1) + 0) ^^^ g8 sub (g8 A (16 * (r - 1) + 13)).toNat ^^^ pwr (r - 1) := by
  unfold kv
  rw [if_pos (by omega), show 16 * r - 16 = 16 * (r - 1) + 0 by omega, show 16 * r - 3 = 16 * (r - 1) + 13 by omega, show 16 * r / 16 - 1 = r - 1 by omega]
theorem kv1 (sub : List UInt8) (r i : Nat) (hr : 1 ≤ r) (hi : 0 < i) (hi4 : i < 4) (A : List UInt8) : kv sub (16 * r + i) A = g8 A (16 * (r - 1) + i) ^^^ g8 sub (g8 A (16 * (r - 1) + (12 + (i + 1) % 4))).toNat := by
  unfold kv
  rw [if_neg (by omega), if_pos (by omega), show 16 * r + i - 16 = 16 * (r - 1) + i by omega, show (16 * r + i) / 16 * 16 - 16 + (12 + ((16 * r + i) % 16 + 1) % 4) = 16 * (r - 1) + (12 + (i + 1) % 4) by omega]
theorem kv2 (sub : List UInt8) (r i : Nat) (hr : 1 ≤ r) (hi : 4 ≤ i) (h16 : i < 16) (A : List UInt8) : kv sub (16 * r + i) A = g8 A (16 * (r - 1) + i) ^^^ g8 A (16 * r + i - 4) := by
  unfold kv
  rw [if_neg (by omega), if_neg (by omega), show 16 * r + i - 16 = 16 * (r - 1) + i by omega]
/-- The cipher's bytes: round keys so far, then room, then the tables. -/
def TT (A sub uns : List UInt8) : List UInt8 := A ++ (List.replicate (176 - A.length) 0 ++ (sub ++ uns))
theorem TT_len (A sub uns : List UInt8) (hA : A.length ≤ 176) (hs : sub.length = 256) (hu : uns.length = 256) : (TT A sub uns).length = 688 := by
  simp only [TT, List.length_append, List.length_replicate, hs, hu]
  omega
theorem g8_app1 (A B : List UInt8) (i : Nat) (h : i < A.length) : g8 (A ++ B) i = g8 A i := by
  unfold g8
  rw [List.getD_eq_getElem?_getD, List.getD_eq_getElem?_getD, List.getElem?_append_left h]
theorem g8_app2 (A B : List UInt8) (i : Nat) (h : A.length ≤ i) : g8 (A ++ B) i = g8 B (i - A.length) := by
  unfold g8
  rw [List.getD_eq_getElem?_getD, List.getD_eq_getElem?_getD, List.getElem?_append_right h]
theorem TT_key (A sub uns : List UInt8) (i : Nat) (h : i < A.length) : g8 (TT A sub uns) i = g8 A i := g8_app1 _ _ _ h
theorem TT_sub (A sub uns : List UInt8) (hA : A.length ≤ 176) (hs : sub.length = 256) (i : Nat) (h : i < 256) : g8 (TT A sub uns) (176 + i) = g8 sub i := by
  unfold TT
  rw [g8_app2 _ _ _ (by omega), g8_app2 _ _ _ (by rw [List.length_replicate]; omega), List.length_replicate, g8_app1 _ _ _ (by omega)]
  congr 1
  omega
theorem TT_uns (A sub uns : List UInt8) (hA : A.length ≤ 176) (hs : sub.length = 256) (i : Nat) (h : i < 256) : g8 (TT A sub uns) (432 + i) = g8 uns i := by
  unfold TT
  rw [g8_app2 _ _ _ (by omega), g8_app2 _ _ _ (by rw [List.length_replicate]; omega), List.length_replicate, g8_app2 _ _ _ (by omega)]
  congr 1
  omega
theorem TT_set (A sub uns : List UInt8) (hA : A.length < 176) (v : UInt8) : (TT A sub uns).set A.length v = TT (A ++ [v]) sub uns := by
  unfold TT
  rw [List.set_append_right _ _ (Nat.le_refl _), Nat.sub_self, show 176 - A.length = (175 - A.length) + 1 by omega, List.replicate_succ, List.cons_append, List.set_cons_zero, List.append_assoc, List.length_append, show 176 - (A.length + [v].length) = 175 - A.length by rw [List.length_singleton]; omega]
  rfl
theorem TT_setsub (A sub uns : List UInt8) (hA : A.length ≤ 176) (hs : sub.length = 256) (i : Nat) (hi : i < 256) (v : UInt8) : (TT A sub uns).set (176 + i) v = TT A (sub.set i v) uns := by
  unfold TT
  rw [List.set_append_right _ _ (by omega), List.set_append_right _ _ (by rw [List.length_replicate]; omega), List.length_replicate, List.set_append_left _ _ (by omega), show 176 + i - A.length - (176 - A.length) = i by omega]
theorem TT_setuns (A sub uns : List UInt8) (hA : A.length ≤ 176) (hs : sub.length = 256) (i : Nat) (hi : i < 256) (v : UInt8) : (TT A sub uns).set (432 + i) v = TT A sub (uns.set i v) := by
  unfold TT
  rw [List.set_append_right _ _ (by omega), List.set_append_right _ _ (by rw [List.length_replicate]; omega), List.length_replicate, List.set_append_right _ _ (by omega), show 432 + i - A.length - (176 - A.length) - sub.length = i by omega]
theorem TT_dropsub (A sub uns : List UInt8) (hA : A.length ≤ 176) (hs : sub.length = 256) (hu : uns.length = 256) : ((ciph (TT A sub uns)).drop 176).take 256 = bv sub := by
  have e1 : TT A sub uns = (A ++ List.replicate (176 - A.length) 0) ++ (sub ++ uns) := by simp [TT]
  have l1 : (A ++ List.replicate (176 - A.length) (0 : UInt8)).length = 176 := by rw [List.length_append, List.length_replicate]; omega
  unfold ciph
  rw [List.drop_append_of_le_length (by rw [bv_length, TT_len _ _ _ hA hs hu]; decide), List.take_append_of_le_length (by rw [List.length_drop, bv_length, TT_len _ _ _ hA hs hu]; decide), bv_drop, bv_take, e1, List.drop_append_of_le_length (by omega), List.drop_eq_nil_of_le (by omega), List.nil_append, List.take_append_of_le_length (by omega), List.take_of_length_le (by omega)]
theorem TT_begin (key sub uns : List UInt8) (hk : key.length = 16) (hs : sub.length = 256) : splice (ciph (TT [] sub uns)) 0 (bv key) = ciph (TT key sub uns) := by
  unfold splice ciph TT
  simp only [List.take_zero, List.nil_append, List.length_nil, Nat.zero_add, bv_length, hk, Nat.sub_zero]
  rw [show (176 : Nat) = 16 + 160 by decide, ← List.replicate_append_replicate, List.append_assoc (List.replicate 16 0), bv_append, List.append_assoc, List.drop_append_of_le_length (by rw [bv_length, List.length_replicate]; exact Nat.le_refl _), List.drop_eq_nil_of_le (by rw [bv_length, List.length_replicate]; exact Nat.le_refl _), List.nil_append, bv_append key, List.append_assoc]
/-- The bytes of the cipher of a key. -/
def ciT (key : List UInt8) : List UInt8 := TT (KS subT key 160) subT unsT
theorem ciT_len (key : List UInt8) (hk : key.length = 16) : (ciT key).length = 688 := TT_len _ _ _ (by rw [KS_len _ _ hk]; decide) subT_len unsT_len
theorem ciph_set (T : List UInt8) (i : Nat) (v : UInt8) (h : i < T.length) : (ciph T).set i (bt v) = ciph (T.set i v) := by
  unfold ciph
  rw [List.set_append_left _ _ (by rw [bv_length]; exact h), bv_set]
end Go.Xr
namespace Go.Proofs.Ytnkcogaaajkplaa
open Go Go.Xr Go.RowKit
set_option linter.unusedVariables false
set_option linter.unusedSimpArgs false
attribute [local go_sem] xor_u8 xor_u8_c or_u8 or_u8_c shl_u8 shr_u8 at_bt eql_u8_c eqg_u8_c

set_option maxRecDepth 20000 in
theorem new_bad {w : World} (s : ByteArray) (hs : s.size ≠ 16) (hs2 : s.size ≤ 9223372036854775807) :
    Calls Try.prog 11 #[.string s] w fun e w' => e = .returned (.tuple #[.pointer none, .int .i64 2]) ∧ w = w' := by
  have hne : ((s.size : Int) != 16) = true := by simp; omega
  clear hs
  go_enter Try.func11, Try.ntmps11
  go_wp2_with fail
  go_ret2
  exact ⟨rfl, rfl⟩

def c0 : List UInt8 := List.replicate 688 0
theorem infC : ∃ i, Try.prog.info? 49 = some i ∧ i.zero = some (.agg (bv (List.replicate 688 0) ++ [Value.bool false]).toArray) := ⟨_, rfl, by kernel_rfl⟩
theorem C_fill (place : Nat → Option (Nat × Nat)) (h : place 3 = some (688, 1)) : Instr.fill place (bv (List.replicate 688 0) ++ [Value.bool false]).toArray [(3, Value.bool true)] = some (ciph c0).toArray := by
  rw [fill_step place _ 3 688 1 _ _ h rfl (by rw [List.size_toArray, List.length_append, bv_length, List.length_replicate]; decide)]
  simp only [Instr.fill]
  have hl : (bv (List.replicate 688 0)).length = 688 := by rw [bv_length, List.length_replicate]
  have := splice_end (bv (List.replicate 688 0)) [Value.bool true] [Value.bool false] rfl
  rw [hl] at this
  exact congrArg (fun l => some (List.toArray l)) this
theorem t3 {w : World} (P : UInt8) : Calls Try.prog 6 #[bt P, .int .u8 3] w fun e w' => e = .returned (bt (times P 3)) ∧ w = w' := times_any P 3
theorem t246 {w : World} (P : UInt8) : Calls Try.prog 6 #[bt P, .int .u8 246] w fun e w' => e = .returned (bt (times P 246)) ∧ w = w' := times_any P 246
theorem subAT : AggT Try.prog 47 256 := ⟨_, Try.underlying47, rfl, rfl⟩
theorem TT_zero : c0 = TT [] (tabI 0) (unsI subT 0) := by
  simp only [c0, TT, tabI, unsI, List.nil_append, List.length_nil, List.replicate_append_replicate]
theorem lit_u8 (n : Nat) (h : n < 256) : Value.int .u8 (n : Int) = bt (UInt8.ofNat n) := by
  unfold bt
  rw [UInt8.toNat_ofNat', Nat.mod_eq_of_lt (by omega)]

set_option maxRecDepth 20000 in
set_option maxHeartbeats 1000000 in
theorem new_any {w : World} (s : ByteArray) (hs : s.size = 16) :
    Calls Try.prog 11 #[.string s] w fun e w' => ∃ p, e = .returned (.tuple #[.pointer (some ⟨p, 0, none⟩), .int .i64 0]) ∧ Blk w' p (ciph (ciT s.data.toList)) ∧ w.heap.size ≤ p ∧ Fr [] w w' := by
  obtain ⟨i, hi, hz⟩ := infC
  obtain ⟨i2, hi2, hz2, _⟩ := infS
  have Hi := hid hi
  have Hz := hid hz
  have Hi2 := hid hi2
  have Hz2 := hid hz2
  have hp := fun w => Xr.run_places (P := Try.prog) [{ name := "rounds", type := 46, offset := 0, embedded := false, tag := "", pkgPath := "coffer/aes", byteOffset := 0 }, { name := "sub", type := 47, offset := 176, embedded := false, tag := "", pkgPath := "coffer/aes", byteOffset := 176 }, { name := "unsub", type := 47, offset := 432, embedded := false, tag := "", pkgPath := "coffer/aes", byteOffset := 432 }, { name := "made", type := 4, offset := 688, embedded := false, tag := "", pkgPath := "coffer/aes", byteOffset := 688 }] [(0, 176), (176, 256), (432, 256), (688, 1)] rfl w
  have Hp := hid hp
  have hne : ((s.size : Int) != 16) = false := by rw [hs]; rfl
  have hsl : s.data.toList.length = 16 := by rw [Array.length_toList]; exact hs
  have Hs := hid hs
  have Hsl := hid hsl
  have Hgo := hid go_all
  clear hi hz hi2 hz2 hp hs hsl
  go_enter Try.func11, Try.ntmps11
  go_wp2_with (first
    | (refine wpList_build_struct rfl _ _ rfl _ _ _ _ Try.underlying49 Hi.out Hz.out Hp.out (ciph c0) (C_fill _ rfl) ?_; simp only [World.size_alloc, World.size_drew, Act.put, List.setIfInBounds_toArray, List.set_cons_succ, List.set_cons_zero])
    | (refine wpList_box rfl _ _ rfl (ciph c0) rfl ?_; intro w1 f1 hlt1 hb1; simp only [World.size_alloc, World.size_drew, Act.put, List.setIfInBounds_toArray, List.set_cons_succ, List.set_cons_zero]))
  have q1 : Blk w1 w.heap.size (ciph (TT [] (tabI 0) (unsI subT 0))) := by rw [← TT_zero]; exact hb1
  obtain ⟨N, hN⟩ : ∃ N, w.heap.size = N := ⟨_, rfl⟩
  have HN := hid hN
  rw [hN] at q1 ⊢
  clear hb1 hlt1 hN
  go_loopg [5, 6] 254 (fun g pv qv wr => ∃ k : Nat, k + g = 254 ∧ pv = bt (pq k).1 ∧ qv = bt (pq k).2 ∧ Blk wr N (ciph (TT [] (tabI k) (unsI subT 0))) ∧ Fr [] w wr)
  case atStart => exact ⟨0, by omega, rfl, rfl, q1, f1⟩
  case round =>
    obtain ⟨k, hk, rfl, rfl, b1, f⟩ := hrel
    obtain ⟨G, rfl⟩ : ∃ G, G = gk := ⟨_, rfl⟩
    clear q1 f1
    obtain ⟨P, hP⟩ : ∃ P, (pq k).1 = P := ⟨_, rfl⟩
    obtain ⟨Q, hQ⟩ : ∃ Q, (pq k).2 = Q := ⟨_, rfl⟩
    have H1 := hid (show (pq (k + 1)).1 = times P 3 by rw [← hP]; rfl)
    have H2 := hid (show (pq (k + 1)).2 = times Q 246 by rw [← hQ]; rfl)
    rw [hP, hQ]
    clear hP hQ
    go_wp2_with fail
    refine (t3 P).mono ?_
    rintro e w' ⟨rfl, rfl⟩
    rw [← H1.out]
    go_wp2_with fail
    refine (t246 Q).mono ?_
    rintro e w' ⟨rfl, rfl⟩
    rw [← H2.out]
    go_wp2_with fail
    obtain ⟨P1, hP⟩ : ∃ P1, (pq (k + 1)).1 = P1 := ⟨_, rfl⟩
    obtain ⟨Q1, hQ⟩ : ∃ Q1, (pq (k + 1)).2 = Q1 := ⟨_, rfl⟩
    have HP := hid hP
    have HQ := hid hQ
    rw [hP, hQ]
    clear H1 H2 hP hQ
    go_loopw [7, 26] (fun xv iv wr' => ∃ i : Nat, i ≤ 4 ∧ iv = .int .i64 i ∧ xv = bt (rz Q1 i) ∧ wr = wr') (fun _ iv _ => 4 - (intOf iv).toNat)
    case atStart => exact ⟨0, by omega, rfl, rfl, rfl⟩
    case round =>
      obtain ⟨i, hi, rfl, rfl, rfl⟩ := hrel
      by_cases hlt : i < 4
      · have hd1 : decide ((i : Int) < 4) = true := by simp; omega
        have hm1 : (0 : Int) ≤ 7 - (i : Int) := by omega
        have hm2 : (i : Int) ≤ 7 := by omega
        have hm3 : ((7 : Int) - (i : Int)).toNat = 7 - i := by omega
        have hm4 : ((i : Int) + 1).toNat = i + 1 := by omega
        have hm5 : (0 : Int) ≤ (i : Int) + 1 := by omega
        go_wp2_with fail
        go_roundw
        case rel => exact ⟨i + 1, by omega, by go_num, rfl, trivial⟩
        case measure => simp [intOf]; omega
      · have hd1 : decide ((i : Int) < 4) = false := by simp; omega
        have ei : i = 4 := by omega
        obtain ⟨V, hV⟩ : ∃ V, rz Q1 i ^^^ c8 99 = V := ⟨_, rfl⟩
        have HV := hid hV
        have hx := P1.toNat_lt
        have hx1 : (P1.toNat : Int) < 256 := by omega
        have hx2 : P1.toNat < 256 := hx
        have hTl := TT_len [] (tabI k) (unsI subT 0) (by decide) (tabI_len k) (unsI_len _ 0)
        have Hstep := hid (show (TT [] (tabI k) (unsI subT 0)).set (176 + P1.toNat) V = TT [] (tabI (k + 1)) (unsI subT 0) by
          rw [TT_setsub _ _ _ (by decide) (tabI_len k) _ hx2, tabI, HP.out, HQ.out, ← ei, hV])
        have HTl := hid hTl
        clear hTl hV ei hi hlt
        cases G with
        | succ G =>
          have hne1 : ((P1.toNat : Int) == 1) = false := by
            rw [beq_eq_false_iff_ne]
            intro h
            have := Hgo.out.1 k (by omega) (by rw [HP.out]; omega)
            omega
          go_wp2_with (refine wpList_put rfl _ _ _ rfl rfl (bt V) (by rw [← HV.out]; rfl) rfl b1 (by unfold ciph; rw [List.length_append, bv_length, HTl.out]; show 176 + P1.toNat < 688 + 1; omega) (by kernel_rfl) ?_; intro w2 f2 b2 hs2; rw [ciph_set _ _ _ (by rw [HTl.out]; omega), Hstep.out] at b2; simp only [World.size_alloc, World.size_drew, Act.put, List.setIfInBounds_toArray, List.set_cons_succ, List.set_cons_zero])
          go_roundg G
          case rel => exact ⟨k + 1, by omega, by rw [HP.out], by rw [HQ.out], b2, f.trans f2 (by simp; have := HN.out; omega)⟩
          case measure => omega
        | zero =>
          obtain rfl : k = 254 := by omega
          have hne1 : ((P1.toNat : Int) == 1) = true := by rw [show P1.toNat = 1 by rw [← HP.out]; exact Hgo.out.2.1]; rfl
          have HTl2 := hid (TT_len [] (tabI (254 + 1)) (unsI subT 0) (by decide) (tabI_len _) (unsI_len _ 0))
          have Hstep2 := hid (show (TT [] (tabI (254 + 1)) (unsI subT 0)).set 176 (UInt8.ofNat 99) = TT [] subT (unsI subT 0) by
            rw [show (176 : Nat) = 176 + 0 by rfl, TT_setsub _ _ _ (by decide) (tabI_len _) _ (by decide)]
            exact congrArg (fun x => TT [] x (unsI subT 0)) Hgo.out.2.2)
          clear hk HP HQ
          go_wp2_with (first
            | (refine wpList_put rfl _ _ _ rfl rfl (bt V) (by rw [← HV.out]; rfl) rfl b1 (by unfold ciph; rw [List.length_append, bv_length, HTl.out]; show 176 + P1.toNat < 688 + 1; omega) (by kernel_rfl) ?_; intro w2 f2 b2 hs2; rw [ciph_set _ _ _ (by rw [HTl.out]; omega), Hstep.out] at b2; simp only [World.size_alloc, World.size_drew, Act.put, List.setIfInBounds_toArray, List.set_cons_succ, List.set_cons_zero])
            | (refine wpList_put rfl _ _ _ rfl rfl (bt (UInt8.ofNat 99)) rfl rfl b2 (by unfold ciph; rw [List.length_append, bv_length, HTl2.out]; decide) (by kernel_rfl) ?_; intro w3 f4 b3 hs3; rw [ciph_set _ _ _ (by rw [HTl2.out]; decide), Hstep2.out] at b3; simp only [World.size_alloc, World.size_drew, Act.put, List.setIfInBounds_toArray, List.set_cons_succ, List.set_cons_zero])
            | (refine wpList_load_ag rfl _ _ rfl rfl (bv subT) b3 subAT (bvl subT_len) (TT_dropsub _ _ _ (by decide) subT_len (unsI_len _ _)) ?_; simp only [World.size_alloc, World.size_drew, Act.put, List.setIfInBounds_toArray, List.set_cons_succ, List.set_cons_zero]))
          have f5 := (f.trans f2 (by simp; have := HN.out; omega)).trans f4 (by simp; have := HN.out; omega)
          clear f f2 f4 b1 b2 hne1 Hstep Hstep2 HTl2 HTl hx hx1 hx2 HV
          go_loopw [60] (fun iv wr => ∃ i : Nat, i ≤ 256 ∧ iv = .int .i64 i ∧ Blk wr N (ciph (TT [] subT (unsI subT i))) ∧ Fr [] w wr) (fun iv _ => 256 - (intOf iv).toNat)
          case atStart => exact ⟨0, by omega, rfl, b3, f5⟩
          case round =>
            obtain ⟨i, hi, rfl, b4, f6⟩ := hrel
            clear b3 f5
            by_cases hlt : i < 256
            · have hd2 : decide ((i : Int) < 256) = true := by simp; omega
              obtain ⟨Y, hY⟩ : ∃ Y, g8 subT i = Y := ⟨_, rfl⟩
              have hx := Y.toNat_lt
              have hx1 : (Y.toNat : Int) < 256 := by omega
              have hx2 : Y.toNat < 256 := hx
              have hix : ∀ w, (Instr.index 47 (.agg (bv subT).toArray) (.int .i64 (i : Int))).run Try.prog w = .ok (bt Y) w := fun w => index_agg w _ 5 256 _ .i64 i Try.underlying47 rfl (by rw [List.size_toArray]; exact bvl subT_len) (bt Y) (by omega) (by omega) (by rw [Int.toNat_natCast, bv_getElem?, g8_eq subT i (by rw [subT_len]; exact hlt), hY]; rfl) rfl
              have HTl3 := hid (TT_len [] subT (unsI subT i) (by decide) subT_len (unsI_len _ i))
              have Hstep3 := hid (show (TT [] subT (unsI subT i)).set (432 + Y.toNat) (UInt8.ofNat i) = TT [] subT (unsI subT (i + 1)) by
                rw [TT_setuns _ _ _ (by decide) subT_len _ hx2, unsI, hY])
              clear hY
              go_wp2_with (refine wpList_put rfl _ _ _ rfl rfl (bt (UInt8.ofNat i)) (lit_u8 i hlt) rfl b4 (by unfold ciph; rw [List.length_append, bv_length, HTl3.out]; show 432 + Y.toNat < 688 + 1; omega) (by kernel_rfl) ?_; intro w5 f7 b5 hs5; rw [ciph_set _ _ _ (by rw [HTl3.out]; omega), Hstep3.out] at b5; simp only [World.size_alloc, World.size_drew, Act.put, List.setIfInBounds_toArray, List.set_cons_succ, List.set_cons_zero])
              go_roundw
              case rel => exact ⟨i + 1, by omega, by go_num, b5, f6.trans f7 (by simp; have := HN.out; omega)⟩
              case measure => simp [intOf]; omega
            · have hd2 : decide ((i : Int) < 256) = false := by simp; omega
              have ei : i = 256 := by omega
              rw [ei, unsI_all] at b4
              clear ei hi hlt
              go_wp2_with (refine wpList_copy_str rfl 32 9 5 _ _ rfl 16 16 s 16 (by rw [Hs.out]; rfl) rfl rfl b4 Try.underlying32 rfl (by unfold ciph; rw [List.length_append, bv_length, TT_len _ _ _ (by decide) subT_len unsT_len]; decide) ?_; intro w5 f7 b5 hs5; rw [List.take_of_length_le (by rw [Hsl.out]; exact Nat.le_refl _), TT_begin _ _ _ Hsl.out subT_len] at b5; simp only [World.size_alloc, World.size_drew, Act.put, List.setIfInBounds_toArray, List.set_cons_succ, List.set_cons_zero]; simp only [show ((16 : Nat) : Int) = 16 from rfl])
              obtain ⟨key, hkey⟩ : ∃ key, s.data.toList = key := ⟨_, rfl⟩
              rw [hkey] at b5
              have Hkey := hid hkey
              have Hkl := hid (show key.length = 16 by rw [← hkey]; exact Hsl.out)
              have f8 := f6.trans f7 (by simp; have := HN.out; omega)
              have hNw : N < w5.heap.size := b5.lt
              clear f6 f7 b4 hkey
              go_loopw [11, 12] (fun pv rv wr => ∃ r : Nat, 1 ≤ r ∧ r ≤ 11 ∧ rv = .int .i64 r ∧ pv = bt (pwr (r - 1)) ∧ Blk wr N (ciph (TT (KS subT key (16 * (r - 1))) subT unsT)) ∧ Fr [] w wr ∧ N < wr.heap.size) (fun _ rv _ => 11 - (intOf rv).toNat)
              case atStart => exact ⟨1, by decide, by decide, rfl, rfl, b5, f8, hNw⟩
              case round =>
                obtain ⟨r, hr1, hr, rfl, rfl, b6, f9, hnw⟩ := hrel
                clear b5 f8 hNw
                by_cases hlt : r < 11
                · have hd3 : decide ((r : Int) < 11) = true := by simp; omega
                  have hm1 : (0 : Int) ≤ (r : Int) - 1 := by omega
                  have hm2 : ((r : Int) - 1).toNat = r - 1 := by omega
                  have hm3 : (r : Int) ≤ 11 := by omega
                  obtain ⟨A0, hA0⟩ : ∃ A0, KS subT key (16 * (r - 1)) = A0 := ⟨_, rfl⟩
                  have hA0l : A0.length = 16 * r := by rw [← hA0, KS_len _ _ Hkl.out]; omega
                  obtain ⟨W, hW⟩ : ∃ W, rk (TT A0 subT unsT) (r - 1) = W := ⟨_, rfl⟩
                  have hWl : W.length = 16 := by rw [← hW]; exact rk_len _ (TT_len _ _ _ (by omega) subT_len unsT_len) _ (by omega)
                  have HWl := hid hWl
                  have hW0 : ∀ j, j < 16 → g8 W j = g8 A0 (16 * (r - 1) + j) := fun j hj => by
                    rw [← TT_key A0 subT unsT _ (by omega), ← hW]
                    unfold rk g8
                    rw [List.getD_eq_getElem?_getD, List.getD_eq_getElem?_getD, List.getElem?_take, if_pos hj, List.getElem?_drop]
                  have HW0 := hid hW0
                  have HA0 := hid hA0
                  have Hdr := hid (show ((ciph (TT A0 subT unsT)).drop ((r - 1) * 16)).take 16 = bv W by rw [← hW]; exact ciph_rk _ (TT_len _ _ _ (by omega) subT_len unsT_len) _ (by omega))
                  rw [hA0] at b6
                  clear hA0 hA0l hW hWl hW0
                  go_wp2_with (first
                    | (refine wpList_load_ag rfl _ _ rfl rfl (bv W) b6 sqT (bvl HWl.out) Hdr.out ?_; simp only [World.size_alloc, World.size_drew, Act.put, List.setIfInBounds_toArray, List.set_cons_succ, List.set_cons_zero])
                    | (refine wpList_alloc_any rfl _ rfl _ _ 16 Hi2.out Hz2.out rfl ?_; intro zs w6 hzl hze f10 hlt10 hb10; rw [hze] at hb10; clear hzl hze; simp only [World.size_alloc, World.size_drew, Act.put, List.setIfInBounds_toArray, List.set_cons_succ, List.set_cons_zero])
                    | (refine wpList_store_ag rfl _ _ _ rfl rfl (bv W) rfl (show Blk w6 wr.heap.size (bv (List.replicate 16 0)) from hb10) sqT (bvl HWl.out) (by decide) (bv_one _) ?_; intro w7 f11 b11 hs11; rw [splice_all _ _ (by rw [bvl HWl.out]; rfl)] at b11; (try simp only [World.size_alloc, World.size_drew, Act.put, List.setIfInBounds_toArray, List.set_cons_succ, List.set_cons_zero])))
                  obtain ⟨Nw, hNw⟩ : ∃ Nw, wr.heap.size = Nw := ⟨_, rfl⟩
                  rw [hNw] at b11 hlt10 f11 hnw ⊢
                  have c0 : Blk w7 N (ciph (TT (KS subT key (16 * (r - 1) + 0)) subT unsT)) := by rw [Nat.add_zero, HA0.out]; exact f11.blk (f10.blk b6 (by simp)) (by simp; omega)
                  have HNw : w.heap.size ≤ Nw := by have := f9.size; omega
                  have f12 := (f9.trans' f10).trans f11 (by simp; omega)
                  clear hb10 f9 f10 f11 b6 hs11 hNw Hdr hlt10
                  go_loopw [95] (fun iv wr => ∃ i : Nat, i ≤ 16 ∧ iv = .int .i64 i ∧ Blk wr N (ciph (TT (KS subT key (16 * (r - 1) + i)) subT unsT)) ∧ Blk wr Nw (bv W) ∧ Fr [] w wr) (fun iv _ => 16 - (intOf iv).toNat)
                  case atStart => exact ⟨0, by omega, rfl, c0, b11, f12⟩
                  case round =>
                    obtain ⟨i, hi, rfl, d1, d2, g⟩ := hrel
                    clear c0 b11 f12
                    by_cases hli : i < 16
                    · have hd4 : decide ((i : Int) < 16) = true := by simp; omega
                      obtain ⟨A, hA⟩ : ∃ A, KS subT key (16 * (r - 1) + i) = A := ⟨_, rfl⟩
                      have hAl : A.length = 16 * r + i := by rw [← hA, KS_len _ _ Hkl.out]; omega
                      have hWA : ∀ j, j < 16 → g8 W j = g8 A (16 * (r - 1) + j) := fun j hj => by
                        rw [HW0.out j hj, ← HA0.out, ← hA, KS_pre _ _ Hkl.out _ _ (by omega)]
                      have hTl : (TT A subT unsT).length = 688 := TT_len _ _ _ (by omega) subT_len unsT_len
                      have hcl : (ciph (TT A subT unsT)).length = 689 := by unfold ciph; rw [List.length_append, bv_length, hTl]; rfl
                      have hnext : KS subT key (16 * (r - 1) + (i + 1)) = A ++ [kv subT (16 * r + i) A] := by
                        rw [← Nat.add_assoc, KS, hA, show 16 + (16 * (r - 1) + i) = 16 * r + i by omega]
                      have hset : ∀ v, (ciph (TT A subT unsT)).set (r * 16 + i) (bt v) = ciph (TT (A ++ [v]) subT unsT) := fun v => by
                        rw [ciph_set _ _ _ (by omega), show r * 16 + i = A.length by omega, TT_set _ _ _ (by omega)]
                      rw [hA] at d1
                      have kW : ∀ j, j < 16 → wr.cell? ⟨Nw, j, none⟩ = some (bt (g8 W j)) := fun j hj => by rw [d2.cell, bv_getElem?, g8_eq W j (by rw [HWl.out]; exact hj)]; rfl
                      have kS : ∀ x : UInt8, wr.cell? ⟨N, 176 + x.toNat, none⟩ = some (bt (g8 subT x.toNat)) := fun x => by
                        have := x.toNat_lt
                        rw [d1.cell, ciph_get _ hTl _ (by omega), TT_sub _ _ _ (by omega) subT_len _ (by omega)]
                      have kA : ∀ j, j < 16 * r + i → wr.cell? ⟨N, j, none⟩ = some (bt (g8 A j)) := fun j hj => by
                        rw [d1.cell, ciph_get _ hTl _ (by omega), TT_key _ _ _ _ (by omega)]
                      have Hnext := hid hnext
                      have Hset := hid hset
                      have KW := hid kW
                      have KSb := hid kS
                      have KA := hid kA
                      have HWA := hid hWA
                      have Hcl := hid hcl
                      clear hA hAl hWA hTl hcl hnext hset kW kS kA
                      have hcase : (i = 0) ∨ (0 < i ∧ i < 4) ∨ 4 ≤ i := by omega
                      rcases hcase with h0 | ⟨h0, h4⟩ | h4
                      case' inl =>
                        have Hv := hid (show kv subT (16 * r + i) A = g8 W 0 ^^^ g8 subT (g8 W 13).toNat ^^^ pwr (r - 1) by
                          rw [HWA.out 0 (by omega), HWA.out 13 (by omega), h0, Nat.add_zero, kv0 _ _ hr1])
                        have hd5 : ((i : Int) == 0) = true := by rw [h0]; rfl
                        have k0 := KW.out i hli
                        rw [show g8 W i = g8 W 0 by rw [h0]] at k0
                        have k1 := KW.out 13 (by omega)
                        obtain ⟨X0, hX0⟩ : ∃ X0, g8 W 0 = X0 := ⟨_, rfl⟩
                        obtain ⟨X, hX⟩ : ∃ X, g8 W 13 = X := ⟨_, rfl⟩
                        have k2 := KSb.out X
                        obtain ⟨Y, hY⟩ : ∃ Y, g8 subT X.toNat = Y := ⟨_, rfl⟩
                        rw [hX0] at k0
                        rw [hX] at k1
                        rw [hY] at k2
                        have hV := Hv.out
                        rw [hX0, hX, hY] at hV
                        have HV2 := hid hV
                        have hx := X.toNat_lt
                        have hx1 : (X.toNat : Int) < 256 := by omega
                        clear h0 hX0 hX hY hV
                        go_wp2_with fail
                        refine wp_region_D (fun _ => True) false [] (by kernel_rfl) ?_
                        refine WD.pure [0, 1, 2, 3, 4, 5, 6, 7, 8, 9, 10, 11, 12, 13, 14, 15, 16] (by kernel_rfl) trivial ?_
                        simp only [pick, List.toList_toArray, List.map_cons, List.map_nil, List.getD_cons_succ, List.getD_cons_zero]
                        repeat (first | go_big_quiet_step (fail))
                        refine wpQuiet_nil ?_
                        refine WD.eff 17 (by kernel_rfl) ?_
                        simp only [pick, List.toList_toArray, List.map_cons, List.map_nil, List.getD_cons_succ, List.getD_cons_zero]
                        refine wpList_put rfl _ _ _ rfl rfl (bt (kv subT (16 * r + i) A)) (by rw [HV2.out]; rfl) rfl d1.drew (by rw [Hcl.out]; omega) (by kernel_rfl) ?_
                        intro w8 f8 b8 hs8
                        try refine wpList_nil ?_
                        refine AfterD.on trivial (by kernel_rfl) ?_
                        refine WD.done (by kernel_rfl) ?_
                      case' inr.inl =>
                        have Hv := hid (show kv subT (16 * r + i) A = g8 W i ^^^ g8 subT (g8 W (12 + (i + 1) % 4)).toNat by
                          rw [HWA.out i hli, HWA.out (12 + (i + 1) % 4) (by omega), kv1 _ _ _ hr1 h0 h4])
                        have hd5 : ((i : Int) == 0) = false := by simp; omega
                        have hd6 : decide ((i : Int) < 4) = true := by simp; omega
                        have k0 := KW.out i hli
                        obtain ⟨J, hJ⟩ : ∃ J, 12 + (i + 1) % 4 = J := ⟨_, rfl⟩
                        have hJ1 : (12 + ((i : Int) + 1) % 4).toNat = J := by omega
                        have hJ2 : J < 16 := by omega
                        have k1 := KW.out J hJ2
                        obtain ⟨X0, hX0⟩ : ∃ X0, g8 W i = X0 := ⟨_, rfl⟩
                        obtain ⟨X, hX⟩ : ∃ X, g8 W J = X := ⟨_, rfl⟩
                        have k2 := KSb.out X
                        obtain ⟨Y, hY⟩ : ∃ Y, g8 subT X.toNat = Y := ⟨_, rfl⟩
                        rw [hX0] at k0
                        rw [hX] at k1
                        rw [hY] at k2
                        have hV := Hv.out
                        rw [hJ, hX0, hX, hY] at hV
                        have HV2 := hid hV
                        have hx := X.toNat_lt
                        have hx1 : (X.toNat : Int) < 256 := by omega
                        clear hX0 hX hY hV hJ
                        go_wp2_with fail
                        refine wp_region_D (fun _ => True) false [] (by kernel_rfl) ?_
                        refine WD.pure [0, 1, 2, 3, 4, 5, 6, 7, 8, 9, 10, 11, 12, 13, 14, 15, 16, 17, 18] (by kernel_rfl) trivial ?_
                        simp only [pick, List.toList_toArray, List.map_cons, List.map_nil, List.getD_cons_succ, List.getD_cons_zero]
                        repeat (first | go_big_quiet_step (fail))
                        refine wpQuiet_nil ?_
                        refine WD.eff 19 (by kernel_rfl) ?_
                        simp only [pick, List.toList_toArray, List.map_cons, List.map_nil, List.getD_cons_succ, List.getD_cons_zero]
                        refine wpList_put rfl _ _ _ rfl rfl (bt (kv subT (16 * r + i) A)) (by rw [HV2.out]; rfl) rfl d1.drew (by rw [Hcl.out]; omega) (by kernel_rfl) ?_
                        intro w8 f8 b8 hs8
                        try refine wpList_nil ?_
                        refine AfterD.on trivial (by kernel_rfl) ?_
                        refine WD.done (by kernel_rfl) ?_
                      case' inr.inr =>
                        have Hv := hid (show kv subT (16 * r + i) A = g8 W i ^^^ g8 A (r * 16 + (i - 4)) by
                          rw [HWA.out i hli, kv2 _ _ _ hr1 h4 hli, show 16 * r + i - 4 = r * 16 + (i - 4) by omega])
                        have hd5 : ((i : Int) == 0) = false := by simp; omega
                        have hd6 : decide ((i : Int) < 4) = false := by simp; omega
                        have k0 := KW.out i hli
                        have k1 := KA.out (r * 16 + (i - 4)) (by omega)
                        have hm5 : ((i : Int) - 4).toNat = i - 4 := by omega
                        have hm6 : (0 : Int) ≤ (i : Int) - 4 := by omega
                        obtain ⟨X0, hX0⟩ : ∃ X0, g8 W i = X0 := ⟨_, rfl⟩
                        obtain ⟨X, hX⟩ : ∃ X, g8 A (r * 16 + (i - 4)) = X := ⟨_, rfl⟩
                        rw [hX0] at k0
                        rw [hX] at k1
                        have hV := Hv.out
                        rw [hX0, hX] at hV
                        have HV2 := hid hV
                        clear hX0 hX hV
                        go_wp2_with fail
                        refine wp_region_D (fun _ => True) false [] (by kernel_rfl) ?_
                        refine WD.pure [0, 1, 2, 3, 4, 5, 6, 7, 8, 9, 10, 11, 12, 13] (by kernel_rfl) trivial ?_
                        simp only [pick, List.toList_toArray, List.map_cons, List.map_nil, List.getD_cons_succ, List.getD_cons_zero]
                        repeat (first | go_big_quiet_step (fail))
                        refine wpQuiet_nil ?_
                        refine WD.eff 14 (by kernel_rfl) ?_
                        simp only [pick, List.toList_toArray, List.map_cons, List.map_nil, List.getD_cons_succ, List.getD_cons_zero]
                        refine wpList_put rfl _ _ _ rfl rfl (bt (kv subT (16 * r + i) A)) (by rw [HV2.out]; rfl) rfl d1.drew (by rw [Hcl.out]; omega) (by kernel_rfl) ?_
                        intro w8 f8 b8 hs8
                        try refine wpList_nil ?_
                        refine AfterD.on trivial (by kernel_rfl) ?_
                        refine WD.done (by kernel_rfl) ?_
                      all_goals
                        rw [Hset.out, ← Hnext.out] at b8
                        have gg : Fr [N] wr w8 := ((Fr.refl _ wr).drew).trans' f8
                        clear f8 hs8
                        go_wp2_with fail
                        go_roundw
                        case rel => exact ⟨i + 1, by omega, by go_num, b8, gg.blk d2 (by simp; omega), g.trans gg (by simp; have := HN.out; omega)⟩
                        case measure => simp [intOf]; omega
                    · have hd4 : decide ((i : Int) < 16) = false := by simp; omega
                      have ei : i = 16 := by omega
                      rw [ei, show 16 * (r - 1) + 16 = 16 * (r + 1 - 1) by omega] at d1
                      have htw := hid (show tw (pwr (r - 1)) = pwr (r + 1 - 1) by rw [Nat.add_sub_cancel]; obtain ⟨q, rfl⟩ : ∃ q, r = q + 1 := ⟨r - 1, by omega⟩; rfl)
                      clear ei hli hi
                      go_wp2_with (go_at_call 20; refine (twice_any _).mono ?_; rintro e w' ⟨rfl, rfl⟩; rw [htw.out])
                      go_roundw
                      case rel => exact ⟨r + 1, by omega, by omega, by go_num, rfl, d1, g, by have := d1.lt; omega⟩
                      case measure => simp [intOf]; omega
                · have hd3 : decide ((r : Int) < 11) = false := by simp; omega
                  have er : r = 11 := by omega
                  rw [er] at b6
                  have HT := hid (show TT (KS subT key (16 * (11 - 1))) subT unsT = ciT s.data.toList by rw [Hkey.out]; rfl)
                  rw [HT.out] at b6
                  clear er hlt hr1 hr
                  go_wp2_with fail
                  go_ret2
                  exact ⟨N, rfl, b6, by have := HN.out; omega, f9⟩
end Go.Proofs.Ytnkcogaaajkplaa
