/- Layer 4: SealBack, the walk. -/
import Derived.Test.YtjffhlhpapjnnaaGSealTexts
import Derived.Test.YtjffhlhpapjnnaaGCore
namespace Go.Xr
open Go
set_option linter.unusedVariables false
theorem quiet_len_s {P : Program} {ops : Array Oper} {S : World → Prop} {a : Act} {o : Oper} {rest : List Oper} {Q' : Act → Prop} (hg : Region.wanted o (yielded ops a.tmps) = true) (x : Operand) (t : TypeId) (ho : o.op = .call { callee := .builtin .len, args := #[x], argTypes := #[t] }) {ad : Option Addr} {n c : Nat} (hx : a.eval x = .slice ad n c) (e : TypeId) (ht : P.underlying t = some (.slice e))
    (h : wpQuiet P ops S Q' rest (a.put o.dst (.int .i64 n))) : wpQuiet P ops S Q' (o :: rest) a := by
  refine wpQuiet_step fun K hK => ?_
  rw [if_pos hg]
  refine ⟨.int .i64 n, fun w hC => ?_, hK _ h⟩
  unfold Oper.quietAt execOp
  simp [ho, hx, resolve, invoke, builtin, Builtin.len_, run_underlying ht, Sem.run_bind, Oper.quietUpon]
  rfl
theorem run_slice_low {P : Program} (w : World) (t : TypeId) {b off n c : Nat} (kl : IntKind) (li : Int) (l : Nat) (hl : li = l) (h1 : l ≤ n) (h3 : l < c) (e : TypeId) (ht : P.underlying t = some (.slice e)) (hs : (P.info? e).map (·.size) = some 1) :
    (Instr.sliceAt t (.slice (some ⟨b, off, none⟩) n c) (some (.int kl li)) none none).run P w = .ok (.slice (some ⟨b, off + l, none⟩) (n - l) (c - l)) w := by
  subst hl
  cases hq : P.info? e with
  | none => simp [hq] at hs
  | some i =>
    have hs1 : i.size = 1 := by simpa [hq] using hs
    have he := elem_of ht
    have hr1 := run_sliceAt_slice (P := P) w t (.slice (some ⟨b, off, none⟩) n c) (some (.int kl l)) none none (by rw [he]; exact ht)
    have hr2 := run_slice_l (P := P) w t (some ⟨b, off, none⟩) n c (by rw [he]; exact ht) kl l (by omega) (by omega)
    have hsz : (sizeOf (P.elem t)).run P w = .ok 1 w := by rw [he]; simp [sizeOf, typeInfo, hq, hs1]
    have hv : sliced (some ⟨b, off, none⟩) l n c 1 = .slice (some ⟨b, off + l, none⟩) (n - l) (c - l) := by
      unfold sliced
      rw [if_neg (by omega), Nat.mul_one]
      unfold Addr.add
      by_cases h0 : l = 0
      · subst h0; rfl
      · simp [h0]
    rw [hr1, hr2, hsz]
    simp only [Result.andThen_ok, Int.toNat_natCast, hv]
end Go.Xr
namespace Go.Proofs.Ytjffhlhpapjnnaa
open Go Go.Xr Go.RowKit Go.Proofs.Ytjffhlhpapjnnaa.aes
set_option linter.unusedVariables false
set_option linter.unusedSimpArgs false

set_option maxRecDepth 20000 in
/-- The tag of what stands ahead of a sealed text's own. -/
theorem tagged_any {w : World} (c m label S : ByteArray) (hm : m.size = 32) (h1 : 32 ≤ S.size) (h2 : S.size ≤ 1099500) (hl : label.size < 1099500000000) :
    Calls Try.prog 22 #[.agg #[.string c, .string m], .string label, .string S] w fun e w' => e = .returned (.string (tagS m label (S.extract 0 (S.size - 32)))) ∧ Fr [] w w' := by
  obtain ⟨i9, hi9, hz9, hs9⟩ := inf9
  have Hi9 := hid hi9
  have Hz9 := hid hz9
  have Hs9 := hid hs9
  have hAs : (S.extract 0 (S.size - 32)).size ≤ 1099500 := by simp; omega
  have Ha := hid fun (w0 : World) (v : Value) (b : Nat) (hv : Rc w0 1 v 2 ([label, S.extract 0 (S.size - 32)].map .string) (some b)) => rall_any (l := [label, S.extract 0 (S.size - 32)]) m (by omega) hv (by rw [allL_two]; omega)
  obtain ⟨Z, hZ⟩ : ∃ Z, macS m (allS [label, S.extract 0 (S.size - 32)]) = Z := ⟨_, rfl⟩
  have hZ2 : tagS m label (S.extract 0 (S.size - 32)) = Z := hZ
  rw [hZ] at Ha
  rw [hZ2]
  clear hi9 hz9 hs9 hZ hZ2 hAs hm hl
  go_enter Try.func22, Try.ntmps22
  go_wp2_with (refine wpList_box rfl _ _ rfl [.string c, .string m] rfl ?_; intro w1 f1 hlt1 hb1; simp only [World.size_alloc, World.size_drew, Act.put, List.setIfInBounds_toArray, List.set_cons_succ, List.set_cons_zero])
  refine wp_region_D (fun w' => Blk w' w.heap.size [.string c, .string m]) false [] (by kernel_rfl) ?_
  refine WD.pure [2, 3, 4, 5, 6, 7] (by kernel_rfl) hb1.drew ?_
  simp only [pick, List.toList_toArray, List.map_cons, List.map_nil, List.getD_cons_succ, List.getD_cons_zero]
  repeat (first | go_big_quiet_step (fail) | (refine quiet_load_1S rfl _ _ rfl rfl (.string m) (fun _ h => h.cell 1) _ Try.underlying9 rfl ?_; simp only [World.size_alloc, World.size_drew, Act.put, List.setIfInBounds_toArray, List.set_cons_succ, List.set_cons_zero]))
  refine wpQuiet_nil ?_
  refine WD.free [0] (by kernel_rfl) hb1.drew ?_
  simp only [pick, List.toList_toArray, List.map_cons, List.map_nil, List.getD_cons_succ, List.getD_cons_zero]
  repeat (first | go_big_quiet_step (fail) | (refine quiet_load_1S rfl _ _ rfl rfl (.string m) (fun _ h => h.cell 1) _ Try.underlying9 rfl ?_; simp only [World.size_alloc, World.size_drew, Act.put, List.setIfInBounds_toArray, List.set_cons_succ, List.set_cons_zero]))
  refine wpQuiet_nil ?_
  refine WD.held [1] (by kernel_rfl) hb1.drew ?_
  simp only [pick, List.toList_toArray, List.map_cons, List.map_nil, List.getD_cons_succ, List.getD_cons_zero]
  repeat (first | go_big_quiet_step (fail) | (refine quiet_load_1S rfl _ _ rfl rfl (.string m) (fun _ h => h.cell 1) _ Try.underlying9 rfl ?_; simp only [World.size_alloc, World.size_drew, Act.put, List.setIfInBounds_toArray, List.set_cons_succ, List.set_cons_zero]))
  refine wpQuiet_nil ?_
  refine WD.eff 8 (by kernel_rfl) ?_
  simp only [pick, List.toList_toArray, List.map_cons, List.map_nil, List.getD_cons_succ, List.getD_cons_zero]
  refine wpList_buildSlice_any rfl _ 2 _ rfl 9 Try.underlying56 _ _ Hi9.out Hz9.out rfl Hs9.out (by decide) (by decide) rfl [.string label, .string (S.extract 0 (S.size - 32))] rfl (by simp [Value.oneCell']) ?_
  intro w3 f3 hlt3 hb3
  have b3 := f3.blk hb1.drew (by simp)
  try refine wpList_nil ?_
  refine AfterD.on b3 (by kernel_rfl) ?_
  try simp only [World.size_alloc, World.size_drew, Act.put, List.setIfInBounds_toArray, List.set_cons_succ, List.set_cons_zero]
  refine WD.eff 9 (by kernel_rfl) ?_
  simp only [pick, List.toList_toArray, List.map_cons, List.map_nil, List.getD_cons_succ, List.getD_cons_zero]
  go_wp2_with fail
  refine (Ha.out _ _ _ (rc_of_blk hb3 rfl (show 2 ≤ maxLen by unfold maxLen; omega))).mono ?_
  rintro e w4 ⟨rfl, f4⟩
  go_wp2_with fail
  try refine wpList_nil ?_
  refine AfterD.on (f4.blk b3 (by simp)) (by kernel_rfl) ?_
  try simp only [World.size_alloc, World.size_drew, Act.put, List.setIfInBounds_toArray, List.set_cons_succ, List.set_cons_zero]
  refine WD.pure [10] (by kernel_rfl) (f4.blk b3 (by simp)) ?_
  simp only [pick, List.toList_toArray, List.map_cons, List.map_nil, List.getD_cons_succ, List.getD_cons_zero]
  repeat (first | go_big_quiet_step (fail) | (refine quiet_load_1S rfl _ _ rfl rfl (.string m) (fun _ h => h.cell 1) _ Try.underlying9 rfl ?_; simp only [World.size_alloc, World.size_drew, Act.put, List.setIfInBounds_toArray, List.set_cons_succ, List.set_cons_zero]))
  refine wpQuiet_nil ?_
  refine WD.done (by kernel_rfl) ?_
  go_wp2_with fail
  go_ret
  exact ⟨rfl, ((f1.drew).trans' f3).trans' f4⟩
theorem eqg_u8_n (op : BinOp) (t : TypeId) (x y : Operand) (a : UInt8) (n : Int) : eqGuard op t x y (bt a) (.int .u8 n) = pure () := by cases op <;> rfl
attribute [local go_sem] eqg_u8_n eql_u8_c xor_u8
theorem openE_in (c m label S : ByteArray) (hc : c.size = 16) (hm : m.size = 32) (h1 : 40 ≤ S.size) (h2 : S.size ≤ 1048616) : openE c m label S = if tagOk m label S then 0 else 7 := by
  simp [openE, openB, mayS, hc, hm, h1, h2]
def codeS (b : Bool) : Int := if b then 0 else 7
theorem and_24 (n : Int) : ∃ k : Nat, k ≤ 16777215 ∧ ∀ t, binOp .and t (.int .i64 n) (.int .i64 16777215) = pure (.int .i64 (k : Int)) := by
  refine ⟨(BitVec.ofInt 64 n &&& BitVec.ofInt 64 16777215).toNat, ?_, fun t => ?_⟩
  · rw [BitVec.toNat_and]
    exact Nat.and_le_right
  · have h : (BitVec.ofInt 64 n &&& BitVec.ofInt 64 16777215).toNat ≤ 16777215 := by
      rw [BitVec.toNat_and]
      exact Nat.and_le_right
    have e : IntKind.i64.wrap ((BitVec.ofInt 64 n &&& BitVec.ofInt 64 16777215).toNat : Int) = ((BitVec.ofInt 64 n &&& BitVec.ofInt 64 16777215).toNat : Int) := IntWalk.i64_in _ ⟨by omega, by omega⟩
    exact congrArg (fun x => (pure (Value.int .i64 x) : Sem Value)) e

set_option maxRecDepth 20000 in
set_option maxHeartbeats 20000000 in
theorem back_walk {w : World} (ms label other s : ByteArray) (x : UInt64) (pos : Int) (y : UInt8) (hm : ms.size ≤ 140737488351232) (hl : label.size ≤ 140737488351232) (ho : other.size ≤ 140737488351232) (hs : s.size ≤ 140737488351232) :
    Calls Try.prog 6 #[.string ms, .string label, .string other, .string s, .int .u64 (x.toNat : Int), .int .i64 pos, .int .u8 (y.toNat : Int)] w fun e w' => e = .returned (.bool true) ∧ Fr [] w w' := by
  rw [← val_u64, ← val_u8]
  obtain ⟨k, hk, hand⟩ := and_24 pos
  by_cases hbig : 2048 < ms.size + label.size + other.size + s.size
  case pos =>
    have hd1 : decide (2048 < (ms.size : Int) + (label.size : Int) + (other.size : Int) + (s.size : Int)) = true := by simp; omega
    have hd2 : decide (2048 < ms.size + label.size + other.size + s.size) = true := by simp; omega
    clear hbig
    go_enter Try.func6, Try.ntmps6
    go_wp2_with fail
    refine alive_any.mono ?_
    rintro e w2 ⟨rfl, f2⟩
    go_wp2_with fail
    go_ret
    exact ⟨rfl, f2⟩
  case neg =>
    have hd1 : decide (2048 < (ms.size : Int) + (label.size : Int) + (other.size : Int) + (s.size : Int)) = false := by simp; omega
    have hd2 : decide (2048 < ms.size + label.size + other.size + s.size) = false := by simp; omega
    have hl2 : label.size ≤ 2048 := by omega
    have ho2 : other.size ≤ 2048 := by omega
    have hs2 : s.size ≤ 2048 := by omega
    clear hbig
    go_enter Try.func6, Try.ntmps6
    go_wp2_with fail
    by_cases h32 : ms.size = 32
    case neg =>
      have hd : ((ms.size : Int) != 32) = true := by simp; omega
      refine (keys_bad ms label h32 (by omega)).mono ?_
      rintro e w1 ⟨rfl, f1⟩
      clear h32
      go_wp2_with fail
      refine alive_any.mono ?_
      rintro e w2 ⟨rfl, f2⟩
      go_wp2_with fail
      go_ret
      exact ⟨rfl, (f1.alloc _).trans' f2⟩
    case pos =>
      have hC := keyC_size ms label
      have hM := keyM_size ms label
      refine (keys_any ms label h32 (by omega)).mono ?_
      rintro e w1 ⟨rfl, f1⟩
      generalize keyC ms label = C at hC ⊢
      generalize keyM ms label = M at hM ⊢
      have g1 := f1.alloc (.cells [Value.string C, Value.string M].toArray 23)
      have hB := Blk.alloc w1 [Value.string C, Value.string M] 23
      have Hse := hid fun (w0 : World) => seal_good (w := w0) C M label s x hC hM (by omega) (by omega)
      obtain ⟨A, hA⟩ : ∃ A, sealT C M (n8 x) label s = A := ⟨_, rfl⟩
      have hAs : A.size = s.size + 40 := by rw [← hA, sealT_size, n8_size]; omega
      have HAs := hid hAs
      obtain ⟨X, hX⟩ : ∃ X, tagS M label (A.extract 0 (A.size - 32)) = X := ⟨_, rfl⟩
      have hXt : A.extract (A.size - 32) A.size = X := by rw [← hX, ← hA, sealT_tail, sealT_head]
      have Hop1 := hid fun (w0 : World) => open_any (w := w0) C M label A (by omega) (by omega) (by omega) (by omega)
      rw [show openR C M label A = s by rw [← hA]; exact openR_seal _ _ _ _ _ hC hM (n8_size x) (by omega), show openE C M label A = 0 by rw [← hA]; exact openE_seal _ _ _ _ _ hC hM (n8_size x) (by omega)] at Hop1
      obtain ⟨Y, hY⟩ : ∃ Y, tagS M other (A.extract 0 (A.size - 32)) = Y := ⟨_, rfl⟩
      have Hop2 := hid fun (w0 : World) => open_any (w := w0) C M other A (by omega) (by omega) (by omega) (by omega)
      rw [show openE C M other A = codeS (decide (Y = X)) by rw [openE_in _ _ _ _ hC hM (by omega) (by omega)]; unfold tagOk; rw [hY, hXt]; rfl] at Hop2
      obtain ⟨R2, hR2⟩ : ∃ R2, openR C M other A = R2 := ⟨_, rfl⟩
      rw [hR2] at Hop2
      have Hta := hid fun (w0 : World) => tagged_any (w := w0) C M label A hM (by omega) (by omega) (by omega)
      rw [hX] at Hta
      have Hto := hid fun (w0 : World) => tagged_any (w := w0) C M other A hM (by omega) (by omega) (by omega)
      rw [hY] at Hto
      have Hxy := hid (beq_str2 Y X)
      rw [hA] at Hse
      have hA40 : ((A.size : Int) != (s.size : Int) + 40) = false := by simp; omega
      have Hlo := hid (beq_str2 other label)
      have H3 : Hid (∀ (w0 : World) (A' : ByteArray), A'.size = A.size → Calls Try.prog 17 #[.agg #[.string C, .string M], .string label, .string A'] w0 fun e w' => (∃ r, e = .returned (.tuple #[.string r, .int .i64 (codeS (tagOk M label A'))])) ∧ Fr [] w0 w') := hid fun w0 A' hz => by
        have := open_any (w := w0) C M label A' (by omega) (by omega) (by omega) (by omega)
        rw [openE_in _ _ _ _ hC hM (by omega) (by omega)] at this
        exact this.mono fun e w' ⟨h1, h2⟩ => ⟨⟨_, h1⟩, h2⟩
      have H4 : Hid (∀ (w0 : World) (A' : ByteArray), A'.size = A.size → Calls Try.prog 22 #[.agg #[.string C, .string M], .string label, .string A'] w0 fun e w' => e = .returned (.string (tagS M label (A'.extract 0 (A'.size - 32)))) ∧ Fr [] w0 w') := hid fun w0 A' hz => tagged_any C M label A' hM (by omega) (by omega) (by omega)
      obtain ⟨j, hj⟩ : ∃ j : Nat, k % A.size = j := ⟨_, rfl⟩
      have hjA : j < A.size := by rw [← hj]; exact Nat.mod_lt _ (by omega)
      have hrem : (k : Int) % (A.size : Int) = (j : Int) := by rw [← hj]; simp
      have Hne := hid (fun h : A.size = 0 => (by omega : False))
      obtain ⟨L, hL⟩ : ∃ L, A.data.toList = L := ⟨_, rfl⟩
      have HL := hid hL
      have HLl := hid (show L.length = A.size by rw [← hL]; exact ba_len A)
      have Hmx := hid (show A.size ≤ maxLen by unfold maxLen; omega)
      have HC := hid hC
      have HM := hid hM
      have hA2 : A.size ≤ 2088 := by omega
      have hA3 : 40 ≤ A.size := by omega
      clear hA hAs hX hXt hY hR2 hC hM h32 f1 hL
      go_wp2_with fail
      refine (Hse.out _).mono ?_
      rintro e w2 ⟨rfl, f2⟩
      have hB := f2.blk hB (by simp)
      have k0 := hB.cell 0
      have k1 := hB.cell 1
      have g2 := g1.trans' f2
      clear f2 g1
      go_wp2_with fail
      refine (Hop1.out _).mono ?_
      rintro e w3 ⟨rfl, f3⟩
      have hB := f3.blk hB (by simp)
      have g3 := g2.trans' f3
      clear f3 g2 k0 k1
      have k0 := hB.cell 0
      have k1 := hB.cell 1
      by_cases hol : other = label
      case pos =>
        have hlo : (other.toList == label.toList) = true := by rw [Hlo.out]; exact decide_eq_true hol
        clear hol Hlo
        by_cases hy0 : y = 0
        case pos =>
          have hy : ((y.toNat : Int) == 0) = true := by rw [hy0]; rfl
          clear hy0
          go_wp2_with fail
          refine alive_any.mono ?_
          rintro e w9 ⟨rfl, f9⟩
          go_wp2_with fail
          go_ret
          exact ⟨rfl, (g3).trans' f9⟩
        case neg =>
          have hy : ((y.toNat : Int) == 0) = false := by
            rw [beq_eq_false_iff_ne]
            intro h
            exact hy0 (UInt8.toNat_inj.1 (by rw [show (0 : UInt8).toNat = 0 from rfl]; omega))
          clear hy0
          go_wp2_with (first
            | (refine wpList_bytes_own rfl 9 46 5 _ rfl A rfl Hmx.out Try.underlying9 Try.underlying46 Try.underlying5 ?_; intro w7 c7 f7 hlt7 ho7; rw [HL.out] at ho7; obtain ⟨cs7, hb7, hl7, ht7, hre7⟩ := ho7.blkOf; have k7 : w7.cell? ⟨(w3).heap.size, j, none⟩ = some (bt (g8 L j)) := (by rw [hb7.cell, show cs7[j]? = (cs7.take A.size)[j]? by (rw [List.getElem?_take, if_pos hjA]), ht7, bv_getElem?, g8_eq L j (by rw [HLl.out]; exact hjA)]; rfl); have hB7 := f7.blk hB (by simp); simp only [World.size_alloc, World.size_drew, Act.put, List.setIfInBounds_toArray, List.set_cons_succ, List.set_cons_zero])
            | (refine wpList_put rfl _ _ _ rfl rfl (bt (g8 L j ^^^ y)) rfl rfl hb7 (by omega) (by kernel_rfl) ?_; intro w8 f8 hb8 hs8; have hB8 := f8.blk hB7 (by have := hB.lt; simp; omega); have k80 := hB8.cell 0; have k81 := hB8.cell 1; have ho8 := hre7 w8 _ hb8 (by rw [List.length_set]); rw [List.take_set, ht7, ← bv_set] at ho8; simp only [World.size_alloc, World.size_drew, Act.put, List.setIfInBounds_toArray, List.set_cons_succ, List.set_cons_zero])
            | (refine wpList_string_of_own rfl 46 9 5 _ rfl rfl ho8 Try.underlying46 Try.underlying5 Try.underlying9 ?_; simp only [World.size_alloc, World.size_drew, Act.put, List.setIfInBounds_toArray, List.set_cons_succ, List.set_cons_zero]))
          obtain ⟨L2, hL2⟩ : ∃ L2, L.set j (g8 L j ^^^ y) = L2 := ⟨_, rfl⟩
          have HL2l := hid (show L2.length = A.size by rw [← hL2, List.length_set]; exact HLl.out)
          rw [hL2] at ho8 ⊢
          obtain ⟨D, hD⟩ : ∃ D : ByteArray, ⟨L2.toArray⟩ = D := ⟨_, rfl⟩
          have HDs := hid (show D.size = A.size by rw [← hD, size_mk', HL2l.out])
          have HDl := hid (show D.data.toList = L2 by rw [← hD])
          have HD := hid hD
          rw [hD]
          have G8 : Fr [] w w8 := ((g3).trans' f7).trans f8 (by have := (g3).size; simp; omega)
          clear hL2 hD k7 k80 k81 hb8 hb7 hre7 ht7 hl7 hB7 f7 f8 hs8 hy ho7 hlt7
          refine (H3.out _ D HDs.out).mono ?_
          rintro e w9 ⟨⟨r, rfl⟩, f9⟩
          have hB9 := f9.blk hB8 (by simp)
          have ho9 := ho8.keep f9 (by simp)
          have G9 := G8.trans' f9
          clear f9 G8 hB8 ho8
          obtain ⟨T, hT⟩ : ∃ T, D.extract (D.size - 32) D.size = T := ⟨_, rfl⟩
          obtain ⟨Z, hZ⟩ : ∃ Z, tagS M label (D.extract 0 (D.size - 32)) = Z := ⟨_, rfl⟩
          have Hz4 := hid fun w0 : World => H4.out w0 D HDs.out
          rw [hZ] at Hz4
          have hzt : (Z.toList == T.toList) = tagOk M label D := by rw [beq_str2, ← hZ, ← hT]; rfl
          obtain ⟨b7, hb7⟩ : ∃ b7, (w3).heap.size = b7 := ⟨_, rfl⟩
          rw [hb7] at ho9 ⊢
          obtain ⟨cs9, hb9, hl9, ht9, _⟩ := ho9.blkOf
          obtain ⟨_, c9, e1, e2, hc9, hm9, _⟩ := ho9.opened (by omega)
          obtain rfl : c7 = c9 := by simp at e2; exact e2.2
          have Hc1 := hid (show (convert 46 9 (.slice (some ⟨b7, 0, none⟩) A.size c7)).run Try.prog w9.drew = .ok (.string D) w9.drew by
            rw [← HD.out]
            exact run_string_of_own _ _ _ 5 (ho9.keep ((Fr.refl [] w9).drew) (by simp)) Try.underlying46 Try.underlying5 Try.underlying9)
          have Hc2 := hid (show ∀ w0 : World, Blk w0 b7 cs9 → (convert 46 9 (.slice (some ⟨b7, 0 + (A.size - 32), none⟩) (A.size - (A.size - 32)) (c7 - (A.size - 32)))).run Try.prog w0 = .ok (.string T) w0 from fun w0 h => by
            have hlen : (L2.drop (A.size - 32)).length = A.size - (A.size - 32) := by rw [List.length_drop, HL2l.out]
            have := run_string_of_bytes (P := Try.prog) w0 46 9 5 (off := 0 + (A.size - 32)) h (L2.drop (A.size - 32)) (c7 - (A.size - 32)) (by rw [hlen, Nat.zero_add, ← List.drop_take, ht9, bv_drop]) Try.underlying46 Try.underlying5 Try.underlying9
            rw [hlen] at this
            rw [this]
            congr 2
            apply ba_ext
            rw [← hT, ext_list, HDs.out, HDl.out, List.take_of_length_le (by rw [HL2l.out]; exact Nat.le_refl _)])
          have Hsl := hid (show ∀ w0 : World, (Instr.sliceAt 46 (.slice (some ⟨b7, 0, none⟩) A.size c7) (some (.int .i64 ((A.size : Int) - 32))) none none).run Try.prog w0 = .ok (.slice (some ⟨b7, 0 + (A.size - 32), none⟩) (A.size - (A.size - 32)) (c7 - (A.size - 32))) w0 from fun w0 =>
            run_slice_low w0 _ .i64 _ (A.size - 32) (by omega) (by omega) (by omega) 5 Try.underlying46 (by kernel_rfl))
          have hB := hB9.drew
          have hbd := hb9.drew
          have HZT := hid hzt
          clear hzt hT hZ e1 e2 ho9 hb9 hB9 ht9 hm9
          cases htg : tagOk M label D
          all_goals
            rw [htg] at HZT
            have hzt := HZT.out
            clear htg
            unfold codeS
            try rw [if_pos rfl]
            try rw [if_neg (by decide)]
            go_wp2_with fail
            refine wp_region_D (fun w' => Blk w' w1.heap.size [.string C, .string M] ∧ Blk w' b7 cs9) false [] (by kernel_rfl) ?_
            refine WD.pure [2, 3, 4, 5] (by kernel_rfl) ⟨hB, hbd⟩ ?_
            simp only [pick, List.toList_toArray, List.map_cons, List.map_nil, List.getD_cons_succ, List.getD_cons_zero]
            repeat (first | (refine quiet_load_aggW (by rfl) _ _ rfl rfl [.string C, .string M] (fun _ h => by cases h; exact hB) _ Try.underlying23 rfl keyT rfl ?_; simp only [World.size_alloc, World.size_drew, Act.put, List.setIfInBounds_toArray, List.set_cons_succ, List.set_cons_zero]) | (refine quiet_len_s (by rfl) _ _ rfl rfl 5 Try.underlying46 ?_; simp only [World.size_alloc, World.size_drew, Act.put, List.setIfInBounds_toArray, List.set_cons_succ, List.set_cons_zero]) | (refine quiet_conv_v (by rfl) _ _ _ rfl _ rfl (.string D) (fun w0 h => by cases h; exact Hc1.out) ?_; simp only [World.size_alloc, World.size_drew, Act.put, List.setIfInBounds_toArray, List.set_cons_succ, List.set_cons_zero]) | (refine quiet_slice_vW (by rfl) _ _ _ _ rfl _ rfl _ _ rfl rfl (.slice (some ⟨b7, 0 + (A.size - 32), none⟩) (A.size - (A.size - 32)) (c7 - (A.size - 32))) (fun w0 _ => Hsl.out w0) ?_; simp only [World.size_alloc, World.size_drew, Act.put, List.setIfInBounds_toArray, List.set_cons_succ, List.set_cons_zero]) | (refine quiet_conv_v (by rfl) _ _ _ rfl _ rfl (.string T) (fun w0 h => Hc2.out w0 h.2) ?_; simp only [World.size_alloc, World.size_drew, Act.put, List.setIfInBounds_toArray, List.set_cons_succ, List.set_cons_zero]) | go_big_quiet_step (fail))
            refine wpQuiet_nil ?_
            refine WD.free [0, 1, 7, 8] (by kernel_rfl) ⟨hB, hbd⟩ ?_
            simp only [pick, List.toList_toArray, List.map_cons, List.map_nil, List.getD_cons_succ, List.getD_cons_zero]
            repeat (first | (refine quiet_load_aggW (by rfl) _ _ rfl rfl [.string C, .string M] (fun _ h => by cases h; exact hB) _ Try.underlying23 rfl keyT rfl ?_; simp only [World.size_alloc, World.size_drew, Act.put, List.setIfInBounds_toArray, List.set_cons_succ, List.set_cons_zero]) | (refine quiet_len_s (by rfl) _ _ rfl rfl 5 Try.underlying46 ?_; simp only [World.size_alloc, World.size_drew, Act.put, List.setIfInBounds_toArray, List.set_cons_succ, List.set_cons_zero]) | (refine quiet_conv_v (by rfl) _ _ _ rfl _ rfl (.string D) (fun w0 h => by cases h; exact Hc1.out) ?_; simp only [World.size_alloc, World.size_drew, Act.put, List.setIfInBounds_toArray, List.set_cons_succ, List.set_cons_zero]) | (refine quiet_slice_vW (by rfl) _ _ _ _ rfl _ rfl _ _ rfl rfl (.slice (some ⟨b7, 0 + (A.size - 32), none⟩) (A.size - (A.size - 32)) (c7 - (A.size - 32))) (fun w0 _ => Hsl.out w0) ?_; simp only [World.size_alloc, World.size_drew, Act.put, List.setIfInBounds_toArray, List.set_cons_succ, List.set_cons_zero]) | (refine quiet_conv_v (by rfl) _ _ _ rfl _ rfl (.string T) (fun w0 h => Hc2.out w0 h.2) ?_; simp only [World.size_alloc, World.size_drew, Act.put, List.setIfInBounds_toArray, List.set_cons_succ, List.set_cons_zero]) | go_big_quiet_step (fail))
            refine wpQuiet_nil ?_
            refine WD.held [9] (by kernel_rfl) ⟨hB, hbd⟩ ?_
            simp only [pick, List.toList_toArray, List.map_cons, List.map_nil, List.getD_cons_succ, List.getD_cons_zero]
            repeat (first | (refine quiet_load_aggW (by rfl) _ _ rfl rfl [.string C, .string M] (fun _ h => by cases h; exact hB) _ Try.underlying23 rfl keyT rfl ?_; simp only [World.size_alloc, World.size_drew, Act.put, List.setIfInBounds_toArray, List.set_cons_succ, List.set_cons_zero]) | (refine quiet_len_s (by rfl) _ _ rfl rfl 5 Try.underlying46 ?_; simp only [World.size_alloc, World.size_drew, Act.put, List.setIfInBounds_toArray, List.set_cons_succ, List.set_cons_zero]) | (refine quiet_conv_v (by rfl) _ _ _ rfl _ rfl (.string D) (fun w0 h => by cases h; exact Hc1.out) ?_; simp only [World.size_alloc, World.size_drew, Act.put, List.setIfInBounds_toArray, List.set_cons_succ, List.set_cons_zero]) | (refine quiet_slice_vW (by rfl) _ _ _ _ rfl _ rfl _ _ rfl rfl (.slice (some ⟨b7, 0 + (A.size - 32), none⟩) (A.size - (A.size - 32)) (c7 - (A.size - 32))) (fun w0 _ => Hsl.out w0) ?_; simp only [World.size_alloc, World.size_drew, Act.put, List.setIfInBounds_toArray, List.set_cons_succ, List.set_cons_zero]) | (refine quiet_conv_v (by rfl) _ _ _ rfl _ rfl (.string T) (fun w0 h => Hc2.out w0 h.2) ?_; simp only [World.size_alloc, World.size_drew, Act.put, List.setIfInBounds_toArray, List.set_cons_succ, List.set_cons_zero]) | go_big_quiet_step (fail))
            refine wpQuiet_nil ?_
            refine WD.free [10, 11] (by kernel_rfl) ⟨hB, hbd⟩ ?_
            simp only [pick, List.toList_toArray, List.map_cons, List.map_nil, List.getD_cons_succ, List.getD_cons_zero]
            repeat (first | (refine quiet_load_aggW (by rfl) _ _ rfl rfl [.string C, .string M] (fun _ h => by cases h; exact hB) _ Try.underlying23 rfl keyT rfl ?_; simp only [World.size_alloc, World.size_drew, Act.put, List.setIfInBounds_toArray, List.set_cons_succ, List.set_cons_zero]) | (refine quiet_len_s (by rfl) _ _ rfl rfl 5 Try.underlying46 ?_; simp only [World.size_alloc, World.size_drew, Act.put, List.setIfInBounds_toArray, List.set_cons_succ, List.set_cons_zero]) | (refine quiet_conv_v (by rfl) _ _ _ rfl _ rfl (.string D) (fun w0 h => by cases h; exact Hc1.out) ?_; simp only [World.size_alloc, World.size_drew, Act.put, List.setIfInBounds_toArray, List.set_cons_succ, List.set_cons_zero]) | (refine quiet_slice_vW (by rfl) _ _ _ _ rfl _ rfl _ _ rfl rfl (.slice (some ⟨b7, 0 + (A.size - 32), none⟩) (A.size - (A.size - 32)) (c7 - (A.size - 32))) (fun w0 _ => Hsl.out w0) ?_; simp only [World.size_alloc, World.size_drew, Act.put, List.setIfInBounds_toArray, List.set_cons_succ, List.set_cons_zero]) | (refine quiet_conv_v (by rfl) _ _ _ rfl _ rfl (.string T) (fun w0 h => Hc2.out w0 h.2) ?_; simp only [World.size_alloc, World.size_drew, Act.put, List.setIfInBounds_toArray, List.set_cons_succ, List.set_cons_zero]) | go_big_quiet_step (fail))
            refine wpQuiet_nil ?_
            refine WD.held [12] (by kernel_rfl) ⟨hB, hbd⟩ ?_
            simp only [pick, List.toList_toArray, List.map_cons, List.map_nil, List.getD_cons_succ, List.getD_cons_zero]
            repeat (first | (refine quiet_load_aggW (by rfl) _ _ rfl rfl [.string C, .string M] (fun _ h => by cases h; exact hB) _ Try.underlying23 rfl keyT rfl ?_; simp only [World.size_alloc, World.size_drew, Act.put, List.setIfInBounds_toArray, List.set_cons_succ, List.set_cons_zero]) | (refine quiet_len_s (by rfl) _ _ rfl rfl 5 Try.underlying46 ?_; simp only [World.size_alloc, World.size_drew, Act.put, List.setIfInBounds_toArray, List.set_cons_succ, List.set_cons_zero]) | (refine quiet_conv_v (by rfl) _ _ _ rfl _ rfl (.string D) (fun w0 h => by cases h; exact Hc1.out) ?_; simp only [World.size_alloc, World.size_drew, Act.put, List.setIfInBounds_toArray, List.set_cons_succ, List.set_cons_zero]) | (refine quiet_slice_vW (by rfl) _ _ _ _ rfl _ rfl _ _ rfl rfl (.slice (some ⟨b7, 0 + (A.size - 32), none⟩) (A.size - (A.size - 32)) (c7 - (A.size - 32))) (fun w0 _ => Hsl.out w0) ?_; simp only [World.size_alloc, World.size_drew, Act.put, List.setIfInBounds_toArray, List.set_cons_succ, List.set_cons_zero]) | (refine quiet_conv_v (by rfl) _ _ _ rfl _ rfl (.string T) (fun w0 h => Hc2.out w0 h.2) ?_; simp only [World.size_alloc, World.size_drew, Act.put, List.setIfInBounds_toArray, List.set_cons_succ, List.set_cons_zero]) | go_big_quiet_step (fail))
            refine wpQuiet_nil ?_
            refine WD.eff 6 (by kernel_rfl) ?_
            simp only [pick, List.toList_toArray, List.map_cons, List.map_nil, List.getD_cons_succ, List.getD_cons_zero]
            go_wp2_with fail
            refine (Hz4.out _).mono ?_
            rintro e w10 ⟨rfl, f10⟩
            have hB := f10.blk hB (by simp)
            have hbd := f10.blk hbd (by simp)
            have G10 := (G9.drew).trans' f10
            clear f10 G9
            go_wp2_with fail
            try refine wpList_nil ?_
            refine AfterD.on ⟨hB, hbd⟩ (by kernel_rfl) ?_
            try simp only [World.size_alloc, World.size_drew, Act.put, List.setIfInBounds_toArray, List.set_cons_succ, List.set_cons_zero]
            refine WD.pure [13, 14, 15, 16, 17, 18, 19, 20, 21, 22, 23] (by kernel_rfl) ⟨hB, hbd⟩ ?_
            simp only [pick, List.toList_toArray, List.map_cons, List.map_nil, List.getD_cons_succ, List.getD_cons_zero]
            repeat (first | (refine quiet_load_aggW (by rfl) _ _ rfl rfl [.string C, .string M] (fun _ h => by cases h; exact hB) _ Try.underlying23 rfl keyT rfl ?_; simp only [World.size_alloc, World.size_drew, Act.put, List.setIfInBounds_toArray, List.set_cons_succ, List.set_cons_zero]) | (refine quiet_len_s (by rfl) _ _ rfl rfl 5 Try.underlying46 ?_; simp only [World.size_alloc, World.size_drew, Act.put, List.setIfInBounds_toArray, List.set_cons_succ, List.set_cons_zero]) | (refine quiet_conv_v (by rfl) _ _ _ rfl _ rfl (.string D) (fun w0 h => by cases h; exact Hc1.out) ?_; simp only [World.size_alloc, World.size_drew, Act.put, List.setIfInBounds_toArray, List.set_cons_succ, List.set_cons_zero]) | (refine quiet_slice_vW (by rfl) _ _ _ _ rfl _ rfl _ _ rfl rfl (.slice (some ⟨b7, 0 + (A.size - 32), none⟩) (A.size - (A.size - 32)) (c7 - (A.size - 32))) (fun w0 _ => Hsl.out w0) ?_; simp only [World.size_alloc, World.size_drew, Act.put, List.setIfInBounds_toArray, List.set_cons_succ, List.set_cons_zero]) | (refine quiet_conv_v (by rfl) _ _ _ rfl _ rfl (.string T) (fun w0 h => Hc2.out w0 h.2) ?_; simp only [World.size_alloc, World.size_drew, Act.put, List.setIfInBounds_toArray, List.set_cons_succ, List.set_cons_zero]) | go_big_quiet_step (fail))
            refine wpQuiet_nil ?_
            refine WD.eff 24 (by kernel_rfl) ?_
            simp only [pick, List.toList_toArray, List.map_cons, List.map_nil, List.getD_cons_succ, List.getD_cons_zero]
            go_wp2_with fail
            refine alive_any.mono ?_
            rintro e w11 ⟨rfl, f11⟩
            go_wp2_with fail
            try refine wpList_nil ?_
            refine AfterD.on ⟨f11.blk hB (by simp), f11.blk hbd (by simp)⟩ (by kernel_rfl) ?_
            try simp only [World.size_alloc, World.size_drew, Act.put, List.setIfInBounds_toArray, List.set_cons_succ, List.set_cons_zero]
            refine WD.pure [25, 26] (by kernel_rfl) ⟨f11.blk hB (by simp), f11.blk hbd (by simp)⟩ ?_
            simp only [pick, List.toList_toArray, List.map_cons, List.map_nil, List.getD_cons_succ, List.getD_cons_zero]
            repeat (first | (refine quiet_load_aggW (by rfl) _ _ rfl rfl [.string C, .string M] (fun _ h => by cases h; exact hB) _ Try.underlying23 rfl keyT rfl ?_; simp only [World.size_alloc, World.size_drew, Act.put, List.setIfInBounds_toArray, List.set_cons_succ, List.set_cons_zero]) | (refine quiet_len_s (by rfl) _ _ rfl rfl 5 Try.underlying46 ?_; simp only [World.size_alloc, World.size_drew, Act.put, List.setIfInBounds_toArray, List.set_cons_succ, List.set_cons_zero]) | (refine quiet_conv_v (by rfl) _ _ _ rfl _ rfl (.string D) (fun w0 h => by cases h; exact Hc1.out) ?_; simp only [World.size_alloc, World.size_drew, Act.put, List.setIfInBounds_toArray, List.set_cons_succ, List.set_cons_zero]) | (refine quiet_slice_vW (by rfl) _ _ _ _ rfl _ rfl _ _ rfl rfl (.slice (some ⟨b7, 0 + (A.size - 32), none⟩) (A.size - (A.size - 32)) (c7 - (A.size - 32))) (fun w0 _ => Hsl.out w0) ?_; simp only [World.size_alloc, World.size_drew, Act.put, List.setIfInBounds_toArray, List.set_cons_succ, List.set_cons_zero]) | (refine quiet_conv_v (by rfl) _ _ _ rfl _ rfl (.string T) (fun w0 h => Hc2.out w0 h.2) ?_; simp only [World.size_alloc, World.size_drew, Act.put, List.setIfInBounds_toArray, List.set_cons_succ, List.set_cons_zero]) | go_big_quiet_step (fail))
            refine wpQuiet_nil ?_
            refine WD.done (by kernel_rfl) ?_
            go_wp2_with fail
            go_ret
            exact ⟨rfl, G10.trans' f11⟩
      case neg =>
        have hlo : (other.toList == label.toList) = false := by rw [Hlo.out]; exact decide_eq_false hol
        clear hol Hlo
        by_cases hyx : Y = X
        case pos =>
          have hq : (Y.toList == X.toList) = true := by rw [Hxy.out]; exact decide_eq_true hyx
          rw [show codeS (decide (Y = X)) = 0 by simp [codeS, hyx]] at Hop2
          clear hyx Hxy
          go_wp2_with fail
          refine (Hop2.out _).mono ?_
          rintro e w4 ⟨rfl, f4⟩
          have hB4 := f4.blk hB (by simp)
          have g4 := g3.trans' f4
          clear f4 g3 k0 k1 hlo hB
          go_wp2_with fail
          have hB := hB4.drew
          refine wp_region_D (fun w' => Blk w' w1.heap.size [.string C, .string M]) false [] (by kernel_rfl) ?_
          refine WD.pure [2, 3, 4] (by kernel_rfl) hB ?_
          simp only [pick, List.toList_toArray, List.map_cons, List.map_nil, List.getD_cons_succ, List.getD_cons_zero]
          repeat (first | (refine quiet_load_aggW (by rfl) _ _ rfl rfl [.string C, .string M] (fun _ h => by cases h; exact hB) _ Try.underlying23 rfl keyT rfl ?_; simp only [World.size_alloc, World.size_drew, Act.put, List.setIfInBounds_toArray, List.set_cons_succ, List.set_cons_zero]) | (refine quiet_load_aggW (by rfl) _ _ rfl rfl [.string C, .string M] (fun _ h => h) _ Try.underlying23 rfl keyT rfl ?_; simp only [World.size_alloc, World.size_drew, Act.put, List.setIfInBounds_toArray, List.set_cons_succ, List.set_cons_zero]) | go_big_quiet_step (fail))
          refine wpQuiet_nil ?_
          refine WD.free [0, 1, 7, 8] (by kernel_rfl) hB ?_
          simp only [pick, List.toList_toArray, List.map_cons, List.map_nil, List.getD_cons_succ, List.getD_cons_zero]
          repeat (first | (refine quiet_load_aggW (by rfl) _ _ rfl rfl [.string C, .string M] (fun _ h => by cases h; exact hB) _ Try.underlying23 rfl keyT rfl ?_; simp only [World.size_alloc, World.size_drew, Act.put, List.setIfInBounds_toArray, List.set_cons_succ, List.set_cons_zero]) | (refine quiet_load_aggW (by rfl) _ _ rfl rfl [.string C, .string M] (fun _ h => h) _ Try.underlying23 rfl keyT rfl ?_; simp only [World.size_alloc, World.size_drew, Act.put, List.setIfInBounds_toArray, List.set_cons_succ, List.set_cons_zero]) | go_big_quiet_step (fail))
          refine wpQuiet_nil ?_
          refine WD.held [6] (by kernel_rfl) hB ?_
          simp only [pick, List.toList_toArray, List.map_cons, List.map_nil, List.getD_cons_succ, List.getD_cons_zero]
          repeat (first | (refine quiet_load_aggW (by rfl) _ _ rfl rfl [.string C, .string M] (fun _ h => by cases h; exact hB) _ Try.underlying23 rfl keyT rfl ?_; simp only [World.size_alloc, World.size_drew, Act.put, List.setIfInBounds_toArray, List.set_cons_succ, List.set_cons_zero]) | (refine quiet_load_aggW (by rfl) _ _ rfl rfl [.string C, .string M] (fun _ h => h) _ Try.underlying23 rfl keyT rfl ?_; simp only [World.size_alloc, World.size_drew, Act.put, List.setIfInBounds_toArray, List.set_cons_succ, List.set_cons_zero]) | go_big_quiet_step (fail))
          refine wpQuiet_nil ?_
          refine WD.eff 5 (by kernel_rfl) ?_
          simp only [pick, List.toList_toArray, List.map_cons, List.map_nil, List.getD_cons_succ, List.getD_cons_zero]
          go_wp2_with fail
          refine (Hto.out _).mono ?_
          rintro e w5 ⟨rfl, f5⟩
          have hB := f5.blk hB (by simp)
          have g5 := (g4.drew).trans' f5
          clear f5 g4 hB4
          go_wp2_with fail
          try refine wpList_nil ?_
          refine AfterD.on hB (by kernel_rfl) ?_
          try simp only [World.size_alloc, World.size_drew, Act.put, List.setIfInBounds_toArray, List.set_cons_succ, List.set_cons_zero]
          refine WD.eff 9 (by kernel_rfl) ?_
          simp only [pick, List.toList_toArray, List.map_cons, List.map_nil, List.getD_cons_succ, List.getD_cons_zero]
          go_wp2_with fail
          refine (Hta.out _).mono ?_
          rintro e w6 ⟨rfl, f6⟩
          have hB := f6.blk hB (by simp)
          have g6 := g5.trans' f6
          clear f6 g5
          go_wp2_with fail
          try refine wpList_nil ?_
          refine AfterD.on hB (by kernel_rfl) ?_
          try simp only [World.size_alloc, World.size_drew, Act.put, List.setIfInBounds_toArray, List.set_cons_succ, List.set_cons_zero]
          refine WD.pure [10, 11] (by kernel_rfl) hB ?_
          simp only [pick, List.toList_toArray, List.map_cons, List.map_nil, List.getD_cons_succ, List.getD_cons_zero]
          repeat (first | (refine quiet_load_aggW (by rfl) _ _ rfl rfl [.string C, .string M] (fun _ h => by cases h; exact hB) _ Try.underlying23 rfl keyT rfl ?_; simp only [World.size_alloc, World.size_drew, Act.put, List.setIfInBounds_toArray, List.set_cons_succ, List.set_cons_zero]) | (refine quiet_load_aggW (by rfl) _ _ rfl rfl [.string C, .string M] (fun _ h => h) _ Try.underlying23 rfl keyT rfl ?_; simp only [World.size_alloc, World.size_drew, Act.put, List.setIfInBounds_toArray, List.set_cons_succ, List.set_cons_zero]) | go_big_quiet_step (fail))
          refine wpQuiet_nil ?_
          refine WD.done (by kernel_rfl) ?_
          clear hq
          have k0 := hB.cell 0
          have k1 := hB.cell 1
          by_cases hy0 : y = 0
          case pos =>
            have hy : ((y.toNat : Int) == 0) = true := by rw [hy0]; rfl
            clear hy0
            go_wp2_with fail
            refine alive_any.mono ?_
            rintro e w9 ⟨rfl, f9⟩
            go_wp2_with fail
            go_ret
            exact ⟨rfl, (g6).trans' f9⟩
          case neg =>
            have hy : ((y.toNat : Int) == 0) = false := by
              rw [beq_eq_false_iff_ne]
              intro h
              exact hy0 (UInt8.toNat_inj.1 (by rw [show (0 : UInt8).toNat = 0 from rfl]; omega))
            clear hy0
            go_wp2_with (first
              | (refine wpList_bytes_own rfl 9 46 5 _ rfl A rfl Hmx.out Try.underlying9 Try.underlying46 Try.underlying5 ?_; intro w7 c7 f7 hlt7 ho7; rw [HL.out] at ho7; obtain ⟨cs7, hb7, hl7, ht7, hre7⟩ := ho7.blkOf; have k7 : w7.cell? ⟨(w6).heap.size, j, none⟩ = some (bt (g8 L j)) := (by rw [hb7.cell, show cs7[j]? = (cs7.take A.size)[j]? by (rw [List.getElem?_take, if_pos hjA]), ht7, bv_getElem?, g8_eq L j (by rw [HLl.out]; exact hjA)]; rfl); have hB7 := f7.blk hB (by simp); simp only [World.size_alloc, World.size_drew, Act.put, List.setIfInBounds_toArray, List.set_cons_succ, List.set_cons_zero])
              | (refine wpList_put rfl _ _ _ rfl rfl (bt (g8 L j ^^^ y)) rfl rfl hb7 (by omega) (by kernel_rfl) ?_; intro w8 f8 hb8 hs8; have hB8 := f8.blk hB7 (by have := hB.lt; simp; omega); have k80 := hB8.cell 0; have k81 := hB8.cell 1; have ho8 := hre7 w8 _ hb8 (by rw [List.length_set]); rw [List.take_set, ht7, ← bv_set] at ho8; simp only [World.size_alloc, World.size_drew, Act.put, List.setIfInBounds_toArray, List.set_cons_succ, List.set_cons_zero])
              | (refine wpList_string_of_own rfl 46 9 5 _ rfl rfl ho8 Try.underlying46 Try.underlying5 Try.underlying9 ?_; simp only [World.size_alloc, World.size_drew, Act.put, List.setIfInBounds_toArray, List.set_cons_succ, List.set_cons_zero]))
            obtain ⟨L2, hL2⟩ : ∃ L2, L.set j (g8 L j ^^^ y) = L2 := ⟨_, rfl⟩
            have HL2l := hid (show L2.length = A.size by rw [← hL2, List.length_set]; exact HLl.out)
            rw [hL2] at ho8 ⊢
            obtain ⟨D, hD⟩ : ∃ D : ByteArray, ⟨L2.toArray⟩ = D := ⟨_, rfl⟩
            have HDs := hid (show D.size = A.size by rw [← hD, size_mk', HL2l.out])
            have HDl := hid (show D.data.toList = L2 by rw [← hD])
            have HD := hid hD
            rw [hD]
            have G8 : Fr [] w w8 := ((g6).trans' f7).trans f8 (by have := (g6).size; simp; omega)
            clear hL2 hD k7 k80 k81 hb8 hb7 hre7 ht7 hl7 hB7 f7 f8 hs8 hy ho7 hlt7
            refine (H3.out _ D HDs.out).mono ?_
            rintro e w9 ⟨⟨r, rfl⟩, f9⟩
            have hB9 := f9.blk hB8 (by simp)
            have ho9 := ho8.keep f9 (by simp)
            have G9 := G8.trans' f9
            clear f9 G8 hB8 ho8
            obtain ⟨T, hT⟩ : ∃ T, D.extract (D.size - 32) D.size = T := ⟨_, rfl⟩
            obtain ⟨Z, hZ⟩ : ∃ Z, tagS M label (D.extract 0 (D.size - 32)) = Z := ⟨_, rfl⟩
            have Hz4 := hid fun w0 : World => H4.out w0 D HDs.out
            rw [hZ] at Hz4
            have hzt : (Z.toList == T.toList) = tagOk M label D := by rw [beq_str2, ← hZ, ← hT]; rfl
            obtain ⟨b7, hb7⟩ : ∃ b7, (w6).heap.size = b7 := ⟨_, rfl⟩
            rw [hb7] at ho9 ⊢
            obtain ⟨cs9, hb9, hl9, ht9, _⟩ := ho9.blkOf
            obtain ⟨_, c9, e1, e2, hc9, hm9, _⟩ := ho9.opened (by omega)
            obtain rfl : c7 = c9 := by simp at e2; exact e2.2
            have Hc1 := hid (show (convert 46 9 (.slice (some ⟨b7, 0, none⟩) A.size c7)).run Try.prog w9.drew = .ok (.string D) w9.drew by
              rw [← HD.out]
              exact run_string_of_own _ _ _ 5 (ho9.keep ((Fr.refl [] w9).drew) (by simp)) Try.underlying46 Try.underlying5 Try.underlying9)
            have Hc2 := hid (show ∀ w0 : World, Blk w0 b7 cs9 → (convert 46 9 (.slice (some ⟨b7, 0 + (A.size - 32), none⟩) (A.size - (A.size - 32)) (c7 - (A.size - 32)))).run Try.prog w0 = .ok (.string T) w0 from fun w0 h => by
              have hlen : (L2.drop (A.size - 32)).length = A.size - (A.size - 32) := by rw [List.length_drop, HL2l.out]
              have := run_string_of_bytes (P := Try.prog) w0 46 9 5 (off := 0 + (A.size - 32)) h (L2.drop (A.size - 32)) (c7 - (A.size - 32)) (by rw [hlen, Nat.zero_add, ← List.drop_take, ht9, bv_drop]) Try.underlying46 Try.underlying5 Try.underlying9
              rw [hlen] at this
              rw [this]
              congr 2
              apply ba_ext
              rw [← hT, ext_list, HDs.out, HDl.out, List.take_of_length_le (by rw [HL2l.out]; exact Nat.le_refl _)])
            have Hsl := hid (show ∀ w0 : World, (Instr.sliceAt 46 (.slice (some ⟨b7, 0, none⟩) A.size c7) (some (.int .i64 ((A.size : Int) - 32))) none none).run Try.prog w0 = .ok (.slice (some ⟨b7, 0 + (A.size - 32), none⟩) (A.size - (A.size - 32)) (c7 - (A.size - 32))) w0 from fun w0 =>
              run_slice_low w0 _ .i64 _ (A.size - 32) (by omega) (by omega) (by omega) 5 Try.underlying46 (by kernel_rfl))
            have hB := hB9.drew
            have hbd := hb9.drew
            have HZT := hid hzt
            clear hzt hT hZ e1 e2 ho9 hb9 hB9 ht9 hm9
            cases htg : tagOk M label D
            all_goals
              rw [htg] at HZT
              have hzt := HZT.out
              clear htg
              unfold codeS
              try rw [if_pos rfl]
              try rw [if_neg (by decide)]
              go_wp2_with fail
              refine wp_region_D (fun w' => Blk w' w1.heap.size [.string C, .string M] ∧ Blk w' b7 cs9) false [] (by kernel_rfl) ?_
              refine WD.pure [2, 3, 4, 5] (by kernel_rfl) ⟨hB, hbd⟩ ?_
              simp only [pick, List.toList_toArray, List.map_cons, List.map_nil, List.getD_cons_succ, List.getD_cons_zero]
              repeat (first | (refine quiet_load_aggW (by rfl) _ _ rfl rfl [.string C, .string M] (fun _ h => by cases h; exact hB) _ Try.underlying23 rfl keyT rfl ?_; simp only [World.size_alloc, World.size_drew, Act.put, List.setIfInBounds_toArray, List.set_cons_succ, List.set_cons_zero]) | (refine quiet_len_s (by rfl) _ _ rfl rfl 5 Try.underlying46 ?_; simp only [World.size_alloc, World.size_drew, Act.put, List.setIfInBounds_toArray, List.set_cons_succ, List.set_cons_zero]) | (refine quiet_conv_v (by rfl) _ _ _ rfl _ rfl (.string D) (fun w0 h => by cases h; exact Hc1.out) ?_; simp only [World.size_alloc, World.size_drew, Act.put, List.setIfInBounds_toArray, List.set_cons_succ, List.set_cons_zero]) | (refine quiet_slice_vW (by rfl) _ _ _ _ rfl _ rfl _ _ rfl rfl (.slice (some ⟨b7, 0 + (A.size - 32), none⟩) (A.size - (A.size - 32)) (c7 - (A.size - 32))) (fun w0 _ => Hsl.out w0) ?_; simp only [World.size_alloc, World.size_drew, Act.put, List.setIfInBounds_toArray, List.set_cons_succ, List.set_cons_zero]) | (refine quiet_conv_v (by rfl) _ _ _ rfl _ rfl (.string T) (fun w0 h => Hc2.out w0 h.2) ?_; simp only [World.size_alloc, World.size_drew, Act.put, List.setIfInBounds_toArray, List.set_cons_succ, List.set_cons_zero]) | go_big_quiet_step (fail))
              refine wpQuiet_nil ?_
              refine WD.free [0, 1, 7, 8] (by kernel_rfl) ⟨hB, hbd⟩ ?_
              simp only [pick, List.toList_toArray, List.map_cons, List.map_nil, List.getD_cons_succ, List.getD_cons_zero]
              repeat (first | (refine quiet_load_aggW (by rfl) _ _ rfl rfl [.string C, .string M] (fun _ h => by cases h; exact hB) _ Try.underlying23 rfl keyT rfl ?_; simp only [World.size_alloc, World.size_drew, Act.put, List.setIfInBounds_toArray, List.set_cons_succ, List.set_cons_zero]) | (refine quiet_len_s (by rfl) _ _ rfl rfl 5 Try.underlying46 ?_; simp only [World.size_alloc, World.size_drew, Act.put, List.setIfInBounds_toArray, List.set_cons_succ, List.set_cons_zero]) | (refine quiet_conv_v (by rfl) _ _ _ rfl _ rfl (.string D) (fun w0 h => by cases h; exact Hc1.out) ?_; simp only [World.size_alloc, World.size_drew, Act.put, List.setIfInBounds_toArray, List.set_cons_succ, List.set_cons_zero]) | (refine quiet_slice_vW (by rfl) _ _ _ _ rfl _ rfl _ _ rfl rfl (.slice (some ⟨b7, 0 + (A.size - 32), none⟩) (A.size - (A.size - 32)) (c7 - (A.size - 32))) (fun w0 _ => Hsl.out w0) ?_; simp only [World.size_alloc, World.size_drew, Act.put, List.setIfInBounds_toArray, List.set_cons_succ, List.set_cons_zero]) | (refine quiet_conv_v (by rfl) _ _ _ rfl _ rfl (.string T) (fun w0 h => Hc2.out w0 h.2) ?_; simp only [World.size_alloc, World.size_drew, Act.put, List.setIfInBounds_toArray, List.set_cons_succ, List.set_cons_zero]) | go_big_quiet_step (fail))
              refine wpQuiet_nil ?_
              refine WD.held [9] (by kernel_rfl) ⟨hB, hbd⟩ ?_
              simp only [pick, List.toList_toArray, List.map_cons, List.map_nil, List.getD_cons_succ, List.getD_cons_zero]
              repeat (first | (refine quiet_load_aggW (by rfl) _ _ rfl rfl [.string C, .string M] (fun _ h => by cases h; exact hB) _ Try.underlying23 rfl keyT rfl ?_; simp only [World.size_alloc, World.size_drew, Act.put, List.setIfInBounds_toArray, List.set_cons_succ, List.set_cons_zero]) | (refine quiet_len_s (by rfl) _ _ rfl rfl 5 Try.underlying46 ?_; simp only [World.size_alloc, World.size_drew, Act.put, List.setIfInBounds_toArray, List.set_cons_succ, List.set_cons_zero]) | (refine quiet_conv_v (by rfl) _ _ _ rfl _ rfl (.string D) (fun w0 h => by cases h; exact Hc1.out) ?_; simp only [World.size_alloc, World.size_drew, Act.put, List.setIfInBounds_toArray, List.set_cons_succ, List.set_cons_zero]) | (refine quiet_slice_vW (by rfl) _ _ _ _ rfl _ rfl _ _ rfl rfl (.slice (some ⟨b7, 0 + (A.size - 32), none⟩) (A.size - (A.size - 32)) (c7 - (A.size - 32))) (fun w0 _ => Hsl.out w0) ?_; simp only [World.size_alloc, World.size_drew, Act.put, List.setIfInBounds_toArray, List.set_cons_succ, List.set_cons_zero]) | (refine quiet_conv_v (by rfl) _ _ _ rfl _ rfl (.string T) (fun w0 h => Hc2.out w0 h.2) ?_; simp only [World.size_alloc, World.size_drew, Act.put, List.setIfInBounds_toArray, List.set_cons_succ, List.set_cons_zero]) | go_big_quiet_step (fail))
              refine wpQuiet_nil ?_
              refine WD.free [10, 11] (by kernel_rfl) ⟨hB, hbd⟩ ?_
              simp only [pick, List.toList_toArray, List.map_cons, List.map_nil, List.getD_cons_succ, List.getD_cons_zero]
              repeat (first | (refine quiet_load_aggW (by rfl) _ _ rfl rfl [.string C, .string M] (fun _ h => by cases h; exact hB) _ Try.underlying23 rfl keyT rfl ?_; simp only [World.size_alloc, World.size_drew, Act.put, List.setIfInBounds_toArray, List.set_cons_succ, List.set_cons_zero]) | (refine quiet_len_s (by rfl) _ _ rfl rfl 5 Try.underlying46 ?_; simp only [World.size_alloc, World.size_drew, Act.put, List.setIfInBounds_toArray, List.set_cons_succ, List.set_cons_zero]) | (refine quiet_conv_v (by rfl) _ _ _ rfl _ rfl (.string D) (fun w0 h => by cases h; exact Hc1.out) ?_; simp only [World.size_alloc, World.size_drew, Act.put, List.setIfInBounds_toArray, List.set_cons_succ, List.set_cons_zero]) | (refine quiet_slice_vW (by rfl) _ _ _ _ rfl _ rfl _ _ rfl rfl (.slice (some ⟨b7, 0 + (A.size - 32), none⟩) (A.size - (A.size - 32)) (c7 - (A.size - 32))) (fun w0 _ => Hsl.out w0) ?_; simp only [World.size_alloc, World.size_drew, Act.put, List.setIfInBounds_toArray, List.set_cons_succ, List.set_cons_zero]) | (refine quiet_conv_v (by rfl) _ _ _ rfl _ rfl (.string T) (fun w0 h => Hc2.out w0 h.2) ?_; simp only [World.size_alloc, World.size_drew, Act.put, List.setIfInBounds_toArray, List.set_cons_succ, List.set_cons_zero]) | go_big_quiet_step (fail))
              refine wpQuiet_nil ?_
              refine WD.held [12] (by kernel_rfl) ⟨hB, hbd⟩ ?_
              simp only [pick, List.toList_toArray, List.map_cons, List.map_nil, List.getD_cons_succ, List.getD_cons_zero]
              repeat (first | (refine quiet_load_aggW (by rfl) _ _ rfl rfl [.string C, .string M] (fun _ h => by cases h; exact hB) _ Try.underlying23 rfl keyT rfl ?_; simp only [World.size_alloc, World.size_drew, Act.put, List.setIfInBounds_toArray, List.set_cons_succ, List.set_cons_zero]) | (refine quiet_len_s (by rfl) _ _ rfl rfl 5 Try.underlying46 ?_; simp only [World.size_alloc, World.size_drew, Act.put, List.setIfInBounds_toArray, List.set_cons_succ, List.set_cons_zero]) | (refine quiet_conv_v (by rfl) _ _ _ rfl _ rfl (.string D) (fun w0 h => by cases h; exact Hc1.out) ?_; simp only [World.size_alloc, World.size_drew, Act.put, List.setIfInBounds_toArray, List.set_cons_succ, List.set_cons_zero]) | (refine quiet_slice_vW (by rfl) _ _ _ _ rfl _ rfl _ _ rfl rfl (.slice (some ⟨b7, 0 + (A.size - 32), none⟩) (A.size - (A.size - 32)) (c7 - (A.size - 32))) (fun w0 _ => Hsl.out w0) ?_; simp only [World.size_alloc, World.size_drew, Act.put, List.setIfInBounds_toArray, List.set_cons_succ, List.set_cons_zero]) | (refine quiet_conv_v (by rfl) _ _ _ rfl _ rfl (.string T) (fun w0 h => Hc2.out w0 h.2) ?_; simp only [World.size_alloc, World.size_drew, Act.put, List.setIfInBounds_toArray, List.set_cons_succ, List.set_cons_zero]) | go_big_quiet_step (fail))
              refine wpQuiet_nil ?_
              refine WD.eff 6 (by kernel_rfl) ?_
              simp only [pick, List.toList_toArray, List.map_cons, List.map_nil, List.getD_cons_succ, List.getD_cons_zero]
              go_wp2_with fail
              refine (Hz4.out _).mono ?_
              rintro e w10 ⟨rfl, f10⟩
              have hB := f10.blk hB (by simp)
              have hbd := f10.blk hbd (by simp)
              have G10 := (G9.drew).trans' f10
              clear f10 G9
              go_wp2_with fail
              try refine wpList_nil ?_
              refine AfterD.on ⟨hB, hbd⟩ (by kernel_rfl) ?_
              try simp only [World.size_alloc, World.size_drew, Act.put, List.setIfInBounds_toArray, List.set_cons_succ, List.set_cons_zero]
              refine WD.pure [13, 14, 15, 16, 17, 18, 19, 20, 21, 22, 23] (by kernel_rfl) ⟨hB, hbd⟩ ?_
              simp only [pick, List.toList_toArray, List.map_cons, List.map_nil, List.getD_cons_succ, List.getD_cons_zero]
              repeat (first | (refine quiet_load_aggW (by rfl) _ _ rfl rfl [.string C, .string M] (fun _ h => by cases h; exact hB) _ Try.underlying23 rfl keyT rfl ?_; simp only [World.size_alloc, World.size_drew, Act.put, List.setIfInBounds_toArray, List.set_cons_succ, List.set_cons_zero]) | (refine quiet_len_s (by rfl) _ _ rfl rfl 5 Try.underlying46 ?_; simp only [World.size_alloc, World.size_drew, Act.put, List.setIfInBounds_toArray, List.set_cons_succ, List.set_cons_zero]) | (refine quiet_conv_v (by rfl) _ _ _ rfl _ rfl (.string D) (fun w0 h => by cases h; exact Hc1.out) ?_; simp only [World.size_alloc, World.size_drew, Act.put, List.setIfInBounds_toArray, List.set_cons_succ, List.set_cons_zero]) | (refine quiet_slice_vW (by rfl) _ _ _ _ rfl _ rfl _ _ rfl rfl (.slice (some ⟨b7, 0 + (A.size - 32), none⟩) (A.size - (A.size - 32)) (c7 - (A.size - 32))) (fun w0 _ => Hsl.out w0) ?_; simp only [World.size_alloc, World.size_drew, Act.put, List.setIfInBounds_toArray, List.set_cons_succ, List.set_cons_zero]) | (refine quiet_conv_v (by rfl) _ _ _ rfl _ rfl (.string T) (fun w0 h => Hc2.out w0 h.2) ?_; simp only [World.size_alloc, World.size_drew, Act.put, List.setIfInBounds_toArray, List.set_cons_succ, List.set_cons_zero]) | go_big_quiet_step (fail))
              refine wpQuiet_nil ?_
              refine WD.eff 24 (by kernel_rfl) ?_
              simp only [pick, List.toList_toArray, List.map_cons, List.map_nil, List.getD_cons_succ, List.getD_cons_zero]
              go_wp2_with fail
              refine alive_any.mono ?_
              rintro e w11 ⟨rfl, f11⟩
              go_wp2_with fail
              try refine wpList_nil ?_
              refine AfterD.on ⟨f11.blk hB (by simp), f11.blk hbd (by simp)⟩ (by kernel_rfl) ?_
              try simp only [World.size_alloc, World.size_drew, Act.put, List.setIfInBounds_toArray, List.set_cons_succ, List.set_cons_zero]
              refine WD.pure [25, 26] (by kernel_rfl) ⟨f11.blk hB (by simp), f11.blk hbd (by simp)⟩ ?_
              simp only [pick, List.toList_toArray, List.map_cons, List.map_nil, List.getD_cons_succ, List.getD_cons_zero]
              repeat (first | (refine quiet_load_aggW (by rfl) _ _ rfl rfl [.string C, .string M] (fun _ h => by cases h; exact hB) _ Try.underlying23 rfl keyT rfl ?_; simp only [World.size_alloc, World.size_drew, Act.put, List.setIfInBounds_toArray, List.set_cons_succ, List.set_cons_zero]) | (refine quiet_len_s (by rfl) _ _ rfl rfl 5 Try.underlying46 ?_; simp only [World.size_alloc, World.size_drew, Act.put, List.setIfInBounds_toArray, List.set_cons_succ, List.set_cons_zero]) | (refine quiet_conv_v (by rfl) _ _ _ rfl _ rfl (.string D) (fun w0 h => by cases h; exact Hc1.out) ?_; simp only [World.size_alloc, World.size_drew, Act.put, List.setIfInBounds_toArray, List.set_cons_succ, List.set_cons_zero]) | (refine quiet_slice_vW (by rfl) _ _ _ _ rfl _ rfl _ _ rfl rfl (.slice (some ⟨b7, 0 + (A.size - 32), none⟩) (A.size - (A.size - 32)) (c7 - (A.size - 32))) (fun w0 _ => Hsl.out w0) ?_; simp only [World.size_alloc, World.size_drew, Act.put, List.setIfInBounds_toArray, List.set_cons_succ, List.set_cons_zero]) | (refine quiet_conv_v (by rfl) _ _ _ rfl _ rfl (.string T) (fun w0 h => Hc2.out w0 h.2) ?_; simp only [World.size_alloc, World.size_drew, Act.put, List.setIfInBounds_toArray, List.set_cons_succ, List.set_cons_zero]) | go_big_quiet_step (fail))
              refine wpQuiet_nil ?_
              refine WD.done (by kernel_rfl) ?_
              go_wp2_with fail
              go_ret
              exact ⟨rfl, G10.trans' f11⟩
        case neg =>
          have hq : (Y.toList == X.toList) = false := by rw [Hxy.out]; exact decide_eq_false hyx
          rw [show codeS (decide (Y = X)) = 7 by simp [codeS, hyx]] at Hop2
          clear hyx Hxy
          go_wp2_with fail
          refine (Hop2.out _).mono ?_
          rintro e w4 ⟨rfl, f4⟩
          have hB4 := f4.blk hB (by simp)
          have g4 := g3.trans' f4
          clear f4 g3 k0 k1 hlo hB
          go_wp2_with fail
          have hB := hB4.drew
          refine wp_region_D (fun w' => Blk w' w1.heap.size [.string C, .string M]) false [] (by kernel_rfl) ?_
          refine WD.pure [2, 3, 4] (by kernel_rfl) hB ?_
          simp only [pick, List.toList_toArray, List.map_cons, List.map_nil, List.getD_cons_succ, List.getD_cons_zero]
          repeat (first | (refine quiet_load_aggW (by rfl) _ _ rfl rfl [.string C, .string M] (fun _ h => by cases h; exact hB) _ Try.underlying23 rfl keyT rfl ?_; simp only [World.size_alloc, World.size_drew, Act.put, List.setIfInBounds_toArray, List.set_cons_succ, List.set_cons_zero]) | (refine quiet_load_aggW (by rfl) _ _ rfl rfl [.string C, .string M] (fun _ h => h) _ Try.underlying23 rfl keyT rfl ?_; simp only [World.size_alloc, World.size_drew, Act.put, List.setIfInBounds_toArray, List.set_cons_succ, List.set_cons_zero]) | go_big_quiet_step (fail))
          refine wpQuiet_nil ?_
          refine WD.free [0, 1, 7, 8] (by kernel_rfl) hB ?_
          simp only [pick, List.toList_toArray, List.map_cons, List.map_nil, List.getD_cons_succ, List.getD_cons_zero]
          repeat (first | (refine quiet_load_aggW (by rfl) _ _ rfl rfl [.string C, .string M] (fun _ h => by cases h; exact hB) _ Try.underlying23 rfl keyT rfl ?_; simp only [World.size_alloc, World.size_drew, Act.put, List.setIfInBounds_toArray, List.set_cons_succ, List.set_cons_zero]) | (refine quiet_load_aggW (by rfl) _ _ rfl rfl [.string C, .string M] (fun _ h => h) _ Try.underlying23 rfl keyT rfl ?_; simp only [World.size_alloc, World.size_drew, Act.put, List.setIfInBounds_toArray, List.set_cons_succ, List.set_cons_zero]) | go_big_quiet_step (fail))
          refine wpQuiet_nil ?_
          refine WD.held [6] (by kernel_rfl) hB ?_
          simp only [pick, List.toList_toArray, List.map_cons, List.map_nil, List.getD_cons_succ, List.getD_cons_zero]
          repeat (first | (refine quiet_load_aggW (by rfl) _ _ rfl rfl [.string C, .string M] (fun _ h => by cases h; exact hB) _ Try.underlying23 rfl keyT rfl ?_; simp only [World.size_alloc, World.size_drew, Act.put, List.setIfInBounds_toArray, List.set_cons_succ, List.set_cons_zero]) | (refine quiet_load_aggW (by rfl) _ _ rfl rfl [.string C, .string M] (fun _ h => h) _ Try.underlying23 rfl keyT rfl ?_; simp only [World.size_alloc, World.size_drew, Act.put, List.setIfInBounds_toArray, List.set_cons_succ, List.set_cons_zero]) | go_big_quiet_step (fail))
          refine wpQuiet_nil ?_
          refine WD.eff 5 (by kernel_rfl) ?_
          simp only [pick, List.toList_toArray, List.map_cons, List.map_nil, List.getD_cons_succ, List.getD_cons_zero]
          go_wp2_with fail
          refine (Hto.out _).mono ?_
          rintro e w5 ⟨rfl, f5⟩
          have hB := f5.blk hB (by simp)
          have g5 := (g4.drew).trans' f5
          clear f5 g4 hB4
          go_wp2_with fail
          try refine wpList_nil ?_
          refine AfterD.on hB (by kernel_rfl) ?_
          try simp only [World.size_alloc, World.size_drew, Act.put, List.setIfInBounds_toArray, List.set_cons_succ, List.set_cons_zero]
          refine WD.eff 9 (by kernel_rfl) ?_
          simp only [pick, List.toList_toArray, List.map_cons, List.map_nil, List.getD_cons_succ, List.getD_cons_zero]
          go_wp2_with fail
          refine (Hta.out _).mono ?_
          rintro e w6 ⟨rfl, f6⟩
          have hB := f6.blk hB (by simp)
          have g6 := g5.trans' f6
          clear f6 g5
          go_wp2_with fail
          try refine wpList_nil ?_
          refine AfterD.on hB (by kernel_rfl) ?_
          try simp only [World.size_alloc, World.size_drew, Act.put, List.setIfInBounds_toArray, List.set_cons_succ, List.set_cons_zero]
          refine WD.pure [10, 11] (by kernel_rfl) hB ?_
          simp only [pick, List.toList_toArray, List.map_cons, List.map_nil, List.getD_cons_succ, List.getD_cons_zero]
          repeat (first | (refine quiet_load_aggW (by rfl) _ _ rfl rfl [.string C, .string M] (fun _ h => by cases h; exact hB) _ Try.underlying23 rfl keyT rfl ?_; simp only [World.size_alloc, World.size_drew, Act.put, List.setIfInBounds_toArray, List.set_cons_succ, List.set_cons_zero]) | (refine quiet_load_aggW (by rfl) _ _ rfl rfl [.string C, .string M] (fun _ h => h) _ Try.underlying23 rfl keyT rfl ?_; simp only [World.size_alloc, World.size_drew, Act.put, List.setIfInBounds_toArray, List.set_cons_succ, List.set_cons_zero]) | go_big_quiet_step (fail))
          refine wpQuiet_nil ?_
          refine WD.done (by kernel_rfl) ?_
          clear hq
          have k0 := hB.cell 0
          have k1 := hB.cell 1
          by_cases hy0 : y = 0
          case pos =>
            have hy : ((y.toNat : Int) == 0) = true := by rw [hy0]; rfl
            clear hy0
            go_wp2_with fail
            refine alive_any.mono ?_
            rintro e w9 ⟨rfl, f9⟩
            go_wp2_with fail
            go_ret
            exact ⟨rfl, (g6).trans' f9⟩
          case neg =>
            have hy : ((y.toNat : Int) == 0) = false := by
              rw [beq_eq_false_iff_ne]
              intro h
              exact hy0 (UInt8.toNat_inj.1 (by rw [show (0 : UInt8).toNat = 0 from rfl]; omega))
            clear hy0
            go_wp2_with (first
              | (refine wpList_bytes_own rfl 9 46 5 _ rfl A rfl Hmx.out Try.underlying9 Try.underlying46 Try.underlying5 ?_; intro w7 c7 f7 hlt7 ho7; rw [HL.out] at ho7; obtain ⟨cs7, hb7, hl7, ht7, hre7⟩ := ho7.blkOf; have k7 : w7.cell? ⟨(w6).heap.size, j, none⟩ = some (bt (g8 L j)) := (by rw [hb7.cell, show cs7[j]? = (cs7.take A.size)[j]? by (rw [List.getElem?_take, if_pos hjA]), ht7, bv_getElem?, g8_eq L j (by rw [HLl.out]; exact hjA)]; rfl); have hB7 := f7.blk hB (by simp); simp only [World.size_alloc, World.size_drew, Act.put, List.setIfInBounds_toArray, List.set_cons_succ, List.set_cons_zero])
              | (refine wpList_put rfl _ _ _ rfl rfl (bt (g8 L j ^^^ y)) rfl rfl hb7 (by omega) (by kernel_rfl) ?_; intro w8 f8 hb8 hs8; have hB8 := f8.blk hB7 (by have := hB.lt; simp; omega); have k80 := hB8.cell 0; have k81 := hB8.cell 1; have ho8 := hre7 w8 _ hb8 (by rw [List.length_set]); rw [List.take_set, ht7, ← bv_set] at ho8; simp only [World.size_alloc, World.size_drew, Act.put, List.setIfInBounds_toArray, List.set_cons_succ, List.set_cons_zero])
              | (refine wpList_string_of_own rfl 46 9 5 _ rfl rfl ho8 Try.underlying46 Try.underlying5 Try.underlying9 ?_; simp only [World.size_alloc, World.size_drew, Act.put, List.setIfInBounds_toArray, List.set_cons_succ, List.set_cons_zero]))
            obtain ⟨L2, hL2⟩ : ∃ L2, L.set j (g8 L j ^^^ y) = L2 := ⟨_, rfl⟩
            have HL2l := hid (show L2.length = A.size by rw [← hL2, List.length_set]; exact HLl.out)
            rw [hL2] at ho8 ⊢
            obtain ⟨D, hD⟩ : ∃ D : ByteArray, ⟨L2.toArray⟩ = D := ⟨_, rfl⟩
            have HDs := hid (show D.size = A.size by rw [← hD, size_mk', HL2l.out])
            have HDl := hid (show D.data.toList = L2 by rw [← hD])
            have HD := hid hD
            rw [hD]
            have G8 : Fr [] w w8 := ((g6).trans' f7).trans f8 (by have := (g6).size; simp; omega)
            clear hL2 hD k7 k80 k81 hb8 hb7 hre7 ht7 hl7 hB7 f7 f8 hs8 hy ho7 hlt7
            refine (H3.out _ D HDs.out).mono ?_
            rintro e w9 ⟨⟨r, rfl⟩, f9⟩
            have hB9 := f9.blk hB8 (by simp)
            have ho9 := ho8.keep f9 (by simp)
            have G9 := G8.trans' f9
            clear f9 G8 hB8 ho8
            obtain ⟨T, hT⟩ : ∃ T, D.extract (D.size - 32) D.size = T := ⟨_, rfl⟩
            obtain ⟨Z, hZ⟩ : ∃ Z, tagS M label (D.extract 0 (D.size - 32)) = Z := ⟨_, rfl⟩
            have Hz4 := hid fun w0 : World => H4.out w0 D HDs.out
            rw [hZ] at Hz4
            have hzt : (Z.toList == T.toList) = tagOk M label D := by rw [beq_str2, ← hZ, ← hT]; rfl
            obtain ⟨b7, hb7⟩ : ∃ b7, (w6).heap.size = b7 := ⟨_, rfl⟩
            rw [hb7] at ho9 ⊢
            obtain ⟨cs9, hb9, hl9, ht9, _⟩ := ho9.blkOf
            obtain ⟨_, c9, e1, e2, hc9, hm9, _⟩ := ho9.opened (by omega)
            obtain rfl : c7 = c9 := by simp at e2; exact e2.2
            have Hc1 := hid (show (convert 46 9 (.slice (some ⟨b7, 0, none⟩) A.size c7)).run Try.prog w9.drew = .ok (.string D) w9.drew by
              rw [← HD.out]
              exact run_string_of_own _ _ _ 5 (ho9.keep ((Fr.refl [] w9).drew) (by simp)) Try.underlying46 Try.underlying5 Try.underlying9)
            have Hc2 := hid (show ∀ w0 : World, Blk w0 b7 cs9 → (convert 46 9 (.slice (some ⟨b7, 0 + (A.size - 32), none⟩) (A.size - (A.size - 32)) (c7 - (A.size - 32)))).run Try.prog w0 = .ok (.string T) w0 from fun w0 h => by
              have hlen : (L2.drop (A.size - 32)).length = A.size - (A.size - 32) := by rw [List.length_drop, HL2l.out]
              have := run_string_of_bytes (P := Try.prog) w0 46 9 5 (off := 0 + (A.size - 32)) h (L2.drop (A.size - 32)) (c7 - (A.size - 32)) (by rw [hlen, Nat.zero_add, ← List.drop_take, ht9, bv_drop]) Try.underlying46 Try.underlying5 Try.underlying9
              rw [hlen] at this
              rw [this]
              congr 2
              apply ba_ext
              rw [← hT, ext_list, HDs.out, HDl.out, List.take_of_length_le (by rw [HL2l.out]; exact Nat.le_refl _)])
            have Hsl := hid (show ∀ w0 : World, (Instr.sliceAt 46 (.slice (some ⟨b7, 0, none⟩) A.size c7) (some (.int .i64 ((A.size : Int) - 32))) none none).run Try.prog w0 = .ok (.slice (some ⟨b7, 0 + (A.size - 32), none⟩) (A.size - (A.size - 32)) (c7 - (A.size - 32))) w0 from fun w0 =>
              run_slice_low w0 _ .i64 _ (A.size - 32) (by omega) (by omega) (by omega) 5 Try.underlying46 (by kernel_rfl))
            have hB := hB9.drew
            have hbd := hb9.drew
            have HZT := hid hzt
            clear hzt hT hZ e1 e2 ho9 hb9 hB9 ht9 hm9
            cases htg : tagOk M label D
            all_goals
              rw [htg] at HZT
              have hzt := HZT.out
              clear htg
              unfold codeS
              try rw [if_pos rfl]
              try rw [if_neg (by decide)]
              go_wp2_with fail
              refine wp_region_D (fun w' => Blk w' w1.heap.size [.string C, .string M] ∧ Blk w' b7 cs9) false [] (by kernel_rfl) ?_
              refine WD.pure [2, 3, 4, 5] (by kernel_rfl) ⟨hB, hbd⟩ ?_
              simp only [pick, List.toList_toArray, List.map_cons, List.map_nil, List.getD_cons_succ, List.getD_cons_zero]
              repeat (first | (refine quiet_load_aggW (by rfl) _ _ rfl rfl [.string C, .string M] (fun _ h => by cases h; exact hB) _ Try.underlying23 rfl keyT rfl ?_; simp only [World.size_alloc, World.size_drew, Act.put, List.setIfInBounds_toArray, List.set_cons_succ, List.set_cons_zero]) | (refine quiet_len_s (by rfl) _ _ rfl rfl 5 Try.underlying46 ?_; simp only [World.size_alloc, World.size_drew, Act.put, List.setIfInBounds_toArray, List.set_cons_succ, List.set_cons_zero]) | (refine quiet_conv_v (by rfl) _ _ _ rfl _ rfl (.string D) (fun w0 h => by cases h; exact Hc1.out) ?_; simp only [World.size_alloc, World.size_drew, Act.put, List.setIfInBounds_toArray, List.set_cons_succ, List.set_cons_zero]) | (refine quiet_slice_vW (by rfl) _ _ _ _ rfl _ rfl _ _ rfl rfl (.slice (some ⟨b7, 0 + (A.size - 32), none⟩) (A.size - (A.size - 32)) (c7 - (A.size - 32))) (fun w0 _ => Hsl.out w0) ?_; simp only [World.size_alloc, World.size_drew, Act.put, List.setIfInBounds_toArray, List.set_cons_succ, List.set_cons_zero]) | (refine quiet_conv_v (by rfl) _ _ _ rfl _ rfl (.string T) (fun w0 h => Hc2.out w0 h.2) ?_; simp only [World.size_alloc, World.size_drew, Act.put, List.setIfInBounds_toArray, List.set_cons_succ, List.set_cons_zero]) | go_big_quiet_step (fail))
              refine wpQuiet_nil ?_
              refine WD.free [0, 1, 7, 8] (by kernel_rfl) ⟨hB, hbd⟩ ?_
              simp only [pick, List.toList_toArray, List.map_cons, List.map_nil, List.getD_cons_succ, List.getD_cons_zero]
              repeat (first | (refine quiet_load_aggW (by rfl) _ _ rfl rfl [.string C, .string M] (fun _ h => by cases h; exact hB) _ Try.underlying23 rfl keyT rfl ?_; simp only [World.size_alloc, World.size_drew, Act.put, List.setIfInBounds_toArray, List.set_cons_succ, List.set_cons_zero]) | (refine quiet_len_s (by rfl) _ _ rfl rfl 5 Try.underlying46 ?_; simp only [World.size_alloc, World.size_drew, Act.put, List.setIfInBounds_toArray, List.set_cons_succ, List.set_cons_zero]) | (refine quiet_conv_v (by rfl) _ _ _ rfl _ rfl (.string D) (fun w0 h => by cases h; exact Hc1.out) ?_; simp only [World.size_alloc, World.size_drew, Act.put, List.setIfInBounds_toArray, List.set_cons_succ, List.set_cons_zero]) | (refine quiet_slice_vW (by rfl) _ _ _ _ rfl _ rfl _ _ rfl rfl (.slice (some ⟨b7, 0 + (A.size - 32), none⟩) (A.size - (A.size - 32)) (c7 - (A.size - 32))) (fun w0 _ => Hsl.out w0) ?_; simp only [World.size_alloc, World.size_drew, Act.put, List.setIfInBounds_toArray, List.set_cons_succ, List.set_cons_zero]) | (refine quiet_conv_v (by rfl) _ _ _ rfl _ rfl (.string T) (fun w0 h => Hc2.out w0 h.2) ?_; simp only [World.size_alloc, World.size_drew, Act.put, List.setIfInBounds_toArray, List.set_cons_succ, List.set_cons_zero]) | go_big_quiet_step (fail))
              refine wpQuiet_nil ?_
              refine WD.held [9] (by kernel_rfl) ⟨hB, hbd⟩ ?_
              simp only [pick, List.toList_toArray, List.map_cons, List.map_nil, List.getD_cons_succ, List.getD_cons_zero]
              repeat (first | (refine quiet_load_aggW (by rfl) _ _ rfl rfl [.string C, .string M] (fun _ h => by cases h; exact hB) _ Try.underlying23 rfl keyT rfl ?_; simp only [World.size_alloc, World.size_drew, Act.put, List.setIfInBounds_toArray, List.set_cons_succ, List.set_cons_zero]) | (refine quiet_len_s (by rfl) _ _ rfl rfl 5 Try.underlying46 ?_; simp only [World.size_alloc, World.size_drew, Act.put, List.setIfInBounds_toArray, List.set_cons_succ, List.set_cons_zero]) | (refine quiet_conv_v (by rfl) _ _ _ rfl _ rfl (.string D) (fun w0 h => by cases h; exact Hc1.out) ?_; simp only [World.size_alloc, World.size_drew, Act.put, List.setIfInBounds_toArray, List.set_cons_succ, List.set_cons_zero]) | (refine quiet_slice_vW (by rfl) _ _ _ _ rfl _ rfl _ _ rfl rfl (.slice (some ⟨b7, 0 + (A.size - 32), none⟩) (A.size - (A.size - 32)) (c7 - (A.size - 32))) (fun w0 _ => Hsl.out w0) ?_; simp only [World.size_alloc, World.size_drew, Act.put, List.setIfInBounds_toArray, List.set_cons_succ, List.set_cons_zero]) | (refine quiet_conv_v (by rfl) _ _ _ rfl _ rfl (.string T) (fun w0 h => Hc2.out w0 h.2) ?_; simp only [World.size_alloc, World.size_drew, Act.put, List.setIfInBounds_toArray, List.set_cons_succ, List.set_cons_zero]) | go_big_quiet_step (fail))
              refine wpQuiet_nil ?_
              refine WD.free [10, 11] (by kernel_rfl) ⟨hB, hbd⟩ ?_
              simp only [pick, List.toList_toArray, List.map_cons, List.map_nil, List.getD_cons_succ, List.getD_cons_zero]
              repeat (first | (refine quiet_load_aggW (by rfl) _ _ rfl rfl [.string C, .string M] (fun _ h => by cases h; exact hB) _ Try.underlying23 rfl keyT rfl ?_; simp only [World.size_alloc, World.size_drew, Act.put, List.setIfInBounds_toArray, List.set_cons_succ, List.set_cons_zero]) | (refine quiet_len_s (by rfl) _ _ rfl rfl 5 Try.underlying46 ?_; simp only [World.size_alloc, World.size_drew, Act.put, List.setIfInBounds_toArray, List.set_cons_succ, List.set_cons_zero]) | (refine quiet_conv_v (by rfl) _ _ _ rfl _ rfl (.string D) (fun w0 h => by cases h; exact Hc1.out) ?_; simp only [World.size_alloc, World.size_drew, Act.put, List.setIfInBounds_toArray, List.set_cons_succ, List.set_cons_zero]) | (refine quiet_slice_vW (by rfl) _ _ _ _ rfl _ rfl _ _ rfl rfl (.slice (some ⟨b7, 0 + (A.size - 32), none⟩) (A.size - (A.size - 32)) (c7 - (A.size - 32))) (fun w0 _ => Hsl.out w0) ?_; simp only [World.size_alloc, World.size_drew, Act.put, List.setIfInBounds_toArray, List.set_cons_succ, List.set_cons_zero]) | (refine quiet_conv_v (by rfl) _ _ _ rfl _ rfl (.string T) (fun w0 h => Hc2.out w0 h.2) ?_; simp only [World.size_alloc, World.size_drew, Act.put, List.setIfInBounds_toArray, List.set_cons_succ, List.set_cons_zero]) | go_big_quiet_step (fail))
              refine wpQuiet_nil ?_
              refine WD.held [12] (by kernel_rfl) ⟨hB, hbd⟩ ?_
              simp only [pick, List.toList_toArray, List.map_cons, List.map_nil, List.getD_cons_succ, List.getD_cons_zero]
              repeat (first | (refine quiet_load_aggW (by rfl) _ _ rfl rfl [.string C, .string M] (fun _ h => by cases h; exact hB) _ Try.underlying23 rfl keyT rfl ?_; simp only [World.size_alloc, World.size_drew, Act.put, List.setIfInBounds_toArray, List.set_cons_succ, List.set_cons_zero]) | (refine quiet_len_s (by rfl) _ _ rfl rfl 5 Try.underlying46 ?_; simp only [World.size_alloc, World.size_drew, Act.put, List.setIfInBounds_toArray, List.set_cons_succ, List.set_cons_zero]) | (refine quiet_conv_v (by rfl) _ _ _ rfl _ rfl (.string D) (fun w0 h => by cases h; exact Hc1.out) ?_; simp only [World.size_alloc, World.size_drew, Act.put, List.setIfInBounds_toArray, List.set_cons_succ, List.set_cons_zero]) | (refine quiet_slice_vW (by rfl) _ _ _ _ rfl _ rfl _ _ rfl rfl (.slice (some ⟨b7, 0 + (A.size - 32), none⟩) (A.size - (A.size - 32)) (c7 - (A.size - 32))) (fun w0 _ => Hsl.out w0) ?_; simp only [World.size_alloc, World.size_drew, Act.put, List.setIfInBounds_toArray, List.set_cons_succ, List.set_cons_zero]) | (refine quiet_conv_v (by rfl) _ _ _ rfl _ rfl (.string T) (fun w0 h => Hc2.out w0 h.2) ?_; simp only [World.size_alloc, World.size_drew, Act.put, List.setIfInBounds_toArray, List.set_cons_succ, List.set_cons_zero]) | go_big_quiet_step (fail))
              refine wpQuiet_nil ?_
              refine WD.eff 6 (by kernel_rfl) ?_
              simp only [pick, List.toList_toArray, List.map_cons, List.map_nil, List.getD_cons_succ, List.getD_cons_zero]
              go_wp2_with fail
              refine (Hz4.out _).mono ?_
              rintro e w10 ⟨rfl, f10⟩
              have hB := f10.blk hB (by simp)
              have hbd := f10.blk hbd (by simp)
              have G10 := (G9.drew).trans' f10
              clear f10 G9
              go_wp2_with fail
              try refine wpList_nil ?_
              refine AfterD.on ⟨hB, hbd⟩ (by kernel_rfl) ?_
              try simp only [World.size_alloc, World.size_drew, Act.put, List.setIfInBounds_toArray, List.set_cons_succ, List.set_cons_zero]
              refine WD.pure [13, 14, 15, 16, 17, 18, 19, 20, 21, 22, 23] (by kernel_rfl) ⟨hB, hbd⟩ ?_
              simp only [pick, List.toList_toArray, List.map_cons, List.map_nil, List.getD_cons_succ, List.getD_cons_zero]
              repeat (first | (refine quiet_load_aggW (by rfl) _ _ rfl rfl [.string C, .string M] (fun _ h => by cases h; exact hB) _ Try.underlying23 rfl keyT rfl ?_; simp only [World.size_alloc, World.size_drew, Act.put, List.setIfInBounds_toArray, List.set_cons_succ, List.set_cons_zero]) | (refine quiet_len_s (by rfl) _ _ rfl rfl 5 Try.underlying46 ?_; simp only [World.size_alloc, World.size_drew, Act.put, List.setIfInBounds_toArray, List.set_cons_succ, List.set_cons_zero]) | (refine quiet_conv_v (by rfl) _ _ _ rfl _ rfl (.string D) (fun w0 h => by cases h; exact Hc1.out) ?_; simp only [World.size_alloc, World.size_drew, Act.put, List.setIfInBounds_toArray, List.set_cons_succ, List.set_cons_zero]) | (refine quiet_slice_vW (by rfl) _ _ _ _ rfl _ rfl _ _ rfl rfl (.slice (some ⟨b7, 0 + (A.size - 32), none⟩) (A.size - (A.size - 32)) (c7 - (A.size - 32))) (fun w0 _ => Hsl.out w0) ?_; simp only [World.size_alloc, World.size_drew, Act.put, List.setIfInBounds_toArray, List.set_cons_succ, List.set_cons_zero]) | (refine quiet_conv_v (by rfl) _ _ _ rfl _ rfl (.string T) (fun w0 h => Hc2.out w0 h.2) ?_; simp only [World.size_alloc, World.size_drew, Act.put, List.setIfInBounds_toArray, List.set_cons_succ, List.set_cons_zero]) | go_big_quiet_step (fail))
              refine wpQuiet_nil ?_
              refine WD.eff 24 (by kernel_rfl) ?_
              simp only [pick, List.toList_toArray, List.map_cons, List.map_nil, List.getD_cons_succ, List.getD_cons_zero]
              go_wp2_with fail
              refine alive_any.mono ?_
              rintro e w11 ⟨rfl, f11⟩
              go_wp2_with fail
              try refine wpList_nil ?_
              refine AfterD.on ⟨f11.blk hB (by simp), f11.blk hbd (by simp)⟩ (by kernel_rfl) ?_
              try simp only [World.size_alloc, World.size_drew, Act.put, List.setIfInBounds_toArray, List.set_cons_succ, List.set_cons_zero]
              refine WD.pure [25, 26] (by kernel_rfl) ⟨f11.blk hB (by simp), f11.blk hbd (by simp)⟩ ?_
              simp only [pick, List.toList_toArray, List.map_cons, List.map_nil, List.getD_cons_succ, List.getD_cons_zero]
              repeat (first | (refine quiet_load_aggW (by rfl) _ _ rfl rfl [.string C, .string M] (fun _ h => by cases h; exact hB) _ Try.underlying23 rfl keyT rfl ?_; simp only [World.size_alloc, World.size_drew, Act.put, List.setIfInBounds_toArray, List.set_cons_succ, List.set_cons_zero]) | (refine quiet_len_s (by rfl) _ _ rfl rfl 5 Try.underlying46 ?_; simp only [World.size_alloc, World.size_drew, Act.put, List.setIfInBounds_toArray, List.set_cons_succ, List.set_cons_zero]) | (refine quiet_conv_v (by rfl) _ _ _ rfl _ rfl (.string D) (fun w0 h => by cases h; exact Hc1.out) ?_; simp only [World.size_alloc, World.size_drew, Act.put, List.setIfInBounds_toArray, List.set_cons_succ, List.set_cons_zero]) | (refine quiet_slice_vW (by rfl) _ _ _ _ rfl _ rfl _ _ rfl rfl (.slice (some ⟨b7, 0 + (A.size - 32), none⟩) (A.size - (A.size - 32)) (c7 - (A.size - 32))) (fun w0 _ => Hsl.out w0) ?_; simp only [World.size_alloc, World.size_drew, Act.put, List.setIfInBounds_toArray, List.set_cons_succ, List.set_cons_zero]) | (refine quiet_conv_v (by rfl) _ _ _ rfl _ rfl (.string T) (fun w0 h => Hc2.out w0 h.2) ?_; simp only [World.size_alloc, World.size_drew, Act.put, List.setIfInBounds_toArray, List.set_cons_succ, List.set_cons_zero]) | go_big_quiet_step (fail))
              refine wpQuiet_nil ?_
              refine WD.done (by kernel_rfl) ?_
              go_wp2_with fail
              go_ret
              exact ⟨rfl, G10.trans' f11⟩
end Go.Proofs.Ytjffhlhpapjnnaa
