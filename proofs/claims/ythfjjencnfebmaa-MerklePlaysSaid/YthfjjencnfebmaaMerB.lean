/- Layer 10, merkle: a leaf, a group of a row, the part of a group. -/
import Derived.Test.YthfjjencnfebmaaMerA
import Derived.Test.YthfjjencnfebmaaRws
namespace Go.Xr
open Go
set_option linter.unusedVariables false
/-- The group of a row in which part i is. -/
def grp (row : List ByteArray) (i : Nat) : List ByteArray := (row.drop (i / 8 * 8)).take 8
theorem grp_len (row : List ByteArray) (i : Nat) : (grp row i).length = min 8 (row.length - i / 8 * 8) := by simp [grp]
theorem sum_le (l : List ByteArray) (n : Nat) (h : ∀ s ∈ l, s.size ≤ n) : (l.map ByteArray.size).sum ≤ l.length * n := by
  induction l with
  | nil => simp
  | cons s r ih =>
    have h1 := ih fun s hs => h s (List.mem_cons_of_mem _ hs)
    have h2 := h s List.mem_cons_self
    rw [List.map_cons, List.sum_cons, List.length_cons, Nat.add_mul]
    omega
end Go.Xr
namespace Go.Proofs.Ythfjjencnfebmaa.mer
open Go Go.Xr Go.RowKit
set_option linter.unusedVariables false
set_option linter.unusedSimpArgs false
/-- What a leaf is the digest of; a leaf. -/
def leafT (i : Nat) (tag : ByteArray) : ByteArray := catS [⟨#[108]⟩, ⟨(leN i 8).toArray⟩, tag]
def leafS (i : Nat) (tag : ByteArray) : ByteArray := shaS (leafT i tag)
/-- What the part of a group is the digest of; the part. -/
def nodeT (row : List ByteArray) : ByteArray := catS (⟨#[110]⟩ :: row)
def nodeS (row : List ByteArray) : ByteArray := shaS (nodeT row)
theorem leafT_size (i : Nat) (tag : ByteArray) : (leafT i tag).size = 9 + tag.size := by
  rw [leafT, catS_size]
  simp [size_mk', leN_len]
  show 1 + _ = _
  omega
theorem nodeT_size (row : List ByteArray) : (nodeT row).size = 1 + (row.map ByteArray.size).sum := by
  rw [nodeT, catS_size]
  rfl
theorem u64_int (i : Nat) (h : i < 18446744073709551616) : (UInt64.ofNat i).toNat = i := by rw [UInt64.toNat_ofNat', Nat.mod_eq_of_lt (by omega)]
theorem cv_iu (w : World) (m : Nat) (h : m < 18446744073709551616) : (convert 3 65 (.int .i64 (m : Int))).run Try.prog w = .ok (W64 (UInt64.ofNat m)) w := by
  have e : Value.int .u64 (IntKind.u64.wrap (m : Int)) = W64 (UInt64.ofNat m) := by
    rw [val_u64, u64_int _ h]
    congr 1
    simp [IntKind.wrap, IntKind.bits, IntKind.signed]
    omega
  simp only [convert, Sem.run_bind, run_underlying Try.underlying3, run_underlying Try.underlying65, Result.andThen_ok, Conv.intToInt, e, Sem.run_pure]
theorem quo_i (t : TypeId) (i d : Nat) (hi : i ≤ 9223372036854775807) (hd : 0 < d) : binOp .quo t (.int .i64 (i : Int)) (.int .i64 (d : Int)) = pure (.int .i64 ((i / d : Nat) : Int)) := by
  have h1 : ((d : Int) == 0) = false := by simp; omega
  have hq0 : i / d ≤ i := Nat.div_le_self _ _
  have h2 : Int.tdiv (i : Int) (d : Int) = ((i / d : Nat) : Int) := by rw [Int.tdiv_eq_ediv_of_nonneg (by omega), Int.natCast_ediv]
  generalize i / d = q at *
  have h3 : IntKind.i64.wrap (q : Int) = (q : Int) := by
    simp [IntKind.wrap, IntKind.bits, IntKind.signed]
    omega
  have h4 : ¬ (d = 0) := by omega
  simp [binOp, Op.intDiv, h2, h3, h4]
set_option maxRecDepth 20000 in
theorem leaf_any {w : World} (i : Nat) (tag : ByteArray) (hi : i ≤ 9223372036854775807) (ht : tag.size < 1099511627000) : Calls Try.prog 37 #[.int .i64 (i : Int), .string tag] w fun e w' => e = .returned (.string (leafS i tag)) ∧ Fr [] w w' := by
  have hcv := fun w0 : World => cv_iu w0 i (by omega)
  obtain ⟨i9, hi9, hz9, hs9, hb9⟩ := inf9
  have Hi := hid hi9
  have Hz := hid hz9
  have Hs := hid hs9
  clear hi9 hz9 hs9 hb9
  have H8 := hid (show n8le (UInt64.ofNat i) = ⟨(leN i 8).toArray⟩ by rw [n8le, u64_int _ (by omega)])
  obtain ⟨N8, hN8⟩ : ∃ N8, n8le (UInt64.ofNat i) = N8 := ⟨_, rfl⟩
  have HN8 := hid hN8
  have HT := hid (show leafT i tag = catS [⟨#[108]⟩, N8, tag] by rw [leafT, ← hN8, H8.out])
  have Hsz := hid (leafT_size i tag)
  have Hr := hid (show leafS i tag = shaS (leafT i tag) from rfl)
  obtain ⟨R, hR⟩ : ∃ R, leafS i tag = R := ⟨_, rfl⟩
  have HR := hid hR
  rw [hR]
  clear hN8 hR
  go_enter Try.func37, Try.ntmps37
  go_wp2_with (first
    | (go_at_call 43; refine (u64_any _).mono ?_; rintro e w1 ⟨rfl, f1⟩; rw [HN8.out])
    | (refine wpList_buildSlice_r rfl _ 3 _ rfl 9 Try.underlying22 _ _ Hi.out Hz.out rfl Hs.out (by decide) (by decide) (by decide) [.string ⟨#[108]⟩, .string N8, .string tag] rfl (by intro v hv; simp at hv; rcases hv with rfl | rfl | rfl <;> rfl) ?_; intro w2 f2 hlt2 hb2; simp only [World.size_alloc, World.size_drew, Act.put, List.setIfInBounds_toArray, List.set_cons_succ, List.set_cons_zero])
    | (go_at_call 45; refine (digest_any (l := [⟨#[108]⟩, N8, tag]) (rc_as (rc_blk hb2 rfl (by simp [maxLen])) rfl rfl) (by simp) (by rw [← HT.out, Hsz.out]; omega)).mono ?_; rintro e w3 ⟨rfl, f3⟩; rw [← HT.out, ← Hr.out, HR.out]))
  go_ret
  exact ⟨rfl, (f1.trans' f2).trans' f3⟩
set_option maxRecDepth 20000 in
theorem node_any {w : World} {v : Value} {l : List ByteArray} {B : Option Nat} (h : Rc w 1 v l.length (l.map .string) B) (hl : l.length ≤ 16777215) (hs : (l.map ByteArray.size).sum < 1099511627000) : Calls Try.prog 38 #[v] w fun e w' => e = .returned (.string (nodeS l)) ∧ Fr [] w w' := by
  obtain ⟨i9, hi9, hz9, hs9, hb9⟩ := inf9
  have Hi := hid hi9
  have Hz := hid hz9
  have Hs := hid hs9
  have Hb := hid hb9
  clear hi9 hz9 hs9 hb9
  have Hsz := hid (nodeT_size l)
  have Hr := hid (show nodeS l = shaS (catS (⟨#[110]⟩ :: l)) from rfl)
  have HT := hid (show nodeT l = catS (⟨#[110]⟩ :: l) from rfl)
  obtain ⟨R, hR⟩ : ∃ R, nodeS l = R := ⟨_, rfl⟩
  have HR := hid hR
  rw [hR]
  clear hR
  obtain ⟨a, c, rfl⟩ := h.isSlice
  go_enter Try.func38, Try.ntmps38
  go_wp2_with (first
    | (refine wpList_buildSlice_r rfl _ 1 _ rfl 9 Try.underlying22 _ _ Hi.out Hz.out rfl Hs.out (by decide) (by decide) (by decide) [.string ⟨#[110]⟩] rfl (by intro v hv; simp at hv; rcases hv with rfl; rfl) ?_; intro w1 f1 hlt1 hb1; simp only [World.size_alloc, World.size_drew, Act.put, List.setIfInBounds_toArray, List.set_cons_succ, List.set_cons_zero])
    | (refine wpList_append_rc rfl _ _ _ rfl 9 _ _ 1 16 Try.underlying22 Hi.out Hz.out Hs.out Hb.out rfl (by decide) rfl (Own.blk (n := 1) (size := 1) hb1 (Nat.le_refl _) (by simp [maxLen]) rfl) rfl (h.keep f1 (by simp)) (str_one l) (by unfold maxLen; omega) (by omega) ?_; intro v2 w2 B2 ho2 f2 hB2; simp only [World.size_alloc, World.size_drew, Act.put, List.setIfInBounds_toArray, List.set_cons_succ, List.set_cons_zero])
    | (go_at_call 45; refine (digest_any (l := ⟨#[110]⟩ :: l) (rc_as ho2.rd.rc (by simp; omega) (by simp)) (by simp; omega) (by rw [← HT.out, Hsz.out]; omega)).mono ?_; rintro e w3 ⟨rfl, f3⟩; rw [← Hr.out, HR.out]))
  go_ret
  refine ⟨rfl, (f1.trans f2 fun x hx => ?_).trans' f3⟩
  have hz := f1.size
  rcases hB2 with rfl | ⟨b, rfl, hb⟩ <;> · simp at hx; omega
theorem mul_i (t : TypeId) (i d : Nat) (hi : i * d ≤ 9223372036854775807) : binOp .mul t (.int .i64 (i : Int)) (.int .i64 (d : Int)) = pure (.int .i64 ((i * d : Nat) : Int)) := by
  have h2 : (i : Int) * (d : Int) = ((i * d : Nat) : Int) := by rw [Int.natCast_mul]
  generalize i * d = q at *
  have h3 : IntKind.i64.wrap (q : Int) = (q : Int) := by
    simp [IntKind.wrap, IntKind.bits, IntKind.signed]
    omega
  simp [binOp, Op.intArith, h2, h3]
set_option maxRecDepth 20000 in
theorem group_any {w : World} {v : Value} {l : List ByteArray} {B : Option Nat} (h : Rc w 1 v l.length (l.map .string) B) (hl : l.length ≤ 16777215) (i : Nat) (hi : i < l.length) : Calls Try.prog 39 #[v, .int .i64 (i : Int)] w fun e w' => (∃ v', e = .returned v' ∧ Rc w 1 v' (grp l i).length ((grp l i).map .string) B) ∧ w' = w := by
  have hq8 : i / 8 * 8 ≤ i := Nat.div_mul_le_self _ _
  have hq : ∀ t, binOp .quo t (.int .i64 (i : Int)) (.int .i64 8) = pure (.int .i64 ((i / 8 : Nat) : Int)) := fun t => quo_i t i 8 (by omega) (by decide)
  have hm : ∀ t, binOp .mul t (.int .i64 ((i / 8 : Nat) : Int)) (.int .i64 8) = pure (.int .i64 ((i / 8 * 8 : Nat) : Int)) := fun t => mul_i t (i / 8) 8 (by omega)
  obtain ⟨f, hf⟩ : ∃ f, i / 8 * 8 = f := ⟨_, rfl⟩
  obtain ⟨q, hq'⟩ : ∃ q, i / 8 = q := ⟨_, rfl⟩
  obtain ⟨k, hk⟩ : ∃ k, min (f + 8) l.length = k := ⟨_, rfl⟩
  have hk1 : min ((f : Int) + 8) (l.length : Int) = (k : Int) := by omega
  obtain ⟨v', hv', hr'⟩ := rc_lh (P := Try.prog) 22 9 Try.underlying22 (by kernel_rfl) h f k (by omega) (by omega)
  have Hr' := hid (rc_as (l' := grp l i) hr' (by rw [grp_len]; omega) (by
    unfold grp
    rw [hf, List.map_take, List.map_drop, List.take_eq_take_iff, List.length_drop, List.length_map]
    omega))
  rw [hf] at hm
  rw [hq'] at hq hm
  obtain ⟨a, c, rfl⟩ := h.isSlice
  have hfb : f ≤ 16777215 := by omega
  clear hr' hf hq' h hq8 hk hl hi
  go_enter Try.func39, Try.ntmps39
  go_wp2_with (refine wpList_slice_v rfl _ _ _ _ _ rfl _ rfl _ _ _ rfl rfl rfl _ (hv' _ _ _) ?_; simp only [World.size_alloc, World.size_drew, Act.put, List.setIfInBounds_toArray, List.set_cons_succ, List.set_cons_zero])
  go_ret
  exact ⟨⟨_, rfl, Hr'.out⟩, rfl⟩
end Go.Proofs.Ythfjjencnfebmaa.mer
