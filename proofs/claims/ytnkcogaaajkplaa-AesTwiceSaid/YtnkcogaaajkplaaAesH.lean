/- Layer 3, aes: Block, Back. -/
import Derived.Test.YtnkcogaaajkplaaAesG
namespace Go.Proofs.Ytnkcogaaajkplaa
open Go Go.Xr Go.RowKit
set_option linter.unusedVariables false
set_option linter.unusedSimpArgs false

set_option maxRecDepth 20000 in
theorem whole_block {w : World} {p : Nat} {T : List UInt8} (s : ByteArray) (hT : T.length = 688) (hs : s.size = 16) (hp : Blk w p (ciph T)) :
    Calls Try.prog 23 #[.pointer (some ⟨p, 0, none⟩), .string s, .func (Fn.func 24) #[.pointer (some ⟨p, 0, none⟩)] #[]] w fun e w' => e = .returned (.tuple #[.string ⟨(blockS T s.data.toList).toArray⟩, .int .i64 0]) ∧ Fr [] w w' := by
  obtain ⟨i, hi, hz, _⟩ := infS
  have Hi := hid hi
  have Hz := hid hz
  have HT := hid hT
  have hsl : s.data.toList.length = 16 := by rw [Array.length_toList]; exact hs
  have Hsl := hid hsl
  have hne : ((s.size : Int) != 16) = false := by rw [hs]; rfl
  have Hs := hid hs
  have Hk := fun w' (h : Blk w' p (ciph T)) => hid (block_any (w := w') hT hsl h)
  clear hi hz hT hs hsl
  go_enter Try.func23, Try.ntmps23
  go_wp2_with (first
    | (go_at_call 26; refine (not_any HT.out hp).mono ?_; rintro e w' ⟨rfl, rfl⟩)
    | (refine wpList_bytes_of_string rfl 9 32 5 _ rfl s rfl Try.underlying9 Try.underlying32 Try.underlying5 ?_; intro w1 cap f1 hlt1 hb1 hcap; simp only [World.size_alloc, World.size_drew, Act.put, List.setIfInBounds_toArray, List.set_cons_succ, List.set_cons_zero])
    | (refine wpList_arrayAt rfl 45 _ rfl 16 5 Try.underlying45 rfl (by rw [Hs.out]; exact Nat.le_refl _) ?_; simp only [World.size_alloc, World.size_drew, Act.put, List.setIfInBounds_toArray, List.set_cons_succ, List.set_cons_zero])
    | (refine wpList_load_ag rfl _ _ rfl rfl (bv s.data.toList) hb1 sqT (bvl Hsl.out) (by rw [List.drop_zero, ← bvl Hsl.out]; exact List.take_left) ?_; simp only [World.size_alloc, World.size_drew, Act.put, List.setIfInBounds_toArray, List.set_cons_succ, List.set_cons_zero])
    | (go_at_call 24; refine ((Hk _ (f1.blk hp (by simp))).out).mono ?_; rintro e w2 ⟨rfl, f2⟩)
    | (refine wpList_alloc_any rfl _ rfl _ _ 16 Hi.out Hz.out rfl ?_; intro zs w3 hzl hze f3 hlt3 hb3; rw [hze] at hb3; clear hzl hze; simp only [World.size_alloc, World.size_drew, Act.put, List.setIfInBounds_toArray, List.set_cons_succ, List.set_cons_zero])
    | (refine wpList_store_ag rfl _ _ _ rfl rfl (bv (blockS T s.data.toList)) rfl hb3 sqT (bvl (blockS_len T _)) (by decide) (bv_one _) ?_; intro w4 f4 b4 hs4; rw [splice_all _ _ (by rw [bvl (blockS_len T _)]; rfl)] at b4; simp only [World.size_alloc, World.size_drew, Act.put, List.setIfInBounds_toArray, List.set_cons_succ, List.set_cons_zero])
    | (refine wpList_string_of_bytes rfl 32 9 5 _ rfl 16 16 rfl b4 (blockS T s.data.toList) (blockS_len T _) (by rw [blockS_len, ← bvl (blockS_len T s.data.toList), List.drop_zero, List.take_length]) Try.underlying32 Try.underlying5 Try.underlying9 ?_; simp only [World.size_alloc, World.size_drew, Act.put, List.setIfInBounds_toArray, List.set_cons_succ, List.set_cons_zero]))
  go_ret2
  exact ⟨rfl, ((f1.trans' f2).trans' f3).trans f4 (fun x hx => .inr (by simp at hx; have := f1.size; have := f2.size; omega))⟩
theorem blockC_any {w : World} {p : Nat} {T : List UInt8} (s : ByteArray) (hT : T.length = 688) (hs : s.size = 16) (hp : Blk w p (ciph T)) :
    Calls Try.prog 12 #[.pointer (some ⟨p, 0, none⟩), .string s] w fun e w' => e = .returned (.tuple #[.string ⟨(blockS T s.data.toList).toArray⟩, .int .i64 0]) ∧ Fr [] w w' := by
  have H := hid (whole_block s hT hs hp)
  clear hT hs
  go_enter Try.func12, Try.ntmps12
  go_wp2_with (go_at_call 23; refine H.out.mono ?_; rintro e w1 ⟨rfl, f1⟩)
  go_ret2
  exact ⟨rfl, f1⟩
theorem whole_block_bad {w : World} {p : Nat} {T : List UInt8} (s : ByteArray) (hT : T.length = 688) (hs : s.size ≠ 16) (hs2 : s.size ≤ 9223372036854775807) (hp : Blk w p (ciph T)) :
    Calls Try.prog 23 #[.pointer (some ⟨p, 0, none⟩), .string s, .func (Fn.func 24) #[.pointer (some ⟨p, 0, none⟩)] #[]] w fun e w' => e = .returned (.tuple #[.string ⟨#[]⟩, .int .i64 2]) ∧ w = w' := by
  have HT := hid hT
  have hne : ((s.size : Int) != 16) = true := by simp; omega
  clear hT hs
  go_enter Try.func23, Try.ntmps23
  go_wp2_with (go_at_call 26; refine (not_any HT.out hp).mono ?_; rintro e w' ⟨rfl, rfl⟩)
  go_ret2
  exact ⟨rfl, rfl⟩
theorem blockC_bad {w : World} {p : Nat} {T : List UInt8} (s : ByteArray) (hT : T.length = 688) (hs : s.size ≠ 16) (hs2 : s.size ≤ 9223372036854775807) (hp : Blk w p (ciph T)) :
    Calls Try.prog 12 #[.pointer (some ⟨p, 0, none⟩), .string s] w fun e w' => e = .returned (.tuple #[.string ⟨#[]⟩, .int .i64 2]) ∧ w = w' := by
  have H := hid (whole_block_bad s hT hs hs2 hp)
  clear hT hs
  go_enter Try.func12, Try.ntmps12
  go_wp2_with (go_at_call 23; refine H.out.mono ?_; rintro e w1 ⟨rfl, rfl⟩)
  go_ret2
  exact ⟨rfl, rfl⟩
set_option maxRecDepth 20000 in
theorem whole_back {w : World} {p : Nat} {T : List UInt8} (s : ByteArray) (hT : T.length = 688) (hs : s.size = 16) (hp : Blk w p (ciph T)) :
    Calls Try.prog 23 #[.pointer (some ⟨p, 0, none⟩), .string s, .func (Fn.func 25) #[.pointer (some ⟨p, 0, none⟩)] #[]] w fun e w' => e = .returned (.tuple #[.string ⟨(backS T s.data.toList).toArray⟩, .int .i64 0]) ∧ Fr [] w w' := by
  obtain ⟨i, hi, hz, _⟩ := infS
  have Hi := hid hi
  have Hz := hid hz
  have HT := hid hT
  have hsl : s.data.toList.length = 16 := by rw [Array.length_toList]; exact hs
  have Hsl := hid hsl
  have hne : ((s.size : Int) != 16) = false := by rw [hs]; rfl
  have Hs := hid hs
  have Hk := fun w' (h : Blk w' p (ciph T)) => hid (back_any (w := w') hT hsl h)
  clear hi hz hT hs hsl
  go_enter Try.func23, Try.ntmps23
  go_wp2_with (first
    | (go_at_call 26; refine (not_any HT.out hp).mono ?_; rintro e w' ⟨rfl, rfl⟩)
    | (refine wpList_bytes_of_string rfl 9 32 5 _ rfl s rfl Try.underlying9 Try.underlying32 Try.underlying5 ?_; intro w1 cap f1 hlt1 hb1 hcap; simp only [World.size_alloc, World.size_drew, Act.put, List.setIfInBounds_toArray, List.set_cons_succ, List.set_cons_zero])
    | (refine wpList_arrayAt rfl 45 _ rfl 16 5 Try.underlying45 rfl (by rw [Hs.out]; exact Nat.le_refl _) ?_; simp only [World.size_alloc, World.size_drew, Act.put, List.setIfInBounds_toArray, List.set_cons_succ, List.set_cons_zero])
    | (refine wpList_load_ag rfl _ _ rfl rfl (bv s.data.toList) hb1 sqT (bvl Hsl.out) (by rw [List.drop_zero, ← bvl Hsl.out]; exact List.take_left) ?_; simp only [World.size_alloc, World.size_drew, Act.put, List.setIfInBounds_toArray, List.set_cons_succ, List.set_cons_zero])
    | (go_at_call 25; refine ((Hk _ (f1.blk hp (by simp))).out).mono ?_; rintro e w2 ⟨rfl, f2⟩)
    | (refine wpList_alloc_any rfl _ rfl _ _ 16 Hi.out Hz.out rfl ?_; intro zs w3 hzl hze f3 hlt3 hb3; rw [hze] at hb3; clear hzl hze; simp only [World.size_alloc, World.size_drew, Act.put, List.setIfInBounds_toArray, List.set_cons_succ, List.set_cons_zero])
    | (refine wpList_store_ag rfl _ _ _ rfl rfl (bv (backS T s.data.toList)) rfl hb3 sqT (bvl (backS_len T _)) (by decide) (bv_one _) ?_; intro w4 f4 b4 hs4; rw [splice_all _ _ (by rw [bvl (backS_len T _)]; rfl)] at b4; simp only [World.size_alloc, World.size_drew, Act.put, List.setIfInBounds_toArray, List.set_cons_succ, List.set_cons_zero])
    | (refine wpList_string_of_bytes rfl 32 9 5 _ rfl 16 16 rfl b4 (backS T s.data.toList) (backS_len T _) (by rw [backS_len, ← bvl (backS_len T s.data.toList), List.drop_zero, List.take_length]) Try.underlying32 Try.underlying5 Try.underlying9 ?_; simp only [World.size_alloc, World.size_drew, Act.put, List.setIfInBounds_toArray, List.set_cons_succ, List.set_cons_zero]))
  go_ret2
  exact ⟨rfl, ((f1.trans' f2).trans' f3).trans f4 (fun x hx => .inr (by simp at hx; have := f1.size; have := f2.size; omega))⟩
theorem backC_any {w : World} {p : Nat} {T : List UInt8} (s : ByteArray) (hT : T.length = 688) (hs : s.size = 16) (hp : Blk w p (ciph T)) :
    Calls Try.prog 13 #[.pointer (some ⟨p, 0, none⟩), .string s] w fun e w' => e = .returned (.tuple #[.string ⟨(backS T s.data.toList).toArray⟩, .int .i64 0]) ∧ Fr [] w w' := by
  have H := hid (whole_back s hT hs hp)
  clear hT hs
  go_enter Try.func13, Try.ntmps13
  go_wp2_with (go_at_call 23; refine H.out.mono ?_; rintro e w1 ⟨rfl, f1⟩)
  go_ret2
  exact ⟨rfl, f1⟩
theorem whole_back_bad {w : World} {p : Nat} {T : List UInt8} (s : ByteArray) (hT : T.length = 688) (hs : s.size ≠ 16) (hs2 : s.size ≤ 9223372036854775807) (hp : Blk w p (ciph T)) :
    Calls Try.prog 23 #[.pointer (some ⟨p, 0, none⟩), .string s, .func (Fn.func 25) #[.pointer (some ⟨p, 0, none⟩)] #[]] w fun e w' => e = .returned (.tuple #[.string ⟨#[]⟩, .int .i64 2]) ∧ w = w' := by
  have HT := hid hT
  have hne : ((s.size : Int) != 16) = true := by simp; omega
  clear hT hs
  go_enter Try.func23, Try.ntmps23
  go_wp2_with (go_at_call 26; refine (not_any HT.out hp).mono ?_; rintro e w' ⟨rfl, rfl⟩)
  go_ret2
  exact ⟨rfl, rfl⟩
theorem backC_bad {w : World} {p : Nat} {T : List UInt8} (s : ByteArray) (hT : T.length = 688) (hs : s.size ≠ 16) (hs2 : s.size ≤ 9223372036854775807) (hp : Blk w p (ciph T)) :
    Calls Try.prog 13 #[.pointer (some ⟨p, 0, none⟩), .string s] w fun e w' => e = .returned (.tuple #[.string ⟨#[]⟩, .int .i64 2]) ∧ w = w' := by
  have H := hid (whole_back_bad s hT hs hs2 hp)
  clear hT hs
  go_enter Try.func13, Try.ntmps13
  go_wp2_with (go_at_call 23; refine H.out.mono ?_; rintro e w1 ⟨rfl, rfl⟩)
  go_ret2
  exact ⟨rfl, rfl⟩
end Go.Proofs.Ytnkcogaaajkplaa
