/- Layer 10, merkle: a tree in memory, and a new one. -/
import Derived.Test.YthfjjencnfebmaaMerD
namespace Go.Xr
open Go
set_option linter.unusedVariables false
/-- The first i of a list, then z. -/
def upV (z : Value) (l : List Value) (i : Nat) : List Value := l.take i ++ List.replicate (l.length - i) z
theorem upV_len (z : Value) (l : List Value) (i : Nat) (h : i ≤ l.length) : (upV z l i).length = l.length := by simp [upV]; omega
theorem upV_zero (z : Value) (l : List Value) : upV z l 0 = List.replicate l.length z := by simp [upV]
theorem upV_all (z : Value) (l : List Value) : upV z l l.length = l := by simp [upV]
theorem upV_set (z : Value) (l : List Value) (i : Nat) (c : Value) (h : l[i]? = some c) : (upV z l i).set i c = upV z l (i + 1) := by
  obtain ⟨hi, hc⟩ := List.getElem?_eq_some_iff.1 h
  unfold upV
  have e : l.length - i = (l.length - (i + 1)) + 1 := by omega
  rw [List.set_append_right _ _ (by rw [List.length_take]; omega), List.length_take, Nat.min_eq_left (by omega), Nat.sub_self, e, List.replicate_succ, List.set_cons_zero, List.take_succ_eq_append_getElem hi, List.append_assoc, hc]
  rfl
end Go.Xr
namespace Go.Proofs.Ythfjjencnfebmaa.mer
open Go Go.Xr Go.RowKit
set_option linter.unusedVariables false
set_option linter.unusedSimpArgs false
/-- The leaves over tags; all rows, from a row on. -/
def leafs (tags : List ByteArray) : List ByteArray := tags.mapIdx leafS
def rowsF : Nat → List ByteArray → List (List ByteArray)
  | 0, r => [r]
  | f + 1, r => if r.length ≤ 1 then [r] else r :: rowsF f (upS r)
def rowsS (tags : List ByteArray) : List (List ByteArray) := rowsF tags.length (leafs tags)
theorem leafs_len (tags : List ByteArray) : (leafs tags).length = tags.length := by simp [leafs]
theorem upS_len (r : List ByteArray) : (upS r).length = (r.length + 7) / 8 := upN_len r _
theorem upS_pos (r : List ByteArray) (h : 0 < r.length) : 0 < (upS r).length := by rw [upS_len]; omega
/-- Rows in memory. -/
def RowsAt (w : World) (rvs : List Value) (rows : List (List ByteArray)) (bs : List Nat) : Prop :=
  rvs.length = rows.length ∧ bs.length = rows.length ∧ ∀ (j : Nat) (r : List ByteArray), rows[j]? = some r → ∃ v b, rvs[j]? = some v ∧ bs[j]? = some b ∧ Xr.Own w 1 v r.length (r.map .string) (some b)
theorem RowsAt.keep {w w' : World} {S : List Nat} {rvs : List Value} {rows : List (List ByteArray)} {bs : List Nat} (h : RowsAt w rvs rows bs) (f : Fr S w w') (hS : ∀ b ∈ bs, b ∉ S) : RowsAt w' rvs rows bs := by
  refine ⟨h.1, h.2.1, fun j r hj => ?_⟩
  obtain ⟨v, b, h1, h2, h3⟩ := h.2.2 j r hj
  exact ⟨v, b, h1, h2, h3.keep f fun b' hb' => by cases hb'; exact hS b (List.mem_of_getElem? h2)⟩
theorem RowsAt.snoc {w : World} {rvs : List Value} {rows : List (List ByteArray)} {bs : List Nat} (h : RowsAt w rvs rows bs) {v : Value} {r : List ByteArray} {b : Nat} (ho : Xr.Own w 1 v r.length (r.map .string) (some b)) : RowsAt w (rvs ++ [v]) (rows ++ [r]) (bs ++ [b]) := by
  obtain ⟨h1, h2, h3⟩ := h
  refine ⟨by simp [h1], by simp [h2], fun j r' hj => ?_⟩
  rcases Nat.lt_or_ge j rows.length with hl | hl
  · rw [List.getElem?_append_left hl] at hj
    obtain ⟨v', b', e1, e2, e3⟩ := h3 j r' hj
    exact ⟨v', b', by rw [List.getElem?_append_left (by omega)]; exact e1, by rw [List.getElem?_append_left (by omega)]; exact e2, e3⟩
  · rw [List.getElem?_append_right hl] at hj
    have hj0 : j = rows.length := by
      by_cases hh : j = rows.length
      · exact hh
      · rw [List.getElem?_eq_none (by simp; omega)] at hj; cases hj
    subst hj0
    simp at hj
    subst hj
    exact ⟨v, b, by rw [List.getElem?_append_right (by omega), h1]; simp, by rw [List.getElem?_append_right (by omega), h2]; simp, ho⟩
/-- A tree in memory: its tags and its rows; bl: all of its blocks. -/
def TreeP (w : World) (bl : List Nat) (tb : Nat) (tags : List ByteArray) (rows : List (List ByteArray)) (rvs : List Value) : Prop :=
  ∃ vt bt vr br bs, bl = tb :: bt :: br :: bs ∧ Blk w tb [vt, vr] ∧ Xr.Own w 1 vt tags.length (tags.map .string) (some bt) ∧ Xr.Own w 1 vr rows.length rvs (some br) ∧ RowsAt w rvs rows bs ∧ bl.Nodup
def TreeAt (w : World) (bl : List Nat) (tb : Nat) (tags : List ByteArray) (rows : List (List ByteArray)) : Prop := ∃ rvs, TreeP w bl tb tags rows rvs
theorem TreeP.keep {w w' : World} {S bl : List Nat} {tb : Nat} {tags : List ByteArray} {rows : List (List ByteArray)} {rvs : List Value} (h : TreeP w bl tb tags rows rvs) (f : Fr S w w') (hS : ∀ b ∈ bl, b ∉ S) : TreeP w' bl tb tags rows rvs := by
  obtain ⟨vt, bt, vr, br, bs, rfl, h1, h2, h3, h4, h5⟩ := h
  exact ⟨vt, bt, vr, br, bs, rfl, f.blk h1 (hS _ (by simp)), h2.keep f fun b hb => by cases hb; exact hS _ (by simp), h3.keep f fun b hb => by cases hb; exact hS _ (by simp), h4.keep f fun b hb => hS _ (by simp [hb]), h5⟩
theorem TreeAt.keep {w w' : World} {S bl : List Nat} {tb : Nat} {tags : List ByteArray} {rows : List (List ByteArray)} (h : TreeAt w bl tb tags rows) (f : Fr S w w') (hS : ∀ b ∈ bl, b ∉ S) : TreeAt w' bl tb tags rows := by
  obtain ⟨r, h⟩ := h
  exact ⟨r, h.keep f hS⟩
theorem RowsAt.lt {w : World} {rvs : List Value} {rows : List (List ByteArray)} {bs : List Nat} (h : RowsAt w rvs rows bs) : ∀ b ∈ bs, b < w.heap.size := by
  intro b hb
  obtain ⟨j, hj, rfl⟩ := List.getElem_of_mem hb
  obtain ⟨v, b', h1, h2, h3⟩ := h.2.2 j (rows[j]'(by have := h.2.1; omega)) (List.getElem?_eq_getElem _)
  rw [List.getElem?_eq_getElem hj] at h2
  cases h2
  exact h3.lt _ rfl
theorem TreeP.lt {w : World} {bl : List Nat} {tb : Nat} {tags : List ByteArray} {rows : List (List ByteArray)} {rvs : List Value} (h : TreeP w bl tb tags rows rvs) : ∀ b ∈ bl, b < w.heap.size := by
  obtain ⟨vt, bt, vr, br, bs, rfl, h1, h2, h3, h4, h5⟩ := h
  intro b hb
  simp only [List.mem_cons] at hb
  rcases hb with rfl | rfl | rfl | hb
  · exact h1.lt
  · exact h2.lt _ rfl
  · exact h3.lt _ rfl
  · exact h4.lt _ hb
theorem rowsF_step (f : Nat) (r : List ByteArray) (h : 1 < r.length) (hf : r.length ≤ f + 1) : ∃ g, rowsF f r = r :: rowsF g (upS r) ∧ (upS r).length ≤ g + 1 := by
  cases f with
  | zero => omega
  | succ f => exact ⟨f, by simp only [rowsF]; rw [if_neg (by omega)], by rw [upS_len]; omega⟩
theorem rowsF_end (f : Nat) (r : List ByteArray) (h : r.length ≤ 1) : rowsF f r = [r] := by
  cases f with
  | zero => rfl
  | succ f => simp only [rowsF]; rw [if_pos h]
theorem upS_32 (r : List ByteArray) : ∀ s ∈ upS r, s.size = 32 := by
  intro s hs
  unfold upS upN at hs
  obtain ⟨j, _, rfl⟩ := List.mem_map.1 hs
  exact shaS_size _
theorem leafs_32 (tags : List ByteArray) : ∀ s ∈ leafs tags, s.size = 32 := by
  intro s hs
  unfold leafs at hs
  obtain ⟨i, _, rfl⟩ := List.mem_iff_getElem.1 hs
  rw [List.getElem_mapIdx]
  exact shaS_size _
/-- Between two rounds of 'of': the rows up to 'cur'. -/
def OfI (w0 : World) (l : List ByteArray) (tb : Nat) (cv : Value) (w : World) : Prop :=
  ∃ (pre : List (List ByteArray)) (cur : List ByteArray) (f : Nat) (rvs : List Value) (bl : List Nat) (B : Option Nat), rowsS l = pre ++ rowsF f cur ∧ cur.length ≤ f + 1 ∧ 0 < cur.length ∧ cur.length ≤ 16384 ∧ pre.length + cur.length ≤ 16385 ∧ (∀ s ∈ cur, s.size = 32) ∧ TreeP w bl tb l (pre ++ [cur]) rvs ∧
    Rc w 1 cv cur.length (cur.map .string) B ∧ (∀ b ∈ bl, w0.heap.size ≤ b) ∧ Fr [] w0 w
set_option maxRecDepth 20000 in
theorem inf22 : ∃ i, Try.prog.info? 22 = some i ∧ i.zero = some (.slice none 0 0) ∧ i.size = 1 ∧ i.bytes = 24 := ⟨_, rfl, rfl, rfl, rfl⟩

set_option maxRecDepth 20000 in
theorem clone_any {w : World} {v : Value} {l : List ByteArray} {B : Option Nat} (h : Rc w 1 v l.length (l.map .string) B) (hl : l.length ≤ 16777215) (hn : 0 < l.length) : Calls Try.prog 41 #[v] w fun e w' => (∃ v' b', e = .returned v' ∧ Xr.Own w' 1 v' l.length (l.map .string) (some b') ∧ w.heap.size ≤ b') ∧ Fr [] w w' := by
  obtain ⟨i9, hi9, hz9, hs9, hb9⟩ := inf9
  have Hi := hid hi9
  have Hz := hid hz9
  have Hs := hid hs9
  have Hb := hid hb9
  clear hi9 hz9 hs9 hb9
  have hsn := @Lib.run_eql_slice_nil
  obtain ⟨b, off, c, hB, rfl, h1, h2, h3, h4⟩ := h.some hn
  have ho : Xr.Own (w.alloc (.cells #[] 9)) 1 (.slice (some ⟨w.heap.size, 0, none⟩) 0 0) 0 [] (some w.heap.size) :=
    Own.blk (cs := []) (Blk.alloc w [] _) (Nat.le_refl _) (by simp) (by simp)
  have hk := h.keep ((Fr.refl [] w).alloc (.cells #[] 9)) (by simp)
  clear h h4
  go_enter Try.func41, Try.ntmps41
  go_wp2_with (refine wpList_append_rc rfl _ _ _ rfl 9 _ _ 1 16 Try.underlying22 Hi.out Hz.out Hs.out Hb.out rfl (by decide) rfl ho rfl hk (str_one l) (by unfold maxLen; omega) (by omega) ?_; intro v' w1 B' ho1 f1 hB'; simp only [World.size_alloc, World.size_drew, Act.put, List.setIfInBounds_toArray, List.set_cons_succ, List.set_cons_zero])
  go_ret
  simp only [Nat.zero_add, List.nil_append] at ho1
  have f2 : Fr [] w w1 := ((Fr.refl [] w).alloc _).trans f1 (fun x hx => .inr (by simp at hx; omega))
  refine ⟨?_, f2⟩
  rcases hB' with rfl | ⟨b', rfl, hge⟩
  · exact ⟨v', _, rfl, ho1, Nat.le_refl _⟩
  · exact ⟨v', b', rfl, ho1, by simp at hge; omega⟩

set_option maxRecDepth 20000 in
set_option maxHeartbeats 1000000 in
theorem of_any {w : World} {v : Value} {l : List ByteArray} {B : Option Nat} (h : Rc w 1 v l.length (l.map .string) B) (hl : l.length ≤ 16384) (hn : 0 < l.length) (hs : ∀ s ∈ l, s.size < 1099511627000) :
    Calls Try.prog 31 #[v] w fun e w' => (∃ tb bl, e = .returned (.pointer (some ⟨tb, 0, none⟩)) ∧ TreeAt w' bl tb l (rowsS l) ∧ ∀ b ∈ bl, w.heap.size ≤ b) ∧ Fr [] w w' := by
  obtain ⟨i9, hi9, hz9, hs9, hb9⟩ := inf9
  have Hi := hid hi9
  have Hz := hid hz9
  have Hs := hid hs9
  have Hb := hid hb9
  obtain ⟨i22, hi22, hz22, hs22, hb22⟩ := inf22
  have Hi2 := hid hi22
  have Hz2 := hid hz22
  have Hs2 := hid hs22
  have Hb2 := hid hb22
  clear hi9 hz9 hs9 hb9 hi22 hz22 hs22 hb22
  obtain ⟨b, off, c, hB, rfl, h1, h2, h3, h4⟩ := h.some hn
  go_enter Try.func31, Try.ntmps31
  go_wp2_with (first
    | (go_at_call 41; refine (clone_any h (by omega) hn).mono ?_; rintro e w1 ⟨⟨vt, bt, rfl, ho1, hbt⟩, f1⟩; obtain ⟨va, vc, rfl⟩ := ho1.isSlice)
    | (refine wpList_box rfl _ _ rfl [.slice va l.length vc, .slice none 0 0] rfl ?_; intro w2 f2 hlt2 hb2; simp only [World.size_alloc, World.size_drew, Act.put, List.setIfInBounds_toArray, List.set_cons_succ, List.set_cons_zero])
    | (refine wpList_make_blk rfl _ _ _ rfl l.length l.length .i64 .i64 rfl rfl 9 _ _ 16 Try.underlying22 Hi.out Hz.out Hs.out Hb.out rfl (Nat.le_refl _) (by omega) (by omega) ?_; intro w3 f3 hlt3 hb3; simp only [World.size_alloc, World.size_drew, Act.put, List.setIfInBounds_toArray, List.set_cons_succ, List.set_cons_zero]))
  obtain ⟨tb, htb⟩ : ∃ tb, w1.heap.size = tb := ⟨_, rfl⟩
  obtain ⟨N, hN⟩ : ∃ N, w2.heap.size = N := ⟨_, rfl⟩
  rw [htb] at hb2 ⊢
  rw [hN] at hb3 ⊢
  have hbt1 : bt < tb := by have := ho1.lt bt rfl; omega
  have hbtN : tb < N := by omega
  have hNl : w.heap.size < N := by have := f1.size; omega
  have g3 : Fr [] w w3 := (f1.trans' f2).trans' f3
  have k3 := h.keep g3 (by simp)
  have c3 : Blk w3 tb [.slice va l.length vc, .slice none 0 0] := f3.blk hb2 (by simp)
  have ho3 := ho1.keep (f2.trans' f3) (by simp)
  obtain ⟨L, hL⟩ : ∃ L, (leafs l).map Value.string = L := ⟨_, rfl⟩
  have HLl := hid (show L.length = l.length by rw [← hL, List.length_map, leafs_len])
  have HLg := hid (show ∀ (i : Nat) (hi : i < l.length), L[i]? = some (.string (leafS i l[i])) from fun i hi => by rw [← hL, leafs, List.getElem?_map, List.getElem?_mapIdx, List.getElem?_eq_getElem hi]; rfl)
  have q3 : Blk w3 N (upV (.string ⟨#[]⟩) L 0) := by rw [upV_zero, HLl.out]; exact hb3
  have HL := hid hL
  have hbN : b < N := by omega
  have HB := hid hB
  clear hb3 hb2 f1 f2 f3 ho1 h h4 hL hB hlt2 hlt3 htb hN
  go_loopw [17] (fun iv wr => ∃ i : Nat, i ≤ l.length ∧ iv = .int .i64 (i : Int) ∧ Blk wr N (upV (.string ⟨#[]⟩) L i) ∧ Fr [N] w3 wr) (fun iv _ => l.length - (intOf iv).toNat)
  case atStart => exact ⟨0, by omega, rfl, q3, Fr.refl _ _⟩
  case round =>
    obtain ⟨i, hi, rfl, b1, f⟩ := hrel
    clear q3
    by_cases hli : i < l.length
    · have hd : decide ((i : Int) < (l.length : Int)) = true := by simp; omega
      have hd' : (i : Int) < (l.length : Int) := by omega
      obtain ⟨lb, off', had, hlb, hlbs, hi', hcell⟩ := rc_elem (k3.keep f (by intro b' hb'; rw [HB.out] at hb'; cases hb'; simp; omega)) hli
      obtain ⟨rfl, rfl⟩ : b = lb ∧ off = off' := by simpa using had
      have hts := hs l[i] (List.getElem_mem _)
      have HX := HLg.out i hli
      obtain ⟨T, hT⟩ : ∃ T, l[i] = T := ⟨_, rfl⟩
      rw [hT] at hcell hts HX
      have Hset := hid (upV_set (.string ⟨#[]⟩) L i _ HX)
      have Hlen := hid (show i < (upV (.string ⟨#[]⟩) L i).length by rw [upV_len _ _ _ (by rw [HLl.out]; omega), HLl.out]; exact hli)
      have hib : i ≤ 16384 := by omega
      clear HX hT had hli
      go_wp2_with (first
        | (go_at_call 37; refine (leaf_any i T (by omega) hts).mono ?_; rintro e w5 ⟨rfl, f5⟩)
        | (refine wpList_put rfl _ _ _ rfl rfl (.string (leafS i T)) rfl rfl (f5.blk b1 (by simp)) Hlen.out (by kernel_rfl) ?_; intro w6 f6 b6 hs6; simp only [World.size_alloc, World.size_drew, Act.put, List.setIfInBounds_toArray, List.set_cons_succ, List.set_cons_zero]))
      rw [Hset.out] at b6
      go_roundw
      case rel => exact ⟨i + 1, by omega, by go_num, b6, (f.trans' (f5.mono (T := [N]) (by simp))).trans' f6⟩
      case measure => simp [intOf]; omega
    · have hd : decide ((i : Int) < (l.length : Int)) = false := by simp; omega
      have hd' : ¬ ((i : Int) < (l.length : Int)) := by omega
      have ei : i = L.length := by rw [HLl.out]; omega
      rw [ei, upV_all, ← HL.out] at b1
      clear ei hi
      have HF := hid f
      clear f HLl HLg
      go_wp2_with (first
        | (refine wpList_buildSlice_r rfl _ 1 _ rfl 22 Try.underlying62 _ _ Hi2.out Hz2.out rfl Hs2.out (by decide) (by decide) (by decide) [.slice (some ⟨N, 0, none⟩) l.length l.length] rfl (by intro v hv; simp at hv; rcases hv with rfl; rfl) ?_; intro w7 f7 hlt7 hb7; simp only [World.size_alloc, World.size_drew, Act.put, List.setIfInBounds_toArray, List.set_cons_succ, List.set_cons_zero])
        | (refine wpList_put rfl _ _ _ rfl rfl (.slice (some ⟨wr.heap.size, 0, none⟩) 1 1) rfl rfl (f7.blk (HF.out.blk c3 (by simp; omega)) (by simp)) (by simp) (by kernel_rfl) ?_; intro w8 f8 b8 hs8; simp only [World.size_alloc, World.size_drew, Act.put, List.setIfInBounds_toArray, List.set_cons_succ, List.set_cons_zero]))
      have hwN : N < wr.heap.size := b1.lt
      have hI0 : OfI w l tb (.slice (some ⟨N, 0, none⟩) l.length l.length) w8 := by
        have e7 : Fr [tb] wr w8 := (f7.mono (by simp)).trans' f8
        have o1 : Xr.Own w8 1 (.slice (some ⟨N, 0, none⟩) l.length l.length) (leafs l).length ((leafs l).map .string) (some N) := by
          have := Own.blk (n := l.length) (size := 1) (cap := l.length) (e7.blk b1 (by simp; omega)) (Nat.le_refl _) (by unfold maxLen; omega) (by simp [leafs_len])
          rw [leafs_len]
          rwa [Nat.mul_one, List.take_of_length_le (by simp [leafs_len])] at this
        have o2 : Xr.Own w8 1 (.slice (some ⟨wr.heap.size, 0, none⟩) 1 1) 1 [.slice (some ⟨N, 0, none⟩) l.length l.length] (some wr.heap.size) :=
          Own.blk (n := 1) (size := 1) (cap := 1) (f8.blk hb7 (by simp; omega)) (Nat.le_refl _) (by unfold maxLen; omega) (by simp)
        refine ⟨[], leafs l, l.length, [.slice (some ⟨N, 0, none⟩) l.length l.length], [tb, bt, wr.heap.size, N], some N, rfl, by rw [leafs_len]; omega, by rw [leafs_len]; omega, by rw [leafs_len]; omega, by rw [leafs_len]; simp; omega, leafs_32 l, ?_, o1.rd.rc, ?_, ?_⟩
        · refine ⟨_, bt, _, wr.heap.size, [N], rfl, b8, ((ho3.keep HF.out ?_).keep e7 ?_), o2, ⟨rfl, rfl, ?_⟩, ?_⟩
          · intro b' hb'; cases hb'; simp; omega
          · intro b' hb'; cases hb'; simp; omega
          · intro j r hj
            match j with
            | 0 =>
              simp at hj
              subst hj
              exact ⟨_, _, rfl, rfl, o1⟩
            | j + 1 => simp at hj
          · simp
            omega
        · have := f7.size
          have := HF.out.size
          simp
          omega
        · refine ((g3.trans HF.out ?_).trans e7 ?_)
          · simp; omega
          · simp; omega
      have HI0 := hid hI0
      clear hI0 b8 hb7 f7 f8 b1 ho3 c3 k3 HL
      go_loopw [4] (fun iv wr => OfI w l tb iv wr) (fun iv _ => match iv with | .slice _ n _ => n | _ => 0)
      case atStart => exact HI0.out
      case round =>
        clear HI0
        obtain ⟨pre, cur, f, rvs, bl, B', e1, e2, e3, e4, e5, e6, hT, hr, hbl, fw⟩ := hrel
        obtain ⟨ca, cc, rfl⟩ := hr.isSlice
        by_cases hgt : 1 < cur.length
        · have hd1 : decide ((1 : Int) < (cur.length : Int)) = true := by simp; omega
          have hd1' : (1 : Int) < (cur.length : Int) := by omega
          obtain ⟨g, hg1, hg2⟩ := rowsF_step f cur hgt e2
          have Hul := hid (upS_len cur)
          have Hup := hid (upS_pos cur e3)
          obtain ⟨U, hU⟩ : ∃ U, upS cur = U := ⟨_, rfl⟩
          have Hu32 := hid (show ∀ s ∈ U, s.size = 32 by rw [← hU]; exact upS_32 cur)
          have H1 := hid (up_any hr e4 e6)
          rw [hU] at hg1 hg2 Hul Hup H1
          have E1 := hid (show rowsS l = (pre ++ [cur]) ++ rowsF g U by rw [e1, hg1, List.append_assoc]; rfl)
          obtain ⟨n, hn'⟩ : ∃ n, cur.length = n := ⟨_, rfl⟩
          have Hn := hid hn'
          have HT := hid hT
          rw [hn'] at hd1 hd1' hgt e2 e3 e4 e5 Hul H1 ⊢
          clear e1 hU hg1 hr hn' hT
          go_wp2_with (go_at_call 46; refine H1.out.mono ?_; rintro e w9 ⟨⟨v9, B9, rfl, ho9, hB9⟩, f9⟩; revert f9)
          intro f9
          obtain ⟨b9, rfl⟩ : ∃ b9, B9 = some b9 := by
            rcases ho9.shape with ⟨_, h0, _⟩ | ⟨b9, _, h0, _⟩
            · have := Hup.out; omega
            · exact ⟨b9, h0⟩
          have hT9 := HT.out.keep f9 (by simp)
          obtain ⟨vt, bt', vr, br, bs, rfl, t1, t2, t3, t4, t5⟩ := hT9
          obtain ⟨ra, rc, rfl⟩ := t3.isSlice
          have ht5 := t5
          simp only [List.nodup_cons, List.mem_cons, not_or] at ht5
          have hbr : br < w9.heap.size := t3.lt _ rfl
          have htb9 : tb < w9.heap.size := t1.lt
          obtain ⟨va9, vc9, rfl⟩ := ho9.isSlice
          obtain ⟨m, hm⟩ : ∃ m, (pre ++ [cur]).length = m := ⟨_, rfl⟩
          have hmp : m = pre.length + 1 := by rw [← hm]; simp
          rw [hm] at t1 t3
          have k9 : w9.cell? ⟨tb, 1, none⟩ = some (.slice ra m rc) := t1.cell 1
          have Hm := hid hmp
          clear hm hmp
          go_wp2_with (first
            | (refine wpList_buildSlice_r rfl _ 1 _ rfl 22 Try.underlying62 _ _ Hi2.out Hz2.out rfl Hs2.out (by decide) (by decide) (by decide) [.slice va9 U.length vc9] rfl (by intro v hv; simp at hv; rcases hv with rfl; rfl) ?_; intro w10 f10 hlt10 hb10; have k10 := f10.cell_some k9; simp only [World.size_alloc, World.size_drew, Act.put, List.setIfInBounds_toArray, List.set_cons_succ, List.set_cons_zero])
            | (refine wpList_append_rc rfl _ _ _ rfl 22 _ _ 1 24 Try.underlying62 Hi2.out Hz2.out Hs2.out Hb2.out rfl (by decide) rfl (t3.keep f10 (by simp)) rfl (rc_blk hb10 rfl (by simp [maxLen])) (by intro u hu; simp at hu; subst hu; rfl) (by have := Hm.out; unfold maxLen; simp; omega) (by have := Hm.out; simp; omega) ?_; intro v11 w11 B11 ho11 f11 hB11; obtain ⟨a11, c11, rfl⟩ := ho11.isSlice; simp only [World.size_alloc, World.size_drew, Act.put, List.setIfInBounds_toArray, List.set_cons_succ, List.set_cons_zero])
            | (refine wpList_put rfl _ _ _ rfl rfl (.slice a11 (m + 1) c11) rfl rfl (f11.blk (f10.blk t1 (by simp)) (by simp; exact ht5.1.2.1)) (by simp) (by kernel_rfl) ?_; intro w12 f12 b12 hs12; simp only [World.size_alloc, World.size_drew, Act.put, List.setIfInBounds_toArray, List.set_cons_succ, List.set_cons_zero]))
          have hlt := HT.out.lt
          simp only [List.mem_cons, forall_eq_or_imp] at hlt
          obtain ⟨hl1, hl2, hl3, hl4⟩ := hlt
          have hb9 := hB9 b9 rfl
          have hb9l := ho9.lt b9 rfl
          have hs9 := f9.size
          have hs10 := f10.size
          have hs11 := f11.size
          have hfw := fw.size
          obtain ⟨br', rfl, hbr', hbrS⟩ : ∃ br', B11 = some br' ∧ (br' = br ∨ w10.heap.size ≤ br') ∧ br' < w11.heap.size := by
            have := ho11.lt
            rcases hB11 with rfl | ⟨x, rfl, hx⟩
            · exact ⟨br, rfl, .inl rfl, this _ rfl⟩
            · exact ⟨x, rfl, .inr hx, this _ rfl⟩
          have g12 : Fr [tb, br] w9 w12 := ((f10.mono (by simp)).trans' (f11.mono (by simp))).trans' (f12.mono (by simp))
          have hbl' := hbl
          simp only [List.mem_cons, forall_eq_or_imp] at hbl'
          obtain ⟨hm1, hm2, hm3, hm4⟩ := hbl'
          have hl4' : ∀ x ∈ bs, x ≠ tb ∧ x ≠ br := fun x hx => ⟨fun h => ht5.1.2.2 (h ▸ hx), fun h => ht5.2.2.1 (h ▸ hx)⟩
          have q12 : TreeP w12 (tb :: bt' :: br' :: (bs ++ [b9])) tb l (pre ++ [cur] ++ [U]) (rvs ++ [.slice va9 U.length vc9]) := by
            refine ⟨_, _, _, _, _, rfl, b12, t2.keep g12 ?_, ?_, (t4.keep g12 ?_).snoc (ho9.keep g12 ?_), ?_⟩
            · intro x hx; cases hx; simp; exact ⟨fun h => ht5.1.1 h.symm, ht5.2.1.1⟩
            · have := ho11.keep f12 (by intro x hx; cases hx; simp; rcases hbr' with rfl | h; exact fun h => ht5.1.2.1 h.symm; omega)
              simpa [Hm.out] using this
            · intro x hx; have := hl4' x hx; simp [this]
            · intro x hx; cases hx; simp; omega
            · have hbr2 : br' ≠ tb ∧ br' ≠ bt' ∧ br' ∉ bs ∧ br' ≠ b9 := by
                rcases hbr' with rfl | h
                · exact ⟨fun h => ht5.1.2.1 h.symm, fun h => ht5.2.1.1 h.symm, ht5.2.2.1, by omega⟩
                · exact ⟨by omega, by omega, fun hx => by have := hl4 _ hx; omega, by omega⟩
              have hb9n : b9 ∉ bs := fun hx => by have := hl4 _ hx; omega
              simp only [List.nodup_cons, List.mem_cons, not_or, List.mem_append, List.nodup_append, List.not_mem_nil, not_false_eq_true, List.nodup_nil, or_false, and_true]
              refine ⟨⟨ht5.1.1, fun h => hbr2.1 h.symm, ht5.1.2.2, by omega⟩, ⟨fun h => hbr2.2.1 h.symm, ht5.2.1.2, by omega⟩, ⟨hbr2.2.2.1, hbr2.2.2.2⟩, ht5.2.2.2, ?_⟩
              exact ⟨trivial, fun x hx y hy h => hb9n (hy ▸ h ▸ hx)⟩
          go_roundw
          case rel =>
            have hUl := Hul.out
            refine ⟨pre ++ [cur], U, g, _, _, some b9, E1.out, hg2, Hup.out, by omega, by have := Hm.out; simp; omega, Hu32.out, q12, (ho9.keep g12 (by intro x hx; cases hx; simp; omega)).rd.rc, ?_, fw.trans ((f9.mono (T := [tb, br]) (by simp)).trans' g12) (by simp; omega)⟩
            intro x hx
            simp only [List.mem_cons, List.mem_append, List.not_mem_nil, or_false] at hx
            rcases hx with rfl | rfl | rfl | hx | rfl
            · exact hm1
            · exact hm2
            · rcases hbr' with rfl | h
              · exact hm3
              · omega
            · exact hm4 _ hx
            · omega
          case measure => have := Hul.out; simp; omega
        · have hd1 : decide ((1 : Int) < (cur.length : Int)) = false := by simp; omega
          have hd1' : ¬ ((1 : Int) < (cur.length : Int)) := by omega
          rw [rowsF_end f cur (by omega)] at e1
          have hT' : TreeAt wr bl tb l (rowsS l) := by rw [e1]; exact ⟨_, hT⟩
          clear e1 e2 e3 e4 e5 e6 hr hT
          go_wp2_with fail
          go_ret
          exact ⟨⟨tb, rfl, bl, hT', hbl⟩, fw⟩
end Go.Proofs.Ythfjjencnfebmaa.mer
