/- Layer 6: SectorKeeps, the walk. -/
import Derived.Test.YtflapddkeeiieaaSecG
import Derived.Test.YtflapddkeeiieaaArgs
namespace Go.Proofs.Ytflapddkeeiieaa
open Go Go.Xr Go.RowKit Go.ChangeShapes Go.WideShapes Go.Deep
set_option linter.unusedVariables false
set_option linter.unusedSimpArgs false

/-- A step, as data; 'Keep' is the slice as it lies, and what it holds. -/
structure StepD where
  Do : Int
  I : Int
  C : UInt8
  Text : ByteArray
  Keep : Value
  ks : List Bool
  KB : Option Nat
instance : Inhabited StepD := ⟨⟨0, 0, 0, ⟨#[]⟩, .slice none 0 0, [], none⟩⟩

def stc (s : StepD) : List Value := [.int .i64 s.Do, .int .i64 s.I, bt s.C, .string s.Text, s.Keep]
structure StOk (w : World) (s : StepD) : Prop where
  d1 : -9223372036854775808 ≤ s.Do
  d2 : s.Do ≤ 9223372036854775807
  i1 : -9223372036854775808 ≤ s.I
  i2 : s.I ≤ 9223372036854775807
  t : s.Text.size ≤ maxLen
  k : Rc w 1 s.Keep s.ks.length (s.ks.map .bool) s.KB
  kl : s.ks.length ≤ maxLen

theorem stc_len (a : StepD) : (stc a).length = 5 := rfl

/-- The steps that came in, opened. -/
theorem open_steps {H : Type} {enc : TypeId × Value → H} {w : World} {base : Nat} {spare : Nat → Bool} {held : Bool} {fuel : Nat} {cs : List Value} {x : DataW H × List MemPlace} (h : DataW.trod enc Try.prog w base spare held fuel 22 cs = some x) :
    ∃ (v : Value) (l : List StepD) (B : Option Nat), cs = [v] ∧ Rc w 5 v l.length (l.flatMap stc) B ∧ (∀ a ∈ l, StOk w a) ∧ l.length ≤ maxLen := by
  refine open_rows stc (StOk w) 5 (by decide) stc_len Try.underlying22 rfl (fun n cs x hx => ?_) h
  obtain ⟨xs, n', _, _, hlen, hxl, hf⟩ := DataW.trod_struct Try.underlying32 hx
  have hlen5 : cs.length = 5 := hlen
  have hxl5 : xs.length = 5 := hxl
  match cs, hlen5, xs, hxl5 with
  | [c0, c1, c2, c3, c4], _, [x0, x1, x2, x3, x4], _ =>
    obtain ⟨n0, h0, _, w0⟩ := DataW.trod_int Try.underlying3 (hf 0 _ rfl)
    obtain ⟨n1, h1, _, w1⟩ := DataW.trod_int Try.underlying3 (hf 1 _ rfl)
    obtain ⟨n2, h2, _, w2⟩ := DataW.trod_int Try.underlying5 (hf 2 _ rfl)
    obtain ⟨s3, h3, _, w3⟩ := DataW.trod_string Try.underlying9 (hf 3 _ rfl)
    obtain ⟨v4, l4, B4, h4, r4, m4⟩ := open_bools Try.underlying23 Try.underlying4 rfl (hf 4 _ rfl)
    have e0 : c0 = .int .i64 n0 := List.singleton_inj.1 h0
    have e1 : c1 = .int .i64 n1 := List.singleton_inj.1 h1
    have e2 : c2 = .int .u8 n2 := List.singleton_inj.1 h2
    have e3 : c3 = .string s3 := List.singleton_inj.1 h3
    have e4 : c4 = v4 := List.singleton_inj.1 h4
    refine ⟨⟨n0, n1, UInt8.ofNat n2.toNat, s3, v4, l4, B4⟩, ?_, ⟨(i64_wf w0).1, (i64_wf w0).2, (i64_wf w1).1, (i64_wf w1).2, w3, r4, m4⟩⟩
    rw [e0, e1, e2, e3, e4, bt_of w2]
    rfl

/-- A cell of a row of steps that lies in memory. -/
theorem step_cell {w : World} {v : Value} {l : List StepD} {B : Option Nat} (h : Rc w 5 v l.length (l.flatMap stc) B) (i : Nat) (hi : i < l.length) :
    ∃ b off cap, v = .slice (some ⟨b, off, none⟩) l.length cap ∧ B = some b ∧ b < w.heap.size ∧ ∀ j, j < 5 → w.cell? ⟨b, off + i * 5 + j, none⟩ = (stc l[i])[j]? := by
  obtain ⟨b, off, cap, hB, hv, h1, h2, h3, h4⟩ := h.some (by omega)
  refine ⟨b, off, cap, hv, hB, h3, fun j hj => ?_⟩
  rw [← flat_get stc 5 stc_len l i j hi hj, Nat.add_assoc]
  exact h4 _ (by rw [Go.Xr.flat_len stc 5 stc_len]; omega)

def Z512 : ByteArray := ⟨zsec.toArray⟩
def rowR (r : Value × List ByteArray × Option Nat) : Res := Res.own 1 r.1 r.2.1.length (r.2.1.map .string) r.2.2
abbrev Row := Value × List ByteArray × Option Nat

theorem inf9 : ∃ i, Try.prog.info? 9 = some i ∧ i.zero = some (.string ⟨#[]⟩) ∧ i.size = 1 ∧ i.bytes = 16 := ⟨_, rfl, rfl, rfl, rfl⟩
theorem inf30 : ∃ i, Try.prog.info? 30 = some i ∧ i.zero = some (.slice none 0 0) ∧ i.size = 1 ∧ i.bytes = 24 := ⟨_, rfl, rfl, rfl, rfl⟩

/-- What is held: the rows' heads, the disk, the rows, and what else. -/
def rsK (mb d : Nat) (D : SD) (F : List Nat) (R : List Row) (nbs : List Res) : List Res :=
  Res.blk mb (R.map (·.1)) :: Res.disk d D none F :: (R.map rowR ++ nbs)

theorem rowR_at {mb d : Nat} {D : SD} {F : List Nat} {R : List Row} {nbs : List Res} {j : Nat} (hj : j < R.length) : (rsK mb d D F R nbs)[j + 2]? = some (rowR R[j]) := by
  simp [rsK, List.getElem?_append_left, hj]

/-- A row is told anew: its blocks, its head. -/
theorem K_row {w w' : World} {mb d : Nat} {D : SD} {F : List Nat} {R : List Row} {nbs : List Res} (h : Held w (rsK mb d D F R nbs)) {j : Nat} (hj : j < R.length) {S : List Nat} (f : Fr S w w') (hS : ∀ b ∈ S, b ∈ (rowR R[j]).F ∨ w.heap.size ≤ b)
    (r' : Row) (hr : (rowR r').On w') (hn : ∀ b ∈ (rowR r').F, b ∈ (rowR R[j]).F ∨ w.heap.size ≤ b) :
    Held (w'.setCell ⟨mb, j, none⟩ r'.1) (rsK mb d D F (R.set j r') nbs) ∧ Fr (mb :: S) w (w'.setCell ⟨mb, j, none⟩ r'.1) := by
  have h1 := Held.setAt (j + 2) h (rowR_at hj) f hS hr hn
  have e : (rsK mb d D F R nbs).set (j + 2) (rowR r') = Res.blk mb (R.map (·.1)) :: Res.disk d D none F :: ((R.set j r').map rowR ++ nbs) := by
    unfold rsK
    rw [List.set_cons_succ, List.set_cons_succ, List.set_append_left _ _ (by simpa using hj), List.map_set]
  rw [e] at h1
  have hb := h1.blkAt 0 rfl
  have f2 : Fr [mb] w' (w'.setCell ⟨mb, j, none⟩ r'.1) := (Fr.refl [mb] w').setCell (.inl (by simp)) _
  have h2 := Held.upd [] _ h1 f2 (by simp [Res.blk]) (Res.On.blk (hb.set j r'.1)) (by simp [Res.blk])
  refine ⟨?_, (f.mono (T := mb :: S) (fun x hx => .inl (by simp [hx]))).trans f2 (fun x hx => .inl (by simp at hx; simp [hx]))⟩
  unfold rsK
  rw [List.map_set]
  exact h2

theorem K_feet {mb d : Nat} {D : SD} {F : List Nat} {R : List Row} {nbs : List Res} {j : Nat} {r' : Row} {b : Nat} (hb : b ∈ feetOf (rsK mb d D F (R.set j r') nbs)) : b ∈ feetOf (rsK mb d D F R nbs) ∨ b ∈ (rowR r').F := by
  unfold rsK at hb ⊢
  simp only [feetOf, List.flatMap_cons, List.flatMap_append, List.mem_append, List.mem_flatMap, List.mem_map] at hb ⊢
  rcases hb with h | h | ⟨x, ⟨r, hr, rfl⟩, hx⟩ | h
  · exact .inl (.inl (by simpa [Res.blk] using h))
  · exact .inl (.inr (.inl h))
  · rcases List.mem_or_eq_of_mem_set hr with h1 | h1
    · exact .inl (.inr (.inr (.inl ⟨_, ⟨r, h1, rfl⟩, hx⟩)))
    · exact .inr (h1 ▸ hx)
  · exact .inl (.inr (.inr (.inr h)))

theorem K_cell {w : World} {mb d : Nat} {D : SD} {F : List Nat} {R : List Row} {nbs : List Res} (h : Held w (rsK mb d D F R nbs)) {j : Nat} (hj : j < R.length) : w.cell? ⟨mb, j, none⟩ = some R[j].1 ∧ w.frozen? ⟨mb, j, none⟩ = false := by
  have hb := h.blkAt 0 rfl
  refine ⟨?_, hb.free j (by simpa using hj)⟩
  rw [hb.cell]
  simp [hj]

/-- The walk's state: what is held, all on blocks that are new. -/
structure KSt (w wr : World) (mb d : Nat) (D : SD) (F : List Nat) (R : List Row) (nbs : List Res) : Prop where
  held : Held wr (rsK mb d D F R nbs)
  fr : Fr [] w wr
  low : ∀ b ∈ feetOf (rsK mb d D F R nbs), w.heap.size ≤ b

section
variable {w wr w' : World} {mb d : Nat} {D : SD} {F : List Nat} {R : List Row} {nbs : List Res}
theorem KSt.step (h : KSt w wr mb d D F R nbs) (f : Fr [] wr w') : KSt w w' mb d D F R nbs := ⟨h.held.keep0 f, h.fr.trans' f, h.low⟩
theorem KSt.row (h : KSt w wr mb d D F R nbs) {j : Nat} (hj : j < R.length) {S : List Nat} (f : Fr S wr w') (hS : ∀ b ∈ S, b ∈ (rowR R[j]).F ∨ wr.heap.size ≤ b)
    (r' : Row) (hr : (rowR r').On w') (hn : ∀ b ∈ (rowR r').F, b ∈ (rowR R[j]).F ∨ wr.heap.size ≤ b) : KSt w (w'.setCell ⟨mb, j, none⟩ r'.1) mb d D F (R.set j r') nbs := by
  obtain ⟨h1, h2⟩ := K_row h.held hj f hS r' hr hn
  have hrow : ∀ b ∈ (rowR R[j]).F, w.heap.size ≤ b := fun b hb => h.low b (mem_feetOf (rowR_at hj) hb)
  refine ⟨h1, h.fr.trans h2 (fun x hx => ?_), fun b hb => ?_⟩
  · rcases List.mem_cons.1 hx with rfl | hx
    · exact .inr (h.low _ (mem_feetOf (i := 0) rfl (by simp [Res.blk])))
    · rcases hS x hx with h3 | h3
      · exact .inr (hrow x h3)
      · exact .inr (Nat.le_trans h.fr.size h3)
  · rcases K_feet hb with h3 | h3
    · exact h.low b h3
    · rcases hn b h3 with h4 | h4
      · exact hrow b h4
      · exact Nat.le_trans h.fr.size h4
theorem KSt.disk (h : KSt w wr mb d D F R nbs) {D' : SD} {F' : List Nat} (hr : Rep w' d D' none F') (f : Fr F wr w') (hF : ∀ x ∈ F', x ∈ F ∨ wr.heap.size ≤ x) : KSt w w' mb d D' F' R nbs := by
  have h1 := Held.setAt 1 h.held (r := Res.disk d D none F) rfl f (fun b hb => .inl hb) (On.disk hr) hF
  refine ⟨h1, h.fr.trans f (fun x hx => .inr (h.low x (mem_feetOf (i := 1) rfl hx))), fun b hb => ?_⟩
  rcases feetOf_set (i := 1) (r' := Res.disk d D' none F') (rs := rsK mb d D F R nbs) hb with h3 | h3
  · exact h.low b h3
  · rcases hF b h3 with h4 | h4
    · exact h.low b (mem_feetOf (i := 1) rfl h4)
    · exact Nat.le_trans h.fr.size h4
theorem K_nw {X : Res} : (rsK mb d D F R [X])[R.length + 2]? = some X := by
  simp [rsK, List.getElem?_append_right]
theorem KSt.beside (h : KSt w wr mb d D F R []) {X : Res} (f : Fr [] wr w') (hX : X.On w') (hn : ∀ b ∈ X.F, wr.heap.size ≤ b) : KSt w w' mb d D F R [X] := by
  have e : rsK mb d D F R [X] = rsK mb d D F R [] ++ [X] := by simp [rsK]
  refine ⟨?_, h.fr.trans' f, fun b hb => ?_⟩
  · rw [e]
    exact (h.held.fresh f hX hn).perm (List.perm_append_singleton _ _).symm
  · rw [e] at hb
    simp only [feetOf, List.flatMap_append, List.mem_append] at hb
    rcases hb with hb | hb
    · exact h.low b hb
    · have := h.fr.size
      have := hn b (by simpa using hb)
      omega
theorem KSt.nowSet {nw : Nat} {N : List Value} (h : KSt w wr mb d D F R [Res.blk nw N]) (j : Nat) (v : Value) : KSt w (wr.setCell ⟨nw, j, none⟩ v) mb d D F R [Res.blk nw (N.set j v)] := by
  have hb := h.held.blkAt (R.length + 2) K_nw
  have f : Fr [nw] wr (wr.setCell ⟨nw, j, none⟩ v) := (Fr.refl [nw] wr).setCell (.inl (by simp)) _
  have h1 := Held.setAt (R.length + 2) h.held K_nw f (fun b hb => .inl hb) (Res.On.blk (hb.set j v)) (fun b hb => .inl hb)
  have e : (rsK mb d D F R [Res.blk nw N]).set (R.length + 2) (Res.blk nw (N.set j v)) = rsK mb d D F R [Res.blk nw (N.set j v)] := by
    simp [rsK, List.set_append_right]
  rw [e] at h1
  have hl : w.heap.size ≤ nw := h.low nw (mem_feetOf (i := R.length + 2) K_nw (by simp [Res.blk]))
  refine ⟨h1, h.fr.trans f (fun x hx => .inr (by simp at hx; rw [hx]; exact hl)), fun b hb => ?_⟩
  have e2 : feetOf (rsK mb d D F R [Res.blk nw (N.set j v)]) = feetOf (rsK mb d D F R [Res.blk nw N]) := by simp [feetOf, rsK, Res.blk]
  rw [e2] at hb
  exact h.low b hb
theorem KSt.cell (h : KSt w wr mb d D F R nbs) {j : Nat} (hj : j < R.length) : wr.cell? ⟨mb, j, none⟩ = some R[j].1 ∧ wr.frozen? ⟨mb, j, none⟩ = false := K_cell h.held hj
theorem KSt.own (h : KSt w wr mb d D F R nbs) {j : Nat} (hj : j < R.length) : Own wr 1 R[j].1 R[j].2.1.length (R[j].2.1.map .string) R[j].2.2 := h.held.ownAt (j + 2) (rowR_at hj)
end

/-- The state at its start. -/
theorem KSt.start {w w1 : World} {d : Nat} {F : List Nat} (hd : Rep w1 d (newSD 6) none F) (f1 : Fr [] w w1) (hF : ∀ x ∈ F, w.heap.size ≤ x) {o : Obj} (hb : Blk (w1.alloc o) w1.heap.size (List.replicate 6 (.slice none 0 0))) :
    KSt w (w1.alloc o) w1.heap.size d (newSD 6) F (List.replicate 6 (.slice none 0 0, [], none)) [] := by
  have H0 := (Held.one (On.disk hd)).fresh ((Fr.refl [] w1).alloc o) (Res.On.blk hb) (fun b hb => by simp [Res.blk] at hb; omega)
  have hnil : ∀ {rs}, Held (w1.alloc o) rs → Held (w1.alloc o) (rowR (.slice none 0 0, [], none) :: rs) := fun h => h.new (Res.On.own (Own.nil _ _)) (by simp [rowR, Res.own])
  have H1 := hnil (hnil (hnil (hnil (hnil (hnil H0)))))
  refine ⟨Held.pick [6, 7, 0, 1, 2, 3, 4, 5] H1 (by decide) rfl, f1.alloc _, fun b hb => ?_⟩
  simp [feetOf, rsK, rowR, Res.own, Res.blk, Res.disk] at hb
  rcases hb with rfl | hb
  · exact f1.size
  · exact hF b hb

/-- A row of one text. -/
theorem row_one {w : World} {v : Value} {s : ByteArray} {B : Option Nat} (h : Own w 1 v 1 [.string s] B) : ∃ b c, v = .slice (some ⟨b, 0, none⟩) 1 c ∧ w.cell? ⟨b, 0, none⟩ = some (.string s) := by
  rcases h.shape with ⟨_, h1, _⟩ | ⟨b, cap, hB, h1, _⟩
  · cases h1
  · exact ⟨b, cap, h1, h.cellAt hB (j := 0) (by simp)⟩

theorem set_some {α : Type} {l : List α} {i j : Nat} {x r : α} (h : (l.set i x)[j]? = some r) : (j = i ∧ r = x) ∨ (j ≠ i ∧ l[j]? = some r) := by
  by_cases e : j = i
  · subst e
    obtain ⟨h1, h2⟩ := List.getElem?_eq_some_iff.1 h
    exact .inl ⟨rfl, by simpa using h2.symm⟩
  · rw [List.getElem?_set_ne (fun e2 => e e2.symm)] at h
    exact .inr ⟨e, h⟩
theorem two_on {wr : World} {o1 o2 : Obj} {cs : List Value} (hb : Blk ((wr.alloc o1).alloc o2) (wr.alloc o1).heap.size cs) {a : Addr} {v : Value} (hc : wr.cell? a = some v) (hf : wr.frozen? a = false) :
    Fr [] wr ((wr.alloc o1).alloc o2) ∧ Blk ((wr.alloc o1).alloc o2) (wr.heap.size + 1) cs ∧ ((wr.alloc o1).alloc o2).cell? a = some v ∧ ((wr.alloc o1).alloc o2).frozen? a = false := by
  have f : Fr [] wr ((wr.alloc o1).alloc o2) := ((Fr.refl [] wr).alloc _).alloc _
  rw [World.size_alloc] at hb
  exact ⟨f, hb, f.cell_some hc, f.frozen_some hc hf⟩

/-- What is so of a disk, its rows and what was last written, behind m steps. -/
structure KInv (m : Nat) (D : SD) (R : List Row) (N : List ByteArray) : Prop where
  kl : D.kept.length = 6
  nl : D.now.length = 6
  rl : R.length = 6
  dead : D.dead = false
  ll : D.loose.length ≤ m
  tl : D.trace.length ≤ m
  rm : ∀ r ∈ R, r.2.1.length ≤ m + 1
  now : N = D.now.map (fun s => ⟨s.toArray⟩)
  has : ∀ (j : Nat) (r : Row) (s : List UInt8), R[j]? = some r → D.now[j]? = some s → (⟨s.toArray⟩ : ByteArray) ∈ r.2.1
  kept : ∀ (j : Nat) (r : Row) (s : List UInt8), R[j]? = some r → D.kept[j]? = some s → (⟨s.toArray⟩ : ByteArray) ∈ r.2.1
  loose : ∀ p ∈ D.loose, ∀ r : Row, R[p.1]? = some r → (⟨p.2.toArray⟩ : ByteArray) ∈ r.2.1

theorem rep6 {N : List ByteArray} (hl : N.length = 6) (h : ∀ j, j < 6 → N[j]? = some Z512) : N = List.replicate 6 Z512 := by
  refine List.ext_getElem? fun j => ?_
  by_cases hj : j < 6
  · rw [h j hj, List.getElem?_replicate_of_lt hj]
  · rw [List.getElem?_eq_none (by omega), List.getElem?_eq_none (by simp; omega)]

theorem KInv.start {R : List Row} {N : List ByteArray} (hR : R.length = 6) (hr : ∀ j (hj : j < R.length), R[j].2.1 = [Z512]) (hN : N.length = 6) (hn : ∀ j, j < 6 → N[j]? = some Z512) : KInv 0 (newSD 6) R N := by
  have hrow : ∀ (j : Nat) (r : Row) (s : List UInt8), R[j]? = some r → (List.replicate 6 zsec)[j]? = some s → (⟨s.toArray⟩ : ByteArray) ∈ r.2.1 := by
    intro j r s h1 h2
    obtain ⟨h3, h4⟩ := List.getElem?_eq_some_iff.1 h1
    have e := List.eq_of_mem_replicate (List.mem_of_getElem? h2)
    rw [← h4, hr j h3, e]
    exact List.mem_singleton_self _
  refine ⟨by simp [newSD], by simp [newSD], hR, rfl, by simp [newSD], by simp [newSD], ?_, ?_, hrow, hrow, ?_⟩
  · intro r hrm
    obtain ⟨j, hj, rfl⟩ := List.getElem_of_mem hrm
    rw [hr j hj]
    exact Nat.le_refl _
  · rw [rep6 hN hn]
    simp [newSD, Z512]
  · intro p hp
    simp [newSD] at hp

theorem KInv.flush {m : Nat} {D : SD} {R R' : List Row} {N : List ByteArray} (h : KInv m D R N) (hR : R'.length = 6) (hr : ∀ (j : Nat) (r : Row) (s : ByteArray), R'[j]? = some r → N[j]? = some s → r.2.1 = [s]) : KInv (m + 1) (flushed D) R' N := by
  have hN : ∀ (j : Nat) (s : List UInt8), D.now[j]? = some s → N[j]? = some (⟨s.toArray⟩ : ByteArray) := by
    intro j s h1
    rw [h.now, List.getElem?_map, h1]
    rfl
  have hall : ∀ (j : Nat) (r : Row) (s : List UInt8), R'[j]? = some r → D.now[j]? = some s → (⟨s.toArray⟩ : ByteArray) ∈ r.2.1 := by
    intro j r s h1 h2
    rw [hr j r _ h1 (hN j s h2)]
    exact List.mem_singleton_self _
  refine ⟨h.nl, h.nl, hR, h.dead, by simp [flushed], ?_, ?_, h.now, hall, hall, by simp [flushed]⟩
  · have := h.tl
    simp [flushed]
    omega
  · intro r hrm
    obtain ⟨j, hj, rfl⟩ := List.getElem_of_mem hrm
    have hnl : N.length = 6 := by rw [h.now, List.length_map, h.nl]
    rw [hr j R'[j] N[j] (by simp [hj]) (by simp [show j < N.length by omega])]
    simp

theorem KInv.write {m : Nat} {D : SD} {R : List Row} {N : List ByteArray} (h : KInv m D R N) {k : Nat} {r : Row} (hk : R[k]? = some r) (s : ByteArray) (v : Value) (B : Option Nat) :
    KInv (m + 1) { D with now := D.now.set k s.data.toList, loose := D.loose ++ [(k, s.data.toList)], trace := D.trace ++ [(k : Int)] } (R.set k (v, r.2.1 ++ [s], B)) (N.set k s) := by
  have es : (⟨s.data.toList.toArray⟩ : ByteArray) = s := by simp
  have hold : ∀ (j : Nat) (r' : Row) (x : ByteArray), (R.set k (v, r.2.1 ++ [s], B))[j]? = some r' → (∀ r0 : Row, R[j]? = some r0 → x ∈ r0.2.1) → x ∈ r'.2.1 := by
    intro j r' x h1 h2
    rcases set_some h1 with ⟨rfl, rfl⟩ | ⟨_, h3⟩
    · exact List.mem_append_left _ (h2 r hk)
    · exact h2 r' h3
  have hnew : ∀ r' : Row, (R.set k (v, r.2.1 ++ [s], B))[k]? = some r' → s ∈ r'.2.1 := by
    intro r' h1
    rcases set_some h1 with ⟨_, rfl⟩ | ⟨h3, _⟩
    · exact List.mem_append_right _ (List.mem_singleton_self _)
    · exact absurd rfl h3
  refine ⟨h.kl, by simpa using h.nl, by simpa using h.rl, h.dead, ?_, ?_, ?_, ?_, ?_, ?_, ?_⟩
  · have := h.ll
    simp
    omega
  · have := h.tl
    simp
    omega
  · intro r' hr'
    rcases List.mem_or_eq_of_mem_set hr' with h1 | h1
    · have := h.rm r' h1
      omega
    · have := h.rm r (List.mem_of_getElem? hk)
      rw [h1]
      simp
      omega
  · rw [List.map_set, ← h.now, es]
  · intro j r' x h1 h2
    rcases set_some h2 with ⟨rfl, rfl⟩ | ⟨_, h3⟩
    · rw [es]
      exact hnew r' h1
    · exact hold j r' _ h1 (fun r0 h4 => h.has j r0 x h4 h3)
  · intro j r' x h1 h2
    exact hold j r' _ h1 (fun r0 h4 => h.kept j r0 x h4 h2)
  · intro p hp r' h1
    rcases List.mem_append.1 hp with hp | hp
    · exact hold p.1 r' _ h1 (fun r0 h4 => h.loose p hp r0 h4)
    · simp at hp
      subst hp
      rw [es]
      exact hnew r' h1

theorem crashK_in {R : List Row} : ∀ (L : List (Nat × List UInt8)) (ks : List Bool) (kept : List (List UInt8)), (∀ (j : Nat) (r : Row) (s : List UInt8), R[j]? = some r → kept[j]? = some s → (⟨s.toArray⟩ : ByteArray) ∈ r.2.1) → (∀ p ∈ L, ∀ r : Row, R[p.1]? = some r → (⟨p.2.toArray⟩ : ByteArray) ∈ r.2.1) →
    ∀ (j : Nat) (r : Row) (s : List UInt8), R[j]? = some r → (crashK kept L ks)[j]? = some s → (⟨s.toArray⟩ : ByteArray) ∈ r.2.1
  | [], _, kept, h, _ => by simpa [crashK] using h
  | _ :: _, [], kept, h, _ => by simpa [crashK] using h
  | (i, b) :: L, x :: ks, kept, h, hL => by
    simp only [crashK]
    refine crashK_in L ks _ ?_ (fun p hp => hL p (by simp [hp]))
    intro j r s h1 h2
    split at h2
    · rcases set_some h2 with ⟨rfl, rfl⟩ | ⟨_, h3⟩
      · exact hL (j, s) (by simp) r h1
      · exact h j r s h1 h3
    · exact h j r s h1 h2

/-- What a crash leaves is in the rows. -/
theorem KInv.crash {m : Nat} {D : SD} {R : List Row} {N : List ByteArray} (h : KInv m D R N) (ks : List Bool) (j : Nat) (r : Row) (s : List UInt8) (hr : R[j]? = some r) (hs : (crashed D ks).now[j]? = some s) : (⟨s.toArray⟩ : ByteArray) ∈ r.2.1 :=
  crashK_in _ _ _ h.kept (fun p hp => h.loose p (List.mem_of_mem_take hp)) j r s hr hs

theorem one_on {wr : World} {o1 : Obj} {cs : List Value} (hb : Blk (wr.alloc o1) wr.heap.size cs) {a : Addr} {v : Value} (hc : wr.cell? a = some v) (hf : wr.frozen? a = false) :
    Fr [] wr (wr.alloc o1) ∧ Blk (wr.alloc o1) wr.heap.size cs ∧ (wr.alloc o1).cell? a = some v ∧ (wr.alloc o1).frozen? a = false := by
  have f : Fr [] wr (wr.alloc o1) := (Fr.refl [] wr).alloc _
  exact ⟨f, hb, f.cell_some hc, f.frozen_some hc hf⟩
theorem and16 (x : Int) : ∃ q : Nat, q ≤ 65535 ∧ bits .and .i64 x 65535 = q := by
  refine ⟨(BitVec.ofInt 64 x &&& BitVec.ofInt 64 65535).toNat, ?_, ?_⟩
  · rw [BitVec.toNat_and]
    exact Nat.le_trans Nat.and_le_right (by decide)
  · have h : (BitVec.ofInt 64 x &&& BitVec.ofInt 64 65535).toNat ≤ 65535 := by
      rw [BitVec.toNat_and]
      exact Nat.le_trans Nat.and_le_right (by decide)
    show IntKind.i64.wrap ((BitVec.ofInt 64 x &&& BitVec.ofInt 64 65535).toNat : Int) = _
    rw [IntKind.wrap_i64]
    omega
theorem sixth (x : Int) : ∃ k : Nat, k < 6 ∧ (bits .and .i64 x 65535).tmod 6 = k := by
  obtain ⟨q, hq, e⟩ := and16 x
  refine ⟨q % 6, Nat.mod_lt _ (by decide), ?_⟩
  rw [e]
  exact (Int.ofNat_tmod q 6).symm
def wpCell (w : World) (b o : Nat) : Prop := ∃ v, w.cell? ⟨b, o, none⟩ = some v

set_option maxHeartbeats 2000000 in
set_option maxRecDepth 20000 in
theorem keeps_walk {w : World} {v0 v1 : Value} {l : List StepD} {LB KB : Option Nat} {ks : List Bool} (hl : Rc w 5 v0 l.length (l.flatMap stc) LB) (hlok : ∀ s ∈ l, StOk w s) (hks : Rc w 1 v1 ks.length (ks.map .bool) KB) (hlm : l.length ≤ maxLen) (hkm : ks.length ≤ maxLen) :
    Calls Try.prog 3 #[v0, v1] w fun e w' => e = .returned (.bool true) ∧ Fr [] w w' := by
  obtain ⟨la, lc, rfl⟩ := hl.isSlice
  obtain ⟨ka, kc, rfl⟩ := hks.isSlice
  unfold maxLen at hlm
  obtain ⟨i9, hi9, hz9, hs9, hb9⟩ := inf9
  obtain ⟨i30, hi30, hz30, hs30, hb30⟩ := inf30
  obtain ⟨i5, hi5, hz5, hs5, hb5⟩ := inf5
  have Hi9 := hid hi9
  have Hz9 := hid hz9
  have Hs9 := hid hs9
  have Hb9 := hid hb9
  have Hi30 := hid hi30
  have Hz30 := hid hz30
  have Hs30 := hid hs30
  have Hb30 := hid hb30
  have Hi5 := hid hi5
  have Hz5 := hid hz5
  have Hs5 := hid hs5
  have Hb5 := hid hb5
  clear hi9 hz9 hs9 hb9 hi30 hz30 hs30 hb30 hi5 hz5 hs5 hb5
  go_enter Try.func3, Try.ntmps3
  go_wp2_with fail
  refine (new_ok 6 (by decide) (by decide)).mono ?_
  rintro e w1 ⟨d, F, rfl, hd, f1, hF⟩
  go_wp2_with (refine wpList_make rfl _ _ _ rfl 6 6 .i64 .i64 rfl rfl 30 _ _ (.slice none 0 0) 1 24 Try.underlying28 Hi30.out Hz30.out Hs30.out Hb30.out rfl (by decide) (Nat.le_refl _) (by decide) (by decide) ?_; intro hb1; simp only [World.size_alloc, World.size_drew, Act.put, List.setIfInBounds_toArray, List.set_cons_succ, List.set_cons_zero])
  have H2 := KSt.start hd f1 hF hb1
  clear hd hF hb1 f1
  refine wp_world (fun w2 => KSt w w2 w1.heap.size d (newSD 6) F (List.replicate 6 (.slice none 0 0, [], none)) []) H2 ?_
  clear H2
  intro w2 H2
  generalize w1.heap.size = mb at *
  clear w1
  go_loopw [8] (fun i wr => ∃ m : Nat, m ≤ 6 ∧ i = .int .i64 m ∧ ∃ R : List Row, KSt w wr mb d (newSD 6) F R [] ∧ R.length = 6 ∧ ∀ j r, R[j]? = some r → j < m → r.2.1 = [Z512]) (fun i _ => 6 - (intOf i).toNat)
  case atStart => exact ⟨0, by omega, rfl, _, H2, rfl, fun j r _ h => by omega⟩
  case round =>
    obtain ⟨m, hm, rfl, R, H, hRl, hR⟩ := hrel
    clear H2
    by_cases hlt : m < 6
    · have hmR : m < R.length := by omega
      obtain ⟨hcm, hfm⟩ := H.cell hmR
      have HZ := hid (show zsec.length = 512 by unfold zsec; exact List.length_replicate)
      go_wp2_with (first
        | (refine wpList_make rfl _ _ _ rfl 512 512 .i64 .i64 rfl rfl 5 _ _ (bt 0) 1 1 Try.underlying29 Hi5.out Hz5.out Hs5.out Hb5.out rfl (by decide) (Nat.le_refl _) (by decide) (by decide) ?_; intro hb1; (try simp only [World.size_alloc, World.size_drew, Act.put, List.setIfInBounds_toArray, List.set_cons_succ, List.set_cons_zero]))
        | (refine wpList_string_of_bytes rfl _ _ 5 _ rfl 512 512 rfl hb1 zsec HZ.out (by unfold zsec; rw [bv_replicate, List.length_replicate, List.drop_zero, Nat.mul_one, List.take_replicate, Nat.min_self]) Try.underlying29 Try.underlying5 Try.underlying9 ?_; (try simp only [World.size_alloc, World.size_drew, Act.put, List.setIfInBounds_toArray, List.set_cons_succ, List.set_cons_zero]))
        | (refine wpList_buildSlice_one rfl _ _ rfl 9 _ _ 1 [.string Z512] Try.underlying30 Hi9.out Hz9.out Hs9.out rfl rfl rfl (by decide) (by decide) ?_; intro hb2; refine wpList_world (fun w' => Fr [] wr w' ∧ Blk w' (wr.heap.size + 1) [.string Z512] ∧ w'.cell? ⟨mb, m, none⟩ = some R[m].1 ∧ w'.frozen? ⟨mb, m, none⟩ = false) (two_on hb2 hcm hfm) ?_; (try simp only [World.size_alloc, World.size_drew, Act.put, List.setIfInBounds_toArray, List.set_cons_succ, List.set_cons_zero]); clear hb1 hb2; rintro w4 ⟨f4, hb4, hcm4, hfm4⟩))
      go_roundw
      case rel =>
        refine ⟨m + 1, by omega, by go_num, _, H.row hmR f4 (by simp) (.slice (some ⟨wr.heap.size + 1, 0, none⟩) 1 1, [Z512], some (wr.heap.size + 1)) (Res.On.own (Own.blk (n := 1) (cap := 1) (size := 1) hb4 (by decide) (by unfold maxLen; decide) rfl)) (fun b hb => by simp [rowR, Res.own] at hb; omega), by simpa using hRl, ?_⟩
        intro j r hj hjm
        rcases set_some hj with ⟨_, rfl⟩ | ⟨h1, h2⟩
        · rfl
        · exact hR j r h2 (by omega)
      case measure => simp [intOf]; omega
    · have hR2 : ∀ j (hj : j < R.length), R[j].2.1 = [Z512] := fun j hj => hR j R[j] (by simp [hj]) (by omega)
      have hm6 : 6 ≤ m := by omega
      clear hR hlt
      go_wp2_with (refine wpList_make rfl _ _ _ rfl 6 6 .i64 .i64 rfl rfl 9 _ _ (.string ⟨#[]⟩) 1 16 Try.underlying30 Hi9.out Hz9.out Hs9.out Hb9.out rfl (by decide) (Nat.le_refl _) (by decide) (by decide) ?_; intro hb1; refine wpList_world (fun w' => KSt w w' mb d (newSD 6) F R [Res.blk wr.heap.size ((List.replicate 6 ⟨#[]⟩).map .string)]) (H.beside ((Fr.refl [] wr).alloc _) (Res.On.blk (by simpa using hb1)) (fun b hb => by simp [Res.blk] at hb; omega)) ?_; clear hb1; (try simp only [World.size_alloc, World.size_drew, Act.put, List.setIfInBounds_toArray, List.set_cons_succ, List.set_cons_zero]); intro w5 H5)
      generalize wr.heap.size = nw at *
      clear H wr
      go_loopw [10] (fun i wr => ∃ m : Nat, m ≤ 6 ∧ i = .int .i64 m ∧ ∃ N : List ByteArray, KSt w wr mb d (newSD 6) F R [Res.blk nw (N.map .string)] ∧ N.length = 6 ∧ ∀ j, j < m → N[j]? = some Z512) (fun i _ => 6 - (intOf i).toNat)
      case atStart => exact ⟨0, by omega, rfl, _, H5, rfl, fun j h => by omega⟩
      case round =>
        obtain ⟨m, hm, rfl, N, H, hNl, hN⟩ := hrel
        clear H5
        by_cases hlt : m < 6
        · have hmR : m < R.length := by omega
          obtain ⟨hcm, hfm⟩ := H.cell hmR
          have ho := H.own hmR
          have hb := H.held.blkAt (R.length + 2) K_nw
          have hcn := hb.cell m
          rw [List.getElem?_map, List.getElem?_eq_getElem (by omega)] at hcn
          have hfn := hb.free m (by simp; omega)
          rw [hR2 m hmR] at ho
          obtain ⟨b, c, hv, hbc⟩ := row_one ho
          rw [hv] at hcm
          go_wp2_with fail
          go_roundw
          case rel =>
            refine ⟨m + 1, by omega, by go_num, N.set m Z512, ?_, by simpa using hNl, fun j hj => ?_⟩
            · rw [List.map_set]
              exact H.nowSet m _
            · by_cases e : j = m
              · subst e
                rw [List.getElem?_set_self (by omega)]
              · rw [List.getElem?_set_ne (fun e2 => e e2.symm)]
                exact hN j (by omega)
          case measure => simp [intOf]; omega
        · have hI := KInv.start hRl hR2 hNl (fun j hj => hN j (by omega))
          have hm6 : 6 ≤ m := by omega
          clear hRl hR2 hNl hN hlt
          go_wp2_with fail
          go_loopw [11] (fun i wr => ∃ m : Nat, m ≤ 60 ∧ m ≤ l.length ∧ i = .int .i64 m ∧ ∃ D F R N, KSt w wr mb d D F R [Res.blk nw (N.map .string)] ∧ KInv m D R N) (fun i _ => 60 - (intOf i).toNat)
          case atStart => exact ⟨0, by omega, by omega, rfl, _, _, _, _, H, hI⟩
          case round =>
            obtain ⟨m, hm, hml, rfl, D, F, R, N, H, I⟩ := hrel
            by_cases hlt : m < 60 ∧ m < l.length
            · obtain ⟨hlt1, hlt2⟩ := hlt
              obtain ⟨b, off, cap, hv, hB, hblt, hcs⟩ := step_cell (hl.keep H.fr (by simp)) m hlt2
              obtain ⟨rfl, rfl⟩ : la = some ⟨b, off, none⟩ ∧ lc = cap := by simpa using hv
              have c0 : wr.cell? ⟨b, off + m * 5, none⟩ = some (.int .i64 l[m].Do) := by simpa [stc] using hcs 0 (by decide)
              have c1 : wr.cell? ⟨b, off + m * 5 + 1, none⟩ = some (.int .i64 l[m].I) := by simpa [stc] using hcs 1 (by decide)
              have c2 : wr.cell? ⟨b, off + m * 5 + 2, none⟩ = some (bt l[m].C) := by simpa [stc] using hcs 2 (by decide)
              have ⟨d1, d2, i1, i2, _, _, _⟩ := hlok l[m] (List.getElem_mem hlt2)
              generalize l[m] = s at *
              clear hcs
              obtain ⟨k, hk6, hke⟩ := sixth s.I
              go_upto_region 20 with fail
              · refine (flush_ok (H.held.at 1 rfl) (pw := none) trivial (by simp [pwF]) (by simp [ableN, I.dead]) (by have := I.tl; omega)).mono ?_
                rintro e w6 ⟨rfl, F6, h6, -, f6, hF6⟩
                have H6 := H.disk h6 (by simpa [pwF] using f6) hF6
                have hNl : N.length = 6 := by rw [I.now, List.length_map, I.nl]
                have hrl := I.rl
                clear h6 f6 hF6 H c0 c1 c2
                go_wp2_with fail
                go_loopw [13] (fun i wr => ∃ q : Nat, q ≤ 6 ∧ i = .int .i64 q ∧ ∃ R' : List Row, KSt w wr mb d (flushed D) F6 R' [Res.blk nw (N.map .string)] ∧ R'.length = 6 ∧ ∀ (j : Nat) (r : Row) (s : ByteArray), R'[j]? = some r → N[j]? = some s → j < q → r.2.1 = [s]) (fun i _ => 6 - (intOf i).toNat)
                case atStart => exact ⟨0, by omega, rfl, R, H6, hrl, fun j r s _ _ h => by omega⟩
                case round =>
                  obtain ⟨q, hq, rfl, R', H7, hR7, hr7⟩ := hrel
                  clear H6
                  by_cases hlt : q < 6
                  · have hqR : q < R'.length := by omega
                    have hqN : N[q]? = some N[q] := by simp [show q < N.length by omega]
                    obtain ⟨hcm, hfm⟩ := H7.cell hqR
                    have hbn := H7.held.blkAt (R'.length + 2) K_nw
                    have hcn := hbn.cell q
                    rw [List.getElem?_map, hqN, Option.map_some] at hcn
                    clear hbn
                    go_wp2_with (refine wpList_buildSlice_one rfl _ _ rfl 9 _ _ 1 [.string N[q]] Try.underlying30 Hi9.out Hz9.out Hs9.out rfl rfl rfl (by decide) (by decide) ?_; intro hb2; refine wpList_world (fun w' => Fr [] wr w' ∧ Blk w' wr.heap.size [.string N[q]] ∧ w'.cell? ⟨mb, q, none⟩ = some R'[q].1 ∧ w'.frozen? ⟨mb, q, none⟩ = false) (one_on hb2 hcm hfm) ?_; (try simp only [World.size_alloc, World.size_drew, Act.put, List.setIfInBounds_toArray, List.set_cons_succ, List.set_cons_zero]); clear hb2; rintro w4 ⟨f4, hb4, hcm4, hfm4⟩)
                    go_roundw
                    case rel =>
                      refine ⟨q + 1, by omega, by go_num, _, H7.row hqR f4 (by simp) (.slice (some ⟨wr.heap.size, 0, none⟩) 1 1, [N[q]], some wr.heap.size) (Res.On.own (Own.blk (n := 1) (cap := 1) (size := 1) hb4 (by decide) (by unfold maxLen; decide) rfl)) (fun b hb => by simp [rowR, Res.own] at hb; omega), by simpa using hR7, ?_⟩
                      intro j r s hj hs hjm
                      rcases set_some hj with ⟨rfl, rfl⟩ | ⟨h1, h2⟩
                      · rw [hqN] at hs
                        cases hs
                        rfl
                      · exact hr7 j r s h2 hs (by omega)
                    case measure => simp [intOf]; omega
                  · obtain rfl : q = 6 := by omega
                    go_wp2_with fail
                    go_roundw
                    case rel => exact ⟨m + 1, by omega, by omega, by go_num, _, _, _, _, H7, I.flush hR7 (fun j r s h1 h2 => hr7 j r s h1 h2 (by have := (List.getElem?_eq_some_iff.1 h1).1; omega))⟩
                    case measure => simp [intOf]; omega
              · refine (fill_any s.C m (by omega) (by omega)).mono ?_
                rintro e w6 ⟨rfl, f6⟩
                have H6 := H.step f6
                have hrl := I.rl
                have hkR : k < R.length := by omega
                have hNl : N.length = 6 := by rw [I.now, List.length_map, I.nl]
                have hb6 := H6.held.blkAt (R.length + 2) K_nw
                have hcn : wpCell w6 nw k := ⟨_, by rw [hb6.cell, List.getElem?_map, List.getElem?_eq_getElem (show k < N.length by omega)]; rfl⟩
                obtain ⟨cn, hcn⟩ := hcn
                have hfn := hb6.free k (by simp; omega)
                have hS := fillL_len s.C m
                have hSs : (ByteArray.mk (fillL s.C m).toArray).size = 512 := by rw [size_mk', hS]
                generalize (ByteArray.mk (fillL s.C m).toArray) = S at *
                go_upto_region 26 with fail
                have H7 := H6.nowSet k (.string S)
                rw [← List.map_set] at H7
                generalize w6.setCell ⟨nw, k, none⟩ (.string S) = w7 at *
                clear hb6 hcn hfn H6 H f6 c0 c1 c2 hblt
                have hNk : (N.set k S)[k]? = some S := List.getElem?_set_self (by omega)
                have hbm := H7.held.blkAt 0 rfl
                have hbn := H7.held.blkAt (R.length + 2) K_nw
                have howk := H7.own hkR
                have hkget : R[k]? = some R[k] := by simp [hkR]
                have hI2 := I.write hkget S
                have hrm := I.rm R[k] (List.getElem_mem hkR)
                have hmbB : ∀ x ∈ (rowR R[k]).F, x ≠ mb ∧ x ≠ nw := fun x hx => ⟨fun e => H7.held.idx_ne (i := k + 2) (j := 0) (by omega) (rowR_at hkR) rfl x hx (by simp [Res.blk, e]), fun e => H7.held.idx_ne (i := k + 2) (j := R.length + 2) (by omega) (rowR_at hkR) K_nw x hx (by simp [Res.blk, e])⟩
                have hmm : (R.map (·.1))[k]? = some R[k].1 := by simp [hkR]
                have hnn : ((N.set k S).map Value.string)[k]? = some (.string S) := by rw [List.getElem?_map, hNk]; rfl
                have hRv : ∃ rv, rv = R[k].1 := ⟨_, rfl⟩
                obtain ⟨rv, hRv⟩ := hRv
                rw [← hRv] at hmm howk
                obtain ⟨ra, rc, hrv⟩ := howk.isSlice
                rw [hrv] at hmm howk
                have Hhas := hid (show (rowR R[k]).F = R[k].2.2.toList from rfl)
                generalize hlen : R[k].2.1.length = rn at *
                obtain ⟨ι, W, hι, hW1, hW2, hW0⟩ := family (fun w' => Blk w' mb (R.map (fun r : Row => r.1)) ∧ Blk w' nw ((N.set k S).map .string)) (w := w7.drew) ⟨hbm, hbn⟩
                have HW1 := hid hW1
                have HW2 := hid hW2
                have HW0 := hid hW0
                clear hW1 hW2 hW0
                have hS1 : ∀ j, (W j).cell? ⟨mb, k, none⟩ = some (.slice ra rn rc) := fun j => by rw [(HW1.out j).1.cell, hmm]
                have hS2 : ∀ j, (W j).cell? ⟨nw, k, none⟩ = some (.string S) := fun j => by rw [(HW1.out j).2.cell, hnn]
                refine wp_region_X (fun w' => ∃ j, w' = W j) true (by kernel_rfl) ?_
                refine WX.pure [0, 1, 2, 3, 4, 5, 6, 7, 8, 9] (by kernel_rfl) HW0.out ?_
                simp only [pick, List.toList_toArray, List.map_cons, List.map_nil, List.getD_cons_succ, List.getD_cons_zero]
                repeat (go_big_quiet_step (fail))
                refine wpQuiet_nil ?_
                refine WX.eff 10 (by kernel_rfl) ?_
                simp only [pick, List.toList_toArray, List.map_cons, List.map_nil, List.getD_cons_succ, List.getD_cons_zero]
                refine wpList_buildSlice_one rfl _ _ rfl 9 _ _ 1 [.string S] Try.underlying30 Hi9.out Hz9.out Hs9.out rfl rfl rfl (by decide) (by decide) ?_
                intro hb7
                refine wpList_nil ?_
                simp only [World.size_alloc, World.size_drew, Act.put, List.setIfInBounds_toArray, List.set_cons_succ, List.set_cons_zero]
                have f7 : Fr [] w7 (w7.drew.alloc (.cells [Value.string S].toArray 9)) := ((Fr.refl [] w7).drew).alloc _
                refine After.on (HW2.out _ ⟨f7.blk hbm (by simp), f7.blk hbn (by simp)⟩) ?_
                refine WX.eff 11 (by kernel_rfl) ?_
                simp only [pick, List.toList_toArray, List.map_cons, List.map_nil, List.getD_cons_succ, List.getD_cons_zero]
                refine wpList_append rfl _ _ _ rfl 9 _ _ 1 16 Try.underlying30 Hi9.out Hz9.out Hs9.out Hb9.out rfl (by decide) rfl (howk.keep f7 (by simp)) _ 1 1 [.string S] rfl rfl (hb7.cells rfl) (by simp [Value.oneCell']) (by unfold maxLen; omega) (by omega) ?_
                intro v8 w8 B8 ho8 f8 hB8
                refine wpList_nil ?_
                simp only [World.size_alloc, World.size_drew, Act.put, List.setIfInBounds_toArray, List.set_cons_succ, List.set_cons_zero]
                obtain ⟨va, vc, rfl⟩ := ho8.isSlice
                have f8' : Fr R[k].2.2.toList w7 w8 := (f7.mono (T := R[k].2.2.toList) (by simp)).trans' f8
                have hmB : mb ∉ R[k].2.2.toList := fun hx => (hmbB mb hx).1 rfl
                have hnB : nw ∉ R[k].2.2.toList := fun hx => (hmbB nw hx).2 rfl
                have hbm8 := f8'.blk hbm hmB
                have hbn8 := f8'.blk hbn hnB
                refine After.on (HW2.out _ ⟨hbm8, hbn8⟩) ?_
                refine WX.pure [12] (by kernel_rfl) (HW2.out _ ⟨hbm8, hbn8⟩) ?_
                simp only [pick, List.toList_toArray, List.map_cons, List.map_nil, List.getD_cons_succ, List.getD_cons_zero]
                repeat (go_big_quiet_step (fail))
                refine wpQuiet_nil ?_
                refine WX.eff 13 (by kernel_rfl) ?_
                simp only [pick, List.toList_toArray, List.map_cons, List.map_nil, List.getD_cons_succ, List.getD_cons_zero]
                have hc8 : w8.cell? ⟨mb, k, none⟩ = some (.slice ra rn rc) := by rw [hbm8.cell, hmm]
                have hf8 := hbm8.free k (by simp; omega)
                go_wp2_with fail
                refine After.end rfl ?_
                refine WX.done (by kernel_rfl) ?_
                clear hS1 hS2
                clear HW1 HW2 HW0 hι W ι
                have H9 := H7.row hkR f8' (fun b hb => .inl hb) (.slice va (rn + 1) vc, R[k].2.1 ++ [S], B8) (Res.On.own (by
                  have e1 : (R[k].2.1 ++ [S]).length = rn + 1 := by rw [List.length_append, hlen]; rfl
                  rw [e1, List.map_append]
                  exact ho8)) (fun b hb => by
                  have hb2 : B8 = some b := by simpa [rowR, Res.own] using hb
                  rcases hB8 with rfl | ⟨b', e, hge⟩
                  · exact .inl (by simpa [rowR, Res.own] using hb2)
                  · rw [e] at hb2
                    cases hb2
                    have := f7.size
                    exact .inr (by omega))
                clear f8' f8 hb7 ho8 hbm8 hbn8 hc8 hf8 hbm hbn howk hmm hnn f7 H7 hmbB hB8 hmB hnB
                dsimp only at H9
                have hI3 := hI2 (.slice va (rn + 1) vc) B8
                clear hI2
                generalize w8.setCell ⟨mb, k, none⟩ (.slice va (rn + 1) vc) = w9 at *
                generalize R.set k (.slice va (rn + 1) vc, R[k].2.1 ++ [S], B8) = R9 at *
                have hR9 : R9.length = 6 := hI3.rl
                have hb9 := H9.held.blkAt (R9.length + 2) K_nw
                have hc9 : w9.cell? ⟨nw, k, none⟩ = some (.string S) := by rw [hb9.cell, List.getElem?_map, hNk]; rfl
                clear hb9
                go_wp2_with fail
                refine (write_ok (H9.held.at 1 rfl) (pw := none) trivial (by simp [pwF]) k (by rw [I.kl]; exact hk6) S hSs (by simp [ableN, I.dead]) (by have := I.ll; omega) (by have := I.tl; omega)).mono ?_
                rintro e w10 ⟨rfl, F10, h10, -, f10, hF10⟩
                have H10 := H9.disk h10 (by simpa [pwF] using f10) hF10
                clear h10 f10 H9
                go_wp2_with fail
                go_roundw
                case rel => exact ⟨m + 1, by omega, by omega, by go_num, _, _, _, _, H10, hI3⟩
                case measure => simp [intOf]; omega
            · have hKB : ∀ b, KB = some b → b ∉ F := fun b e hb => by
                have h1 := hks.lt b e
                have h2 := H.low b (mem_feetOf (i := 1) rfl hb)
                omega
              have hcr := crash_ok (H.held.at 1 rfl) I.dead (by have := I.ll; omega) (hks.keep H.fr (by simp)) hKB hkm
              have stop : m < l.length ∧ 60 ≤ m ∨ ¬ m < l.length := by omega
              have hC := I.crash ks
              have hRl := I.rl
              rcases stop with ⟨h1, h2⟩ | h1
              all_goals
                go_upto_region 30 with fail
                refine hcr.mono ?_
                rintro e w6 ⟨rfl, F6, h6, f6, hF6⟩
                have H6 := H.disk h6 f6 hF6
                have hnl : (crashed D ks).now.length = 6 := by
                  have := h6.good.same
                  rw [← this]
                  show (crashK _ _ _).length = 6
                  rw [crashK_len, I.kl]
                have hdead : (crashed D ks).dead = false := I.dead
                have hlo : (crashed D ks).loose = [] := rfl
                generalize crashed D ks = E at *
                clear h6 f6 hF6 hcr hKB H I
                go_upto_region 30 with fail
                refine (loose_any (H6.held.at 1 rfl) (by rw [hlo]; decide)).mono ?_
                rintro e w7 ⟨lv, LB2, rfl, hl7, f7, hL7⟩
                have H7 := H6.step f7
                obtain ⟨xa, xc, rfl⟩ := hl7.isSlice
                rw [hlo] at hl7 ⊢
                clear hl7 hL7 f7 H6
                go_wp2_with fail
                go_loopw [14] (fun i wr => ∃ q : Nat, q ≤ 6 ∧ i = .int .i64 q ∧ KSt w wr mb d E F6 R [Res.blk nw (N.map .string)]) (fun i _ => 6 - (intOf i).toNat)
                case atStart => exact ⟨0, by omega, rfl, H7⟩
                case round =>
                  obtain ⟨q, hq, rfl, H8⟩ := hrel
                  clear H7
                  by_cases hlt3 : q < 6
                  · have hrd := read_ok (H8.held.at 1 rfl) (pw := none) trivial q (by rw [hnl]; exact hlt3) (by simp [ableN, hdead])
                    have hqR : q < R.length := by omega
                    have hqE : q < E.now.length := by omega
                    have hmem := hC q R[q] E.now[q] (by simp [hqR]) (by simp [hqE])
                    obtain ⟨hcm, hfm⟩ := H8.cell hqR
                    have ho := H8.own hqR
                    clear hfm
                    generalize R[q] = r at *
                    generalize (ByteArray.mk (E.now[q]).toArray) = s at *
                    generalize r.2.1 = T at *
                    have hT0 : 0 < T.length := List.length_pos_of_mem hmem
                    obtain ⟨rb, rcap, hrB, hrv, hrl, hrm⟩ : ∃ b cap, r.2.2 = some b ∧ r.1 = .slice (some ⟨b, 0, none⟩) T.length cap ∧ T.length ≤ cap ∧ cap ≤ maxLen := by
                      rcases ho.shape with ⟨_, h3, _⟩ | h3
                      · omega
                      · exact h3
                    rw [hrv] at hcm
                    have hrc : ∀ (j : Nat) (hj : j < T.length), wr.cell? ⟨rb, j, none⟩ = some (.string T[j]) := fun j hj => by
                      rw [ho.cellAt hrB (by simpa using hj), List.getElem?_map, List.getElem?_eq_getElem hj]
                      rfl
                    have hTm : T.length ≤ 9223372036854775807 := by unfold maxLen at hrm; omega
                    clear hrm hrl hrv hrB ho
                    go_upto_region 35 with fail
                    refine hrd.mono ?_
                    rintro e w9 ⟨rfl, rfl⟩
                    go_wp2_with fail
                    go_loopw [17, 18] (fun ok i wr' => ∃ c : Nat, ∃ fnd : Bool, c ≤ T.length ∧ i = .int .i64 c ∧ ok = .bool fnd ∧ wr' = wr ∧ ∀ (j : Nat) (hj : j < T.length), j < c → T[j] = s → fnd = true) (fun _ i _ => T.length - (intOf i).toNat)
                    case atStart => exact ⟨0, false, by omega, rfl, rfl, rfl, fun j _ h _ => by omega⟩
                    case round =>
                      obtain ⟨c, fnd, hc, rfl, rfl, rfl, hf⟩ := hrel
                      by_cases hlt4 : c < T.length
                      · have hcc := hrc c hlt4
                        cases fnd with
                        | true =>
                          go_wp2_with fail
                          go_roundw
                          case rel => exact ⟨c + 1, true, by omega, by go_num, rfl, trivial, fun _ _ _ _ => rfl⟩
                          case measure => simp [intOf]; omega
                        | false =>
                          go_wp2_with fail
                          go_roundw
                          case rel =>
                            refine ⟨c + 1, T[c].toList == s.toList, by omega, by go_num, rfl, trivial, fun j hj hjc e => ?_⟩
                            by_cases hjc2 : j = c
                            · subst hjc2
                              rw [e]
                              exact beq_self_eq_true _
                            · exact absurd (hf j hj (by omega) e) (by decide)
                          case measure => simp [intOf]; omega
                      · obtain ⟨j, hj, hje⟩ := List.getElem_of_mem hmem
                        have hfnd : fnd = true := hf j hj (by omega) hje
                        subst hfnd
                        clear hf hj hje j hmem
                        go_wp2_with fail
                        go_roundw
                        case rel => exact ⟨q + 1, by omega, by go_num, H8⟩
                        case measure => simp [intOf]; omega
                  · go_wp2_with fail
                    refine alive_any.mono ?_
                    rintro e w9 ⟨rfl, f9⟩
                    go_wp2_with fail
                    go_ret
                    exact ⟨rfl, H8.fr.trans' f9⟩
end Go.Proofs.Ytflapddkeeiieaa
