/- Slices that start at the head of a block of their own; append; new blocks of whatever zero value. -/
import Derived.Test.YtflapddkeeiieaaMem
namespace Go.Xr
open Go Go.RowKit

/-- v is nil (B = none), or starts at the head of block b (B = some b), has n elements of 'size' cells each, and these are xs; the block is as long as the capacity says. -/
def Own (w : World) (size : Nat) (v : Value) (n : Nat) (xs : List Value) (B : Option Nat) : Prop :=
  xs.length = n * size ∧
  ((v = .slice none 0 0 ∧ n = 0 ∧ B = none) ∨
   ∃ b cap cs, B = some b ∧ v = .slice (some ⟨b, 0, none⟩) n cap ∧ n ≤ cap ∧ cap ≤ maxLen ∧ Blk w b cs ∧ cs.length = cap * size ∧ cs.take (n * size) = xs)

section
variable {w w' : World} {size n : Nat} {v : Value} {xs : List Value} {B : Option Nat} {S : List Nat}

theorem Own.nil (w : World) (size : Nat) : Xr.Own w size (.slice none 0 0) 0 [] none := ⟨by simp, .inl ⟨rfl, rfl, rfl⟩⟩
theorem Own.keep (h : Xr.Own w size v n xs B) (f : Fr S w w') (hS : ∀ b, B = some b → b ∉ S) : Xr.Own w' size v n xs B := by
  refine ⟨h.1, ?_⟩
  rcases h.2 with h2 | ⟨b, cap, cs, rfl, h3, h4, h5, h6, h7⟩
  · exact .inl h2
  · exact .inr ⟨b, cap, cs, rfl, h3, h4, h5, f.blk h6 (hS b rfl), h7⟩
theorem Own.lt (h : Xr.Own w size v n xs B) : ∀ b, B = some b → b < w.heap.size := by
  intro b hb
  rcases h.2 with ⟨_, _, h2⟩ | ⟨b', cap, cs, h1, _, _, _, h6, _⟩
  · rw [h2] at hb; cases hb
  · rw [h1] at hb; cases hb; exact h6.lt
theorem Own.blk {b : Nat} {cs : List Value} {cap : Nat} (hb : Blk w b cs) (h1 : n ≤ cap) (h2 : cap ≤ maxLen) (h3 : cs.length = cap * size) : Xr.Own w size (.slice (some ⟨b, 0, none⟩) n cap) n (cs.take (n * size)) (some b) :=
  ⟨by rw [List.length_take, h3]; exact Nat.min_eq_left (Nat.mul_le_mul_right _ h1), .inr ⟨b, cap, cs, rfl, rfl, h1, h2, hb, h3, rfl⟩⟩
/-- A cell of an owned slice. -/
theorem Own.cellAt (h : Xr.Own w size v n xs B) {b : Nat} (hb : B = some b) {j : Nat} (hj : j < xs.length) : w.cell? ⟨b, j, none⟩ = xs[j]? := by
  rcases h.2 with ⟨_, _, h2⟩ | ⟨b', cap, cs, h1, _, _, _, h6, h7, h8⟩
  · rw [h2] at hb; cases hb
  · rw [h1] at hb; cases hb
    rw [h6.cell, ← h8, List.getElem?_take, if_pos (by rw [← h.1]; exact hj)]
theorem Own.isSlice (h : Xr.Own w size v n xs B) : ∃ a c, v = .slice a n c := by
  rcases h.2 with ⟨h1, h2, _⟩ | ⟨b, cap, cs, _, h2, _⟩
  · exact ⟨none, 0, by rw [h1, h2]⟩
  · exact ⟨_, _, h2⟩
theorem Own.shape (h : Xr.Own w size v n xs B) : (v = .slice none 0 0 ∧ n = 0 ∧ xs = [] ∧ B = none) ∨ ∃ b cap, B = some b ∧ v = .slice (some ⟨b, 0, none⟩) n cap ∧ n ≤ cap ∧ cap ≤ maxLen := by
  rcases h.2 with ⟨h1, h2, h3⟩ | ⟨b, cap, cs, h1, h2, h3, h4, _⟩
  · exact .inl ⟨h1, h2, List.eq_nil_of_length_eq_zero (by rw [h.1, h2]; simp), h3⟩
  · exact .inr ⟨b, cap, h1, h2, h3, h4⟩
end

/-- v can be read as a slice of n elements of 'size' cells each: the cells xs. -/
def Rd (w : World) (size : Nat) (v : Value) (n : Nat) (xs : List Value) (B : Option Nat) : Prop :=
  xs.length = n * size ∧
  ((v = .slice none 0 0 ∧ n = 0 ∧ B = none) ∨
   ∃ b off cap cs, B = some b ∧ v = .slice (some ⟨b, off, none⟩) n cap ∧ n ≤ cap ∧ cap ≤ maxLen ∧ Blk w b cs ∧ off + cap * size ≤ cs.length ∧ (cs.drop off).take (n * size) = xs)

section
variable {w w' : World} {size n : Nat} {v : Value} {xs : List Value} {B : Option Nat} {S : List Nat}
theorem Own.rd (h : Xr.Own w size v n xs B) : Rd w size v n xs B := by
  refine ⟨h.1, ?_⟩
  rcases h.2 with h2 | ⟨b, cap, cs, h1, h2, h3, h4, h5, h6, h7⟩
  · exact .inl h2
  · exact .inr ⟨b, 0, cap, cs, h1, h2, h3, h4, h5, by omega, by rw [List.drop_zero]; exact h7⟩
theorem Rd.keep (h : Rd w size v n xs B) (f : Fr S w w') (hS : ∀ b, B = some b → b ∉ S) : Rd w' size v n xs B := by
  refine ⟨h.1, ?_⟩
  rcases h.2 with h2 | ⟨b, off, cap, cs, rfl, h3, h4, h5, h6, h7⟩
  · exact .inl h2
  · exact .inr ⟨b, off, cap, cs, rfl, h3, h4, h5, f.blk h6 (hS b rfl), h7⟩
theorem Rd.lt (h : Rd w size v n xs B) : ∀ b, B = some b → b < w.heap.size := by
  intro b hb
  rcases h.2 with ⟨_, _, h2⟩ | ⟨b', off, cap, cs, h1, _, _, _, h6, _⟩
  · rw [h2] at hb; cases hb
  · rw [h1] at hb; cases hb; exact h6.lt
theorem Rd.isSlice (h : Rd w size v n xs B) : ∃ a c, v = .slice a n c := by
  rcases h.2 with ⟨h1, h2, _⟩ | ⟨b, off, cap, cs, _, h2, _⟩
  · exact ⟨none, 0, by rw [h1, h2]⟩
  · exact ⟨_, _, h2⟩
/-- Where there is an element the slice lies in a block. -/
theorem Rd.some (h : Rd w size v n xs B) (hn : 0 < n) : ∃ b off cap cs, B = some b ∧ v = .slice (some ⟨b, off, none⟩) n cap ∧ n ≤ cap ∧ cap ≤ maxLen ∧ Blk w b cs ∧ off + cap * size ≤ cs.length ∧ (cs.drop off).take (n * size) = xs := by
  rcases h.2 with ⟨_, h2, _⟩ | h2
  · omega
  · exact h2
end

/-- v reads as a slice of n elements: told by its cells alone (an argument: its spare room is not told of). -/
def Rc (w : World) (size : Nat) (v : Value) (n : Nat) (xs : List Value) (B : Option Nat) : Prop :=
  xs.length = n * size ∧ (∀ b, B = some b → b < w.heap.size) ∧ ∃ a c, v = .slice a n c ∧ n ≤ c ∧ c ≤ maxLen ∧
    (0 < n → ∃ b off, B = some b ∧ a = some ⟨b, off, none⟩ ∧ ∀ j, j < xs.length → w.cell? ⟨b, off + j, none⟩ = xs[j]?)

section
variable {w w' : World} {size n : Nat} {v : Value} {xs : List Value} {B : Option Nat} {S : List Nat}
theorem Rc.keep (h : Rc w size v n xs B) (f : Fr S w w') (hS : ∀ b, B = some b → b ∉ S) : Rc w' size v n xs B := by
  obtain ⟨h1, h2, a, c, h3, h4, h5, h6⟩ := h
  refine ⟨h1, fun b hb => f.lt (h2 b hb), a, c, h3, h4, h5, fun hn => ?_⟩
  obtain ⟨b, off, hB, ha, hc⟩ := h6 hn
  exact ⟨b, off, hB, ha, fun j hj => (World.cell?_of_block (w := w) (f.block b (h2 b hB) (hS b hB))).trans (hc j hj)⟩
theorem Rc.lt (h : Rc w size v n xs B) : ∀ b, B = some b → b < w.heap.size := h.2.1
theorem Rc.isSlice (h : Rc w size v n xs B) : ∃ a c, v = .slice a n c := by
  obtain ⟨_, _, a, c, h3, _⟩ := h
  exact ⟨a, c, h3⟩
theorem Rc.some (h : Rc w size v n xs B) (hn : 0 < n) : ∃ b off c, B = some b ∧ v = .slice (some ⟨b, off, none⟩) n c ∧ n ≤ c ∧ c ≤ maxLen ∧ b < w.heap.size ∧ ∀ j, j < xs.length → w.cell? ⟨b, off + j, none⟩ = xs[j]? := by
  obtain ⟨_, h2, a, c, h3, h4, h5, h6⟩ := h
  obtain ⟨b, off, hB, rfl, hc⟩ := h6 hn
  exact ⟨b, off, c, hB, h3, h4, h5, h2 b hB, hc⟩
theorem Rc.nil (w : World) (size : Nat) : Rc w size (.slice none 0 0) 0 [] none := ⟨by simp, by simp, none, 0, rfl, Nat.le_refl _, by simp, by simp⟩
theorem Rd.rc (h : Rd w size v n xs B) : Rc w size v n xs B := by
  refine ⟨h.1, h.lt, ?_⟩
  rcases h.2 with ⟨h1, h2, _⟩ | ⟨b, off, cap, cs, hB, hv, hcap, hcm, hb, hlen, hcs⟩
  · subst h2
    exact ⟨none, 0, h1, Nat.le_refl _, by simp, fun h => absurd h (by decide)⟩
  · refine ⟨_, _, hv, hcap, hcm, fun hn => ⟨b, off, hB, rfl, fun j hj => ?_⟩⟩
    have hj' : j < n * size := by rw [← h.1]; exact hj
    rw [hb.cell, ← hcs, List.getElem?_take, if_pos hj', List.getElem?_drop]
end

section
variable {P : Program} {ops : Array Oper} {Q : Exit → Act → World → Prop} {a : Act} {w : World} {K : Act → World → Prop} {rest : List Oper} {o : Oper}

theorem own_of_row {w : World} {base size n : Nat} {e : TypeId} {v : Value} {xs : List Value} (h : w.ownsRow base e size v n xs) : ∃ B, Xr.Own w size v n xs B ∧ ∀ b, B = some b → base ≤ b := by
  rcases h.2 with ⟨h1, h2⟩ | ⟨g, cap, cur, h1, h2, h3, h4, h5, h6, h7⟩
  · exact ⟨none, ⟨h.1, .inl ⟨h1, h2, rfl⟩⟩, fun b hb => by cases hb⟩
  · exact ⟨some g, ⟨h.1, .inr ⟨g, cap, cur.toList, rfl, h1, h4, h5, ⟨e, (0, 0), by simpa using h3, fun i _ => by simp⟩, by simpa using h6, h7⟩⟩, fun b hb => by cases hb; exact h2⟩

theorem Fr.of_grown {w w' : World} {row : Option Nat} (h : w.grownBy w' row) : Fr row.toList w w' :=
  ⟨h.os, h.tape, h.output, h.size, fun k hk hn => h.block k hk (fun e => hn (by rw [← e]; simp))⟩

/-- append to an owned slice of what lies at 'ad'. -/
theorem run_append (t ty e : TypeId) (i : TypeInfo) (z : Value) (size bytes : Nat) (ht : P.underlying t = some (.slice e)) (hi : P.info? e = some i) (hz : i.zero = some z)
    (hsize : i.size = size) (hby : i.bytes = bytes) (hzs : z.cells.size = size) (hsz : 0 < size) {w : World} {v : Value} {n : Nat} {xs : List Value} {B : Option Nat} (h : Xr.Own w size v n xs B)
    (ad : Addr) (m c : Nat) (news : List Value) (hl : news.length = m * size) (hnews : ∀ j u, news[j]? = some u → w.cell? (ad.add j) = some u) (h1 : ∀ u ∈ news, u.oneCell' = true)
    (h63 : n + m ≤ maxLen) (hbytes : (n + m) * bytes ≤ 140737488355328) :
    ∃ v' w' B', (Builtin.append_ #[t, t] ty #[v, .slice (some ad) m c]).run P w = .ok v' w' ∧ Xr.Own w' size v' (n + m) (xs ++ news) B' ∧ Fr B.toList w w' ∧ (B' = B ∨ ∃ b, B' = some b ∧ w.heap.size ≤ b) := by
  have hlen : (xs ++ news).length = (n + m) * size := by rw [List.length_append, h.1, hl, Nat.add_mul]
  rcases h.2 with ⟨rfl, rfl, rfl⟩ | ⟨b, cap, cs, rfl, rfl, hnc, hcm, hb, hcl, htake⟩
  · obtain rfl : xs = [] := List.eq_nil_of_length_eq_zero (by simpa using h.1)
    obtain ⟨v', w', hrun, r1, r2, r3⟩ := run_append_own (P := P) w w.heap.size t ty e i z size bytes ht hi hz hsize hby hzs hsz (.slice none 0 0) 0 [] (World.ownsRow_nil w _ e size) ad m c news hl hnews h1 h63 hbytes (Nat.le_refl _)
    obtain ⟨B', hB, hge⟩ := own_of_row r1
    refine ⟨v', w', B', hrun, hB, ?_, ?_⟩
    · exact (Fr.of_grown r2)
    · cases B' with
      | none => exact .inl rfl
      | some g => exact .inr ⟨g, rfl, hge g rfl⟩
  · by_cases hroom : n + m ≤ cap
    · subst hsize
      have hfit : n * i.size + news.length ≤ cs.length := by rw [hl, hcl, ← Nat.add_mul]; exact Nat.mul_le_mul_right _ hroom
      have hrun := run_append_room_cells (P := P) w t ty e i ht hi b 0 n cap ad m c news hl hnews h1 hroom (fun j hj => by rw [hb.cell]; simp; omega) (fun j hj => hb.free _ (by omega))
      simp only [Nat.zero_add] at hrun
      obtain ⟨h2, h3⟩ := Blk.setCells news (n * i.size) hb hfit
      refine ⟨_, _, some b, hrun, ⟨hlen, .inr ⟨b, cap, _, rfl, rfl, hroom, hcm, h2, by rw [splice_length _ _ _ hfit, hcl], ?_⟩⟩, h3, .inl rfl⟩
      unfold splice
      rw [← hlen, htake]
      exact List.take_left
    · have holds : ∀ j u, xs[j]? = some u → w.cell? ((⟨b, 0, none⟩ : Addr).add j) = some u := hb.cells (vs := xs) (by rw [List.drop_zero, h.1]; exact htake)
      obtain ⟨v', w', hrun, r1, r2⟩ := run_append_arg_grows (P := P) w t ty e i z size bytes ht hi hz hsize hby hzs hsz ⟨b, 0, none⟩ n cap xs h.1 holds ad m c news hl hnews (by omega) h63 hbytes
      obtain ⟨B', hB, hge⟩ := own_of_row r1
      refine ⟨v', w', B', hrun, hB, (Fr.of_grown r2).mono (by simp), ?_⟩
      cases B' with
      | none =>
        rcases hB.2 with ⟨rfl, h0, _⟩ | ⟨_, _, _, h0, _⟩
        · omega
        · cases h0
      | some g => exact .inr ⟨g, rfl, hge g rfl⟩

theorem wp_append (s x : Operand) (t : TypeId) (ho : o.op = .call { callee := .builtin .append, args := #[s, x], argTypes := #[t, t] })
    (e : TypeId) (i : TypeInfo) (z : Value) (size bytes : Nat) (ht : P.underlying t = some (.slice e)) (hi : P.info? e = some i) (hz : i.zero = some z)
    (hsize : i.size = size) (hby : i.bytes = bytes) (hzs : z.cells.size = size) (hsz : 0 < size) {v : Value} {n : Nat} {xs : List Value} {B : Option Nat} (hs : a.eval s = v) (h : Xr.Own w size v n xs B)
    (ad : Addr) (m c : Nat) (news : List Value) (hx : a.eval x = .slice (some ad) m c) (hl : news.length = m * size) (hnews : ∀ j u, news[j]? = some u → w.cell? (ad.add j) = some u) (h1 : ∀ u ∈ news, u.oneCell' = true)
    (h63 : n + m ≤ maxLen) (hbytes : (n + m) * bytes ≤ 140737488355328)
    (hK : ∀ v' w' B', Xr.Own w' size v' (n + m) (xs ++ news) B' → Fr B.toList w w' → (B' = B ∨ ∃ b, B' = some b ∧ w.heap.size ≤ b) → K (a.put o.dst v') w') : o.wp P a w K Q := by
  obtain ⟨v', w', B', hr, h2, h3, h4⟩ := run_append (P := P) t o.type e i z size bytes ht hi hz hsize hby hzs hsz h ad m c news hl hnews h1 h63 hbytes
  unfold Oper.wp execOp
  simp only [ho, resolve, invoke, builtin, Sem.run_bind, Sem.run_pure, Result.andThen_ok, List.map_toArray, List.map_cons, List.map_nil, hs, hx, hr]
  exact hK v' w' B' h2 h3 h4

theorem wpList_append (hg : o.guard = none) (s x : Operand) (t : TypeId) (ho : o.op = .call { callee := .builtin .append, args := #[s, x], argTypes := #[t, t] })
    (e : TypeId) (i : TypeInfo) (z : Value) (size bytes : Nat) (ht : P.underlying t = some (.slice e)) (hi : P.info? e = some i) (hz : i.zero = some z)
    (hsize : i.size = size) (hby : i.bytes = bytes) (hzs : z.cells.size = size) (hsz : 0 < size) {v : Value} {n : Nat} {xs : List Value} {B : Option Nat} (hs : a.eval s = v) (h : Xr.Own w size v n xs B)
    (ad : Addr) (m c : Nat) (news : List Value) (hx : a.eval x = .slice (some ad) m c) (hl : news.length = m * size) (hnews : ∀ j u, news[j]? = some u → w.cell? (ad.add j) = some u) (h1 : ∀ u ∈ news, u.oneCell' = true)
    (h63 : n + m ≤ maxLen) (hbytes : (n + m) * bytes ≤ 140737488355328)
    (hK : ∀ v' w' B', Xr.Own w' size v' (n + m) (xs ++ news) B' → Fr B.toList w w' → (B' = B ∨ ∃ b, B' = some b ∧ w.heap.size ≤ b) → wpList P ops Q rest (a.put o.dst v') w') : wpList P ops Q (o :: rest) a w :=
  wpList_plain hg fun _ hk => wp_append s x t ho e i z size bytes ht hi hz hsize hby hzs hsz hs h ad m c news hx hl hnews h1 h63 hbytes fun v' w' B' h2 h3 h4 => hk _ _ (hK v' w' B' h2 h3 h4)

/-! ### Slices of one element, made in place -/
theorem foldl_set_all : ∀ (l : List Value) (k : Nat) (cs : Array Value), k + l.length ≤ cs.size →
    (((l.zipIdx k).foldl (fun cs (p : Value × Nat) => cs.setIfInBounds p.2 p.1) cs).toList = cs.toList.take k ++ l ++ cs.toList.drop (k + l.length))
  | [], k, cs, _ => by simp
  | v :: l, k, cs, h => by
    simp only [List.length_cons] at h
    simp only [List.zipIdx_cons, List.foldl_cons]
    rw [foldl_set_all l (k + 1) _ (by simp; omega)]
    have hk : k < cs.toList.length := by simp; omega
    have e := splice_cons cs.toList k v l hk
    unfold splice at e
    simpa using e

theorem fill_one (size : Nat) (v : Value) (hv : v.cells.size = size) (cells : Array Value) (hc : cells.size = size) :
    Instr.fill (fun i => some (i * size, size)) cells [(0, v)] = some v.cells := by
  have h0 : ¬ (v.cells.size ≠ size ∨ cells.size < 0 * size + v.cells.size) := by omega
  have hf := foldl_set_all v.cells.toList 0 cells (by simp; omega)
  have e : (v.cells.zipIdx.foldl (fun (cs : Array Value) (x : Value × Nat) => cs.setIfInBounds (0 * size + x.2) x.1) cells) = v.cells := by
    apply Array.toList_inj.1
    have e1 : v.cells.zipIdx.foldl (fun (cs : Array Value) (x : Value × Nat) => cs.setIfInBounds (0 * size + x.2) x.1) cells = (v.cells.toList.zipIdx 0).foldl (fun cs (p : Value × Nat) => cs.setIfInBounds p.2 p.1) cells := by
      rw [← Array.foldl_toList]
      simp
    rw [e1, hf]
    simp
    omega
  simp only [Instr.fill, decide_eq_true_eq, Bool.or_eq_true]
  rw [if_neg (by simpa using h0)]
  simpa using e

theorem run_buildSlice_one (w : World) (t e : TypeId) (i : TypeInfo) (z v : Value) (ht : P.underlying t = some (.slice e)) (hi : P.info? e = some i) (hz : i.zero = some z)
    (hv : v.cells.size = i.size) (hzs : z.cells.size = i.size) (hle : i.size ≤ 16777216) (h0 : 0 < i.size) :
    (Instr.buildSlice t 1 #[(0, v)]).run P w = .ok (.slice (some ⟨w.heap.size, 0, none⟩) 1 1) (w.alloc (.cells v.cells e)) := by
  have hf : Instr.fill (fun k => some (k * i.size, i.size)) ((Array.range i.size).map fun k => z.cells[k % z.cells.size]!) [(0, v)] = some v.cells := fill_one i.size v hv _ (by simp)
  have h1 : ¬ (16777216 < i.size) := by omega
  have h2 : ¬ (i.size = 0) := by omega
  simp [Instr.buildSlice, run_underlying ht, sizeOf, typeInfo, hi, zeroValue, hz, h1, h2, newRow, hf]

theorem wp_buildSlice_one (t : TypeId) (x : Operand) (ho : o.op = .buildSlice t 1 #[(0, x)]) (e : TypeId) (i : TypeInfo) (z : Value) (size : Nat) (vs : List Value) (ht : P.underlying t = some (.slice e)) (hi : P.info? e = some i) (hz : i.zero = some z)
    (hsize : i.size = size) (hx : (a.eval x).cells.toList = vs) (hv : vs.length = size) (hzs : z.cells.size = size) (hle : size ≤ 16777216) (h0 : 0 < size)
    (h : Blk (w.alloc (.cells vs.toArray e)) w.heap.size vs → K (a.put o.dst (.slice (some ⟨w.heap.size, 0, none⟩) 1 1)) (w.alloc (.cells vs.toArray e))) : o.wp P a w K Q := by
  subst hsize
  have hr := run_buildSlice_one (P := P) w t e i z (a.eval x) ht hi hz (by rw [← Array.length_toList, hx, hv]) hzs hle h0
  have e1 : (a.eval x).cells = vs.toArray := by rw [← hx]
  unfold Oper.wp execOp
  simp only [ho, Sem.run_bind, Sem.run_pure, Result.andThen_ok, List.map_toArray, List.map_cons, List.map_nil, hr, e1]
  exact h (Blk.alloc w vs e)

theorem wpList_buildSlice_one (hg : o.guard = none) (t : TypeId) (x : Operand) (ho : o.op = .buildSlice t 1 #[(0, x)]) (e : TypeId) (i : TypeInfo) (z : Value) (size : Nat) (vs : List Value) (ht : P.underlying t = some (.slice e)) (hi : P.info? e = some i) (hz : i.zero = some z)
    (hsize : i.size = size) (hx : (a.eval x).cells.toList = vs) (hv : vs.length = size) (hzs : z.cells.size = size) (hle : size ≤ 16777216) (h0 : 0 < size)
    (h : Blk (w.alloc (.cells vs.toArray e)) w.heap.size vs → wpList P ops Q rest (a.put o.dst (.slice (some ⟨w.heap.size, 0, none⟩) 1 1)) (w.alloc (.cells vs.toArray e))) : wpList P ops Q (o :: rest) a w :=
  wpList_plain hg fun _ hK => wp_buildSlice_one t x ho e i z size vs ht hi hz hsize hx hv hzs hle h0 fun hb => hK _ _ (h hb)

/-- A new variable of an aggregate's type, whatever its zero value. -/
theorem wp_alloc_agg (t : TypeId) (ho : o.op = .alloc t) (i : TypeInfo) (z : Value) (size : Nat) (hi : P.info? t = some i) (hz : i.zero = some z) (hzs : z.cells.size = size)
    (h : ∀ zs : List Value, zs.length = size → zs = z.cells.toList → Blk (w.alloc (.cells zs.toArray t)) w.heap.size zs → K (a.put o.dst (.pointer (some ⟨w.heap.size, 0, none⟩))) (w.alloc (.cells zs.toArray t))) : o.wp P a w K Q := by
  unfold Oper.wp execOp
  have := h z.cells.toList (by simpa using hzs) rfl (Blk.alloc w _ t)
  simp only [Array.toArray_toList] at this
  simp [ho, Instr.alloc, zeroValue, typeInfo, hi, hz, newVar, newRow, Oper.upon, this]

theorem wpList_alloc_agg (hg : o.guard = none) (t : TypeId) (ho : o.op = .alloc t) (i : TypeInfo) (z : Value) (size : Nat) (hi : P.info? t = some i) (hz : i.zero = some z) (hzs : z.cells.size = size)
    (h : ∀ zs : List Value, zs.length = size → zs = z.cells.toList → Blk (w.alloc (.cells zs.toArray t)) w.heap.size zs → wpList P ops Q rest (a.put o.dst (.pointer (some ⟨w.heap.size, 0, none⟩))) (w.alloc (.cells zs.toArray t))) : wpList P ops Q (o :: rest) a w :=
  wpList_plain hg fun _ hK => wp_alloc_agg t ho i z size hi hz hzs fun zs h1 h2 h3 => hK _ _ (h zs h1 h2 h3)

theorem madeCells_rep (z : Array Value) (zc : Value) (size n : Nat) (hz : z.toList = List.replicate size zc) (h0 : 0 < size) : madeCells z n = (List.replicate n zc).toArray := by
  have hs : z.size = size := by rw [← Array.length_toList, hz]; simp
  apply Array.toList_inj.1
  apply List.ext_getElem (by rw [Array.length_toList, size_madeCells]; simp)
  intro j h1 h2
  have hj : j % z.size < z.size := Nat.mod_lt _ (by omega)
  have : z[j % z.size] = zc := by
    have e : z.toList[j % z.size]'(by simpa using hj) = zc := by simp [hz]
    simpa using e
  simp [madeCells, hj, this]

/-- 'make([]T, l, c)', whatever the element. -/
theorem wp_make (t : TypeId) (x y : Operand) (ho : o.op = .makeSlice t x y) (l c : Nat) (kl kc : IntKind) (hx : a.eval x = .int kl l) (hy : a.eval y = .int kc c) (e : TypeId) (i : TypeInfo) (z zc : Value) (size bytes : Nat) (ht : P.underlying t = some (.slice e)) (hi : P.info? e = some i) (hz : i.zero = some z)
    (hsize : i.size = size) (hby : i.bytes = bytes) (hzs : z.cells.toList = List.replicate size zc) (h0 : 0 < size) (hlc : l ≤ c) (hm : c ≤ 9223372036854775807) (hb : bytes * c ≤ 281474976710656)
    (h : Blk (w.alloc (.cells (List.replicate (c * size) zc).toArray e)) w.heap.size (List.replicate (c * size) zc) → K (a.put o.dst (.slice (some ⟨w.heap.size, 0, none⟩) l c)) (w.alloc (.cells (List.replicate (c * size) zc).toArray e))) : o.wp P a w K Q := by
  subst hsize
  subst hby
  have hr := run_make (P := P) w t e i z ht hi hz kl kc l c (by omega) (by omega) (by have h1 : ((i.bytes * c : Nat) : Int) ≤ 281474976710656 := Int.ofNat_le.2 hb; rwa [Int.natCast_mul] at h1) (by omega)
  simp only [Int.toNat_natCast, madeCells_rep z.cells zc i.size _ hzs h0] at hr
  unfold Oper.wp execOp
  simp only [ho, hx, hy, Sem.run_bind, Sem.run_pure, Result.andThen_ok, hr]
  exact h (Blk.alloc w _ e)

theorem wpList_make (hg : o.guard = none) (t : TypeId) (x y : Operand) (ho : o.op = .makeSlice t x y) (l c : Nat) (kl kc : IntKind) (hx : a.eval x = .int kl l) (hy : a.eval y = .int kc c) (e : TypeId) (i : TypeInfo) (z zc : Value) (size bytes : Nat) (ht : P.underlying t = some (.slice e)) (hi : P.info? e = some i) (hz : i.zero = some z)
    (hsize : i.size = size) (hby : i.bytes = bytes) (hzs : z.cells.toList = List.replicate size zc) (h0 : 0 < size) (hlc : l ≤ c) (hm : c ≤ 9223372036854775807) (hb : bytes * c ≤ 281474976710656)
    (h : Blk (w.alloc (.cells (List.replicate (c * size) zc).toArray e)) w.heap.size (List.replicate (c * size) zc) → wpList P ops Q rest (a.put o.dst (.slice (some ⟨w.heap.size, 0, none⟩) l c)) (w.alloc (.cells (List.replicate (c * size) zc).toArray e))) : wpList P ops Q (o :: rest) a w :=
  wpList_plain hg fun _ hK => wp_make t x y ho l c kl kc hx hy e i z zc size bytes ht hi hz hsize hby hzs h0 hlc hm hb fun hb => hK _ _ (h hb)

/-! ### Structs that are built of parts -/
theorem fill_step (place : Nat → Option (Nat × Nat)) (cells : Array Value) (i off size : Nat) (v : Value) (rest : List (Nat × Value)) (hp : place i = some (off, size)) (hv : v.cells.size = size) (hle : off + size ≤ cells.size) :
    Instr.fill place cells ((i, v) :: rest) = Instr.fill place (splice cells.toList off v.cells.toList).toArray rest := by
  have h0 : ¬ (v.cells.size ≠ size ∨ cells.size < off + v.cells.size) := by omega
  have e : ∀ (l : List Value) (k : Nat) (cs : Array Value), off + k + l.length ≤ cs.size →
      ((l.zipIdx k).foldl (fun (cs : Array Value) (x : Value × Nat) => cs.setIfInBounds (off + x.2) x.1) cs).toList = cs.toList.take (off + k) ++ l ++ cs.toList.drop (off + k + l.length) := by
    intro l
    induction l with
    | nil => intro k cs _; simp
    | cons u l ih =>
      intro k cs hk
      simp only [List.length_cons] at hk
      simp only [List.zipIdx_cons, List.foldl_cons]
      rw [ih (k + 1) _ (by simp; omega)]
      have hk' : off + k < cs.toList.length := by simp; omega
      have e := splice_cons cs.toList (off + k) u l hk'
      unfold splice at e
      simpa [Nat.add_assoc] using e
  have e1 : (v.cells.zipIdx.foldl (fun (cs : Array Value) (x : Value × Nat) => cs.setIfInBounds (off + x.2) x.1) cells) = (splice cells.toList off v.cells.toList).toArray := by
    apply Array.toList_inj.1
    rw [← Array.foldl_toList]
    have := e v.cells.toList 0 cells (by simp; omega)
    simp only [Nat.add_zero] at this
    simpa [splice] using this
  simp only [Instr.fill, hp, decide_eq_true_eq, Bool.or_eq_true]
  rw [if_neg (by simpa using h0)]
  exact congrArg (fun x => Instr.fill place x rest) e1

theorem splice_all (l vs : List Value) (h : l.length = vs.length) : splice l 0 vs = vs := by
  simp [splice, ← h]
theorem splice_end (l vs r : List Value) (h : r.length = vs.length) : splice (l ++ r) l.length vs = l ++ vs := by
  simp [splice, ← h]

theorem fill2 (place : Nat → Option (Nat × Nat)) (z : Array Value) (n0 n1 : Nat) (hz : z.size = n0 + n1) (v0 v1 : Value) (h0 : v0.cells.size = n0) (h1 : v1.cells.size = n1) (p0 : place 0 = some (0, n0)) (p1 : place 1 = some (n0, n1)) :
    Instr.fill place z [(0, v0), (1, v1)] = some (v0.cells.toList ++ v1.cells.toList).toArray := by
  have l0 : v0.cells.toList.length = n0 := by simpa using h0
  have l1 : v1.cells.toList.length = n1 := by simpa using h1
  have lz : z.toList.length = n0 + n1 := by simpa using hz
  rw [fill_step place z 0 0 n0 v0 _ p0 h0 (by omega)]
  rw [fill_step place _ 1 n0 n1 v1 _ p1 h1 (by rw [List.size_toArray, splice_length _ _ _ (by omega)]; omega)]
  simp only [Instr.fill]
  congr 2
  have e : splice z.toList 0 v0.cells.toList = v0.cells.toList ++ z.toList.drop n0 := by simp [splice, l0]
  rw [e]
  have := splice_end v0.cells.toList v1.cells.toList (z.toList.drop n0) (by rw [List.length_drop]; omega)
  rw [l0] at this
  exact this

/-- The places of a struct's fields, off the program's table. -/
theorem run_places (fs : List Field) (ps : List (Nat × Nat)) (h : (fs.map fun f => (f.offset, ((P.info? f.type).map (·.size)))) = ps.map (fun p => (p.1, some p.2))) (w : World) :
    (fs.toArray.mapM fun f => do pure (f.offset, ← sizeOf f.type) : Sem (Array (Nat × Nat))).run P w = .ok ps.toArray w := by
  have key : ∀ (fs : List Field) (ps : List (Nat × Nat)), (fs.map fun f => (f.offset, ((P.info? f.type).map (·.size)))) = ps.map (fun p => (p.1, some p.2)) →
      (fs.mapM fun f => do pure (f.offset, ← sizeOf f.type) : Sem (List (Nat × Nat))).run P w = .ok ps w := by
    intro fs
    induction fs with
    | nil =>
      intro ps h
      cases ps with
      | nil => simp
      | cons => simp at h
    | cons f fs ih =>
      intro ps h
      cases ps with
      | nil => simp at h
      | cons p ps =>
        simp only [List.map_cons, List.cons.injEq, Prod.mk.injEq] at h
        obtain ⟨⟨h1, h2⟩, h3⟩ := h
        have h4 := ih ps h3
        cases hq : P.info? f.type with
        | none => simp [hq] at h2
        | some i =>
          simp [hq] at h2
          have e : (sizeOf f.type).run P w = .ok p.2 w := by simp [sizeOf, typeInfo, hq, h2]
          simp only [List.mapM_cons, Sem.run_bind, e, Result.andThen_ok, Sem.run_pure, h4, h1]
  rw [List.mapM_toArray]
  simp only [Sem.run_map, key fs ps h, Result.andThen_ok]

theorem wp_build_struct (t : TypeId) (ps : Array (Nat × Operand)) (ho : o.op = .build t ps) (fields : Array Field) (places : Array (Nat × Nat)) (i : TypeInfo) (z : Value) (hu : P.underlying t = some (.struct fields)) (hi : P.info? t = some i) (hz : i.zero = some z)
    (hp : ∀ w, (fields.mapM fun f => do pure (f.offset, ← sizeOf f.type) : Sem (Array (Nat × Nat))).run P w = .ok places w) (vs : List Value)
    (hf : Instr.fill (places[·]?) z.cells (ps.toList.map fun p => (p.1, a.eval p.2)) = some vs.toArray) (h : K (a.put o.dst (.agg vs.toArray)) w) : o.wp P a w K Q := by
  have hf' : Instr.fill (places[·]?) z.cells (ps.map fun p => (p.1, a.eval p.2)).toList = some vs.toArray := by rw [Array.toList_map]; exact hf
  unfold Oper.wp execOp
  simp only [ho, Instr.build, zeroValue, typeInfo, program, Sem.run_bind, Sem.run, Result.andThen_ok, hi, hz, run_underlying hu, Sem.run_pure, hp, hf']
  exact h

theorem wpList_build_struct (hg : o.guard = none) (t : TypeId) (ps : Array (Nat × Operand)) (ho : o.op = .build t ps) (fields : Array Field) (places : Array (Nat × Nat)) (i : TypeInfo) (z : Value) (hu : P.underlying t = some (.struct fields)) (hi : P.info? t = some i) (hz : i.zero = some z)
    (hp : ∀ w, (fields.mapM fun f => do pure (f.offset, ← sizeOf f.type) : Sem (Array (Nat × Nat))).run P w = .ok places w) (vs : List Value)
    (hf : Instr.fill (places[·]?) z.cells (ps.toList.map fun p => (p.1, a.eval p.2)) = some vs.toArray) (h : wpList P ops Q rest (a.put o.dst (.agg vs.toArray)) w) : wpList P ops Q (o :: rest) a w :=
  wpList_plain hg fun _ hK => wp_build_struct t ps ho fields places i z hu hi hz hp vs hf (hK _ _ h)

/-- '[n]T(b)', '(*[n]T)(b)': the address. -/
theorem wp_arrayAt (t : TypeId) (x : Operand) (ho : o.op = .sliceToArrayPointer t x) (n : Nat) (e : TypeId) (hu : P.underlying t = some (.array n e)) {ad : Option Addr} {l c : Nat} (hx : a.eval x = .slice ad l c) (hl : n ≤ l)
    (h : K (a.put o.dst (.pointer ad)) w) : o.wp P a w K Q := by
  have hn : ¬ l < n := by omega
  unfold Oper.wp execOp
  simp only [ho, hx, Instr.arrayAt, Sem.run_bind, run_underlying hu, Result.andThen_ok, hn, if_false, Sem.run_pure]
  exact h
theorem wpList_arrayAt (hg : o.guard = none) (t : TypeId) (x : Operand) (ho : o.op = .sliceToArrayPointer t x) (n : Nat) (e : TypeId) (hu : P.underlying t = some (.array n e)) {ad : Option Addr} {l c : Nat} (hx : a.eval x = .slice ad l c) (hl : n ≤ l)
    (h : wpList P ops Q rest (a.put o.dst (.pointer ad)) w) : wpList P ops Q (o :: rest) a w :=
  wpList_plain hg fun _ hK => wp_arrayAt t x ho n e hu hx hl (hK _ _ h)
end
end Go.Xr
