/- append of a row that is read alone: to a slice of its own, to one cut short. -/
import Derived.Test.YtneoagelcjfanaaGreatDoorGCore
import Derived.ArgAppend
namespace Go.Xr
open Go Go.RowKit
set_option linter.unusedVariables false
theorem str_one (l : List ByteArray) : ∀ u ∈ l.map Value.string, u.oneCell' = true := by
  intro u hu
  obtain ⟨s, _, rfl⟩ := List.mem_map.1 hu
  rfl
section
variable {P : Program} {ops : Array Oper} {Q : Exit → Act → World → Prop} {a : Act} {w : World} {K : Act → World → Prop} {rest : List Oper} {o : Oper}
theorem run_append_none (t ty e : TypeId) (i : TypeInfo) (ht : P.underlying t = some (.slice e)) (hi : P.info? e = some i) (w : World) (ad : Option Addr) (n cap c : Nat) (h : n ≤ cap) :
    (Builtin.append_ #[t, t] ty #[.slice ad n cap, .slice none 0 c]).run P w = .ok (.slice ad n cap) w := by
  cases ad <;> simp [Builtin.append_, run_underlying ht, sizeOf, typeInfo, hi, Builtin.lenOf, Builtin.firstCells, h, storeCells]
/-- append to a slice of its own of an argument's row, nil too. -/
theorem wpList_append_rc (hg : o.guard = none) (s x : Operand) (t : TypeId) (ho : o.op = .call { callee := .builtin .append, args := #[s, x], argTypes := #[t, t] })
    (e : TypeId) (i : TypeInfo) (z : Value) (size bytes : Nat) (ht : P.underlying t = some (.slice e)) (hi : P.info? e = some i) (hz : i.zero = some z)
    (hsize : i.size = size) (hby : i.bytes = bytes) (hzs : z.cells.size = size) (hsz : 0 < size) {v : Value} {n : Nat} {xs : List Value} {B : Option Nat} (hs : a.eval s = v) (h : Xr.Own w size v n xs B)
    {u : Value} {m : Nat} {news : List Value} {XB : Option Nat} (hx : a.eval x = u) (hr : Rc w size u m news XB) (h1 : ∀ u ∈ news, u.oneCell' = true)
    (h63 : n + m ≤ maxLen) (hbytes : (n + m) * bytes ≤ 140737488355328)
    (hK : ∀ v' w' B', Xr.Own w' size v' (n + m) (xs ++ news) B' → Fr B.toList w w' → (B' = B ∨ ∃ b, B' = some b ∧ w.heap.size ≤ b) → wpList P ops Q rest (a.put o.dst v') w') : wpList P ops Q (o :: rest) a w := by
  obtain ⟨hl, _, ad, c, rfl, hc1, hc2, hc3⟩ := hr
  cases ad with
  | some ad =>
    refine wpList_append hg s x t ho e i z size bytes ht hi hz hsize hby hzs hsz hs h ad m c news hx hl (fun j u hj => ?_) h1 h63 hbytes hK
    have hjl : j < news.length := by
      by_cases hh : j < news.length
      · exact hh
      · rw [List.getElem?_eq_none (by omega)] at hj; cases hj
    have hm : 0 < m := by
      by_cases hh : 0 < m
      · exact hh
      · have : m = 0 := by omega
        rw [this] at hl
        omega
    obtain ⟨b, off, _, hb, hcs⟩ := hc3 hm
    cases hb
    have e1 : (⟨b, off, none⟩ : Addr).add j = ⟨b, off + j, none⟩ := by
      unfold Addr.add
      split <;> simp_all
    rw [e1, hcs j hjl, hj]
  | none =>
    have hm : m = 0 := by
      by_cases hh : 0 < m
      · obtain ⟨b, off, _, hb, _⟩ := hc3 hh
        cases hb
      · omega
    subst hm
    obtain rfl : news = [] := List.eq_nil_of_length_eq_zero (by omega)
    refine wpList_plain hg fun K hk => ?_
    have hrun : (Builtin.append_ #[t, t] o.type #[v, .slice none 0 c]).run P w = .ok v w := by
      rcases h.2 with ⟨rfl, _, _⟩ | ⟨b, cap, cs, _, rfl, hnc, _⟩
      · exact run_append_none t _ e i ht hi w none 0 0 c (Nat.le_refl _)
      · exact run_append_none t _ e i ht hi w _ n cap c hnc
    unfold Oper.wp execOp
    simp only [ho, resolve, invoke, builtin, Sem.run_bind, Sem.run_pure, Result.andThen_ok, List.map_toArray, List.map_cons, List.map_nil, hs, hx, hrun]
    exact hk _ _ (hK v w B (by rw [List.append_nil]; exact h) (Fr.refl _ _) (.inl rfl))
/-- What is read at an argument's row. -/
theorem rc_reads {size m : Nat} {ad : Option Addr} {c : Nat} {news : List Value} {XB : Option Nat} (hr : Rc w size (.slice ad m c) m news XB) (hm : 0 < m) :
    ∃ a, ad = some a ∧ ∀ j u, news[j]? = some u → w.cell? (a.add j) = some u := by
  obtain ⟨b, off, c', _, hv, _, _, _, hcs⟩ := hr.some hm
  obtain ⟨rfl, rfl⟩ : ad = some ⟨b, off, none⟩ ∧ c = c' := by simpa using hv
  refine ⟨_, rfl, fun j u hj => ?_⟩
  have hjl : j < news.length := by
    by_cases hh : j < news.length
    · exact hh
    · rw [List.getElem?_eq_none (by omega)] at hj; cases hj
  have e1 : (⟨b, off, none⟩ : Addr).add j = ⟨b, off + j, none⟩ := by
    unfold Addr.add
    split <;> simp_all
  rw [e1, hcs j hjl, hj]
/-- append to a row without spare room (cut short): it is copied, or stays as it is. -/
theorem wpList_append_cut (hg : o.guard = none) (s x : Operand) (t : TypeId) (ho : o.op = .call { callee := .builtin .append, args := #[s, x], argTypes := #[t, t] })
    (e : TypeId) (i : TypeInfo) (z : Value) (size bytes : Nat) (ht : P.underlying t = some (.slice e)) (hi : P.info? e = some i) (hz : i.zero = some z)
    (hsize : i.size = size) (hby : i.bytes = bytes) (hzs : z.cells.size = size) (hsz : 0 < size) {n : Nat} {ad : Addr} {xs : List Value} {B : Option Nat} (hs : a.eval s = .slice (some ad) n n) (h : Rc w size (.slice (some ad) n n) n xs B)
    {u : Value} {m : Nat} {news : List Value} {XB : Option Nat} (hx : a.eval x = u) (hr : Rc w size u m news XB) (h1 : ∀ u ∈ news, u.oneCell' = true)
    (h63 : n + m ≤ maxLen) (hbytes : (n + m) * bytes ≤ 140737488355328)
    (hK : ∀ v' w' B', Rc w' size v' (n + m) (xs ++ news) B' → Fr [] w w' → (0 < m → Xr.Own w' size v' (n + m) (xs ++ news) B' ∧ ∃ b, B' = some b ∧ w.heap.size ≤ b) → wpList P ops Q rest (a.put o.dst v') w') : wpList P ops Q (o :: rest) a w := by
  refine wpList_plain hg fun K hk => ?_
  obtain ⟨ua, uc, rfl⟩ := hr.isSlice
  rcases Nat.eq_zero_or_pos m with rfl | hm
  · obtain rfl : news = [] := List.eq_nil_of_length_eq_zero (by have := hr.1; omega)
    have hrun : (Builtin.append_ #[t, t] o.type #[.slice (some ad) n n, .slice ua 0 uc]).run P w = .ok (.slice (some ad) n n) w := by
      cases ua <;> simp [Builtin.append_, run_underlying ht, sizeOf, typeInfo, hi, Builtin.lenOf, Builtin.firstCells, storeCells, loadCells, loadCellsFrom]
    unfold Oper.wp execOp
    simp only [ho, resolve, invoke, builtin, Sem.run_bind, Sem.run_pure, Result.andThen_ok, List.map_toArray, List.map_cons, List.map_nil, hs, hx, hrun]
    exact hk _ _ (hK _ w B (by rw [List.append_nil]; exact h) (Fr.refl _ _) (fun h => absurd h (by decide)))
  · obtain ⟨na, rfl, hnews⟩ := rc_reads hr hm
    have holds : ∀ j u, xs[j]? = some u → w.cell? (ad.add j) = some u := by
      intro j u hj
      have hn : 0 < n := by
        rcases Nat.eq_zero_or_pos n with rfl | hn
        · have : xs = [] := List.eq_nil_of_length_eq_zero (by have := h.1; omega)
          rw [this] at hj; cases hj
        · exact hn
      obtain ⟨a2, h2, h3⟩ := rc_reads h hn
      cases h2
      exact h3 j u hj
    obtain ⟨v', w', hrun, r1, r2⟩ := run_append_arg_grows (P := P) w t o.type e i z size bytes ht hi hz hsize hby hzs hsz ad n n xs h.1 holds na m uc news hr.1 hnews (by omega) h63 hbytes
    obtain ⟨B', hB, hge⟩ := own_of_row r1
    unfold Oper.wp execOp
    simp only [ho, resolve, invoke, builtin, Sem.run_bind, Sem.run_pure, Result.andThen_ok, List.map_toArray, List.map_cons, List.map_nil, hs, hx, hrun]
    refine hk _ _ (hK _ w' B' hB.rd.rc ((Fr.of_grown r2).mono (by simp)) fun _ => ⟨hB, ?_⟩)
    cases B' with
    | none =>
      rcases hB.2 with ⟨_, h0, _⟩ | ⟨_, _, _, h0, _⟩
      · omega
      · cases h0
    | some g => exact ⟨g, rfl, hge g rfl⟩

/-- 's[:k:k]' and 's[l:]' of a row that is read. -/
theorem rc_cut {ad : Option Addr} {n c k : Nat} {xs : List Value} {B : Option Nat} (h : Rc w 1 (.slice ad n c) n xs B) (hk : k ≤ n) : Rc w 1 (.slice ad k k) k (xs.take k) B := by
  obtain ⟨h1, h2, a, c', hv, h4, h5, h6⟩ := h
  obtain ⟨rfl, rfl⟩ : ad = a ∧ c = c' := by simpa using hv
  refine ⟨by rw [List.length_take, h1]; omega, h2, ad, k, rfl, Nat.le_refl _, by omega, fun hk0 => ?_⟩
  obtain ⟨b, off, hB, ha, hc⟩ := h6 (by omega)
  refine ⟨b, off, hB, ha, fun j hj => ?_⟩
  rw [List.length_take] at hj
  rw [hc j (by omega), List.getElem?_take, if_pos (by omega)]
theorem rc_low {ad : Option Addr} {n c l : Nat} {xs : List Value} {B : Option Nat} (h : Rc w 1 (.slice ad n c) n xs B) (hl : l ≤ n) : Rc w 1 (.slice (if c = l then ad else ad.map (·.add (l * 1))) (n - l) (c - l)) (n - l) (xs.drop l) B := by
  obtain ⟨h1, h2, a, c', hv, h4, h5, h6⟩ := h
  obtain ⟨rfl, rfl⟩ : ad = a ∧ c = c' := by simpa using hv
  refine ⟨by rw [List.length_drop, h1]; omega, h2, _, _, rfl, by omega, by omega, fun hk0 => ?_⟩
  obtain ⟨b, off, hB, ha, hc⟩ := h6 (by omega)
  refine ⟨b, off + l, hB, ?_, fun j hj => ?_⟩
  · rw [if_neg (by omega), ha, Option.map_some, Nat.mul_one]
    refine congrArg some ?_
    unfold Addr.add
    split <;> simp_all
  · rw [List.length_drop] at hj
    rw [List.getElem?_drop, Nat.add_assoc, hc (l + j) (by omega)]
theorem rc_as {v : Value} {n : Nat} {ys : List Value} {B : Option Nat} {l' : List ByteArray} (h : Rc w 1 v n ys B) (h1 : n = l'.length) (h2 : ys = l'.map .string) : Rc w 1 v l'.length (l'.map .string) B := by
  subst h1 h2
  exact h
theorem run_low_rc (w : World) (t e : TypeId) (ad : Option Addr) (n c l : Nat) (kl : IntKind) (li : Int) (hli : li = (l : Int)) (ht : P.underlying t = some (.slice e)) (hs : (P.info? e).map (·.size) = some 1) (h1 : l ≤ n) :
    (Instr.sliceAt t (.slice ad n c) (some (.int kl li)) none none).run P w = .ok (.slice (if c = l then ad else ad.map (·.add (l * 1))) (n - l) (c - l)) w := by
  subst hli
  cases hq : P.info? e with
  | none => simp [hq] at hs
  | some i =>
    have hs1 : i.size = 1 := by simpa [hq] using hs
    have h3 : (l : Int) ≤ (n : Int) := by omega
    have h4 : (0 : Int) ≤ (l : Int) := by omega
    simp [Instr.sliceAt, Instr.slice, run_underlying ht, Instr.sliceBounds, run_sliceBound, h3, h4, sizeOf, typeInfo, hq, hs1]
theorem run_hm_rc (w : World) (t e : TypeId) (ad : Option Addr) (n c k : Nat) (k1 k2 : IntKind) (ht : P.underlying t = some (.slice e)) (hs : (P.info? e).map (·.size) = some 1) (h1 : k ≤ n) (h2 : n ≤ c) (had : ∃ b off, ad = some ⟨b, off, none⟩) :
    (Instr.sliceAt t (.slice ad n c) none (some (.int k1 (k : Int))) (some (.int k2 (k : Int)))).run P w = .ok (.slice ad k k) w := by
  obtain ⟨b, off, rfl⟩ := had
  cases hq : P.info? e with
  | none => simp [hq] at hs
  | some i =>
    have hs1 : i.size = 1 := by simpa [hq] using hs
    have h3 : (k : Int) ≤ (c : Int) := by omega
    have h4 : (0 : Int) ≤ (k : Int) := by omega
    simp [Instr.sliceAt, Instr.slice, run_underlying ht, Instr.sliceBounds, run_sliceBound, h3, h4, sizeOf, typeInfo, hq, Addr.add]
theorem quiet_slice_v3 {S : World → Prop} {Q' : Act → Prop} (hg : Region.wanted o (yielded ops a.tmps) = true) (t : TypeId) (x : Operand) (lo hi mx : Option Operand) (ho : o.op = .slice t x lo hi mx) (xv : Value) (hx : a.eval x = xv) (lv hv mv : Option Value) (hlo : lo.map a.eval = lv) (hhi : hi.map a.eval = hv) (hmx : mx.map a.eval = mv) (v : Value)
    (hr : ∀ w, S w → (Instr.sliceAt t xv lv hv mv).run P w = .ok v w) (h : wpQuiet P ops S Q' rest (a.put o.dst v)) : wpQuiet P ops S Q' (o :: rest) a := by
  refine wpQuiet_step fun K hK => ?_
  rw [if_pos hg]
  refine ⟨v, fun w hC => ?_, hK _ h⟩
  unfold Oper.quietAt execOp
  simp only [ho, hx, hlo, hhi, hmx, Sem.run_bind, Sem.run_pure, Result.andThen_ok, hr w hC]
  exact ⟨rfl, rfl⟩
theorem wpList_slice_v (hg : o.guard = none) (t : TypeId) (x : Operand) (lo hi mx : Option Operand) (ho : o.op = .slice t x lo hi mx) (xv : Value) (hx : a.eval x = xv) (lv hv mv : Option Value) (hlo : lo.map a.eval = lv) (hhi : hi.map a.eval = hv) (hmx : mx.map a.eval = mv) (v : Value)
    (hr : (Instr.sliceAt t xv lv hv mv).run P w = .ok v w) (h : wpList P ops Q rest (a.put o.dst v) w) : wpList P ops Q (o :: rest) a w :=
  wpList_plain hg fun K hk => by
    unfold Oper.wp execOp
    simp only [ho, hx, hlo, hhi, hmx, Sem.run_bind, Sem.run_pure, Result.andThen_ok, hr]
    exact hk _ _ h
end
end Go.Xr
