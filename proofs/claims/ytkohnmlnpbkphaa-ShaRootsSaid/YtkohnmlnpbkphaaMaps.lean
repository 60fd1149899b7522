/- Maps keyed by strings that the call made: what they hold, as a function. -/
import Derived.Test.YtkohnmlnpbkphaaGCore
import Derived.Maps.OwnSet
namespace Go.Xr
open Go Go.Maps
set_option linter.unusedVariables false
def kls (s : ByteArray) : Lit := .string s.data.toList
theorem kls_ne {s t : ByteArray} (h : t ≠ s) : kls t ≠ kls s := by
  intro e
  unfold kls at e
  have h1 : t.data.toList = s.data.toList := by simpa using e
  exact h (ByteArray.ext (Array.ext' h1))
/-- How elements read, and that they read apart. -/
structure ElOk {α : Type} (P : Program) (e : TypeId) (enc : α → Value) (dat : α → DataW Unit) (good : α → Prop) : Prop where
  fwd : ∀ a, good a → plainElem P e (enc a) = some (dat a, [])
  back : ∀ a v ps, good a → plainElem P e v = some (dat a, ps) → v = enc a
theorem el_str {P : Program} {e : TypeId} (he : P.underlying e = some .string) : ElOk P e Value.string (fun s => .lit (.string s.data.toList)) (fun s => s.size ≤ maxLen) where
  fwd a h := plainElem_string he h
  back a v ps h hv := by
    unfold plainElem at hv
    rw [he] at hv
    cases v <;> simp at hv
    rename_i s
    obtain ⟨_, h2, _⟩ := hv
    exact congrArg Value.string (ByteArray.ext h2)
theorem el_bool {P : Program} {e : TypeId} (he : P.underlying e = some .bool) : ElOk P e Value.bool (fun s => .lit (.bool s)) (fun _ => True) where
  fwd a h := plainElem_bool he a
  back a v ps h hv := by
    unfold plainElem at hv
    rw [he] at hv
    cases v <;> simp at hv
    exact congrArg Value.bool hv.1
theorem el_int {P : Program} {e : TypeId} (he : P.underlying e = some (.int .i64)) : ElOk P e (Value.int .i64) (fun s => .lit (.int .i64 s)) (fun n => (Lit.int .i64 n).wf = true) where
  fwd a h := plainElem_int he h
  back a v ps h hv := by
    obtain ⟨c, rfl, hz, _⟩ := plainElem_int_inv he hv
    simp at hz
    rw [hz.1]
section
variable {α : Type} {P : Program} {t k e : TypeId} {enc : α → Value} {dat : α → DataW Unit} {good : α → Prop} {w w' : World} {b n : Nat} {f : ByteArray → Option α}
/-- Block b is a map of n entries that holds f. -/
def MapF (P : Program) (k e : TypeId) (dat : α → DataW Unit) (w : World) (b n : Nat) (f : ByteArray → Option α) : Prop :=
  ∃ D : DataW Unit, w.ownsMap P k (plainElem P e) b n D ∧ Maps.size D = n ∧ ∀ s : ByteArray, s.size ≤ maxLen → Maps.has D (kls s) = (f s).isSome ∧ ∀ z, D.atKey (kls s) z = ((f s).map dat).getD z
theorem MapF.lt (h : MapF P k e dat w b n f) : b < w.heap.size := by
  obtain ⟨D, h1, _⟩ := h
  exact h1.lt
theorem MapF.keep (h : MapF P k e dat w b n f) {S : List Nat} (g : Fr S w w') (hb : b ∉ S) : MapF P k e dat w' b n f := by
  have hlt := h.lt
  obtain ⟨D, ⟨es, clock, h1, F, h2, h3⟩, h4, h5⟩ := h
  exact ⟨D, ⟨es, clock, (g.block b hlt hb).trans h1, F, h2, h3⟩, h4, h5⟩
theorem MapF.drew (h : MapF P k e dat w b n f) : MapF P k e dat w.drew b n f := h
theorem MapF.made (w : World) : MapF P k e dat (w.alloc (.map #[] 0)) w.heap.size 0 (fun _ => none) :=
  ⟨.map [], World.ownsMap_made w P k _, rfl, fun s _ => ⟨rfl, fun z => rfl⟩⟩
theorem keyS {s : ByteArray} (hk : P.underlying k = some .string) (hs : s.size ≤ maxLen) : keyOf P k (.string s) = some (kls s) := WideMaps.keyOf_string_mk hk hs
theorem MapF.get_ok (h : MapF P k e dat w b n f) (E : ElOk P e enc dat good) (hk : P.underlying k = some .string) (ht : P.underlying t = some (.map k e)) {z : α} (hz : (zeroValue e).run P w = .ok (enc z) w) (hgz : good z) (hg : ∀ s a, f s = some a → good a) (s : ByteArray) (hs : s.size ≤ maxLen) :
    (Instr.lookup t (.map (some b)) (.string s) true).run P w = .ok (.tuple #[enc ((f s).getD z), .bool (f s).isSome]) w := by
  obtain ⟨D, h1, _, h3⟩ := h
  obtain ⟨v, ps, hrun, hv⟩ := h1.look_ok (string_keyed hk) ht hz (E.fwd z hgz) (keyS hk hs)
  obtain ⟨h4, h5⟩ := h3 s hs
  rw [h4] at hrun
  rw [h5] at hv
  have h6 : ((f s).map dat).getD (dat z) = dat ((f s).getD z) := by cases f s <;> rfl
  have h7 : good ((f s).getD z) := by
    cases hf : f s with
    | none => exact hgz
    | some a => exact hg s a hf
  rw [h6] at hv
  rw [hrun, E.back _ v ps h7 hv]
theorem MapF.get (h : MapF P k e dat w b n f) (E : ElOk P e enc dat good) (hk : P.underlying k = some .string) (ht : P.underlying t = some (.map k e)) {z : α} (hz : (zeroValue e).run P w = .ok (enc z) w) (hgz : good z) (hg : ∀ s a, f s = some a → good a) (s : ByteArray) (hs : s.size ≤ maxLen) :
    (Instr.lookup t (.map (some b)) (.string s) false).run P w = .ok (enc ((f s).getD z)) w := by
  obtain ⟨D, h1, _, h3⟩ := h
  obtain ⟨v, ps, hrun, hv⟩ := h1.lookup (string_keyed hk) ht hz (E.fwd z hgz) (keyS hk hs)
  obtain ⟨h4, h5⟩ := h3 s hs
  rw [h5] at hv
  have h6 : ((f s).map dat).getD (dat z) = dat ((f s).getD z) := by cases f s <;> rfl
  have h7 : good ((f s).getD z) := by
    cases hf : f s with
    | none => exact hgz
    | some a => exact hg s a hf
  rw [h6] at hv
  rw [hrun, E.back _ v ps h7 hv]
theorem MapF.len (h : MapF P k e dat w b n f) (ht : P.underlying t = some (.map k e)) (ty : TypeId) : (Builtin.len_ #[t] ty #[.map (some b)]).run P w = .ok (.int .i64 (n : Int)) w := by
  obtain ⟨D, h1, h2, _⟩ := h
  rw [h1.len ht ty, h2]
theorem tight {D : DataW Unit} {R : Value → Option (DataW Unit × List MemPlace)} {m : Nat} (h : w.ownsMap P k R b m D) : w.ownsMap P k R b (Maps.size D) D := by
  obtain ⟨es, clock, h1, F, h2, rfl⟩ := h
  refine ⟨es, clock, h1, F, ?_, rfl⟩
  have e1 : Maps.size (DataW.map ((es.toList.map (WideElems.rg P k R)).foldr DataW.insert [])) = es.size := by simp [Maps.size, length_sorted]
  rw [e1]
  exact Nat.le_refl _
theorem MapF.put (h : MapF P k e dat w b n f) (E : ElOk P e enc dat good) (hk : P.underlying k = some .string) (ht : P.underlying t = some (.map k e)) (hn : n < maxLen) (s : ByteArray) (hs : s.size ≤ maxLen) (a : α) (ha : good a) :
    ∃ w', (Instr.mapUpdate t (.map (some b)) (.string s) (enc a)).run P w = .ok () w' ∧ MapF P k e dat w' b (if (f s).isSome then n else n + 1) (fun x => if x = s then some a else f x) ∧ Fr [b] w w' := by
  obtain ⟨D, h1, h2, h3⟩ := h
  obtain ⟨w', hrun, h4, h5⟩ := h1.store (string_keyed hk) ht hn (keyS hk hs) (E.fwd a ha)
  have hT := h1.tidy (string_keyed hk)
  have hM := h1.isMap
  have hS := size_put (k := kls s) hT (dat a)
  rw [(h3 s hs).1, h2] at hS
  refine ⟨w', hrun, ⟨_, ?_, hS, fun x hx => ?_⟩, Fr.of_grown h5.grown⟩
  · have := tight h4
    rw [hS] at this
    exact this
  · by_cases hxs : x = s
    · subst hxs
      refine ⟨?_, fun z => ?_⟩
      · rw [has_put_same hM (show WideAt.IsKeyLit (kls x) from trivial)]
        simp
      · rw [atKey_put_same hM (show WideAt.IsKeyLit (kls x) from trivial)]
        simp
    · refine ⟨?_, fun z => ?_⟩
      · rw [has_put_other (kls_ne hxs), (h3 x hx).1]
        simp [hxs]
      · rw [atKey_put_other (kls_ne hxs), (h3 x hx).2 z]
        simp [hxs]
section
variable {ops : Array Oper} {Q : Exit → Act → World → Prop} {a : Act} {rest : List Oper} {o : Oper}
theorem wpList_map_ok (hg : o.guard = none) (m x : Operand) (t : TypeId) (ho : o.op = .lookup t m x true) {b : Nat} (hm : a.eval m = .map (some b)) {s : ByteArray} (hx : a.eval x = .string s) {v : Value} (hr : (Instr.lookup t (.map (some b)) (.string s) true).run P w = .ok v w)
    (h : wpList P ops Q rest (a.put o.dst v) w) : wpList P ops Q (o :: rest) a w :=
  wpList_plain hg fun K hK => by
    unfold Oper.wp
    simp [execOp, ho, hm, hx, hr, Result.andThen]
    exact hK _ _ h
theorem wpList_map_get (hg : o.guard = none) (m x : Operand) (t : TypeId) (ho : o.op = .lookup t m x false) {b : Nat} (hm : a.eval m = .map (some b)) {s : ByteArray} (hx : a.eval x = .string s) {v : Value} (hr : (Instr.lookup t (.map (some b)) (.string s) false).run P w = .ok v w)
    (h : wpList P ops Q rest (a.put o.dst v) w) : wpList P ops Q (o :: rest) a w :=
  wpList_plain hg fun K hK => by
    unfold Oper.wp
    simp [execOp, ho, hm, hx, hr, Result.andThen]
    exact hK _ _ h
theorem wpList_map_put (hg : o.guard = none) (m x v : Operand) (t : TypeId) (ho : o.op = .mapUpdate t m x v) {b n : Nat} (hm : a.eval m = .map (some b)) {s : ByteArray} (hx : a.eval x = .string s) (c : α) (hv : a.eval v = enc c)
    (hM : MapF P k e dat w b n f) (E : ElOk P e enc dat good) (hk : P.underlying k = some .string) (ht : P.underlying t = some (.map k e)) (hn : n < maxLen) (hs : s.size ≤ maxLen) (hc : good c)
    (h : ∀ w', MapF P k e dat w' b (if (f s).isSome then n else n + 1) (fun x => if x = s then some c else f x) → Fr [b] w w' → wpList P ops Q rest (a.put o.dst undef) w') : wpList P ops Q (o :: rest) a w :=
  wpList_plain hg fun K hK => by
    obtain ⟨w', hrun, h1, h2⟩ := hM.put E hk ht hn s hs c hc
    unfold Oper.wp
    simp [execOp, ho, hm, hx, hv, hrun, Result.andThen]
    exact hK _ _ (h w' h1 h2)
theorem wpList_map_len (hg : o.guard = none) (m : Operand) (t : TypeId) (ho : o.op = .call { callee := .builtin .len, args := #[m], argTypes := #[t] }) {b n : Nat} (hm : a.eval m = .map (some b)) (hM : MapF P k e dat w b n f) (ht : P.underlying t = some (.map k e))
    (h : wpList P ops Q rest (a.put o.dst (.int .i64 (n : Int))) w) : wpList P ops Q (o :: rest) a w :=
  wpList_plain hg fun K hK => by
    unfold Oper.wp execOp
    simp [ho, resolve, invoke, builtin, hm, hM.len ht, Result.andThen]
    exact hK _ _ h
end
end
end Go.Xr
