/- '[]T{}': an empty row; a part that isn't there yet. -/
import Derived.Test.YtflapddkeeiieaaThree
import Derived.Test.YtflapddkeeiieaaAppR
import Derived.Test.YtflapddkeeiieaaEv
namespace Go.Xr
open Go Go.RowKit
set_option linter.unusedVariables false
section
variable {P : Program} {ops : Array Oper} {Q : Exit → Act → World → Prop} {a : Act} {w : World} {rest : List Oper} {o : Oper}
theorem run_buildSlice_0 (w : World) (t e : TypeId) (i : TypeInfo) (ht : P.underlying t = some (.slice e)) (hi : P.info? e = some i) :
    (Instr.buildSlice t 0 #[]).run P w = .ok (.slice (some ⟨w.heap.size, 0, none⟩) 0 0) (w.alloc (.cells #[] e)) := by
  simp [Instr.buildSlice, run_underlying ht, sizeOf, typeInfo, hi, newRow, Instr.fill]
  rw [Array.eq_empty_of_size_eq_zero (xs := Array.map (fun x => (default : Value)) (Array.range 0)) (by simp)]
theorem wpList_buildSlice_0 (hg : o.guard = none) (t : TypeId) (ho : o.op = .buildSlice t 0 #[]) (e : TypeId) (i : TypeInfo) (size : Nat) (ht : P.underlying t = some (.slice e)) (hi : P.info? e = some i)
    (h : ∀ w', Fr [] w w' → w.heap.size < w'.heap.size → Xr.Own w' size (.slice (some ⟨w.heap.size, 0, none⟩) 0 0) 0 [] (some w.heap.size) → wpList P ops Q rest (a.put o.dst (.slice (some ⟨w.heap.size, 0, none⟩) 0 0)) w') : wpList P ops Q (o :: rest) a w := by
  refine wpList_plain hg fun _ hK => ?_
  have hr := run_buildSlice_0 (P := P) w t e i ht hi
  unfold Oper.wp execOp
  simp only [ho, List.map_toArray, List.map_nil, Sem.run_bind, Sem.run_pure]
  rw [hr]
  have ho2 := (Xr.Own.blk (n := 0) (cap := 0) (size := size) (cs := []) (Blk.alloc w [] e) (Nat.le_refl _) (by unfold maxLen; decide) (by simp))
  rw [List.take_nil] at ho2
  exact hK _ _ (h _ ((Fr.refl [] w).alloc _) (by simp) ho2)
end
def Res.nil : Res := ⟨[], fun _ => True⟩
theorem Res.nil_on (w : World) : Res.On Res.nil w := Res.On.mk (fun _ _ _ _ => trivial) trivial (fun b hb => by cases hb) List.nodup_nil
/-- Three things that are not there yet. -/
theorem Ev.nil3 (w : World) : Ev w [] w [Res.nil, Res.nil, Res.nil] := by
  refine ⟨⟨?_, ?_, ?_, by simp [Res.nil]⟩, Fr.refl _ _, fun b hb => by simp [feetOf, Res.nil] at hb⟩
  all_goals
    intro r hr
    have hr : r = Res.nil := by simpa using hr
    subst hr
  · exact fun _ _ _ _ => trivial
  · trivial
  · intro b hb
    cases hb
/-- One that wasn't there is made. -/
theorem Ev.made {w w1 w2 : World} {rs rs1 : List Res} {r' : Res} (a : Ev w rs w1 rs1) (k : Nat) (hk : rs1[k]? = some Res.nil) (f : Fr [] w1 w2) (hr : r'.On w2) (hn : ∀ b ∈ r'.F, w1.heap.size ≤ b) : Ev w rs w2 (rs1.set k r') :=
  a.at k hk f (by simp) hr (fun b hb => .inr (hn b hb))
section
variable {P : Program} {ops : Array Oper} {Q : Exit → Act → World → Prop} {a : Act} {w w0 : World} {o : Oper} {last : Bool} {qs done : List Nat} {rs : List Res}
/-- In a region whose orders are many: an empty row is made beside what there is. -/
theorem after_build (k i : Nat) (e : Ev w0 [] w rs) (hk : rs[k]? = some Res.nil) (hg : o.guard = none) (t : TypeId) (ho : o.op = .buildSlice t 0 #[]) (el : TypeId) (inf : TypeInfo) (size : Nat) (ht : P.underlying t = some (.slice el)) (hi : P.info? el = some inf) (he : effB ops qs i = true)
    (h : ∀ w' b, Ev w0 [] w' (rs.set k (Res.own size (.slice (some ⟨b, 0, none⟩) 0 0) 0 [] (some b))) → WD P ops Q (fun w' => Fr [] w0 w') last qs (done ++ [i]) (a.put o.dst (.slice (some ⟨b, 0, none⟩) 0 0)) w') :
    wpList P ops (AfterD P ops Q (fun w' => Fr [] w0 w') last qs done i w) [o] a w := by
  refine wpList_buildSlice_0 hg t ho el inf size ht hi fun w' f _ ho' => wpList_nil ?_
  have e' := e.made k hk f (Res.On.own ho') (fun b hb => by simp [Res.own] at hb; omega)
  exact AfterD.on e'.fr he (h w' _ e')
/-- .. and a row is appended to it. -/
theorem after_append (k i : Nat) {size : Nat} {b : Nat} (e : Ev w0 [] w rs) (hk : rs[k]? = some (Res.own size (.slice (some ⟨b, 0, none⟩) 0 0) 0 [] (some b))) (hg : o.guard = none) (s x : Operand) (t : TypeId) (ho : o.op = .call { callee := .builtin .append, args := #[s, x], argTypes := #[t, t] })
    (el : TypeId) (inf : TypeInfo) (z : Value) (bytes : Nat) (ht : P.underlying t = some (.slice el)) (hi : P.info? el = some inf) (hz : inf.zero = some z)
    (hsize : inf.size = size) (hby : inf.bytes = bytes) (hzs : z.cells.size = size) (hsz : 0 < size) (hs : a.eval s = .slice (some ⟨b, 0, none⟩) 0 0)
    {u : Value} {m : Nat} {news : List Value} {XB : Option Nat} (hx : a.eval x = u) (hr : ∀ w', Fr [] w0 w' → Rc w' size u m news XB) (h1 : ∀ u ∈ news, u.oneCell' = true)
    (h63 : m ≤ maxLen) (hbytes : m * bytes ≤ 140737488355328) (he : effB ops qs i = true)
    (h : ∀ w' v B, Ev w0 [] w' (rs.set k (Res.own size v m news B)) → WD P ops Q (fun w' => Fr [] w0 w') last qs (done ++ [i]) (a.put o.dst v) w') :
    wpList P ops (AfterD P ops Q (fun w' => Fr [] w0 w') last qs done i w) [o] a w := by
  refine wpList_append_rc hg s x t ho el inf z size bytes ht hi hz hsize hby hzs hsz hs (e.held.ownAt k hk) hx (hr w e.fr) h1 (by omega) (by rw [Nat.zero_add]; exact hbytes) fun v w' B ho' f hB => wpList_nil ?_
  rw [Nat.zero_add, List.nil_append] at ho'
  have e' := e.at k hk f (fun b hb => .inl hb) (Res.On.own ho') (fun b hb => by
    rcases hB with rfl | ⟨b', rfl, hge⟩
    · exact .inl hb
    · simp [Res.own] at hb
      exact .inr (by omega))
  exact AfterD.on e'.fr he (h w' v B e')
end
end Go.Xr
