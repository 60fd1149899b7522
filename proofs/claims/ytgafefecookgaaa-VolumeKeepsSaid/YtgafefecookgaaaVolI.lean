/- Layer 8: a volume in memory as one thing. -/
import Derived.Test.YtgafefecookgaaaVolH
namespace Go.Proofs.Ytgafefecookgaaa
open Go Go.Xr Go.RowKit
set_option linter.unusedVariables false
set_option linter.unusedSimpArgs false
/-- What of a volume stays: its block, the row of its mirrors, their blocks and disks, the sectors of each. -/
structure VX where
  vb : Nat
  rb : Nat
  v : Value
  ms : List Nat
  ds : List (Bool → Nat)
  e : Nat
/-- A volume in memory, beside l: its mirrors are Ms, so many writes were done. -/
def VA (w0 : World) (rs : List Res) (w : World) (l : List Res) (X : VX) (Ms : List MS) (wr : Int) : Prop :=
  ∃ ps : List VP, ps.map VP.m = X.ms ∧ ps.map VP.d = X.ds ∧ ps.map VP.M = Ms ∧ Ev w0 rs w (l ++ (volR X.vb X.rb X.v X.ms (X.e : Int) wr ++ vpsC ps))
theorem set_same {α : Type} (l : List α) (k : Nat) (x : α) (h : l[k]? = some x) : l.set k x = l := by
  refine List.ext_getElem? fun j => ?_
  by_cases e : j = k
  · subst e
    rw [List.getElem?_set_self (List.getElem?_eq_some_iff.1 h).1, h]
  · rw [List.getElem?_set_ne (fun x => e x.symm)]
section
variable {w w' w0 : World} {l rs : List Res} {X : VX} {Ms : List MS} {wr : Int} {k : Nat} {M : MS} {r r' : Res} {S : List Nat}
theorem VA.step (h : VA w0 rs w l X Ms wr) (f : Fr [] w w') : VA w0 rs w' l X Ms wr := by
  obtain ⟨ps, h1, h2, h3, ev⟩ := h
  exact ⟨ps, h1, h2, h3, ev.step f⟩
theorem VA.fr (h : VA w0 [] w l X Ms wr) : Fr [] w0 w := by
  obtain ⟨ps, h1, h2, h3, ev⟩ := h
  exact ev.nil
theorem VA.len (h : VA w0 rs w l X Ms wr) : Ms.length = X.ms.length ∧ X.ds.length = X.ms.length := by
  obtain ⟨ps, h1, h2, h3, ev⟩ := h
  rw [← h1, ← h2, ← h3]
  simp
theorem VA.blk (h : VA w0 rs w l X Ms wr) : Blk w X.vb [X.v, .int .i64 (X.e : Int), .int .i64 wr] := by
  obtain ⟨ps, h1, h2, h3, ev⟩ := h
  exact ev.held.blkAt l.length (by simp [volR])
theorem VA.own (h : VA w0 rs w l X Ms wr) : Xr.Own w 1 X.v X.ms.length (X.ms.map fun m => pv (some m)) (some X.rb) := by
  obtain ⟨ps, h1, h2, h3, ev⟩ := h
  exact ev.held.ownAt (l.length + 1) (by simp [volR])
/-- One mirror, taken out; it may go on. -/
theorem VA.mir (h : VA w0 rs w l X Ms wr) (hk : Ms[k]? = some M) : ∃ (m : Nat) (d : Bool → Nat) (FF : Bool → List Nat) (l' : List Res), X.ms[k]? = some m ∧ X.ds[k]? = some d ∧ Held w (l' ++ mirC [] m d FF M) ∧
    ∀ (w' : World) (FF' : Bool → List Nat) (M' : MS), Ev w (l' ++ mirC [] m d FF M) w' (l' ++ mirC [] m d FF' M') → VA w0 rs w' l X (Ms.set k M') wr := by
  obtain ⟨ps, h1, h2, h3, ev⟩ := h
  obtain ⟨p, hp, rfl⟩ : ∃ p, ps[k]? = some p ∧ p.M = M := by
    rw [← h3, List.getElem?_map] at hk
    exact Option.map_eq_some_iff.1 hk
  have ev1 : Ev w0 rs w ((l ++ volR X.vb X.rb X.v X.ms (X.e : Int) wr) ++ vpsC ps) := by rw [List.append_assoc]; exact ev
  have em : X.ms[k]? = some p.m := by rw [← h1, List.getElem?_map, hp]; rfl
  have ed : X.ds[k]? = some p.d := by rw [← h2, List.getElem?_map, hp]; rfl
  refine ⟨p.m, p.d, p.FF, (l ++ volR X.vb X.rb X.v X.ms (X.e : Int) wr) ++ vpsC (ps.eraseIdx k), em, ed, vps_held ev1.held hp, fun w' FF' M' e => ⟨ps.set k ⟨p.m, p.d, FF', M'⟩, ?_, ?_, ?_, ?_⟩⟩
  · rw [List.map_set, h1]
    exact set_same _ _ _ em
  · rw [List.map_set, h2]
    exact set_same _ _ _ ed
  · rw [List.map_set, h3]
  · have := ev1.trans (vps_ev ev1.held hp e)
    rw [List.append_assoc] at this
    exact this
/-- The volume's own cells are written. -/
theorem VA.put (h : VA w0 rs w l X Ms wr) {wr' : Int} (f : Fr [X.vb] w w') (hb : Blk w' X.vb [X.v, .int .i64 (X.e : Int), .int .i64 wr']) : VA w0 rs w' l X Ms wr' := by
  obtain ⟨ps, h1, h2, h3, ev⟩ := h
  refine ⟨ps, h1, h2, h3, ?_⟩
  have := ev.at l.length (r := Res.blk X.vb [X.v, .int .i64 (X.e : Int), .int .i64 wr]) (by simp [volR]) f (fun b hb => .inl hb) (Res.On.blk hb) (fun b hb => .inl hb)
  rw [List.set_append_right _ _ (Nat.le_refl _), Nat.sub_self] at this
  exact this
theorem VA.ctx (h : VA w0 rs w l X Ms wr) (i : Nat) (hi : l[i]? = some r) (f : Fr S w w') (hS : ∀ b ∈ S, b ∈ r.F ∨ w.heap.size ≤ b) (hr : r'.On w') (hn : ∀ b ∈ r'.F, b ∈ r.F ∨ w.heap.size ≤ b) : VA w0 rs w' (l.set i r') X Ms wr := by
  obtain ⟨ps, h1, h2, h3, ev⟩ := h
  have hlt := (List.getElem?_eq_some_iff.1 hi).1
  refine ⟨ps, h1, h2, h3, ?_⟩
  have := ev.at i (by rw [List.getElem?_append_left hlt]; exact hi) f hS hr hn
  rw [List.set_append_left _ _ hlt] at this
  exact this
theorem VA.new (h : VA w0 rs w l X Ms wr) (f : Fr [] w w') (hr : r.On w') (hn : ∀ b ∈ r.F, w.heap.size ≤ b) : VA w0 rs w' (r :: l) X Ms wr := by
  obtain ⟨ps, h1, h2, h3, ev⟩ := h
  exact ⟨ps, h1, h2, h3, ev.new f hr hn⟩
theorem VA.less (h : VA w0 rs w (r :: l) X Ms wr) : VA w0 rs w l X Ms wr := by
  obtain ⟨ps, h1, h2, h3, ev⟩ := h
  exact ⟨ps, h1, h2, h3, Ev.less [] _ ev⟩
theorem VA.held (h : VA w0 rs w l X Ms wr) : Held w l := by
  obtain ⟨ps, h1, h2, h3, ev⟩ := h
  exact Held.part [] (volR X.vb X.rb X.v X.ms (X.e : Int) wr ++ vpsC ps) (by simpa using ev.held)
/-- The volume and its mirrors are let go; the disks are left. -/
theorem VA.drop (h : VA w0 rs w l X Ms wr) : ∃ ss : List VS, ss.map VS.d = X.ds ∧ ss.map VS.s = Ms.map MS.s ∧ Ev w0 rs w (l ++ vssC ss) := by
  obtain ⟨ps, h1, h2, h3, ev⟩ := h
  refine ⟨ps.map VP.vs, ?_, ?_, vps_drop ps l (Ev.less l _ (Ev.less l _ ev))⟩
  · rw [← h2, List.map_map]
    rfl
  · rw [← h3, List.map_map, List.map_map]
    rfl
theorem VA.made {w1 : World} {ss : List VS} {ps : List VP} {vb rb : Nat} {v : Value} {e : Nat} (ev : Ev w0 rs w (l ++ vssC ss)) (ev1 : Ev w (l ++ vssC ss) w1 (volR vb rb v (ps.map VP.m) (e : Int) 0 ++ (l ++ vpsC ps))) : VA w0 rs w1 l ⟨vb, rb, v, ps.map VP.m, ps.map VP.d, e⟩ (ps.map VP.M) 0 := by
  refine ⟨ps, rfl, rfl, rfl, Ev.perm (ev.trans ev1) ?_⟩
  rw [← List.append_assoc, ← List.append_assoc]
  exact List.perm_append_comm.append_right _
structure VOk (X : VX) : Prop where
  h1 : 1 ≤ X.ms.length
  h8 : X.ms.length ≤ 8
  he : X.e ≤ 16384
theorem VA.shape (h : VA w0 rs w l X Ms wr) (o : VOk X) : ∃ c, X.v = .slice (some ⟨X.rb, 0, none⟩) X.ms.length c ∧ X.ms.length ≤ c ∧ c ≤ maxLen ∧ Blk w X.vb (volL (some ⟨X.rb, 0, none⟩) X.ms.length c X.e wr) ∧ ∀ (k m : Nat), X.ms[k]? = some m → w.cell? ⟨X.rb, k, none⟩ = some (.pointer (some ⟨m, 0, none⟩)) := by
  have hb := h.blk
  have ho := h.own
  rcases ho.shape with ⟨h0, _⟩ | ⟨b, c, hb1, hv, h2, h3⟩
  · have := o.h1; omega
  · obtain rfl : X.rb = b := by simpa using hb1
    refine ⟨c, hv, h2, h3, by rw [hv] at hb; exact hb, fun k m hk => ?_⟩
    have hlt : k < X.ms.length := (List.getElem?_eq_some_iff.1 hk).1
    obtain ⟨b, off, c2, hB, hv2, _, _, _, h4⟩ := (ho.rd.rc).some (by omega)
    rw [hv] at hv2
    obtain ⟨⟨rfl, rfl⟩, _⟩ : (X.rb = b ∧ 0 = off) ∧ X.ms.length = X.ms.length ∧ c = c2 := by simpa using hv2
    have := h4 k (by simpa using hlt)
    rw [Nat.zero_add] at this
    rw [this, List.getElem?_map, hk]
    rfl
end
end Go.Proofs.Ytgafefecookgaaa
