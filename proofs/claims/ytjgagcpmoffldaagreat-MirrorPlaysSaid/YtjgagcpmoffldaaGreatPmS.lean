/- Layer 7 (great seat): what MirrorPlays wants besides: the two disks change places; new disks; a crash of both. -/
import Derived.Test.YtjgagcpmoffldaaGreatPmR
namespace Go.Proofs.YtjgagcpmoffldaaGreat
open Go Go.Xr Go.RowKit
set_option linter.unusedVariables false
set_option linter.unusedSimpArgs false
section
variable {P : Program} {ops : Array Oper} {Q : Exit → Act → World → Prop} {a : Act} {w : World} {K : Act → World → Prop} {rest : List Oper} {o : Oper}
theorem wpList_load_agW (hg : Region.wanted o (yielded ops a.tmps) = true) (ty : TypeId) (x : Operand) (ho : o.op = .load ty x) {b off : Nat} (hx : a.eval x = .pointer (some ⟨b, off, none⟩)) {cs : List Value} (vs : List Value)
    (hb : Blk w b cs) {n : Nat} (hT : AggT P ty n) (hn : vs.length = n) (hv : (cs.drop off).take n = vs)
    (h : wpList P ops Q rest (a.put o.dst (.agg vs.toArray)) w) : wpList P ops Q (o :: rest) a w := by
  obtain ⟨d, hu, hd, hs⟩ := hT
  exact wpList_step fun K hK => by
    rw [if_pos hg]
    exact wp_load_agg ty x ho hx vs hb d hu hd (by rw [hs, hn]) (by rw [hn]; exact hv) (hK _ _ h)
end
set_option maxRecDepth 20000 in
theorem arrD : AggT Tryz.prog 25 2 := ⟨_, Tryz.underlying25, rfl, rfl⟩
set_option maxRecDepth 20000 in
theorem arrX : AggT Tryz.prog 27 2 := ⟨_, Tryz.underlying27, rfl, rfl⟩
set_option maxRecDepth 20000 in
theorem stepQ7 : AggT Tryz.prog 43 6 := ⟨_, Tryz.underlying43, rfl, rfl⟩
set_option maxRecDepth 20000 in
theorem pinf4 : ∃ i, Tryz.prog.info? 4 = some i ∧ i.zero = some (.bool false) ∧ i.size = 1 ∧ i.bytes = 1 := ⟨_, rfl, rfl, rfl, rfl⟩
theorem StOk7.keep {w w' : World} {a : Step7} (h : StOk7 w a) (f : Fr [] w w') : StOk7 w' a := ⟨h.d1, h.d2, h.i1, h.i2, h.k1, h.k2, h.t, h.k.keep f (by simp), h.kl⟩
def Sys.swp (s : Sys) : Sys := ⟨s.X1, s.X0, s.k1, s.k0, s.L⟩
theorem swp_X (s : Sys) (b : Bool) : s.swp.X b = s.X (!b) := by cases b <;> rfl
theorem swp_k (s : Sys) (b : Bool) : s.swp.k b = s.k (!b) := by cases b <;> rfl
theorem swp_ok {s : Sys} (ok : SysOk s) : SysOk s.swp := ⟨fun b => by rw [swp_X]; exact ok.g _, fun b j hj => by rw [swp_k] at hj; exact ok.k _ j hj⟩
theorem swp_T (s : Sys) : s.swp.T ≤ s.T := by unfold Sys.T Sys.swp; simp; omega
theorem swp_len (s : Sys) (b : Bool) : s.swp.len b = s.len (!b) := by unfold Sys.len; rw [swp_X]
theorem perm8 {α : Type} (a b c d e f g h : α) : [a, b, c, d, e, f, g, h].Perm [g, h, b, f, d, a, e, c] := by
  have p : [0, 1, 2, 3, 4, 5, 6, 7].Perm [6, 7, 1, 5, 3, 0, 4, 2] := by decide
  exact p.map fun i => [a, b, c, d, e, f, g, h].getD i a
section
variable {w w' w0 : World} {l rs rs1 lb C D : List Res} {pbs qbs : List Nat} {m y db ib : Nat} {s : Sys} {d x : Bool → Nat} {FF GG : Bool → List Nat} {N : MO}
theorem swap_ev (e : Ev w0 rs w (lb ++ sysC pbs s d FF ++ sysX qbs s x GG)) : ∃ (d' x' : Bool → Nat) (FF' GG' : Bool → List Nat), d' false = d true ∧ d' true = d false ∧ x' false = x true ∧ x' true = x false ∧ Ev w0 rs w (lb ++ sysC pbs s.swp d' FF' ++ sysX qbs s.swp x' GG') := by
  refine ⟨fun b => d (!b), fun b => x (!b), fun b => FF (!b), fun b => GG (!b), rfl, rfl, rfl, rfl, Ev.perm e ?_⟩
  have p1 : (sysC pbs s d FF).Perm (sysC pbs s.swp (fun b => d (!b)) (fun b => FF (!b))) := List.Perm.cons _ (List.Perm.swap _ _ _)
  have p2 : (sysX qbs s x GG).Perm (sysX qbs s.swp (fun b => x (!b)) (fun b => GG (!b))) := List.Perm.cons _ (List.Perm.swap _ _ _)
  exact (p1.append_left lb).append p2
theorem ffC_mem (b : Bool) {y : Nat} (h : y ∈ FF b) : y ∈ feetOf (sysC pbs s d FF) := by
  refine List.mem_flatMap.2 ⟨dk (d b) (s.X b) pbs (s.k b) (FF b), ?_, h⟩
  cases b
  · exact List.mem_cons_of_mem _ (List.mem_cons_self ..)
  · exact List.mem_cons_of_mem _ (List.mem_cons_of_mem _ (List.mem_cons_self ..))
theorem ffX_mem (b : Bool) {y : Nat} (h : y ∈ FF b) : y ∈ feetOf (sysX pbs s d FF) := by
  refine List.mem_flatMap.2 ⟨xdk (d b) (s.X b) pbs (s.k b) (FF b), ?_, h⟩
  cases b
  · exact List.mem_cons_of_mem _ (List.mem_cons_self ..)
  · exact List.mem_cons_of_mem _ (List.mem_cons_of_mem _ (List.mem_cons_self ..))
theorem feet_mid {hc : List Res} {y : Nat} (h : y ∈ feetOf C) : y ∈ feetOf (lb ++ (hc ++ C) ++ D) := by
  simp only [feetOf, List.flatMap_append, List.mem_append] at h ⊢
  exact .inl (.inr (.inr h))
theorem feet_end {hx : List Res} {y : Nat} (h : y ∈ feetOf D) : y ∈ feetOf (lb ++ C ++ (hx ++ D)) := by
  simp only [feetOf, List.flatMap_append, List.mem_append] at h ⊢
  exact .inr (.inr h)
theorem head_ne {r : Res} (h : Held w (r :: rs)) {y : Nat} (hy : y ∈ r.F) : y ∉ feetOf rs := by
  have ha := h.apart
  rw [List.flatMap_cons, List.nodup_append] at ha
  exact fun hy2 => ha.2.2 y hy y hy2 rfl
theorem low_new (e : Ev w0 [] w rs) {y z : Nat} (hy : y ∈ feetOf rs) (hz : z < w0.heap.size) : z ≠ y := by
  rcases e.low y hy with h | h
  · cases h
  · omega
theorem xdk_add2 {w1 w2 : World} {x0 n0 : Nat} {i0 : XI} (e : Ev w0 rs w1 rs1) (ev : Ev w1 [] w2 (xps x0 (newXD n0) none i0)) (hp : Pln w2 x0) : ∃ G, Ev w0 rs w2 (xdk x0 (newXD n0) [] none G :: rs1) :=
  ⟨_, e.new ev.nil (xdk_new ev.held hp []) (fun b hb => by rcases ev.low b hb with h | h; cases h; exact h)⟩
def ptr0 (b : Nat) : Value := .pointer (some ⟨b, 0, none⟩)
def NewSt (w : World) (ad ax p n : Nat) : Nat → World → Prop
  | 0, wr => Ev w [] wr [Res.blk ad [.pointer none, .pointer none], Res.blk ax [.pointer none, .pointer none]]
  | 1, wr => ∃ d0 F0 x0 G0, Ev w [] wr [xdk x0 (newXD p) [] none G0, dk d0 (newXD p) [] none F0, Res.blk ad [ptr0 d0, .pointer none], Res.blk ax [ptr0 x0, .pointer none]]
  | _, wr => ∃ d x FF GG, Ev w [] wr ([Res.blk ad (dbL d), Res.blk ax (dbL x)] ++ sysC [] (sy (newXD p) (newXD n) []) d FF ++ sysX [] (sy (newXD p) (newXD n) []) x GG)
theorem new_end {ad ax p n d0 d1 x0 x1 : Nat} {F0 F1 G0 G1 : List Nat} (e : Ev w0 [] w [xdk x1 (newXD n) [] none G1, dk d1 (newXD n) [] none F1, xdk x0 (newXD p) [] none G0, dk d0 (newXD p) [] none F0, Res.blk ad [ptr0 d0, ptr0 d1], Res.blk ax [ptr0 x0, ptr0 x1]]) : NewSt w0 ad ax p n 2 w := by
  have e1 := e.new (Fr.refl _ _) (pows0 w) (fun b hb => by simp [Res.pows] at hb)
  have e2 := e1.new (Fr.refl _ _) (pows0 w) (fun b hb => by simp [Res.pows] at hb)
  exact ⟨dd2 d0 d1, dd2 x0 x1, ff2 F0 F1, ff2 G0 G1, Ev.perm e2 (perm8 _ _ _ _ _ _ _ _)⟩
end
end Go.Proofs.YtjgagcpmoffldaaGreat
