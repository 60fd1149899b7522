/- Layer 8: mirrors, and pairs of disks, one beside the other in memory. -/
import Derived.Test.YtgafefecookgaaaGMirD
namespace Go.Proofs.Ytgafefecookgaaa
open Go Go.Xr Go.RowKit
set_option linter.unusedVariables false
set_option linter.unusedSimpArgs false
/-- A mirror in memory. -/
structure VP where
  m : Nat
  d : Bool → Nat
  FF : Bool → List Nat
  M : MS
/-- Two disks in memory. -/
structure VS where
  d : Bool → Nat
  FF : Bool → List Nat
  s : Sys
def vpC (p : VP) : List Res := mirC [] p.m p.d p.FF p.M
def vsC (p : VS) : List Res := sysC [] p.s p.d p.FF
def vpsC (ps : List VP) : List Res := ps.flatMap vpC
def vssC (ss : List VS) : List Res := ss.flatMap vsC
def VP.vs (p : VP) : VS := ⟨p.d, p.FF, p.M.s⟩
theorem flat_erase {α : Type} (f : α → List Res) : ∀ (ps : List α) (k : Nat) (p : α), ps[k]? = some p → (ps.flatMap f).Perm ((ps.eraseIdx k).flatMap f ++ f p)
  | [], k, p, h => by simp at h
  | q :: ps, 0, p, h => by
    obtain rfl : q = p := by simpa using h
    exact List.perm_append_comm
  | q :: ps, k + 1, p, h => by
    have := flat_erase f ps k p (by simpa using h)
    simp only [List.flatMap_cons, List.eraseIdx_cons_succ, List.append_assoc]
    exact List.Perm.append_left _ this
theorem erase_set {α : Type} : ∀ (ps : List α) (k : Nat) (p : α), (ps.set k p).eraseIdx k = ps.eraseIdx k
  | [], k, p => rfl
  | q :: ps, 0, p => rfl
  | q :: ps, k + 1, p => by simp [erase_set ps k p]
theorem flat_set {α : Type} (f : α → List Res) (ps : List α) (k : Nat) (p : α) (h : k < ps.length) : ((ps.set k p).flatMap f).Perm ((ps.eraseIdx k).flatMap f ++ f p) := by
  have := flat_erase f (ps.set k p) k p (by rw [List.getElem?_set_self h])
  rw [erase_set] at this
  exact this
section
variable {w w' w0 : World} {l rs : List Res} {ps : List VP} {k : Nat} {p p' : VP}
theorem vps_perm (l : List Res) (hk : ps[k]? = some p) : (l ++ vpsC ps).Perm ((l ++ vpsC (ps.eraseIdx k)) ++ vpC p) := by
  rw [List.append_assoc]
  exact (flat_erase vpC ps k p hk).append_left l
theorem vps_held (h : Held w (l ++ vpsC ps)) (hk : ps[k]? = some p) : Held w ((l ++ vpsC (ps.eraseIdx k)) ++ mirC [] p.m p.d p.FF p.M) := h.perm (vps_perm l hk)
theorem vps_ev (h : Held w (l ++ vpsC ps)) (hk : ps[k]? = some p) {FF' : Bool → List Nat} {M' : MS} (ev : Ev w ((l ++ vpsC (ps.eraseIdx k)) ++ mirC [] p.m p.d p.FF p.M) w' ((l ++ vpsC (ps.eraseIdx k)) ++ mirC [] p.m p.d FF' M')) :
    Ev w (l ++ vpsC ps) w' (l ++ vpsC (ps.set k ⟨p.m, p.d, FF', M'⟩)) := by
  have hlt : k < ps.length := (List.getElem?_eq_some_iff.1 hk).1
  have e1 := (Ev.perm (Ev.refl h) (vps_perm l hk)).trans ev
  refine Ev.perm e1 ?_
  rw [List.append_assoc]
  exact ((flat_set vpC ps k ⟨p.m, p.d, FF', M'⟩ hlt).append_left l).symm
/-- All mirrors are let go: their disks are left. -/
theorem vps_drop : ∀ (ps : List VP) (l : List Res), Ev w0 rs w (l ++ vpsC ps) → Ev w0 rs w (l ++ vssC (ps.map VP.vs))
  | [], l, e => e
  | p :: ps, l, e => by
    have e1 : Ev w0 rs w (l ++ mirR p.m p.d p.M :: (sysC [] p.M.s p.d p.FF ++ vpsC ps)) := e
    have e2 : Ev w0 rs w ((l ++ sysC [] p.M.s p.d p.FF) ++ vpsC ps) := by
      rw [List.append_assoc]
      exact Ev.less l _ e1
    have e3 := vps_drop ps (l ++ sysC [] p.M.s p.d p.FF) e2
    rw [List.append_assoc] at e3
    exact e3
end
end Go.Proofs.Ytgafefecookgaaa
