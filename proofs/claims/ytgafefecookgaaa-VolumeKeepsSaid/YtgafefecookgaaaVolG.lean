/- Layer 8: pairs of disks made mirrors, one after the other. -/
import Derived.Test.YtgafefecookgaaaVolF
namespace Go.Proofs.Ytgafefecookgaaa
open Go Go.Xr Go.RowKit
set_option linter.unusedVariables false
set_option linter.unusedSimpArgs false
theorem nodup_picks {α : Type} (f : α → List Nat) (g : α → Nat) : ∀ (ps : List α), (ps.flatMap f).Nodup → (∀ x ∈ ps, g x ∈ f x) → (ps.map g).Nodup
  | [], _, _ => List.nodup_nil
  | p :: ps, h, hg => by
    rw [List.flatMap_cons, List.nodup_append] at h
    obtain ⟨h1, h2, h3⟩ := h
    rw [List.map_cons, List.nodup_cons]
    refine ⟨fun hm => ?_, nodup_picks f g ps h2 (fun x hx => hg x (List.mem_cons_of_mem _ hx))⟩
    obtain ⟨q, hq, e⟩ := List.mem_map.1 hm
    exact h3 (g p) (hg p (List.mem_cons_self ..)) (g q) (List.mem_flatMap.2 ⟨q, hq, hg q (List.mem_cons_of_mem _ hq)⟩) e.symm
/-- The disks of pairs, one after the other. -/
def dsP (ss : List VS) : List (VS × Bool) := ss.flatMap fun s => [(s, false), (s, true)]
def dsOf (ss : List VS) : List Nat := (dsP ss).map fun q => q.1.d q.2
theorem dsP_len (ss : List VS) : (dsP ss).length = 2 * ss.length := by
  induction ss with
  | nil => rfl
  | cons s ss ih =>
    show ((s, false) :: (s, true) :: dsP ss).length = _
    simp only [List.length_cons, ih]
    omega
theorem dsP_get : ∀ (ss : List VS) (k : Nat) (s : VS), ss[k]? = some s → (dsP ss)[2 * k]? = some (s, false) ∧ (dsP ss)[2 * k + 1]? = some (s, true)
  | [], k, s, h => by simp at h
  | q :: ss, 0, s, h => by
    obtain rfl : q = s := by simpa using h
    exact ⟨rfl, rfl⟩
  | q :: ss, k + 1, s, h => by
    obtain ⟨h1, h2⟩ := dsP_get ss k s (by simpa using h)
    have e : dsP (q :: ss) = (q, false) :: (q, true) :: dsP ss := rfl
    rw [e, show 2 * (k + 1) = 2 * k + 1 + 1 by omega, show 2 * k + 1 + 1 + 1 = 2 * k + 1 + 1 + 1 from rfl]
    exact ⟨by simpa using h1, by simpa using h2⟩
section
variable {w w' w0 : World} {l rs : List Res} {ps : List VP} {ss : List VS} {k : Nat} {s : VS}
theorem vss_held (h : Held w (l ++ vssC ss)) (hk : ss[k]? = some s) : Held w ((l ++ vssC (ss.eraseIdx k)) ++ vsC s) := by
  refine h.perm ?_
  rw [List.append_assoc]
  exact (flat_erase vsC ss k s hk).append_left l
theorem vss_dk (h : Held w (l ++ vssC ss)) (q : VS × Bool) (hq : q ∈ dsP ss) : q.1.d q.2 ∈ q.1.FF q.2 ∧ Pln w (q.1.d q.2) := by
  obtain ⟨s, hs, hq⟩ := List.mem_flatMap.1 hq
  obtain ⟨k, hk, e⟩ := List.getElem_of_mem hs
  have h1 := vss_held h (by rw [List.getElem?_eq_getElem hk, e])
  have h2 : Held w (sysC [] s.s s.d s.FF) := Held.part (l ++ vssC (ss.eraseIdx k)) [] (by rw [List.append_nil]; exact h1)
  rcases List.mem_cons.1 hq with rfl | hq
  · exact ⟨rep_mem (h2.at 1 rfl).1, (h2.at 1 rfl).2⟩
  · obtain rfl := List.mem_singleton.1 hq
    exact ⟨rep_mem (h2.at 2 rfl).1, (h2.at 2 rfl).2⟩
theorem dsP_feet : ∀ ss : List VS, (vssC ss).flatMap (fun r : Res => r.F) = (dsP ss).flatMap fun q => q.1.FF q.2
  | [] => rfl
  | s :: ss => by
    have ih := dsP_feet ss
    show (sysC [] s.s s.d s.FF ++ vssC ss).flatMap _ = ((s, false) :: (s, true) :: dsP ss).flatMap _
    rw [List.flatMap_append, ih]
    simp [sysC, Res.pows, dk]
theorem vss_nodup (h : Held w (l ++ vssC ss)) : (dsOf ss).Nodup := by
  have h1 := h.apart
  rw [List.flatMap_append, List.nodup_append] at h1
  have h2 := h1.2.1
  rw [dsP_feet] at h2
  exact nodup_picks (fun q : VS × Bool => q.1.FF q.2) (fun q => q.1.d q.2) (dsP ss) h2 (fun q hq => (vss_dk h q hq).1)
/-- What a step leaves that writes new blocks alone, none of which is held. -/
theorem Ev.skip {w w1 w2 : World} {rs rs1 : List Res} {S : List Nat} (e : Ev w rs w1 rs1) (f : Fr S w1 w2) (hS : ∀ b ∈ S, w.heap.size ≤ b ∧ b ∉ feetOf rs1) : Ev w rs w2 rs1 :=
  ⟨e.held.keep f (fun r hr b hb hbS => (hS b hbS).2 (List.mem_flatMap.2 ⟨r, hr, hb⟩)), e.fr.trans f (fun x hx => .inr (hS x hx).1), e.low⟩
end
end Go.Proofs.Ytgafefecookgaaa
