/- Layer 22: whether a row of texts is more than a statement sends; what a row of texts is on the wire. -/
import Derived.Test.YtneoagelcjfanaaGreatDoorChN
namespace Go.Proofs.YtneoagelcjfanaaGreatDoor.chn
open Go Go.Xr Go.RowKit Go.Proofs.YtneoagelcjfanaaGreatDoor Go.Proofs.YtneoagelcjfanaaGreatDoor.rcd
set_option linter.unusedVariables false
set_option linter.unusedSimpArgs false
def cheavyS (l : List ByteArray) : Bool := decide (12 < l.length) || decide (32768 < totN l)
set_option maxRecDepth 20000 in
set_option maxHeartbeats 1000000 in
theorem cheavy_any {w : World} {v : Value} {l : List ByteArray} {LB : Option Nat} (hl : Rc w 1 v l.length (l.map .string) LB) (ho : ∀ s ∈ l, s.size ≤ 140737488351232) (hlm : l.length ≤ 9223372036854775807) : Calls Tryz.prog 6 #[v] w fun e w' => e = .returned (.bool (cheavyS l)) ∧ Fr [] w w' := by
  obtain ⟨la, lc, rfl⟩ := hl.isSlice
  have Hl := hid hl
  have Ho := hid ho
  have Hh : Hid (cheavyS l = (decide (12 < l.length) || decide (32768 < totN l))) := hid rfl
  obtain ⟨n, hn⟩ : ∃ n, l.length = n := ⟨_, rfl⟩
  have Hn := hid hn
  rw [hn] at hlm Hh ⊢
  clear hl ho hn
  go_enter Tryz.func6, Tryz.ntmps6
  go_wp2_with fail
  go_loopw [3, 4] (fun nv iv wr => ∃ (i : Nat) (s : Int), i ≤ n ∧ iv = .int .i64 i ∧ nv = .int .i64 s ∧ (n ≤ 12 → s = (totN (l.take i) : Int)) ∧ Fr [] w wr) (fun _ iv _ => n - (intOf iv).toNat)
  case atStart => exact ⟨0, 0, by omega, rfl, rfl, fun _ => by simp [totN], Fr.refl _ _⟩
  case round =>
    obtain ⟨i, s, hi, rfl, rfl, hs, f⟩ := hrel
    by_cases hli : i < n
    case neg =>
      have hd1 : decide (i < n) = false := by simp; omega
      have hin : i = n := by omega
      cases hd2 : decide (12 < n)
      case true =>
        have hd2' : decide (12 < (n : Int)) = true := by simp at hd2 ⊢; omega
        have HR := hid (show cheavyS l = true by rw [Hh.out, hd2]; rfl)
        clear hs
        go_wp2_with fail
        go_ret
        rw [HR.out]
        exact ⟨rfl, f⟩
      case false =>
        have hd2' : decide (12 < (n : Int)) = false := by simp at hd2 ⊢; omega
        have hs2 : s = (totN l : Int) := by
          rw [hs (by simpa using hd2), hin, ← Hn.out, List.take_length]
        have HR := hid (show cheavyS l = decide ((32768 : Int) < s) by rw [Hh.out, hd2, hs2]; simp; omega)
        clear hs hs2
        go_wp2_with fail
        go_ret
        rw [HR.out]
        exact ⟨rfl, f⟩
    case pos =>
      have hd1 : decide (i < n) = true := by simp; omega
      obtain ⟨lb, off, rfl, hlb, hcell⟩ := rc_str (wr := wr) Hl.out f i (by rw [Hn.out]; exact hli)
      have hso : (l[i]'(by rw [Hn.out]; exact hli)).size ≤ 140737488351232 := Ho.out _ (List.getElem_mem _)
      have hnx := totN_take l i (by rw [Hn.out]; exact hli)
      have htl := totN_le (l.take i) 140737488351232 (fun s hs => Ho.out s (List.mem_of_mem_take hs))
      obtain ⟨S, hS⟩ : ∃ S, l[i]'(by rw [Hn.out]; exact hli) = S := ⟨_, rfl⟩
      rw [hS] at hcell hso hnx
      have Hnx := hid hnx
      have Hs := hid hs
      have Htl := hid htl
      clear hS hs hnx htl
      go_wp2_with fail
      go_roundw
      case rel =>
        refine ⟨i + 1, wrap64 (s + S.size), by omega, by go_num, rfl, fun h12 => ?_, f⟩
        have h1 := Hs.out h12
        have h2 := Htl.out
        rw [List.length_take] at h2
        have h3 : totN (l.take i) ≤ 12 * 140737488351232 := Nat.le_trans h2 (Nat.mul_le_mul_right _ (by omega))
        rw [Hnx.out, h1, IntWalk.wrap64_in _ ⟨by omega, by omega⟩]
        omega
      case measure => simp [intOf]; omega

/-- The records of so many texts. -/
def ckl (l : List ByteArray) : List ByteArray := l.flatMap cks
theorem ckl_size (l : List ByteArray) : ∀ c ∈ ckl l, c.size ≤ 8192 := by
  intro c hc
  obtain ⟨t, _, h⟩ := List.mem_flatMap.1 hc
  exact cks_size t c h
theorem ckl_cat : ∀ l : List ByteArray, catB (ckl l) = catB l
  | [] => rfl
  | t :: l => by
    show catB (cks t ++ ckl l) = t ++ catB l
    rw [catB_app, cks_cat, ckl_cat l]
theorem catB_size : ∀ l : List ByteArray, (catB l).size = totN l
  | [] => rfl
  | t :: l => by
    show (t ++ catB l).size = _
    rw [ByteArray.size_append, catB_size l]
    rfl
theorem wir_size (K : CH) : ∀ (cs : List ByteArray) (no : UInt64), (∀ c ∈ cs, c.size ≤ 8192) → (wir K no cs).size ≤ cs.length * 16428
  | [], _, _ => Nat.zero_le _
  | c :: cs, no, h => by
    show (oneR K no c ++ wir K (no + 1) cs).size ≤ _
    have h1 := wir_size K cs (no + 1) (fun x hx => h x (List.mem_cons_of_mem _ hx))
    have h2 := (clsN_le c.size).2
    rw [ByteArray.size_append, oneR_size _ _ _ (h c (List.mem_cons_self ..)), List.length_cons, Nat.add_mul]
    omega
theorem pcs_le (t : ByteArray) : pcs t * 8192 ≤ t.size + 8191 := by
  unfold pcs
  exact Nat.div_mul_le_self _ _
theorem ckl_len_k (k q : Nat) (hk : ∀ t : ByteArray, pcs t * q ≤ t.size + k) : ∀ l : List ByteArray, (ckl l).length * q ≤ totN l + l.length * k
  | [] => by simp [ckl]
  | t :: l => by
    have h1 := ckl_len_k k q hk l
    have h2 : (ckl (t :: l)).length = pcs t + (ckl l).length := by
      show (cks t ++ ckl l).length = _
      rw [List.length_append, cks_len]
    have h3 : totN (t :: l) = t.size + totN l := by simp [totN]
    have h4 := hk t
    rw [h2, h3, List.length_cons, Nat.add_mul, Nat.add_mul, Nat.one_mul]
    omega
theorem ckl_len (l : List ByteArray) : (ckl l).length * 8192 ≤ totN l + l.length * 8191 := ckl_len_k _ _ pcs_le l
theorem ckl_take (l : List ByteArray) (i : Nat) (h : i < l.length) : ckl (l.take (i + 1)) = ckl (l.take i) ++ cks (l[i]'h) := by
  unfold ckl
  rw [List.take_succ_eq_append_getElem h, List.flatMap_append]
  simp
theorem catB_take (l : List ByteArray) (i : Nat) (h : i < l.length) : catB (l.take (i + 1)) = catB (l.take i) ++ l[i]'h := by
  rw [List.take_succ_eq_append_getElem h, catB_app]
  show catB (l.take i) ++ (l[i]'h ++ (⟨#[]⟩ : ByteArray)) = _
  rw [app_bempty]
theorem totN_take_le (l : List ByteArray) (i : Nat) : totN (l.take i) ≤ totN l := by
  have h : totN l = totN (l.take i) + totN (l.drop i) := by
    unfold totN
    rw [← List.sum_append, ← List.map_append, List.take_append_drop]
  omega
end Go.Proofs.YtneoagelcjfanaaGreatDoor.chn
