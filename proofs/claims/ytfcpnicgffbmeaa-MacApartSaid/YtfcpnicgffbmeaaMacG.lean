/- Layer 2, mac: trees of keys; what stands fixed. -/
import Derived.Test.YtfcpnicgffbmeaaMacF
import Derived.Test.YtfcpnicgffbmeaaArgs
namespace Go.Proofs.Ytfcpnicgffbmeaa
open Go Go.Xr Go.RowKit
set_option linter.unusedVariables false
set_option linter.unusedSimpArgs false

theorem mder_bad {w : World} (key label : ByteArray) (n : Int) (hn : n < 0 ∨ n > 8160) : Calls Try.prog 13 #[.string key, .string label, .int .i64 n] w fun e w' => e = .returned (.tuple #[.string ⟨#[]⟩, .int .i64 2]) ∧ w = w' := by
  have hc : decide (n < 0) = true ∨ (decide (n < 0) = false ∧ decide (8160 < n) = true) := by
    by_cases h : n < 0
    · exact .inl (by simp; omega)
    · exact .inr ⟨by simp; omega, by simp; omega⟩
  clear hn
  rcases hc with h1 | ⟨h1, h2⟩
  all_goals
    go_enter Try.func13, Try.ntmps13
    go_wp2_with fail
    go_ret2
    exact ⟨rfl, rfl⟩
theorem rder_bad {w : World} (key label : ByteArray) (n : Int) (hn : n < 0 ∨ n > 8160) : Calls Try.prog 14 #[.string key, .string label, .int .i64 n] w fun e w' => e = .returned (.tuple #[.string ⟨#[]⟩, .int .i64 2]) ∧ w = w' := by
  have hc : decide (n < 0) = true ∨ (decide (n < 0) = false ∧ decide (8160 < n) = true) := by
    by_cases h : n < 0
    · exact .inl (by simp; omega)
    · exact .inr ⟨by simp; omega, by simp; omega⟩
  clear hn
  rcases hc with h1 | ⟨h1, h2⟩
  all_goals
    go_enter Try.func14, Try.ntmps14
    go_wp2_with fail
    go_ret2
    exact ⟨rfl, rfl⟩

theorem allS_one (s : ByteArray) : allS [s] = longS s := by
  unfold allS longS allL
  simp
def treeS (key : ByteArray) (l : List ByteArray) : ByteArray := l.foldl (fun k s => macS k (longS s)) key
theorem treeS_snoc (key : ByteArray) (l : List ByteArray) (i : Nat) (h : i < l.length) : treeS key (l.take (i + 1)) = macS (treeS key (l.take i)) (longS l[i]) := by
  unfold treeS
  rw [List.take_succ_eq_append_getElem h, List.foldl_append]
  rfl
theorem treeS_size (key : ByteArray) (l : List ByteArray) (hk : key.size < 1099511627776) : (treeS key l).size < 1099511627776 := by
  induction l generalizing key with
  | nil => exact hk
  | cons s l ih => exact ih (macS key (longS s)) (by rw [macS_size]; decide)

set_option maxRecDepth 20000 in
theorem rtree_any {w : World} {v : Value} {l : List ByteArray} {LB : Option Nat} (key : ByteArray) (hk : key.size < 1099511627776) (hl : Rc w 1 v l.length (l.map .string) LB) (hm : l.length ≤ 9223372036854775807) (hs : ∀ s ∈ l, s.size < 1099511627000) :
    Calls Try.prog 16 #[.string key, v] w fun e w' => e = .returned (.string (treeS key l)) ∧ Fr [] w w' := by
  obtain ⟨la, lc, rfl⟩ := hl.isSlice
  obtain ⟨T, hT⟩ : ∃ T, treeS key l = T := ⟨_, rfl⟩
  rw [hT]
  have HT := hid hT
  have Hs := hid hs
  clear hT hs
  go_enter Try.func16, Try.ntmps16
  go_wp2_with fail
  go_loopw [0, 5] (fun kv iv wr => ∃ i : Nat, i ≤ l.length ∧ iv = .int .i64 i ∧ kv = .string (treeS key (l.take i)) ∧ Fr [] w wr) (fun _ iv _ => l.length - (intOf iv).toNat)
  case atStart => exact ⟨0, by omega, rfl, rfl, Fr.refl _ _⟩
  case round =>
    obtain ⟨i, hi, rfl, rfl, f⟩ := hrel
    by_cases hlt : i < l.length
    · have hd1 : decide (i < l.length) = true := by simp; omega
      obtain ⟨lb, off, rfl, hlb, hcell⟩ := rc_str hl f i hlt
      have hsn := treeS_snoc key l i hlt
      have hss := Hs.out _ (List.getElem_mem hlt)
      have hks := treeS_size key (l.take i) hk
      obtain ⟨s, hs⟩ : ∃ s, l[i] = s := ⟨_, rfl⟩
      rw [hs] at hcell hsn hss
      clear hs
      have Hsn := hid hsn
      have hls := longS_size s
      clear hsn
      go_wp2_with fail
      refine (rlong_any s (by omega)).mono ?_
      rintro e w2 ⟨rfl, f2⟩
      go_wp2_with fail
      refine (rmac_any (treeS key (l.take i)) (longS s) hks (by omega)).mono ?_
      rintro e w3 ⟨rfl, f3⟩
      go_wp2_with fail
      go_roundw
      case rel => exact ⟨i + 1, by omega, by go_num, by rw [Hsn.out], (f.trans' f2).trans' f3⟩
      case measure => simp [intOf]; omega
    · have ei : i = l.length := by omega
      have hd1 : decide (i < l.length) = false := by simp; omega
      have He := hid (show treeS key (l.take i) = T by rw [List.take_of_length_le (by omega), HT.out])
      clear ei
      go_wp2_with fail
      go_ret
      rw [He.out]
      exact ⟨rfl, f⟩

set_option maxRecDepth 20000 in
theorem mtree_any {w : World} {v : Value} {l : List ByteArray} {LB : Option Nat} (key : ByteArray) (hk : key.size < 1099511627776) (hl : Rc w 1 v l.length (l.map .string) LB) (hm : l.length ≤ 9223372036854775807) (hs : ∀ s ∈ l, s.size < 1099511627000) :
    Calls Try.prog 15 #[.string key, v] w fun e w' => e = .returned (.string (treeS key l)) ∧ Fr [] w w' := by
  obtain ⟨i9, hi9, hz9, hs9⟩ := inf9
  have Hi := hid hi9
  have Hz := hid hz9
  have Hs9 := hid hs9
  clear hi9 hz9 hs9
  obtain ⟨la, lc, rfl⟩ := hl.isSlice
  obtain ⟨T, hT⟩ : ∃ T, treeS key l = T := ⟨_, rfl⟩
  rw [hT]
  have HT := hid hT
  have Hs := hid hs
  clear hT hs
  go_enter Try.func15, Try.ntmps15
  go_wp2_with fail
  go_loopw [0, 9] (fun kv iv wr => ∃ i : Nat, i ≤ l.length ∧ iv = .int .i64 i ∧ kv = .string (treeS key (l.take i)) ∧ Fr [] w wr) (fun _ iv _ => l.length - (intOf iv).toNat)
  case atStart => exact ⟨0, by omega, rfl, rfl, Fr.refl _ _⟩
  case round =>
    obtain ⟨i, hi, rfl, rfl, f⟩ := hrel
    by_cases hlt : i < l.length
    · have hd1 : decide (i < l.length) = true := by simp; omega
      obtain ⟨lb, off, rfl, hlb, hcell⟩ := rc_str hl f i hlt
      have hsn := treeS_snoc key l i hlt
      have hss := Hs.out _ (List.getElem_mem hlt)
      have hks := treeS_size key (l.take i) hk
      obtain ⟨s, hs⟩ : ∃ s, l[i] = s := ⟨_, rfl⟩
      rw [hs] at hcell hsn hss
      clear hs
      rw [← allS_one] at hsn
      have Hsn := hid hsn
      clear hsn
      go_wp2_with (refine wpList_buildSlice_any rfl _ 1 _ rfl 9 Try.underlying22 _ _ Hi.out Hz.out rfl Hs9.out (by decide) (by decide) rfl [.string s] rfl (by simp [Value.oneCell']) ?_; intro w2 f2 hlt2 hb2; simp only [World.size_alloc, World.size_drew, Act.put, List.setIfInBounds_toArray, List.set_cons_succ, List.set_cons_zero])
      refine (mall_any (l := [s]) (treeS key (l.take i)) hks (rc_of_blk hb2 rfl (by simp [maxLen])) (by simp [allL, longL_len]; omega)).mono ?_
      rintro e w3 ⟨rfl, f3⟩
      go_wp2_with fail
      go_roundw
      case rel => exact ⟨i + 1, by omega, by go_num, by rw [Hsn.out], (f.trans' f2).trans' f3⟩
      case measure => simp [intOf]; omega
    · have ei : i = l.length := by omega
      have hd1 : decide (i < l.length) = false := by simp; omega
      have He := hid (show treeS key (l.take i) = T by rw [List.take_of_length_le (by omega), HT.out])
      clear ei
      go_wp2_with fail
      go_ret
      rw [He.out]
      exact ⟨rfl, f⟩

def jefe : ByteArray := ⟨#[74, 101, 102, 101]⟩
def what : ByteArray := ⟨#[119, 104, 97, 116, 32, 100, 111, 32, 121, 97, 32, 119, 97, 110, 116, 32, 102, 111, 114, 32, 110, 111, 116, 104, 105, 110, 103, 63]⟩
def known : ByteArray := ⟨#[53, 98, 100, 99, 99, 49, 52, 54, 98, 102, 54, 48, 55, 53, 52, 101, 54, 97, 48, 52, 50, 52, 50, 54, 48, 56, 57, 53, 55, 53, 99, 55, 53, 97, 48, 48, 51, 102, 48, 56, 57, 100, 50, 55, 51, 57, 56, 51, 57, 100, 101, 99, 53, 56, 98, 57, 54, 52, 101, 99, 51, 56, 52, 51]⟩
theorem macS_list (key s : ByteArray) (h : key.size ≤ 64) : (macS key s).data.toList = shaL (padX key.data.toList (c8 92) ++ shaL (padX key.data.toList (c8 54) ++ s.data.toList)) := by
  unfold macS shaS
  rw [show keyS key = key by unfold keyS; rw [if_neg (by omega)]]
  simp
theorem hex_known : hexS (macS jefe what) = known := by
  have e : hexL (shaL (padX [74, 101, 102, 101] (c8 92) ++ shaL (padX [74, 101, 102, 101] (c8 54) ++ [119, 104, 97, 116, 32, 100, 111, 32, 121, 97, 32, 119, 97, 110, 116, 32, 102, 111, 114, 32, 110, 111, 116, 104, 105, 110, 103, 63]))) = [53, 98, 100, 99, 99, 49, 52, 54, 98, 102, 54, 48, 55, 53, 52, 101, 54, 97, 48, 52, 50, 52, 50, 54, 48, 56, 57, 53, 55, 53, 99, 55, 53, 97, 48, 48, 51, 102, 48, 56, 57, 100, 50, 55, 51, 57, 56, 51, 57, 100, 101, 99, 53, 56, 98, 57, 54, 52, 101, 99, 51, 56, 52, 51] := by decide +kernel
  unfold hexS
  rw [macS_list jefe what (by decide)]
  show (⟨(hexL (shaL (padX [74, 101, 102, 101] (c8 92) ++ shaL (padX [74, 101, 102, 101] (c8 54) ++ [119, 104, 97, 116, 32, 100, 111, 32, 121, 97, 32, 119, 97, 110, 116, 32, 102, 111, 114, 32, 110, 111, 116, 104, 105, 110, 103, 63])))).toArray⟩ : ByteArray) = _
  rw [e]
  rfl

set_option maxRecDepth 20000 in
theorem alive_any {w : World} : Calls Try.prog 8 #[] w fun e w' => e = .returned (.bool true) ∧ Fr [] w w' := by
  have h2 := fun w0 : World => hex_any (w := w0) (macS jefe what) (by rw [macS_size]; decide)
  rw [hex_known, known] at h2
  have H2 := hid h2
  have h3 : ∀ w0 : World, Calls Try.prog 15 #[.string ⟨#[107]⟩, .slice none 0 0] w0 fun e w' => e = .returned (.string ⟨#[107]⟩) ∧ Fr [] w0 w' := fun w0 => mtree_any (l := []) ⟨#[107]⟩ (by decide) (Rc.nil _ 1) (by decide) (by simp)
  have H3 := hid h3
  clear h2 h3
  go_enter Try.func8, Try.ntmps8
  go_wp2_with fail
  refine (mder_bad _ _ _ (.inr (by decide))).mono ?_
  rintro e w' ⟨rfl, rfl⟩
  go_wp2_with fail
  refine (mof_any jefe what (by decide) (by decide)).mono ?_
  rintro e w1 ⟨rfl, f1⟩
  go_wp2_with fail
  refine (H2.out _).mono ?_
  rintro e w2 ⟨rfl, f2⟩
  go_wp2_with fail
  refine (H3.out _).mono ?_
  rintro e w3 ⟨rfl, f3⟩
  go_wp2_with fail
  go_ret
  exact ⟨rfl, (f1.trans' f2).trans' f3⟩
end Go.Proofs.Ytfcpnicgffbmeaa
