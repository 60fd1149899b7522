/- Layer 22: a number's digits; the label of a way. -/
import Derived.Test.YtneoagelcjfanaaGreatDoorRecR
import Derived.Test.YtneoagelcjfanaaGreatDoorShf
import Derived.Lib.ItoaMem
import Derived.Lib.AppendIntMem
namespace Go.Proofs.YtneoagelcjfanaaGreatDoor.chn
open Go Go.Xr Go.RowKit Go.Sort Go.Proofs.YtneoagelcjfanaaGreatDoor Go.Proofs.YtneoagelcjfanaaGreatDoor.rcd
set_option linter.unusedVariables false
set_option linter.unusedSimpArgs false
/-- The table of the powers of ten lies as the program lays it. -/
def TB (w : World) : Prop := Lib.TabIs Tryz.prog w "internal/strconv.uint64pow10" .u64 Lib.pow10Tab
theorem TB.keep {w w' : World} (h : TB w) (f : Fr [] w w') : TB w' := by
  unfold TB Lib.TabIs World.var? at h ⊢
  cases hg : Tryz.prog.globalNamed "internal/strconv.uint64pow10" with
  | none => rw [hg] at h; cases h
  | some g =>
    rw [hg] at h
    show (match w'.heap[g]? with | some (.cells cs _ _) => some cs | _ => none) = _
    have h2 : (match w.heap[g]? with | some (.cells cs _ _) => some cs | _ => none) = _ := h
    have hlt : g < w.heap.size := by
      rcases Nat.lt_or_ge g w.heap.size with hl | hl
      · exact hl
      · rw [Array.getElem?_eq_none hl] at h2; cases h2
    rw [f.block g hlt (by simp)]
    exact h2
/-- A number's digits. -/
def decS (x : UInt64) : ByteArray := ⟨(Lib.decDigits x.toNat).toArray⟩
theorem holds_zero0 (w : World) (T : TypeId) (nd : Nat) (hs : nd ≤ 24) : Holds (fun (b : UInt8) => Value.int .u8 (b.toNat : Int)) (w.alloc (.cells Lib.zeros24 T)) w.heap.size 0 (Array.replicate nd (0 : UInt8)) := fun j hj => by
  have hj' : j < nd := by simpa using hj
  refine ⟨?_, World.frozen?_alloc_new _ _ _ _⟩
  rw [World.cell?_alloc_new, Lib.zeros24_at _ (by omega), getElem!_pos _ j hj]
  simp
theorem fin0 (w : World) (o : Obj) (dk : Array UInt8) (k : Nat) : ∃ os, (putRow (fun (b : UInt8) => Value.int .u8 (b.toNat : Int)) (w.alloc o) w.heap.size 0 dk).drewN k = grow (w.drewN k) os := by
  rw [alloc_eq_grow]
  obtain ⟨os', _, e⟩ := putRow_grow_new (fun (b : UInt8) => Value.int .u8 (b.toNat : Int)) w #[o] w.heap.size 0 dk (Nat.le_refl _)
  exact ⟨os', by rw [e]; rfl⟩
theorem nd20 {u : Nat} (h1 : 1 ≤ u) (h2 : u < 18446744073709551616) : Lib.nDigits u ≤ 20 := by have := Lib.numDigits_eq u h1 h2; split at this <;> omega
set_option maxHeartbeats 6400000 in
set_option maxRecDepth 100000 in
theorem fmt1_any (u : Nat) (hu64 : u < 18446744073709551616) (w : World) (htab : TB w) :
    Calls Tryz.prog 60 #[.int .u64 (u : Int), .int .i64 10] w fun e w' => e = .returned (.string ⟨(Lib.decDigits u).toArray⟩) ∧ Fr [] w w' := by
  by_cases hs : u < 100
  · have hlt : decide ((u : Int) < 100) = true := by simp; omega
    have hltn : decide (u < 100) = true := by simp; omega
    have hsm := hid (shf_internal_strconv_small u hs w)
    clear htab
    go_enter Tryz.func60, Tryz.ntmps60
    go_wp2_with (go_at_call 80; refine hsm.out.mono ?_; rintro e w' ⟨rfl, hw⟩; subst hw)
    go_ret
    exact ⟨rfl, Fr.refl [] _⟩
  · have hlt : decide ((u : Int) < 100) = false := by simp; omega
    have hltn : decide (u < 100) = false := by simp; omega
    have hu1 : 1 ≤ u := by omega
    have hb3 := nd20 hu1 hu64
    have hu2 := Tryz.underlying136
    have hal : Tryz.prog.arrayLen 136 = 24 := by simp [Program.arrayLen, hu2]
    have hsl : ∀ W, (Instr.sliceAt 136 (.pointer (some ⟨w.heap.size, 0, none⟩)) none (some (.int .i64 (Lib.nDigits u : Int))) none).run Tryz.prog W = .ok (.slice (some ⟨w.heap.size, 0, none⟩) (Lib.nDigits u) 24) W := fun W => by
      rw [run_sliceAt_array_h W 136 ⟨w.heap.size, 0, none⟩ (by simp [Program.arrayLen, Program.elem, hu2]) .i64 (Lib.nDigits u : Int) (by omega) (by rw [hal]; omega)]
      go_simp
    have hH0 := holds_zero0 w 136 (Lib.nDigits u) (by omega)
    have hfmt := shf_internal_strconv_formatBase10 w.heap.size 0 24 u (Array.replicate (Lib.nDigits u) 0) (w.alloc (.cells Lib.zeros24 136)) hH0 (by rw [Array.size_replicate]; exact Lib.lt_pow_nDigits u) hu64 (by rw [Array.size_replicate]; omega)
    rw [Array.size_replicate] at hfmt
    have HH0 := hid hH0
    have HF := hid hfmt
    have HT := hid htab
    have HN := hid (fun W => shf_internal_strconv_numDigits u hu1 hu64 W)
    clear hH0 hal hfmt htab hu2
    go_enter Tryz.func60, Tryz.ntmps60
    go_wp2_with (first
      | (go_at_call 81; refine (HN.out _ (Lib.tabIs_alloc HT.out _)).mono ?_; rintro e w' ⟨rfl, hw⟩; subst hw))
    refine HF.out.mono ?_
    rintro e w' ⟨rfl, k, v', dk, rfl, hF⟩
    have hcv : (convert 67 9 (.slice (some ⟨w.heap.size, 0, none⟩) (Lib.nDigits u) 24)).run Tryz.prog ((putRow (fun (b : UInt8) => Value.int .u8 (b.toNat : Int)) (w.alloc (.cells Lib.zeros24 136)) w.heap.size 0 dk).drewN k) = .ok (.string ⟨(Lib.decDigits u).toArray⟩) ((putRow (fun (b : UInt8) => Value.int .u8 (b.toNat : Int)) (w.alloc (.cells Lib.zeros24 136)) w.heap.size 0 dk).drewN k) := by
      have h := run_convert_bytes_back (P := Tryz.prog) ((putRow (fun (b : UInt8) => Value.int .u8 (b.toNat : Int)) (w.alloc (.cells Lib.zeros24 136)) w.heap.size 0 dk).drewN k) 67 9 5 ⟨w.heap.size, 0, none⟩ 24 (Lib.decDigits u) Tryz.underlying67 Tryz.underlying5 Tryz.underlying9 (fun j hj => by
        rw [Lib.row_is_numeral hF j hj, Lib.add_plain, World.cell?_drewN]
        exact cell?_putRow (fun (b : UInt8) => Value.int .u8 (b.toNat : Int)) _ w.heap.size 0 _ dk HH0.out (by rw [hF.size, Array.size_replicate]) j (by rw [hF.size]; rw [Lib.decDigits_length] at hj; exact hj))
      rw [Lib.decDigits_length] at h
      exact h
    go_wp2
    go_ret
    obtain ⟨os, eo⟩ := fin0 w (.cells Lib.zeros24 136) dk k
    refine ⟨rfl, ?_⟩
    have hb : Below w.heap.size w ((putRow (fun (b : UInt8) => Value.int .u8 (b.toNat : Int)) (w.alloc (.cells Lib.zeros24 136)) w.heap.size 0 dk).drewN k) := by
      rw [eo]
      exact Lib.below_grow _ w (Nat.le_refl _) k os
    exact Fr.of_below hb (Nat.le_refl _)
theorem fmt_any (x : UInt64) (w : World) (h : TB w) : Calls Tryz.prog 39 #[W64 x, .int .i64 10] w fun e w' => e = .returned (.string (decS x)) ∧ Fr [] w w' := by
  have H := hid (show Calls Tryz.prog 60 #[W64 x, .int .i64 10] w fun e w' => e = .returned (.string (decS x)) ∧ Fr [] w w' from fmt1_any x.toNat x.toNat_lt w h)
  clear h
  go_enter Tryz.func39, Tryz.ntmps39
  go_wp2_with (go_at_call 60; refine H.out.mono ?_; rintro e w1 ⟨rfl, f1⟩)
  go_ret
  exact ⟨rfl, f1⟩
theorem decS_size (x : UInt64) : (decS x).size ≤ 20 := by
  have e : (decS x).size = (Lib.decDigits x.toNat).length := by simp [decS, ByteArray.size]
  rw [e, Lib.decDigits_length]
  by_cases h : 1 ≤ x.toNat
  · exact nd20 h x.toNat_lt
  · have h0 : x.toNat = 0 := by omega
    rw [h0, Lib.nDigits_small (by decide)]
    decide
/-- The label of one way of a connection. -/
def labS (x : UInt64) (server : Bool) : ByteArray := (⟨#[116, 111, 32]⟩ ++ (if server then ⟨#[115, 101, 114, 118, 101, 114]⟩ else ⟨#[99, 108, 105, 101, 110, 116]⟩) ++ ⟨#[32]⟩) ++ decS x
theorem labS_size (x : UInt64) (b : Bool) : (labS x b).size ≤ 30 := by
  have := decS_size x
  unfold labS
  rw [ByteArray.size_append, ByteArray.size_append, ByteArray.size_append]
  cases b
  · show 3 + 6 + 1 + _ ≤ 30
    omega
  · show 3 + 6 + 1 + _ ≤ 30
    omega
set_option maxRecDepth 20000 in
theorem label_any (x : UInt64) (b : Bool) (w : World) (h : TB w) : Calls Tryz.prog 21 #[W64 x, .bool b] w fun e w' => e = .returned (.string (labS x b)) ∧ Fr [] w w' := by
  have H := hid (fmt_any x w h)
  clear h
  have hD : (decS x).size ≤ 20 := decS_size x
  unfold labS
  generalize decS x = D at *
  cases b
  · go_enter Tryz.func21, Tryz.ntmps21
    go_wp2_with (go_at_call 39; refine H.out.mono ?_; rintro e w1 ⟨rfl, f1⟩)
    go_ret
    exact ⟨rfl, f1⟩
  · go_enter Tryz.func21, Tryz.ntmps21
    go_wp2_with (go_at_call 39; refine H.out.mono ?_; rintro e w1 ⟨rfl, f1⟩)
    go_ret
    exact ⟨rfl, f1⟩
end Go.Proofs.YtneoagelcjfanaaGreatDoor.chn
