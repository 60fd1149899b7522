/- Layer 1, sha: books. -/
import Derived.Test.YtkohnmlnpbkphaaGSha
import Derived.Test.YtkohnmlnpbkphaaMaps
namespace Go.Proofs.Ytkohnmlnpbkphaa
open Go Go.Xr Go.RowKit
set_option linter.unusedVariables false
set_option linter.unusedSimpArgs false
/-- A book: what it knows, the first text of a digest, the clash. -/
structure BookS where
  kf : ByteArray → Option Bool
  nk : Nat
  bf : ByteArray → Option ByteArray
  nb : Nat
  x : ByteArray
  y : ByteArray
  cl : Bool
def bookL (bb kb : Nat) (B : BookS) : List Value := [.map (some bb), .map (some kb), .string B.x, .string B.y, .bool B.cl]
def BookS.empty : BookS := ⟨fun _ => none, 0, fun _ => none, 0, ⟨#[]⟩, ⟨#[]⟩, false⟩
/-- A text is put into a book. -/
def BookS.put (B : BookS) (s : ByteArray) : BookS :=
  let d := shaS s
  let hit : Bool := match B.bf d with | some t => decide (t ≠ s) && !B.cl | none => false
  { kf := fun x => if x = s then some true else B.kf x
    nk := if (B.kf s).isSome then B.nk else B.nk + 1
    bf := if (B.bf d).isSome then B.bf else fun x => if x = d then some s else B.bf x
    nb := if (B.bf d).isSome then B.nb else B.nb + 1
    x := if hit then (B.bf d).getD ⟨#[]⟩ else B.x
    y := if hit then s else B.y
    cl := B.cl || hit }
/-- A book in memory. -/
structure BookM (w : World) (p bb kb : Nat) (B : BookS) : Prop where
  blk : Blk w p (bookL bb kb B)
  kn : MapF Try.prog 9 4 (fun s : Bool => .lit (.bool s)) w kb B.nk B.kf
  by_ : MapF Try.prog 9 9 (fun s : ByteArray => .lit (.string s.data.toList)) w bb B.nb B.bf
  ne : bb ≠ kb
  pb : p ≠ bb
  pk : p ≠ kb
  kt : ∀ s a, B.kf s = some a → a = true
  bt : ∀ s a, B.bf s = some a → a.size ≤ maxLen
  nk : B.nk ≤ 300
  nb : B.nb ≤ 300
theorem BookM.keep {w w' : World} {p bb kb : Nat} {B : BookS} (h : BookM w p bb kb B) {S : List Nat} (f : Fr S w w') (h1 : p ∉ S) (h2 : bb ∉ S) (h3 : kb ∉ S) : BookM w' p bb kb B :=
  ⟨f.blk h.blk h1, h.kn.keep f h3, h.by_.keep f h2, h.ne, h.pb, h.pk, h.kt, h.bt, h.nk, h.nb⟩
theorem zeroStr (w : World) : (zeroValue 9).run Try.prog w = .ok (.string ⟨#[]⟩) w := by kernel_rfl
theorem zeroBool (w : World) : (zeroValue 4).run Try.prog w = .ok (.bool false) w := by kernel_rfl
theorem zeroInt (w : World) : (zeroValue 3).run Try.prog w = .ok (.int .i64 0) w := by kernel_rfl
theorem neqNil (w : World) (b : Nat) : (binOp .eql 69 (.map (some b)) (.map none)).run Try.prog w = .ok (.bool false) w := run_eql_map_nil w 69 9 9 (some b) Try.underlying69
section
variable {w : World} {p bb kb : Nat} {B : BookS}
theorem BookM.known (h : BookM w p bb kb B) (s : ByteArray) (hs : s.size ≤ maxLen) : (Instr.lookup 70 (.map (some kb)) (.string s) false).run Try.prog w = .ok (.bool ((B.kf s).isSome)) w := by
  have h1 := h.kn.get (el_bool Try.underlying4) Try.underlying9 Try.underlying70 (z := false) (zeroBool w) trivial (fun _ _ _ => trivial) s hs
  rw [h1]
  cases hk : B.kf s with
  | none => rfl
  | some a => rw [h.kt s a hk]; rfl
theorem BookM.has (h : BookM w p bb kb B) (s : ByteArray) (hs : s.size ≤ maxLen) : (Instr.lookup 69 (.map (some bb)) (.string s) true).run Try.prog w = .ok (.tuple #[.string ((B.bf s).getD ⟨#[]⟩), .bool (B.bf s).isSome]) w :=
  h.by_.get_ok (el_str Try.underlying9) Try.underlying9 Try.underlying69 (z := ⟨#[]⟩) (zeroStr w) (Nat.zero_le _) h.bt s hs
theorem BookM.len (h : BookM w p bb kb B) : ∀ ty, (Builtin.len_ #[70] ty #[.map (some kb)]).run Try.prog w = .ok (.int .i64 (B.nk : Int)) w := fun ty => h.kn.len Try.underlying70 ty
end
set_option maxRecDepth 20000 in
theorem newb_any {w : World} : Calls Try.prog 25 #[] w fun e w' => ∃ p bb kb, e = .returned (.pointer (some ⟨p, 0, none⟩)) ∧ BookM w' p bb kb BookS.empty ∧ w.heap.size ≤ p ∧ w.heap.size ≤ bb ∧ w.heap.size ≤ kb ∧ Fr [] w w' := by
  have hmm := @run_makeMap Try.prog
  go_enter Try.func25, Try.ntmps25
  go_wp2_with fail
  go_ret
  have m1 : MapF Try.prog 9 9 (fun s : ByteArray => .lit (.string s.data.toList)) (w.alloc (.map #[] 0)) w.heap.size 0 (fun _ => none) := MapF.made w
  have m2 : MapF Try.prog 9 4 (fun s : Bool => .lit (.bool s)) ((w.alloc (.map #[] 0)).alloc (.map #[] 0)) (w.heap.size + 1) 0 (fun _ => none) := by
    have := MapF.made (P := Try.prog) (k := 9) (e := 4) (dat := fun s : Bool => .lit (.bool s)) (w.alloc (.map #[] 0))
    rw [World.size_alloc] at this
    exact this
  have f1 : Fr [] w (w.alloc (.map #[] 0)) := (Fr.refl [] w).alloc _
  have f2 : Fr [] (w.alloc (.map #[] 0)) ((w.alloc (.map #[] 0)).alloc (.map #[] 0)) := (Fr.refl [] _).alloc _
  refine ⟨w.heap.size + 1 + 1, w.heap.size, w.heap.size + 1, rfl, ?_, by omega, by omega, by omega, (f1.trans' f2).alloc _⟩
  have f3 : Fr [] ((w.alloc (.map #[] 0)).alloc (.map #[] 0)) (((w.alloc (.map #[] 0)).alloc (.map #[] 0)).alloc (.cells (bookL w.heap.size (w.heap.size + 1) BookS.empty).toArray 72)) := (Fr.refl [] _).alloc _
  exact ⟨by have := Blk.alloc ((w.alloc (.map #[] 0)).alloc (.map #[] 0)) (bookL w.heap.size (w.heap.size + 1) BookS.empty) 72; rw [World.size_alloc, World.size_alloc] at this; exact this, m2.keep f3 (by simp), (m1.keep f2 (by simp)).keep f3 (by simp), by omega, by omega, by omega, (fun _ _ h => nomatch h), (fun _ _ h => nomatch h), Nat.zero_le _, Nat.zero_le _⟩

set_option maxRecDepth 20000 in
theorem bof_full {w : World} {p bb kb : Nat} {B : BookS} (h : BookM w p bb kb B) (s : ByteArray) (hs : s.size < 1099511627776) (hk : B.kf s = none) (hn : 256 ≤ B.nk) : Calls Try.prog 26 #[.pointer (some ⟨p, 0, none⟩), .string s] w fun e w' => e = .returned (.tuple #[.string ⟨#[]⟩, .int .i64 6]) ∧ w = w' := by
  have hnn := fun w => neqNil w bb
  have k0 : w.cell? ⟨p, 0, none⟩ = some (.map (some bb)) := h.blk.cell 0
  have k1 : w.cell? ⟨p, 1, none⟩ = some (.map (some kb)) := h.blk.cell 1
  have hl := h.known s (by unfold maxLen; omega)
  rw [hk] at hl
  have hl2 : (Instr.lookup 70 (.map (some kb)) (.string s) false).run Try.prog w = .ok (.bool false) w := hl
  have hlen := h.len
  have hd : decide (256 ≤ (B.nk : Int)) = true := by simp; omega
  have hd' : decide (256 ≤ B.nk) = true := by simp; omega
  clear hl
  go_enter Try.func26, Try.ntmps26
  go_wp2_with fail
  go_ret2
  exact ⟨rfl, rfl⟩

theorem beq_str (a b : ByteArray) : (a.toList == b.toList) = decide (b = a) := by
  rw [Bool.eq_iff_iff]
  simp only [beq_iff_eq, decide_eq_true_eq, ByteArray.toList_eq]
  constructor
  · intro h
    apply ByteArray.ext
    apply Array.ext'
    exact h.symm
  · rintro rfl
    rfl
theorem beq_str2 (a b : ByteArray) : (a.toList == b.toList) = decide (a = b) := by
  rw [beq_str, decide_eq_decide]
  exact eq_comm
theorem shaS_max (s : ByteArray) : (shaS s).size ≤ maxLen := by rw [shaS_size]; unfold maxLen; omega
set_option maxRecDepth 20000 in
set_option maxHeartbeats 1000000 in
theorem bof_put {w : World} {p bb kb : Nat} {B : BookS} (h : BookM w p bb kb B) (s : ByteArray) (hs : s.size < 1099511627776) (hk : B.kf s ≠ none ∨ B.nk < 256) (hnk : B.nk < 300) (hnb : B.nb < 300) : Calls Try.prog 26 #[.pointer (some ⟨p, 0, none⟩), .string s] w fun e w' => e = .returned (.tuple #[.string (shaS s), .int .i64 0]) ∧ BookM w' p bb kb (B.put s) ∧ Fr [p, bb, kb] w w' := by
  have hsm : s.size ≤ maxLen := by unfold maxLen; omega
  have Hof := hid fun w0 : World => of_any (w := w0) s hs
  have hl := h.known s hsm
  have hlen := h.len
  have hdm := shaS_max s
  have hkc : (B.kf s).isSome = true ∨ ((B.kf s).isSome = false ∧ decide (256 ≤ (B.nk : Int)) = false ∧ decide (256 ≤ B.nk) = false) := by
    cases h0 : B.kf s with
    | some a => exact .inl rfl
    | none => exact .inr ⟨rfl, by rw [h0] at hk; simp at hk; simp; omega, by rw [h0] at hk; simp at hk; simp; omega⟩
  have Hput : Hid (B.put s = B.put s) := hid rfl
  obtain ⟨d, hd⟩ : ∃ d, shaS s = d := ⟨_, rfl⟩
  have Hd := hid hd
  rw [hd] at Hof hdm ⊢
  clear hk hd
  cases hb : B.bf d with
  | none =>
    have Hb := hid hb
    rcases hkc with hK | ⟨hK, hd1, hd2⟩
    all_goals
      rw [hK] at hl
      have HK := hid hK
      clear hK
      have hnn := fun w => neqNil w bb
      have k0 : w.cell? ⟨p, 0, none⟩ = some (.map (some bb)) := h.blk.cell 0
      have k1 : w.cell? ⟨p, 1, none⟩ = some (.map (some kb)) := h.blk.cell 1
      go_enter Try.func26, Try.ntmps26
      go_wp2_with fail
      refine (Hof.out _).mono ?_
      rintro e w2 ⟨rfl, f2⟩
      have h2 := h.keep f2 (by simp) (by simp) (by simp)
      have j0 : w2.cell? ⟨p, 0, none⟩ = some (.map (some bb)) := h2.blk.cell 0
      have j1 : w2.cell? ⟨p, 1, none⟩ = some (.map (some kb)) := h2.blk.cell 1
      have j4 : w2.cell? ⟨p, 4, none⟩ = some (.bool B.cl) := h2.blk.cell 4
      clear k0 k1 hl h hlen
      have hq := h2.has d hdm
      rw [Hb.out] at hq
      have hq2 : (Instr.lookup 69 (.map (some bb)) (.string d) true).run Try.prog w2 = .ok (.tuple #[.string ⟨#[]⟩, .bool false]) w2 := hq
      clear hq
      go_wp2_with (first
        | (at_mapUpdate; refine wpList_map_put rfl _ _ _ _ rfl rfl rfl s rfl h2.by_ (el_str Try.underlying9) Try.underlying9 Try.underlying69 (by unfold maxLen; omega) hdm hsm ?_; intro w3 hb3 f3; have l1 : w3.cell? ⟨p, 1, none⟩ = some (.map (some kb)) := (f3.blk h2.blk (by simpa using h2.pb)).cell 1; simp only [World.size_alloc, World.size_drew, Act.put, List.setIfInBounds_toArray, List.set_cons_succ, List.set_cons_zero])
        | (at_mapUpdate; refine wpList_map_put rfl _ _ _ _ rfl rfl rfl true rfl (h2.kn.keep f3 (by simpa using h2.ne.symm)) (el_bool Try.underlying4) Try.underlying9 Try.underlying70 (by unfold maxLen; omega) hsm trivial ?_; intro w9 hk9 f9; simp only [World.size_alloc, World.size_drew, Act.put, List.setIfInBounds_toArray, List.set_cons_succ, List.set_cons_zero]))
      go_ret2
      have HP : B.put s = ⟨fun x => if x = s then some true else B.kf x, if (B.kf s).isSome then B.nk else B.nk + 1, fun x => if x = d then some s else B.bf x, B.nb + 1, B.x, B.y, B.cl⟩ := by simp [BookS.put, Hd.out, Hb.out]
      rw [HP]
      rw [Hb.out] at hb3
      refine ⟨rfl, ⟨f9.blk (f3.blk h2.blk (by simpa using h2.pb)) (by simpa using h2.pk), hk9, hb3.keep f9 (by simpa using h2.ne), h2.ne, h2.pb, h2.pk, ?_, ?_, ?_, ?_⟩, ((f2.mono (T := [p, bb, kb]) (by simp)).trans f3 (by simp)).trans f9 (by simp)⟩
      · intro x a hx
        simp only at hx
        split at hx
        · cases hx; rfl
        · exact h2.kt x a hx
      · intro x a hx
        simp only at hx
        split at hx
        · cases hx; exact hsm
        · exact h2.bt x a hx
      · simp only; split <;> omega
      · simp only; omega
  | some t =>
    have Hb := hid hb
    have htm := h.bt d t hb
    have hcase : (t = s ∧ (t.toList == s.toList) = true) ∨ (t ≠ s ∧ (t.toList == s.toList) = false) := by
      by_cases hts : t = s
      · exact .inl ⟨hts, by rw [beq_str2]; exact decide_eq_true hts⟩
      · exact .inr ⟨hts, by rw [beq_str2]; exact decide_eq_false hts⟩
    rcases hkc with hK | ⟨hK, hd1, hd2⟩
    all_goals
      rw [hK] at hl
      have HK := hid hK
      clear hK
      rcases hcase with ⟨hts, hbe⟩ | ⟨hts, hbe⟩
      · skip
        have hnn := fun w => neqNil w bb
        have k0 : w.cell? ⟨p, 0, none⟩ = some (.map (some bb)) := h.blk.cell 0
        have k1 : w.cell? ⟨p, 1, none⟩ = some (.map (some kb)) := h.blk.cell 1
        go_enter Try.func26, Try.ntmps26
        go_wp2_with fail
        refine (Hof.out _).mono ?_
        rintro e w2 ⟨rfl, f2⟩
        have h2 := h.keep f2 (by simp) (by simp) (by simp)
        have j0 : w2.cell? ⟨p, 0, none⟩ = some (.map (some bb)) := h2.blk.cell 0
        have j1 : w2.cell? ⟨p, 1, none⟩ = some (.map (some kb)) := h2.blk.cell 1
        have j4 : w2.cell? ⟨p, 4, none⟩ = some (.bool B.cl) := h2.blk.cell 4
        clear k0 k1 hl h hlen
        have hq := h2.has d hdm
        rw [Hb.out] at hq
        have hq2 : (Instr.lookup 69 (.map (some bb)) (.string d) true).run Try.prog w2 = .ok (.tuple #[.string s, .bool true]) w2 := by rw [← hts]; exact hq
        clear hq hbe
        go_wp2_with (at_mapUpdate; refine wpList_map_put rfl _ _ _ _ rfl rfl rfl true rfl h2.kn (el_bool Try.underlying4) Try.underlying9 Try.underlying70 (by unfold maxLen; omega) hsm trivial ?_; intro w9 hk9 f9; simp only [World.size_alloc, World.size_drew, Act.put, List.setIfInBounds_toArray, List.set_cons_succ, List.set_cons_zero])
        go_ret2
        have HP : B.put s = ⟨fun x => if x = s then some true else B.kf x, if (B.kf s).isSome then B.nk else B.nk + 1, B.bf, B.nb, B.x, B.y, B.cl⟩ := by simp [BookS.put, Hd.out, Hb.out, hts]
        rw [HP]
        refine ⟨rfl, ⟨f9.blk h2.blk (by simpa using h2.pk), hk9, h2.by_.keep f9 (by simpa using h2.ne), h2.ne, h2.pb, h2.pk, ?_, h2.bt, ?_, h2.nb⟩, (f2.mono (T := [p, bb, kb]) (by simp)).trans f9 (by simp)⟩
        · intro x a hx
          simp only at hx
          split at hx
          · cases hx; rfl
          · exact h2.kt x a hx
        · simp only; split <;> omega
      · cases hcl : B.cl
        case true =>
          have hnn := fun w => neqNil w bb
          have k0 : w.cell? ⟨p, 0, none⟩ = some (.map (some bb)) := h.blk.cell 0
          have k1 : w.cell? ⟨p, 1, none⟩ = some (.map (some kb)) := h.blk.cell 1
          go_enter Try.func26, Try.ntmps26
          go_wp2_with fail
          refine (Hof.out _).mono ?_
          rintro e w2 ⟨rfl, f2⟩
          have h2 := h.keep f2 (by simp) (by simp) (by simp)
          have j0 : w2.cell? ⟨p, 0, none⟩ = some (.map (some bb)) := h2.blk.cell 0
          have j1 : w2.cell? ⟨p, 1, none⟩ = some (.map (some kb)) := h2.blk.cell 1
          have j4 : w2.cell? ⟨p, 4, none⟩ = some (.bool B.cl) := h2.blk.cell 4
          clear k0 k1 hl h hlen
          rw [hcl] at j4
          have hq := h2.has d hdm
          rw [Hb.out] at hq
          have hq2 : (Instr.lookup 69 (.map (some bb)) (.string d) true).run Try.prog w2 = .ok (.tuple #[.string t, .bool true]) w2 := hq
          clear hq
          go_wp2_with (at_mapUpdate; refine wpList_map_put rfl _ _ _ _ rfl rfl rfl true rfl h2.kn (el_bool Try.underlying4) Try.underlying9 Try.underlying70 (by unfold maxLen; omega) hsm trivial ?_; intro w9 hk9 f9; simp only [World.size_alloc, World.size_drew, Act.put, List.setIfInBounds_toArray, List.set_cons_succ, List.set_cons_zero])
          go_ret2
          have HP : B.put s = ⟨fun x => if x = s then some true else B.kf x, if (B.kf s).isSome then B.nk else B.nk + 1, B.bf, B.nb, B.x, B.y, B.cl⟩ := by simp [BookS.put, Hd.out, Hb.out, hcl]
          rw [HP]
          refine ⟨rfl, ⟨f9.blk h2.blk (by simpa using h2.pk), hk9, h2.by_.keep f9 (by simpa using h2.ne), h2.ne, h2.pb, h2.pk, ?_, h2.bt, ?_, h2.nb⟩, (f2.mono (T := [p, bb, kb]) (by simp)).trans f9 (by simp)⟩
          · intro x a hx
            simp only at hx
            split at hx
            · cases hx; rfl
            · exact h2.kt x a hx
          · simp only; split <;> omega
        case false =>
          have hnn := fun w => neqNil w bb
          have k0 : w.cell? ⟨p, 0, none⟩ = some (.map (some bb)) := h.blk.cell 0
          have k1 : w.cell? ⟨p, 1, none⟩ = some (.map (some kb)) := h.blk.cell 1
          go_enter Try.func26, Try.ntmps26
          go_wp2_with fail
          refine (Hof.out _).mono ?_
          rintro e w2 ⟨rfl, f2⟩
          have h2 := h.keep f2 (by simp) (by simp) (by simp)
          have j0 : w2.cell? ⟨p, 0, none⟩ = some (.map (some bb)) := h2.blk.cell 0
          have j1 : w2.cell? ⟨p, 1, none⟩ = some (.map (some kb)) := h2.blk.cell 1
          have j4 : w2.cell? ⟨p, 4, none⟩ = some (.bool B.cl) := h2.blk.cell 4
          clear k0 k1 hl h hlen
          rw [hcl] at j4
          have hq := h2.has d hdm
          rw [Hb.out] at hq
          have hq2 : (Instr.lookup 69 (.map (some bb)) (.string d) true).run Try.prog w2 = .ok (.tuple #[.string t, .bool true]) w2 := hq
          clear hq
          go_wp2_with (first
            | (refine wpList_put rfl _ _ _ rfl rfl (.string t) rfl rfl h2.blk (by simp [bookL]) (by kernel_rfl) ?_; intro w3 f3 b3 hs3; simp only [World.size_alloc, World.size_drew, Act.put, List.setIfInBounds_toArray, List.set_cons_succ, List.set_cons_zero])
            | (refine wpList_put rfl _ _ _ rfl rfl (.string s) rfl rfl b3 (by simp [bookL]) (by kernel_rfl) ?_; intro w4 f4 b4 hs4; simp only [World.size_alloc, World.size_drew, Act.put, List.setIfInBounds_toArray, List.set_cons_succ, List.set_cons_zero])
            | (refine wpList_put rfl _ _ _ rfl rfl (.bool true) rfl rfl b4 (by simp [bookL]) (by kernel_rfl) ?_; intro w5 f5 b5 hs5; have l1 : w5.cell? ⟨p, 1, none⟩ = some (.map (some kb)) := b5.cell 1; have f25 : Fr [p] w2 w5 := (f3.trans f4 (by simp)).trans f5 (by simp); simp only [World.size_alloc, World.size_drew, Act.put, List.setIfInBounds_toArray, List.set_cons_succ, List.set_cons_zero])
            | (at_mapUpdate; refine wpList_map_put rfl _ _ _ _ rfl rfl rfl true rfl (h2.kn.keep f25 (by simpa using h2.pk.symm)) (el_bool Try.underlying4) Try.underlying9 Try.underlying70 (by unfold maxLen; omega) hsm trivial ?_; intro w9 hk9 f9; simp only [World.size_alloc, World.size_drew, Act.put, List.setIfInBounds_toArray, List.set_cons_succ, List.set_cons_zero]))
          go_ret2
          have HP : B.put s = ⟨fun x => if x = s then some true else B.kf x, if (B.kf s).isSome then B.nk else B.nk + 1, B.bf, B.nb, t, s, true⟩ := by simp [BookS.put, Hd.out, Hb.out, hcl, hts]
          rw [HP]
          refine ⟨rfl, ⟨f9.blk b5 (by simpa using h2.pk), hk9, (h2.by_.keep f25 (by simpa using h2.pb.symm)).keep f9 (by simpa using h2.ne), h2.ne, h2.pb, h2.pk, ?_, h2.bt, ?_, h2.nb⟩, ((f2.mono (T := [p, bb, kb]) (by simp)).trans f25 (by simp)).trans f9 (by simp)⟩
          · intro x a hx
            simp only at hx
            split at hx
            · cases hx; rfl
            · exact h2.kt x a hx
          · simp only; split <;> omega
end Go.Proofs.Ytkohnmlnpbkphaa
