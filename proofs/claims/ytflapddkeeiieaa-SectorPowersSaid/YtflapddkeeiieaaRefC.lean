/- Layer 6, the document's disk: Write, Tamper, Loose. -/
import Derived.Test.YtflapddkeeiieaaRefB
import Derived.Test.YtflapddkeeiieaaAppR
import Derived.Test.YtflapddkeeiieaaWord
import Derived.Test.YtflapddkeeiieaaRws
namespace Go.Xr
open Go Go.RowKit
set_option linter.unusedVariables false
/-- A slice that is held has grown. -/
theorem xapp_ev {w w1 w3 : World} {rs rs1 : List Res} (e : Ev w rs w1 rs1) (k : Nat) {size n n' : Nat} {v v' : Value} {xs xs' : List Value} {B B' : Option Nat} (hk : rs1[k]? = some (Res.own size v n xs B)) (ho : Xr.Own w3 size v' n' xs' B') (f : Fr B.toList w1 w3) (hB : B' = B ∨ ∃ b, B' = some b ∧ w1.heap.size ≤ b) :
    Ev w rs w3 (rs1.set k (Res.own size v' n' xs' B')) :=
  e.at k hk f (fun b hb => .inl hb) (Res.On.own ho) (fun b hb => by
    rcases hB with rfl | ⟨b', rfl, hge⟩
    · exact .inl hb
    · simp [Res.own] at hb
      subst hb
      exact .inr hge)
/-- A block that is held has another cell. -/
theorem Ev.put {w w1 w2 : World} {rs rs1 : List Res} (a : Ev w rs w1 rs1) (i : Nat) {b : Nat} {cs cs' : List Value} (hi : rs1[i]? = some (Res.blk b cs)) (f : Fr [b] w1 w2) (hb : Blk w2 b cs') : Ev w rs w2 (rs1.set i (Res.blk b cs')) :=
  a.at i hi f (fun x hx => .inl hx) (Res.On.blk hb) (fun x hx => .inl hx)
/-- The value of an owned slice is set elsewhere: an own block of it is written. -/
theorem rc_blkS {w : World} {b n size : Nat} {xs : List Value} (hb : Blk w b xs) (hn : xs.length = n * size) (hm : n ≤ maxLen) : Rc w size (.slice (some ⟨b, 0, none⟩) n n) n xs (some b) := by
  refine ⟨hn, fun c hc => by cases hc; exact hb.lt, _, _, rfl, Nat.le_refl _, hm, fun _ => ⟨b, 0, rfl, rfl, fun j hj => ?_⟩⟩
  rw [hb.cell, Nat.zero_add]
end Go.Xr
namespace Go.Proofs.Ytflapddkeeiieaa
open Go Go.Xr Go.RowKit
set_option linter.unusedVariables false
set_option linter.unusedSimpArgs false

set_option maxRecDepth 20000 in
theorem inf91 : ∃ i z, Try.prog.info? 91 = some i ∧ i.zero = some z ∧ i.size = 2 ∧ i.bytes = 24 ∧ z.cells.size = 2 := ⟨_, _, rfl, rfl, rfl, rfl, rfl⟩

theorem xlc_snoc (l : List (Nat × ByteArray)) (q : Nat) (s : ByteArray) : xlc (l ++ [(q, s)]) = xlc l ++ [.int .i64 (q : Int), .string s] := by simp [xlc]
theorem xwrite_err {w : World} {x : Nat} {X : XD} {pw : Option (Nat × Nat)} {i : XI} (h : Held w (Res.pow pw :: xps x X pw i)) (q : Int) (s : ByteArray) (hs : s.size ≤ 9223372036854775807) (e0 : Int) (hm : mayN X pw q s true = e0) (he : e0 = 60 ∨ e0 = 2) :
    Calls Try.prog 42 #[.pointer (some ⟨x, 0, none⟩), .int .i64 q, .string s] w fun e w' => e = .returned (.int .i64 e0) ∧ w = w' := by
  have h1 := may_any h q s hs true
  rw [hm] at h1
  clear h hm
  rcases he with rfl | rfl
  all_goals
    go_enter Try.func42, Try.ntmps42
    go_wp2_with (go_at_call 57; refine h1.mono ?_; rintro e w' ⟨rfl, rfl⟩)
    go_ret
    exact ⟨rfl, rfl⟩

set_option maxHeartbeats 1000000 in
set_option maxRecDepth 20000 in
theorem xwrite_ok {w : World} {x : Nat} {X : XD} {pw : Option (Nat × Nat)} {i : XI} (h : Held w (Res.pow pw :: xps x X pw i)) (q : Nat) (s : ByteArray) (hs : s.size ≤ 9223372036854775807) (hm : mayN X pw q s true = 0) (ho : offB pw = false) (hl : X.L.length < 1000000) (ht : X.Trace.length < 1000000) :
    Calls Try.prog 42 #[.pointer (some ⟨x, 0, none⟩), .int .i64 q, .string s] w fun e w' => e = .returned (.int .i64 0) ∧
      ∃ i', Ev w (Res.pow pw :: xps x X pw i) w' (Res.pow (pwDec pw) :: xps x { X with L := X.L ++ [(q, s)], Trace := X.Trace ++ [(q : Int)] } (pwDec pw) i') := by
  have h1 := may_any h q s hs true
  rw [hm] at h1
  obtain ⟨i91, z91, hi91, hz91, hs91, hb91, hzc91⟩ := inf91
  have Hi91 := hid hi91
  have Hz91 := hid hz91
  have Hs91 := hid hs91
  have Hb91 := hid hb91
  have Hzc91 := hid hzc91
  obtain ⟨i3, hi3, hz3, hs3, hb3⟩ := inf3
  have Hi3 := hid hi3
  have Hz3 := hid hz3
  have Hs3 := hid hs3
  have Hb3 := hid hb3
  clear hi3 hz3 hs3 hb3 hi91 hz91 hs91 hb91 hzc91
  have hb := h.blkAt 1 rfl
  have hlo := (h.ownAt 3 rfl : Xr.Own w 2 i.lv X.L.length (xlc X.L) i.Lb)
  obtain ⟨la, lc, hlv⟩ := hlo.isSlice
  rw [hlv] at hb hlo
  have hto := (h.ownAt 4 rfl : Xr.Own w 1 i.tv X.Trace.length (X.Trace.map (.int .i64)) i.T)
  obtain ⟨ta, tc, htv⟩ := hto.isSlice
  rw [htv] at hb hto
  have k1 : w.cell? ⟨x, 1, none⟩ = some (.slice la X.L.length lc) := hb.cell 1
  have k2 : w.cell? ⟨x, 2, none⟩ = some (.slice ta X.Trace.length tc) := hb.cell 2
  have e0 := Ev.refl h
  unfold xps at e0
  rw [hlv, htv] at e0
  obtain ⟨ln, hln⟩ : ∃ ln, X.L.length = ln := ⟨_, rfl⟩
  obtain ⟨tn, htn⟩ : ∃ tn, X.Trace.length = tn := ⟨_, rfl⟩
  have Hln := hid hln
  have Htn := hid htn
  rw [hln] at hb hlo k1 hl e0
  rw [htn] at hb hto k2 ht e0
  have E0 := hid e0
  have Hlv := hid hlv
  have Htv := hid htv
  clear h hlv htv hm hln htn hto hb e0
  go_enter Try.func42, Try.ntmps42
  go_wp2_with (first
    | (go_at_call 57; refine h1.mono ?_; rintro e w' ⟨rfl, hw⟩; subst hw)
    | (refine wpList_buildSlice_one rfl _ _ rfl _ _ _ 2 [.int .i64 q, .string s] Try.underlying79 Hi91.out Hz91.out Hs91.out rfl rfl Hzc91.out (by decide) (by decide) ?_; intro hb7; simp only [World.size_alloc, World.size_drew, Act.put, List.setIfInBounds_toArray, List.set_cons_succ, List.set_cons_zero])
    | (refine wpList_append_rc rfl _ _ _ rfl 91 _ _ 2 24 Try.underlying79 Hi91.out Hz91.out Hs91.out Hb91.out Hzc91.out (by decide) rfl (hlo.keep ((Fr.refl [] w).alloc _) (by simp)) rfl (rc_blkS hb7 rfl (by decide)) (by intro u hu; simp at hu; rcases hu with rfl | rfl <;> rfl) (by unfold maxLen; omega) (by omega) ?_; intro v3 w3 B3 ho3 f3 hB3; obtain ⟨va, vc, rfl⟩ := ho3.isSlice; have e2 := xapp_ev (E0.out.step ((Fr.refl [] w).alloc _)) 3 rfl ho3 f3 hB3; have bk3 := e2.held.blkAt 1 rfl; have E2 := hid e2; clear e2; simp only [World.size_alloc, World.size_drew, Act.put, List.setIfInBounds_toArray, List.set_cons_succ, List.set_cons_zero])
    | (refine wpList_put rfl _ _ _ rfl rfl (.slice va (ln + 1) vc) rfl rfl bk3 (by simp) (by kernel_rfl) ?_; intro w4 f4 b4 hs4; have e4 := E2.out.put 1 rfl f4 b4; have k4 : w4.cell? ⟨x, 2, none⟩ = some (.slice ta tn tc) := b4.cell 2; have to4 := e4.held.ownAt 4 rfl; have E4 := hid e4; clear e4 f4 b4 bk3; simp only [World.size_alloc, World.size_drew, Act.put, List.setIfInBounds_toArray, List.set_cons_succ, List.set_cons_zero])
    | (refine wpList_buildSlice_r rfl _ 1 _ rfl 3 Try.underlying37 _ _ Hi3.out Hz3.out rfl Hs3.out (by decide) (by decide) (by decide) [.int .i64 q] rfl (by intro v hv; simp at hv; rcases hv with rfl; rfl) ?_; intro w5 f5 hlt5 hb5; simp only [World.size_alloc, World.size_drew, Act.put, List.setIfInBounds_toArray, List.set_cons_succ, List.set_cons_zero])
    | (refine wpList_append_rc rfl _ _ _ rfl 3 _ _ 1 8 Try.underlying37 Hi3.out Hz3.out Hs3.out Hb3.out rfl (by decide) rfl (to4.keep f5 (by simp)) rfl (rc_blk hb5 rfl (by decide)) (by intro u hu; simp at hu; subst hu; rfl) (by unfold maxLen; omega) (by omega) ?_; intro v6 w6 B6 ho6 f6 hB6; obtain ⟨wa, wc, rfl⟩ := ho6.isSlice; have e6 := xapp_ev (E4.out.step f5) 4 rfl ho6 f6 hB6; have bk6 := e6.held.blkAt 1 rfl; have E6 := hid e6; clear e6; simp only [World.size_alloc, World.size_drew, Act.put, List.setIfInBounds_toArray, List.set_cons_succ, List.set_cons_zero])
    | (refine wpList_put rfl _ _ _ rfl rfl (.slice wa (tn + 1) wc) rfl rfl bk6 (by simp) (by kernel_rfl) ?_; intro w7 f7 b7 hs7; have e7 := E6.out.put 1 rfl f7 b7; revert e7; simp only [World.size_alloc, World.size_drew, Act.put, List.setIfInBounds_toArray, List.set_cons_succ, List.set_cons_zero]))
  intro e7
  have hfin : Ev w (Res.pow pw :: xps x X pw i) w7 (Res.pow pw :: xps x { X with L := X.L ++ [(q, s)], Trace := X.Trace ++ [(q : Int)] } pw ⟨i.kv, .slice va (ln + 1) vc, .slice wa (tn + 1) wc, i.K, B3, B6⟩) := by
    unfold xps
    rw [Hlv.out, Htv.out, Hln.out, Htn.out]
    simp only [List.length_append, List.length_cons, List.length_nil, Hln.out, Htn.out, List.map_append, List.map_cons, List.map_nil]
    rw [xlc_snoc]
    exact e7
  have Hfin := hid hfin
  have Htk := hid (xtook_any hfin.held ho)
  clear e7 hfin hb7 k1 k2 hlo f3 hB3 ho3 f5 hlt5 hb5 f6 hB6 ho6 f7 b7 k4 to4 bk6
  go_wp2_with (go_at_call 51; refine Htk.out.mono ?_; rintro e w8 ⟨rfl, e8⟩)
  go_ret
  exact ⟨rfl, _, Hfin.out.trans e8⟩
end Go.Proofs.Ytflapddkeeiieaa
