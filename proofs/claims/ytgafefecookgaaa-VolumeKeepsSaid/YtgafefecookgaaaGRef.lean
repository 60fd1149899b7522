/- Several texts put together: RefA, RefB, RefC, RefD, RefE, SecU, SecN, SecP, SecQ, SecR, SecS, SecT, SecV, RefF, RefG, SecX, SecSt, SecY, SecZ, SecO, SecOb, SecD1, SecD2, SecD3. What each shows stands ahead of it. -/
import Derived.Test.YtgafefecookgaaaGSec
import Derived.Test.YtgafefecookgaaaGCore
import Derived.Test.YtgafefecookgaaaGArgs
import Derived.Stop.BytesEq
/- Layer 6, the document's disk: what it is in memory; off, took, nought, may. -/
namespace Go.Proofs.Ytgafefecookgaaa
open Go Go.Xr Go.RowKit
set_option linter.unusedVariables false
set_option linter.unusedSimpArgs false

theorem own_open {w : World} {size n : Nat} {v : Value} {xs : List Value} {B : Option Nat} (h : Xr.Own w size v n xs B) (hn : 0 < n) :
    ∃ b cap, B = some b ∧ v = .slice (some ⟨b, 0, none⟩) n cap ∧ n ≤ cap ∧ cap ≤ maxLen ∧ ∀ j, j < xs.length → w.cell? ⟨b, j, none⟩ = xs[j]? ∧ w.frozen? ⟨b, j, none⟩ = false := by
  rcases h.2 with ⟨_, h1, _⟩ | ⟨b, cap, cs, hB, hv, h1, h2, h3, h4, h5⟩
  · omega
  · refine ⟨b, cap, hB, hv, h1, h2, fun j hj => ⟨h.cellAt hB hj, h3.free j ?_⟩⟩
    rw [← h5, List.length_take] at hj
    omega

/-- The document's disk, as data. -/
structure XD where
  Kept : List ByteArray
  L : List (Nat × ByteArray)
  Trace : List Int
  Dead : Bool
/-- Where its parts lie. -/
structure XI where
  kv : Value
  lv : Value
  tv : Value
  K : Option Nat
  Lb : Option Nat
  T : Option Nat
def xlc (l : List (Nat × ByteArray)) : List Value := l.flatMap fun p => [.int .i64 (p.1 : Int), .string p.2]
def xps (x : Nat) (X : XD) (pw : Option (Nat × Nat)) (i : XI) : List Res :=
  [Res.blk x [i.kv, i.lv, i.tv, .bool X.Dead, pwv pw], Res.own 1 i.kv X.Kept.length (X.Kept.map .string) i.K, Res.own 2 i.lv X.L.length (xlc X.L) i.Lb, Res.own 1 i.tv X.Trace.length (X.Trace.map (.int .i64)) i.T]
def Res.xd (x : Nat) (X : XD) (pw : Option (Nat × Nat)) (F : List Nat) : Res := Res.ex F (xps x X pw)

def offB : Option (Nat × Nat) → Bool
  | some (_, 0) => true
  | _ => false

theorem xnought_any {w : World} : Calls Try.prog 45 #[] w fun e w' => e = .returned (.string ⟨zsec.toArray⟩) ∧ Fr [] w w' := by
  obtain ⟨i5, hi5, hz5, hs5, hb5⟩ := inf5
  have Hi := hid hi5
  have Hz := hid hz5
  have Hs := hid hs5
  have Hb := hid hb5
  clear hi5 hz5 hs5 hb5
  have HZ := hid (show zsec.length = 512 by unfold zsec; exact List.length_replicate)
  go_enter Try.func45, Try.ntmps45
  go_wp2_with (first
    | (refine wpList_make rfl _ _ _ rfl 512 512 .i64 .i64 rfl rfl 5 _ _ (bt 0) 1 1 Try.underlying49 Hi.out Hz.out Hs.out Hb.out rfl (by decide) (Nat.le_refl _) (by decide) (by decide) ?_; intro hb1; (try simp only [World.size_alloc, World.size_drew, Act.put, List.setIfInBounds_toArray, List.set_cons_succ, List.set_cons_zero]))
    | (refine wpList_string_of_bytes rfl _ _ 5 _ rfl 512 512 rfl hb1 zsec HZ.out (by unfold zsec; rw [bv_replicate, List.length_replicate, List.drop_zero, Nat.mul_one, List.take_replicate, Nat.min_self]) Try.underlying49 Try.underlying5 Try.underlying9 ?_; (try simp only [World.size_alloc, World.size_drew, Act.put, List.setIfInBounds_toArray, List.set_cons_succ, List.set_cons_zero])))
  go_ret
  exact ⟨rfl, (Fr.refl _ _).alloc _⟩

/-- What a call may. -/
def mayN (X : XD) (pw : Option (Nat × Nat)) (i : Int) (s : ByteArray) (wt : Bool) : Int :=
  if X.Dead || offB pw then 60 else if (decide (i < 0) || decide ((X.Kept.length : Int) ≤ i)) || (wt && !decide (s.size = 512)) then 2 else 0

theorem xlc_get (l : List (Nat × ByteArray)) (m : Nat) (hm : m < l.length) : (xlc l)[m * 2]? = some (.int .i64 (l[m].1 : Int)) ∧ (xlc l)[m * 2 + 1]? = some (.string l[m].2) := by
  induction l generalizing m with
  | nil => simp at hm
  | cons a l ih =>
    cases m with
    | zero => exact ⟨rfl, rfl⟩
    | succ m =>
      have e1 : (m + 1) * 2 = m * 2 + 2 := by omega
      have := ih m (by simpa using hm)
      rw [e1]
      exact this
theorem xlc_len (l : List (Nat × ByteArray)) : (xlc l).length = l.length * 2 := by
  induction l with
  | nil => rfl
  | cons a l ih =>
    show (xlc l).length + 2 = _
    rw [ih, List.length_cons]
    omega

/-- The newest of the writes to i, or what there was. -/
def nowX (L : List (Nat × ByteArray)) (i : Nat) (k : ByteArray) : ByteArray := L.foldl (fun a p => if p.1 = i then p.2 else a) k
theorem nowX_snoc (L : List (Nat × ByteArray)) (p : Nat × ByteArray) (i : Nat) (k : ByteArray) : nowX (L ++ [p]) i k = if p.1 = i then p.2 else nowX L i k := by
  unfold nowX
  rw [List.foldl_append]
  rfl

end Go.Proofs.Ytgafefecookgaaa

/- Layer 6, the document's disk: Read, Wire, Replace, Fail, Loose. -/
namespace Go.Proofs.Ytgafefecookgaaa
open Go Go.Xr Go.RowKit
set_option linter.unusedVariables false
set_option linter.unusedSimpArgs false

/-- May it do anything at all? -/
def xdead (X : XD) (pw : Option (Nat × Nat)) : Bool := X.Dead || offB pw

/-- A text of the disk is written. -/
theorem own_set {w : World} {v : Value} {n : Nat} {xs : List Value} {b : Nat} (h : Xr.Own w 1 v n xs (some b)) (j : Nat) (hj : j < n) (u : Value) : Xr.Own (w.setCell ⟨b, j, none⟩ u) 1 v n (xs.set j u) (some b) := by
  refine ⟨by rw [List.length_set]; exact h.1, ?_⟩
  rcases h.2 with ⟨_, _, h1⟩ | ⟨b', cap, cs, hB, hv, h1, h2, h3, h4, h5⟩
  · cases h1
  · cases hB
    exact .inr ⟨b, cap, cs.set j u, rfl, hv, h1, h2, h3.set j u, by rw [List.length_set]; exact h4, by rw [List.take_set, h5]⟩
theorem xset_kept {w w1 : World} {rs : List Res} {x : Nat} {X : XD} {pw : Option (Nat × Nat)} {i : XI} (e : Ev w rs w1 (xps x X pw i)) {kb : Nat} (hK : i.K = some kb) (m : Nat) (s : ByteArray) (hm : m < X.Kept.length) :
    Ev w rs (w1.setCell ⟨kb, m, none⟩ (.string s)) (xps x { X with Kept := X.Kept.set m s } pw i) := by
  have ho : Xr.Own w1 1 i.kv X.Kept.length (X.Kept.map .string) i.K := e.held.ownAt 1 rfl
  rw [hK] at ho
  have h2 := own_set ho m hm (.string s)
  rw [← List.map_set] at h2
  have e2 := e.at 1 rfl (S := [kb]) ((Fr.refl [kb] w1).setCell (a := ⟨kb, m, none⟩) (.inl (by simp)) (.string s)) (fun b hb => .inl (by simp at hb; simp [Res.own, hK, hb])) (Res.On.own h2) (fun b hb => .inl (by simp [Res.own] at hb; simp [Res.own, hK, hb]))
  have h3 : (xps x X pw i).set 1 (Res.own 1 i.kv X.Kept.length ((X.Kept.set m s).map .string) (some kb)) = xps x { X with Kept := X.Kept.set m s } pw i := by
    simp only [xps, List.set_cons_succ, List.set_cons_zero, List.length_set, hK]
  rw [← h3]
  exact e2
theorem set_rep (m : Nat) (z : ByteArray) (l : List ByteArray) (h : m < l.length) : (List.replicate m z ++ l.drop m).set m z = List.replicate (m + 1) z ++ l.drop (m + 1) := by
  rw [List.set_append_right _ _ (by simp), List.length_replicate, Nat.sub_self, List.drop_eq_getElem_cons h, List.set_cons_zero, List.replicate_succ', List.append_assoc]
  rfl

def Zs : ByteArray := ⟨zsec.toArray⟩

end Go.Proofs.Ytgafefecookgaaa

/- Layer 6, the document's disk: Write, Tamper, Loose. -/
namespace Go.Xr
open Go Go.RowKit
set_option linter.unusedVariables false
/-- A slice that is held has grown. -/
theorem xapp_ev {w w1 w3 : World} {rs rs1 : List Res} (e : Ev w rs w1 rs1) (k : Nat) {size n n' : Nat} {v v' : Value} {xs xs' : List Value} {B B' : Option Nat} (hk : rs1[k]? = some (Res.own size v n xs B)) (ho : Xr.Own w3 size v' n' xs' B') (f : Fr B.toList w1 w3) (hB : B' = B ∨ ∃ b, B' = some b ∧ w1.heap.size ≤ b) :
    Ev w rs w3 (rs1.set k (Res.own size v' n' xs' B')) :=
  e.at k hk f (fun b hb => .inl hb) (Res.On.own ho) (fun b hb => by
    rcases hB with rfl | ⟨b', rfl, hge⟩
    · exact .inl hb
    · simp [Res.own] at hb
      subst hb
      exact .inr hge)
/-- A block that is held has another cell. -/
theorem Ev.put {w w1 w2 : World} {rs rs1 : List Res} (a : Ev w rs w1 rs1) (i : Nat) {b : Nat} {cs cs' : List Value} (hi : rs1[i]? = some (Res.blk b cs)) (f : Fr [b] w1 w2) (hb : Blk w2 b cs') : Ev w rs w2 (rs1.set i (Res.blk b cs')) :=
  a.at i hi f (fun x hx => .inl hx) (Res.On.blk hb) (fun x hx => .inl hx)
/-- The value of an owned slice is set elsewhere: an own block of it is written. -/
theorem rc_blkS {w : World} {b n size : Nat} {xs : List Value} (hb : Blk w b xs) (hn : xs.length = n * size) (hm : n ≤ maxLen) : Rc w size (.slice (some ⟨b, 0, none⟩) n n) n xs (some b) := by
  refine ⟨hn, fun c hc => by cases hc; exact hb.lt, _, _, rfl, Nat.le_refl _, hm, fun _ => ⟨b, 0, rfl, rfl, fun j hj => ?_⟩⟩
  rw [hb.cell, Nat.zero_add]
end Go.Xr
namespace Go.Proofs.Ytgafefecookgaaa
open Go Go.Xr Go.RowKit
set_option linter.unusedVariables false
set_option linter.unusedSimpArgs false

set_option maxRecDepth 20000 in
theorem inf91 : ∃ i z, Try.prog.info? 179 = some i ∧ i.zero = some z ∧ i.size = 2 ∧ i.bytes = 24 ∧ z.cells.size = 2 := ⟨_, _, rfl, rfl, rfl, rfl, rfl⟩

theorem xlc_snoc (l : List (Nat × ByteArray)) (q : Nat) (s : ByteArray) : xlc (l ++ [(q, s)]) = xlc l ++ [.int .i64 (q : Int), .string s] := by simp [xlc]
end Go.Proofs.Ytgafefecookgaaa

/- Layer 6, the document's disk: Flush, Crash. -/
namespace Go.Xr
open Go Go.RowKit
/-- One element of an owned slice is written. -/
theorem own_put {w : World} {v : Value} {n : Nat} {xs : List Value} {b : Nat} (h : Xr.Own w 1 v n xs (some b)) : ∃ cs, Blk w b cs ∧ n ≤ cs.length ∧ ∀ (i : Nat) (x : Value) (w' : World), Blk w' b (cs.set i x) → Xr.Own w' 1 v n (xs.set i x) (some b) := by
  rcases h.2 with ⟨_, _, h1⟩ | ⟨b', cap, cs, hB, hv, h1, h2, h3, h4, h5⟩
  · cases h1
  · cases hB
    rw [Nat.mul_one] at h4 h5
    refine ⟨cs, h3, by omega, fun i x w' hb => ⟨by rw [List.length_set]; exact h.1, .inr ⟨b, cap, cs.set i x, rfl, hv, h1, h2, hb, by simp [h4], ?_⟩⟩⟩
    rw [Nat.mul_one, List.take_set, h5]
end Go.Xr
namespace Go.Proofs.Ytgafefecookgaaa
open Go Go.Xr Go.RowKit
set_option linter.unusedVariables false
set_option linter.unusedSimpArgs false
/-- The writes, one behind the other. -/
def setX (K : List ByteArray) (l : List (Nat × ByteArray)) : List ByteArray := l.foldl (fun K p => K.set p.1 p.2) K
theorem setX_snoc (K : List ByteArray) (l : List (Nat × ByteArray)) (p : Nat × ByteArray) : setX K (l ++ [p]) = (setX K l).set p.1 p.2 := by simp [setX]
theorem setX_len : ∀ (l : List (Nat × ByteArray)) (K : List ByteArray), (setX K l).length = K.length
  | [], K => rfl
  | p :: l, K => by
    show (setX (K.set p.1 p.2) l).length = _
    rw [setX_len l, List.length_set]
/-- Those that are kept. -/
def keptL : List (Nat × ByteArray) → List Bool → List (Nat × ByteArray)
  | [], _ => []
  | p :: l, ks => if ks.headD false then p :: keptL l ks.tail else keptL l ks.tail
theorem keptL_snoc : ∀ (l : List (Nat × ByteArray)) (ks : List Bool) (p : Nat × ByteArray), keptL (l ++ [p]) ks = keptL l ks ++ (if ks.getD l.length false then [p] else [])
  | [], ks, p => by
    cases ks with
    | nil => rfl
    | cons k ks => simp [keptL]
  | q :: l, ks, p => by
    rw [List.cons_append, keptL, keptL, keptL_snoc l ks.tail p]
    cases ks with
    | nil => simp
    | cons k ks => cases k <;> simp
end Go.Proofs.Ytgafefecookgaaa

/- Layer 6, the document's disk: a new one, Tamper, Loose. -/
namespace Go.Proofs.Ytgafefecookgaaa
open Go Go.Xr Go.RowKit
set_option linter.unusedVariables false
set_option linter.unusedSimpArgs false
/-- A new disk of the document, as data. -/
def newXD (n : Nat) : XD := ⟨List.replicate n Zs, [], [], false⟩
theorem xnew_bad {w : World} (n : Int) (h : n < 1 ∨ n > 16384) : Calls Try.prog 26 #[.int .i64 n] w fun e w' => e = .returned (.tuple #[.pointer none, .int .i64 2]) ∧ w' = w := by
  by_cases h1 : n < 1
  · have hd : decide (n < 1) = true := by simp; omega
    go_enter Try.func26, Try.ntmps26
    go_wp2_with fail
    go_ret2
    exact ⟨rfl, rfl⟩
  · have hd : decide (n < 1) = false := by simp; omega
    have hd1 : decide (16384 < n) = true := by simp; omega
    go_enter Try.func26, Try.ntmps26
    go_wp2_with fail
    go_ret2
    exact ⟨rfl, rfl⟩
set_option maxHeartbeats 1000000 in
set_option maxRecDepth 20000 in
theorem xnew_ok {w : World} (n : Nat) (h1 : 1 ≤ n) (h2 : n ≤ 16384) : Calls Try.prog 26 #[.int .i64 (n : Int)] w fun e w' => ∃ x i, e = .returned (.tuple #[.pointer (some ⟨x, 0, none⟩), .int .i64 0]) ∧ Ev w [] w' (xps x (newXD n) none i) := by
  obtain ⟨i9, hi9, hz9, hs9, hb9⟩ : ∃ i, Try.prog.info? 9 = some i ∧ i.zero = some (.string ⟨#[]⟩) ∧ i.size = 1 ∧ i.bytes = 16 := ⟨_, rfl, rfl, rfl, rfl⟩
  have Hi := hid hi9
  have Hz := hid hz9
  have Hs := hid hs9
  have Hb := hid hb9
  clear hi9 hz9 hs9 hb9
  have hd : decide ((n : Int) < 1) = false := by simp; omega
  have hd' : ¬ ((n : Int) < 1) := by omega
  have hd1 : decide (16384 < (n : Int)) = false := by simp; omega
  have hd1' : ¬ (16384 < (n : Int)) := by omega
  go_enter Try.func26, Try.ntmps26
  go_wp2_with (refine wpList_box rfl _ _ rfl [.slice none 0 0, .slice none 0 0, .slice none 0 0, .bool false, .pointer none] rfl ?_; intro w1 f1 hlt1 hb1; simp only [World.size_alloc, World.size_drew, Act.put, List.setIfInBounds_toArray, List.set_cons_succ, List.set_cons_zero])
  obtain ⟨x, hx⟩ : ∃ x, w.heap.size = x := ⟨_, rfl⟩
  have e1 : Ev w [] w1 (xps x (newXD 0) none ⟨.slice none 0 0, .slice none 0 0, .slice none 0 0, none, none, none⟩) := by
    rw [hx] at hb1
    have a1 := (Ev.start w).new f1 (Res.On.own (Own.nil w1 1)) (by simp [Res.own])
    have a2 := a1.new (Fr.refl [] _) (Res.On.own (Own.nil w1 2)) (by simp [Res.own])
    have a3 := a2.new (Fr.refl [] _) (Res.On.own (Own.nil w1 1)) (by simp [Res.own])
    refine ⟨a3.held.new (Res.On.blk hb1) (by simp [Res.blk, Res.own]), f1, ?_⟩
    intro b hb
    refine .inr ?_
    simp [feetOf, xps, Res.blk, Res.own] at hb
    omega
  have E1 := hid e1
  rw [hx]
  clear e1 hb1 f1 hlt1 hx
  go_loopw [5] (fun kv wr => ∃ (m : Nat) (v : Value) (K : Option Nat), kv = .int .i64 (m : Int) ∧ m ≤ n ∧ Ev w [] wr (xps x (newXD m) none ⟨v, .slice none 0 0, .slice none 0 0, K, none, none⟩)) (fun kv _ => n - (intOf kv).toNat)
  case atStart => exact ⟨0, _, none, rfl, Nat.zero_le _, E1.out⟩
  case round =>
    obtain ⟨m, v, K, rfl, hm, ev⟩ := hrel
    clear E1
    by_cases hmn : m < n
    · have g1 : decide ((m : Int) < (n : Int)) = true := by simp; omega
      have g1' : (m : Int) < (n : Int) := by omega
      have ho : Xr.Own wr 1 v (List.replicate m Zs).length ((List.replicate m Zs).map .string) K := ev.held.ownAt 1 rfl
      rw [List.length_replicate] at ho
      obtain ⟨va, vc, rfl⟩ := ho.isSlice
      have hb : Blk wr x [.slice va m vc, .slice none 0 0, .slice none 0 0, .bool false, .pointer none] := ev.held.blkAt 0 rfl
      have hxK : ∀ b, K = some b → b ≠ x := by
        intro b hb e
        subst hb
        exact ev.held.idx_ne (i := 1) (j := 0) (by decide) rfl rfl b (by simp [Res.own]) (by simp [Res.blk, e])
      have EV := hid ev
      have HO := hid ho
      clear ev ho
      go_wp2_with fail
      refine wp_region_D (fun w' => Blk w' x [.slice va m vc, .slice none 0 0, .slice none 0 0, .bool false, .pointer none]) true [] (by kernel_rfl) ?_
      refine WD.free [0, 1, 2, 3] (by kernel_rfl) hb.drew ?_
      simp only [pick, List.toList_toArray, List.map_cons, List.map_nil, List.getD_cons_succ, List.getD_cons_zero]
      repeat (first | (refine quiet_load_1R (by rfl) _ _ rfl rfl (.slice va m vc) (fun w0 h => h.cell 0) _ Try.underlying48 rfl ?_; simp only [World.size_alloc, World.size_drew, Act.put, List.setIfInBounds_toArray, List.set_cons_succ, List.set_cons_zero]) | go_big_quiet_step (fail))
      refine wpQuiet_nil ?_
      refine WD.held [4] (by kernel_rfl) hb.drew ?_
      simp only [pick, List.toList_toArray, List.map_cons, List.map_nil, List.getD_cons_succ, List.getD_cons_zero]
      repeat (first | (refine quiet_load_1R (by rfl) _ _ rfl rfl (.slice va m vc) (fun w0 h => h.cell 0) _ Try.underlying48 rfl ?_; simp only [World.size_alloc, World.size_drew, Act.put, List.setIfInBounds_toArray, List.set_cons_succ, List.set_cons_zero]) | go_big_quiet_step (fail))
      refine wpQuiet_nil ?_
      refine WD.eff 5 (by kernel_rfl) ?_
      simp only [pick, List.toList_toArray, List.map_cons, List.map_nil, List.getD_cons_succ, List.getD_cons_zero]
      have f0 : Fr [] wr wr.drew := (Fr.refl [] wr).drew
      go_wp2_with (go_at_call 45; refine xnought_any.mono ?_; rintro e w5 ⟨rfl, f5⟩)
      have b5 := f5.blk hb.drew (by simp)
      try refine wpList_nil ?_
      refine AfterD.on b5 (by kernel_rfl) ?_
      try simp only [World.size_alloc, World.size_drew, Act.put, List.setIfInBounds_toArray, List.set_cons_succ, List.set_cons_zero]
      refine WD.eff 6 (by kernel_rfl) ?_
      simp only [pick, List.toList_toArray, List.map_cons, List.map_nil, List.getD_cons_succ, List.getD_cons_zero]
      go_wp2_with (refine wpList_buildSlice_r rfl _ 1 _ rfl 9 Try.underlying48 _ _ Hi.out Hz.out rfl Hs.out (by decide) (by decide) (by decide) [.string Zs] rfl (by intro v hv; simp at hv; rcases hv with rfl; rfl) ?_; intro w6 f6 hlt6 hb6; simp only [World.size_alloc, World.size_drew, Act.put, List.setIfInBounds_toArray, List.set_cons_succ, List.set_cons_zero])
      have b6 := f6.blk b5 (by simp)
      try refine wpList_nil ?_
      refine AfterD.on b6 (by kernel_rfl) ?_
      try simp only [World.size_alloc, World.size_drew, Act.put, List.setIfInBounds_toArray, List.set_cons_succ, List.set_cons_zero]
      refine WD.eff 7 (by kernel_rfl) ?_
      simp only [pick, List.toList_toArray, List.map_cons, List.map_nil, List.getD_cons_succ, List.getD_cons_zero]
      have g6 := (f0.trans' f5).trans' f6
      go_wp2_with (refine wpList_append_rc rfl _ _ _ rfl 9 _ _ 1 16 Try.underlying48 Hi.out Hz.out Hs.out Hb.out rfl (by decide) rfl (HO.out.keep g6 (by simp)) rfl (rc_blk hb6 rfl (by decide)) (by intro u hu; simp at hu; subst hu; rfl) (by unfold maxLen; omega) (by omega) ?_; intro v7 w7 B7 ho7 f7 hB7; obtain ⟨wa, wc, rfl⟩ := ho7.isSlice; simp only [World.size_alloc, World.size_drew, Act.put, List.setIfInBounds_toArray, List.set_cons_succ, List.set_cons_zero])
      have b7 := f7.blk b6 (fun hb => hxK x (by simpa using hb) rfl)
      try refine wpList_nil ?_
      refine AfterD.on b7 (by kernel_rfl) ?_
      try simp only [World.size_alloc, World.size_drew, Act.put, List.setIfInBounds_toArray, List.set_cons_succ, List.set_cons_zero]
      refine WD.pure [8, 9] (by kernel_rfl) b7 ?_
      simp only [pick, List.toList_toArray, List.map_cons, List.map_nil, List.getD_cons_succ, List.getD_cons_zero]
      repeat (first | (refine quiet_load_1R (by rfl) _ _ rfl rfl (.slice va m vc) (fun w0 h => h.cell 0) _ Try.underlying48 rfl ?_; simp only [World.size_alloc, World.size_drew, Act.put, List.setIfInBounds_toArray, List.set_cons_succ, List.set_cons_zero]) | go_big_quiet_step (fail))
      refine wpQuiet_nil ?_
      refine WD.eff 10 (by kernel_rfl) ?_
      simp only [pick, List.toList_toArray, List.map_cons, List.map_nil, List.getD_cons_succ, List.getD_cons_zero]
      go_wp2_with (refine wpList_put rfl _ _ _ rfl rfl (.slice wa (m + 1) wc) rfl rfl b7 (by simp) (by kernel_rfl) ?_; intro w8 f8 b8 hs8; simp only [World.size_alloc, World.size_drew, Act.put, List.setIfInBounds_toArray, List.set_cons_succ, List.set_cons_zero])
      try refine wpList_nil ?_
      refine AfterD.end rfl (by kernel_rfl) ?_
      try simp only [World.size_alloc, World.size_drew, Act.put, List.setIfInBounds_toArray, List.set_cons_succ, List.set_cons_zero]
      refine WD.done (by kernel_rfl) ?_
      go_wp2_with fail
      go_roundw
      case rel =>
        refine ⟨m + 1, .slice wa (m + 1) wc, B7, by first | rfl | go_num, by omega, ?_⟩
        have e7 := xapp_ev (EV.out.step g6) 1 rfl ho7 f7 hB7
        have e8 := e7.put 0 rfl f8 b8
        have hx : xps x (newXD (m + 1)) none ⟨.slice wa (m + 1) wc, .slice none 0 0, .slice none 0 0, B7, none, none⟩ = [Res.blk x [.slice wa (m + 1) wc, .slice none 0 0, .slice none 0 0, .bool false, .pointer none], Res.own 1 (.slice wa (m + 1) wc) (m + 1) ((List.replicate m Zs).map .string ++ [.string Zs]) B7, Res.own 2 (.slice none 0 0) 0 [] none, Res.own 1 (.slice none 0 0) 0 [] none] := by
          unfold xps newXD
          simp only [List.length_replicate, List.replicate_succ', List.map_append, List.map_cons, List.map_nil, List.length_append, List.length_cons, List.length_nil]
          rfl
        rw [hx]
        exact e8
      case measure => simp [intOf]; omega
    · have g1 : decide ((m : Int) < (n : Int)) = false := by simp; omega
      have g1' : ¬ ((m : Int) < (n : Int)) := by omega
      have hmn2 : m = n := by omega
      rw [hmn2] at ev
      clear hmn2
      go_wp2_with fail
      go_ret2
      exact ⟨x, rfl, _, ev⟩
/-- What a Tamper answers. -/
def tamN (X : XD) (pw : Option (Nat × Nat)) (q : Int) (s : ByteArray) : Int := if xdead X pw then 60 else if 0 < X.L.length then 3 else mayN X pw q s true
/-- The numbers of the loose writes. -/
def xlooseV (X : XD) : List Value := X.L.map fun p => .int .i64 (p.1 : Int)
end Go.Proofs.Ytgafefecookgaaa

/- Layer 6, the pair of disks: the program's disk as told by the document's; each operation keeps them alike. -/
namespace Go.Proofs.Ytgafefecookgaaa
open Go Go.Xr Go.RowKit
set_option linter.unusedVariables false
set_option linter.unusedSimpArgs false
theorem beqS (a b : ByteArray) : (a.toList == b.toList) = decide (a = b) := by
  rw [Bool.eq_iff_iff]
  simp only [beq_iff_eq, decide_eq_true_eq, ByteArray.toList_eq]
  constructor
  · intro h
    apply ByteArray.ext
    apply Array.ext'
    exact h
  · intro h
    rw [h]
def nowL (X : XD) : List (List UInt8) := X.Kept.mapIdx fun i k => (nowX X.L i k).data.toList
/-- The program's disk, of the document's. -/
def dOf (X : XD) : SD := ⟨X.Kept.map (·.data.toList), nowL X, X.L.map fun p => (p.1, p.2.data.toList), X.Trace, X.Dead⟩
structure XGood (X : XD) : Prop where
  pos : 0 < X.Kept.length
  le : X.Kept.length ≤ 16384
  k512 : ∀ s ∈ X.Kept, s.size = 512
  l512 : ∀ p ∈ X.L, p.2.size = 512 ∧ p.1 < X.Kept.length
theorem nowL_len (X : XD) : (nowL X).length = X.Kept.length := by simp [nowL]
theorem nowL_get (X : XD) (i : Nat) (h : i < X.Kept.length) : (nowL X)[i]'(by rw [nowL_len]; exact h) = (nowX X.L i X.Kept[i]).data.toList := by simp [nowL]
theorem dOf_write (X : XD) (q : Nat) (s : ByteArray) (hq : q < X.Kept.length) :
    dOf { X with L := X.L ++ [(q, s)], Trace := X.Trace ++ [(q : Int)] } = { dOf X with now := (dOf X).now.set q s.data.toList, loose := (dOf X).loose ++ [(q, s.data.toList)], trace := (dOf X).trace ++ [(q : Int)] } := by
  simp only [dOf, SD.mk.injEq, true_and, List.map_append, List.map_cons, List.map_nil, and_true]
  apply List.ext_getElem (by simp [nowL])
  intro j h1 h2
  have hj : j < X.Kept.length := by simpa [nowL] using h1
  have e0 := nowL_get { X with L := X.L ++ [(q, s)], Trace := X.Trace ++ [(q : Int)] } j hj
  rw [e0, List.getElem_set, nowX_snoc]
  by_cases e : q = j
  · simp [e]
  · simp only [e, if_false]
    rw [nowL_get X j hj]
theorem set_set_get (K : List ByteArray) (a i : Nat) (s : ByteArray) (h : i < K.length) : (K.set a s)[i]'(by simpa using h) = if a = i then s else K[i] := List.getElem_set _
theorem setX_get : ∀ (l : List (Nat × ByteArray)) (K : List ByteArray) (i : Nat) (h : i < K.length) (h' : i < (l.foldl (fun K p => K.set p.1 p.2) K).length), (l.foldl (fun K p => K.set p.1 p.2) K)[i] = nowX l i K[i]
  | [], K, i, h, _ => rfl
  | p :: l, K, i, h, h' => by
    have e := setX_get l (K.set p.1 p.2) i (by simpa using h) h'
    show (l.foldl (fun K p => K.set p.1 p.2) (K.set p.1 p.2))[i] = _
    rw [e, set_set_get K p.1 i p.2 h]
    rfl
theorem setF_len : ∀ (l : List (Nat × ByteArray)) (K : List ByteArray), (l.foldl (fun K p => K.set p.1 p.2) K).length = K.length
  | [], K => rfl
  | p :: l, K => by
    rw [List.foldl_cons, setF_len l]
    simp
theorem setF_now (X : XD) : (X.L.foldl (fun K p => K.set p.1 p.2) X.Kept).map (·.data.toList) = nowL X := by
  apply List.ext_getElem (by rw [List.length_map, setF_len, nowL_len])
  intro j h1 h2
  have hj : j < X.Kept.length := by rw [nowL_len] at h2; exact h2
  rw [List.getElem_map, setX_get X.L X.Kept j hj, nowL_get X j hj]
theorem nowL_nil (K : List ByteArray) (T : List Int) (b : Bool) : nowL ⟨K, [], T, b⟩ = K.map (·.data.toList) := by
  apply List.ext_getElem (by simp [nowL])
  intro j h1 h2
  simp [nowL, nowX]
theorem dOf_flush (X : XD) : dOf { X with Kept := X.L.foldl (fun K p => K.set p.1 p.2) X.Kept, L := [], Trace := X.Trace ++ [-1] } = flushed (dOf X) := by
  simp only [dOf, flushed, nowL_nil, setF_now, List.map_nil]
/-- What a crash keeps. -/
theorem crashK_set : ∀ (L : List (Nat × ByteArray)) (ks : List Bool) (K : List ByteArray) (m : Nat), m = min ks.length L.length → ∀ (keep : List (Nat × ByteArray) → List Bool → List (Nat × ByteArray)), (∀ k, keep [] k = []) → (∀ p l k, keep (p :: l) k = if k.headD false then p :: keep l k.tail else keep l k.tail) →
    crashK (K.map (·.data.toList)) ((L.map fun p => (p.1, p.2.data.toList)).take m) (ks.take m) = ((keep L ks).foldl (fun K p => K.set p.1 p.2) K).map (·.data.toList)
  | [], ks, K, m, hm, keep, h0, h1 => by
    rw [h0]
    simp at hm
    subst hm
    simp [crashK]
  | p :: l, [], K, m, hm, keep, h0, h1 => by
    simp at hm
    subst hm
    have e : ∀ l : List (Nat × ByteArray), keep l [] = [] := by
      intro l
      induction l with
      | nil => exact h0 _
      | cons a l ih => rw [h1]; simpa using ih
    rw [e]
    simp [crashK]
  | p :: l, k :: ks, K, m, hm, keep, h0, h1 => by
    have hm' : m = min ks.length l.length + 1 := by simp only [List.length_cons] at hm; omega
    subst hm'
    rw [h1]
    simp only [List.map_cons, List.take_succ_cons, crashK, List.headD_cons, List.tail_cons]
    cases k with
    | false =>
      simp only [Bool.false_eq_true, if_false]
      exact crashK_set l ks K _ rfl keep h0 h1
    | true =>
      simp only [if_true, List.foldl_cons]
      have := crashK_set l ks (K.set p.1 p.2) _ rfl keep h0 h1
      rw [List.map_set] at this
      exact this
theorem XGood.write {X : XD} (h : XGood X) (q : Nat) (s : ByteArray) (hq : q < X.Kept.length) (hs : s.size = 512) (T : List Int) : XGood { X with L := X.L ++ [(q, s)], Trace := T } := by
  refine ⟨h.pos, h.le, h.k512, fun p hp => ?_⟩
  rcases List.mem_append.1 hp with h1 | h1
  · exact h.l512 p h1
  · obtain rfl := List.mem_singleton.1 h1
    exact ⟨hs, hq⟩
theorem setF_512 : ∀ (l : List (Nat × ByteArray)) (K : List ByteArray), (∀ s ∈ K, s.size = 512) → (∀ p ∈ l, p.2.size = 512) → ∀ s ∈ l.foldl (fun K p => K.set p.1 p.2) K, s.size = 512
  | [], K, h, _ => h
  | p :: l, K, h, hl => by
    refine setF_512 l _ (fun s hs => ?_) (fun q hq => hl q (List.mem_cons_of_mem _ hq))
    rcases List.mem_or_eq_of_mem_set hs with h1 | h1
    · exact h s h1
    · rw [h1]; exact hl p (by simp)
theorem XGood.sets {X : XD} (h : XGood X) (l : List (Nat × ByteArray)) (hl : ∀ p ∈ l, p.2.size = 512) (T : List Int) (b : Bool) : XGood ⟨l.foldl (fun K p => K.set p.1 p.2) X.Kept, [], T, b⟩ :=
  ⟨by rw [setF_len]; exact h.pos, by rw [setF_len]; exact h.le, setF_512 l _ h.k512 hl, fun p hp => by cases hp⟩
theorem XGood.tamper {X : XD} (h : XGood X) (q : Nat) (s : ByteArray) (hs : s.size = 512) : XGood { X with Kept := X.Kept.set q s } :=
  ⟨by simpa using h.pos, by simpa using h.le, fun t ht => by
    rcases List.mem_or_eq_of_mem_set ht with h1 | h1
    · exact h.k512 t h1
    · rw [h1]; exact hs, fun p hp => by simpa using h.l512 p hp⟩
theorem dOf_tamper (X : XD) (hL : X.L = []) (q : Nat) (s : ByteArray) : dOf { X with Kept := X.Kept.set q s } = { dOf X with kept := (dOf X).kept.set q s.data.toList, now := (dOf X).now.set q s.data.toList } := by
  obtain ⟨K, L, T, b⟩ := X
  obtain rfl : L = [] := hL
  simp only [dOf, nowL_nil, List.map_set]
theorem XGood.good {X : XD} (h : XGood X) : Good (dOf X) := by
  have hn : ∀ (i : Nat) (k : ByteArray) (l : List (Nat × ByteArray)), k.size = 512 → (∀ p ∈ l, p.2.size = 512) → (nowX l i k).size = 512 := by
    intro i k l
    induction l generalizing k with
    | nil => intro h _; exact h
    | cons p l ih =>
      intro hk hl
      refine ih (if p.1 = i then p.2 else k) ?_ (fun q hq => hl q (List.mem_cons_of_mem _ hq))
      split
      · exact hl p (by simp)
      · exact hk
  refine ⟨by simp [dOf, nowL_len], by simpa [dOf] using h.pos, by simpa [dOf] using h.le, fun s hs => ?_, fun s hs => ?_, fun p hp => ?_⟩
  · simp only [dOf, List.mem_map] at hs
    obtain ⟨k, hk, rfl⟩ := hs
    exact h.k512 k hk
  · obtain ⟨i, hi, rfl⟩ := List.getElem_of_mem hs
    have hi' : i < X.Kept.length := by have := nowL_len X; simp only [dOf] at hi; omega
    have e : (dOf X).now[i] = (nowX X.L i X.Kept[i]).data.toList := nowL_get X i hi'
    rw [e]
    exact hn i _ _ (h.k512 _ (List.getElem_mem hi')) (fun p hp => (h.l512 p hp).1)
  · simp only [dOf, List.mem_map] at hp
    obtain ⟨k, hk, rfl⟩ := hp
    obtain ⟨h1, h2⟩ := h.l512 k hk
    exact ⟨h1, by simpa [dOf] using h2⟩
end Go.Proofs.Ytgafefecookgaaa

/- Layer 6: a disk that is not there. -/
namespace Go.Proofs.Ytgafefecookgaaa
open Go Go.Xr Go.RowKit
set_option linter.unusedVariables false
set_option linter.unusedSimpArgs false

theorem able_nil (w : World) : Calls Try.prog 42 #[.pointer none] w fun e w' => e = .returned (.int .i64 1) ∧ w = w' := by
  go_enter Try.func42, Try.ntmps42
  go_wp2
  go_ret
  exact ⟨rfl, rfl⟩

theorem at_nil (w : World) (i : Int) (v : Value) : Calls Try.prog 62 #[.pointer none, .int .i64 i, v] w fun e w' => e = .returned (.int .i64 1) ∧ w = w' := by
  have ha := able_nil w
  go_enter Try.func62, Try.ntmps62
  go_wp2_with (go_at_call 42; refine ha.mono ?_; rintro e w' ⟨rfl, rfl⟩)
  go_ret
  exact ⟨rfl, rfl⟩

theorem write_nil (w : World) (i : Int) (s : ByteArray) : Calls Try.prog 49 #[.pointer none, .int .i64 i, .string s] w fun e w' => e = .returned (.int .i64 1) ∧ Fr [] w w' := by
  go_enter Try.func49, Try.ntmps49
  go_wp2_with (go_at_call 62; refine (at_nil _ _ _).mono ?_; rintro e w' ⟨rfl, rfl⟩)
  go_ret
  exact ⟨rfl, (Fr.refl _ _).alloc _⟩

theorem read_nil (w : World) (i : Int) : Calls Try.prog 55 #[.pointer none, .int .i64 i] w fun e w' => e = .returned (.tuple #[.string ⟨#[]⟩, .int .i64 1]) ∧ w = w' := by
  go_enter Try.func55, Try.ntmps55
  go_wp2_with (go_at_call 62; refine (at_nil _ _ _).mono ?_; rintro e w' ⟨rfl, rfl⟩)
  go_ret2
  exact ⟨rfl, rfl⟩

theorem flush_nil (w : World) : Calls Try.prog 52 #[.pointer none] w fun e w' => e = .returned (.int .i64 1) ∧ w = w' := by
  go_enter Try.func52, Try.ntmps52
  go_wp2_with (go_at_call 42; refine (able_nil _).mono ?_; rintro e w' ⟨rfl, rfl⟩)
  go_ret
  exact ⟨rfl, rfl⟩

theorem crash_nil (w : World) : Calls Try.prog 23 #[.pointer none , .slice none 0 0] w fun e w' => e = .returned (.int .i64 1) ∧ w = w' := by
  go_enter Try.func23, Try.ntmps23
  go_wp2_with (go_at_call 42; refine (able_nil _).mono ?_; rintro e w' ⟨rfl, rfl⟩)
  go_ret
  exact ⟨rfl, rfl⟩

theorem fail_nil (w : World) : Calls Try.prog 21 #[.pointer none] w fun e w' => e = .returned (.int .i64 1) ∧ w = w' := by
  go_enter Try.func21, Try.ntmps21
  go_wp2
  go_ret
  exact ⟨rfl, rfl⟩

theorem replace_nil (w : World) : Calls Try.prog 22 #[.pointer none] w fun e w' => e = .returned (.int .i64 1) ∧ w = w' := by
  go_enter Try.func22, Try.ntmps22
  go_wp2
  go_ret
  exact ⟨rfl, rfl⟩

theorem len_nil (w : World) : Calls Try.prog 51 #[.pointer none] w fun e w' => e = .returned (.int .i64 0) ∧ w = w' := by
  go_enter Try.func51, Try.ntmps51
  go_wp2
  go_ret
  exact ⟨rfl, rfl⟩

theorem dead_nil (w : World) : Calls Try.prog 20 #[.pointer none] w fun e w' => e = .returned (.bool false) ∧ w = w' := by
  go_enter Try.func20, Try.ntmps20
  go_wp2
  go_ret
  exact ⟨rfl, rfl⟩

end Go.Proofs.Ytgafefecookgaaa

/- Layer 6, sector: Wire, Replace, Len, Dead, Trace; a power. -/
namespace Go.Proofs.Ytgafefecookgaaa
open Go Go.Xr Go.RowKit
set_option linter.unusedVariables false
set_option linter.unusedSimpArgs false
/-- A disk's fields as cells, and its blocks held. -/
theorem Rep.open {w : World} {d : Nat} {D : SD} {pw : Option (Nat × Nat)} {F : List Nat} (h : Rep w d D pw F) :
    ∃ kc nc lv tv k n L T, F = feet d k n L T ∧ Held w (parts d D pw (.slice (some ⟨k, 0, none⟩) D.kept.length kc) (.slice (some ⟨n, 0, none⟩) D.now.length nc) lv tv k n L T) ∧ D.kept.length ≤ kc ∧ D.now.length ≤ nc := by
  obtain ⟨kv, nv, lv, tv, k, n, L, T, hF, H⟩ := h.held
  obtain ⟨kc, rfl, h1⟩ : ∃ cap, kv = .slice (some ⟨k, 0, none⟩) D.kept.length cap ∧ D.kept.length ≤ cap := by
    rcases (H.ownAt 1 rfl : Xr.Own w 512 kv D.kept.length (fl D.kept) (some k)).shape with ⟨_, _, _, h⟩ | ⟨b, cap, hb, h1, h2, h3⟩
    · cases h
    · cases hb; exact ⟨cap, h1, h2⟩
  obtain ⟨nc, rfl, h2⟩ : ∃ cap, nv = .slice (some ⟨n, 0, none⟩) D.now.length cap ∧ D.now.length ≤ cap := by
    rcases (H.ownAt 2 rfl : Xr.Own w 512 nv D.now.length (fl D.now) (some n)).shape with ⟨_, _, _, h⟩ | ⟨b, cap, hb, h1, h2, h3⟩
    · cases h
    · cases hb; exact ⟨cap, h1, h2⟩
  exact ⟨kc, nc, lv, tv, k, n, L, T, hF, H, h1, h2⟩
theorem replace_no {w : World} {d : Nat} {D : SD} {pw : Option (Nat × Nat)} {F : List Nat} (h : Rep w d D pw F) (hd : D.dead = false) :
    Calls Try.prog 22 #[.pointer (some ⟨d, 0, none⟩)] w fun e w' => e = .returned (.int .i64 3) ∧ w' = w := by
  obtain ⟨kc, nc, lv, tv, k, n, L, T, hF, H, h1, h2⟩ := h.open
  have hb : Blk w d [.slice (some ⟨k, 0, none⟩) D.kept.length kc, .slice (some ⟨n, 0, none⟩) D.now.length nc, lv, tv, .bool D.dead, pwv pw] := H.blkAt 0 rfl
  rw [hd] at hb
  have k0 := hb.cell 0
  have k4 := hb.cell 4
  have hsn := @Lib.run_eql_slice_nil
  clear h H hF hb
  go_enter Try.func22, Try.ntmps22
  go_wp2_with fail
  go_ret
  exact ⟨rfl, rfl⟩
theorem replace_ok {w : World} {d : Nat} {D : SD} {pw : Option (Nat × Nat)} {F : List Nat} (h : Rep w d D pw F) (hd : D.dead = true) :
    Calls Try.prog 22 #[.pointer (some ⟨d, 0, none⟩)] w fun e w' => e = .returned (.int .i64 0) ∧ Rep w' d { D with dead := false } pw F ∧ Fr [d] w w' := by
  have Hg := hid (show Good { D with dead := false } from ⟨h.good.same, h.good.pos, h.good.le, h.good.k512, h.good.n512, h.good.l512⟩)
  obtain ⟨kc, nc, lv, tv, k, n, L, T, hF, H, h1, h2⟩ := h.open
  have hb : Blk w d [.slice (some ⟨k, 0, none⟩) D.kept.length kc, .slice (some ⟨n, 0, none⟩) D.now.length nc, lv, tv, .bool D.dead, pwv pw] := H.blkAt 0 rfl
  rw [hd] at hb
  have k0 := hb.cell 0
  have k4 := hb.cell 4
  have hsn := @Lib.run_eql_slice_nil
  have HH := hid H
  have HF := hid hF
  clear h H hF
  go_enter Try.func22, Try.ntmps22
  go_wp2_with (refine wpList_put rfl _ _ _ rfl rfl (.bool false) rfl rfl hb (by simp) (by kernel_rfl) ?_; intro w4 f4 b4 hs4; simp only [World.size_alloc, World.size_drew, Act.put, List.setIfInBounds_toArray, List.set_cons_succ, List.set_cons_zero])
  go_ret
  refine ⟨rfl, ?_, f4⟩
  rw [HF.out]
  refine Rep.ofHeld (D := { D with dead := false }) (kv := .slice (some ⟨k, 0, none⟩) D.kept.length kc) (nv := .slice (some ⟨n, 0, none⟩) D.now.length nc) (lv := lv) (tv := tv) Hg.out ?_
  exact Held.setAt 0 HH.out rfl f4 (fun b hb => .inl (by simpa [Res.blk] using hb)) (Res.On.blk b4) (fun b hb => .inl (by simpa [Res.blk] using hb))
theorem dlen_any {w : World} {d : Nat} {D : SD} {pw : Option (Nat × Nat)} {F : List Nat} (h : Rep w d D pw F) :
    Calls Try.prog 51 #[.pointer (some ⟨d, 0, none⟩)] w fun e w' => e = .returned (.int .i64 (D.kept.length : Int)) ∧ w' = w := by
  obtain ⟨kc, nc, lv, tv, k, n, L, T, hF, H, h1, h2⟩ := h.open
  have hb : Blk w d [.slice (some ⟨k, 0, none⟩) D.kept.length kc, .slice (some ⟨n, 0, none⟩) D.now.length nc, lv, tv, .bool D.dead, pwv pw] := H.blkAt 0 rfl
  have k0 := hb.cell 0
  clear h H hF hb
  go_enter Try.func51, Try.ntmps51
  go_wp2_with fail
  go_ret
  exact ⟨rfl, rfl⟩
theorem dead_any {w : World} {d : Nat} {D : SD} {pw : Option (Nat × Nat)} {F : List Nat} (h : Rep w d D pw F) :
    Calls Try.prog 20 #[.pointer (some ⟨d, 0, none⟩)] w fun e w' => e = .returned (.bool D.dead) ∧ w' = w := by
  obtain ⟨kc, nc, lv, tv, k, n, L, T, hF, H, h1, h2⟩ := h.open
  have hb : Blk w d [.slice (some ⟨k, 0, none⟩) D.kept.length kc, .slice (some ⟨n, 0, none⟩) D.now.length nc, lv, tv, .bool D.dead, pwv pw] := H.blkAt 0 rfl
  have k4 := hb.cell 4
  clear h H hF hb
  go_enter Try.func20, Try.ntmps20
  go_wp2_with fail
  go_ret
  exact ⟨rfl, rfl⟩
end Go.Proofs.Ytgafefecookgaaa

/- Layer 6, sector: Fail. -/
namespace Go.Proofs.Ytgafefecookgaaa
open Go Go.Xr Go.RowKit
set_option linter.unusedVariables false
set_option linter.unusedSimpArgs false
def failed (D : SD) : SD := { D with kept := List.replicate D.kept.length zsec, now := List.replicate D.kept.length zsec, loose := [], dead := true }
theorem failed_good {D : SD} (h : Good D) : Good (failed D) := by
  have h2 := new_good D.kept.length h.pos h.le
  exact ⟨h2.same, h2.pos, h2.le, h2.k512, h2.n512, by simp [failed]⟩
set_option maxRecDepth 20000 in
theorem zs73 : ∃ i z, Try.prog.info? 80 = some i ∧ i.zero = some z ∧ z.cells.toList = List.replicate 512 (bt 0) := by
  refine ⟨_, _, rfl, rfl, ?_⟩
  kernel_rfl
theorem fail_ok {w : World} {d : Nat} {D : SD} {pw : Option (Nat × Nat)} {F : List Nat} (h : Rep w d D pw F) :
    Calls Try.prog 21 #[.pointer (some ⟨d, 0, none⟩)] w fun e w' => e = .returned (.int .i64 0) ∧ ∃ F', Rep w' d (failed D) pw F' ∧ Fr F w w' ∧ ∀ x ∈ F', x ∈ F ∨ w.heap.size ≤ x := by
  have Hg := hid (failed_good h.good)
  have hpos := h.good.pos
  have Hsame := hid h.good.same
  obtain ⟨kc, nc, lv, tv, k, n, L, T, hF, H, h1, h2⟩ := h.open
  obtain ⟨xs, hxs⟩ : ∃ xs, xs = fl D.kept := ⟨_, rfl⟩
  obtain ⟨ys, hys⟩ : ∃ ys, ys = fl D.now := ⟨_, rfl⟩
  obtain ⟨kl, hkl⟩ : ∃ kl, kl = D.kept.length := ⟨_, rfl⟩
  have HF := hid hF
  have Hkl := hid hkl
  unfold parts at H
  rw [← hxs, ← hys, ← Hsame.out, ← hkl] at H
  have H0 := hid H
  have hb : Blk w d [.slice (some ⟨k, 0, none⟩) kl kc, .slice (some ⟨n, 0, none⟩) kl nc, lv, tv, .bool D.dead, pwv pw] := H.blkAt 0 rfl
  have ok1 : Xr.Own w 512 (.slice (some ⟨k, 0, none⟩) kl kc) kl xs (some k) := H.ownAt 1 rfl
  rw [← hkl] at hpos
  have k0 := hb.cell 0
  have hsn := @Lib.run_eql_slice_nil
  obtain ⟨i73, z73, hi, hz, hzs⟩ := zs73
  have Hi := hid hi
  have Hz := hid hz
  have Hzs := hid hzs
  clear h H hF hxs hys hkl h1 h2 hi hz hzs hb
  go_enter Try.func21, Try.ntmps21
  go_wp2_with (first
    | (refine wpList_clear rfl _ _ rfl _ _ _ _ 512 Try.underlying64 Hi.out Hz.out Hzs.out (by decide) rfl hpos rfl ok1 ?_; intro w1 f1 o1' s1; simp only [World.size_alloc, World.size_drew, Act.put, List.setIfInBounds_toArray, List.set_cons_succ, List.set_cons_zero]
       have o1 : Xr.Own w1 512 (.slice (some ⟨k, 0, none⟩) kl kc) kl (List.replicate (kl * 512) (bt 0)) (some k) := o1'
       have H1 := hid (Held.setAt 1 H0.out rfl f1 (fun b hb => .inl (by simpa [Res.own] using hb)) (Res.On.own o1) (fun b hb => .inl (by simpa [Res.own] using hb)))
       have on1 : Xr.Own w1 512 (.slice (some ⟨n, 0, none⟩) kl nc) kl ys (some n) := H1.out.ownAt 2 rfl
       have hb1 : Blk w1 d [.slice (some ⟨k, 0, none⟩) kl kc, .slice (some ⟨n, 0, none⟩) kl nc, lv, tv, .bool D.dead, pwv pw] := H1.out.blkAt 0 rfl
       have k1 := hb1.cell 1
       clear hb1 ok1 k0)
    | (refine wpList_clear rfl _ _ rfl _ _ _ _ 512 Try.underlying64 Hi.out Hz.out Hzs.out (by decide) rfl hpos rfl on1 ?_; intro w2 f2 o2' s2; simp only [World.size_alloc, World.size_drew, Act.put, List.setIfInBounds_toArray, List.set_cons_succ, List.set_cons_zero]
       have o2 : Xr.Own w2 512 (.slice (some ⟨n, 0, none⟩) kl nc) kl (List.replicate (kl * 512) (bt 0)) (some n) := o2'
       have H2 := hid (Held.setAt 2 H1.out rfl f2 (fun b hb => .inl (by simpa [Res.own] using hb)) (Res.On.own o2) (fun b hb => .inl (by simpa [Res.own] using hb)))
       have hb2 : Blk w2 d [.slice (some ⟨k, 0, none⟩) kl kc, .slice (some ⟨n, 0, none⟩) kl nc, lv, tv, .bool D.dead, pwv pw] := H2.out.blkAt 0 rfl
       clear k1 on1)
    | (refine wpList_put rfl _ _ _ rfl rfl (.slice none 0 0) rfl rfl hb2 (by simp) (by kernel_rfl) ?_; intro w3 f3 b3 hs3; simp only [World.size_alloc, World.size_drew, Act.put, List.setIfInBounds_toArray, List.set_cons_succ, List.set_cons_zero])
    | (refine wpList_put rfl _ _ _ rfl rfl (.bool true) rfl rfl b3 (by simp) (by kernel_rfl) ?_; intro w4 f4 b4 hs4; simp only [World.size_alloc, World.size_drew, Act.put, List.setIfInBounds_toArray, List.set_cons_succ, List.set_cons_zero]))
  go_ret
  have f34 := f3.trans f4 (fun x hx => .inl hx)
  have H3 := Held.setAt 0 H2.out rfl f34 (fun b hb => .inl (by simpa [Res.blk] using hb)) (Res.On.blk b4) (fun b hb => .inl (by simpa [Res.blk] using hb))
  have H4 := Held.setAt 3 H3 rfl (Fr.refl [] w4) (by simp) (Res.On.own (Xr.Own.nil w4 513)) (by simp [Res.own])
  have f14 : Fr F w w4 := by
    rw [HF.out]
    refine ((f1.mono (fun x hx => .inl ?_)).trans (f2.mono (fun x hx => .inl ?_)) (fun x hx => .inl hx)).trans (f34.mono (fun x hx => .inl ?_)) (fun x hx => .inl hx) <;> (simp at hx; simp [feet, hx])
  refine ⟨rfl, feet d k n none T, ?_, f14, ?_⟩
  · refine Rep.ofHeld (D := failed D) (kv := .slice (some ⟨k, 0, none⟩) kl kc) (nv := .slice (some ⟨n, 0, none⟩) kl nc) (lv := .slice none 0 0) (tv := tv) Hg.out ?_
    unfold parts failed
    simp only [List.length_replicate, ← Hkl.out, fl_zero]
    exact H4
  · intro x hx
    rw [HF.out]
    simp [feet] at hx ⊢
    rcases hx with hx | hx | hx | hx <;> simp [hx]
end Go.Proofs.Ytgafefecookgaaa

/- Layer 6, sector: Tamper. -/
namespace Go.Xr
open Go Go.RowKit
/-- '(*[n]T)(b)', in a region that draws its order. -/
theorem quiet_arrayAt {P : Program} {ops : Array Oper} {S : World → Prop} {a : Act} {o : Oper} {rest : List Oper} {Q' : Act → Prop} (hg : Region.wanted o (yielded ops a.tmps) = true) (t : TypeId) (x : Operand) (ho : o.op = .sliceToArrayPointer t x) (n : Nat) (e : TypeId) (hu : P.underlying t = some (.array n e)) {ad : Option Addr} {l c : Nat} (hx : a.eval x = .slice ad l c) (hl : n ≤ l)
    (h : wpQuiet P ops S Q' rest (a.put o.dst (.pointer ad))) : wpQuiet P ops S Q' (o :: rest) a := by
  have hn : ¬ l < n := by omega
  refine wpQuiet_step fun K hK => ?_
  rw [if_pos hg]
  refine ⟨.pointer ad, fun w hC => ?_, hK _ h⟩
  unfold Oper.quietAt execOp
  simp only [ho, hx, Instr.arrayAt, Sem.run_bind, run_underlying hu, Result.andThen_ok, hn, if_false, Sem.run_pure]
  exact ⟨rfl, rfl⟩
end Go.Xr
namespace Go.Proofs.Ytgafefecookgaaa
open Go Go.Xr Go.RowKit
set_option linter.unusedVariables false
set_option linter.unusedSimpArgs false
/-- What a Tamper answers. -/
def tamC (D : SD) (pw : Option (Nat × Nat)) (i : Int) (s : ByteArray) : Int := if ableN D pw = 60 then 60 else if 0 < D.loose.length then 3 else atN D pw i (some s)
/-- A row of long elements: one is written. -/
theorem own_splice {w : World} {size : Nat} {v : Value} {n : Nat} {xs : List Value} {b : Nat} (h : Xr.Own w size v n xs (some b)) : ∃ cs, Blk w b cs ∧ n * size ≤ cs.length ∧ cs.take (n * size) = xs ∧
    ∀ (off : Nat) (vs : List Value) (w' : World), off + vs.length ≤ n * size → Blk w' b (splice cs off vs) → Xr.Own w' size v n (splice xs off vs) (some b) := by
  have hx := h.1
  rcases h.2 with ⟨_, _, h1⟩ | ⟨b', cap, cs, hB, hv, h1, h2, h3, h4, h5⟩
  · cases h1
  · cases hB
    have hle : n * size ≤ cap * size := Nat.mul_le_mul_right _ h1
    refine ⟨cs, h3, by omega, h5, fun off vs w' ho hb => ⟨by rw [splice_length _ _ _ (by omega)]; exact hx, .inr ⟨b, cap, _, rfl, hv, h1, h2, hb, by rw [splice_length _ _ _ (by omega)]; exact h4, by rw [take_splice _ _ _ _ ho, h5]⟩⟩⟩
set_option maxRecDepth 20000 in
theorem secT : AggT Try.prog 80 512 := ⟨_, Try.underlying80, rfl, rfl⟩
end Go.Proofs.Ytgafefecookgaaa

/- Layer 6, sector: Copy. -/
namespace Go.Proofs.Ytgafefecookgaaa
open Go Go.Xr Go.RowKit
set_option linter.unusedVariables false
set_option linter.unusedSimpArgs false
theorem wlc_one' (l : List (Nat × List UInt8)) : ∀ u ∈ wlc l, u.oneCell' = true := by
  intro u hu
  unfold wlc at hu
  obtain ⟨p, _, hp⟩ := List.mem_flatMap.1 hu
  rcases List.mem_cons.1 hp with rfl | hp
  · rfl
  · exact bv_one _ u hp
end Go.Proofs.Ytgafefecookgaaa

/- Layer 6, sector: Same. -/
namespace Go.Xr
open Go Go.RowKit
/-- A comparison, whatever it is, in a region that draws its order. -/
theorem quiet_bin_v {P : Program} {ops : Array Oper} {S : World → Prop} {a : Act} {o : Oper} {rest : List Oper} {Q' : Act → Prop} (hg : Region.wanted o (yielded ops a.tmps) = true) (op : BinOp) (t ty : TypeId) (x y : Operand) (ho : o.op = .binOp op t x y ty) (xv yv : Value) (hx : a.eval x = xv) (hy : a.eval y = yv) (v : Value)
    (hG : ∀ w, (eqGuard op t x y xv yv).run P w = .ok () w) (hr : ∀ w, (binOp op t xv yv).run P w = .ok v w) (h : wpQuiet P ops S Q' rest (a.put o.dst v)) : wpQuiet P ops S Q' (o :: rest) a := by
  refine wpQuiet_step fun K hK => ?_
  rw [if_pos hg]
  refine ⟨v, fun w hC => ?_, hK _ h⟩
  unfold Oper.quietAt execOp
  simp only [ho, hx, hy, Sem.run_bind, Sem.run_pure, Result.andThen_ok, hG w, hr w]
  exact ⟨rfl, rfl⟩
end Go.Xr
namespace Go.Proofs.Ytgafefecookgaaa
open Go Go.Xr Go.RowKit
set_option linter.unusedVariables false
set_option linter.unusedSimpArgs false
set_option maxRecDepth 20000 in
theorem run_neq_sec (xs ys : List UInt8) (hx : xs.length = 512) (hy : ys.length = 512) (w : World) :
    (binOp .neq 80 (.agg (bv xs).toArray) (.agg (bv ys).toArray)).run Try.prog w = .ok (.bool (!(xs == ys))) w := by
  have h := run_equalIn_bytes (P := Try.prog) w 9998 80 5 512 Try.underlying80 Try.underlying5 (fun w => rfl) xs ys hx hy
  rw [run_neq_struct]
  have e : ∀ l : List UInt8, bv l = l.map Go.Extern.Stop.cell := fun l => rfl
  rw [show (9998 + 2 : Nat) = 10000 from rfl, ← e xs, ← e ys] at h
  rw [h]
  rfl
set_option maxRecDepth 20000 in
theorem guard_sec (x y : Operand) (xs ys : Array Value) (w : World) : (eqGuard .neq 80 x y (.agg xs) (.agg ys)).run Try.prog w = .ok () w := run_eqGuard_agg w .neq _ x y xs ys (by kernel_rfl)
theorem row_at {cs : List Value} {l : List (List UInt8)} {n i : Nat} (h : cs.take (n * 512) = fl l) (h5 : ∀ s ∈ l, s.length = 512) (hi : i < l.length) (hn : l.length = n) : (cs.drop (i * 512)).take 512 = bv l[i] := by
  rw [← fl_drop l i hi h5, ← h, List.drop_take, List.take_take]
  congr 1
  omega
end Go.Proofs.Ytgafefecookgaaa

/- Layer 6, sector: Same. -/
namespace Go.Proofs.Ytgafefecookgaaa
open Go Go.Xr Go.RowKit
set_option linter.unusedVariables false
set_option linter.unusedSimpArgs false
end Go.Proofs.Ytgafefecookgaaa

/- Layer 6, the document's disk: Same. -/
namespace Go.Proofs.Ytgafefecookgaaa
open Go Go.Xr Go.RowKit
set_option linter.unusedVariables false
set_option linter.unusedSimpArgs false
def sameX (X Y : XD) : Bool := (X.Dead == Y.Dead && X.Kept.map (·.data.toList) == Y.Kept.map (·.data.toList)) && nowL X == nowL Y
theorem kept_at {w : World} {x : Nat} {X : XD} {pw : Option (Nat × Nat)} {i : XI} (h : Held w (xps x X pw i)) (q : Nat) (hq : q < X.Kept.length) : ∃ b c, i.kv = .slice (some ⟨b, 0, none⟩) X.Kept.length c ∧ w.cell? ⟨b, q, none⟩ = some (.string X.Kept[q]) := by
  have hko := (h.ownAt 1 rfl : Xr.Own w 1 i.kv X.Kept.length (X.Kept.map .string) i.K)
  obtain ⟨kb, kc, _, hkv, _, _, hkc⟩ := own_open hko (by omega)
  have hkq := (hkc q (by simpa using hq)).1
  rw [List.getElem?_map, List.getElem?_eq_getElem hq, Option.map_some] at hkq
  exact ⟨kb, kc, hkv, hkq⟩
end Go.Proofs.Ytgafefecookgaaa

/- Layer 6, the document's disk: Copy. -/
namespace Go.Proofs.Ytgafefecookgaaa
open Go Go.Xr Go.RowKit
set_option linter.unusedVariables false
set_option linter.unusedSimpArgs false
theorem xlc_one (l : List (Nat × ByteArray)) : ∀ u ∈ xlc l, u.oneCell' = true := by
  intro u hu
  obtain ⟨p, _, hu⟩ := List.mem_flatMap.1 hu
  simp at hu
  rcases hu with rfl | rfl <;> rfl
end Go.Proofs.Ytgafefecookgaaa

/- Layer 6: both disks side by side: what is held, and that their errors are one. -/
namespace Go.Proofs.Ytgafefecookgaaa
open Go Go.Xr Go.RowKit
set_option linter.unusedVariables false
set_option linter.unusedSimpArgs false
/-- A power with so much left, in a block; or none. -/
def mk (b : Nat) (lf : Option Nat) : Option (Nat × Nat) := lf.map fun l => (b, l)
theorem mk_dec (b : Nat) (lf : Option Nat) : pwDec (mk b lf) = mk b (lf.map (· - 1)) := by cases lf <;> rfl
theorem offB_mk (b c : Nat) (lf : Option Nat) : offB (mk b lf) = offB (mk c lf) := by
  match lf with
  | none => rfl
  | some 0 => rfl
  | some (l + 1) => rfl
theorem mayN_mk (X : XD) (b c : Nat) (lf : Option Nat) (i : Int) (s : ByteArray) (t : Bool) : mayN X (mk b lf) i s t = mayN X (mk c lf) i s t := by
  unfold mayN
  rw [offB_mk b c]
theorem ableN_mk (X : XD) (b c : Nat) (lf : Option Nat) : ableN (dOf X) (mk b lf) = if xdead X (mk c lf) then 60 else 0 := by
  unfold ableN xdead
  have e : (dOf X).dead = X.Dead := rfl
  rw [e]
  cases X.Dead with
  | true => rfl
  | false =>
    match lf with
    | none => rfl
    | some 0 => rfl
    | some (l + 1) => rfl
theorem outB_dOf (X : XD) (i : Int) : outB (dOf X) i = (decide (i < 0) || decide ((X.Kept.length : Int) ≤ i)) := by
  unfold outB
  simp [dOf]
theorem atN_mk (X : XD) (b c : Nat) (lf : Option Nat) (i : Int) (s : ByteArray) : atN (dOf X) (mk b lf) i (some s) = mayN X (mk c lf) i s true := by
  unfold atN mayN
  rw [ableN_mk X b c, outB_dOf]
  unfold xdead badT
  cases X.Dead || offB (mk c lf) <;> simp
theorem atN_mk0 (X : XD) (b c : Nat) (lf : Option Nat) (i : Int) (s : ByteArray) : atN (dOf X) (mk b lf) i none = mayN X (mk c lf) i s false := by
  unfold atN mayN
  rw [ableN_mk X b c, outB_dOf]
  unfold xdead badT
  cases X.Dead || offB (mk c lf) <;> simp
theorem tamC_mk (X : XD) (b c : Nat) (lf : Option Nat) (i : Int) (s : ByteArray) : tamC (dOf X) (mk b lf) i s = tamN X (mk c lf) i s := by
  unfold tamC tamN
  rw [ableN_mk X b c, atN_mk X b c]
  have e : (dOf X).loose.length = X.L.length := by simp [dOf]
  rw [e]
  cases xdead X (mk c lf) <;> simp
theorem mayN_cases (X : XD) (p : Option (Nat × Nat)) (i : Int) (s : ByteArray) (t : Bool) : mayN X p i s t = 0 ∨ mayN X p i s t = 60 ∨ mayN X p i s t = 2 := by
  unfold mayN
  split
  · exact .inr (.inl rfl)
  · split
    · exact .inr (.inr rfl)
    · exact .inl rfl
theorem mayN_ok {X : XD} {p : Option (Nat × Nat)} {i : Int} {s : ByteArray} {t : Bool} (h : mayN X p i s t = 0) : xdead X p = false ∧ (∃ q : Nat, i = (q : Int) ∧ q < X.Kept.length) ∧ (t = true → s.size = 512) := by
  unfold mayN at h
  unfold xdead
  cases hd : (X.Dead || offB p) with
  | true => rw [hd] at h; simp at h
  | false =>
    rw [hd] at h
    simp only [Bool.false_eq_true, if_false] at h
    split at h
    · simp at h
    · rename_i hn
      simp only [Bool.or_eq_true, not_or, decide_eq_true_eq, Bool.and_eq_true, Bool.not_eq_true', decide_eq_false_iff_not] at hn
      refine ⟨rfl, ⟨i.toNat, by omega, by omega⟩, fun ht => ?_⟩
      have := hn.2
      simpa [ht] using this

/-- Both disks, each with its power. -/
def pr (d : Nat) (D : SD) (pc : Option (Nat × Nat)) (F : List Nat) (x : Nat) (X : XD) (px : Option (Nat × Nat)) (i : XI) : List Res := [Res.pow pc, Res.disk d D pc F] ++ (Res.pow px :: xps x X px i)
section
variable {w0 w w' : World} {rs l : List Res} {d x : Nat} {D D' : SD} {pc pc' px px' : Option (Nat × Nat)} {F F' : List Nat} {X X' : XD} {i i' : XI}
theorem Held.prC (h : Held w (l ++ pr d D pc F x X px i)) : Held w [Res.pow pc, Res.disk d D pc F] := Held.part l (Res.pow px :: xps x X px i) (by rw [List.append_assoc]; exact h)
theorem Held.prX (h : Held w (l ++ pr d D pc F x X px i)) : Held w (Res.pow px :: xps x X px i) := Held.part (l ++ [Res.pow pc, Res.disk d D pc F]) [] (by rw [List.append_nil, List.append_assoc]; exact h)
theorem Held.xpsOf (h : Held w (Res.pow px :: xps x X px i)) : Held w (xps x X px i) := Held.part [Res.pow px] [] (by rw [List.append_nil]; exact h)
theorem Ev.prC (e : Ev w0 rs w (l ++ pr d D pc F x X px i)) (ev : Ev w [Res.pow pc, Res.disk d D pc F] w' [Res.pow pc', Res.disk d D' pc' F']) : Ev w0 rs w' (l ++ pr d D' pc' F' x X px i) := by
  have := Ev.then l (Res.pow px :: xps x X px i) (by rw [List.append_assoc]; exact e) ev
  rw [List.append_assoc] at this
  exact this
theorem Ev.prX (e : Ev w0 rs w (l ++ pr d D pc F x X px i)) (ev : Ev w (Res.pow px :: xps x X px i) w' (Res.pow px' :: xps x X' px' i')) : Ev w0 rs w' (l ++ pr d D pc F x X' px' i') := by
  have := Ev.then (l ++ [Res.pow pc, Res.disk d D pc F]) [] (by rw [List.append_nil, List.append_assoc]; exact e) ev
  rw [List.append_nil, List.append_assoc] at this
  exact this
theorem Ev.prX1 (e : Ev w0 rs w (l ++ pr d D pc F x X px i)) (ev : Ev w (xps x X px i) w' (xps x X' px i')) : Ev w0 rs w' (l ++ pr d D pc F x X' px i') := by
  refine Ev.prX e ?_
  have := Ev.part [Res.pow px] [] (by rw [List.append_nil]; exact Held.prX e.held) ev
  rw [List.append_nil] at this
  exact this
theorem Held.powOk (h : Held w [Res.pow pc, Res.disk d D pc F]) : pwOk w pc := h.at 0 rfl
theorem Held.rep (h : Held w [Res.pow pc, Res.disk d D pc F]) : Rep w d D pc F := h.at 1 rfl
theorem Held.powNe (h : Held w [Res.pow pc, Res.disk d D pc F]) : ∀ y ∈ pwF pc, y ∉ F := h.idx_ne (i := 0) (j := 1) (by decide) rfl rfl
/-- The code's disk and its power behind a call. -/
theorem Held.cdisk (h : Held w [Res.pow pc, Res.disk d D pc F]) (hr : Rep w' d D' pc' F') (hp : pwOk w' pc') (hpF : pwF pc' = pwF pc) (f : Fr (F ++ pwF pc) w w') (hF : ∀ y ∈ F', y ∈ F ∨ w.heap.size ≤ y) : Ev w [Res.pow pc, Res.disk d D pc F] w' [Res.pow pc', Res.disk d D' pc' F'] := by
  have hne : ∀ y ∈ pwF pc, y ∉ F ∧ y < w.heap.size := fun y hy => ⟨Held.powNe h y hy, h.lt (Res.pow pc) (by simp) y hy⟩
  have hf : feetOf [Res.pow pc, Res.disk d D pc F] = pwF pc ++ F := by simp [feetOf, Res.pow, Res.disk]
  refine ⟨(Held.one (On.disk hr)).new (On.pow hp) fun b hb r' hr' => ?_, f.mono (fun y hy => .inl ?_), fun b hb => ?_⟩
  · obtain rfl := List.mem_singleton.1 hr'
    intro hb'
    have hb : b ∈ pwF pc := by rw [← hpF]; exact hb
    have hb' : b ∈ F' := hb'
    obtain ⟨h1, h2⟩ := hne b hb
    rcases hF b hb' with h3 | h3
    · exact h1 h3
    · omega
  · rw [hf]
    simp only [List.mem_append] at hy ⊢
    exact hy.symm
  · have hf' : feetOf [Res.pow pc', Res.disk d D' pc' F'] = pwF pc' ++ F' := by simp [feetOf, Res.pow, Res.disk]
    rw [hf', hpF] at hb
    rw [hf]
    simp only [List.mem_append] at hb ⊢
    rcases hb with h1 | h1
    · exact .inl (.inl h1)
    · rcases hF b h1 with h2 | h2
      · exact .inl (.inr h2)
      · exact .inr h2
end
end Go.Proofs.Ytgafefecookgaaa

/- Layer 6: the steps that come in. -/
namespace Go.Proofs.Ytgafefecookgaaa
open Go Go.Xr Go.RowKit Go.ChangeShapes Go.WideShapes Go.Deep
set_option linter.unusedVariables false
set_option linter.unusedSimpArgs false

/-- A step, as data; 'Keep' is the slice as it lies, and what it holds. -/
structure StepD where
  Do : Int
  I : Int
  C : UInt8
  Text : ByteArray
  Keep : Value
  ks : List Bool
  KB : Option Nat
instance : Inhabited StepD := ⟨⟨0, 0, 0, ⟨#[]⟩, .slice none 0 0, [], none⟩⟩

def stc (s : StepD) : List Value := [.int .i64 s.Do, .int .i64 s.I, bt s.C, .string s.Text, s.Keep]
structure StOk (w : World) (s : StepD) : Prop where
  d1 : -9223372036854775808 ≤ s.Do
  d2 : s.Do ≤ 9223372036854775807
  i1 : -9223372036854775808 ≤ s.I
  i2 : s.I ≤ 9223372036854775807
  t : s.Text.size ≤ maxLen
  k : Rc w 1 s.Keep s.ks.length (s.ks.map .bool) s.KB
  kl : s.ks.length ≤ maxLen

theorem stc_len (a : StepD) : (stc a).length = 5 := rfl

/-- A cell of a row of steps that lies in memory. -/
theorem step_cell {w : World} {v : Value} {l : List StepD} {B : Option Nat} (h : Rc w 5 v l.length (l.flatMap stc) B) (i : Nat) (hi : i < l.length) :
    ∃ b off cap, v = .slice (some ⟨b, off, none⟩) l.length cap ∧ B = some b ∧ b < w.heap.size ∧ ∀ j, j < 5 → w.cell? ⟨b, off + i * 5 + j, none⟩ = (stc l[i])[j]? := by
  obtain ⟨b, off, cap, hB, hv, h1, h2, h3, h4⟩ := h.some (by omega)
  refine ⟨b, off, cap, hv, hB, h3, fun j hj => ?_⟩
  rw [← flat_get stc 5 stc_len l i j hi hj, Nat.add_assoc]
  exact h4 _ (by rw [Go.Xr.flat_len stc 5 stc_len]; omega)

end Go.Proofs.Ytgafefecookgaaa

/- Layer 6, the statements' own functions: bytes, ints. -/
namespace Go.Proofs.Ytgafefecookgaaa
open Go Go.Xr Go.RowKit
set_option linter.unusedVariables false
set_option linter.unusedSimpArgs false
def bytesS (s : StepD) : ByteArray := if s.Text.size = 0 then ⟨(fillL s.C s.I).toArray⟩ else s.Text
end Go.Proofs.Ytgafefecookgaaa

/- Layer 6, the statements' own function 'stands': both disks look the same. -/
namespace Go.Proofs.Ytgafefecookgaaa
open Go Go.Xr Go.RowKit
set_option linter.unusedVariables false
set_option linter.unusedSimpArgs false
section
variable {w : World} {l : List Res} {d x pb qb : Nat} {X : XD} {lf : Option Nat} {F : List Nat} {i : XI}
/-- A read of both disks. -/
def rdS (X : XD) (lf : Option Nat) (j : Int) : ByteArray := if mayN X (mk 0 lf) j ⟨#[]⟩ false = 0 then nowX X.L j.toNat (X.Kept.getD j.toNat ⟨#[]⟩) else ⟨#[]⟩
def rdC (X : XD) (lf : Option Nat) (j : Int) : Int := mayN X (mk 0 lf) j ⟨#[]⟩ false
theorem cread_any (h : Held w (l ++ pr d (dOf X) (mk pb lf) F x X (mk qb lf) i)) (hX : XGood X) (j : Int) (h1 : -9223372036854775808 ≤ j) (h2 : j ≤ 9223372036854775807) :
    Calls Try.prog 55 #[.pointer (some ⟨d, 0, none⟩), .int .i64 j] w fun e w' => e = .returned (.tuple #[.string (rdS X lf j), .int .i64 (rdC X lf j)]) ∧ w' = w := by
  have hc := Held.prC h
  have e0 : rdC X lf j = mayN X (mk 0 lf) j ⟨#[]⟩ false := rfl
  rcases mayN_cases X (mk 0 lf) j ⟨#[]⟩ false with h3 | h3
  · obtain ⟨hd, ⟨q, rfl, hq⟩, _⟩ := mayN_ok h3
    have hq' : q < (dOf X).now.length := by have := nowL_len X; simpa [dOf] using (by omega : q < (nowL X).length)
    have ha : ableN (dOf X) (mk pb lf) = 0 := by rw [ableN_mk X pb 0, hd]; rfl
    have := read_ok (Held.rep hc) (Held.powOk hc) q hq' ha
    refine this.mono ?_
    rintro e w' ⟨rfl, rfl⟩
    refine ⟨?_, rfl⟩
    have e1 : (dOf X).now[q] = (nowX X.L q X.Kept[q]).data.toList := nowL_get X q hq
    have e2 : rdS X lf (q : Int) = nowX X.L q X.Kept[q] := by
      unfold rdS
      rw [if_pos h3, Int.toNat_natCast]
      simp [hq]
    rw [e1, e0, h3, e2]
  · have h4 : atN (dOf X) (mk pb lf) j none = mayN X (mk 0 lf) j ⟨#[]⟩ false := atN_mk0 X pb 0 lf j _
    have := read_err (Held.rep hc) (Held.powOk hc) j h1 h2 _ h4 h3
    refine this.mono ?_
    rintro e w' ⟨rfl, rfl⟩
    have e2 : rdS X lf j = ⟨#[]⟩ := by
      unfold rdS
      rw [if_neg (by rcases h3 with h | h <;> omega)]
    rw [e0, e2]
    exact ⟨rfl, rfl⟩
end
end Go.Proofs.Ytgafefecookgaaa

/- Layer 6: each call of both disks, told alike. -/
namespace Go.Proofs.Ytgafefecookgaaa
open Go Go.Xr Go.RowKit
set_option linter.unusedVariables false
set_option linter.unusedSimpArgs false
def wrC (X : XD) (lf : Option Nat) (I : Int) (S : ByteArray) : Int := mayN X (mk 0 lf) I S true
def wrX (X : XD) (lf : Option Nat) (I : Int) (S : ByteArray) : XD := if wrC X lf I S = 0 then { X with L := X.L ++ [(I.toNat, S)], Trace := X.Trace ++ [I] } else X
def wrL (X : XD) (lf : Option Nat) (I : Int) (S : ByteArray) : Option Nat := if wrC X lf I S = 0 then lf.map (· - 1) else lf
def flC (X : XD) (lf : Option Nat) : Int := if xdead X (mk 0 lf) then 60 else 0
def flX (X : XD) (lf : Option Nat) : XD := if xdead X (mk 0 lf) then X else { X with Kept := setX X.Kept X.L, L := [], Trace := X.Trace ++ [-1] }
def flL (X : XD) (lf : Option Nat) : Option Nat := if xdead X (mk 0 lf) then lf else lf.map (· - 1)
def crX (X : XD) (ks : List Bool) : XD := if X.Dead then X else { X with Kept := setX X.Kept (keptL X.L ks), L := [] }
def faX (X : XD) : XD := { X with Kept := List.replicate X.Kept.length Zs, L := [], Dead := true }
def taC (X : XD) (lf : Option Nat) (I : Int) (S : ByteArray) : Int := tamN X (mk 0 lf) I S
def taX (X : XD) (lf : Option Nat) (I : Int) (S : ByteArray) : XD := if taC X lf I S = 0 then { X with Kept := X.Kept.set I.toNat S } else X
theorem offB_dec {lf : Option Nat} : (mk 0 lf).map (·.2) = lf := by cases lf <;> rfl
theorem pwF_mk_dec (b : Nat) (lf : Option Nat) : pwF (mk b (lf.map (· - 1))) = pwF (mk b lf) := by cases lf <;> rfl
section
variable {w : World} {l : List Res} {d x pb qb : Nat} {X Y : XD} {lf : Option Nat} {pc px : Option (Nat × Nat)} {D : SD} {F : List Nat} {i : XI}
theorem Ev.idle {w' : World} {rs : List Res} (h : Held w rs) (f : Fr [] w w') : Ev w rs w' rs := (Ev.refl h).step f
theorem cwrite_any (h : Held w (l ++ pr d (dOf X) (mk pb lf) F x Y px i)) (hX : XGood X) (hl : X.L.length < 1000000) (ht : X.Trace.length < 1000000) (I : Int) (h1 : -9223372036854775808 ≤ I) (h2 : I ≤ 9223372036854775807) (S : ByteArray) (hS : S.size ≤ 9223372036854775807) :
    Calls Try.prog 49 #[.pointer (some ⟨d, 0, none⟩), .int .i64 I, .string S] w fun e w' => e = .returned (.int .i64 (wrC X lf I S)) ∧ ∃ F', Ev w (l ++ pr d (dOf X) (mk pb lf) F x Y px i) w' (l ++ pr d (dOf (wrX X lf I S)) (mk pb (wrL X lf I S)) F' x Y px i) := by
  have hc := Held.prC h
  rcases mayN_cases X (mk 0 lf) I S true with h3 | h3
  · obtain ⟨hd, ⟨q, rfl, hq⟩, hs⟩ := mayN_ok h3
    have ha : ableN (dOf X) (mk pb lf) = 0 := by rw [ableN_mk X pb 0, hd]; rfl
    have e1 : wrC X lf q S = 0 := h3
    have e2 : wrX X lf q S = { X with L := X.L ++ [(q, S)], Trace := X.Trace ++ [(q : Int)] } := by unfold wrX; rw [if_pos e1, Int.toNat_natCast]
    have e3 : wrL X lf q S = lf.map (· - 1) := by unfold wrL; rw [if_pos e1]
    refine (write_ok (Held.rep hc) (Held.powOk hc) (Held.powNe hc) q (by simpa [dOf] using hq) S (hs rfl) ha (by simpa [dOf] using hl) (by simpa [dOf] using ht)).mono ?_
    rintro e w' ⟨rfl, F', hr, hp, f, hF⟩
    rw [e1, e2, e3, dOf_write X q S hq]
    rw [mk_dec] at hr hp
    exact ⟨rfl, F', Ev.prC (Ev.refl h) (Held.cdisk hc hr hp (pwF_mk_dec pb lf) f hF)⟩
  · have h4 : atN (dOf X) (mk pb lf) I (some S) = mayN X (mk 0 lf) I S true := atN_mk X pb 0 lf I S
    have hne : wrC X lf I S ≠ 0 := by show mayN X (mk 0 lf) I S true ≠ 0; rcases h3 with h | h <;> omega
    refine (write_err (Held.rep hc) (Held.powOk hc) I h1 h2 S hS _ h4 h3).mono ?_
    rintro e w' ⟨rfl, f⟩
    refine ⟨rfl, F, ?_⟩
    unfold wrX wrL
    rw [if_neg hne, if_neg hne]
    exact Ev.idle h f
theorem cflush_any (h : Held w (l ++ pr d (dOf X) (mk pb lf) F x Y px i)) (hX : XGood X) (ht : X.Trace.length < 1000000) :
    Calls Try.prog 52 #[.pointer (some ⟨d, 0, none⟩)] w fun e w' => e = .returned (.int .i64 (flC X lf)) ∧ ∃ F', Ev w (l ++ pr d (dOf X) (mk pb lf) F x Y px i) w' (l ++ pr d (dOf (flX X lf)) (mk pb (flL X lf)) F' x Y px i) := by
  have hc := Held.prC h
  have ha := ableN_mk X pb 0 lf
  unfold flC flX flL
  cases hd : xdead X (mk 0 lf) with
  | true =>
    rw [hd] at ha
    refine (flush_err (Held.rep hc) (Held.powOk hc) ha).mono ?_
    rintro e w' ⟨rfl, rfl⟩
    exact ⟨rfl, F, Ev.refl h⟩
  | false =>
    rw [hd] at ha
    refine (flush_ok (Held.rep hc) (Held.powOk hc) (Held.powNe hc) ha (by simpa [dOf] using ht)).mono ?_
    rintro e w' ⟨rfl, F', hr, hp, f, hF⟩
    rw [mk_dec] at hr hp
    have e1 : flushed (dOf X) = dOf { X with Kept := setX X.Kept X.L, L := [], Trace := X.Trace ++ [-1] } := (dOf_flush X).symm
    rw [e1] at hr
    exact ⟨rfl, F', Ev.prC (Ev.refl h) (Held.cdisk hc hr hp (pwF_mk_dec pb lf) f hF)⟩
theorem dOf_fail (X : XD) : dOf (faX X) = failed (dOf X) := by
  unfold faX failed dOf
  rw [nowL_nil]
  simp only [List.map_replicate, List.map_nil, List.length_map]
  rfl
theorem cfail_any (h : Held w (l ++ pr d (dOf X) pc F x Y px i)) :
    Calls Try.prog 21 #[.pointer (some ⟨d, 0, none⟩)] w fun e w' => e = .returned (.int .i64 0) ∧ ∃ F', Ev w (l ++ pr d (dOf X) pc F x Y px i) w' (l ++ pr d (dOf (faX X)) pc F' x Y px i) := by
  have hc := Held.prC h
  refine (fail_ok (Held.rep hc)).mono ?_
  rintro e w' ⟨rfl, F', hr, f, hF⟩
  rw [← dOf_fail] at hr
  have hp : pwOk w' pc := (On.pow (Held.powOk hc)).loc w w' (fun b hb hlt => f.block b hlt (Held.powNe hc b hb)) (Held.powOk hc)
  exact ⟨rfl, F', Ev.prC (Ev.refl h) (Held.cdisk hc hr hp rfl (f.mono (fun y hy => .inl (List.mem_append_left _ hy))) hF)⟩
theorem creplace_any (h : Held w (l ++ pr d (dOf X) pc F x Y px i)) :
    Calls Try.prog 22 #[.pointer (some ⟨d, 0, none⟩)] w fun e w' => e = .returned (.int .i64 (if X.Dead then 0 else 3)) ∧ Ev w (l ++ pr d (dOf X) pc F x Y px i) w' (l ++ pr d (dOf { X with Dead := false }) pc F x Y px i) := by
  have hc := Held.prC h
  cases hd : X.Dead with
  | true =>
    refine (replace_ok (Held.rep hc) hd).mono ?_
    rintro e w' ⟨rfl, hr, f⟩
    have hlt : d ∈ F := by obtain ⟨kc, nc, lv, tv, k, n, L, T, hF, _⟩ := (Held.rep hc).open; rw [hF]; simp [feet]
    have f2 : Fr F w w' := f.mono (fun y hy => .inl (by simp at hy; rw [hy]; exact hlt))
    have hp : pwOk w' pc := (On.pow (Held.powOk hc)).loc w w' (fun b hb hlt => f2.block b hlt (Held.powNe hc b hb)) (Held.powOk hc)
    exact ⟨rfl, Ev.prC (Ev.refl h) (Held.cdisk hc hr hp rfl (f2.mono (fun y hy => .inl (List.mem_append_left _ hy))) (fun y hy => .inl hy))⟩
  | false =>
    refine (replace_no (Held.rep hc) hd).mono ?_
    rintro e w' ⟨rfl, rfl⟩
    have e1 : ({ X with Dead := false } : XD) = X := by cases X; cases hd; rfl
    rw [e1]
    exact ⟨rfl, Ev.refl h⟩
theorem tamN_ok {p : Option (Nat × Nat)} {I : Int} {S : ByteArray} (h : tamN X p I S = 0) : X.L = [] ∧ mayN X p I S true = 0 := by
  unfold tamN at h
  split at h
  · simp at h
  · split at h
    · simp at h
    · rename_i h2
      exact ⟨List.length_eq_zero_iff.1 (by omega), h⟩
theorem taC_mk (X : XD) (lf : Option Nat) (b : Nat) (I : Int) (S : ByteArray) : tamN X (mk b lf) I S = taC X lf I S := by
  unfold taC tamN xdead
  rw [offB_mk b 0, mayN_mk X b 0]
end
end Go.Proofs.Ytgafefecookgaaa

/- Layer 6: Crash and Wire of both disks, told alike. -/
namespace Go.Proofs.Ytgafefecookgaaa
open Go Go.Xr Go.RowKit
set_option linter.unusedVariables false
set_option linter.unusedSimpArgs false
theorem dOf_crash (X : XD) (ks : List Bool) : crashed (dOf X) ks = dOf { X with Kept := setX X.Kept (keptL X.L ks), L := [] } := by
  have e := crashK_set X.L ks X.Kept (min ks.length X.L.length) rfl keptL (fun _ => by unfold keptL; rfl) (fun p l k => by rw [keptL])
  simp only [dOf, crashed, nowL_nil, List.map_nil, List.length_map]
  rw [e]
  rfl
theorem keptL_mem : ∀ (l : List (Nat × ByteArray)) (ks : List Bool), ∀ p ∈ keptL l ks, p ∈ l
  | [], _, p, h => by simp [keptL] at h
  | q :: l, ks, p, h => by
    rw [keptL] at h
    split at h
    · rcases List.mem_cons.1 h with h | h
      · simp [h]
      · exact List.mem_cons_of_mem _ (keptL_mem l _ p h)
    · exact List.mem_cons_of_mem _ (keptL_mem l _ p h)
section
variable {w w' : World} {l rs : List Res} {d x pb qb : Nat} {X Y : XD} {lf : Option Nat} {pc px : Option (Nat × Nat)} {D D' : SD} {F F' : List Nat} {i i' : XI}
theorem Ev.less {w1 : World} (a m : List Res) {r : Res} (e : Ev w rs w1 (a ++ r :: m)) : Ev w rs w1 (a ++ m) :=
  ⟨Held.drop a m e.held, e.fr, fun b hb => e.low b (by
    simp only [feetOf, List.flatMap_append, List.flatMap_cons, List.mem_append] at hb ⊢
    rcases hb with h | h
    · exact .inl h
    · exact .inr (.inr h))⟩
theorem pow0 (w : World) : (Res.pow none).On w := On.pow (pw := none) trivial
/-- The code's disk behind a call that cuts it off its power. -/
theorem Held.cdisk0 (h : Held w [Res.pow pc, Res.disk d D pc F]) (hr : Rep w' d D' none F') (f : Fr F w w') (hF : ∀ y ∈ F', y ∈ F ∨ w.heap.size ≤ y) : Ev w [Res.pow pc, Res.disk d D pc F] w' [Res.pow none, Res.disk d D' none F'] := by
  have hf : feetOf [Res.pow pc, Res.disk d D pc F] = pwF pc ++ F := by simp [feetOf, Res.pow, Res.disk]
  refine ⟨(Held.one (On.disk hr)).new (pow0 w') fun b hb r' hr' => by simp [Res.pow, pwF] at hb, f.mono (fun y hy => .inl ?_), fun b hb => ?_⟩
  · rw [hf]
    exact List.mem_append_right _ hy
  · have hb : b ∈ F' := by simpa [feetOf, Res.pow, Res.disk, pwF] using hb
    rw [hf]
    rcases hF b hb with h2 | h2
    · exact .inl (List.mem_append_right _ h2)
    · exact .inr h2
theorem ccrash_any (h : Held w (l ++ pr d (dOf X) pc F x Y px i)) (hl : X.L.length < 1000000) {v : Value} {ks : List Bool} {KB : Option Nat} (hk : Rc w 1 v ks.length (ks.map .bool) KB) (hKB : ∀ b, KB = some b → b ∉ F) (hkl : ks.length ≤ maxLen) :
    Calls Try.prog 23 #[.pointer (some ⟨d, 0, none⟩), v] w fun e w' => e = .returned (.int .i64 (if X.Dead then 60 else 0)) ∧ ∃ F', Ev w (l ++ pr d (dOf X) pc F x Y px i) w' (l ++ pr d (dOf (crX X ks)) none F' x Y px i) := by
  have hc := Held.prC h
  unfold crX
  cases hd : X.Dead with
  | true =>
    refine (crash_dead (Held.rep hc) v hd).mono ?_
    rintro e w' ⟨rfl, hr, f⟩
    exact ⟨rfl, F, Ev.prC (Ev.refl h) (Held.cdisk0 hc hr f (fun y hy => .inl hy))⟩
  | false =>
    refine (crash_ok (Held.rep hc) hd (by simpa [dOf] using hl) hk hKB hkl).mono ?_
    rintro e w' ⟨rfl, F', hr, f, hF⟩
    rw [dOf_crash] at hr
    rw [hd] at hr
    exact ⟨rfl, F', Ev.prC (Ev.refl h) (Held.cdisk0 hc hr f hF)⟩
theorem Ev.xps0 (h : Held w (Res.pow px :: xps x X px i)) {i' : XI} (ev : Ev w (xps x X px i) w' (xps x Y none i')) : Ev w (Res.pow px :: xps x X px i) w' (Res.pow none :: xps x Y none i') := by
  have e1 : Ev w (Res.pow px :: xps x X px i) w' (Res.pow px :: xps x Y none i') := by
    have := Ev.part [Res.pow px] [] (by rw [List.append_nil]; exact h) ev
    rw [List.append_nil] at this
    exact this
  exact ((Ev.less [] (xps x Y none i') e1)).new (Fr.refl _ _) (pow0 w') (fun b hb => by simp [Res.pow, pwF] at hb)
/-- A new power beside, to which both are wired. -/
def wiC (X : XD) (lf : Option Nat) : Int := if xdead X (mk 0 lf) then 60 else 0
def wiL (X : XD) (lf : Option Nat) (n : Nat) : Option Nat := if xdead X (mk 0 lf) then lf else some n
def wiB (X : XD) (lf : Option Nat) (pb p : Nat) : Nat := if xdead X (mk 0 lf) then pb else p
end
end Go.Proofs.Ytgafefecookgaaa

/- Layer 6, the statements' own function 'does': one call of both. -/
namespace Go.Proofs.Ytgafefecookgaaa
open Go Go.Xr Go.RowKit
set_option linter.unusedVariables false
set_option linter.unusedSimpArgs false
theorem bytesS_le (s : StepD) (h : s.Text.size ≤ 2000) : (bytesS s).size ≤ 2000 := by
  unfold bytesS
  split
  · show (fillL s.C s.I).toArray.size ≤ 2000
    rw [List.size_toArray, fillL_len]
    decide
  · exact h
section
variable {w : World} {d x pb qb : Nat} {X : XD} {lf : Option Nat} {F : List Nat} {i : XI} {I : Int} {C : UInt8} {T : ByteArray} {K : Value}
theorem Ev.unbox {w w' : World} {rs rs' : List Res} {b : Nat} {cs : List Value} (e : Ev w rs w' (Res.blk b cs :: rs')) : Ev w rs w' rs' := Ev.less [] rs' e
theorem boxed {w w1 : World} {rs : List Res} {cs : List Value} (h : Held w rs) (f : Fr [] w w1) (hb : Blk w1 w.heap.size cs) : Ev w rs w1 ([Res.blk w.heap.size cs] ++ rs) := (Ev.refl h).new f (Res.On.blk hb) (fun b hb => by simp [Res.blk] at hb; omega)
theorem boxAt {w1 : World} {rs : List Res} {b : Nat} {cs : List Value} (h : Held w1 ([Res.blk b cs] ++ rs)) : Blk w1 b cs := h.blkAt 0 rfl
end
end Go.Proofs.Ytgafefecookgaaa

/- Layer 6, the statements' own function 'does': Crash, Wire. -/
namespace Go.Proofs.Ytgafefecookgaaa
open Go Go.Xr Go.RowKit
set_option linter.unusedVariables false
set_option linter.unusedSimpArgs false
theorem Ev.perm {w w1 : World} {rs a b : List Res} (e : Ev w rs w1 a) (p : a.Perm b) : Ev w rs w1 b :=
  ⟨e.held.perm p, e.fr, fun x hx => e.low x ((p.flatMap_right _).mem_iff.2 hx)⟩
section
variable {w : World} {d x pb qb : Nat} {X : XD} {lf : Option Nat} {F : List Nat} {i : XI} {I : Int} {C : UInt8} {T : ByteArray} {K : Value}
end
end Go.Proofs.Ytgafefecookgaaa

/- Layer 6, the statements' own function 'does': whatever the call. -/
namespace Go.Proofs.Ytgafefecookgaaa
open Go Go.Xr Go.RowKit Go.ChangeShapes Go.WideShapes Go.Deep
set_option linter.unusedVariables false
set_option linter.unusedSimpArgs false
/-- What a call leaves of both. -/
structure Nxt (Do : Int) (X X' : XD) (lf lf' : Option Nat) (pb pb' qb qb' : Nat) : Prop where
  good : XGood X'
  len : X'.Kept.length = X.Kept.length
  L : X'.L.length ≤ X.L.length + 1
  T : X'.Trace.length ≤ X.Trace.length + 1
  pw : Do ≠ 3 → Do ≠ 8 → pb' = pb ∧ qb' = qb ∧ ∀ n, lf = some n → ∃ n', lf' = some n' ∧ n' + X'.Trace.length = n + X.Trace.length
theorem Nxt.same {Do : Int} {X : XD} {lf : Option Nat} {pb qb : Nat} (h : XGood X) : Nxt Do X X lf lf pb pb qb qb := ⟨h, rfl, by omega, by omega, fun _ _ => ⟨rfl, rfl, fun n hn => ⟨n, hn, rfl⟩⟩⟩
theorem zs_len : zsec.length = 512 := by unfold zsec; exact List.length_replicate
theorem XGood.dead {X : XD} (h : XGood X) (b : Bool) : XGood { X with Dead := b } := ⟨h.pos, h.le, h.k512, h.l512⟩
theorem faX_good {X : XD} (h : XGood X) : XGood (faX X) := ⟨by simpa [faX] using h.pos, by simpa [faX] using h.le, fun s hs => by
  simp only [faX] at hs
  rw [List.eq_of_mem_replicate hs]
  show zsec.toArray.size = 512
  rw [List.size_toArray]
  exact zs_len, fun p hp => by simp [faX] at hp⟩
theorem wr_nxt {X : XD} (h : XGood X) (lf : Option Nat) (pb qb : Nat) (I : Int) (S : ByteArray) : Nxt 0 X (wrX X lf I S) lf (wrL X lf I S) pb pb qb qb := by
  unfold wrX wrL
  by_cases hc : wrC X lf I S = 0
  · rw [if_pos hc, if_pos hc]
    obtain ⟨hd, ⟨q, rfl, hq⟩, hs⟩ := mayN_ok hc
    refine ⟨?_, rfl, by simp, by simp, fun _ _ => ⟨rfl, rfl, fun n hn => ?_⟩⟩
    · exact h.write (Int.toNat (q : Int)) S (by simpa using hq) (hs rfl) _
    · subst hn
      have hn0 : n ≠ 0 := by
        rintro rfl
        unfold xdead mk offB at hd
        simp at hd
      exact ⟨n - 1, rfl, by simp; omega⟩
  · rw [if_neg hc, if_neg hc]
    exact Nxt.same h
theorem fl_nxt {X : XD} (h : XGood X) (lf : Option Nat) (pb qb : Nat) : Nxt 2 X (flX X lf) lf (flL X lf) pb pb qb qb := by
  unfold flX flL
  cases hd : xdead X (mk 0 lf) with
  | true => exact Nxt.same h
  | false =>
    refine ⟨h.sets X.L (fun p hp => (h.l512 p hp).1) _ _, setX_len _ _, by simp, by simp, fun _ _ => ⟨rfl, rfl, fun n hn => ?_⟩⟩
    subst hn
    have hn0 : n ≠ 0 := by
      rintro rfl
      unfold xdead mk offB at hd
      simp at hd
    exact ⟨n - 1, rfl, by simp; omega⟩
theorem cr_good {X : XD} (h : XGood X) (ks : List Bool) : XGood (crX X ks) ∧ (crX X ks).Kept.length = X.Kept.length ∧ (crX X ks).L.length ≤ X.L.length ∧ (crX X ks).Trace = X.Trace := by
  unfold crX
  cases X.Dead with
  | true => exact ⟨h, rfl, Nat.le_refl _, rfl⟩
  | false => exact ⟨h.sets (keptL X.L ks) (fun p hp => (h.l512 p (keptL_mem _ _ p hp)).1) _ _, setX_len _ _, by simp, rfl⟩
theorem cr_nxt {X : XD} (h : XGood X) (ks : List Bool) (lf lf' : Option Nat) (a b c d : Nat) : Nxt 3 X (crX X ks) lf lf' a b c d := by
  obtain ⟨h1, h2, h3, h4⟩ := cr_good h ks
  exact ⟨h1, h2, by omega, by rw [h4]; omega, fun h => absurd rfl h⟩
theorem ta_nxt {X : XD} (h : XGood X) (lf : Option Nat) (pb qb : Nat) (I : Int) (S : ByteArray) : Nxt 6 X (taX X lf I S) lf lf pb pb qb qb := by
  unfold taX
  by_cases hc : taC X lf I S = 0
  · rw [if_pos hc]
    obtain ⟨hL, hm⟩ := tamN_ok (X := X) hc
    obtain ⟨hd, ⟨q, rfl, hq⟩, hs⟩ := mayN_ok hm
    exact ⟨h.tamper _ S (hs rfl), by simp, by simp, by simp, fun _ _ => ⟨rfl, rfl, fun n hn => ⟨n, hn, rfl⟩⟩⟩
  · rw [if_neg hc]
    exact Nxt.same h
theorem wi_nxt {X : XD} (h : XGood X) (lf lf' : Option Nat) (a b c d : Nat) : Nxt 8 X X lf lf' a b c d := ⟨h, rfl, by omega, by omega, fun _ h => absurd rfl h⟩
def StWide (w : World) (s : StepD) : Prop := StOk w s ∧ s.ks.length ≤ 140737488351232
end Go.Proofs.Ytgafefecookgaaa
