/- Layer 22: a channel in memory; New. -/
import Derived.Test.YtneoagelcjfanaaGreatDoorChB
import Derived.Test.YtneoagelcjfanaaGreatDoorEv
import Derived.Test.YtneoagelcjfanaaGreatDoorIdx
namespace Go.Proofs.YtneoagelcjfanaaGreatDoor.chn
open Go Go.Xr Go.RowKit Go.Proofs.YtneoagelcjfanaaGreatDoor Go.Proofs.YtneoagelcjfanaaGreatDoor.rcd
set_option linter.unusedVariables false
set_option linter.unusedSimpArgs false
/-- The keys and labels of both ways. -/
structure CH where
  co : ByteArray
  mo : ByteArray
  lo : ByteArray
  ci : ByteArray
  mi : ByteArray
  li : ByteArray
def chOf (m : ByteArray) (x : UInt64) (server : Bool) : CH := ⟨keyC m (labS x (!server)), keyM m (labS x (!server)), labS x (!server), keyC m (labS x server), keyM m (labS x server), labS x server⟩
/-- What changes of a channel. -/
structure CHS where
  ns : UInt64
  no : UInt64
  held : ByteArray
  oc : Bool
  cl : Bool
def CHS.init : CHS := ⟨0, 0, ⟨#[]⟩, false, false⟩
def chL (s o : Nat) (held : ByteArray) (cl : Bool) : List Value := [.pointer (some ⟨s, 0, none⟩), .pointer (some ⟨o, 0, none⟩), .string held, .bool cl]
def chR (cb s o : Nat) (K : CH) (S : CHS) : List Res := [Res.blk cb (chL s o S.held S.cl), Res.blk s (slL K.co K.mo K.lo S.ns), Res.blk o (opL K.ci K.mi K.li S.no S.oc)]
/-- The keys may be. -/
structure KOk (K : CH) : Prop where
  ko : mayS K.co K.mo = true
  ki : mayS K.ci K.mi = true
  lo : K.lo.size ≤ 30
  li : K.li.size ≤ 30
theorem chOf_ok (m : ByteArray) (x : UInt64) (b : Bool) : KOk (chOf m x b) :=
  ⟨by simp [chOf, mayS, keyC_size, keyM_size], by simp [chOf, mayS, keyC_size, keyM_size], labS_size _ _, labS_size _ _⟩
theorem kT2 : (Tryz.prog.info? 45).map (·.size) = some 2 := by
  obtain ⟨d, hu, hd, hs⟩ := keyAT
  exact hs
set_option maxRecDepth 20000 in
set_option maxHeartbeats 2000000 in
theorem cnew_bad (m : ByteArray) (x : UInt64) (b : Bool) (w : World) (h : TB w) (hm : m.size ≠ 32) (hs : m.size ≤ 9223372036854775807) :
    Calls Tryz.prog 8 #[.string m, W64 x, .bool b] w fun e w' => e = .returned (.tuple #[.pointer none, .int .i64 2]) ∧ Fr [] w w' := by
  have HL := hid fun (w1 : World) (f : Fr [] w w1) => label_any x true w1 (h.keep f)
  have HK := hid fun w1 : World => keys_bad (w := w1) m (labS x true) hm hs
  generalize labS x true = l1 at *
  clear h hm hs
  go_enter Tryz.func8, Tryz.ntmps8
  go_wp2_with fail
  go_loopw [17] (fun iv wr => iv = .int .i64 0 ∧ Hid (Fr [] w wr)) (fun iv _ => 2 - (intOf iv).toNat)
  case atStart => exact ⟨rfl, hid ((Fr.refl [] w).alloc _)⟩
  case round =>
    obtain ⟨rfl, F0⟩ := hrel
    go_wp2_with (first
      | (refine wpList_index_one rfl _ _ _ rfl 4 _ 2 Tryz.underlying56 Tryz.underlying4 rfl (by rfl) [.bool true, .bool false] rfl .i64 0 0 rfl rfl (.bool true) (by decide) rfl ?_; simp only [World.size_alloc, World.size_drew, Act.put, List.setIfInBounds_toArray, List.set_cons_succ, List.set_cons_zero])
      | (go_at_call 21; refine (HL.out _ F0.out).mono ?_; rintro e w1 ⟨rfl, f1⟩; have F1 := hid (F0.out.trans' f1); clear f1 HL F0)
      | (go_at_call 22; refine (HK.out _).mono ?_; rintro e w2 ⟨rfl, f2⟩; have F2 := hid (F1.out.trans' f2); clear f2 HK F1)
      | (refine wpList_store_ag rfl _ _ _ rfl rfl [.string ⟨#[]⟩, .string ⟨#[]⟩] rfl (Blk.alloc w2 [.string ⟨#[]⟩, .string ⟨#[]⟩] _) keyAT rfl (by simp) (by simp [Value.oneCell']) ?_; intro w3 f3 b3 hs3; have F3 := hid (F2.out.trans (((Fr.refl [] w2).alloc _).trans f3 (fun x hx => .inr (by simp at hx; omega))) (fun x hx => .inl hx)); clear f3 b3 F2; simp only [World.size_alloc, World.size_drew, Act.put, List.setIfInBounds_toArray, List.set_cons_succ, List.set_cons_zero]))
    go_ret2
    exact ⟨rfl, F3.out⟩
set_option maxRecDepth 20000 in
set_option maxHeartbeats 4000000 in
theorem cnew_true (m : ByteArray) (x : UInt64) (w : World) (h : TB w) (hm : m.size = 32) :
    Calls Tryz.prog 8 #[.string m, W64 x, .bool true] w fun e w' => ∃ cb s o, e = .returned (.tuple #[.pointer (some ⟨cb, 0, none⟩), .int .i64 0]) ∧ Ev w [] w' (chR cb s o (chOf m x true) CHS.init) := by
  have HL1 := hid fun (w1 : World) (f : Fr [] w w1) => label_any x true w1 (h.keep f)
  have HL2 := hid fun (w1 : World) (f : Fr [] w w1) => label_any x false w1 (h.keep f)
  have HK1 := hid fun w1 : World => keys_any (w := w1) m (labS x true) hm (by have := labS_size x true; omega)
  have HK2 := hid fun w1 : World => keys_any (w := w1) m (labS x false) hm (by have := labS_size x false; omega)
  have HN1 := hid fun w1 : World => newO_any (w := w1) (keyC m (labS x true)) (keyM m (labS x true)) (labS x true) (by rw [keyC_size]; decide) (by rw [keyM_size]; decide) (by simp [mayS, keyC_size, keyM_size])
  have HN2 := hid fun w1 : World => newS_any (w := w1) (keyC m (labS x false)) (keyM m (labS x false)) (labS x false) (by rw [keyC_size]; decide) (by rw [keyM_size]; decide) (by simp [mayS, keyC_size, keyM_size])
  unfold chOf
  simp only [Bool.not_true, Bool.not_false]
  generalize keyC m (labS x true) = C1 at *
  generalize keyM m (labS x true) = M1 at *
  generalize keyC m (labS x false) = C2 at *
  generalize keyM m (labS x false) = M2 at *
  generalize labS x true = l1 at *
  generalize labS x false = l2 at *
  clear h hm
  go_enter Tryz.func8, Tryz.ntmps8
  go_wp2_with fail
  have E0 := hid ((Ev.start w).new ((Fr.refl [] w).alloc (.cells #[.pointer none, .pointer none, .string ⟨#[]⟩, .bool false] 55)) (Res.On.blk (Blk.alloc w [.pointer none, .pointer none, .string ⟨#[]⟩, .bool false] 55)) (fun b hb => by simp [Res.blk] at hb; omega))
  generalize w.heap.size = cb at *
  go_loopw [17] (fun iv wr => (iv = .int .i64 0 ∧ Hid (Ev w [] wr [Res.blk cb [.pointer none, .pointer none, .string ⟨#[]⟩, .bool false]])) ∨ (iv = .int .i64 1 ∧ ∃ p, Hid (Ev w [] wr [Res.blk p (opL C1 M1 l1 0 false), Res.blk cb ([.pointer none, .pointer none, .string ⟨#[]⟩, .bool false].set 1 (.pointer (some ⟨p, 0, none⟩)))])) ∨
      (iv = .int .i64 2 ∧ ∃ p q, Hid (Ev w [] wr [Res.blk q (slL C2 M2 l2 0), Res.blk p (opL C1 M1 l1 0 false), Res.blk cb (([.pointer none, .pointer none, .string ⟨#[]⟩, .bool false].set 1 (.pointer (some ⟨p, 0, none⟩))).set 0 (.pointer (some ⟨q, 0, none⟩)))]))) (fun iv _ => 2 - (intOf iv).toNat)
  case atStart => exact .inl ⟨rfl, E0⟩
  case round =>
    clear E0
    rcases hrel with ⟨rfl, E⟩ | ⟨rfl, p, E⟩ | ⟨rfl, p, q, E⟩
    · go_wp2_with (first
        | (refine wpList_index_one rfl _ _ _ rfl 4 _ 2 Tryz.underlying56 Tryz.underlying4 rfl (by rfl) [.bool true, .bool false] rfl .i64 0 0 rfl rfl (.bool true) (by decide) rfl ?_; simp only [World.size_alloc, World.size_drew, Act.put, List.setIfInBounds_toArray, List.set_cons_succ, List.set_cons_zero])
        | (go_at_call 21; refine (HL1.out _ E.out.nil).mono ?_; rintro e w1 ⟨rfl, f1⟩; have E1 := hid (E.out.step f1); clear f1 HL1 E)
        | (go_at_call 22; refine (HK1.out _).mono ?_; rintro e w2 ⟨rfl, f2⟩; have E2 := hid (E1.out.step f2); clear f2 HK1 E1)
        | (refine wpList_store_ag rfl _ _ _ rfl rfl [.string C1, .string M1] rfl (Blk.alloc w2 [.string ⟨#[]⟩, .string ⟨#[]⟩] _) keyAT rfl (by simp) (by simp [Value.oneCell']) ?_; intro w3 f3 b3 hs3; have b3' : Blk w3 w2.heap.size [.string C1, .string M1] := b3; have E3 := hid (E2.out.step (((Fr.refl [] w2).alloc _).trans f3 (fun x hx => .inr (by simp at hx; omega)))); clear f3 b3 E2; simp only [World.size_alloc, World.size_drew, Act.put, List.setIfInBounds_toArray, List.set_cons_succ, List.set_cons_zero])
        | (refine wpList_load_ag rfl _ _ rfl rfl [.string C1, .string M1] b3' keyAT rfl rfl ?_; simp only [World.size_alloc, World.size_drew, Act.put, List.setIfInBounds_toArray, List.set_cons_succ, List.set_cons_zero])
        | (go_at_call 23; refine (HN1.out _).mono ?_; rintro e w4 ⟨p, rfl, hb4, hp4, f4⟩; have E4 := hid (E3.out.new f4 (Res.On.blk hb4) (fun b hb => by simp [Res.blk] at hb; omega)); have c4 : Blk w4 cb [.pointer none, .pointer none, .string ⟨#[]⟩, .bool false] := E4.out.held.blkAt 1 rfl; clear hb4 hp4 f4 HN1 E3)
        | (refine wpList_put rfl _ _ _ rfl rfl (.pointer (some ⟨p, 0, none⟩)) rfl rfl c4 (by simp) (by kernel_rfl) ?_; intro w5 f5 b5 hs5; have E5 := hid (E4.out.at 1 rfl f5 (fun b hb => .inl hb) (Res.On.blk b5) (fun b hb => .inl hb)); clear c4 f5 b5 E4; simp only [World.size_alloc, World.size_drew, Act.put, List.setIfInBounds_toArray, List.set_cons_succ, List.set_cons_zero]))
      go_roundw
      case rel => exact .inr (.inl ⟨rfl, p, E5⟩)
      case measure => simp [intOf]
    · go_wp2_with (first
        | (refine wpList_index_one rfl _ _ _ rfl 4 _ 2 Tryz.underlying56 Tryz.underlying4 rfl (by rfl) [.bool true, .bool false] rfl .i64 1 1 rfl rfl (.bool false) (by decide) rfl ?_; simp only [World.size_alloc, World.size_drew, Act.put, List.setIfInBounds_toArray, List.set_cons_succ, List.set_cons_zero])
        | (go_at_call 21; refine (HL2.out _ E.out.nil).mono ?_; rintro e w1 ⟨rfl, f1⟩; have E1 := hid (E.out.step f1); clear f1 HL2 E)
        | (go_at_call 22; refine (HK2.out _).mono ?_; rintro e w2 ⟨rfl, f2⟩; have E2 := hid (E1.out.step f2); clear f2 HK2 E1)
        | (refine wpList_store_ag rfl _ _ _ rfl rfl [.string C2, .string M2] rfl (Blk.alloc w2 [.string ⟨#[]⟩, .string ⟨#[]⟩] _) keyAT rfl (by simp) (by simp [Value.oneCell']) ?_; intro w3 f3 b3 hs3; have b3' : Blk w3 w2.heap.size [.string C2, .string M2] := b3; have E3 := hid (E2.out.step (((Fr.refl [] w2).alloc _).trans f3 (fun x hx => .inr (by simp at hx; omega)))); clear f3 b3 E2; simp only [World.size_alloc, World.size_drew, Act.put, List.setIfInBounds_toArray, List.set_cons_succ, List.set_cons_zero])
        | (refine wpList_load_ag rfl _ _ rfl rfl [.string C2, .string M2] b3' keyAT rfl rfl ?_; simp only [World.size_alloc, World.size_drew, Act.put, List.setIfInBounds_toArray, List.set_cons_succ, List.set_cons_zero])
        | (go_at_call 24; refine (HN2.out _).mono ?_; rintro e w4 ⟨q, rfl, hb4, hp4, f4⟩; have E4 := hid (E3.out.new f4 (Res.On.blk hb4) (fun b hb => by simp [Res.blk] at hb; omega)); have c4 := E4.out.held.blkAt 2 rfl; clear hb4 hp4 f4 HN2 E3)
        | (refine wpList_put rfl _ _ _ rfl rfl (.pointer (some ⟨q, 0, none⟩)) rfl rfl c4 (by simp) (by kernel_rfl) ?_; intro w5 f5 b5 hs5; have E5 := hid (E4.out.at 2 rfl f5 (fun b hb => .inl hb) (Res.On.blk b5) (fun b hb => .inl hb)); clear c4 f5 b5 E4; simp only [World.size_alloc, World.size_drew, Act.put, List.setIfInBounds_toArray, List.set_cons_succ, List.set_cons_zero]))
      go_roundw
      case rel => exact .inr (.inr ⟨rfl, p, q, E5⟩)
      case measure => simp [intOf]
    · go_wp2_with fail
      go_ret2
      exact ⟨cb, q, p, rfl, E.out.pick [2, 0, 1] (by decide) rfl⟩
set_option maxRecDepth 20000 in
set_option maxHeartbeats 4000000 in
theorem cnew_false (m : ByteArray) (x : UInt64) (w : World) (h : TB w) (hm : m.size = 32) :
    Calls Tryz.prog 8 #[.string m, W64 x, .bool false] w fun e w' => ∃ cb s o, e = .returned (.tuple #[.pointer (some ⟨cb, 0, none⟩), .int .i64 0]) ∧ Ev w [] w' (chR cb s o (chOf m x false) CHS.init) := by
  have HL1 := hid fun (w1 : World) (f : Fr [] w w1) => label_any x true w1 (h.keep f)
  have HL2 := hid fun (w1 : World) (f : Fr [] w w1) => label_any x false w1 (h.keep f)
  have HK1 := hid fun w1 : World => keys_any (w := w1) m (labS x true) hm (by have := labS_size x true; omega)
  have HK2 := hid fun w1 : World => keys_any (w := w1) m (labS x false) hm (by have := labS_size x false; omega)
  have HN1 := hid fun w1 : World => newS_any (w := w1) (keyC m (labS x true)) (keyM m (labS x true)) (labS x true) (by rw [keyC_size]; decide) (by rw [keyM_size]; decide) (by simp [mayS, keyC_size, keyM_size])
  have HN2 := hid fun w1 : World => newO_any (w := w1) (keyC m (labS x false)) (keyM m (labS x false)) (labS x false) (by rw [keyC_size]; decide) (by rw [keyM_size]; decide) (by simp [mayS, keyC_size, keyM_size])
  unfold chOf
  simp only [Bool.not_true, Bool.not_false]
  generalize keyC m (labS x true) = C1 at *
  generalize keyM m (labS x true) = M1 at *
  generalize keyC m (labS x false) = C2 at *
  generalize keyM m (labS x false) = M2 at *
  generalize labS x true = l1 at *
  generalize labS x false = l2 at *
  clear h hm
  go_enter Tryz.func8, Tryz.ntmps8
  go_wp2_with fail
  have E0 := hid ((Ev.start w).new ((Fr.refl [] w).alloc (.cells #[.pointer none, .pointer none, .string ⟨#[]⟩, .bool false] 55)) (Res.On.blk (Blk.alloc w [.pointer none, .pointer none, .string ⟨#[]⟩, .bool false] 55)) (fun b hb => by simp [Res.blk] at hb; omega))
  generalize w.heap.size = cb at *
  go_loopw [17] (fun iv wr => (iv = .int .i64 0 ∧ Hid (Ev w [] wr [Res.blk cb [.pointer none, .pointer none, .string ⟨#[]⟩, .bool false]])) ∨ (iv = .int .i64 1 ∧ ∃ p, Hid (Ev w [] wr [Res.blk p (slL C1 M1 l1 0), Res.blk cb ([.pointer none, .pointer none, .string ⟨#[]⟩, .bool false].set 0 (.pointer (some ⟨p, 0, none⟩)))])) ∨
      (iv = .int .i64 2 ∧ ∃ p q, Hid (Ev w [] wr [Res.blk q (opL C2 M2 l2 0 false), Res.blk p (slL C1 M1 l1 0), Res.blk cb (([.pointer none, .pointer none, .string ⟨#[]⟩, .bool false].set 0 (.pointer (some ⟨p, 0, none⟩))).set 1 (.pointer (some ⟨q, 0, none⟩)))]))) (fun iv _ => 2 - (intOf iv).toNat)
  case atStart => exact .inl ⟨rfl, E0⟩
  case round =>
    clear E0
    rcases hrel with ⟨rfl, E⟩ | ⟨rfl, p, E⟩ | ⟨rfl, p, q, E⟩
    · go_wp2_with (first
        | (refine wpList_index_one rfl _ _ _ rfl 4 _ 2 Tryz.underlying56 Tryz.underlying4 rfl (by rfl) [.bool true, .bool false] rfl .i64 0 0 rfl rfl (.bool true) (by decide) rfl ?_; simp only [World.size_alloc, World.size_drew, Act.put, List.setIfInBounds_toArray, List.set_cons_succ, List.set_cons_zero])
        | (go_at_call 21; refine (HL1.out _ E.out.nil).mono ?_; rintro e w1 ⟨rfl, f1⟩; have E1 := hid (E.out.step f1); clear f1 HL1 E)
        | (go_at_call 22; refine (HK1.out _).mono ?_; rintro e w2 ⟨rfl, f2⟩; have E2 := hid (E1.out.step f2); clear f2 HK1 E1)
        | (refine wpList_store_ag rfl _ _ _ rfl rfl [.string C1, .string M1] rfl (Blk.alloc w2 [.string ⟨#[]⟩, .string ⟨#[]⟩] _) keyAT rfl (by simp) (by simp [Value.oneCell']) ?_; intro w3 f3 b3 hs3; have b3' : Blk w3 w2.heap.size [.string C1, .string M1] := b3; have E3 := hid (E2.out.step (((Fr.refl [] w2).alloc _).trans f3 (fun x hx => .inr (by simp at hx; omega)))); clear f3 b3 E2; simp only [World.size_alloc, World.size_drew, Act.put, List.setIfInBounds_toArray, List.set_cons_succ, List.set_cons_zero])
        | (refine wpList_load_ag rfl _ _ rfl rfl [.string C1, .string M1] b3' keyAT rfl rfl ?_; simp only [World.size_alloc, World.size_drew, Act.put, List.setIfInBounds_toArray, List.set_cons_succ, List.set_cons_zero])
        | (go_at_call 24; refine (HN1.out _).mono ?_; rintro e w4 ⟨p, rfl, hb4, hp4, f4⟩; have E4 := hid (E3.out.new f4 (Res.On.blk hb4) (fun b hb => by simp [Res.blk] at hb; omega)); have c4 : Blk w4 cb [.pointer none, .pointer none, .string ⟨#[]⟩, .bool false] := E4.out.held.blkAt 1 rfl; clear hb4 hp4 f4 HN1 E3)
        | (refine wpList_put rfl _ _ _ rfl rfl (.pointer (some ⟨p, 0, none⟩)) rfl rfl c4 (by simp) (by kernel_rfl) ?_; intro w5 f5 b5 hs5; have E5 := hid (E4.out.at 1 rfl f5 (fun b hb => .inl hb) (Res.On.blk b5) (fun b hb => .inl hb)); clear c4 f5 b5 E4; simp only [World.size_alloc, World.size_drew, Act.put, List.setIfInBounds_toArray, List.set_cons_succ, List.set_cons_zero]))
      go_roundw
      case rel => exact .inr (.inl ⟨rfl, p, E5⟩)
      case measure => simp [intOf]
    · go_wp2_with (first
        | (refine wpList_index_one rfl _ _ _ rfl 4 _ 2 Tryz.underlying56 Tryz.underlying4 rfl (by rfl) [.bool true, .bool false] rfl .i64 1 1 rfl rfl (.bool false) (by decide) rfl ?_; simp only [World.size_alloc, World.size_drew, Act.put, List.setIfInBounds_toArray, List.set_cons_succ, List.set_cons_zero])
        | (go_at_call 21; refine (HL2.out _ E.out.nil).mono ?_; rintro e w1 ⟨rfl, f1⟩; have E1 := hid (E.out.step f1); clear f1 HL2 E)
        | (go_at_call 22; refine (HK2.out _).mono ?_; rintro e w2 ⟨rfl, f2⟩; have E2 := hid (E1.out.step f2); clear f2 HK2 E1)
        | (refine wpList_store_ag rfl _ _ _ rfl rfl [.string C2, .string M2] rfl (Blk.alloc w2 [.string ⟨#[]⟩, .string ⟨#[]⟩] _) keyAT rfl (by simp) (by simp [Value.oneCell']) ?_; intro w3 f3 b3 hs3; have b3' : Blk w3 w2.heap.size [.string C2, .string M2] := b3; have E3 := hid (E2.out.step (((Fr.refl [] w2).alloc _).trans f3 (fun x hx => .inr (by simp at hx; omega)))); clear f3 b3 E2; simp only [World.size_alloc, World.size_drew, Act.put, List.setIfInBounds_toArray, List.set_cons_succ, List.set_cons_zero])
        | (refine wpList_load_ag rfl _ _ rfl rfl [.string C2, .string M2] b3' keyAT rfl rfl ?_; simp only [World.size_alloc, World.size_drew, Act.put, List.setIfInBounds_toArray, List.set_cons_succ, List.set_cons_zero])
        | (go_at_call 23; refine (HN2.out _).mono ?_; rintro e w4 ⟨q, rfl, hb4, hp4, f4⟩; have E4 := hid (E3.out.new f4 (Res.On.blk hb4) (fun b hb => by simp [Res.blk] at hb; omega)); have c4 := E4.out.held.blkAt 2 rfl; clear hb4 hp4 f4 HN2 E3)
        | (refine wpList_put rfl _ _ _ rfl rfl (.pointer (some ⟨q, 0, none⟩)) rfl rfl c4 (by simp) (by kernel_rfl) ?_; intro w5 f5 b5 hs5; have E5 := hid (E4.out.at 2 rfl f5 (fun b hb => .inl hb) (Res.On.blk b5) (fun b hb => .inl hb)); clear c4 f5 b5 E4; simp only [World.size_alloc, World.size_drew, Act.put, List.setIfInBounds_toArray, List.set_cons_succ, List.set_cons_zero]))
      go_roundw
      case rel => exact .inr (.inr ⟨rfl, p, q, E5⟩)
      case measure => simp [intOf]
    · go_wp2_with fail
      go_ret2
      exact ⟨cb, p, q, rfl, E.out.pick [2, 1, 0] (by decide) rfl⟩
theorem cnew_any (m : ByteArray) (x : UInt64) (b : Bool) (w : World) (h : TB w) (hm : m.size = 32) :
    Calls Tryz.prog 8 #[.string m, W64 x, .bool b] w fun e w' => ∃ cb s o, e = .returned (.tuple #[.pointer (some ⟨cb, 0, none⟩), .int .i64 0]) ∧ Ev w [] w' (chR cb s o (chOf m x b) CHS.init) := by
  cases b
  · exact cnew_false m x w h hm
  · exact cnew_true m x w h hm
end Go.Proofs.YtneoagelcjfanaaGreatDoor.chn
