/- Layer 6, sector: Read, Flush. -/
import Derived.Test.YtflapddkeeiieaaSecB
namespace Go.Proofs.Ytflapddkeeiieaa
open Go Go.Xr Go.RowKit
set_option linter.unusedVariables false
set_option linter.unusedSimpArgs false

theorem fl_drop : ∀ (l : List (List UInt8)) (i : Nat) (hi : i < l.length), (∀ x ∈ l, x.length = 512) → ((fl l).drop (i * 512)).take 512 = bv l[i]
  | [], i, hi, _ => by simp at hi
  | a :: l, 0, _, h => by
    have ha := h a (by simp)
    rw [fl_cons, Nat.zero_mul, List.drop_zero, List.take_append_of_le_length (by rw [bv_length, ha]; exact Nat.le_refl _), List.take_of_length_le (by rw [bv_length, ha]; exact Nat.le_refl _)]
    rfl
  | a :: l, i + 1, hi, h => by
    have ha := h a (by simp)
    have ih := fl_drop l i (by simpa using hi) (fun x hx => h x (by simp [hx]))
    have e : (i + 1) * 512 = (bv a).length + i * 512 := by rw [bv_length, ha]; omega
    rw [fl_cons, e, List.drop_length_add_append, ih]
    rfl

theorem take_drop_of (cs xs : List Value) (m off k : Nat) (h : cs.take m = xs) (hle : off + k ≤ m) : (cs.drop off).take k = (xs.drop off).take k := by
  rw [← h, List.drop_take, List.take_take, Nat.min_eq_left (by omega)]

theorem Rep.nowSlice {w : World} {d : Nat} {D : SD} {pw : Option (Nat × Nat)} {F : List Nat} (h : Rep w d D pw F) :
    ∃ kv n cap lv tv cs, Blk w d [kv, .slice (some ⟨n, 0, none⟩) D.now.length cap, lv, tv, .bool D.dead, pwv pw] ∧ Blk w n cs ∧ cs.take (D.now.length * 512) = fl D.now := by
  obtain ⟨kv, nv, lv, tv, k, n, L, T, hF, hnd, hb, hk, hn, hl, ht⟩ := h.mem
  rcases hn.2 with ⟨_, _, h1⟩ | ⟨b, cap, cs, hb1, h1, h2, h3, h4, h5, h6⟩
  · cases h1
  · cases hb1
    subst h1
    exact ⟨kv, n, cap, lv, tv, cs, hb, h4, h6⟩

theorem read_err {w : World} {d : Nat} {D : SD} {pw : Option (Nat × Nat)} {F : List Nat} (h : Rep w d D pw F) (hp : pwOk w pw) (i : Int) (hi1 : -9223372036854775808 ≤ i) (hi2 : i ≤ 9223372036854775807) (x : Int) (hx : atN D pw i none = x) (h0 : x = 60 ∨ x = 2) :
    Calls Try.prog 14 #[.pointer (some ⟨d, 0, none⟩), .int .i64 i] w fun e w' => e = .returned (.tuple #[.string ⟨#[]⟩, .int .i64 x]) ∧ w = w' := by
  have hat := at_any h hp i hi1 hi2 (v := .slice none 0 0) (os := none) rfl
  rw [hx] at hat
  clear hx h hp
  rcases h0 with rfl | rfl
  · go_enter Try.func14, Try.ntmps14
    go_wp2_with (go_at_call 38; refine hat.mono ?_; rintro e w' ⟨rfl, rfl⟩)
    go_ret2
    exact ⟨rfl, rfl⟩
  · go_enter Try.func14, Try.ntmps14
    go_wp2_with (go_at_call 38; refine hat.mono ?_; rintro e w' ⟨rfl, rfl⟩)
    go_ret2
    exact ⟨rfl, rfl⟩

set_option maxRecDepth 20000 in
theorem read_ok {w : World} {d : Nat} {D : SD} {pw : Option (Nat × Nat)} {F : List Nat} (h : Rep w d D pw F) (hp : pwOk w pw) (i : Nat) (hi : i < D.now.length) (ha : ableN D pw = 0) :
    Calls Try.prog 14 #[.pointer (some ⟨d, 0, none⟩), .int .i64 i] w fun e w' => e = .returned (.tuple #[.string ⟨(D.now[i]).toArray⟩, .int .i64 0]) ∧ w = w' := by
  have hle := h.good.le
  have hsame := h.good.same
  have hat : atN D pw i none = 0 := by
    have e1 : outB D i = false := by simp [outB]; omega
    simp [atN, ha, e1, badT]
  have hat2 := at_any h hp i (by omega) (by omega) (v := .slice none 0 0) (os := none) rfl
  rw [hat] at hat2
  have hn512 := h.good.n512
  have hl512 := hid (hn512 _ (List.getElem_mem hi))
  obtain ⟨kv, n, cap, lv, tv, cs, hb, hnb, hcs⟩ := h.nowSlice
  have hv : (cs.drop (i * 512)).take (D.now[i]).length = bv D.now[i] := by
    rw [hl512.out, take_drop_of cs _ (D.now.length * 512) (i * 512) 512 hcs (by omega), fl_drop D.now i hi hn512]
  have Hv := hid hv
  have hc := hb.cell
  clear hat h hp ha hv hcs hn512 hb hsame
  go_enter Try.func14, Try.ntmps14
  go_wp2_with (first
    | (go_at_call 38; refine hat2.mono ?_; rintro e w' ⟨rfl, rfl⟩)
    | (refine wpList_string_of_bytes rfl _ _ 5 _ rfl 512 512 rfl hnb (D.now[i]) hl512.out Hv.out Try.underlying29 Try.underlying5 Try.underlying9 ?_; (all_goals (try simp only [World.size_alloc, World.size_drew, Act.put, List.setIfInBounds_toArray, List.set_cons_succ, List.set_cons_zero]))))
  go_ret2
  exact ⟨rfl, rfl⟩

/-- What a Flush leaves. -/
def flushed (D : SD) : SD := { D with kept := D.now, loose := [], trace := D.trace ++ [-1] }

theorem flush_err {w : World} {d : Nat} {D : SD} {pw : Option (Nat × Nat)} {F : List Nat} (h : Rep w d D pw F) (hp : pwOk w pw) (ha : ableN D pw = 60) :
    Calls Try.prog 9 #[.pointer (some ⟨d, 0, none⟩)] w fun e w' => e = .returned (.int .i64 60) ∧ w = w' := by
  have hab := able_any h hp
  rw [ha] at hab
  clear ha h hp
  go_enter Try.func9, Try.ntmps9
  go_wp2_with (go_at_call 35; refine hab.mono ?_; rintro e w' ⟨rfl, rfl⟩)
  go_ret
  exact ⟨rfl, rfl⟩

theorem fl_one (l : List (List UInt8)) : ∀ u ∈ fl l, u.oneCell' = true := bv_one _

set_option maxHeartbeats 1000000 in
set_option maxRecDepth 20000 in
theorem flush_ok {w : World} {d : Nat} {D : SD} {pw : Option (Nat × Nat)} {F : List Nat} (h : Rep w d D pw F) (hp : pwOk w pw) (hpF : ∀ x ∈ pwF pw, x ∉ F) (ha : ableN D pw = 0) (htl : D.trace.length < 1000000) :
    Calls Try.prog 9 #[.pointer (some ⟨d, 0, none⟩)] w fun e w' => e = .returned (.int .i64 0) ∧
      ∃ F', Rep w' d (flushed D) (pwDec pw) F' ∧ pwOk w' (pwDec pw) ∧ Fr (F ++ pwF pw) w w' ∧ ∀ x ∈ F', x ∈ F ∨ w.heap.size ≤ x := by
  have hab := able_any h hp
  rw [ha] at hab
  have h0 : ∀ p, pw ≠ some (p, 0) := by
    intro p e
    rw [e] at ha
    simp [ableN] at ha
  have Hg := hid h.good
  have hle := h.good.le
  have hnle : D.now.length ≤ 16384 := by rw [← h.good.same]; exact hle
  obtain ⟨kv, nv, lv, tv, k, n, L, T, hF, H0⟩ := h.full hp hpF
  have hb : Blk w d [kv, nv, lv, tv, .bool D.dead, pwv pw] := H0.blkAt 1 rfl
  have hn : Xr.Own w 512 nv D.now.length (fl D.now) (some n) := H0.ownAt 3 rfl
  have hc := hb.cell
  have hcl := cloneS_any hn (fl_one _) (by unfold maxLen; omega) (by omega)
  have HF := hid hF
  clear ha h hp hpF hF
  obtain ⟨i3, hi3, hz3, hs3, hb3⟩ := inf3
  have Hi3 := hid hi3
  have Hz3 := hid hz3
  have Hs3 := hid hs3
  have Hb3 := hid hb3
  clear hi3 hz3 hs3 hb3
  go_enter Try.func9, Try.ntmps9
  go_wp2_with (go_at_call 35; refine hab.mono ?_; rintro e w' ⟨rfl, rfl⟩)
  refine hcl.mono ?_
  rintro e w1 ⟨kv', k', rfl, hk1, hk', f1⟩
  have H1 := H0.fresh f1 (Res.On.own hk1) (fun b hb => by simp [Res.own] at hb; omega)
  obtain ⟨ka, kc, rfl⟩ := hk1.isSlice
  have hb1 := f1.blk hb (by simp)
  have hc1 := hb1.cell
  have hf10 := hb1.free 0 (by simp)
  have hf12 := hb1.free 2 (by simp)
  clear hcl hab hc H0 hn hb
  go_upto_region 6 with fail
  refine wp_world (fun w2 => Held w2 [Res.own 512 (.slice ka D.now.length kc) D.now.length (fl D.now) (some k'), Res.pow pw, Res.blk d [.slice ka D.now.length kc, nv, .slice none 0 0, tv, .bool D.dead, pwv pw], Res.own 512 kv D.kept.length (fl D.kept) (some k), Res.own 512 nv D.now.length (fl D.now) (some n), Res.own 513 lv D.loose.length (wlc D.loose) L, Res.own 1 tv D.trace.length (D.trace.map (.int .i64)) T] ∧ Fr [d] w1 w2) ?_ ?_
  · have fs : Fr [d] w1 ((w1.setCell ⟨d, 0, none⟩ (.slice ka D.now.length kc)).setCell ⟨d, 2, none⟩ (.slice none 0 0)) := ((Fr.refl [d] w1).setCell (.inl (by simp)) _).setCell (.inl (by simp)) _
    exact ⟨Held.upd [_, _] _ H1 fs (by simp [Res.blk]) (Res.On.blk ((hb1.set 0 _).set 2 _)) (by simp [Res.blk]), fs⟩
  rintro w2 ⟨H2, f2⟩
  clear hb1 hc1 hf10 hf12 H1 hk1
  have hb2 : Blk w2 d [.slice ka D.now.length kc, nv, .slice none 0 0, tv, .bool D.dead, pwv pw] := H2.blkAt 2 rfl
  have ht2 : Xr.Own w2 1 tv D.trace.length (D.trace.map (.int .i64)) T := H2.ownAt 6 rfl
  have hc2 := hb2.cell
  have H2' := H2.keep0 ((Fr.refl [] w2).alloc (.cells #[.int .i64 (-1)] 3))
  go_wp2_with (refine wpList_append rfl _ _ _ rfl 3 _ _ 1 8 Try.underlying37 Hi3.out Hz3.out Hs3.out Hb3.out rfl (by decide) rfl (ht2.keep ((Fr.refl [] _).alloc _) (by simp)) _ 1 1 [.int .i64 (-1)] rfl rfl ((Blk.alloc w2 [.int .i64 (-1)] _).cells rfl) (by simp [Value.oneCell']) (by unfold maxLen; omega) (by omega) ?_; intro tv' w3 T' ht3 f3 hT'; simp only [World.size_alloc, World.size_drew, Act.put, List.setIfInBounds_toArray, List.set_cons_succ, List.set_cons_zero]; obtain ⟨ta, tc, rfl⟩ := ht3.isSlice; have H3 := Held.upd [_, _, _, _, _, _] [] H2' f3 (fun b hb => .inl hb) (Res.On.own ht3) (fun b hb => by rcases hT' with rfl | ⟨x, rfl, hx⟩; exact .inl hb; simp [Res.own] at hb; subst hb; exact .inr hx); have hb3 : Blk w3 d [.slice ka D.now.length kc, nv, .slice none 0 0, tv, .bool D.dead, pwv pw] := H3.blkAt 2 rfl; have hc3 := hb3.cell; have hf3 := hb3.free 3 (by simp))
  have fs : Fr [d] w3 (w3.setCell ⟨d, 3, none⟩ (.slice ta (D.trace.length + 1) tc)) := (Fr.refl [d] w3).setCell (.inl (by simp)) _
  have H4 := Held.upd [_, _] _ H3 fs (by simp [Res.blk]) (Res.On.blk (hb3.set 3 (.slice ta (D.trace.length + 1) tc))) (by simp [Res.blk])
  have hp4 : pwOk _ pw := H4.at 1 rfl
  refine (took_any hp4 h0).mono ?_
  rintro e w5 ⟨rfl, f5, hp5, hs5⟩
  go_wp2_with fail
  go_ret
  have H5 := Held.upd [_] _ H4 f5 (fun b hb => .inl hb) (On.pow hp5) (fun b hb => .inl (by simpa [Res.pow, pwF_dec] using hb))
  simp only [List.cons_append, List.nil_append, List.append_eq, List.append_nil, List.set_cons_succ, List.set_cons_zero] at H5
  have H6 : Held w5 (parts d (flushed D) (pwDec pw) (.slice ka D.now.length kc) nv (.slice none 0 0) (.slice ta (D.trace.length + 1) tc) k' n none T') := by
    have H8 := Held.new (r := Res.own 513 (.slice none 0 0) 0 [] none) H5 (Res.On.own (Xr.Own.nil _ _)) (by simp [Res.own])
    have H9 : Held w5 [_, _, _, _, _] := Held.pick [3, 1, 5, 0, 7] H8 (by decide) rfl
    have e : (flushed D).trace.length = D.trace.length + 1 ∧ (flushed D).trace.map (Value.int .i64) = D.trace.map (Value.int .i64) ++ [Value.int .i64 (-1)] := by simp [flushed]
    unfold parts
    rw [e.1, e.2, pwv_dec]
    exact H9
  refine ⟨rfl, _, Rep.ofHeld ⟨rfl, by have := Hg.out.pos; have := Hg.out.same; simp only [flushed]; omega, hnle, Hg.out.n512, Hg.out.n512, by simp [flushed]⟩ H6, hp5, ?_, ?_⟩
  · have hFm : ∀ x, x ∈ feet d k n L T → x ∈ F ++ pwF pw := fun x hx => by rw [HF.out]; simp [hx]
    refine (((((f1.mono (T := F ++ pwF pw) (by simp)).trans f2 (fun x hx => .inl (hFm x (by simp at hx; simp [feet, hx])))).trans ((Fr.refl [] w2).alloc (.cells #[.int .i64 (-1)] 3)) (by simp)).trans f3 (fun x hx => .inl (hFm x (by simp at hx; simp [feet, hx])))).trans fs (fun x hx => .inl (hFm x (by simp at hx; simp [feet, hx])))).trans f5 (fun x hx => .inl (by simp [hx]))
  · intro x hx
    simp only [feet, List.mem_cons, List.mem_append, Option.mem_toList] at hx
    rcases hx with rfl | rfl | rfl | hx | hx
    · exact .inl (by rw [HF.out]; simp [feet])
    · exact .inr hk'
    · exact .inl (by rw [HF.out]; simp [feet])
    · cases hx
    · rcases hT' with rfl | ⟨b, rfl, hge⟩
      · exact .inl (by rw [HF.out]; simp [feet, hx])
      · cases hx
        have := f1.size
        have := f2.size
        simp at hge
        exact .inr (by omega)
end Go.Proofs.Ytflapddkeeiieaa
