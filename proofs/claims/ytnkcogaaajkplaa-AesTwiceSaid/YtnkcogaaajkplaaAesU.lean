/- Layer 3, aes: a text turned. -/
import Derived.Test.YtnkcogaaajkplaaAesT
namespace Go.Xr
open Go Go.RowKit
set_option linter.unusedVariables false
set_option linter.unusedSimpArgs false
def turnL (T nn l : List UInt8) : List UInt8 := (List.range l.length).map fun i => g8 l i ^^^ strm T nn i
theorem turnL_len (T nn l : List UInt8) : (turnL T nn l).length = l.length := by simp [turnL]
theorem turnL_get (T nn l : List UInt8) (i : Nat) (hi : i < l.length) : g8 (turnL T nn l) i = g8 l i ^^^ strm T nn i := by simp [turnL, g8, List.getD, hi]
/-- The first k bytes turned. -/
def turnI (T nn l : List UInt8) (k : Nat) : List UInt8 := (turnL T nn l).take k ++ l.drop k
theorem turnI_len (T nn l : List UInt8) (k : Nat) (hk : k ≤ l.length) : (turnI T nn l k).length = l.length := by
  simp only [turnI, List.length_append, List.length_take, List.length_drop, turnL_len]
  omega
theorem turnI_zero (T nn l : List UInt8) : turnI T nn l 0 = l := by simp [turnI]
theorem turnI_all (T nn l : List UInt8) : turnI T nn l l.length = turnL T nn l := by
  unfold turnI
  rw [List.take_of_length_le (by rw [turnL_len]; exact Nat.le_refl _), List.drop_eq_nil_of_le (Nat.le_refl _), List.append_nil]
theorem turnI_get (T nn l : List UInt8) (k : Nat) (hk : k < l.length) : (turnI T nn l k)[k]? = some (g8 l k) := by
  have h : ((turnL T nn l).take k).length = k := by rw [List.length_take, turnL_len]; omega
  unfold turnI
  rw [List.getElem?_append_right (by omega), h, Nat.sub_self, List.getElem?_drop, Nat.add_zero, g8_eq l k hk]
theorem turnI_set (T nn l : List UInt8) (k : Nat) (hk : k < l.length) : (turnI T nn l k).set k (g8 l k ^^^ strm T nn k) = turnI T nn l (k + 1) := by
  have h : ((turnL T nn l).take k).length = k := by rw [List.length_take, turnL_len]; omega
  have e : (turnL T nn l)[k]'(by rw [turnL_len]; exact hk) = g8 l k ^^^ strm T nn k := by simp [turnL]
  unfold turnI
  rw [List.set_append_right _ _ (by omega), h, Nat.sub_self, List.drop_eq_getElem_cons hk, List.set_cons_zero, List.take_succ_eq_append_getElem (by rw [turnL_len]; exact hk), List.append_assoc, e]
  rfl
theorem below_blk {A B : World} {N b : Nat} {cs : List Value} (h : Below N A B) (hb : Blk A b cs) (hlt : b < N) : Blk B b cs := hb.same (h.block b hlt)
theorem below_fr {w A B : World} {N : Nat} (f : Fr [] w A) (h : Below N A B) (hN : w.heap.size ≤ N) : Fr [] w B :=
  ⟨h.os.trans f.os, h.tape.trans f.tape, h.output.trans f.output, Nat.le_trans f.size h.size, fun k hk hn => (h.block k (by omega)).trans (f.block k hk hn)⟩
/-- A cell of a block is written, within a fence. -/
theorem wpListIn_put {F : Fence} {m : Nat} {P : Program} {ops : Array Oper} {Q : Exit → Act → World → Prop} {a : Act} {w : World} {rest : List Oper} {o : Oper} (hg : o.guard = none) (ty : TypeId) (x y : Operand) (ho : o.op = .store ty x y) {b off : Nat} (hx : a.eval x = .pointer (some ⟨b, off, none⟩)) (v : Value) (hy : a.eval y = v) (h1 : v.oneCell' = true) {cs : List Value} (hb : Blk w b cs) (hoff : off < cs.length)
    (hs : (P.info? ty).map (·.size) = some 1) (h : ∀ w', Fr [b] w w' → Blk w' b (cs.set off v) → w'.heap.size = w.heap.size → wpListIn F m P ops Q rest (a.put o.dst undef) w') : wpListIn F m P ops Q (o :: rest) a w := by
  refine wpListIn_plain hg fun K hK => ?_
  cases hq : P.info? ty with
  | none => simp [hq] at hs
  | some i =>
    have hs1 : i.size = 1 := by simpa [hq] using hs
    have hvc : v.cells = #[v] := by cases v <;> simp_all [Value.cells, Value.oneCell']
    have hst := store_one (P := P) w b off v h1 (by rw [hb.cell]; simp; exact hoff) (hb.free off hoff)
    have hr : (storeVar ty ⟨b, off, none⟩ v).run P w = .ok () (w.setCell ⟨b, off, none⟩ v) := by simp [storeVar, sizeOf, typeInfo, hq, hs1, hvc, hst]
    unfold Oper.wpIn
    refine ⟨?_, ?_⟩
    · simp [Oper.about, ho]
    · rw [Oper.semAt_plain F _ _ (by rw [ho]; intro c hc'; cases hc')]
      unfold execOp
      simp only [ho, hx, hy, Instr.storeAt, Instr.sureAddr, Sem.run_bind, Sem.run_pure, Result.andThen_ok, hr]
      exact hK _ _ (h _ ((Fr.refl [b] w).setCell (.inl (by simp)) v) (hb.set off v) (by simp))
/-- Between two rounds: k bytes are turned. -/
def TI (w : World) (Bd Bb Bi : Nat) (n : Nat) (v : Value) (T nn L : List UInt8) (k : Nat) (W : World) : Prop :=
  k ≤ n ∧ Blk W Bb [v] ∧ Blk W Bi [.int .i64 k] ∧ (∃ cs, Blk W Bd cs ∧ cs.take n = bv (turnI T nn L k) ∧ n ≤ cs.length) ∧ Fr [] w W
theorem TI.keep {w A B : World} {Bd Bb Bi n k N : Nat} {v : Value} {T nn L : List UInt8} (h : TI w Bd Bb Bi n v T nn L k A) (hb : Below N A B) (h1 : Bd < N) (h2 : Bb < N) (h3 : Bi < N) (h4 : w.heap.size ≤ N) : TI w Bd Bb Bi n v T nn L k B := by
  obtain ⟨a, b, c, ⟨cs, d, e, f⟩, g⟩ := h
  exact ⟨a, below_blk hb b h2, below_blk hb c h3, ⟨cs, below_blk hb d h1, e, f⟩, below_fr g hb h4⟩
end Go.Xr
namespace Go.Proofs.Ytnkcogaaajkplaa
open Go Go.Xr Go.RowKit
set_option linter.unusedVariables false
set_option linter.unusedSimpArgs false
attribute [local go_sem] xor_u8 Oper.semAt_some

theorem stream_any {w : World} {p : Nat} (s : ByteArray) :
    Calls Try.prog 29 #[.pointer (some ⟨p, 0, none⟩), .string s] w fun e w' => ∃ cb nb, e = .returned (.func (.func 32) #[] #[.pointer (some ⟨cb, 0, none⟩), .pointer (some ⟨nb, 0, none⟩)]) ∧
      w'.cell? ⟨cb, 0, none⟩ = some (.pointer (some ⟨p, 0, none⟩)) ∧ w'.cell? ⟨nb, 0, none⟩ = some (.string s) ∧ w.heap.size ≤ cb ∧ cb < w'.heap.size ∧ Fr [] w w' := by
  go_enter Try.func29, Try.ntmps29
  go_wp2_with fail
  go_ret
  have b1 := Blk.alloc w [Value.pointer (some ⟨p, 0, none⟩)] 26
  have b2 := Blk.alloc (w.alloc (.cells [Value.pointer (some ⟨p, 0, none⟩)].toArray 26)) [Value.string s] 9
  have b1' := b1.old (.cells [Value.string s].toArray 9)
  have e2 := b2.cell 0
  rw [World.size_alloc] at e2
  exact ⟨w.heap.size, w.heap.size + 1, rfl, b1'.cell 0, e2, Nat.le_refl _, by simp; omega, ((Fr.refl [] w).alloc _).alloc _⟩
theorem turn_bad {w : World} {p : Nat} {T : List UInt8} (n s : ByteArray) (hT : T.length = 688) (hn : n.size ≠ 16) (hn2 : n.size ≤ 9223372036854775807) (hp : Blk w p (ciph T)) :
    Calls Try.prog 19 #[.pointer (some ⟨p, 0, none⟩), .string n, .string s] w fun e w' => e = .returned (.tuple #[.string ⟨#[]⟩, .int .i64 2]) ∧ w = w' := by
  have HT := hid hT
  have hne : ((n.size : Int) != 16) = true := by simp; omega
  clear hT hn
  go_enter Try.func19, Try.ntmps19
  go_wp2_with (go_at_call 26; refine (not_any HT.out hp).mono ?_; rintro e w' ⟨rfl, rfl⟩)
  go_ret2
  exact ⟨rfl, rfl⟩

set_option maxRecDepth 20000 in
set_option maxHeartbeats 1000000 in
theorem turn_any {w : World} {p : Nat} {T : List UInt8} (n s : ByteArray) (hT : T.length = 688) (hn : n.size = 16) (hs : s.size ≤ 140737488355328) (hp : Blk w p (ciph T)) :
    Calls Try.prog 19 #[.pointer (some ⟨p, 0, none⟩), .string n, .string s] w fun e w' => e = .returned (.tuple #[.string ⟨(turnL T n.data.toList s.data.toList).toArray⟩, .int .i64 0]) ∧ Fr [] w w' := by
  have HT := hid hT
  have hne : ((n.size : Int) != 16) = false := by rw [hn]; rfl
  have Hn := hid hn
  have Hmx := hid (show s.size ≤ maxLen by unfold maxLen; omega)
  obtain ⟨L, hL⟩ : ∃ L, s.data.toList = L := ⟨_, rfl⟩
  have HL := hid hL
  have HLl := hid (show L.length = s.size by rw [← hL]; exact Array.length_toList)
  have hplt := hp.lt
  clear hT hn hL
  refine callsIn_wide.1 (callsIn_of_wp_marks (n := 3) Try.func19 rfl trivial ?_ rfl)
  refine wpIn_wide.2 ?_
  simp only [Try.ntmps19, List.size_toArray, List.length_cons, List.length_nil, Nat.reduceAdd, Nat.reduceSub, Array.replicate_succ, Array.replicate_zero, List.push_toArray, List.append_toArray, List.nil_append, List.cons_append]
  go_wp2_with (first
    | (go_at_call 26; refine (not_any HT.out hp).mono ?_; rintro e w' ⟨rfl, rfl⟩)
    | (refine wpList_bytes_own rfl 9 32 5 _ rfl s rfl Hmx.out Try.underlying9 Try.underlying32 Try.underlying5 ?_; intro w1 c1 f1 hlt1 ho1; rw [HL.out] at ho1; simp only [World.size_alloc, World.size_drew, Act.put, List.setIfInBounds_toArray, List.set_cons_succ, List.set_cons_zero])
    | (go_at_call 29; refine (stream_any n).mono ?_; rintro e w3 ⟨cb, nb, rfl, hcb, hnb, hcb1, hcb2, f3⟩))
  have bb := (Blk.alloc w1 [Value.slice (some ⟨w.heap.size, 0, none⟩) s.size c1] 32).old (.cells [Value.int .i64 0].toArray 3)
  have bi := Blk.alloc (w1.alloc (.cells [Value.slice (some ⟨w.heap.size, 0, none⟩) s.size c1].toArray 32)) [Value.int .i64 0] 3
  rw [World.size_alloc] at bi
  have fa : Fr [] w1 ((w1.alloc (.cells [Value.slice (some ⟨w.heap.size, 0, none⟩) s.size c1].toArray 32)).alloc (.cells [Value.int .i64 0].toArray 3)) := ((Fr.refl [] w1).alloc _).alloc _
  have bb3 := f3.blk bb (by simp)
  have bi3 := f3.blk bi (by simp)
  have f13 : Fr [] w1 w3 := fa.trans' f3
  have ho3 := ho1.keep f13 (by simp)
  have hp3 : Blk w3 p (ciph T) := f13.blk (f1.blk hp (by simp)) (by simp)
  have g3 : Fr [] w w3 := f1.trans' f13
  have hsz3 : w1.heap.size + 1 < w3.heap.size := bi3.lt
  have hcb4 : w1.heap.size + 2 ≤ cb := by simp at hcb1; omega
  obtain ⟨Bb, hBb⟩ : ∃ Bb, w1.heap.size = Bb := ⟨_, rfl⟩
  obtain ⟨Bd, hBd⟩ : ∃ Bd, w.heap.size = Bd := ⟨_, rfl⟩
  rw [hBb] at bb3 bi3 hsz3 hcb4 hlt1 ⊢
  rw [hBd] at bb3 ho3 hlt1 hplt ⊢
  clear fa f3 bb bi f13 hcb1 f1
  have hd3 : ∃ cs, Blk w3 Bd cs ∧ cs.take s.size = bv L ∧ s.size ≤ cs.length := by
    obtain ⟨cs, h1, h2, h3, _⟩ := ho3.blkOf
    exact ⟨cs, h1, h3, h2⟩
  have hz0 : w.heap.size ≤ w3.heap.size := g3.size
  have hI0 : TI w Bd Bb (Bb + 1) s.size (.slice (some ⟨Bd, 0, none⟩) s.size c1) T n.data.toList L 0 w3 := by
    refine ⟨Nat.zero_le _, bb3, bi3, ?_, g3⟩
    rw [turnI_zero]
    exact hd3
  have hseq := stream_seq (w := w3) (p := p) (cb := cb) (nb := nb) n HT.out Hn.out hp3 hcb hnb
  refine wpIn_wide.1 (wpIn_rangeFunc_B (n := 3) (gf := 32) rfl (enters_of Try.func32 (by kernel_rfl) rfl) hseq rfl [Bd, Bb + 1] ?hS ?hKeep (s.size + 2)
    (TI w Bd Bb (Bb + 1) s.size (.slice (some ⟨Bd, 0, none⟩) s.size c1) T n.data.toList L)
    (fun c k W => c = .exit 1 ∧ TI w Bd Bb (Bb + 1) s.size (.slice (some ⟨Bd, 0, none⟩) s.size c1) T n.data.toList L s.size W)
    (fun k A B h hb => h.keep hb (by omega) (by omega) (by omega) hz0) (fun c k A B h hb => ⟨h.1, h.2.keep hb (by omega) (by omega) (by omega) hz0⟩) hI0
    (fun v => { tmps := #[.pointer (some ⟨p, 0, none⟩), .string n, .string s, undef, undef, undef, .string ⟨#[]⟩, .int .i64 0, .pointer (some ⟨Bb, 0, none⟩), .pointer (some ⟨Bb + 1, 0, none⟩), v, .bool false, .pointer (some ⟨p, 0, none⟩), .bool false, .bool false, .string n, .int .i64 n.size, .bool false, .string s, .slice (some ⟨Bd, 0, none⟩) s.size c1, .pointer (some ⟨p, 0, none⟩), .string n, .func (.func 32) #[] #[.pointer (some ⟨cb, 0, none⟩), .pointer (some ⟨nb, 0, none⟩)], v, undef, undef, undef, undef, undef, undef, undef, undef, undef, undef, undef, undef, undef, undef, undef], defers := [] }) ?assign ?body ?stop)
  case hS =>
    intro b hb
    simp only [List.mem_cons, List.not_mem_nil, or_false] at hb
    rcases hb with rfl | rfl
    · exact ⟨by omega, by rintro (h | h) <;> omega⟩
    · exact ⟨by omega, by rintro (h | h) <;> omega⟩
  case hKeep =>
    rintro b (rfl | rfl)
    · omega
    · exact hcb2
  case assign =>
    intro l k W K hK
    gi_wp2
    exact hK
  case body =>
    intro l k W hl hI
    dsimp only
    obtain ⟨hk, b1, b2, ⟨cs, b3, hcs, hcl⟩, f⟩ := hI
    have kb : W.cell? ⟨Bb, 0, none⟩ = some (.slice (some ⟨Bd, 0, none⟩) s.size c1) := b1.cell 0
    have ki : W.cell? ⟨Bb + 1, 0, none⟩ = some (.int .i64 k) := b2.cell 0
    by_cases hkn : k < s.size
    · have hd : ((k : Int) == (s.size : Int)) = false := by rw [beq_eq_false_iff_ne]; omega
      have hkL : k < L.length := by rw [HLl.out]; exact hkn
      have kd : W.cell? ⟨Bd, k, none⟩ = some (bt (g8 L k)) := by
        rw [b3.cell]
        have : (cs.take s.size)[k]? = (bv (turnI T n.data.toList L k))[k]? := by rw [hcs]
        rw [List.getElem?_take, if_pos hkn, bv_getElem?, turnI_get _ _ _ _ hkL] at this
        exact this
      obtain ⟨X, hX⟩ : ∃ X, g8 L k = X := ⟨_, rfl⟩
      obtain ⟨Y, hY⟩ : ∃ Y, strm T n.data.toList k = Y := ⟨_, rfl⟩
      rw [hX] at kd
      rw [hY]
      have Hset := hid (show (cs.set k (bt (X ^^^ Y))).take s.size = bv (turnI T n.data.toList L (k + 1)) by
        rw [List.take_set, hcs, ← bv_set, ← hX, ← hY, turnI_set _ _ _ _ hkL])
      have hkm : (k : Int) < 140737488355328 := by omega
      have hne1 : Bb + 1 ≠ Bd := by omega
      have hne2 : Bb ≠ Bd := by omega
      clear hX hY hcs
      gi_wp2_with (first
        | (refine wpListIn_put rfl _ _ _ rfl rfl (bt (X ^^^ Y)) rfl rfl b3 (by omega) (by kernel_rfl) ?_; intro w6 f6 b6 hs6; have ki6 : w6.cell? ⟨Bb + 1, 0, none⟩ = some (.int .i64 k) := ((f6.blk b2 (by simp; omega)).cell 0); have b26 := f6.blk b2 (by simp; omega); simp only [World.size_alloc, World.size_drew, Act.put, List.setIfInBounds_toArray, List.set_cons_succ, List.set_cons_zero])
        | (refine wpListIn_put rfl _ _ _ rfl rfl (.int .i64 (k + 1)) rfl rfl b26 (by simp) (by kernel_rfl) ?_; intro w7 f7 b7 hs7; simp only [World.size_alloc, World.size_drew, Act.put, List.setIfInBounds_toArray, List.set_cons_succ, List.set_cons_zero]))
      have hb7 : Blk w7 (Bb + 1) [.int .i64 ((k + 1 : Nat) : Int)] := b7
      exact ⟨(f6.mono (T := [Bd, Bb + 1]) (by simp)).trans' (f7.mono (by simp)), ⟨by omega, f7.blk (f6.blk b1 (by simp; omega)) (by simp), hb7, ⟨_, f7.blk b6 (by simp; omega), Hset.out, by rw [List.length_set]; exact hcl⟩, (f.trans f6 (by simp; omega)).trans f7 (by simp; omega)⟩, by omega⟩
    · have ek : k = s.size := by omega
      have hd : ((k : Int) == (s.size : Int)) = true := by rw [ek]; exact beq_self_eq_true _
      have hIe : TI w Bd Bb (Bb + 1) s.size (.slice (some ⟨Bd, 0, none⟩) s.size c1) T n.data.toList L s.size W := by
        rw [ek] at b2 hcs
        exact ⟨Nat.le_refl _, b1, b2, ⟨cs, b3, hcs, hcl⟩, f⟩
      have HIe := hid hIe
      clear ek hkn hIe
      gi_wp2
      exact ⟨Fr.refl _ _, rfl, HIe.out⟩
  case stop =>
    rintro D c k W hD ⟨rfl, hI⟩ hK
    obtain ⟨hk, b1, b2, ⟨cs, b3, hcs, hcl⟩, f⟩ := hI
    have kb : W.cell? ⟨Bb, 0, none⟩ = some (.slice (some ⟨Bd, 0, none⟩) s.size c1) := b1.cell 0
    have Hall := hid (show turnI T n.data.toList L s.size = turnL T n.data.toList L by rw [← HLl.out]; exact turnI_all _ _ _)
    have Htl := hid (show (turnL T n.data.toList L).length = s.size by rw [turnL_len, HLl.out])
    rw [Hall.out] at hcs
    have Hcs := hid hcs
    have HD := hid hK
    clear hcs hK
    refine wpIn_wide.2 ?_
    go_wp2_with (refine wpList_string_of_bytes rfl 32 9 5 _ rfl s.size _ rfl b3 (turnL T n.data.toList L) Htl.out (by rw [List.drop_zero, Htl.out]; exact Hcs.out) Try.underlying32 Try.underlying5 Try.underlying9 ?_; simp only [World.size_alloc, World.size_drew, Act.put, List.setIfInBounds_toArray, List.set_cons_succ, List.set_cons_zero])
    refine ⟨by simp, .inl ⟨_, _, rfl, run_takeDeferred HD.out, ?_⟩⟩
    refine ⟨_, results_tmp2 rfl _ _ _, ?_, ?_⟩
    · rw [HL.out]
      rfl
    · exact f.trans (fr_putObj W D _) (by simp; omega)
end Go.Proofs.Ytnkcogaaajkplaa
