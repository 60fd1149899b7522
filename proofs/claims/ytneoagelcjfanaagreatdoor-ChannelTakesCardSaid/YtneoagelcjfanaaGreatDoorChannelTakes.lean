/- Layer 22: ChannelTakes, the walk. -/
import Derived.Test.YtneoagelcjfanaaGreatDoorGDoc
namespace Go.Proofs.YtneoagelcjfanaaGreatDoor.chn
open Go Go.Xr Go.RowKit Go.Proofs.YtneoagelcjfanaaGreatDoor Go.Proofs.YtneoagelcjfanaaGreatDoor.rcd
set_option linter.unusedVariables false
set_option linter.unusedSimpArgs false
section
variable {P : Program} {ops : Array Oper} {S : World → Prop}
theorem quiet_len_s {a : Act} {o : Oper} {rest : List Oper} {Q' : Act → Prop} (hg : Region.wanted o (yielded ops a.tmps) = true) (t : TypeId) (x : Operand) (ho : o.op = .call { callee := .builtin .len, args := #[x], argTypes := #[t] }) (ht : P.underlying t = some .string) {s : ByteArray} (hx : a.eval x = .string s)
    (h : wpQuiet P ops S Q' rest (a.put o.dst (.int .i64 (s.size : Int)))) : wpQuiet P ops S Q' (o :: rest) a := by
  refine wpQuiet_step fun K hK => ?_
  rw [if_pos hg]
  refine ⟨_, fun w hC => ?_, hK _ h⟩
  unfold Oper.quietAt execOp
  simp [ho, resolve, invoke, builtin, Builtin.len_, run_underlying ht, goInt, List.map_toArray, List.map_cons, List.map_nil, hx, Sem.run_bind, Sem.run_pure, Result.andThen_ok]
  exact ⟨rfl, rfl⟩
end
theorem flowAT : AggT Tryz.prog 39 7 := ⟨_, Tryz.underlying39, rfl, by kernel_rfl⟩
section
variable {w0 w w' : World} {D C B C' : List Res} {x x' : Res}
theorem tri_c (a : Ev w0 [] w (D ++ C ++ B)) (e : Ev w C w' C') : Ev w0 [] w' (D ++ C' ++ B) := Ev.then D B a e
theorem tri_d (a : Ev w0 [] w ([x] ++ C ++ B)) (e : Ev w [x] w' [x']) : Ev w0 [] w' ([x'] ++ C ++ B) := Ev.then [] (C ++ B) a e
theorem tri_hc (a : Ev w0 [] w (D ++ C ++ B)) : Held w C := Held.part D B a.held
theorem tri_hd (a : Ev w0 [] w ([x] ++ C ++ B)) : Held w [x] := Held.part [] (C ++ B) a.held
theorem tri_hb (a : Ev w0 [] w (D ++ C ++ B)) : Held w B := Held.part (D ++ C) [] (by rw [List.append_nil]; exact a.held)
theorem tri_hb' (a : Ev w0 [] w (C ++ B)) : Held w B := Held.part C [] (by rw [List.append_nil]; exact a.held)
theorem tri_n (a : Ev w0 [] w (C ++ B)) (e : Ev w [] w' D) : Ev w0 [] w' (D ++ C ++ B) := by
  have h := two_n a e
  rwa [← List.append_assoc] at h
end
theorem fheavy_no {l : List ByteArray} {ms : List Int} {more : ByteArray} (h : fheavyS l ms more = false) : l.length ≤ 12 ∧ totN l ≤ 32768 ∧ ms.length ≤ 200 ∧ more.size ≤ 2048 := by
  unfold fheavyS cheavyS at h
  simp at h
  exact ⟨h.1.1.1, h.1.1.2, h.1.2, h.2⟩
section
variable {w : World} {tv pv : Value} {l : List ByteArray} {ms : List Int} {LT LP : Option Nat}
set_option maxRecDepth 20000 in
set_option maxHeartbeats 400000 in
theorem takes_h1 (h : FL w tv pv l ms LT LP) (tb : TB w) (at_ cut : Int) (more : ByteArray) (conn : UInt64) (sec : UInt8) (hA : fheavyS l ms more = true) :
    Calls Tryz.prog 4 #[.agg (flowV tv pv at_ cut more conn sec).toArray] w fun e w' => e = .returned (.bool true) ∧ Fr [] w w' := by
  obtain ⟨la, lc, rfl⟩ := h.t.isSlice
  obtain ⟨ua, uc, rfl⟩ := h.p.isSlice
  have HA := hid fun (w1 : World) (f : Fr [] w w1) => fheavy_any (h.keep f) at_ cut more conn sec
  have HW := hid fun (w1 : World) (f : Fr [] w w1) => cworks_any (tb.keep f)
  rw [hA] at HA
  obtain ⟨n, hn⟩ : ∃ n, l.length = n := ⟨_, rfl⟩
  obtain ⟨m, hm⟩ : ∃ n, ms.length = n := ⟨_, rfl⟩
  rw [hn, hm] at HA ⊢
  clear h tb hA hn hm
  go_enter Tryz.func4, Tryz.ntmps4
  go_wp2_with (first
    | (refine wpList_box rfl _ _ rfl (flowV (.slice la n lc) (.slice ua m uc) at_ cut more conn sec) rfl ?_; intro w1 f1 hlt1 hb1; simp only [World.size_alloc, World.size_drew, Act.put, List.setIfInBounds_toArray, List.set_cons_succ, List.set_cons_zero])
    | (refine wpList_load_ag rfl _ _ rfl rfl (flowV (.slice la n lc) (.slice ua m uc) at_ cut more conn sec) hb1 flowAT rfl rfl ?_; simp only [World.size_alloc, World.size_drew, Act.put, List.setIfInBounds_toArray, List.set_cons_succ, List.set_cons_zero])
    | (go_at_call 14; refine (HA.out _ f1).mono ?_; rintro e w2 ⟨rfl, f2⟩; have g2 := f1.trans' f2)
    | (go_at_call 7; refine (HW.out _ g2).mono ?_; rintro e w3 ⟨rfl, f3⟩))
  go_ret
  exact ⟨rfl, g2.trans' f3⟩
set_option maxRecDepth 20000 in
set_option maxHeartbeats 8000000 in
theorem takes_light (h : FL w tv pv l ms LT LP) (tb : TB w) (at_ cut : Int) (ha : -9223372036854775808 ≤ at_ ∧ at_ ≤ 9223372036854775807) (hcu : 0 ≤ cut ∧ cut ≤ 65535) (more : ByteArray) (conn : UInt64) (sec : UInt8) (hA : fheavyS l ms more = false) :
    Calls Tryz.prog 4 #[.agg (flowV tv pv at_ cut more conn sec).toArray] w fun e w' => e = .returned (.bool true) ∧ Fr [] w w' := by
  obtain ⟨l12, ltot, m200, mo2⟩ := fheavy_no hA
  obtain ⟨la, lc, rfl⟩ := h.t.isSlice
  obtain ⟨ua, uc, rfl⟩ := h.p.isSlice
  have HA := hid fun (w1 : World) (f : Fr [] w w1) => fheavy_any (h.keep f) at_ cut more conn sec
  have HWi := hid fun (w1 : World) (f : Fr [] w w1) => wire_any (h.keep f) (tb.keep f) at_ cut ha hcu more conn sec l12 ltot mo2
  have HPc := hid fun (w1 : World) (f : Fr [] w w1) (i : Nat) (hi : i ≤ 1000) (X : ByteArray) => piece_any (h.keep f) at_ cut more conn sec i hi X
  have HW := hid fun (w1 : World) (f : Fr [] w w1) => cworks_any (tb.keep f)
  have HM := hid fun w1 : World => master_any w1 sec
  have hmk := kmS_size sec
  have HYz := hid (comesS_size (sentS l) more at_ cut (sentS_size l l12 ltot) mo2)
  generalize sentS l = X at *
  generalize comesS X more at_ cut = Y at *
  generalize kmS sec = mk at *
  have HC := hid fun (w1 : World) (f : Fr [] w w1) => cnew_any mk conn true w1 (tb.keep f) hmk
  have HD := hid fun (w1 : World) (f : Fr [] w w1) => dnew_any mk conn true w1 (tb.keep f) hmk
  have KK := chOf_ok mk conn true
  generalize chOf mk conn true = K at *
  rw [hA] at HA
  obtain ⟨n, hn⟩ : ∃ n, l.length = n := ⟨_, rfl⟩
  obtain ⟨m, hm⟩ : ∃ n, ms.length = n := ⟨_, rfl⟩
  rw [hn, hm] at HA HWi HPc ⊢
  rw [hm] at m200
  obtain ⟨cs, hcs⟩ : ∃ cs : List Value, flowV (.slice la n lc) (.slice ua m uc) at_ cut more conn sec = cs := ⟨_, rfl⟩
  have HCS := hid hcs
  have c1 : cs[1]? = some (.slice ua m uc) := by rw [← hcs]; rfl
  have c5 : cs[5]? = some (W64 conn) := by rw [← hcs]; rfl
  have c6 : cs[6]? = some (bt sec) := by rw [← hcs]; rfl
  have clen : cs.length = 7 := by rw [← hcs]; rfl
  have cdt : (cs.drop 0).take 7 = cs := by rw [← hcs]; rfl
  have hcells : ∃ a0, cs.toArray = a0 := ⟨_, rfl⟩
  rw [hcs] at HA HWi HPc ⊢
  have hone : ∀ u ∈ cs, u.oneCell' = true := by rw [← hcs]; simp [flowV, W64, bt, Value.oneCell']
  clear h tb hA hn hm hcs ltot l12 mo2 hmk ha hcu
  go_enter Tryz.func4, Tryz.ntmps4
  go_wp2_with (first
    | (refine wpList_box rfl _ _ rfl cs rfl ?_; intro w1 f1 hlt1 hb1; have T1 := hid ((Ev.start w).new f1 (Res.On.blk hb1) (fun b hb => by simp [Res.blk] at hb; omega)); simp only [World.size_alloc, World.size_drew, Act.put, List.setIfInBounds_toArray, List.set_cons_succ, List.set_cons_zero])
    | (refine wpList_load_ag rfl _ _ rfl rfl cs hb1 flowAT clen cdt ?_; clear hb1; simp only [World.size_alloc, World.size_drew, Act.put, List.setIfInBounds_toArray, List.set_cons_succ, List.set_cons_zero])
    | (go_at_call 14; refine (HA.out _ f1).mono ?_; rintro e w2 ⟨rfl, f2⟩; have T2 := hid (T1.out.step f2); have hb2 := T2.out.held.blkAt 0 rfl; have g2 := Ev.nil T2.out; clear T1 f1 f2 HA hlt1)
    | (refine wpList_load_ag rfl _ _ rfl rfl cs hb2 flowAT clen cdt ?_; clear hb2; simp only [World.size_alloc, World.size_drew, Act.put, List.setIfInBounds_toArray, List.set_cons_succ, List.set_cons_zero])
    | (go_at_call 15; refine (HWi.out _ g2).mono ?_; rintro e w3 ⟨rfl, f3⟩; have T3 := hid (T2.out.step f3); clear f3 HWi T2 g2))
  obtain ⟨bb, hbb⟩ : ∃ bb, w.heap.size = bb := ⟨_, rfl⟩
  rw [hbb] at T3 ⊢
  clear hbb
  have T3d := hid (T3.out.step (Fr.refl [] w3).drew)
  have hb3 : Blk w3.drew bb cs := T3d.out.held.blkAt 0 rfl
  go_wp2_with fail
  refine wp_region_D (fun w' => Blk w' bb cs) false [] (by kernel_rfl) ?_
  refine WD.pure [0, 1] (by kernel_rfl) hb3 ?_
  simp only [pick, List.toList_toArray, List.map_cons, List.map_nil, List.getD_cons_succ, List.getD_cons_zero]
  repeat (first | (refine quiet_load_1W (by rfl) _ _ rfl rfl (W64 conn) (fun _ h => (h.cell 5).trans c5) _ Tryz.underlying22 rfl ?_; simp only [World.size_alloc, World.size_drew, Act.put, List.setIfInBounds_toArray, List.set_cons_succ, List.set_cons_zero]) | (refine quiet_load_1W (by rfl) _ _ rfl rfl (bt sec) (fun wq h => by first|exact (h.cell 6).trans c6|(rw [h];exact (hb3.cell 6).trans c6)) _ Tryz.underlying5 rfl ?_; simp only [World.size_alloc, World.size_drew, Act.put, List.setIfInBounds_toArray, List.set_cons_succ, List.set_cons_zero]) | go_big_quiet_step (fail))
  refine wpQuiet_nil ?_
  refine WD.free [3] (by kernel_rfl) hb3 ?_
  simp only [pick, List.toList_toArray, List.map_cons, List.map_nil, List.getD_cons_succ, List.getD_cons_zero]
  repeat (first | (refine quiet_load_1W (by rfl) _ _ rfl rfl (W64 conn) (fun _ h => (h.cell 5).trans c5) _ Tryz.underlying22 rfl ?_; simp only [World.size_alloc, World.size_drew, Act.put, List.setIfInBounds_toArray, List.set_cons_succ, List.set_cons_zero]) | (refine quiet_load_1W (by rfl) _ _ rfl rfl (bt sec) (fun wq h => by first|exact (h.cell 6).trans c6|(rw [h];exact (hb3.cell 6).trans c6)) _ Tryz.underlying5 rfl ?_; simp only [World.size_alloc, World.size_drew, Act.put, List.setIfInBounds_toArray, List.set_cons_succ, List.set_cons_zero]) | go_big_quiet_step (fail))
  refine wpQuiet_nil ?_
  refine WD.held [4] (by kernel_rfl) hb3 ?_
  simp only [pick, List.toList_toArray, List.map_cons, List.map_nil, List.getD_cons_succ, List.getD_cons_zero]
  repeat (first | (refine quiet_load_1W (by rfl) _ _ rfl rfl (W64 conn) (fun _ h => (h.cell 5).trans c5) _ Tryz.underlying22 rfl ?_; simp only [World.size_alloc, World.size_drew, Act.put, List.setIfInBounds_toArray, List.set_cons_succ, List.set_cons_zero]) | (refine quiet_load_1W (by rfl) _ _ rfl rfl (bt sec) (fun wq h => by first|exact (h.cell 6).trans c6|(rw [h];exact (hb3.cell 6).trans c6)) _ Tryz.underlying5 rfl ?_; simp only [World.size_alloc, World.size_drew, Act.put, List.setIfInBounds_toArray, List.set_cons_succ, List.set_cons_zero]) | go_big_quiet_step (fail))
  refine wpQuiet_nil ?_
  refine WD.eff 2 (by kernel_rfl) ?_
  simp only [pick, List.toList_toArray, List.map_cons, List.map_nil, List.getD_cons_succ, List.getD_cons_zero]
  go_wp2_with (go_at_call 16; refine (HM.out _).mono ?_; rintro e w4 ⟨rfl, f4⟩; have T4 := hid (T3d.out.step f4); have hb4 : Blk w4 bb cs := T4.out.held.blkAt 0 rfl; clear hb3 T3d T3 f4)
  try refine wpList_nil ?_
  refine AfterD.on hb4 (by kernel_rfl) ?_
  try simp only [World.size_alloc, World.size_drew, Act.put, List.setIfInBounds_toArray, List.set_cons_succ, List.set_cons_zero]
  refine WD.eff 5 (by kernel_rfl) ?_
  simp only [pick, List.toList_toArray, List.map_cons, List.map_nil, List.getD_cons_succ, List.getD_cons_zero]
  have g4 := Ev.nil T4.out
  go_wp2_with (go_at_call 8; refine (HC.out _ g4).mono ?_; rintro e w5 ⟨cb, s, o, rfl, E5⟩; have T5 := hid (two_n T4.out E5); have hb5 : Blk w5 bb cs := (tri_hb' T5.out).blkAt 0 rfl; clear hb4 T4 g4 E5 HC)
  try refine wpList_nil ?_
  refine AfterD.on hb5 (by kernel_rfl) ?_
  try simp only [World.size_alloc, World.size_drew, Act.put, List.setIfInBounds_toArray, List.set_cons_succ, List.set_cons_zero]
  refine WD.pure [6, 7, 8, 9, 10] (by kernel_rfl) hb5 ?_
  simp only [pick, List.toList_toArray, List.map_cons, List.map_nil, List.getD_cons_succ, List.getD_cons_zero]
  repeat (first | (refine quiet_load_1W (by rfl) _ _ rfl rfl (W64 conn) (fun _ h => (h.cell 5).trans c5) _ Tryz.underlying22 rfl ?_; simp only [World.size_alloc, World.size_drew, Act.put, List.setIfInBounds_toArray, List.set_cons_succ, List.set_cons_zero]) | (refine quiet_load_1W (by rfl) _ _ rfl rfl (bt sec) (fun wq h => by first|exact (h.cell 6).trans c6|(rw [h];exact (hb3.cell 6).trans c6)) _ Tryz.underlying5 rfl ?_; simp only [World.size_alloc, World.size_drew, Act.put, List.setIfInBounds_toArray, List.set_cons_succ, List.set_cons_zero]) | go_big_quiet_step (fail))
  refine wpQuiet_nil ?_
  refine WD.done (by kernel_rfl) ?_
  go_wp2_with fail
  have T5d := hid (T5.out.step (Fr.refl [] w5).drew)
  have hb6 : Blk w5.drew bb cs := (tri_hb' T5d.out).blkAt 0 rfl
  refine wp_region_D (fun w' => Blk w' bb cs) false [] (by kernel_rfl) ?_
  refine WD.pure [0, 1] (by kernel_rfl) hb6 ?_
  simp only [pick, List.toList_toArray, List.map_cons, List.map_nil, List.getD_cons_succ, List.getD_cons_zero]
  repeat (first | (refine quiet_load_1W (by rfl) _ _ rfl rfl (W64 conn) (fun _ h => (h.cell 5).trans c5) _ Tryz.underlying22 rfl ?_; simp only [World.size_alloc, World.size_drew, Act.put, List.setIfInBounds_toArray, List.set_cons_succ, List.set_cons_zero]) | (refine quiet_load_1W (by rfl) _ _ rfl rfl (bt sec) (fun wq h => by first|exact (h.cell 6).trans c6|(rw [h];exact (hb6.cell 6).trans c6)) _ Tryz.underlying5 rfl ?_; simp only [World.size_alloc, World.size_drew, Act.put, List.setIfInBounds_toArray, List.set_cons_succ, List.set_cons_zero]) | go_big_quiet_step (fail))
  refine wpQuiet_nil ?_
  refine WD.free [3] (by kernel_rfl) hb6 ?_
  simp only [pick, List.toList_toArray, List.map_cons, List.map_nil, List.getD_cons_succ, List.getD_cons_zero]
  repeat (first | (refine quiet_load_1W (by rfl) _ _ rfl rfl (W64 conn) (fun _ h => (h.cell 5).trans c5) _ Tryz.underlying22 rfl ?_; simp only [World.size_alloc, World.size_drew, Act.put, List.setIfInBounds_toArray, List.set_cons_succ, List.set_cons_zero]) | (refine quiet_load_1W (by rfl) _ _ rfl rfl (bt sec) (fun wq h => by first|exact (h.cell 6).trans c6|(rw [h];exact (hb6.cell 6).trans c6)) _ Tryz.underlying5 rfl ?_; simp only [World.size_alloc, World.size_drew, Act.put, List.setIfInBounds_toArray, List.set_cons_succ, List.set_cons_zero]) | go_big_quiet_step (fail))
  refine wpQuiet_nil ?_
  refine WD.held [4] (by kernel_rfl) hb6 ?_
  simp only [pick, List.toList_toArray, List.map_cons, List.map_nil, List.getD_cons_succ, List.getD_cons_zero]
  repeat (first | (refine quiet_load_1W (by rfl) _ _ rfl rfl (W64 conn) (fun _ h => (h.cell 5).trans c5) _ Tryz.underlying22 rfl ?_; simp only [World.size_alloc, World.size_drew, Act.put, List.setIfInBounds_toArray, List.set_cons_succ, List.set_cons_zero]) | (refine quiet_load_1W (by rfl) _ _ rfl rfl (bt sec) (fun wq h => by first|exact (h.cell 6).trans c6|(rw [h];exact (hb6.cell 6).trans c6)) _ Tryz.underlying5 rfl ?_; simp only [World.size_alloc, World.size_drew, Act.put, List.setIfInBounds_toArray, List.set_cons_succ, List.set_cons_zero]) | go_big_quiet_step (fail))
  refine wpQuiet_nil ?_
  refine WD.eff 2 (by kernel_rfl) ?_
  simp only [pick, List.toList_toArray, List.map_cons, List.map_nil, List.getD_cons_succ, List.getD_cons_zero]
  go_wp2_with (go_at_call 16; refine (HM.out _).mono ?_; rintro e w7 ⟨rfl, f7⟩; have T7 := hid (T5d.out.step f7); have hb7 : Blk w7 bb cs := (tri_hb' T7.out).blkAt 0 rfl; clear hb6 hb5 T5d T5 f7)
  try refine wpList_nil ?_
  refine AfterD.on hb7 (by kernel_rfl) ?_
  try simp only [World.size_alloc, World.size_drew, Act.put, List.setIfInBounds_toArray, List.set_cons_succ, List.set_cons_zero]
  refine WD.eff 5 (by kernel_rfl) ?_
  simp only [pick, List.toList_toArray, List.map_cons, List.map_nil, List.getD_cons_succ, List.getD_cons_zero]
  have g7 := Ev.nil T7.out
  go_wp2_with (go_at_call 9; refine (HD.out _ g7).mono ?_; rintro e w8 ⟨p, rfl, E8⟩; have T8 := hid (tri_n T7.out E8); have hb8 : Blk w8 bb cs := (tri_hb T8.out).blkAt 0 rfl; clear hb7 T7 g7 E8 HD)
  try refine wpList_nil ?_
  refine AfterD.on hb8 (by kernel_rfl) ?_
  try simp only [World.size_alloc, World.size_drew, Act.put, List.setIfInBounds_toArray, List.set_cons_succ, List.set_cons_zero]
  refine WD.pure [6] (by kernel_rfl) hb8 ?_
  simp only [pick, List.toList_toArray, List.map_cons, List.map_nil, List.getD_cons_succ, List.getD_cons_zero]
  repeat (first | (refine quiet_load_1W (by rfl) _ _ rfl rfl (W64 conn) (fun _ h => (h.cell 5).trans c5) _ Tryz.underlying22 rfl ?_; simp only [World.size_alloc, World.size_drew, Act.put, List.setIfInBounds_toArray, List.set_cons_succ, List.set_cons_zero]) | (refine quiet_load_1W (by rfl) _ _ rfl rfl (bt sec) (fun wq h => by first|exact (h.cell 6).trans c6|(rw [h];exact (hb6.cell 6).trans c6)) _ Tryz.underlying5 rfl ?_; simp only [World.size_alloc, World.size_drew, Act.put, List.setIfInBounds_toArray, List.set_cons_succ, List.set_cons_zero]) | go_big_quiet_step (fail))
  refine wpQuiet_nil ?_
  refine WD.done (by kernel_rfl) ?_
  go_wp2_with fail
  clear hb8
  go_loopw [4, 8] (fun lv iv wr => ∃ (i : Nat) (rest : ByteArray) (S : CHS), i ≤ m + 1 ∧ iv = .int .i64 (i : Int) ∧ lv = .string rest ∧ Hid (S.cl = false → S.oc = false) ∧ Hid (S.held.size + rest.size ≤ 600000) ∧ Hid (Ev w [] wr ([Res.blk p (docL K S)] ++ chR cb s o K S ++ [Res.blk bb cs]))) (fun _ iv _ => m + 1 - (intOf iv).toNat)
  case atStart => exact ⟨0, Y, CHS.init, Nat.zero_le _, rfl, rfl, hid fun _ => rfl, hid (by have := HYz.out; show 0 + _ ≤ _; omega), T8⟩
  case round =>
    obtain ⟨i, rest, S, hi, rfl, rfl, HO, HS, hE⟩ := hrel
    clear T8 HYz
    have hbx : Blk wr bb cs := (tri_hb hE.out).blkAt 0 rfl
    have k1 : wr.cell? ⟨bb, 1, none⟩ = some (.slice ua m uc) := (hbx.cell 1).trans c1
    by_cases him : i ≤ m
    case neg =>
      have hd1 : decide (i ≤ m) = false := by simp; omega
      have g := Ev.nil hE.out
      clear hE HPc c1 c5 c6 hbx
      go_wp2_with (go_at_call 7; refine (HW.out _ g).mono ?_; rintro e w9 ⟨rfl, f9⟩; have g9 := g.trans' f9)
      go_ret
      exact ⟨rfl, g9⟩
    case pos =>
      have hd1 : decide (i ≤ m) = true := by simp; omega
      have HPi := hid (HPc.out wr (Ev.nil hE.out) i (by omega) rest)
      have hq0 := pieceN_le ms i rest
      obtain ⟨q, hq⟩ : ∃ q, pieceN ms i rest = q := ⟨_, rfl⟩
      rw [hq] at HPi hq0
      clear hq HPc
      have hqi : (q : Int) ≤ (rest.size : Int) := by omega
      obtain ⟨P, hP⟩ : ∃ P, rest.extract 0 q = P := ⟨_, rfl⟩
      obtain ⟨Z, hZ⟩ : ∃ Z, rest.extract q rest.size = Z := ⟨_, rfl⟩
      have hPs : P.size = q := by rw [← hP, ByteArray.size_extract]; omega
      have hZs : Z.size = rest.size - q := by rw [← hZ, ByteArray.size_extract]; omega
      have hss := HS.out
      have hrb : rest.size ≤ 600000 := by omega
      have HT := hid fun (w1 : World) (h1 : Held w1 (chR cb s o K S)) => ctake_all h1 KK HO.out P (by omega)
      have HTd := hid fun (w1 : World) (h1 : Held w1 [Res.blk p (docL K S)]) => dtake_all h1 KK HO.out P (by omega)
      have hh := tkN_held K S P
      have HO' := hid (tkN_oc K S P HO.out)
      obtain ⟨S', hS'⟩ : ∃ S', tkN K S P = S' := ⟨_, rfl⟩
      obtain ⟨T, hT⟩ : ∃ T, tkC K S P = T := ⟨_, rfl⟩
      rw [hS'] at HT HTd hh HO'
      rw [hT] at HT HTd
      have HS' := hid (show S'.held.size + Z.size ≤ 600000 by omega)
      obtain ⟨to_, hto⟩ : ∃ v, T.out = v := ⟨_, rfl⟩
      obtain ⟨tc, htc⟩ : ∃ v, T.c = v := ⟨_, rfl⟩
      rw [hto, htc] at HT HTd
      have HP := hid hP
      have HZ := hid hZ
      clear hS' hT hto htc hP hZ hPs hZs hss hh HS HO
      go_wp2_with (first
        | (refine wpList_load_ag rfl _ _ rfl rfl cs hbx flowAT clen cdt ?_; clear hbx; simp only [World.size_alloc, World.size_drew, Act.put, List.setIfInBounds_toArray, List.set_cons_succ, List.set_cons_zero])
        | (go_at_call 17; refine HPi.out.mono ?_; rintro e w2 ⟨rfl, f2⟩; have T2 := hid (hE.out.step f2); clear HPi f2 hE)
        | (go_at_call 18; rw [HP.out]; refine (HT.out _ (tri_hc T2.out)).mono ?_; rintro e w3 ⟨rfl, h3⟩; have T3 := hid (tri_c T2.out h3); clear h3 HT T2)
        | (go_at_call 19; rw [HP.out]; refine (HTd.out _ (tri_hd T3.out)).mono ?_; rintro e w6 ⟨rfl, h6⟩; have T6 := hid (tri_d T3.out h6); clear h6 HTd T3))
      have T6d := hid (T6.out.step (Fr.refl [] w6).drew)
      have d6 : Blk w6.drew p (docL K S') := (tri_hd T6d.out).blkAt 0 rfl
      have HC1 := hid fun (w1 : World) (h1 : Held w1 (chR cb s o K S')) => cclosed_any h1
      have HC2 := hid fun (w1 : World) (h1 : Held w1 (chR cb s o K S')) => cwaits_any h1
      refine wp_region_D (fun w' => Blk w' p (docL K S')) false [] (by kernel_rfl) ?_
      refine WD.pure [0, 1, 2, 3, 4, 5, 6, 7, 8, 9] (by kernel_rfl) d6 ?_
      simp only [pick, List.toList_toArray, List.map_cons, List.map_nil, List.getD_cons_succ, List.getD_cons_zero]
      repeat (first | (refine quiet_load_1W (by rfl) _ _ rfl rfl (.bool S'.cl) (fun _ h => h.cell 10) _ Tryz.underlying4 rfl ?_; simp only [World.size_alloc, World.size_drew, Act.put, List.setIfInBounds_toArray, List.set_cons_succ, List.set_cons_zero]) | (refine quiet_load_1W (by rfl) _ _ rfl rfl (.string S'.held) (fun _ h => h.cell 9) _ Tryz.underlying9 rfl ?_; simp only [World.size_alloc, World.size_drew, Act.put, List.setIfInBounds_toArray, List.set_cons_succ, List.set_cons_zero]) | (refine quiet_len_s (by rfl) _ _ rfl Tryz.underlying9 rfl ?_; simp only [World.size_alloc, World.size_drew, Act.put, List.setIfInBounds_toArray, List.set_cons_succ, List.set_cons_zero]) | go_big_quiet_step (fail))
      refine wpQuiet_nil ?_
      refine WD.free [11, 12, 13] (by kernel_rfl) d6 ?_
      simp only [pick, List.toList_toArray, List.map_cons, List.map_nil, List.getD_cons_succ, List.getD_cons_zero]
      repeat (first | (refine quiet_load_1W (by rfl) _ _ rfl rfl (.bool S'.cl) (fun _ h => h.cell 10) _ Tryz.underlying4 rfl ?_; simp only [World.size_alloc, World.size_drew, Act.put, List.setIfInBounds_toArray, List.set_cons_succ, List.set_cons_zero]) | (refine quiet_load_1W (by rfl) _ _ rfl rfl (.string S'.held) (fun _ h => h.cell 9) _ Tryz.underlying9 rfl ?_; simp only [World.size_alloc, World.size_drew, Act.put, List.setIfInBounds_toArray, List.set_cons_succ, List.set_cons_zero]) | (refine quiet_len_s (by rfl) _ _ rfl Tryz.underlying9 rfl ?_; simp only [World.size_alloc, World.size_drew, Act.put, List.setIfInBounds_toArray, List.set_cons_succ, List.set_cons_zero]) | go_big_quiet_step (fail))
      refine wpQuiet_nil ?_
      refine WD.held [14] (by kernel_rfl) d6 ?_
      simp only [pick, List.toList_toArray, List.map_cons, List.map_nil, List.getD_cons_succ, List.getD_cons_zero]
      repeat (first | (refine quiet_load_1W (by rfl) _ _ rfl rfl (.bool S'.cl) (fun _ h => h.cell 10) _ Tryz.underlying4 rfl ?_; simp only [World.size_alloc, World.size_drew, Act.put, List.setIfInBounds_toArray, List.set_cons_succ, List.set_cons_zero]) | (refine quiet_load_1W (by rfl) _ _ rfl rfl (.string S'.held) (fun _ h => h.cell 9) _ Tryz.underlying9 rfl ?_; simp only [World.size_alloc, World.size_drew, Act.put, List.setIfInBounds_toArray, List.set_cons_succ, List.set_cons_zero]) | (refine quiet_len_s (by rfl) _ _ rfl Tryz.underlying9 rfl ?_; simp only [World.size_alloc, World.size_drew, Act.put, List.setIfInBounds_toArray, List.set_cons_succ, List.set_cons_zero]) | go_big_quiet_step (fail))
      refine wpQuiet_nil ?_
      refine WD.eff 10 (by kernel_rfl) ?_
      simp only [pick, List.toList_toArray, List.map_cons, List.map_nil, List.getD_cons_succ, List.getD_cons_zero]
      go_wp2_with (go_at_call 12; refine (HC1.out _ (tri_hc T6d.out)).mono ?_; rintro e w7 ⟨rfl, rfl⟩)
      try refine wpList_nil ?_
      refine AfterD.on d6 (by kernel_rfl) ?_
      try simp only [World.size_alloc, World.size_drew, Act.put, List.setIfInBounds_toArray, List.set_cons_succ, List.set_cons_zero]
      refine WD.pure [15, 16, 17, 18] (by kernel_rfl) d6 ?_
      simp only [pick, List.toList_toArray, List.map_cons, List.map_nil, List.getD_cons_succ, List.getD_cons_zero]
      repeat (first | (refine quiet_load_1W (by rfl) _ _ rfl rfl (.bool S'.cl) (fun _ h => h.cell 10) _ Tryz.underlying4 rfl ?_; simp only [World.size_alloc, World.size_drew, Act.put, List.setIfInBounds_toArray, List.set_cons_succ, List.set_cons_zero]) | (refine quiet_load_1W (by rfl) _ _ rfl rfl (.string S'.held) (fun _ h => h.cell 9) _ Tryz.underlying9 rfl ?_; simp only [World.size_alloc, World.size_drew, Act.put, List.setIfInBounds_toArray, List.set_cons_succ, List.set_cons_zero]) | (refine quiet_len_s (by rfl) _ _ rfl Tryz.underlying9 rfl ?_; simp only [World.size_alloc, World.size_drew, Act.put, List.setIfInBounds_toArray, List.set_cons_succ, List.set_cons_zero]) | go_big_quiet_step (fail))
      refine wpQuiet_nil ?_
      refine WD.free [20, 21, 22] (by kernel_rfl) d6 ?_
      simp only [pick, List.toList_toArray, List.map_cons, List.map_nil, List.getD_cons_succ, List.getD_cons_zero]
      repeat (first | (refine quiet_load_1W (by rfl) _ _ rfl rfl (.bool S'.cl) (fun _ h => h.cell 10) _ Tryz.underlying4 rfl ?_; simp only [World.size_alloc, World.size_drew, Act.put, List.setIfInBounds_toArray, List.set_cons_succ, List.set_cons_zero]) | (refine quiet_load_1W (by rfl) _ _ rfl rfl (.string S'.held) (fun _ h => h.cell 9) _ Tryz.underlying9 rfl ?_; simp only [World.size_alloc, World.size_drew, Act.put, List.setIfInBounds_toArray, List.set_cons_succ, List.set_cons_zero]) | (refine quiet_len_s (by rfl) _ _ rfl Tryz.underlying9 rfl ?_; simp only [World.size_alloc, World.size_drew, Act.put, List.setIfInBounds_toArray, List.set_cons_succ, List.set_cons_zero]) | go_big_quiet_step (fail))
      refine wpQuiet_nil ?_
      refine WD.held [23, 24] (by kernel_rfl) d6 ?_
      simp only [pick, List.toList_toArray, List.map_cons, List.map_nil, List.getD_cons_succ, List.getD_cons_zero]
      repeat (first | (refine quiet_load_1W (by rfl) _ _ rfl rfl (.bool S'.cl) (fun _ h => h.cell 10) _ Tryz.underlying4 rfl ?_; simp only [World.size_alloc, World.size_drew, Act.put, List.setIfInBounds_toArray, List.set_cons_succ, List.set_cons_zero]) | (refine quiet_load_1W (by rfl) _ _ rfl rfl (.string S'.held) (fun _ h => h.cell 9) _ Tryz.underlying9 rfl ?_; simp only [World.size_alloc, World.size_drew, Act.put, List.setIfInBounds_toArray, List.set_cons_succ, List.set_cons_zero]) | (refine quiet_len_s (by rfl) _ _ rfl Tryz.underlying9 rfl ?_; simp only [World.size_alloc, World.size_drew, Act.put, List.setIfInBounds_toArray, List.set_cons_succ, List.set_cons_zero]) | go_big_quiet_step (fail))
      refine wpQuiet_nil ?_
      refine WD.eff 19 (by kernel_rfl) ?_
      simp only [pick, List.toList_toArray, List.map_cons, List.map_nil, List.getD_cons_succ, List.getD_cons_zero]
      go_wp2_with (go_at_call 13; refine (HC2.out _ (tri_hc T6d.out)).mono ?_; rintro e w8 ⟨rfl, rfl⟩)
      try refine wpList_nil ?_
      refine AfterD.on d6 (by kernel_rfl) ?_
      try simp only [World.size_alloc, World.size_drew, Act.put, List.setIfInBounds_toArray, List.set_cons_succ, List.set_cons_zero]
      refine WD.pure [25, 26] (by kernel_rfl) d6 ?_
      simp only [pick, List.toList_toArray, List.map_cons, List.map_nil, List.getD_cons_succ, List.getD_cons_zero]
      repeat (first | (refine quiet_load_1W (by rfl) _ _ rfl rfl (.bool S'.cl) (fun _ h => h.cell 10) _ Tryz.underlying4 rfl ?_; simp only [World.size_alloc, World.size_drew, Act.put, List.setIfInBounds_toArray, List.set_cons_succ, List.set_cons_zero]) | (refine quiet_load_1W (by rfl) _ _ rfl rfl (.string S'.held) (fun _ h => h.cell 9) _ Tryz.underlying9 rfl ?_; simp only [World.size_alloc, World.size_drew, Act.put, List.setIfInBounds_toArray, List.set_cons_succ, List.set_cons_zero]) | (refine quiet_len_s (by rfl) _ _ rfl Tryz.underlying9 rfl ?_; simp only [World.size_alloc, World.size_drew, Act.put, List.setIfInBounds_toArray, List.set_cons_succ, List.set_cons_zero]) | go_big_quiet_step (fail))
      refine wpQuiet_nil ?_
      refine WD.done (by kernel_rfl) ?_
      go_wp2_with fail
      go_roundw
      case rel => exact ⟨i + 1, Z, S', by omega, by go_num, by rw [HZ.out], HO', HS', T6d⟩
      case measure => simp [intOf]; omega
theorem takes_walk (h : FL w tv pv l ms LT LP) (tb : TB w) (at_ cut : Int) (ha : -9223372036854775808 ≤ at_ ∧ at_ ≤ 9223372036854775807) (hcu : 0 ≤ cut ∧ cut ≤ 65535) (more : ByteArray) (conn : UInt64) (sec : UInt8) :
    Calls Tryz.prog 4 #[.agg (flowV tv pv at_ cut more conn sec).toArray] w fun e w' => e = .returned (.bool true) ∧ Fr [] w w' := by
  cases hA : fheavyS l ms more with
  | true => exact takes_h1 h tb at_ cut more conn sec hA
  | false => exact takes_light h tb at_ cut ha hcu more conn sec hA
end
end Go.Proofs.YtneoagelcjfanaaGreatDoor.chn
