/- Several texts put together: DcJ, DcK, ChannelTakes, ChFlow. What each shows stands ahead of it. -/
import Derived.Test.YtneoagelcjfanaaGreatDoorGDoc
import Derived.Test.YtneoagelcjfanaaGreatDoorGArgs
/- Layer 22 (great seat): whether something bears a right tag that was never sent. -/
namespace Go.Proofs.YtneoagelcjfanaaGreatDoor.chn
open Go Go.Xr Go.RowKit Go.Proofs.YtneoagelcjfanaaGreatDoor Go.Proofs.YtneoagelcjfanaaGreatDoor.rcd
set_option linter.unusedVariables false
set_option linter.unusedSimpArgs false
theorem eqgu8 (op : BinOp) (t : TypeId) (x y : Operand) (a b : UInt8) : eqGuard op t x y (bt a) (bt b) = pure () := by cases op <;> rfl
attribute [local go_sem] eql_u8 eqgu8
theorem two_blk {w0 w w' : World} {x x' y : Res} (a : Ev w0 [] w ([x] ++ [y])) (e : Ev w [x] w' [x']) : Ev w0 [] w' ([x'] ++ [y]) := Ev.then [] [y] a e
set_option maxRecDepth 20000 in
set_option maxHeartbeats 4000000 in
theorem forged_any {w : World} (tb : TB w) (A B : ByteArray) (hA : A.size ≤ 600000) (hB : B.size ≤ 600000) : Calls Tryz.prog 20 #[.string A, .string B] w fun e w' => e = .returned (.bool (forgedS A B)) ∧ Fr [] w w' := by
  have HM := hid fun w1 : World => master_any w1 0
  have hmk := kmS_size 0
  rw [show bt 0 = Value.int .u8 0 from rfl] at HM
  have HN := hid fun (w1 : World) (f : Fr [] w w1) => dnew_any (kmS 0) 7 true w1 (tb.keep f) hmk
  rw [show W64 7 = Value.int .u64 7 from rfl, show chOf (kmS 0) 7 true = flowR from rfl] at HN
  have KK : KOk flowR := chOf_ok _ _ _
  obtain ⟨K, hK⟩ : ∃ K, flowR = K := ⟨_, rfl⟩
  have HK := hid hK
  rw [hK] at HN KK
  generalize kmS 0 = mk at *
  have HT := hid fun (w1 : World) (p : Nat) (h : Held w1 [Res.blk p (docL K CHS.init)]) => dtake_all h KK (fun _ => rfl) B (by show 0 + _ ≤ _; omega)
  have eo : (tkC K CHS.init B).out = (takeS K 0 B).out := by
    unfold tkC
    rw [show CHS.init.cl = false from rfl, show CHS.init.held = ⟨#[]⟩ from rfl, bempty_app]
    rfl
  rw [eo] at HT
  obtain ⟨oB, hoB⟩ : ∃ v, (takeS K 0 B).out = v := ⟨_, rfl⟩
  rw [hoB] at HT
  have HoB := hid hoB
  generalize (tkC K CHS.init B).c = tcB at *
  obtain ⟨S1, hS1⟩ : ∃ v, tkN K CHS.init B = v := ⟨_, rfl⟩
  rw [hS1] at HT
  obtain ⟨F, hF⟩ : ∃ F, forgedS A B = F := ⟨_, rfl⟩
  have HF := hid hF
  rw [hF]
  clear hmk hK eo hoB hS1 tb hF
  go_enter Tryz.func20, Tryz.ntmps20
  go_wp2_with (first
    | (go_at_call 16; refine (HM.out _).mono ?_; rintro e w1 ⟨rfl, f1⟩; have T1 := hid ((Ev.start w).step f1); clear f1)
    | (go_at_call 9; refine (HN.out _ (Ev.nil T1.out)).mono ?_; rintro e w2 ⟨p1, rfl, E2⟩; have T2 := hid (Ev.trans T1.out E2); clear E2 T1)
    | (go_at_call 19; refine (HT.out _ _ T2.out.held).mono ?_; rintro e w3 ⟨rfl, h3⟩; have T3 := hid (Ev.trans T2.out h3); clear h3 T2 HT)
    | (go_at_call 16; refine (HM.out _).mono ?_; rintro e w4 ⟨rfl, f4⟩; have T4 := hid (T3.out.step f4); clear f4 T3)
    | (go_at_call 9; refine (HN.out _ (Ev.nil T4.out)).mono ?_; rintro e w6 ⟨p2, rfl, E6⟩; have T6 := hid (two_n T4.out E6); clear E6 T4))
  go_loopw [9] (fun iv wr => ∃ i : Nat, iv = .int .i64 (i : Int) ∧ i ≤ A.size ∧ i ≤ B.size ∧ Hid (A.data.toList.take i = B.data.toList.take i) ∧ Hid (Ev w [] wr ([Res.blk p2 (docL K CHS.init)] ++ [Res.blk p1 (docL K S1)]))) (fun iv _ => A.size - (intOf iv).toNat)
  case atStart => exact ⟨0, rfl, Nat.zero_le _, Nat.zero_le _, hid rfl, T6⟩
  case round =>
    obtain ⟨i, rfl, hiA, hiB, HE, hE⟩ := hrel
    clear T6
    have T6 := hid (hE.out.step (Fr.refl [] wr).drew)
    clear hE
    by_cases hlA : i < A.size
    case neg =>
      have HNE := hid (show ¬ (i < A.size ∧ i < B.size ∧ g8 A.data.toList i = g8 B.data.toList i) from fun h => hlA h.1)
      have hd1 : decide ((i : Int) < (A.size : Int)) = false := by simp; omega
      have hd2 : decide (i < A.size) = false := by simp; omega
      have HM3 := hid (cpl_eq HE.out hiA hiB HNE.out)
      have hsl : (A.extract 0 i).size ≤ 600000 := by rw [ByteArray.size_extract]; omega
      obtain ⟨P, hP⟩ : ∃ P, A.extract 0 i = P := ⟨_, rfl⟩
      rw [hP] at hsl
      have HP := hid hP
      have HT3 := hid (dtake_all (Held.part [] [Res.blk p1 (docL K S1)] T6.out.held) KK (fun _ => rfl) P (by show 0 + _ ≤ _; omega))
      have eo : (tkC K CHS.init P).out = (takeS K 0 P).out := by
        unfold tkC
        rw [show CHS.init.cl = false from rfl, show CHS.init.held = ⟨#[]⟩ from rfl, bempty_app]
        rfl
      rw [eo] at HT3
      have HF2 := hid (show forgedS A B = decide (oB ≠ (takeS K 0 P).out) by unfold forgedS; rw [HM3.out, hP, HK.out, HoB.out])
      generalize (tkC K CHS.init P).c = tc at *
      generalize tkN K CHS.init P = SP at *
      generalize (takeS K 0 P).out = oP at *
      clear eo hP hsl
      go_wp2_with fail
      refine wp_region_D (fun _ => True) false [] (by kernel_rfl) ?_
      refine WD.pure [0, 1, 2, 3, 4, 5, 6, 7, 8, 9, 10, 11, 12, 13, 14, 15, 16, 17, 18] (by kernel_rfl) trivial ?_
      simp only [pick, List.toList_toArray, List.map_cons, List.map_nil, List.getD_cons_succ, List.getD_cons_zero]
      repeat (first | go_big_quiet_step (fail))
      refine wpQuiet_nil ?_
      refine WD.done (by kernel_rfl) ?_
      go_wp2_with (go_at_call 19; rw [HP.out]; refine HT3.out.mono ?_; rintro e w7 ⟨rfl, h7⟩; have g7 := Ev.nil (two_blk T6.out h7); clear h7 HT3)
      go_ret
      rw [← HF.out, HF2.out]
      exact ⟨by simp [beq_str2], g7⟩
    case pos =>
      have hd1 : decide ((i : Int) < (A.size : Int)) = true := by simp; omega
      have hd2 : decide (i < A.size) = true := by simp; omega
      by_cases hlB : i < B.size
      case neg =>
        have HNE := hid (show ¬ (i < A.size ∧ i < B.size ∧ g8 A.data.toList i = g8 B.data.toList i) from fun h => hlB h.2.1)
        have hd3 : decide ((i : Int) < (B.size : Int)) = false := by simp; omega
        have hd4 : decide (i < B.size) = false := by simp; omega
        have HM3 := hid (cpl_eq HE.out hiA hiB HNE.out)
        have hsl : (A.extract 0 i).size ≤ 600000 := by rw [ByteArray.size_extract]; omega
        obtain ⟨P, hP⟩ : ∃ P, A.extract 0 i = P := ⟨_, rfl⟩
        rw [hP] at hsl
        have HP := hid hP
        have HT3 := hid (dtake_all (Held.part [] [Res.blk p1 (docL K S1)] T6.out.held) KK (fun _ => rfl) P (by show 0 + _ ≤ _; omega))
        have eo : (tkC K CHS.init P).out = (takeS K 0 P).out := by
          unfold tkC
          rw [show CHS.init.cl = false from rfl, show CHS.init.held = ⟨#[]⟩ from rfl, bempty_app]
          rfl
        rw [eo] at HT3
        have HF2 := hid (show forgedS A B = decide (oB ≠ (takeS K 0 P).out) by unfold forgedS; rw [HM3.out, hP, HK.out, HoB.out])
        generalize (tkC K CHS.init P).c = tc at *
        generalize tkN K CHS.init P = SP at *
        generalize (takeS K 0 P).out = oP at *
        clear eo hP hsl
        go_wp2_with fail
        refine wp_region_D (fun _ => True) false [] (by kernel_rfl) ?_
        refine WD.pure [0, 1, 2, 3, 4, 5, 6, 7, 8, 9, 10, 11, 12, 13, 14, 15, 16, 17, 18] (by kernel_rfl) trivial ?_
        simp only [pick, List.toList_toArray, List.map_cons, List.map_nil, List.getD_cons_succ, List.getD_cons_zero]
        repeat (first | go_big_quiet_step (fail))
        refine wpQuiet_nil ?_
        refine WD.done (by kernel_rfl) ?_
        go_wp2_with (go_at_call 19; rw [HP.out]; refine HT3.out.mono ?_; rintro e w7 ⟨rfl, h7⟩; have g7 := Ev.nil (two_blk T6.out h7); clear h7 HT3)
        go_ret
        rw [← HF.out, HF2.out]
        exact ⟨by simp [beq_str2], g7⟩
      case pos =>
        have hd3 : decide ((i : Int) < (B.size : Int)) = true := by simp; omega
        have hd4 : decide (i < B.size) = true := by simp; omega
        have hal : i < A.data.toList.length := by rw [ba_len]; exact hlA
        have hbl : i < B.data.toList.length := by rw [ba_len]; exact hlB
        have HST := hid fun he : g8 A.data.toList i = g8 B.data.toList i => cpl_step HE.out hal hbl he
        have hxa : ∀ w0 : World, (Instr.index 9 (.string A) (.int .i64 (i : Int))).run Tryz.prog w0 = .ok (bt (g8 A.data.toList i)) w0 := fun w0 => index_str (P := Tryz.prog) w0 9 A .i64 i i Tryz.underlying9 rfl hlA 0
        have hxb : ∀ w0 : World, (Instr.index 9 (.string B) (.int .i64 (i : Int))).run Tryz.prog w0 = .ok (bt (g8 B.data.toList i)) w0 := fun w0 => index_str (P := Tryz.prog) w0 9 B .i64 i i Tryz.underlying9 rfl hlB 0
        by_cases hxy : g8 A.data.toList i = g8 B.data.toList i
        case pos =>
          have HEN := hid (HST.out hxy)
          rw [← hxy] at hxb
          generalize g8 A.data.toList i = XA at *
          clear HST hxy hal hbl
          go_wp2_with fail
          refine wp_region_D (fun _ => True) false [] (by kernel_rfl) ?_
          refine WD.pure [0, 1, 2, 3, 4, 5, 6, 7, 8, 9, 10, 11, 12, 13, 14, 15, 16, 17, 18] (by kernel_rfl) trivial ?_
          simp only [pick, List.toList_toArray, List.map_cons, List.map_nil, List.getD_cons_succ, List.getD_cons_zero]
          repeat (first | go_big_quiet_step (fail))
          refine wpQuiet_nil ?_
          refine WD.done (by kernel_rfl) ?_
          go_wp2_with fail
          go_roundw
          case rel => exact ⟨i + 1, by go_num, by omega, by omega, HEN, T6⟩
          case measure => simp [intOf]; omega
        case neg =>
          have HNE := hid (show ¬ (i < A.size ∧ i < B.size ∧ g8 A.data.toList i = g8 B.data.toList i) from fun h => hxy h.2.2)
          have HM3 := hid (cpl_eq HE.out hiA hiB HNE.out)
          have hsl : (A.extract 0 i).size ≤ 600000 := by rw [ByteArray.size_extract]; omega
          obtain ⟨P, hP⟩ : ∃ P, A.extract 0 i = P := ⟨_, rfl⟩
          rw [hP] at hsl
          have HP := hid hP
          have HT3 := hid (dtake_all (Held.part [] [Res.blk p1 (docL K S1)] T6.out.held) KK (fun _ => rfl) P (by show 0 + _ ≤ _; omega))
          have eo : (tkC K CHS.init P).out = (takeS K 0 P).out := by
            unfold tkC
            rw [show CHS.init.cl = false from rfl, show CHS.init.held = ⟨#[]⟩ from rfl, bempty_app]
            rfl
          rw [eo] at HT3
          have HF2 := hid (show forgedS A B = decide (oB ≠ (takeS K 0 P).out) by unfold forgedS; rw [HM3.out, hP, HK.out, HoB.out])
          generalize (tkC K CHS.init P).c = tc at *
          generalize tkN K CHS.init P = SP at *
          generalize (takeS K 0 P).out = oP at *
          clear eo hP hsl
          generalize g8 A.data.toList i = XA at *
          generalize g8 B.data.toList i = XB at *
          have hq : (XA == XB) = false := by simpa using hxy
          clear HST hxy hal hbl HNE
          go_wp2_with fail
          refine wp_region_D (fun _ => True) false [] (by kernel_rfl) ?_
          refine WD.pure [0, 1, 2, 3, 4, 5, 6, 7, 8, 9, 10, 11, 12, 13, 14, 15, 16, 17, 18] (by kernel_rfl) trivial ?_
          simp only [pick, List.toList_toArray, List.map_cons, List.map_nil, List.getD_cons_succ, List.getD_cons_zero]
          repeat (first | go_big_quiet_step (fail))
          refine wpQuiet_nil ?_
          refine WD.done (by kernel_rfl) ?_
          go_wp2_with (go_at_call 19; rw [HP.out]; refine HT3.out.mono ?_; rintro e w7 ⟨rfl, h7⟩; have g7 := Ev.nil (two_blk T6.out h7); clear h7 HT3)
          go_ret
          rw [← HF.out, HF2.out]
          exact ⟨by simp [beq_str2], g7⟩
end Go.Proofs.YtneoagelcjfanaaGreatDoor.chn

/- Layer 22 (great seat): how far two texts are alike, where the likeness ends (plain). -/
namespace Go.Proofs.YtneoagelcjfanaaGreatDoor.chn
open Go Go.Xr Go.RowKit Go.Proofs.YtneoagelcjfanaaGreatDoor Go.Proofs.YtneoagelcjfanaaGreatDoor.rcd
set_option linter.unusedVariables false
set_option linter.unusedSimpArgs false
theorem cplL_max : ∀ (i : Nat) (a b : List UInt8), a.take i = b.take i → i ≤ a.length → i ≤ b.length → i ≤ cplL a b
  | 0, _, _, _, _, _ => Nat.zero_le _
  | i + 1, [], b, _, h, _ => absurd h (by simp)
  | i + 1, a :: u, [], _, _, h => absurd h (by simp)
  | i + 1, a :: u, b :: v, he, h1, h2 => by
    simp only [List.take_succ_cons, List.cons.injEq] at he
    have ih := cplL_max i u v he.2 (by simpa using h1) (by simpa using h2)
    show i + 1 ≤ (if a = b then _ else 0)
    rw [if_pos he.1]
    omega
theorem cpl_le (A B : ByteArray) : cpl A B ≤ A.size ∧ cpl A B ≤ B.size := by
  have h := cplL_le A.data.toList B.data.toList
  rw [ba_len, ba_len] at h
  exact ⟨h.1, h.2.1⟩
theorem cpl_at {A B : ByteArray} {i : Nat} (h : i < cpl A B) : g8 A.data.toList i = g8 B.data.toList i := by
  have hl := cplL_le A.data.toList B.data.toList
  have hc : cpl A B = cplL A.data.toList B.data.toList := rfl
  have e1 := g8_eq A.data.toList i (by omega)
  have e2 := g8_eq B.data.toList i (by omega)
  have e3 : (A.data.toList.take (cpl A B))[i]? = (B.data.toList.take (cpl A B))[i]? := by rw [hc, hl.2.2]
  rw [List.getElem?_take, if_pos h, List.getElem?_take, if_pos h, e1, e2] at e3
  exact Option.some.inj e3
theorem cpl_mode (A B : ByteArray) : cpl A B = A.size ∨ (cpl A B < A.size ∧ cpl A B = B.size) ∨ (cpl A B < A.size ∧ cpl A B < B.size ∧ g8 A.data.toList (cpl A B) ≠ g8 B.data.toList (cpl A B)) := by
  have hl := cplL_le A.data.toList B.data.toList
  have hc : cpl A B = cplL A.data.toList B.data.toList := rfl
  rw [ba_len, ba_len] at hl
  by_cases h1 : cpl A B = A.size
  · exact .inl h1
  · by_cases h2 : cpl A B = B.size
    · exact .inr (.inl ⟨by omega, h2⟩)
    · refine .inr (.inr ⟨by omega, by omega, fun he => ?_⟩)
      have hs := cpl_step (i := cpl A B) hl.2.2 (by rw [ba_len]; omega) (by rw [ba_len]; omega) he
      have hm := cplL_max (cpl A B + 1) A.data.toList B.data.toList hs (by rw [ba_len]; omega) (by rw [ba_len]; omega)
      omega
/-- No more is taken than came. -/
theorem takeL_outle (K : CH) : ∀ (f : Nat) (no : UInt64) (H out : ByteArray), (takeL K f no H out).out.size ≤ out.size + H.size
  | 0, _, _, _ => Nat.le_add_right _ _
  | f + 1, no, H, out => by
    rw [takeL_succ]
    obtain ⟨n, hn⟩ : ∃ n, tellN H = n := ⟨_, rfl⟩
    rw [hn]
    split
    · exact Nat.le_add_right _ _
    · split
      · exact Nat.le_add_right _ _
      · split
        · exact Nat.le_add_right _ _
        · rename_i h4 _ hl
          split
          · have h := takeL_outle K f (no + 1) (H.extract (4 + n) H.size) (out ++ recT K.ci K.mi K.li (H.extract 4 (4 + n)))
            have e := recT_le K.ci K.mi K.li (H.extract 4 (4 + n))
            rw [ByteArray.size_append, ByteArray.size_extract] at h
            rw [ByteArray.size_extract] at e
            omega
          · exact Nat.le_add_right _ _
theorem FD.sz {K : CH} {D : ByteArray} {S : CHS} {got : ByteArray} (h : FD K D S got) : S.held.size ≤ D.size ∧ got.size ≤ D.size ∧ (S.cl = false → S.oc = false) := by
  have h1 : (takeS K 0 D).out.size ≤ 0 + D.size := takeL_outle K _ _ _ _
  have h2 : (takeS K 0 D).H.size ≤ D.size := takeL_le K _ _ _ _
  refine ⟨?_, by rw [h.out]; omega, fun hc => ?_⟩
  · by_cases hc : (takeS K 0 D).c = 0
    · rw [(h.opn hc).2.1]; exact h2
    · rw [h.shut hc]; exact Nat.zero_le _
  · have e := h.cl
    rw [hc] at e
    exact (h.opn (by simpa using e.symm)).2.2
theorem ext_self (X Z : ByteArray) : (X ++ Z).extract 0 X.size = X := by
  rw [ext_app1 X Z 0 X.size (Nat.le_refl _)]
  exact ByteArray.extract_zero_size ..
/-- What came whole, by pieces. -/
theorem fd_end {l : List ByteArray} {B got : ByteArray} {S : CHS} (h : FD flowR B S got) (hF : forgedS (sentS l) B = false) :
    got = (takeS flowR 0 ((sentS l).extract 0 (cpl (sentS l) B))).out ∧ ∃ Z, catB l = got ++ Z := by
  have e : got = (takeS flowR 0 ((sentS l).extract 0 (cpl (sentS l) B))).out := by
    unfold forgedS at hF
    rw [h.out]
    simpa using hF
  refine ⟨e, ?_⟩
  rw [e]
  exact most_prefix l _ (cpl_le _ _).1
end Go.Proofs.YtneoagelcjfanaaGreatDoor.chn

/- Layer 22: ChannelTakes, the walk. -/
namespace Go.Proofs.YtneoagelcjfanaaGreatDoor.chn
open Go Go.Xr Go.RowKit Go.Proofs.YtneoagelcjfanaaGreatDoor Go.Proofs.YtneoagelcjfanaaGreatDoor.rcd
set_option linter.unusedVariables false
set_option linter.unusedSimpArgs false
section
variable {P : Program} {ops : Array Oper} {S : World → Prop}
theorem quiet_len_s {a : Act} {o : Oper} {rest : List Oper} {Q' : Act → Prop} (hg : Region.wanted o (yielded ops a.tmps) = true) (t : TypeId) (x : Operand) (ho : o.op = .call { callee := .builtin .len, args := #[x], argTypes := #[t] }) (ht : P.underlying t = some .string) {s : ByteArray} (hx : a.eval x = .string s)
    (h : wpQuiet P ops S Q' rest (a.put o.dst (.int .i64 (s.size : Int)))) : wpQuiet P ops S Q' (o :: rest) a := by
  refine wpQuiet_step fun K hK => ?_
  rw [if_pos hg]
  refine ⟨_, fun w hC => ?_, hK _ h⟩
  unfold Oper.quietAt execOp
  simp [ho, resolve, invoke, builtin, Builtin.len_, run_underlying ht, goInt, List.map_toArray, List.map_cons, List.map_nil, hx, Sem.run_bind, Sem.run_pure, Result.andThen_ok]
  exact ⟨rfl, rfl⟩
end
theorem flowAT : AggT Tryz.prog 39 7 := ⟨_, Tryz.underlying39, rfl, by kernel_rfl⟩
section
variable {w0 w w' : World} {D C B C' : List Res} {x x' : Res}
theorem tri_c (a : Ev w0 [] w (D ++ C ++ B)) (e : Ev w C w' C') : Ev w0 [] w' (D ++ C' ++ B) := Ev.then D B a e
theorem tri_d (a : Ev w0 [] w ([x] ++ C ++ B)) (e : Ev w [x] w' [x']) : Ev w0 [] w' ([x'] ++ C ++ B) := Ev.then [] (C ++ B) a e
theorem tri_hc (a : Ev w0 [] w (D ++ C ++ B)) : Held w C := Held.part D B a.held
theorem tri_hd (a : Ev w0 [] w ([x] ++ C ++ B)) : Held w [x] := Held.part [] (C ++ B) a.held
theorem tri_hb (a : Ev w0 [] w (D ++ C ++ B)) : Held w B := Held.part (D ++ C) [] (by rw [List.append_nil]; exact a.held)
theorem tri_hb' (a : Ev w0 [] w (C ++ B)) : Held w B := Held.part C [] (by rw [List.append_nil]; exact a.held)
theorem tri_n (a : Ev w0 [] w (C ++ B)) (e : Ev w [] w' D) : Ev w0 [] w' (D ++ C ++ B) := by
  have h := two_n a e
  rwa [← List.append_assoc] at h
end
theorem fheavy_no {l : List ByteArray} {ms : List Int} {more : ByteArray} (h : fheavyS l ms more = false) : l.length ≤ 12 ∧ totN l ≤ 32768 ∧ ms.length ≤ 200 ∧ more.size ≤ 2048 := by
  unfold fheavyS cheavyS at h
  simp at h
  exact ⟨h.1.1.1, h.1.1.2, h.1.2, h.2⟩
section
variable {w : World} {tv pv : Value} {l : List ByteArray} {ms : List Int} {LT LP : Option Nat}
set_option maxRecDepth 20000 in
set_option maxHeartbeats 400000 in
theorem takes_h1 (h : FL w tv pv l ms LT LP) (tb : TB w) (at_ cut : Int) (more : ByteArray) (conn : UInt64) (sec : UInt8) (hA : fheavyS l ms more = true) :
    Calls Tryz.prog 4 #[.agg (flowV tv pv at_ cut more conn sec).toArray] w fun e w' => e = .returned (.bool true) ∧ Fr [] w w' := by
  obtain ⟨la, lc, rfl⟩ := h.t.isSlice
  obtain ⟨ua, uc, rfl⟩ := h.p.isSlice
  have HA := hid fun (w1 : World) (f : Fr [] w w1) => fheavy_any (h.keep f) at_ cut more conn sec
  have HW := hid fun (w1 : World) (f : Fr [] w w1) => cworks_any (tb.keep f)
  rw [hA] at HA
  obtain ⟨n, hn⟩ : ∃ n, l.length = n := ⟨_, rfl⟩
  obtain ⟨m, hm⟩ : ∃ n, ms.length = n := ⟨_, rfl⟩
  rw [hn, hm] at HA ⊢
  clear h tb hA hn hm
  go_enter Tryz.func4, Tryz.ntmps4
  go_wp2_with (first
    | (refine wpList_box rfl _ _ rfl (flowV (.slice la n lc) (.slice ua m uc) at_ cut more conn sec) rfl ?_; intro w1 f1 hlt1 hb1; simp only [World.size_alloc, World.size_drew, Act.put, List.setIfInBounds_toArray, List.set_cons_succ, List.set_cons_zero])
    | (refine wpList_load_ag rfl _ _ rfl rfl (flowV (.slice la n lc) (.slice ua m uc) at_ cut more conn sec) hb1 flowAT rfl rfl ?_; simp only [World.size_alloc, World.size_drew, Act.put, List.setIfInBounds_toArray, List.set_cons_succ, List.set_cons_zero])
    | (go_at_call 14; refine (HA.out _ f1).mono ?_; rintro e w2 ⟨rfl, f2⟩; have g2 := f1.trans' f2)
    | (go_at_call 7; refine (HW.out _ g2).mono ?_; rintro e w3 ⟨rfl, f3⟩))
  go_ret
  exact ⟨rfl, g2.trans' f3⟩
set_option maxRecDepth 20000 in
set_option maxHeartbeats 8000000 in
theorem takes_light (h : FL w tv pv l ms LT LP) (tb : TB w) (at_ cut : Int) (ha : -9223372036854775808 ≤ at_ ∧ at_ ≤ 9223372036854775807) (hcu : 0 ≤ cut ∧ cut ≤ 65535) (more : ByteArray) (conn : UInt64) (sec : UInt8) (hA : fheavyS l ms more = false) :
    Calls Tryz.prog 4 #[.agg (flowV tv pv at_ cut more conn sec).toArray] w fun e w' => e = .returned (.bool true) ∧ Fr [] w w' := by
  obtain ⟨l12, ltot, m200, mo2⟩ := fheavy_no hA
  obtain ⟨la, lc, rfl⟩ := h.t.isSlice
  obtain ⟨ua, uc, rfl⟩ := h.p.isSlice
  have HA := hid fun (w1 : World) (f : Fr [] w w1) => fheavy_any (h.keep f) at_ cut more conn sec
  have HWi := hid fun (w1 : World) (f : Fr [] w w1) => wire_any (h.keep f) (tb.keep f) at_ cut ha hcu more conn sec l12 ltot mo2
  have HPc := hid fun (w1 : World) (f : Fr [] w w1) (i : Nat) (hi : i ≤ 1000) (X : ByteArray) => piece_any (h.keep f) at_ cut more conn sec i hi X
  have HW := hid fun (w1 : World) (f : Fr [] w w1) => cworks_any (tb.keep f)
  have HM := hid fun w1 : World => master_any w1 sec
  have hmk := kmS_size sec
  have HYz := hid (comesS_size (sentS l) more at_ cut (sentS_size l l12 ltot) mo2)
  generalize sentS l = X at *
  generalize comesS X more at_ cut = Y at *
  generalize kmS sec = mk at *
  have HC := hid fun (w1 : World) (f : Fr [] w w1) => cnew_any mk conn true w1 (tb.keep f) hmk
  have HD := hid fun (w1 : World) (f : Fr [] w w1) => dnew_any mk conn true w1 (tb.keep f) hmk
  have KK := chOf_ok mk conn true
  generalize chOf mk conn true = K at *
  rw [hA] at HA
  obtain ⟨n, hn⟩ : ∃ n, l.length = n := ⟨_, rfl⟩
  obtain ⟨m, hm⟩ : ∃ n, ms.length = n := ⟨_, rfl⟩
  rw [hn, hm] at HA HWi HPc ⊢
  rw [hm] at m200
  obtain ⟨cs, hcs⟩ : ∃ cs : List Value, flowV (.slice la n lc) (.slice ua m uc) at_ cut more conn sec = cs := ⟨_, rfl⟩
  have HCS := hid hcs
  have c1 : cs[1]? = some (.slice ua m uc) := by rw [← hcs]; rfl
  have c5 : cs[5]? = some (W64 conn) := by rw [← hcs]; rfl
  have c6 : cs[6]? = some (bt sec) := by rw [← hcs]; rfl
  have clen : cs.length = 7 := by rw [← hcs]; rfl
  have cdt : (cs.drop 0).take 7 = cs := by rw [← hcs]; rfl
  have hcells : ∃ a0, cs.toArray = a0 := ⟨_, rfl⟩
  rw [hcs] at HA HWi HPc ⊢
  have hone : ∀ u ∈ cs, u.oneCell' = true := by rw [← hcs]; simp [flowV, W64, bt, Value.oneCell']
  clear h tb hA hn hm hcs ltot l12 mo2 hmk ha hcu
  go_enter Tryz.func4, Tryz.ntmps4
  go_wp2_with (first
    | (refine wpList_box rfl _ _ rfl cs rfl ?_; intro w1 f1 hlt1 hb1; have T1 := hid ((Ev.start w).new f1 (Res.On.blk hb1) (fun b hb => by simp [Res.blk] at hb; omega)); simp only [World.size_alloc, World.size_drew, Act.put, List.setIfInBounds_toArray, List.set_cons_succ, List.set_cons_zero])
    | (refine wpList_load_ag rfl _ _ rfl rfl cs hb1 flowAT clen cdt ?_; clear hb1; simp only [World.size_alloc, World.size_drew, Act.put, List.setIfInBounds_toArray, List.set_cons_succ, List.set_cons_zero])
    | (go_at_call 14; refine (HA.out _ f1).mono ?_; rintro e w2 ⟨rfl, f2⟩; have T2 := hid (T1.out.step f2); have hb2 := T2.out.held.blkAt 0 rfl; have g2 := Ev.nil T2.out; clear T1 f1 f2 HA hlt1)
    | (refine wpList_load_ag rfl _ _ rfl rfl cs hb2 flowAT clen cdt ?_; clear hb2; simp only [World.size_alloc, World.size_drew, Act.put, List.setIfInBounds_toArray, List.set_cons_succ, List.set_cons_zero])
    | (go_at_call 15; refine (HWi.out _ g2).mono ?_; rintro e w3 ⟨rfl, f3⟩; have T3 := hid (T2.out.step f3); clear f3 HWi T2 g2))
  obtain ⟨bb, hbb⟩ : ∃ bb, w.heap.size = bb := ⟨_, rfl⟩
  rw [hbb] at T3 ⊢
  clear hbb
  have T3d := hid (T3.out.step (Fr.refl [] w3).drew)
  have hb3 : Blk w3.drew bb cs := T3d.out.held.blkAt 0 rfl
  go_wp2_with fail
  refine wp_region_D (fun w' => Blk w' bb cs) false [] (by kernel_rfl) ?_
  refine WD.pure [0, 1] (by kernel_rfl) hb3 ?_
  simp only [pick, List.toList_toArray, List.map_cons, List.map_nil, List.getD_cons_succ, List.getD_cons_zero]
  repeat (first | (refine quiet_load_1W (by rfl) _ _ rfl rfl (W64 conn) (fun _ h => (h.cell 5).trans c5) _ Tryz.underlying22 rfl ?_; simp only [World.size_alloc, World.size_drew, Act.put, List.setIfInBounds_toArray, List.set_cons_succ, List.set_cons_zero]) | (refine quiet_load_1W (by rfl) _ _ rfl rfl (bt sec) (fun wq h => by first|exact (h.cell 6).trans c6|(rw [h];exact (hb3.cell 6).trans c6)) _ Tryz.underlying5 rfl ?_; simp only [World.size_alloc, World.size_drew, Act.put, List.setIfInBounds_toArray, List.set_cons_succ, List.set_cons_zero]) | go_big_quiet_step (fail))
  refine wpQuiet_nil ?_
  refine WD.free [3] (by kernel_rfl) hb3 ?_
  simp only [pick, List.toList_toArray, List.map_cons, List.map_nil, List.getD_cons_succ, List.getD_cons_zero]
  repeat (first | (refine quiet_load_1W (by rfl) _ _ rfl rfl (W64 conn) (fun _ h => (h.cell 5).trans c5) _ Tryz.underlying22 rfl ?_; simp only [World.size_alloc, World.size_drew, Act.put, List.setIfInBounds_toArray, List.set_cons_succ, List.set_cons_zero]) | (refine quiet_load_1W (by rfl) _ _ rfl rfl (bt sec) (fun wq h => by first|exact (h.cell 6).trans c6|(rw [h];exact (hb3.cell 6).trans c6)) _ Tryz.underlying5 rfl ?_; simp only [World.size_alloc, World.size_drew, Act.put, List.setIfInBounds_toArray, List.set_cons_succ, List.set_cons_zero]) | go_big_quiet_step (fail))
  refine wpQuiet_nil ?_
  refine WD.held [4] (by kernel_rfl) hb3 ?_
  simp only [pick, List.toList_toArray, List.map_cons, List.map_nil, List.getD_cons_succ, List.getD_cons_zero]
  repeat (first | (refine quiet_load_1W (by rfl) _ _ rfl rfl (W64 conn) (fun _ h => (h.cell 5).trans c5) _ Tryz.underlying22 rfl ?_; simp only [World.size_alloc, World.size_drew, Act.put, List.setIfInBounds_toArray, List.set_cons_succ, List.set_cons_zero]) | (refine quiet_load_1W (by rfl) _ _ rfl rfl (bt sec) (fun wq h => by first|exact (h.cell 6).trans c6|(rw [h];exact (hb3.cell 6).trans c6)) _ Tryz.underlying5 rfl ?_; simp only [World.size_alloc, World.size_drew, Act.put, List.setIfInBounds_toArray, List.set_cons_succ, List.set_cons_zero]) | go_big_quiet_step (fail))
  refine wpQuiet_nil ?_
  refine WD.eff 2 (by kernel_rfl) ?_
  simp only [pick, List.toList_toArray, List.map_cons, List.map_nil, List.getD_cons_succ, List.getD_cons_zero]
  go_wp2_with (go_at_call 16; refine (HM.out _).mono ?_; rintro e w4 ⟨rfl, f4⟩; have T4 := hid (T3d.out.step f4); have hb4 : Blk w4 bb cs := T4.out.held.blkAt 0 rfl; clear hb3 T3d T3 f4)
  try refine wpList_nil ?_
  refine AfterD.on hb4 (by kernel_rfl) ?_
  try simp only [World.size_alloc, World.size_drew, Act.put, List.setIfInBounds_toArray, List.set_cons_succ, List.set_cons_zero]
  refine WD.eff 5 (by kernel_rfl) ?_
  simp only [pick, List.toList_toArray, List.map_cons, List.map_nil, List.getD_cons_succ, List.getD_cons_zero]
  have g4 := Ev.nil T4.out
  go_wp2_with (go_at_call 8; refine (HC.out _ g4).mono ?_; rintro e w5 ⟨cb, s, o, rfl, E5⟩; have T5 := hid (two_n T4.out E5); have hb5 : Blk w5 bb cs := (tri_hb' T5.out).blkAt 0 rfl; clear hb4 T4 g4 E5 HC)
  try refine wpList_nil ?_
  refine AfterD.on hb5 (by kernel_rfl) ?_
  try simp only [World.size_alloc, World.size_drew, Act.put, List.setIfInBounds_toArray, List.set_cons_succ, List.set_cons_zero]
  refine WD.pure [6, 7, 8, 9, 10] (by kernel_rfl) hb5 ?_
  simp only [pick, List.toList_toArray, List.map_cons, List.map_nil, List.getD_cons_succ, List.getD_cons_zero]
  repeat (first | (refine quiet_load_1W (by rfl) _ _ rfl rfl (W64 conn) (fun _ h => (h.cell 5).trans c5) _ Tryz.underlying22 rfl ?_; simp only [World.size_alloc, World.size_drew, Act.put, List.setIfInBounds_toArray, List.set_cons_succ, List.set_cons_zero]) | (refine quiet_load_1W (by rfl) _ _ rfl rfl (bt sec) (fun wq h => by first|exact (h.cell 6).trans c6|(rw [h];exact (hb3.cell 6).trans c6)) _ Tryz.underlying5 rfl ?_; simp only [World.size_alloc, World.size_drew, Act.put, List.setIfInBounds_toArray, List.set_cons_succ, List.set_cons_zero]) | go_big_quiet_step (fail))
  refine wpQuiet_nil ?_
  refine WD.done (by kernel_rfl) ?_
  go_wp2_with fail
  have T5d := hid (T5.out.step (Fr.refl [] w5).drew)
  have hb6 : Blk w5.drew bb cs := (tri_hb' T5d.out).blkAt 0 rfl
  refine wp_region_D (fun w' => Blk w' bb cs) false [] (by kernel_rfl) ?_
  refine WD.pure [0, 1] (by kernel_rfl) hb6 ?_
  simp only [pick, List.toList_toArray, List.map_cons, List.map_nil, List.getD_cons_succ, List.getD_cons_zero]
  repeat (first | (refine quiet_load_1W (by rfl) _ _ rfl rfl (W64 conn) (fun _ h => (h.cell 5).trans c5) _ Tryz.underlying22 rfl ?_; simp only [World.size_alloc, World.size_drew, Act.put, List.setIfInBounds_toArray, List.set_cons_succ, List.set_cons_zero]) | (refine quiet_load_1W (by rfl) _ _ rfl rfl (bt sec) (fun wq h => by first|exact (h.cell 6).trans c6|(rw [h];exact (hb6.cell 6).trans c6)) _ Tryz.underlying5 rfl ?_; simp only [World.size_alloc, World.size_drew, Act.put, List.setIfInBounds_toArray, List.set_cons_succ, List.set_cons_zero]) | go_big_quiet_step (fail))
  refine wpQuiet_nil ?_
  refine WD.free [3] (by kernel_rfl) hb6 ?_
  simp only [pick, List.toList_toArray, List.map_cons, List.map_nil, List.getD_cons_succ, List.getD_cons_zero]
  repeat (first | (refine quiet_load_1W (by rfl) _ _ rfl rfl (W64 conn) (fun _ h => (h.cell 5).trans c5) _ Tryz.underlying22 rfl ?_; simp only [World.size_alloc, World.size_drew, Act.put, List.setIfInBounds_toArray, List.set_cons_succ, List.set_cons_zero]) | (refine quiet_load_1W (by rfl) _ _ rfl rfl (bt sec) (fun wq h => by first|exact (h.cell 6).trans c6|(rw [h];exact (hb6.cell 6).trans c6)) _ Tryz.underlying5 rfl ?_; simp only [World.size_alloc, World.size_drew, Act.put, List.setIfInBounds_toArray, List.set_cons_succ, List.set_cons_zero]) | go_big_quiet_step (fail))
  refine wpQuiet_nil ?_
  refine WD.held [4] (by kernel_rfl) hb6 ?_
  simp only [pick, List.toList_toArray, List.map_cons, List.map_nil, List.getD_cons_succ, List.getD_cons_zero]
  repeat (first | (refine quiet_load_1W (by rfl) _ _ rfl rfl (W64 conn) (fun _ h => (h.cell 5).trans c5) _ Tryz.underlying22 rfl ?_; simp only [World.size_alloc, World.size_drew, Act.put, List.setIfInBounds_toArray, List.set_cons_succ, List.set_cons_zero]) | (refine quiet_load_1W (by rfl) _ _ rfl rfl (bt sec) (fun wq h => by first|exact (h.cell 6).trans c6|(rw [h];exact (hb6.cell 6).trans c6)) _ Tryz.underlying5 rfl ?_; simp only [World.size_alloc, World.size_drew, Act.put, List.setIfInBounds_toArray, List.set_cons_succ, List.set_cons_zero]) | go_big_quiet_step (fail))
  refine wpQuiet_nil ?_
  refine WD.eff 2 (by kernel_rfl) ?_
  simp only [pick, List.toList_toArray, List.map_cons, List.map_nil, List.getD_cons_succ, List.getD_cons_zero]
  go_wp2_with (go_at_call 16; refine (HM.out _).mono ?_; rintro e w7 ⟨rfl, f7⟩; have T7 := hid (T5d.out.step f7); have hb7 : Blk w7 bb cs := (tri_hb' T7.out).blkAt 0 rfl; clear hb6 hb5 T5d T5 f7)
  try refine wpList_nil ?_
  refine AfterD.on hb7 (by kernel_rfl) ?_
  try simp only [World.size_alloc, World.size_drew, Act.put, List.setIfInBounds_toArray, List.set_cons_succ, List.set_cons_zero]
  refine WD.eff 5 (by kernel_rfl) ?_
  simp only [pick, List.toList_toArray, List.map_cons, List.map_nil, List.getD_cons_succ, List.getD_cons_zero]
  have g7 := Ev.nil T7.out
  go_wp2_with (go_at_call 9; refine (HD.out _ g7).mono ?_; rintro e w8 ⟨p, rfl, E8⟩; have T8 := hid (tri_n T7.out E8); have hb8 : Blk w8 bb cs := (tri_hb T8.out).blkAt 0 rfl; clear hb7 T7 g7 E8 HD)
  try refine wpList_nil ?_
  refine AfterD.on hb8 (by kernel_rfl) ?_
  try simp only [World.size_alloc, World.size_drew, Act.put, List.setIfInBounds_toArray, List.set_cons_succ, List.set_cons_zero]
  refine WD.pure [6] (by kernel_rfl) hb8 ?_
  simp only [pick, List.toList_toArray, List.map_cons, List.map_nil, List.getD_cons_succ, List.getD_cons_zero]
  repeat (first | (refine quiet_load_1W (by rfl) _ _ rfl rfl (W64 conn) (fun _ h => (h.cell 5).trans c5) _ Tryz.underlying22 rfl ?_; simp only [World.size_alloc, World.size_drew, Act.put, List.setIfInBounds_toArray, List.set_cons_succ, List.set_cons_zero]) | (refine quiet_load_1W (by rfl) _ _ rfl rfl (bt sec) (fun wq h => by first|exact (h.cell 6).trans c6|(rw [h];exact (hb6.cell 6).trans c6)) _ Tryz.underlying5 rfl ?_; simp only [World.size_alloc, World.size_drew, Act.put, List.setIfInBounds_toArray, List.set_cons_succ, List.set_cons_zero]) | go_big_quiet_step (fail))
  refine wpQuiet_nil ?_
  refine WD.done (by kernel_rfl) ?_
  go_wp2_with fail
  clear hb8
  go_loopw [4, 8] (fun lv iv wr => ∃ (i : Nat) (rest : ByteArray) (S : CHS), i ≤ m + 1 ∧ iv = .int .i64 (i : Int) ∧ lv = .string rest ∧ Hid (S.cl = false → S.oc = false) ∧ Hid (S.held.size + rest.size ≤ 600000) ∧ Hid (Ev w [] wr ([Res.blk p (docL K S)] ++ chR cb s o K S ++ [Res.blk bb cs]))) (fun _ iv _ => m + 1 - (intOf iv).toNat)
  case atStart => exact ⟨0, Y, CHS.init, Nat.zero_le _, rfl, rfl, hid fun _ => rfl, hid (by have := HYz.out; show 0 + _ ≤ _; omega), T8⟩
  case round =>
    obtain ⟨i, rest, S, hi, rfl, rfl, HO, HS, hE⟩ := hrel
    clear T8 HYz
    have hbx : Blk wr bb cs := (tri_hb hE.out).blkAt 0 rfl
    have k1 : wr.cell? ⟨bb, 1, none⟩ = some (.slice ua m uc) := (hbx.cell 1).trans c1
    by_cases him : i ≤ m
    case neg =>
      have hd1 : decide (i ≤ m) = false := by simp; omega
      have g := Ev.nil hE.out
      clear hE HPc c1 c5 c6 hbx
      go_wp2_with (go_at_call 7; refine (HW.out _ g).mono ?_; rintro e w9 ⟨rfl, f9⟩; have g9 := g.trans' f9)
      go_ret
      exact ⟨rfl, g9⟩
    case pos =>
      have hd1 : decide (i ≤ m) = true := by simp; omega
      have HPi := hid (HPc.out wr (Ev.nil hE.out) i (by omega) rest)
      have hq0 := pieceN_le ms i rest
      obtain ⟨q, hq⟩ : ∃ q, pieceN ms i rest = q := ⟨_, rfl⟩
      rw [hq] at HPi hq0
      clear hq HPc
      have hqi : (q : Int) ≤ (rest.size : Int) := by omega
      obtain ⟨P, hP⟩ : ∃ P, rest.extract 0 q = P := ⟨_, rfl⟩
      obtain ⟨Z, hZ⟩ : ∃ Z, rest.extract q rest.size = Z := ⟨_, rfl⟩
      have hPs : P.size = q := by rw [← hP, ByteArray.size_extract]; omega
      have hZs : Z.size = rest.size - q := by rw [← hZ, ByteArray.size_extract]; omega
      have hss := HS.out
      have hrb : rest.size ≤ 600000 := by omega
      have HT := hid fun (w1 : World) (h1 : Held w1 (chR cb s o K S)) => ctake_all h1 KK HO.out P (by omega)
      have HTd := hid fun (w1 : World) (h1 : Held w1 [Res.blk p (docL K S)]) => dtake_all h1 KK HO.out P (by omega)
      have hh := tkN_held K S P
      have HO' := hid (tkN_oc K S P HO.out)
      obtain ⟨S', hS'⟩ : ∃ S', tkN K S P = S' := ⟨_, rfl⟩
      obtain ⟨T, hT⟩ : ∃ T, tkC K S P = T := ⟨_, rfl⟩
      rw [hS'] at HT HTd hh HO'
      rw [hT] at HT HTd
      have HS' := hid (show S'.held.size + Z.size ≤ 600000 by omega)
      obtain ⟨to_, hto⟩ : ∃ v, T.out = v := ⟨_, rfl⟩
      obtain ⟨tc, htc⟩ : ∃ v, T.c = v := ⟨_, rfl⟩
      rw [hto, htc] at HT HTd
      have HP := hid hP
      have HZ := hid hZ
      clear hS' hT hto htc hP hZ hPs hZs hss hh HS HO
      go_wp2_with (first
        | (refine wpList_load_ag rfl _ _ rfl rfl cs hbx flowAT clen cdt ?_; clear hbx; simp only [World.size_alloc, World.size_drew, Act.put, List.setIfInBounds_toArray, List.set_cons_succ, List.set_cons_zero])
        | (go_at_call 17; refine HPi.out.mono ?_; rintro e w2 ⟨rfl, f2⟩; have T2 := hid (hE.out.step f2); clear HPi f2 hE)
        | (go_at_call 18; rw [HP.out]; refine (HT.out _ (tri_hc T2.out)).mono ?_; rintro e w3 ⟨rfl, h3⟩; have T3 := hid (tri_c T2.out h3); clear h3 HT T2)
        | (go_at_call 19; rw [HP.out]; refine (HTd.out _ (tri_hd T3.out)).mono ?_; rintro e w6 ⟨rfl, h6⟩; have T6 := hid (tri_d T3.out h6); clear h6 HTd T3))
      have T6d := hid (T6.out.step (Fr.refl [] w6).drew)
      have d6 : Blk w6.drew p (docL K S') := (tri_hd T6d.out).blkAt 0 rfl
      have HC1 := hid fun (w1 : World) (h1 : Held w1 (chR cb s o K S')) => cclosed_any h1
      have HC2 := hid fun (w1 : World) (h1 : Held w1 (chR cb s o K S')) => cwaits_any h1
      refine wp_region_D (fun w' => Blk w' p (docL K S')) false [] (by kernel_rfl) ?_
      refine WD.pure [0, 1, 2, 3, 4, 5, 6, 7, 8, 9] (by kernel_rfl) d6 ?_
      simp only [pick, List.toList_toArray, List.map_cons, List.map_nil, List.getD_cons_succ, List.getD_cons_zero]
      repeat (first | (refine quiet_load_1W (by rfl) _ _ rfl rfl (.bool S'.cl) (fun _ h => h.cell 10) _ Tryz.underlying4 rfl ?_; simp only [World.size_alloc, World.size_drew, Act.put, List.setIfInBounds_toArray, List.set_cons_succ, List.set_cons_zero]) | (refine quiet_load_1W (by rfl) _ _ rfl rfl (.string S'.held) (fun _ h => h.cell 9) _ Tryz.underlying9 rfl ?_; simp only [World.size_alloc, World.size_drew, Act.put, List.setIfInBounds_toArray, List.set_cons_succ, List.set_cons_zero]) | (refine quiet_len_s (by rfl) _ _ rfl Tryz.underlying9 rfl ?_; simp only [World.size_alloc, World.size_drew, Act.put, List.setIfInBounds_toArray, List.set_cons_succ, List.set_cons_zero]) | go_big_quiet_step (fail))
      refine wpQuiet_nil ?_
      refine WD.free [11, 12, 13] (by kernel_rfl) d6 ?_
      simp only [pick, List.toList_toArray, List.map_cons, List.map_nil, List.getD_cons_succ, List.getD_cons_zero]
      repeat (first | (refine quiet_load_1W (by rfl) _ _ rfl rfl (.bool S'.cl) (fun _ h => h.cell 10) _ Tryz.underlying4 rfl ?_; simp only [World.size_alloc, World.size_drew, Act.put, List.setIfInBounds_toArray, List.set_cons_succ, List.set_cons_zero]) | (refine quiet_load_1W (by rfl) _ _ rfl rfl (.string S'.held) (fun _ h => h.cell 9) _ Tryz.underlying9 rfl ?_; simp only [World.size_alloc, World.size_drew, Act.put, List.setIfInBounds_toArray, List.set_cons_succ, List.set_cons_zero]) | (refine quiet_len_s (by rfl) _ _ rfl Tryz.underlying9 rfl ?_; simp only [World.size_alloc, World.size_drew, Act.put, List.setIfInBounds_toArray, List.set_cons_succ, List.set_cons_zero]) | go_big_quiet_step (fail))
      refine wpQuiet_nil ?_
      refine WD.held [14] (by kernel_rfl) d6 ?_
      simp only [pick, List.toList_toArray, List.map_cons, List.map_nil, List.getD_cons_succ, List.getD_cons_zero]
      repeat (first | (refine quiet_load_1W (by rfl) _ _ rfl rfl (.bool S'.cl) (fun _ h => h.cell 10) _ Tryz.underlying4 rfl ?_; simp only [World.size_alloc, World.size_drew, Act.put, List.setIfInBounds_toArray, List.set_cons_succ, List.set_cons_zero]) | (refine quiet_load_1W (by rfl) _ _ rfl rfl (.string S'.held) (fun _ h => h.cell 9) _ Tryz.underlying9 rfl ?_; simp only [World.size_alloc, World.size_drew, Act.put, List.setIfInBounds_toArray, List.set_cons_succ, List.set_cons_zero]) | (refine quiet_len_s (by rfl) _ _ rfl Tryz.underlying9 rfl ?_; simp only [World.size_alloc, World.size_drew, Act.put, List.setIfInBounds_toArray, List.set_cons_succ, List.set_cons_zero]) | go_big_quiet_step (fail))
      refine wpQuiet_nil ?_
      refine WD.eff 10 (by kernel_rfl) ?_
      simp only [pick, List.toList_toArray, List.map_cons, List.map_nil, List.getD_cons_succ, List.getD_cons_zero]
      go_wp2_with (go_at_call 12; refine (HC1.out _ (tri_hc T6d.out)).mono ?_; rintro e w7 ⟨rfl, rfl⟩)
      try refine wpList_nil ?_
      refine AfterD.on d6 (by kernel_rfl) ?_
      try simp only [World.size_alloc, World.size_drew, Act.put, List.setIfInBounds_toArray, List.set_cons_succ, List.set_cons_zero]
      refine WD.pure [15, 16, 17, 18] (by kernel_rfl) d6 ?_
      simp only [pick, List.toList_toArray, List.map_cons, List.map_nil, List.getD_cons_succ, List.getD_cons_zero]
      repeat (first | (refine quiet_load_1W (by rfl) _ _ rfl rfl (.bool S'.cl) (fun _ h => h.cell 10) _ Tryz.underlying4 rfl ?_; simp only [World.size_alloc, World.size_drew, Act.put, List.setIfInBounds_toArray, List.set_cons_succ, List.set_cons_zero]) | (refine quiet_load_1W (by rfl) _ _ rfl rfl (.string S'.held) (fun _ h => h.cell 9) _ Tryz.underlying9 rfl ?_; simp only [World.size_alloc, World.size_drew, Act.put, List.setIfInBounds_toArray, List.set_cons_succ, List.set_cons_zero]) | (refine quiet_len_s (by rfl) _ _ rfl Tryz.underlying9 rfl ?_; simp only [World.size_alloc, World.size_drew, Act.put, List.setIfInBounds_toArray, List.set_cons_succ, List.set_cons_zero]) | go_big_quiet_step (fail))
      refine wpQuiet_nil ?_
      refine WD.free [20, 21, 22] (by kernel_rfl) d6 ?_
      simp only [pick, List.toList_toArray, List.map_cons, List.map_nil, List.getD_cons_succ, List.getD_cons_zero]
      repeat (first | (refine quiet_load_1W (by rfl) _ _ rfl rfl (.bool S'.cl) (fun _ h => h.cell 10) _ Tryz.underlying4 rfl ?_; simp only [World.size_alloc, World.size_drew, Act.put, List.setIfInBounds_toArray, List.set_cons_succ, List.set_cons_zero]) | (refine quiet_load_1W (by rfl) _ _ rfl rfl (.string S'.held) (fun _ h => h.cell 9) _ Tryz.underlying9 rfl ?_; simp only [World.size_alloc, World.size_drew, Act.put, List.setIfInBounds_toArray, List.set_cons_succ, List.set_cons_zero]) | (refine quiet_len_s (by rfl) _ _ rfl Tryz.underlying9 rfl ?_; simp only [World.size_alloc, World.size_drew, Act.put, List.setIfInBounds_toArray, List.set_cons_succ, List.set_cons_zero]) | go_big_quiet_step (fail))
      refine wpQuiet_nil ?_
      refine WD.held [23, 24] (by kernel_rfl) d6 ?_
      simp only [pick, List.toList_toArray, List.map_cons, List.map_nil, List.getD_cons_succ, List.getD_cons_zero]
      repeat (first | (refine quiet_load_1W (by rfl) _ _ rfl rfl (.bool S'.cl) (fun _ h => h.cell 10) _ Tryz.underlying4 rfl ?_; simp only [World.size_alloc, World.size_drew, Act.put, List.setIfInBounds_toArray, List.set_cons_succ, List.set_cons_zero]) | (refine quiet_load_1W (by rfl) _ _ rfl rfl (.string S'.held) (fun _ h => h.cell 9) _ Tryz.underlying9 rfl ?_; simp only [World.size_alloc, World.size_drew, Act.put, List.setIfInBounds_toArray, List.set_cons_succ, List.set_cons_zero]) | (refine quiet_len_s (by rfl) _ _ rfl Tryz.underlying9 rfl ?_; simp only [World.size_alloc, World.size_drew, Act.put, List.setIfInBounds_toArray, List.set_cons_succ, List.set_cons_zero]) | go_big_quiet_step (fail))
      refine wpQuiet_nil ?_
      refine WD.eff 19 (by kernel_rfl) ?_
      simp only [pick, List.toList_toArray, List.map_cons, List.map_nil, List.getD_cons_succ, List.getD_cons_zero]
      go_wp2_with (go_at_call 13; refine (HC2.out _ (tri_hc T6d.out)).mono ?_; rintro e w8 ⟨rfl, rfl⟩)
      try refine wpList_nil ?_
      refine AfterD.on d6 (by kernel_rfl) ?_
      try simp only [World.size_alloc, World.size_drew, Act.put, List.setIfInBounds_toArray, List.set_cons_succ, List.set_cons_zero]
      refine WD.pure [25, 26] (by kernel_rfl) d6 ?_
      simp only [pick, List.toList_toArray, List.map_cons, List.map_nil, List.getD_cons_succ, List.getD_cons_zero]
      repeat (first | (refine quiet_load_1W (by rfl) _ _ rfl rfl (.bool S'.cl) (fun _ h => h.cell 10) _ Tryz.underlying4 rfl ?_; simp only [World.size_alloc, World.size_drew, Act.put, List.setIfInBounds_toArray, List.set_cons_succ, List.set_cons_zero]) | (refine quiet_load_1W (by rfl) _ _ rfl rfl (.string S'.held) (fun _ h => h.cell 9) _ Tryz.underlying9 rfl ?_; simp only [World.size_alloc, World.size_drew, Act.put, List.setIfInBounds_toArray, List.set_cons_succ, List.set_cons_zero]) | (refine quiet_len_s (by rfl) _ _ rfl Tryz.underlying9 rfl ?_; simp only [World.size_alloc, World.size_drew, Act.put, List.setIfInBounds_toArray, List.set_cons_succ, List.set_cons_zero]) | go_big_quiet_step (fail))
      refine wpQuiet_nil ?_
      refine WD.done (by kernel_rfl) ?_
      go_wp2_with fail
      go_roundw
      case rel => exact ⟨i + 1, Z, S', by omega, by go_num, by rw [HZ.out], HO', HS', T6d⟩
      case measure => simp [intOf]; omega
theorem takes_walk (h : FL w tv pv l ms LT LP) (tb : TB w) (at_ cut : Int) (ha : -9223372036854775808 ≤ at_ ∧ at_ ≤ 9223372036854775807) (hcu : 0 ≤ cut ∧ cut ≤ 65535) (more : ByteArray) (conn : UInt64) (sec : UInt8) :
    Calls Tryz.prog 4 #[.agg (flowV tv pv at_ cut more conn sec).toArray] w fun e w' => e = .returned (.bool true) ∧ Fr [] w w' := by
  cases hA : fheavyS l ms more with
  | true => exact takes_h1 h tb at_ cut more conn sec hA
  | false => exact takes_light h tb at_ cut ha hcu more conn sec hA
end
end Go.Proofs.YtneoagelcjfanaaGreatDoor.chn

/- Layer 22 (great seat): a flow that came in, opened. -/
namespace Go.Proofs.YtneoagelcjfanaaGreatDoor.chn
open Go Go.Xr Go.RowKit Go.Proofs.YtneoagelcjfanaaGreatDoor Go.Proofs.YtneoagelcjfanaaGreatDoor.rcd
set_option linter.unusedVariables false
set_option linter.unusedSimpArgs false
theorem fu16_of {n : Int} (h : (Lit.int .u16 n).wf = true) : 0 ≤ n ∧ n ≤ 65535 := by
  have h1 : IntKind.u16.min ≤ n ∧ n ≤ IntKind.u16.max := by simpa [Lit.wf] using h
  have h2 : IntKind.u16.min = 0 := by decide
  have h3 : IntKind.u16.max = 65535 := by decide
  omega
theorem fi64_of {n : Int} (h : (Lit.int .i64 n).wf = true) : -9223372036854775808 ≤ n ∧ n ≤ 9223372036854775807 := by
  have h1 : IntKind.i64.min ≤ n ∧ n ≤ IntKind.i64.max := by simpa [Lit.wf] using h
  have h2 : IntKind.i64.min = -9223372036854775808 := by decide
  have h3 : IntKind.i64.max = 9223372036854775807 := by decide
  omega
open Go.ChangeShapes Go.WideShapes Go.ChangeAt Go.Deep in
theorem fopen_u16s {H : Type} {enc : TypeId × Value → H} {P : Program} {w : World} {base : Nat} {spare : Nat → Bool} {held : Bool} {t e : TypeId} (ht : P.underlying t = some (.slice e)) (he : P.underlying e = some (.int .u16)) (hC : P.cellsOf e = 1) {fuel : Nat} {cs : List Value} {x : DataW H × List MemPlace} (h : DataW.trod enc P w base spare held fuel t cs = some x) :
    ∃ (v : Value) (l : List Int) (B : Option Nat), cs = [v] ∧ Rc w 1 v l.length (l.map (.int .u16)) B ∧ (∀ x ∈ l, 0 ≤ x ∧ x ≤ 65535) ∧ l.length ≤ maxLen := by
  obtain ⟨v, l, B, h1, h2, h4, h3⟩ := open_rows (α := Int) (fun a => [.int .u16 a]) (fun x => 0 ≤ x ∧ x ≤ 65535) 1 (by decide) (fun _ => rfl) ht hC (fun n cs x hx => by
    obtain ⟨b, hb, _, hw⟩ := DataW.trod_int he hx
    exact ⟨_, hb, fu16_of hw⟩) h
  rw [flat_one] at h2
  exact ⟨v, l, B, h1, h2, h4, h3⟩
set_option maxRecDepth 20000 in
open Go.ChangeShapes Go.WideShapes Go.ChangeAt Go.Deep in
/-- A flow that came in. -/
theorem open_flow {H : Type} {enc : TypeId × Value → H} {w : World} {base : Nat} {spare : Nat → Bool} {held : Bool} {r : Reach} {b0 : Nat} {v : Value} {d : DataW H} {p : List MemPlace} (hv : Value.okWide Tryz.prog w r b0 39 v) (h : DataW.Trod enc Tryz.prog w base spare held 39 v d p) (hw : WOk Tryz.prog 39 d) :
    ∃ (tv pv : Value) (l : List ByteArray) (ms : List Int) (LT LP : Option Nat) (at_ cut : Int) (more : ByteArray) (conn : UInt64) (sec : UInt8), v = .agg (flowV tv pv at_ cut more conn sec).toArray ∧ FL w tv pv l ms LT LP ∧ (-9223372036854775808 ≤ at_ ∧ at_ ≤ 9223372036854775807) ∧ (0 ≤ cut ∧ cut ≤ 65535) := by
  obtain ⟨cs, rfl, hsz⟩ := okWide_struct Tryz.underlying39 hv
  obtain ⟨fuel, hf⟩ := h
  obtain ⟨xs, n', _, hx, hlen, hxl, hg⟩ := DataW.trod_struct Tryz.underlying39 hf
  have hlen7 : cs.toList.length = 7 := hlen
  have hxl7 : xs.length = 7 := hxl
  obtain ⟨cl⟩ := cs
  match cl, hlen7, xs, hxl7 with
  | [c0, c1, c2, c3, c4, c5, c6], _, [x0, x1, x2, x3, x4, x5, x6], _ =>
    have hd : d = .agg [x0.1, x1.1, x2.1, x3.1, x4.1, x5.1, x6.1] := by
      have := congrArg Prod.fst hx
      simpa using this
    rw [hd] at hw
    unfold WOk at hw
    simp only [DataW.weights, Tryz.underlying39] at hw
    obtain ⟨z0, hw⟩ := weights_cons hw
    obtain ⟨z1, hw⟩ := weights_cons hw
    obtain ⟨tv, l, B, h0, g1, g2, g3, g4⟩ := open_strings_w Tryz.underlying23 Tryz.underlying9 rfl (hg 0 _ rfl) z0
    obtain ⟨pv, ms, B2, h1, u1, u2, u3⟩ := fopen_u16s Tryz.underlying36 Tryz.underlying37 rfl (hg 1 _ rfl)
    obtain ⟨n2, h2, _, w2⟩ := DataW.trod_int Tryz.underlying3 (hg 2 _ rfl)
    obtain ⟨n3, h3, _, w3⟩ := DataW.trod_int Tryz.underlying37 (hg 3 _ rfl)
    obtain ⟨s4, h4, hd4, w4⟩ := DataW.trod_string Tryz.underlying9 (hg 4 _ rfl)
    obtain ⟨n5, h5, _, w5⟩ := DataW.trod_int Tryz.underlying22 (hg 5 _ rfl)
    obtain ⟨n6, h6, _, w6⟩ := DataW.trod_int Tryz.underlying5 (hg 6 _ rfl)
    obtain ⟨x5', rfl⟩ := u64_of w5
    obtain ⟨x6', rfl⟩ := u8_of w6
    have e0 : c0 = tv := List.singleton_inj.1 h0
    have e1 : c1 = pv := List.singleton_inj.1 h1
    have e2 : c2 = .int .i64 n2 := List.singleton_inj.1 h2
    have e3 : c3 = .int .u16 n3 := List.singleton_inj.1 h3
    have e4 : c4 = .string s4 := List.singleton_inj.1 h4
    have e5 : c5 = W64 x5' := List.singleton_inj.1 h5
    have e6 : c6 = bt x6' := List.singleton_inj.1 h6
    exact ⟨tv, pv, l, ms, B, B2, n2, n3, s4, x5', x6', by rw [e0, e1, e2, e3, e4, e5, e6]; rfl, ⟨g1, g2, by unfold maxLen at g4; omega, u1, by unfold maxLen at u3; omega, u2⟩, fi64_of w2, fu16_of w3⟩
end Go.Proofs.YtneoagelcjfanaaGreatDoor.chn
