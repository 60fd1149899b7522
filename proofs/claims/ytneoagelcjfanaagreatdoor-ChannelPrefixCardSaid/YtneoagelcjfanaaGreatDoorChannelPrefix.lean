/- Layer 22: ChannelPrefix, the walk. -/
import Derived.Test.YtneoagelcjfanaaGreatDoorGPre
namespace Go.Proofs.YtneoagelcjfanaaGreatDoor.chn
open Go Go.Xr Go.RowKit Go.Proofs.YtneoagelcjfanaaGreatDoor Go.Proofs.YtneoagelcjfanaaGreatDoor.rcd
set_option linter.unusedVariables false
set_option linter.unusedSimpArgs false
attribute [local go_sem] eql_u8 eqgu8
theorem psplit (X : ByteArray) (n : Nat) (hn : n ≤ X.size) : X.extract 0 n ++ X.extract n X.size = X := by
  apply ByteArray.ext
  simp only [ByteArray.data_append, ByteArray.data_extract]
  rw [Array.extract_append_extract, Nat.min_eq_left (Nat.zero_le _), Nat.max_eq_right hn]
  exact Array.extract_size ..
theorem str_beq (X : ByteArray) : (X.toList == X.toList) = true := by rw [beq_str2]; simp
section
variable {w : World} {tv pv : Value} {l : List ByteArray} {ms : List Int} {LT LP : Option Nat}
set_option maxRecDepth 20000 in
set_option maxHeartbeats 400000 in
theorem prefix_h1 (h : FL w tv pv l ms LT LP) (tb : TB w) (at_ cut : Int) (more : ByteArray) (conn : UInt64) (sec : UInt8) (hA : fheavyS l ms more = true) :
    Calls Tryz.prog 5 #[.agg (flowV tv pv at_ cut more conn sec).toArray] w fun e w' => e = .returned (.bool true) ∧ Fr [] w w' := by
  obtain ⟨la, lc, rfl⟩ := h.t.isSlice
  obtain ⟨ua, uc, rfl⟩ := h.p.isSlice
  have HA := hid fun (w1 : World) (f : Fr [] w w1) => fheavy_any (h.keep f) at_ cut more conn sec
  have HW := hid fun (w1 : World) (f : Fr [] w w1) => cworks_any (tb.keep f)
  rw [hA] at HA
  obtain ⟨n, hn⟩ : ∃ n, l.length = n := ⟨_, rfl⟩
  obtain ⟨m, hm⟩ : ∃ n, ms.length = n := ⟨_, rfl⟩
  rw [hn, hm] at HA ⊢
  clear h tb hA hn hm
  go_enter Tryz.func5, Tryz.ntmps5
  go_wp2_with (first
    | (refine wpList_box rfl _ _ rfl (flowV (.slice la n lc) (.slice ua m uc) at_ cut more conn sec) rfl ?_; intro w1 f1 hlt1 hb1; simp only [World.size_alloc, World.size_drew, Act.put, List.setIfInBounds_toArray, List.set_cons_succ, List.set_cons_zero])
    | (refine wpList_load_ag rfl _ _ rfl rfl (flowV (.slice la n lc) (.slice ua m uc) at_ cut more conn sec) hb1 flowAT rfl rfl ?_; simp only [World.size_alloc, World.size_drew, Act.put, List.setIfInBounds_toArray, List.set_cons_succ, List.set_cons_zero])
    | (go_at_call 14; refine (HA.out _ f1).mono ?_; rintro e w2 ⟨rfl, f2⟩; have g2 := f1.trans' f2)
    | (go_at_call 7; refine (HW.out _ g2).mono ?_; rintro e w3 ⟨rfl, f3⟩))
  go_ret
  exact ⟨rfl, g2.trans' f3⟩
set_option maxRecDepth 20000 in
set_option maxHeartbeats 8000000 in
theorem prefix_1 (h : FL w tv pv l ms LT LP) (tb : TB w) (at_ cut : Int) (ha : -9223372036854775808 ≤ at_ ∧ at_ ≤ 9223372036854775807) (hcu : 0 ≤ cut ∧ cut ≤ 65535) (more : ByteArray) (conn : UInt64) (sec : UInt8) (hA : fheavyS l ms more = false) (A B : ByteArray) (k : Nat) (hXA : sentS l = A) (hXB : comesS A more at_ cut = B) (hk : cpl A B = k) (hmode : k = A.size) :
    Calls Tryz.prog 5 #[.agg (flowV tv pv at_ cut more conn sec).toArray] w fun e w' => e = .returned (.bool true) ∧ Fr [] w w' := by
  obtain ⟨l12, ltot, m200, mo2⟩ := fheavy_no hA
  obtain ⟨la, lc, rfl⟩ := h.t.isSlice
  obtain ⟨ua, uc, rfl⟩ := h.p.isSlice
  have HA := hid fun (w1 : World) (f : Fr [] w w1) => fheavy_any (h.keep f) at_ cut more conn sec
  have HWi := hid fun (w1 : World) (f : Fr [] w w1) => wire_any (h.keep f) (tb.keep f) at_ cut ha hcu more conn sec l12 ltot mo2
  have HPc := hid fun (w1 : World) (f : Fr [] w w1) (i : Nat) (hi : i ≤ 1000) (X : ByteArray) => piece_any (h.keep f) at_ cut more conn sec i hi X
  have HW := hid fun (w1 : World) (f : Fr [] w w1) => cworks_any (tb.keep f)
  have hAz := sentS_size l l12 ltot
  have hBz := comesS_size (sentS l) more at_ cut hAz mo2
  have HFe := hid fun (got : ByteArray) (S : CHS) (hf : FD flowR B S got) (hF : forgedS A B = false) => by
    have := fd_end (l := l) hf (by rw [hXA]; exact hF)
    rw [hXA, hk] at this
    exact this
  rw [hXA, hXB] at HWi
  rw [hXA] at hAz
  rw [hXA, hXB] at hBz
  have HFo := hid fun (w1 : World) (f : Fr [] w w1) => forged_any (tb.keep f) A B (by omega) hBz
  have HM := hid fun w1 : World => master_any w1 0
  have hmk := kmS_size 0
  rw [show bt 0 = Value.int .u8 0 from rfl] at HM
  have HC := hid fun (w1 : World) (f : Fr [] w w1) => cnew_any (kmS 0) 7 true w1 (tb.keep f) hmk
  have HD := hid fun (w1 : World) (f : Fr [] w w1) => dnew_any (kmS 0) 7 true w1 (tb.keep f) hmk
  rw [show W64 7 = Value.int .u64 7 from rfl, show chOf (kmS 0) 7 true = flowR from rfl] at HC HD
  have KK : KOk flowR := chOf_ok _ _ _
  generalize flowR = K at *
  generalize kmS 0 = mk at *
  rw [hA] at HA
  have HL := hid h.t
  have HTOT := hid ltot
  obtain ⟨n, hn⟩ : ∃ n, l.length = n := ⟨_, rfl⟩
  obtain ⟨m, hm⟩ : ∃ n, ms.length = n := ⟨_, rfl⟩
  have HLN := hid hn
  have hn12 : n ≤ 12 := by omega
  rw [hn, hm] at HA HWi HPc ⊢
  rw [hn] at HL
  rw [hm] at m200
  obtain ⟨cs, hcs⟩ : ∃ cs : List Value, flowV (.slice la n lc) (.slice ua m uc) at_ cut more conn sec = cs := ⟨_, rfl⟩
  have c0 : cs[0]? = some (.slice la n lc) := by rw [← hcs]; rfl
  have c1 : cs[1]? = some (.slice ua m uc) := by rw [← hcs]; rfl
  have clen : cs.length = 7 := by rw [← hcs]; rfl
  have cdt : (cs.drop 0).take 7 = cs := by rw [← hcs]; rfl
  rw [hcs] at HA HWi HPc ⊢
  have hcpl := cpl_le A B
  have HAt := hid fun i : Nat => @cpl_at A B i
  rw [hk] at HAt hcpl
  obtain ⟨hkA, hkB⟩ := hcpl
  have hmm := hid (show ∀ i, i ≤ m → pieceN ms i = pieceN ms i from fun _ _ => rfl)
  have HPl := hid (show ∀ X, pieceN ms m X = X.size from fun X => by unfold pieceN; rw [if_pos (by omega)])
  clear h tb hA hn hm hcs ltot l12 mo2 hmk ha hcu hXA hXB hk hmm
  go_enter Tryz.func5, Tryz.ntmps5
  go_wp2_with (first
    | (refine wpList_box rfl _ _ rfl cs rfl ?_; intro w1 f1 hlt1 hb1; have T1 := hid ((Ev.start w).new f1 (Res.On.blk hb1) (fun b hb => by simp [Res.blk] at hb; omega)); simp only [World.size_alloc, World.size_drew, Act.put, List.setIfInBounds_toArray, List.set_cons_succ, List.set_cons_zero])
    | (refine wpList_load_ag rfl _ _ rfl rfl cs hb1 flowAT clen cdt ?_; clear hb1; simp only [World.size_alloc, World.size_drew, Act.put, List.setIfInBounds_toArray, List.set_cons_succ, List.set_cons_zero])
    | (go_at_call 14; refine (HA.out _ f1).mono ?_; rintro e w2 ⟨rfl, f2⟩; have T2 := hid (T1.out.step f2); have hb2 := T2.out.held.blkAt 0 rfl; have g2 := Ev.nil T2.out; clear T1 f1 f2 HA hlt1)
    | (refine wpList_load_ag rfl _ _ rfl rfl cs hb2 flowAT clen cdt ?_; clear hb2; simp only [World.size_alloc, World.size_drew, Act.put, List.setIfInBounds_toArray, List.set_cons_succ, List.set_cons_zero])
    | (go_at_call 15; refine (HWi.out _ g2).mono ?_; rintro e w3 ⟨rfl, f3⟩; have T3 := hid (T2.out.step f3); clear f3 HWi T2 g2))
  obtain ⟨bb, hbb⟩ : ∃ bb, w.heap.size = bb := ⟨_, rfl⟩
  rw [hbb] at T3 ⊢
  clear hbb
  go_loopw [5] (fun iv wr => ∃ i : Nat, iv = .int .i64 (i : Int) ∧ i ≤ k ∧ Hid (Ev w [] wr [Res.blk bb cs])) (fun iv _ => k - (intOf iv).toNat)
  case atStart => exact ⟨0, rfl, Nat.zero_le _, T3⟩
  case round =>
    obtain ⟨i, rfl, hik, hE⟩ := hrel
    clear T3
    have T4 := hid (hE.out.step (Fr.refl [] wr).drew)
    clear hE
    by_cases hlk : i < k
    case pos =>
      have d1 : decide ((i : Int) < (A.size : Int)) = true := by simp; omega
      have d2 : decide (i < A.size) = true := by simp; omega
      have d3 : decide ((i : Int) < (B.size : Int)) = true := by simp; omega
      have d4 : decide (i < B.size) = true := by simp; omega
      have hxa : ∀ w0 : World, (Instr.index 9 (.string A) (.int .i64 (i : Int))).run Tryz.prog w0 = .ok (bt (g8 A.data.toList i)) w0 := fun w0 => index_str (P := Tryz.prog) w0 9 A .i64 i i Tryz.underlying9 rfl (by omega) 0
      have hxb : ∀ w0 : World, (Instr.index 9 (.string B) (.int .i64 (i : Int))).run Tryz.prog w0 = .ok (bt (g8 B.data.toList i)) w0 := fun w0 => index_str (P := Tryz.prog) w0 9 B .i64 i i Tryz.underlying9 rfl (by omega) 0
      rw [← HAt.out i hlk] at hxb
      generalize g8 A.data.toList i = XA at *
      go_wp2_with fail
      refine wp_region_D (fun _ => True) false [] (by kernel_rfl) ?_
      refine WD.pure [0, 1, 2, 3, 4, 5, 6, 7, 8, 9, 10, 11, 12, 13, 14, 15, 16, 17, 18] (by kernel_rfl) trivial ?_
      simp only [pick, List.toList_toArray, List.map_cons, List.map_nil, List.getD_cons_succ, List.getD_cons_zero]
      repeat (first | go_big_quiet_step (fail))
      refine wpQuiet_nil ?_
      refine WD.done (by kernel_rfl) ?_
      go_wp2_with fail
      go_roundw
      case rel => exact ⟨i + 1, by go_num, by omega, T4⟩
      case measure => simp [intOf]; omega
    case neg =>
      obtain rfl : k = i := by omega
      have d1 : decide ((k : Int) < (A.size : Int)) = false := by simp; omega
      have d2 : decide (k < A.size) = false := by simp; omega
      skip
      skip
      skip
      skip
      skip
      clear hlk HAt hmode
      go_wp2_with fail
      refine wp_region_D (fun _ => True) false [] (by kernel_rfl) ?_
      refine WD.pure [0, 1, 2, 3, 4, 5, 6, 7, 8, 9, 10, 11, 12, 13, 14, 15, 16, 17, 18] (by kernel_rfl) trivial ?_
      simp only [pick, List.toList_toArray, List.map_cons, List.map_nil, List.getD_cons_succ, List.getD_cons_zero]
      repeat (first | go_big_quiet_step (fail))
      refine wpQuiet_nil ?_
      refine WD.done (by kernel_rfl) ?_
      go_wp2_with fail
      clear d1 d2
      go_loopw [6, 7] (fun gv iv wq => ∃ i : Nat, i ≤ n ∧ iv = .int .i64 (i : Int) ∧ gv = .string (catB (l.take i)) ∧ wq = wr.drew) (fun _ iv _ => n - (intOf iv).toNat)
      case atStart => exact ⟨0, Nat.zero_le _, rfl, by simp [catB], rfl⟩
      case round =>
        obtain ⟨i, hi, rfl, rfl, rfl⟩ := hrel
        have k0 : wr.drew.cell? ⟨bb, 0, none⟩ = some (.slice la n lc) := ((T4.out.held.blkAt 0 rfl).cell 0).trans c0
        by_cases hli : i < n
        case pos =>
          have hd1 : decide (i < n) = true := by simp; omega
          obtain ⟨lb, off, rfl, _, hlb, hh, hcell⟩ := rc_at (HL.out.keep (Ev.nil T4.out) (by simp)) hli
          have hct := catB_take l i hh
          have hts := totN_mem l _ (List.getElem_mem hh)
          have hgs := catB_size (l.take i)
          have hgt := totN_take_le l i
          obtain ⟨t, ht⟩ : ∃ t, l[i] = t := ⟨_, rfl⟩
          obtain ⟨Gi, hGi⟩ : ∃ Gi, catB (l.take i) = Gi := ⟨_, rfl⟩
          rw [ht] at hcell hct hts
          rw [hGi] at hct hgs ⊢
          have hb2 : Gi.size + t.size ≤ 140737488355328 := by have := HTOT.out; omega
          have HCT := hid hct
          clear hct hgs hgt hts hGi ht
          go_wp2_with fail
          go_roundw
          case rel => exact ⟨i + 1, by omega, by go_num, by rw [HCT.out], by first | rfl | trivial⟩
          case measure => simp [intOf]; omega
        case neg =>
          have hd1 : decide (i < n) = false := by simp; omega
          have hin : i = n := by omega
          subst hin
          have etk : l.take i = l := by rw [← HLN.out]; exact List.take_length
          rw [etk]
          have hGz := catB_size l
          obtain ⟨G, hG⟩ : ∃ G, catB l = G := ⟨_, rfl⟩
          rw [hG] at HFe hGz ⊢
          have HGz := hid (show G.size ≤ 32768 by have := HTOT.out; omega)
          have g4 := Ev.nil T4.out
          have HFo2 := hid (HFo.out _ g4)
          clear etk hG hGz HL HTOT HLN HFo hi hli
          cases hF : forgedS A B with
          | true =>
            rw [hF] at HFo2
            clear HFe
            go_wp2_with (first
              | (go_at_call 20; refine HFo2.out.mono ?_; rintro e w5 ⟨rfl, f5⟩; have g5 := g4.trans' f5)
              | (go_at_call 7; refine (HW.out _ g5).mono ?_; rintro e w6 ⟨rfl, f6⟩; have g6 := g5.trans' f6))
            go_ret
            exact ⟨rfl, g6⟩
          | false =>
            rw [hF] at HFo2
            have HFd := hid fun (got : ByteArray) (S : CHS) (hf : FD K B S got) => HFe.out got S hf hF
            clear HFe hF
            go_wp2_with (first
              | (go_at_call 20; refine HFo2.out.mono ?_; rintro e w5 ⟨rfl, f5⟩; have T5 := hid (T4.out.step f5); clear f5 g4 HFo2 T4)
              | (go_at_call 16; refine (HM.out _).mono ?_; rintro e w6 ⟨rfl, f6⟩; have T6 := hid (T5.out.step f6); have g6 := Ev.nil T6.out; clear f6 T5)
              | (go_at_call 8; refine (HC.out _ g6).mono ?_; rintro e w7 ⟨cb, s, o, rfl, E7⟩; have T7 := hid (two_n T6.out E7); clear E7 T6 g6 HC))
            go_loopw [4, 10, 11] (fun lv gv iv wr => ∃ (i : Nat) (rest D got : ByteArray) (S : CHS), i ≤ m + 1 ∧ iv = .int .i64 (i : Int) ∧ lv = .string rest ∧ gv = .string got ∧ Hid (FD K D S got) ∧ Hid (D ++ rest = B) ∧ Hid (i = m + 1 → rest = ⟨#[]⟩) ∧ Hid (Ev w [] wr (chR cb s o K S ++ [Res.blk bb cs]))) (fun _ _ iv _ => m + 1 - (intOf iv).toNat)
            case atStart => exact ⟨0, B, ⟨#[]⟩, ⟨#[]⟩, CHS.init, Nat.zero_le _, rfl, rfl, rfl, hid (FD.start K), hid (bempty_app B), hid (fun h => by omega), T7⟩
            case round =>
              obtain ⟨i, rest, D, got, S, hi, rfl, rfl, rfl, HFD, HDB, HEN, hE⟩ := hrel
              clear T7 k0
              have hbx : Blk wr bb cs := (tri_hb' hE.out).blkAt 0 rfl
              have k1 : wr.cell? ⟨bb, 1, none⟩ = some (.slice ua m uc) := (hbx.cell 1).trans c1
              by_cases him : i ≤ m
              case neg =>
                have hd1 : decide (i ≤ m) = false := by simp; omega
                have er := HEN.out (by omega)
                have eB : D = B := by have := HDB.out; rw [er, app_bempty] at this; exact this
                rw [eB] at HFD
                obtain ⟨em, Z, eZ⟩ := HFd.out got S HFD.out
                have hle : got.size ≤ G.size := by rw [eZ, ByteArray.size_append]; omega
                have hle1 : decide (got.size ≤ G.size) = true := by simp; omega
                have hle2 : decide ((got.size : Int) ≤ (G.size : Int)) = true := by simp; omega
                have hx : G.extract 0 got.size = got := by rw [eZ]; exact ext_self got Z
                have hy : (got.toList == (G.extract 0 got.size).toList) = true := by rw [hx]; exact str_beq got
                have hz : (got.toList == got.toList) = true := str_beq got
                obtain ⟨P, hP⟩ : ∃ P, A.extract 0 k = P := ⟨_, rfl⟩
                have hPs : P.size ≤ 600000 := by rw [← hP, ByteArray.size_extract]; omega
                have HP := hid hP
                have HT3 := hid fun (w1 : World) (p : Nat) (h1 : Held w1 [Res.blk p (docL K CHS.init)]) => dtake_all h1 KK (fun _ => rfl) P (by show 0 + _ ≤ _; omega)
                have eo : (tkC K CHS.init P).out = got := by
                  unfold tkC
                  rw [show CHS.init.cl = false from rfl, show CHS.init.held = ⟨#[]⟩ from rfl, bempty_app]
                  rw [em, hP]
                  rfl
                rw [eo] at HT3
                generalize (tkC K CHS.init P).c = tc at *
                generalize tkN K CHS.init P = SP at *
                have g8' := Ev.nil hE.out
                clear em eZ hx eo hP hPs HFd HPc hE hbx er eB HEN HDB HFD HPl
                go_wp2_with (first
                  | (go_at_call 16; refine (HM.out _).mono ?_; rintro e w9 ⟨rfl, f9⟩; have g9 := g8'.trans' f9; clear f9)
                  | (go_at_call 9; refine (HD.out _ g9).mono ?_; rintro e w10 ⟨p, rfl, E10⟩; have T10 := hid (Ev.trans ((Ev.start w).step g9) E10); clear E10 HD)
                  | (go_at_call 19; rw [HP.out]; refine (HT3.out _ _ T10.out.held).mono ?_; rintro e w11 ⟨rfl, h11⟩; have g11 := Ev.nil (Ev.trans T10.out h11); clear h11 HT3)
                  | (go_at_call 7; refine (HW.out _ g11).mono ?_; rintro e w12 ⟨rfl, f12⟩; have g12 := g11.trans' f12))
                go_ret
                exact ⟨rfl, g12⟩
              case pos =>
                have hd1 : decide (i ≤ m) = true := by simp; omega
                have HPi := hid (HPc.out wr (Ev.nil hE.out) i (by omega) rest)
                have hq0 := pieceN_le ms i rest
                have hql : i = m → pieceN ms i rest = rest.size := fun h => by rw [h]; exact HPl.out rest
                obtain ⟨q, hq⟩ : ∃ q, pieceN ms i rest = q := ⟨_, rfl⟩
                rw [hq] at HPi hq0 hql
                clear hq HPc
                have hqi : (q : Int) ≤ (rest.size : Int) := by omega
                obtain ⟨hs1, hs2, hs3⟩ := HFD.out.sz
                have hDB := congrArg ByteArray.size HDB.out
                rw [ByteArray.size_append] at hDB
                obtain ⟨P, hP⟩ : ∃ P, rest.extract 0 q = P := ⟨_, rfl⟩
                obtain ⟨Z, hZ⟩ : ∃ Z, rest.extract q rest.size = Z := ⟨_, rfl⟩
                have hPs : P.size = q := by rw [← hP, ByteArray.size_extract]; omega
                have hPZ : P ++ Z = rest := by rw [← hP, ← hZ]; exact psplit rest q hq0
                have hrb : rest.size ≤ 600000 := by omega
                have HDB' := hid (show (D ++ P) ++ Z = B by rw [ByteArray.append_assoc, hPZ]; exact HDB.out)
                have HEN' := hid (show i + 1 = m + 1 → Z = ⟨#[]⟩ from fun h => emp (by rw [← hZ, ByteArray.size_extract]; have := hql (by omega); omega))
                have HT := hid fun (w1 : World) (h1 : Held w1 (chR cb s o K S)) => ctake_all h1 KK hs3 P (by omega)
                have hfd := HFD.out.go P
                have hcl := fun h => tkN_cl K S P h
                have hgz := hfd.sz.2.1
                rw [ByteArray.size_append, ByteArray.size_append] at hgz
                obtain ⟨S', hS'⟩ : ∃ S', tkN K S P = S' := ⟨_, rfl⟩
                obtain ⟨T, hT⟩ : ∃ T, tkC K S P = T := ⟨_, rfl⟩
                rw [hS'] at HT hfd hcl
                rw [hT] at HT hfd hcl hgz
                obtain ⟨to_, hto⟩ : ∃ v, T.out = v := ⟨_, rfl⟩
                obtain ⟨tc, htc⟩ : ∃ v, T.c = v := ⟨_, rfl⟩
                rw [hto] at HT hfd hgz
                rw [htc] at HT hcl
                have hgb : got.size + to_.size ≤ 140737488355328 := by omega
                have HP := hid hP
                have HZ := hid hZ
                have HFD' := hid hfd
                have HCL := hid hcl
                clear hS' hT hto htc hP hZ hPs hPZ hs1 hs2 hs3 hDB hfd hcl hgz hql HFd HFD HDB HEN
                by_cases hc0 : tc = 0
                case pos =>
                  subst hc0
                  clear HCL
                  go_wp2_with (first
                    | (refine wpList_load_ag rfl _ _ rfl rfl cs hbx flowAT clen cdt ?_; clear hbx; simp only [World.size_alloc, World.size_drew, Act.put, List.setIfInBounds_toArray, List.set_cons_succ, List.set_cons_zero])
                    | (go_at_call 17; refine HPi.out.mono ?_; rintro e w2 ⟨rfl, f2⟩; have T2 := hid (hE.out.step f2); clear HPi f2)
                    | (go_at_call 18; rw [HP.out]; refine (HT.out _ (two_hb T2.out)).mono ?_; rintro e w3 ⟨rfl, h3⟩; have T3 := hid (two_b T2.out h3); clear h3 HT T2 hE))
                  go_roundw
                  case rel => exact ⟨i + 1, Z, D ++ P, got ++ to_, S', by omega, by go_num, by rw [HZ.out], rfl, HFD', HDB', HEN', T3⟩
                  case measure => simp [intOf]; omega
                case neg =>
                  have hne : (tc != 0) = true := by simpa using hc0
                  have HC1 := hid fun (w1 : World) (h1 : Held w1 (chR cb s o K S')) => cclosed_any h1
                  rw [HCL.out hc0] at HC1
                  clear HCL hc0
                  go_wp2_with (first
                    | (refine wpList_load_ag rfl _ _ rfl rfl cs hbx flowAT clen cdt ?_; clear hbx; simp only [World.size_alloc, World.size_drew, Act.put, List.setIfInBounds_toArray, List.set_cons_succ, List.set_cons_zero])
                    | (go_at_call 17; refine HPi.out.mono ?_; rintro e w2 ⟨rfl, f2⟩; have T2 := hid (hE.out.step f2); clear HPi f2)
                    | (go_at_call 18; rw [HP.out]; refine (HT.out _ (two_hb T2.out)).mono ?_; rintro e w3 ⟨rfl, h3⟩; have T3 := hid (two_b T2.out h3); clear h3 HT T2 hE)
                    | (go_at_call 12; refine (HC1.out _ (two_hb T3.out)).mono ?_; rintro e w4 ⟨rfl, e4⟩; have e4' := hid e4; rw [e4'.out]; clear e4 HC1))
                  go_roundw
                  case rel => exact ⟨i + 1, Z, D ++ P, got ++ to_, S', by omega, by go_num, by rw [HZ.out], rfl, HFD', HDB', HEN', T3⟩
                  case measure => simp [intOf]; omega
set_option maxRecDepth 20000 in
set_option maxHeartbeats 8000000 in
theorem prefix_2 (h : FL w tv pv l ms LT LP) (tb : TB w) (at_ cut : Int) (ha : -9223372036854775808 ≤ at_ ∧ at_ ≤ 9223372036854775807) (hcu : 0 ≤ cut ∧ cut ≤ 65535) (more : ByteArray) (conn : UInt64) (sec : UInt8) (hA : fheavyS l ms more = false) (A B : ByteArray) (k : Nat) (hXA : sentS l = A) (hXB : comesS A more at_ cut = B) (hk : cpl A B = k) (hmode : k < A.size ∧ k = B.size) :
    Calls Tryz.prog 5 #[.agg (flowV tv pv at_ cut more conn sec).toArray] w fun e w' => e = .returned (.bool true) ∧ Fr [] w w' := by
  obtain ⟨l12, ltot, m200, mo2⟩ := fheavy_no hA
  obtain ⟨la, lc, rfl⟩ := h.t.isSlice
  obtain ⟨ua, uc, rfl⟩ := h.p.isSlice
  have HA := hid fun (w1 : World) (f : Fr [] w w1) => fheavy_any (h.keep f) at_ cut more conn sec
  have HWi := hid fun (w1 : World) (f : Fr [] w w1) => wire_any (h.keep f) (tb.keep f) at_ cut ha hcu more conn sec l12 ltot mo2
  have HPc := hid fun (w1 : World) (f : Fr [] w w1) (i : Nat) (hi : i ≤ 1000) (X : ByteArray) => piece_any (h.keep f) at_ cut more conn sec i hi X
  have HW := hid fun (w1 : World) (f : Fr [] w w1) => cworks_any (tb.keep f)
  have hAz := sentS_size l l12 ltot
  have hBz := comesS_size (sentS l) more at_ cut hAz mo2
  have HFe := hid fun (got : ByteArray) (S : CHS) (hf : FD flowR B S got) (hF : forgedS A B = false) => by
    have := fd_end (l := l) hf (by rw [hXA]; exact hF)
    rw [hXA, hk] at this
    exact this
  rw [hXA, hXB] at HWi
  rw [hXA] at hAz
  rw [hXA, hXB] at hBz
  have HFo := hid fun (w1 : World) (f : Fr [] w w1) => forged_any (tb.keep f) A B (by omega) hBz
  have HM := hid fun w1 : World => master_any w1 0
  have hmk := kmS_size 0
  rw [show bt 0 = Value.int .u8 0 from rfl] at HM
  have HC := hid fun (w1 : World) (f : Fr [] w w1) => cnew_any (kmS 0) 7 true w1 (tb.keep f) hmk
  have HD := hid fun (w1 : World) (f : Fr [] w w1) => dnew_any (kmS 0) 7 true w1 (tb.keep f) hmk
  rw [show W64 7 = Value.int .u64 7 from rfl, show chOf (kmS 0) 7 true = flowR from rfl] at HC HD
  have KK : KOk flowR := chOf_ok _ _ _
  generalize flowR = K at *
  generalize kmS 0 = mk at *
  rw [hA] at HA
  have HL := hid h.t
  have HTOT := hid ltot
  obtain ⟨n, hn⟩ : ∃ n, l.length = n := ⟨_, rfl⟩
  obtain ⟨m, hm⟩ : ∃ n, ms.length = n := ⟨_, rfl⟩
  have HLN := hid hn
  have hn12 : n ≤ 12 := by omega
  rw [hn, hm] at HA HWi HPc ⊢
  rw [hn] at HL
  rw [hm] at m200
  obtain ⟨cs, hcs⟩ : ∃ cs : List Value, flowV (.slice la n lc) (.slice ua m uc) at_ cut more conn sec = cs := ⟨_, rfl⟩
  have c0 : cs[0]? = some (.slice la n lc) := by rw [← hcs]; rfl
  have c1 : cs[1]? = some (.slice ua m uc) := by rw [← hcs]; rfl
  have clen : cs.length = 7 := by rw [← hcs]; rfl
  have cdt : (cs.drop 0).take 7 = cs := by rw [← hcs]; rfl
  rw [hcs] at HA HWi HPc ⊢
  have hcpl := cpl_le A B
  have HAt := hid fun i : Nat => @cpl_at A B i
  rw [hk] at HAt hcpl
  obtain ⟨hkA, hkB⟩ := hcpl
  have hmm := hid (show ∀ i, i ≤ m → pieceN ms i = pieceN ms i from fun _ _ => rfl)
  have HPl := hid (show ∀ X, pieceN ms m X = X.size from fun X => by unfold pieceN; rw [if_pos (by omega)])
  clear h tb hA hn hm hcs ltot l12 mo2 hmk ha hcu hXA hXB hk hmm
  go_enter Tryz.func5, Tryz.ntmps5
  go_wp2_with (first
    | (refine wpList_box rfl _ _ rfl cs rfl ?_; intro w1 f1 hlt1 hb1; have T1 := hid ((Ev.start w).new f1 (Res.On.blk hb1) (fun b hb => by simp [Res.blk] at hb; omega)); simp only [World.size_alloc, World.size_drew, Act.put, List.setIfInBounds_toArray, List.set_cons_succ, List.set_cons_zero])
    | (refine wpList_load_ag rfl _ _ rfl rfl cs hb1 flowAT clen cdt ?_; clear hb1; simp only [World.size_alloc, World.size_drew, Act.put, List.setIfInBounds_toArray, List.set_cons_succ, List.set_cons_zero])
    | (go_at_call 14; refine (HA.out _ f1).mono ?_; rintro e w2 ⟨rfl, f2⟩; have T2 := hid (T1.out.step f2); have hb2 := T2.out.held.blkAt 0 rfl; have g2 := Ev.nil T2.out; clear T1 f1 f2 HA hlt1)
    | (refine wpList_load_ag rfl _ _ rfl rfl cs hb2 flowAT clen cdt ?_; clear hb2; simp only [World.size_alloc, World.size_drew, Act.put, List.setIfInBounds_toArray, List.set_cons_succ, List.set_cons_zero])
    | (go_at_call 15; refine (HWi.out _ g2).mono ?_; rintro e w3 ⟨rfl, f3⟩; have T3 := hid (T2.out.step f3); clear f3 HWi T2 g2))
  obtain ⟨bb, hbb⟩ : ∃ bb, w.heap.size = bb := ⟨_, rfl⟩
  rw [hbb] at T3 ⊢
  clear hbb
  go_loopw [5] (fun iv wr => ∃ i : Nat, iv = .int .i64 (i : Int) ∧ i ≤ k ∧ Hid (Ev w [] wr [Res.blk bb cs])) (fun iv _ => k - (intOf iv).toNat)
  case atStart => exact ⟨0, rfl, Nat.zero_le _, T3⟩
  case round =>
    obtain ⟨i, rfl, hik, hE⟩ := hrel
    clear T3
    have T4 := hid (hE.out.step (Fr.refl [] wr).drew)
    clear hE
    by_cases hlk : i < k
    case pos =>
      have d1 : decide ((i : Int) < (A.size : Int)) = true := by simp; omega
      have d2 : decide (i < A.size) = true := by simp; omega
      have d3 : decide ((i : Int) < (B.size : Int)) = true := by simp; omega
      have d4 : decide (i < B.size) = true := by simp; omega
      have hxa : ∀ w0 : World, (Instr.index 9 (.string A) (.int .i64 (i : Int))).run Tryz.prog w0 = .ok (bt (g8 A.data.toList i)) w0 := fun w0 => index_str (P := Tryz.prog) w0 9 A .i64 i i Tryz.underlying9 rfl (by omega) 0
      have hxb : ∀ w0 : World, (Instr.index 9 (.string B) (.int .i64 (i : Int))).run Tryz.prog w0 = .ok (bt (g8 B.data.toList i)) w0 := fun w0 => index_str (P := Tryz.prog) w0 9 B .i64 i i Tryz.underlying9 rfl (by omega) 0
      rw [← HAt.out i hlk] at hxb
      generalize g8 A.data.toList i = XA at *
      go_wp2_with fail
      refine wp_region_D (fun _ => True) false [] (by kernel_rfl) ?_
      refine WD.pure [0, 1, 2, 3, 4, 5, 6, 7, 8, 9, 10, 11, 12, 13, 14, 15, 16, 17, 18] (by kernel_rfl) trivial ?_
      simp only [pick, List.toList_toArray, List.map_cons, List.map_nil, List.getD_cons_succ, List.getD_cons_zero]
      repeat (first | go_big_quiet_step (fail))
      refine wpQuiet_nil ?_
      refine WD.done (by kernel_rfl) ?_
      go_wp2_with fail
      go_roundw
      case rel => exact ⟨i + 1, by go_num, by omega, T4⟩
      case measure => simp [intOf]; omega
    case neg =>
      obtain rfl : k = i := by omega
      have d1 : decide ((k : Int) < (A.size : Int)) = true := by simp; omega
      have d2 : decide (k < A.size) = true := by simp; omega
      have d3 : decide ((k : Int) < (B.size : Int)) = false := by simp; omega
      have d4 : decide (k < B.size) = false := by simp; omega
      skip
      skip
      skip
      clear hlk HAt hmode
      go_wp2_with fail
      refine wp_region_D (fun _ => True) false [] (by kernel_rfl) ?_
      refine WD.pure [0, 1, 2, 3, 4, 5, 6, 7, 8, 9, 10, 11, 12, 13, 14, 15, 16, 17, 18] (by kernel_rfl) trivial ?_
      simp only [pick, List.toList_toArray, List.map_cons, List.map_nil, List.getD_cons_succ, List.getD_cons_zero]
      repeat (first | go_big_quiet_step (fail))
      refine wpQuiet_nil ?_
      refine WD.done (by kernel_rfl) ?_
      go_wp2_with fail
      clear d1 d2
      go_loopw [6, 7] (fun gv iv wq => ∃ i : Nat, i ≤ n ∧ iv = .int .i64 (i : Int) ∧ gv = .string (catB (l.take i)) ∧ wq = wr.drew) (fun _ iv _ => n - (intOf iv).toNat)
      case atStart => exact ⟨0, Nat.zero_le _, rfl, by simp [catB], rfl⟩
      case round =>
        obtain ⟨i, hi, rfl, rfl, rfl⟩ := hrel
        have k0 : wr.drew.cell? ⟨bb, 0, none⟩ = some (.slice la n lc) := ((T4.out.held.blkAt 0 rfl).cell 0).trans c0
        by_cases hli : i < n
        case pos =>
          have hd1 : decide (i < n) = true := by simp; omega
          obtain ⟨lb, off, rfl, _, hlb, hh, hcell⟩ := rc_at (HL.out.keep (Ev.nil T4.out) (by simp)) hli
          have hct := catB_take l i hh
          have hts := totN_mem l _ (List.getElem_mem hh)
          have hgs := catB_size (l.take i)
          have hgt := totN_take_le l i
          obtain ⟨t, ht⟩ : ∃ t, l[i] = t := ⟨_, rfl⟩
          obtain ⟨Gi, hGi⟩ : ∃ Gi, catB (l.take i) = Gi := ⟨_, rfl⟩
          rw [ht] at hcell hct hts
          rw [hGi] at hct hgs ⊢
          have hb2 : Gi.size + t.size ≤ 140737488355328 := by have := HTOT.out; omega
          have HCT := hid hct
          clear hct hgs hgt hts hGi ht
          go_wp2_with fail
          go_roundw
          case rel => exact ⟨i + 1, by omega, by go_num, by rw [HCT.out], by first | rfl | trivial⟩
          case measure => simp [intOf]; omega
        case neg =>
          have hd1 : decide (i < n) = false := by simp; omega
          have hin : i = n := by omega
          subst hin
          have etk : l.take i = l := by rw [← HLN.out]; exact List.take_length
          rw [etk]
          have hGz := catB_size l
          obtain ⟨G, hG⟩ : ∃ G, catB l = G := ⟨_, rfl⟩
          rw [hG] at HFe hGz ⊢
          have HGz := hid (show G.size ≤ 32768 by have := HTOT.out; omega)
          have g4 := Ev.nil T4.out
          have HFo2 := hid (HFo.out _ g4)
          clear etk hG hGz HL HTOT HLN HFo hi hli
          cases hF : forgedS A B with
          | true =>
            rw [hF] at HFo2
            clear HFe
            go_wp2_with (first
              | (go_at_call 20; refine HFo2.out.mono ?_; rintro e w5 ⟨rfl, f5⟩; have g5 := g4.trans' f5)
              | (go_at_call 7; refine (HW.out _ g5).mono ?_; rintro e w6 ⟨rfl, f6⟩; have g6 := g5.trans' f6))
            go_ret
            exact ⟨rfl, g6⟩
          | false =>
            rw [hF] at HFo2
            have HFd := hid fun (got : ByteArray) (S : CHS) (hf : FD K B S got) => HFe.out got S hf hF
            clear HFe hF
            go_wp2_with (first
              | (go_at_call 20; refine HFo2.out.mono ?_; rintro e w5 ⟨rfl, f5⟩; have T5 := hid (T4.out.step f5); clear f5 g4 HFo2 T4)
              | (go_at_call 16; refine (HM.out _).mono ?_; rintro e w6 ⟨rfl, f6⟩; have T6 := hid (T5.out.step f6); have g6 := Ev.nil T6.out; clear f6 T5)
              | (go_at_call 8; refine (HC.out _ g6).mono ?_; rintro e w7 ⟨cb, s, o, rfl, E7⟩; have T7 := hid (two_n T6.out E7); clear E7 T6 g6 HC))
            go_loopw [4, 10, 11] (fun lv gv iv wr => ∃ (i : Nat) (rest D got : ByteArray) (S : CHS), i ≤ m + 1 ∧ iv = .int .i64 (i : Int) ∧ lv = .string rest ∧ gv = .string got ∧ Hid (FD K D S got) ∧ Hid (D ++ rest = B) ∧ Hid (i = m + 1 → rest = ⟨#[]⟩) ∧ Hid (Ev w [] wr (chR cb s o K S ++ [Res.blk bb cs]))) (fun _ _ iv _ => m + 1 - (intOf iv).toNat)
            case atStart => exact ⟨0, B, ⟨#[]⟩, ⟨#[]⟩, CHS.init, Nat.zero_le _, rfl, rfl, rfl, hid (FD.start K), hid (bempty_app B), hid (fun h => by omega), T7⟩
            case round =>
              obtain ⟨i, rest, D, got, S, hi, rfl, rfl, rfl, HFD, HDB, HEN, hE⟩ := hrel
              clear T7 k0
              have hbx : Blk wr bb cs := (tri_hb' hE.out).blkAt 0 rfl
              have k1 : wr.cell? ⟨bb, 1, none⟩ = some (.slice ua m uc) := (hbx.cell 1).trans c1
              by_cases him : i ≤ m
              case neg =>
                have hd1 : decide (i ≤ m) = false := by simp; omega
                have er := HEN.out (by omega)
                have eB : D = B := by have := HDB.out; rw [er, app_bempty] at this; exact this
                rw [eB] at HFD
                obtain ⟨em, Z, eZ⟩ := HFd.out got S HFD.out
                have hle : got.size ≤ G.size := by rw [eZ, ByteArray.size_append]; omega
                have hle1 : decide (got.size ≤ G.size) = true := by simp; omega
                have hle2 : decide ((got.size : Int) ≤ (G.size : Int)) = true := by simp; omega
                have hx : G.extract 0 got.size = got := by rw [eZ]; exact ext_self got Z
                have hy : (got.toList == (G.extract 0 got.size).toList) = true := by rw [hx]; exact str_beq got
                have hz : (got.toList == got.toList) = true := str_beq got
                obtain ⟨P, hP⟩ : ∃ P, A.extract 0 k = P := ⟨_, rfl⟩
                have hPs : P.size ≤ 600000 := by rw [← hP, ByteArray.size_extract]; omega
                have HP := hid hP
                have HT3 := hid fun (w1 : World) (p : Nat) (h1 : Held w1 [Res.blk p (docL K CHS.init)]) => dtake_all h1 KK (fun _ => rfl) P (by show 0 + _ ≤ _; omega)
                have eo : (tkC K CHS.init P).out = got := by
                  unfold tkC
                  rw [show CHS.init.cl = false from rfl, show CHS.init.held = ⟨#[]⟩ from rfl, bempty_app]
                  rw [em, hP]
                  rfl
                rw [eo] at HT3
                generalize (tkC K CHS.init P).c = tc at *
                generalize tkN K CHS.init P = SP at *
                have g8' := Ev.nil hE.out
                clear em eZ hx eo hP hPs HFd HPc hE hbx er eB HEN HDB HFD HPl
                go_wp2_with (first
                  | (go_at_call 16; refine (HM.out _).mono ?_; rintro e w9 ⟨rfl, f9⟩; have g9 := g8'.trans' f9; clear f9)
                  | (go_at_call 9; refine (HD.out _ g9).mono ?_; rintro e w10 ⟨p, rfl, E10⟩; have T10 := hid (Ev.trans ((Ev.start w).step g9) E10); clear E10 HD)
                  | (go_at_call 19; rw [HP.out]; refine (HT3.out _ _ T10.out.held).mono ?_; rintro e w11 ⟨rfl, h11⟩; have g11 := Ev.nil (Ev.trans T10.out h11); clear h11 HT3)
                  | (go_at_call 7; refine (HW.out _ g11).mono ?_; rintro e w12 ⟨rfl, f12⟩; have g12 := g11.trans' f12))
                go_ret
                exact ⟨rfl, g12⟩
              case pos =>
                have hd1 : decide (i ≤ m) = true := by simp; omega
                have HPi := hid (HPc.out wr (Ev.nil hE.out) i (by omega) rest)
                have hq0 := pieceN_le ms i rest
                have hql : i = m → pieceN ms i rest = rest.size := fun h => by rw [h]; exact HPl.out rest
                obtain ⟨q, hq⟩ : ∃ q, pieceN ms i rest = q := ⟨_, rfl⟩
                rw [hq] at HPi hq0 hql
                clear hq HPc
                have hqi : (q : Int) ≤ (rest.size : Int) := by omega
                obtain ⟨hs1, hs2, hs3⟩ := HFD.out.sz
                have hDB := congrArg ByteArray.size HDB.out
                rw [ByteArray.size_append] at hDB
                obtain ⟨P, hP⟩ : ∃ P, rest.extract 0 q = P := ⟨_, rfl⟩
                obtain ⟨Z, hZ⟩ : ∃ Z, rest.extract q rest.size = Z := ⟨_, rfl⟩
                have hPs : P.size = q := by rw [← hP, ByteArray.size_extract]; omega
                have hPZ : P ++ Z = rest := by rw [← hP, ← hZ]; exact psplit rest q hq0
                have hrb : rest.size ≤ 600000 := by omega
                have HDB' := hid (show (D ++ P) ++ Z = B by rw [ByteArray.append_assoc, hPZ]; exact HDB.out)
                have HEN' := hid (show i + 1 = m + 1 → Z = ⟨#[]⟩ from fun h => emp (by rw [← hZ, ByteArray.size_extract]; have := hql (by omega); omega))
                have HT := hid fun (w1 : World) (h1 : Held w1 (chR cb s o K S)) => ctake_all h1 KK hs3 P (by omega)
                have hfd := HFD.out.go P
                have hcl := fun h => tkN_cl K S P h
                have hgz := hfd.sz.2.1
                rw [ByteArray.size_append, ByteArray.size_append] at hgz
                obtain ⟨S', hS'⟩ : ∃ S', tkN K S P = S' := ⟨_, rfl⟩
                obtain ⟨T, hT⟩ : ∃ T, tkC K S P = T := ⟨_, rfl⟩
                rw [hS'] at HT hfd hcl
                rw [hT] at HT hfd hcl hgz
                obtain ⟨to_, hto⟩ : ∃ v, T.out = v := ⟨_, rfl⟩
                obtain ⟨tc, htc⟩ : ∃ v, T.c = v := ⟨_, rfl⟩
                rw [hto] at HT hfd hgz
                rw [htc] at HT hcl
                have hgb : got.size + to_.size ≤ 140737488355328 := by omega
                have HP := hid hP
                have HZ := hid hZ
                have HFD' := hid hfd
                have HCL := hid hcl
                clear hS' hT hto htc hP hZ hPs hPZ hs1 hs2 hs3 hDB hfd hcl hgz hql HFd HFD HDB HEN
                by_cases hc0 : tc = 0
                case pos =>
                  subst hc0
                  clear HCL
                  go_wp2_with (first
                    | (refine wpList_load_ag rfl _ _ rfl rfl cs hbx flowAT clen cdt ?_; clear hbx; simp only [World.size_alloc, World.size_drew, Act.put, List.setIfInBounds_toArray, List.set_cons_succ, List.set_cons_zero])
                    | (go_at_call 17; refine HPi.out.mono ?_; rintro e w2 ⟨rfl, f2⟩; have T2 := hid (hE.out.step f2); clear HPi f2)
                    | (go_at_call 18; rw [HP.out]; refine (HT.out _ (two_hb T2.out)).mono ?_; rintro e w3 ⟨rfl, h3⟩; have T3 := hid (two_b T2.out h3); clear h3 HT T2 hE))
                  go_roundw
                  case rel => exact ⟨i + 1, Z, D ++ P, got ++ to_, S', by omega, by go_num, by rw [HZ.out], rfl, HFD', HDB', HEN', T3⟩
                  case measure => simp [intOf]; omega
                case neg =>
                  have hne : (tc != 0) = true := by simpa using hc0
                  have HC1 := hid fun (w1 : World) (h1 : Held w1 (chR cb s o K S')) => cclosed_any h1
                  rw [HCL.out hc0] at HC1
                  clear HCL hc0
                  go_wp2_with (first
                    | (refine wpList_load_ag rfl _ _ rfl rfl cs hbx flowAT clen cdt ?_; clear hbx; simp only [World.size_alloc, World.size_drew, Act.put, List.setIfInBounds_toArray, List.set_cons_succ, List.set_cons_zero])
                    | (go_at_call 17; refine HPi.out.mono ?_; rintro e w2 ⟨rfl, f2⟩; have T2 := hid (hE.out.step f2); clear HPi f2)
                    | (go_at_call 18; rw [HP.out]; refine (HT.out _ (two_hb T2.out)).mono ?_; rintro e w3 ⟨rfl, h3⟩; have T3 := hid (two_b T2.out h3); clear h3 HT T2 hE)
                    | (go_at_call 12; refine (HC1.out _ (two_hb T3.out)).mono ?_; rintro e w4 ⟨rfl, e4⟩; have e4' := hid e4; rw [e4'.out]; clear e4 HC1))
                  go_roundw
                  case rel => exact ⟨i + 1, Z, D ++ P, got ++ to_, S', by omega, by go_num, by rw [HZ.out], rfl, HFD', HDB', HEN', T3⟩
                  case measure => simp [intOf]; omega
set_option maxRecDepth 20000 in
set_option maxHeartbeats 8000000 in
theorem prefix_3 (h : FL w tv pv l ms LT LP) (tb : TB w) (at_ cut : Int) (ha : -9223372036854775808 ≤ at_ ∧ at_ ≤ 9223372036854775807) (hcu : 0 ≤ cut ∧ cut ≤ 65535) (more : ByteArray) (conn : UInt64) (sec : UInt8) (hA : fheavyS l ms more = false) (A B : ByteArray) (k : Nat) (hXA : sentS l = A) (hXB : comesS A more at_ cut = B) (hk : cpl A B = k) (hmode : k < A.size ∧ k < B.size ∧ g8 A.data.toList k ≠ g8 B.data.toList k) :
    Calls Tryz.prog 5 #[.agg (flowV tv pv at_ cut more conn sec).toArray] w fun e w' => e = .returned (.bool true) ∧ Fr [] w w' := by
  obtain ⟨l12, ltot, m200, mo2⟩ := fheavy_no hA
  obtain ⟨la, lc, rfl⟩ := h.t.isSlice
  obtain ⟨ua, uc, rfl⟩ := h.p.isSlice
  have HA := hid fun (w1 : World) (f : Fr [] w w1) => fheavy_any (h.keep f) at_ cut more conn sec
  have HWi := hid fun (w1 : World) (f : Fr [] w w1) => wire_any (h.keep f) (tb.keep f) at_ cut ha hcu more conn sec l12 ltot mo2
  have HPc := hid fun (w1 : World) (f : Fr [] w w1) (i : Nat) (hi : i ≤ 1000) (X : ByteArray) => piece_any (h.keep f) at_ cut more conn sec i hi X
  have HW := hid fun (w1 : World) (f : Fr [] w w1) => cworks_any (tb.keep f)
  have hAz := sentS_size l l12 ltot
  have hBz := comesS_size (sentS l) more at_ cut hAz mo2
  have HFe := hid fun (got : ByteArray) (S : CHS) (hf : FD flowR B S got) (hF : forgedS A B = false) => by
    have := fd_end (l := l) hf (by rw [hXA]; exact hF)
    rw [hXA, hk] at this
    exact this
  rw [hXA, hXB] at HWi
  rw [hXA] at hAz
  rw [hXA, hXB] at hBz
  have HFo := hid fun (w1 : World) (f : Fr [] w w1) => forged_any (tb.keep f) A B (by omega) hBz
  have HM := hid fun w1 : World => master_any w1 0
  have hmk := kmS_size 0
  rw [show bt 0 = Value.int .u8 0 from rfl] at HM
  have HC := hid fun (w1 : World) (f : Fr [] w w1) => cnew_any (kmS 0) 7 true w1 (tb.keep f) hmk
  have HD := hid fun (w1 : World) (f : Fr [] w w1) => dnew_any (kmS 0) 7 true w1 (tb.keep f) hmk
  rw [show W64 7 = Value.int .u64 7 from rfl, show chOf (kmS 0) 7 true = flowR from rfl] at HC HD
  have KK : KOk flowR := chOf_ok _ _ _
  generalize flowR = K at *
  generalize kmS 0 = mk at *
  rw [hA] at HA
  have HL := hid h.t
  have HTOT := hid ltot
  obtain ⟨n, hn⟩ : ∃ n, l.length = n := ⟨_, rfl⟩
  obtain ⟨m, hm⟩ : ∃ n, ms.length = n := ⟨_, rfl⟩
  have HLN := hid hn
  have hn12 : n ≤ 12 := by omega
  rw [hn, hm] at HA HWi HPc ⊢
  rw [hn] at HL
  rw [hm] at m200
  obtain ⟨cs, hcs⟩ : ∃ cs : List Value, flowV (.slice la n lc) (.slice ua m uc) at_ cut more conn sec = cs := ⟨_, rfl⟩
  have c0 : cs[0]? = some (.slice la n lc) := by rw [← hcs]; rfl
  have c1 : cs[1]? = some (.slice ua m uc) := by rw [← hcs]; rfl
  have clen : cs.length = 7 := by rw [← hcs]; rfl
  have cdt : (cs.drop 0).take 7 = cs := by rw [← hcs]; rfl
  rw [hcs] at HA HWi HPc ⊢
  have hcpl := cpl_le A B
  have HAt := hid fun i : Nat => @cpl_at A B i
  rw [hk] at HAt hcpl
  obtain ⟨hkA, hkB⟩ := hcpl
  have hmm := hid (show ∀ i, i ≤ m → pieceN ms i = pieceN ms i from fun _ _ => rfl)
  have HPl := hid (show ∀ X, pieceN ms m X = X.size from fun X => by unfold pieceN; rw [if_pos (by omega)])
  clear h tb hA hn hm hcs ltot l12 mo2 hmk ha hcu hXA hXB hk hmm
  go_enter Tryz.func5, Tryz.ntmps5
  go_wp2_with (first
    | (refine wpList_box rfl _ _ rfl cs rfl ?_; intro w1 f1 hlt1 hb1; have T1 := hid ((Ev.start w).new f1 (Res.On.blk hb1) (fun b hb => by simp [Res.blk] at hb; omega)); simp only [World.size_alloc, World.size_drew, Act.put, List.setIfInBounds_toArray, List.set_cons_succ, List.set_cons_zero])
    | (refine wpList_load_ag rfl _ _ rfl rfl cs hb1 flowAT clen cdt ?_; clear hb1; simp only [World.size_alloc, World.size_drew, Act.put, List.setIfInBounds_toArray, List.set_cons_succ, List.set_cons_zero])
    | (go_at_call 14; refine (HA.out _ f1).mono ?_; rintro e w2 ⟨rfl, f2⟩; have T2 := hid (T1.out.step f2); have hb2 := T2.out.held.blkAt 0 rfl; have g2 := Ev.nil T2.out; clear T1 f1 f2 HA hlt1)
    | (refine wpList_load_ag rfl _ _ rfl rfl cs hb2 flowAT clen cdt ?_; clear hb2; simp only [World.size_alloc, World.size_drew, Act.put, List.setIfInBounds_toArray, List.set_cons_succ, List.set_cons_zero])
    | (go_at_call 15; refine (HWi.out _ g2).mono ?_; rintro e w3 ⟨rfl, f3⟩; have T3 := hid (T2.out.step f3); clear f3 HWi T2 g2))
  obtain ⟨bb, hbb⟩ : ∃ bb, w.heap.size = bb := ⟨_, rfl⟩
  rw [hbb] at T3 ⊢
  clear hbb
  go_loopw [5] (fun iv wr => ∃ i : Nat, iv = .int .i64 (i : Int) ∧ i ≤ k ∧ Hid (Ev w [] wr [Res.blk bb cs])) (fun iv _ => k - (intOf iv).toNat)
  case atStart => exact ⟨0, rfl, Nat.zero_le _, T3⟩
  case round =>
    obtain ⟨i, rfl, hik, hE⟩ := hrel
    clear T3
    have T4 := hid (hE.out.step (Fr.refl [] wr).drew)
    clear hE
    by_cases hlk : i < k
    case pos =>
      have d1 : decide ((i : Int) < (A.size : Int)) = true := by simp; omega
      have d2 : decide (i < A.size) = true := by simp; omega
      have d3 : decide ((i : Int) < (B.size : Int)) = true := by simp; omega
      have d4 : decide (i < B.size) = true := by simp; omega
      have hxa : ∀ w0 : World, (Instr.index 9 (.string A) (.int .i64 (i : Int))).run Tryz.prog w0 = .ok (bt (g8 A.data.toList i)) w0 := fun w0 => index_str (P := Tryz.prog) w0 9 A .i64 i i Tryz.underlying9 rfl (by omega) 0
      have hxb : ∀ w0 : World, (Instr.index 9 (.string B) (.int .i64 (i : Int))).run Tryz.prog w0 = .ok (bt (g8 B.data.toList i)) w0 := fun w0 => index_str (P := Tryz.prog) w0 9 B .i64 i i Tryz.underlying9 rfl (by omega) 0
      rw [← HAt.out i hlk] at hxb
      generalize g8 A.data.toList i = XA at *
      go_wp2_with fail
      refine wp_region_D (fun _ => True) false [] (by kernel_rfl) ?_
      refine WD.pure [0, 1, 2, 3, 4, 5, 6, 7, 8, 9, 10, 11, 12, 13, 14, 15, 16, 17, 18] (by kernel_rfl) trivial ?_
      simp only [pick, List.toList_toArray, List.map_cons, List.map_nil, List.getD_cons_succ, List.getD_cons_zero]
      repeat (first | go_big_quiet_step (fail))
      refine wpQuiet_nil ?_
      refine WD.done (by kernel_rfl) ?_
      go_wp2_with fail
      go_roundw
      case rel => exact ⟨i + 1, by go_num, by omega, T4⟩
      case measure => simp [intOf]; omega
    case neg =>
      obtain rfl : k = i := by omega
      have d1 : decide ((k : Int) < (A.size : Int)) = true := by simp; omega
      have d2 : decide (k < A.size) = true := by simp; omega
      have d3 : decide ((k : Int) < (B.size : Int)) = true := by simp; omega
      have d4 : decide (k < B.size) = true := by simp; omega
      have hxa : ∀ w0 : World, (Instr.index 9 (.string A) (.int .i64 (k : Int))).run Tryz.prog w0 = .ok (bt (g8 A.data.toList k)) w0 := fun w0 => index_str (P := Tryz.prog) w0 9 A .i64 k k Tryz.underlying9 rfl (by omega) 0
      have hxb : ∀ w0 : World, (Instr.index 9 (.string B) (.int .i64 (k : Int))).run Tryz.prog w0 = .ok (bt (g8 B.data.toList k)) w0 := fun w0 => index_str (P := Tryz.prog) w0 9 B .i64 k k Tryz.underlying9 rfl (by omega) 0
      have hq : (g8 A.data.toList k == g8 B.data.toList k) = false := by simpa using hmode.2.2
      clear hlk HAt hmode
      go_wp2_with fail
      refine wp_region_D (fun _ => True) false [] (by kernel_rfl) ?_
      refine WD.pure [0, 1, 2, 3, 4, 5, 6, 7, 8, 9, 10, 11, 12, 13, 14, 15, 16, 17, 18] (by kernel_rfl) trivial ?_
      simp only [pick, List.toList_toArray, List.map_cons, List.map_nil, List.getD_cons_succ, List.getD_cons_zero]
      repeat (first | go_big_quiet_step (fail))
      refine wpQuiet_nil ?_
      refine WD.done (by kernel_rfl) ?_
      go_wp2_with fail
      clear d1 d2
      go_loopw [6, 7] (fun gv iv wq => ∃ i : Nat, i ≤ n ∧ iv = .int .i64 (i : Int) ∧ gv = .string (catB (l.take i)) ∧ wq = wr.drew) (fun _ iv _ => n - (intOf iv).toNat)
      case atStart => exact ⟨0, Nat.zero_le _, rfl, by simp [catB], rfl⟩
      case round =>
        obtain ⟨i, hi, rfl, rfl, rfl⟩ := hrel
        have k0 : wr.drew.cell? ⟨bb, 0, none⟩ = some (.slice la n lc) := ((T4.out.held.blkAt 0 rfl).cell 0).trans c0
        by_cases hli : i < n
        case pos =>
          have hd1 : decide (i < n) = true := by simp; omega
          obtain ⟨lb, off, rfl, _, hlb, hh, hcell⟩ := rc_at (HL.out.keep (Ev.nil T4.out) (by simp)) hli
          have hct := catB_take l i hh
          have hts := totN_mem l _ (List.getElem_mem hh)
          have hgs := catB_size (l.take i)
          have hgt := totN_take_le l i
          obtain ⟨t, ht⟩ : ∃ t, l[i] = t := ⟨_, rfl⟩
          obtain ⟨Gi, hGi⟩ : ∃ Gi, catB (l.take i) = Gi := ⟨_, rfl⟩
          rw [ht] at hcell hct hts
          rw [hGi] at hct hgs ⊢
          have hb2 : Gi.size + t.size ≤ 140737488355328 := by have := HTOT.out; omega
          have HCT := hid hct
          clear hct hgs hgt hts hGi ht
          go_wp2_with fail
          go_roundw
          case rel => exact ⟨i + 1, by omega, by go_num, by rw [HCT.out], by first | rfl | trivial⟩
          case measure => simp [intOf]; omega
        case neg =>
          have hd1 : decide (i < n) = false := by simp; omega
          have hin : i = n := by omega
          subst hin
          have etk : l.take i = l := by rw [← HLN.out]; exact List.take_length
          rw [etk]
          have hGz := catB_size l
          obtain ⟨G, hG⟩ : ∃ G, catB l = G := ⟨_, rfl⟩
          rw [hG] at HFe hGz ⊢
          have HGz := hid (show G.size ≤ 32768 by have := HTOT.out; omega)
          have g4 := Ev.nil T4.out
          have HFo2 := hid (HFo.out _ g4)
          clear etk hG hGz HL HTOT HLN HFo hi hli
          cases hF : forgedS A B with
          | true =>
            rw [hF] at HFo2
            clear HFe
            go_wp2_with (first
              | (go_at_call 20; refine HFo2.out.mono ?_; rintro e w5 ⟨rfl, f5⟩; have g5 := g4.trans' f5)
              | (go_at_call 7; refine (HW.out _ g5).mono ?_; rintro e w6 ⟨rfl, f6⟩; have g6 := g5.trans' f6))
            go_ret
            exact ⟨rfl, g6⟩
          | false =>
            rw [hF] at HFo2
            have HFd := hid fun (got : ByteArray) (S : CHS) (hf : FD K B S got) => HFe.out got S hf hF
            clear HFe hF
            go_wp2_with (first
              | (go_at_call 20; refine HFo2.out.mono ?_; rintro e w5 ⟨rfl, f5⟩; have T5 := hid (T4.out.step f5); clear f5 g4 HFo2 T4)
              | (go_at_call 16; refine (HM.out _).mono ?_; rintro e w6 ⟨rfl, f6⟩; have T6 := hid (T5.out.step f6); have g6 := Ev.nil T6.out; clear f6 T5)
              | (go_at_call 8; refine (HC.out _ g6).mono ?_; rintro e w7 ⟨cb, s, o, rfl, E7⟩; have T7 := hid (two_n T6.out E7); clear E7 T6 g6 HC))
            go_loopw [4, 10, 11] (fun lv gv iv wr => ∃ (i : Nat) (rest D got : ByteArray) (S : CHS), i ≤ m + 1 ∧ iv = .int .i64 (i : Int) ∧ lv = .string rest ∧ gv = .string got ∧ Hid (FD K D S got) ∧ Hid (D ++ rest = B) ∧ Hid (i = m + 1 → rest = ⟨#[]⟩) ∧ Hid (Ev w [] wr (chR cb s o K S ++ [Res.blk bb cs]))) (fun _ _ iv _ => m + 1 - (intOf iv).toNat)
            case atStart => exact ⟨0, B, ⟨#[]⟩, ⟨#[]⟩, CHS.init, Nat.zero_le _, rfl, rfl, rfl, hid (FD.start K), hid (bempty_app B), hid (fun h => by omega), T7⟩
            case round =>
              obtain ⟨i, rest, D, got, S, hi, rfl, rfl, rfl, HFD, HDB, HEN, hE⟩ := hrel
              clear T7 k0
              have hbx : Blk wr bb cs := (tri_hb' hE.out).blkAt 0 rfl
              have k1 : wr.cell? ⟨bb, 1, none⟩ = some (.slice ua m uc) := (hbx.cell 1).trans c1
              by_cases him : i ≤ m
              case neg =>
                have hd1 : decide (i ≤ m) = false := by simp; omega
                have er := HEN.out (by omega)
                have eB : D = B := by have := HDB.out; rw [er, app_bempty] at this; exact this
                rw [eB] at HFD
                obtain ⟨em, Z, eZ⟩ := HFd.out got S HFD.out
                have hle : got.size ≤ G.size := by rw [eZ, ByteArray.size_append]; omega
                have hle1 : decide (got.size ≤ G.size) = true := by simp; omega
                have hle2 : decide ((got.size : Int) ≤ (G.size : Int)) = true := by simp; omega
                have hx : G.extract 0 got.size = got := by rw [eZ]; exact ext_self got Z
                have hy : (got.toList == (G.extract 0 got.size).toList) = true := by rw [hx]; exact str_beq got
                have hz : (got.toList == got.toList) = true := str_beq got
                obtain ⟨P, hP⟩ : ∃ P, A.extract 0 k = P := ⟨_, rfl⟩
                have hPs : P.size ≤ 600000 := by rw [← hP, ByteArray.size_extract]; omega
                have HP := hid hP
                have HT3 := hid fun (w1 : World) (p : Nat) (h1 : Held w1 [Res.blk p (docL K CHS.init)]) => dtake_all h1 KK (fun _ => rfl) P (by show 0 + _ ≤ _; omega)
                have eo : (tkC K CHS.init P).out = got := by
                  unfold tkC
                  rw [show CHS.init.cl = false from rfl, show CHS.init.held = ⟨#[]⟩ from rfl, bempty_app]
                  rw [em, hP]
                  rfl
                rw [eo] at HT3
                generalize (tkC K CHS.init P).c = tc at *
                generalize tkN K CHS.init P = SP at *
                have g8' := Ev.nil hE.out
                clear em eZ hx eo hP hPs HFd HPc hE hbx er eB HEN HDB HFD HPl
                go_wp2_with (first
                  | (go_at_call 16; refine (HM.out _).mono ?_; rintro e w9 ⟨rfl, f9⟩; have g9 := g8'.trans' f9; clear f9)
                  | (go_at_call 9; refine (HD.out _ g9).mono ?_; rintro e w10 ⟨p, rfl, E10⟩; have T10 := hid (Ev.trans ((Ev.start w).step g9) E10); clear E10 HD)
                  | (go_at_call 19; rw [HP.out]; refine (HT3.out _ _ T10.out.held).mono ?_; rintro e w11 ⟨rfl, h11⟩; have g11 := Ev.nil (Ev.trans T10.out h11); clear h11 HT3)
                  | (go_at_call 7; refine (HW.out _ g11).mono ?_; rintro e w12 ⟨rfl, f12⟩; have g12 := g11.trans' f12))
                go_ret
                exact ⟨rfl, g12⟩
              case pos =>
                have hd1 : decide (i ≤ m) = true := by simp; omega
                have HPi := hid (HPc.out wr (Ev.nil hE.out) i (by omega) rest)
                have hq0 := pieceN_le ms i rest
                have hql : i = m → pieceN ms i rest = rest.size := fun h => by rw [h]; exact HPl.out rest
                obtain ⟨q, hq⟩ : ∃ q, pieceN ms i rest = q := ⟨_, rfl⟩
                rw [hq] at HPi hq0 hql
                clear hq HPc
                have hqi : (q : Int) ≤ (rest.size : Int) := by omega
                obtain ⟨hs1, hs2, hs3⟩ := HFD.out.sz
                have hDB := congrArg ByteArray.size HDB.out
                rw [ByteArray.size_append] at hDB
                obtain ⟨P, hP⟩ : ∃ P, rest.extract 0 q = P := ⟨_, rfl⟩
                obtain ⟨Z, hZ⟩ : ∃ Z, rest.extract q rest.size = Z := ⟨_, rfl⟩
                have hPs : P.size = q := by rw [← hP, ByteArray.size_extract]; omega
                have hPZ : P ++ Z = rest := by rw [← hP, ← hZ]; exact psplit rest q hq0
                have hrb : rest.size ≤ 600000 := by omega
                have HDB' := hid (show (D ++ P) ++ Z = B by rw [ByteArray.append_assoc, hPZ]; exact HDB.out)
                have HEN' := hid (show i + 1 = m + 1 → Z = ⟨#[]⟩ from fun h => emp (by rw [← hZ, ByteArray.size_extract]; have := hql (by omega); omega))
                have HT := hid fun (w1 : World) (h1 : Held w1 (chR cb s o K S)) => ctake_all h1 KK hs3 P (by omega)
                have hfd := HFD.out.go P
                have hcl := fun h => tkN_cl K S P h
                have hgz := hfd.sz.2.1
                rw [ByteArray.size_append, ByteArray.size_append] at hgz
                obtain ⟨S', hS'⟩ : ∃ S', tkN K S P = S' := ⟨_, rfl⟩
                obtain ⟨T, hT⟩ : ∃ T, tkC K S P = T := ⟨_, rfl⟩
                rw [hS'] at HT hfd hcl
                rw [hT] at HT hfd hcl hgz
                obtain ⟨to_, hto⟩ : ∃ v, T.out = v := ⟨_, rfl⟩
                obtain ⟨tc, htc⟩ : ∃ v, T.c = v := ⟨_, rfl⟩
                rw [hto] at HT hfd hgz
                rw [htc] at HT hcl
                have hgb : got.size + to_.size ≤ 140737488355328 := by omega
                have HP := hid hP
                have HZ := hid hZ
                have HFD' := hid hfd
                have HCL := hid hcl
                clear hS' hT hto htc hP hZ hPs hPZ hs1 hs2 hs3 hDB hfd hcl hgz hql HFd HFD HDB HEN
                by_cases hc0 : tc = 0
                case pos =>
                  subst hc0
                  clear HCL
                  go_wp2_with (first
                    | (refine wpList_load_ag rfl _ _ rfl rfl cs hbx flowAT clen cdt ?_; clear hbx; simp only [World.size_alloc, World.size_drew, Act.put, List.setIfInBounds_toArray, List.set_cons_succ, List.set_cons_zero])
                    | (go_at_call 17; refine HPi.out.mono ?_; rintro e w2 ⟨rfl, f2⟩; have T2 := hid (hE.out.step f2); clear HPi f2)
                    | (go_at_call 18; rw [HP.out]; refine (HT.out _ (two_hb T2.out)).mono ?_; rintro e w3 ⟨rfl, h3⟩; have T3 := hid (two_b T2.out h3); clear h3 HT T2 hE))
                  go_roundw
                  case rel => exact ⟨i + 1, Z, D ++ P, got ++ to_, S', by omega, by go_num, by rw [HZ.out], rfl, HFD', HDB', HEN', T3⟩
                  case measure => simp [intOf]; omega
                case neg =>
                  have hne : (tc != 0) = true := by simpa using hc0
                  have HC1 := hid fun (w1 : World) (h1 : Held w1 (chR cb s o K S')) => cclosed_any h1
                  rw [HCL.out hc0] at HC1
                  clear HCL hc0
                  go_wp2_with (first
                    | (refine wpList_load_ag rfl _ _ rfl rfl cs hbx flowAT clen cdt ?_; clear hbx; simp only [World.size_alloc, World.size_drew, Act.put, List.setIfInBounds_toArray, List.set_cons_succ, List.set_cons_zero])
                    | (go_at_call 17; refine HPi.out.mono ?_; rintro e w2 ⟨rfl, f2⟩; have T2 := hid (hE.out.step f2); clear HPi f2)
                    | (go_at_call 18; rw [HP.out]; refine (HT.out _ (two_hb T2.out)).mono ?_; rintro e w3 ⟨rfl, h3⟩; have T3 := hid (two_b T2.out h3); clear h3 HT T2 hE)
                    | (go_at_call 12; refine (HC1.out _ (two_hb T3.out)).mono ?_; rintro e w4 ⟨rfl, e4⟩; have e4' := hid e4; rw [e4'.out]; clear e4 HC1))
                  go_roundw
                  case rel => exact ⟨i + 1, Z, D ++ P, got ++ to_, S', by omega, by go_num, by rw [HZ.out], rfl, HFD', HDB', HEN', T3⟩
                  case measure => simp [intOf]; omega
theorem prefix_walk (h : FL w tv pv l ms LT LP) (tb : TB w) (at_ cut : Int) (ha : -9223372036854775808 ≤ at_ ∧ at_ ≤ 9223372036854775807) (hcu : 0 ≤ cut ∧ cut ≤ 65535) (more : ByteArray) (conn : UInt64) (sec : UInt8) :
    Calls Tryz.prog 5 #[.agg (flowV tv pv at_ cut more conn sec).toArray] w fun e w' => e = .returned (.bool true) ∧ Fr [] w w' := by
  cases hA : fheavyS l ms more with
  | true => exact prefix_h1 h tb at_ cut more conn sec hA
  | false =>
    rcases cpl_mode (sentS l) (comesS (sentS l) more at_ cut) with hm | hm | hm
    · exact prefix_1 h tb at_ cut ha hcu more conn sec hA _ _ _ rfl rfl rfl hm
    · exact prefix_2 h tb at_ cut ha hcu more conn sec hA _ _ _ rfl rfl rfl hm
    · exact prefix_3 h tb at_ cut ha hcu more conn sec hA _ _ _ rfl rfl rfl hm
end
end Go.Proofs.YtneoagelcjfanaaGreatDoor.chn
