/- Layer 22: passes. -/
import Derived.Test.YtneoagelcjfanaaDoorChO
namespace Go.Proofs.YtneoagelcjfanaaDoor.chn
open Go Go.Xr Go.RowKit Go.Proofs.YtneoagelcjfanaaDoor Go.Proofs.YtneoagelcjfanaaDoor.rcd
set_option linter.unusedVariables false
set_option linter.unusedSimpArgs false
theorem two_swap {w0 w : World} {X Y : List Res} (a : Ev w0 [] w (X ++ Y)) : Ev w0 [] w (Y ++ X) :=
  ⟨a.held.perm List.perm_append_comm, a.fr, fun b hb => a.low b (by
    simp only [feetOf, List.flatMap_append, List.mem_append] at hb ⊢
    exact hb.symm)⟩
theorem chan_mono {w0 w : World} {X Y X' : List Res} (a : Ev w0 [] w (X ++ Y)) (h : X = X') : Ev w0 [] w (X' ++ Y) := h ▸ a
/-- What of the wire is still to come, i rounds on. -/
structure PJ (A B : CH) (ns : UInt64) (cs : List ByteArray) (m i j : Nat) (H rest got : ByteArray) : Prop where
  le : j ≤ cs.length
  wire : H ++ rest = wir A (ns + UInt64.ofNat j) (cs.drop j)
  got : got = catB (cs.take j)
  fin : i = m + 1 → rest = ⟨#[]⟩ ∧ H = ⟨#[]⟩ ∧ j = cs.length
theorem split_at (X : ByteArray) (n : Nat) (hn : n ≤ X.size) : X.extract 0 n ++ X.extract n X.size = X := by
  apply ByteArray.ext
  simp only [ByteArray.data_append, ByteArray.data_extract]
  rw [Array.extract_append_extract, Nat.min_eq_left (Nat.zero_le _), Nat.max_eq_right hn]
  exact Array.extract_size ..
theorem catB_take_drop : ∀ (cs : List ByteArray) (j i : Nat), catB (cs.take j) ++ catB ((cs.drop j).take i) = catB (cs.take (j + i)) := by
  intro cs j i
  rw [← catB_app, ← List.take_add]
theorem PJ.go {A B : CH} {ns : UInt64} {cs : List ByteArray} {m i j : Nat} {H rest got : ByteArray} (h : PJ A B ns cs m i j H rest got) (h1 : B.ci = A.co) (h2 : B.mi = A.mo) (h3 : B.li = A.lo) (hc : A.co.size = 16) (hm : A.mo.size = 32) (h8 : ∀ c ∈ cs, c.size ≤ 8192) (n : Nat) (hn : n ≤ rest.size) (him : i ≤ m) (hl : i = m → n = rest.size) :
    ∃ j' H' out, takeS B (ns + UInt64.ofNat j) (H ++ rest.extract 0 n) = ⟨ns + UInt64.ofNat j', H', out, 0⟩ ∧ PJ A B ns cs m (i + 1) j' H' (rest.extract n rest.size) (got ++ out) := by
  have he : (H ++ rest.extract 0 n) ++ rest.extract n rest.size = wir A (ns + UInt64.ofNat j) (cs.drop j) := by
    rw [ByteArray.append_assoc, split_at _ _ hn]; exact h.wire
  obtain ⟨k, H', g1, g2, g3, g4, g5⟩ := take_wir h1 h2 h3 hc hm (cs.drop j) (ns + UInt64.ofNat j) ((H ++ rest.extract 0 n).size + 1) _ ⟨#[]⟩ (rest.extract n rest.size) (fun c hc => h8 c (List.mem_of_mem_drop hc)) he (Nat.lt_succ_self _)
  have eno : ns + UInt64.ofNat j + UInt64.ofNat k = ns + UInt64.ofNat (j + k) := by rw [UInt64.ofNat_add, UInt64.add_assoc]
  rw [List.length_drop] at g1
  have hle := h.le
  rw [eno, List.drop_drop] at g3
  refine ⟨j + k, H', catB ((cs.drop j).take k), ?_, ⟨by omega, g3, ?_, ?_⟩⟩
  · show takeL _ _ _ _ _ = _
    rw [g2, eno, bempty_app]
  · rw [h.got, catB_take_drop]
  · intro hi
    have hnr := hl (by omega)
    have hz : (rest.extract n rest.size).size = 0 := by rw [ByteArray.size_extract]; omega
    have hk := g4 hz
    rw [List.length_drop] at hk
    have hr : rest.extract n rest.size = ⟨#[]⟩ := emp hz
    have hj : j + k = cs.length := by omega
    refine ⟨hr, ?_, hj⟩
    rw [hj, List.drop_length, hr, app_bempty] at g3
    exact g3
set_option maxRecDepth 20000 in
set_option maxHeartbeats 4000000 in
theorem cpasses_any {W0 w : World} {cf sf o_f ct st o_t : Nat} {A B : CH} {Sf St : CHS} {la ua : Option Addr} {n lc m uc : Nat} {l : List ByteArray} {ms : List Int} {LB UB : Option Nat} (KA : KOk A) (KB : KOk B) (h1 : B.ci = A.co) (h2 : B.mi = A.mo) (h3 : B.li = A.lo) (hcs : A.co.size = 16) (hms : A.mo.size = 32)
    (T : Ev W0 [] w (chR ct st o_t B St ++ chR cf sf o_f A Sf)) (hSf : Sf.cl = false) (hSt : St.cl = false) (hSo : St.oc = false) (hSh : St.held = ⟨#[]⟩) (hno : St.no = Sf.ns)
    (hl : Rc W0 1 (.slice la n lc) n (l.map .string) LB) (hln : l.length = n) (hu : Rc W0 1 (.slice ua m uc) m (ms.map (.int .u16)) UB) (hmn : ms.length = m) (hmv : ∀ x ∈ ms, 0 ≤ x ∧ x ≤ 65535) (hn12 : n ≤ 12) (htot : totN l ≤ 32768) (hm200 : m ≤ 200) :
    Calls Tryd.prog 9 #[.pointer (some ⟨cf, 0, none⟩), .pointer (some ⟨ct, 0, none⟩), .slice la n lc, .slice ua m uc] w fun e w' => e = .returned (.bool true) ∧ Ev W0 [] w' (chR ct st o_t B { St with no := Sf.ns + UInt64.ofNat (ckl l).length } ++ chR cf sf o_f A { Sf with ns := Sf.ns + UInt64.ofNat (ckl l).length }) := by
  obtain ⟨ns, hns⟩ : ∃ ns, Sf.ns = ns := ⟨_, rfl⟩
  rw [hns] at hno ⊢
  have HT := hid T
  have HL := hid hl
  have HU := hid hu
  have HLN := hid hln
  have HMN := hid hmn
  have HMV := hid hmv
  have HTOT := hid htot
  have HN := hid hns
  have HNO := hid hno
  have HCL := hid (show (ckl l).length ≤ 16 by have := ckl_len l; omega)
  have GS := hid fun (w1 : World) (k : Nat) (t : ByteArray) (h : Held w1 (chR cf sf o_f A { Sf with ns := ns + UInt64.ofNat k })) (ht : t.size ≤ 32768) => csend_any h KA hSf t (by omega)
  clear T hl hu hln hmn hmv htot hns hno
  go_enter Tryd.func9, Tryd.ntmps9
  go_wp2_with fail
  go_loopw [9, 10, 11] (fun wv tv iv wr => ∃ i : Nat, i ≤ n ∧ iv = .int .i64 (i : Int) ∧ wv = .string (wir A ns (ckl (l.take i))) ∧ tv = .string (catB (l.take i)) ∧ Hid (Ev W0 [] wr (chR ct st o_t B St ++ chR cf sf o_f A { Sf with ns := ns + UInt64.ofNat (ckl (l.take i)).length }))) (fun _ _ iv _ => n - (intOf iv).toNat)
  case atStart =>
    refine ⟨0, Nat.zero_le _, rfl, by simp [ckl, wir], by simp [catB], ?_⟩
    have e : ({ Sf with ns := ns + UInt64.ofNat (ckl (l.take 0)).length } : CHS) = Sf := by
      have : ns + UInt64.ofNat (ckl (l.take 0)).length = ns := by simp [ckl]
      rw [this, ← HN.out]
    rw [e]
    exact HT
  case round =>
    obtain ⟨i, hi, rfl, rfl, rfl, hE⟩ := hrel
    by_cases hli : i < n
    case pos =>
      have hd1 : decide (i < n) = true := by simp; omega
      obtain ⟨lb, off, rfl, _, hlb, hh, hcell⟩ := rc_at (HL.out.keep (Ev.nil hE.out) (by simp)) hli
      have HX := hid fun (w1 : World) (f : Fr [] W0 w1) => show w1.cell? ⟨lb, off + i, none⟩ = some (.string l[i]) from by
        obtain ⟨lb', off', e1, _, _, _, h⟩ := rc_at (HL.out.keep f (by simp)) hli
        obtain ⟨rfl, rfl⟩ : lb = lb' ∧ off = off' := by simpa using e1
        exact h
      have htk := ckl_take l i hh
      have hct := catB_take l i hh
      have hts := totN_mem l _ (List.getElem_mem hh)
      have hl8 : (ckl (l.take (i + 1))).length ≤ 16 := by
        have a1 := ckl_len (l.take (i + 1))
        have a2 := totN_take_le l (i + 1)
        have a3 := HTOT.out
        have a4 : (l.take (i + 1)).length ≤ 12 := by rw [List.length_take]; omega
        omega
      have hws := wir_size A (ckl (l.take (i + 1))) ns (ckl_size _)
      have hgs := catB_size (l.take (i + 1))
      have hgt := totN_take_le l (i + 1)
      have hwa : wir A ns (ckl (l.take (i + 1))) = wir A ns (ckl (l.take i)) ++ sendS A (ns + UInt64.ofNat (ckl (l.take i)).length) l[i] := by
        rw [htk, wir_app, sendS_wir]
      have hkk : ns + UInt64.ofNat (ckl (l.take i)).length + UInt64.ofNat (pcs l[i]) = ns + UInt64.ofNat (ckl (l.take (i + 1))).length := by
        rw [htk, List.length_append, cks_len, UInt64.ofNat_add, UInt64.add_assoc]
      have HSend := hid (GS.out wr (ckl (l.take i)).length l[i] (two_ha hE.out) (by have := HTOT.out; omega))
      have e9 : ({ Sf with ns := ns + UInt64.ofNat (ckl (l.take i)).length + UInt64.ofNat (pcs l[i]) } : CHS) = { Sf with ns := ns + UInt64.ofNat (ckl (l.take (i + 1))).length } := by rw [hkk]
      have HSend2 : Hid (Calls Tryd.prog 10 #[.pointer (some ⟨cf, 0, none⟩), .string l[i]] wr fun e w' => e = .returned (.tuple #[.string (sendS A (ns + UInt64.ofNat (ckl (l.take i)).length) l[i]), .int .i64 0]) ∧ Ev wr (chR cf sf o_f A { Sf with ns := ns + UInt64.ofNat (ckl (l.take i)).length }) w' (chR cf sf o_f A { Sf with ns := ns + UInt64.ofNat (ckl (l.take (i + 1))).length })) := by
        refine hid (HSend.out.mono ?_)
        rintro e w' ⟨q1, q2⟩
        exact ⟨q1, e9 ▸ q2⟩
      clear HSend e9 hkk htk GS HT HN
      obtain ⟨t, ht⟩ : ∃ t, l[i] = t := ⟨_, rfl⟩
      obtain ⟨k, hk⟩ : ∃ k, (ckl (l.take i)).length = k := ⟨_, rfl⟩
      obtain ⟨sd, hsd⟩ : ∃ sd, sendS A (ns + UInt64.ofNat k) t = sd := ⟨_, rfl⟩
      obtain ⟨Wi, hWi⟩ : ∃ Wi, wir A ns (ckl (l.take i)) = Wi := ⟨_, rfl⟩
      obtain ⟨Gi, hGi⟩ : ∃ Gi, catB (l.take i) = Gi := ⟨_, rfl⟩
      rw [ht] at hcell HX hct hts hwa HSend2
      rw [hk] at hE hwa HSend2
      rw [hsd] at hwa HSend2
      rw [hWi] at hwa ⊢
      rw [hGi] at hct ⊢
      have hb1 : Wi.size + sd.size ≤ 140737488355328 := by
        have := congrArg ByteArray.size hwa
        rw [ByteArray.size_append] at this
        omega
      have hb2 : Gi.size + t.size ≤ 140737488355328 := by
        have := congrArg ByteArray.size hct
        rw [ByteArray.size_append] at this
        have := HTOT.out
        omega
      have HWA := hid hwa
      have HCT := hid hct
      clear hwa hct hws hgs hgt hts hl8 hsd hWi hGi ht hk
      go_wp2_with (first | (go_at_call 10; refine HSend2.out.mono ?_; rintro e w5 ⟨rfl, h5⟩; have T5 := hid (two_a hE.out h5); have hcell2 := HX.out w5 (Ev.nil T5.out); clear h5 hE hcell))
      go_roundw
      case rel => exact ⟨i + 1, by omega, by go_num, by rw [HWA.out], by rw [HCT.out], T5⟩
      case measure => simp [intOf]; omega
    case neg =>
      have hd1 : decide (i < n) = false := by simp; omega
      have hin : i = n := by omega
      subst hin
      have etk : l.take i = l := by rw [← HLN.out]; exact List.take_length
      rw [etk] at hE ⊢
      have hws := wir_size A (ckl l) ns (ckl_size l)
      have hc8 := ckl_size l
      have hcl := ckl_cat l
      have hgl := catB_size l
      obtain ⟨cs, hce⟩ : ∃ cs, ckl l = cs := ⟨_, rfl⟩
      rw [hce] at hE hws hc8 hcl HCL ⊢
      obtain ⟨Wr, hWr⟩ : ∃ Wr, wir A ns cs = Wr := ⟨_, rfl⟩
      obtain ⟨G, hG⟩ : ∃ G, catB l = G := ⟨_, rfl⟩
      obtain ⟨Sf2, hSf2⟩ : ∃ Sf2 : CHS, { Sf with ns := ns + UInt64.ofNat cs.length } = Sf2 := ⟨_, rfl⟩
      rw [hWr] at hws ⊢
      rw [hG] at hcl hgl ⊢
      rw [hSf2] at hE
      have HSF := hid hSf2
      have HCE := hid hce
      have HWr := hid hWr
      have HC8 := hid hc8
      have HCT := hid hcl
      have HWs := hid (show Wr.size ≤ 300000 by have := HCL.out; omega)
      have HGs := hid (show G.size ≤ 32768 by have := HTOT.out; omega)
      have HE := hid hE.out
      clear hSf2 hWr hG hce hws hc8 hcl hgl etk hE hd1 hli hi hn12 HL HLN GS HT HN hSf
      go_wp2_with fail
      go_loopw [9, 14, 15] (fun wv gv iv wq => ∃ (i j : Nat) (H rest got : ByteArray), i ≤ m + 1 ∧ iv = .int .i64 (i : Int) ∧ wv = .string rest ∧ gv = .string got ∧ Hid (PJ A B ns cs m i j H rest got) ∧ Hid (Ev W0 [] wq (chR ct st o_t B { St with no := ns + UInt64.ofNat j, held := H } ++ chR cf sf o_f A Sf2))) (fun _ _ iv _ => m + 1 - (intOf iv).toNat)
      case atStart =>
        refine ⟨0, 0, ⟨#[]⟩, Wr, ⟨#[]⟩, Nat.zero_le _, rfl, rfl, rfl, hid ⟨Nat.zero_le _, ?_, rfl, fun h => by omega⟩, ?_⟩
        · rw [bempty_app, ← HWr.out]; simp
        · have e : ({ St with no := ns + UInt64.ofNat 0, held := ⟨#[]⟩ } : CHS) = St := by
            have : ns + UInt64.ofNat 0 = St.no := by rw [HNO.out]; simp
            rw [this, ← hSh]
          rw [e]
          exact HE
      case round =>
        obtain ⟨i, j, H, rest, got, hi, rfl, rfl, rfl, hP, hE⟩ := hrel
        by_cases hli : i ≤ m
        case pos =>
          have hd1 : decide (i ≤ m) = true := by simp; omega
          by_cases him : i < m
          case pos =>
            have hd2 : decide (i < m) = true := by simp; omega
            obtain ⟨mb, mo, hue, hmw, hmc⟩ : ∃ mb mo, ua = some ⟨mb, mo, none⟩ ∧ mb < W0.heap.size ∧ wr.cell? ⟨mb, mo + i, none⟩ = some (.int .u16 (ms[i]'(by rw [HMN.out]; exact him))) := by
              obtain ⟨b, o, c', hB, hv, g1, g2, g3, g4⟩ := HU.out.some (by omega)
              obtain ⟨rfl, rfl⟩ : ua = some ⟨b, o, none⟩ ∧ uc = c' := by simpa using hv
              refine ⟨b, o, rfl, g3, ?_⟩
              rw [(Ev.nil hE.out).cell_old (a := ⟨b, o + i, none⟩) g3, g4 i (by simp; rw [HMN.out]; exact him), List.getElem?_map, List.getElem?_eq_getElem (by rw [HMN.out]; exact him)]
              rfl
            subst hue
            have hmx := HMV.out _ (List.getElem_mem (show i < ms.length by rw [HMN.out]; exact him))
            obtain ⟨x, hx⟩ : ∃ x, ms[i]'(by rw [HMN.out]; exact him) = x := ⟨_, rfl⟩
            rw [hx] at hmc hmx
            clear hx
            obtain ⟨q, hq⟩ : ∃ q : Nat, min (rest.size : Int) x = (q : Int) := Int.eq_ofNat_of_zero_le (by omega)
            have hqr : q ≤ rest.size := by omega
            have hql : i = m → q = rest.size := fun h => absurd h (by omega)
            obtain ⟨j', H', out, hT, hP'⟩ := hP.out.go h1 h2 h3 hcs hms HC8.out q hqr hli hql
            have hsz := wir_size A (cs.drop j) (ns + UInt64.ofNat j) (fun c hc => HC8.out c (List.mem_of_mem_drop hc))
            have hsz2 : H.size + rest.size ≤ 16 * 16428 := by
              have e1 := congrArg ByteArray.size hP.out.wire
              rw [ByteArray.size_append] at e1
              have e2 := HCL.out
              have e3 : (cs.drop j).length ≤ 16 := by rw [List.length_drop]; omega
              rw [e1]
              exact Nat.le_trans hsz (Nat.mul_le_mul_right _ e3)
            have hgs : got.size + out.size ≤ 140737488355328 := by
              have e1 := congrArg ByteArray.size hP'.got
              have e2 := congrArg ByteArray.size (catB_app (cs.take j') (cs.drop j'))
              rw [List.take_append_drop, HCT.out] at e2
              rw [ByteArray.size_append] at e1 e2
              have e3 := HGs.out
              omega
            have HTk := hid (ctake_any (two_hb hE.out) KB hSt hSo (rest.extract 0 q) (by show H.size + _ ≤ _; rw [ByteArray.size_extract]; omega) _ hT)
            have HTk2 : Hid (Calls Tryd.prog 11 #[.pointer (some ⟨ct, 0, none⟩), .string (rest.extract 0 q)] wr fun e w' => e = .returned (.tuple #[.string out, .int .i64 0]) ∧ Ev wr (chR ct st o_t B { St with no := ns + UInt64.ofNat j, held := H }) w' (chR ct st o_t B { St with no := ns + UInt64.ofNat j', held := H' })) := HTk
            have hbig : (rest.size : Int) ≤ 262848 := by omega
            have u1 : decide (rest.size < q) = false := by simp; omega
            have u2 : decide ((rest.size : Int) < (q : Int)) = false := by simp; omega
            have u3 : (q : Int) ≤ (rest.size : Int) := by omega
            have HP2 := hid hP'
            clear HTk hT hP' hsz hsz2 hql h1 h2 h3 hcs hms
            go_wp2_with (first | (go_at_call 11; refine HTk2.out.mono ?_; rintro e w5 ⟨rfl, h5⟩; have T5 := hid (two_b hE.out h5); clear h5 hE))
            go_roundw
            case rel => first | exact ⟨i + 1, j', H', _, _, by omega, by go_num, rfl, rfl, HP2, T5⟩ | (have e : rest.extract q rest.size = ByteArray.empty := emp (by rw [ByteArray.size_extract]; omega); rw [e] at HP2; exact ⟨i + 1, j', H', _, _, by omega, by go_num, rfl, rfl, HP2, T5⟩)
            case measure => simp [intOf]; omega
          case neg =>
            have hd2 : decide (i < m) = false := by simp; omega
            obtain ⟨q, hq⟩ : ∃ q : Nat, rest.size = q := ⟨_, rfl⟩
            have hqr : q ≤ rest.size := by omega
            have hql : i = m → q = rest.size := fun _ => hq.symm
            obtain ⟨j', H', out, hT, hP'⟩ := hP.out.go h1 h2 h3 hcs hms HC8.out q hqr hli hql
            have hsz := wir_size A (cs.drop j) (ns + UInt64.ofNat j) (fun c hc => HC8.out c (List.mem_of_mem_drop hc))
            have hsz2 : H.size + rest.size ≤ 16 * 16428 := by
              have e1 := congrArg ByteArray.size hP.out.wire
              rw [ByteArray.size_append] at e1
              have e2 := HCL.out
              have e3 : (cs.drop j).length ≤ 16 := by rw [List.length_drop]; omega
              rw [e1]
              exact Nat.le_trans hsz (Nat.mul_le_mul_right _ e3)
            have hgs : got.size + out.size ≤ 140737488355328 := by
              have e1 := congrArg ByteArray.size hP'.got
              have e2 := congrArg ByteArray.size (catB_app (cs.take j') (cs.drop j'))
              rw [List.take_append_drop, HCT.out] at e2
              rw [ByteArray.size_append] at e1 e2
              have e3 := HGs.out
              omega
            have HTk := hid (ctake_any (two_hb hE.out) KB hSt hSo (rest.extract 0 q) (by show H.size + _ ≤ _; rw [ByteArray.size_extract]; omega) _ hT)
            have HTk2 : Hid (Calls Tryd.prog 11 #[.pointer (some ⟨ct, 0, none⟩), .string (rest.extract 0 q)] wr fun e w' => e = .returned (.tuple #[.string out, .int .i64 0]) ∧ Ev wr (chR ct st o_t B { St with no := ns + UInt64.ofNat j, held := H }) w' (chR ct st o_t B { St with no := ns + UInt64.ofNat j', held := H' })) := HTk
            have hbig : (rest.size : Int) ≤ 262848 := by omega
            have u1 : decide (rest.size < q) = false := by simp; omega
            have u2 : decide ((rest.size : Int) < (q : Int)) = false := by simp; omega
            have u3 : (q : Int) ≤ (rest.size : Int) := by omega
            have HP2 := hid hP'
            clear HTk hT hP' hsz hsz2 hql h1 h2 h3 hcs hms
            go_wp2_with (first | (go_at_call 11; refine HTk2.out.mono ?_; rintro e w5 ⟨rfl, h5⟩; have T5 := hid (two_b hE.out h5); clear h5 hE))
            go_roundw
            case rel => first | exact ⟨i + 1, j', H', _, _, by omega, by go_num, rfl, rfl, HP2, T5⟩ | (have e : rest.extract q rest.size = ByteArray.empty := emp (by rw [ByteArray.size_extract]; omega); rw [e] at HP2; exact ⟨i + 1, j', H', _, _, by omega, by go_num, rfl, rfl, HP2, T5⟩)
            case measure => simp [intOf]; omega
        case neg =>
          have hd1 : decide (i ≤ m) = false := by simp; omega
          obtain ⟨rfl, rfl, hj⟩ := hP.out.fin (by omega)
          have hg : got = G := by rw [hP.out.got, hj, List.take_length, HCT.out]
          subst hg
          rw [hj] at hE
          have HW := hid (cwaits_any (two_hb hE.out))
          go_wp2_with (first | (go_at_call 13; refine HW.out.mono ?_; rintro e w9 ⟨rfl, hw⟩; subst hw))
          go_ret
          rw [HCE.out, HSF.out]
          have e : ({ St with no := ns + UInt64.ofNat cs.length, held := ⟨#[]⟩ } : CHS) = { St with no := ns + UInt64.ofNat cs.length } := by rw [← hSh]
          rw [← e]
          exact ⟨rfl, hE.out⟩
end Go.Proofs.YtneoagelcjfanaaDoor.chn
