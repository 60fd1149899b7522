/- Layer 22: ChannelSends, the walk. -/
import Derived.Test.YtneoagelcjfanaaGreatDoorGDoc
namespace Go.Proofs.YtneoagelcjfanaaGreatDoor.chn
open Go Go.Xr Go.RowKit Go.Proofs.YtneoagelcjfanaaGreatDoor Go.Proofs.YtneoagelcjfanaaGreatDoor.rcd
set_option linter.unusedVariables false
set_option linter.unusedSimpArgs false
theorem cheavyS_no {l : List ByteArray} (h : cheavyS l = false) : l.length ≤ 12 ∧ totN l ≤ 32768 := by
  unfold cheavyS at h
  simp at h
  exact h
section
variable {w : World} {v : Value} {l : List ByteArray} {LB : Option Nat}
set_option maxRecDepth 20000 in
set_option maxHeartbeats 400000 in
theorem sends_h1 (tb : TB w) (m : ByteArray) (x : UInt64) (b : Bool) (hl : Rc w 1 v l.length (l.map .string) LB) (ho : ∀ s ∈ l, s.size ≤ 140737488351232) (hlm : l.length ≤ 9223372036854775807) (hA : cheavyS l = true) :
    Calls Tryz.prog 3 #[.string m, W64 x, .bool b, v] w fun e w' => e = .returned (.bool true) ∧ Fr [] w w' := by
  obtain ⟨la, lc, rfl⟩ := hl.isSlice
  have HA := hid (cheavy_any hl ho hlm)
  have HW := hid fun (w1 : World) (f : Fr [] w w1) => cworks_any (tb.keep f)
  rw [hA] at HA
  obtain ⟨n, hn⟩ : ∃ n, l.length = n := ⟨_, rfl⟩
  rw [hn] at HA ⊢
  clear hl ho tb hlm hA hn
  go_enter Tryz.func3, Tryz.ntmps3
  go_wp2_with (first
    | (go_at_call 6; refine HA.out.mono ?_; rintro e w1 ⟨rfl, f1⟩)
    | (go_at_call 7; refine (HW.out _ f1).mono ?_; rintro e w2 ⟨rfl, f2⟩))
  go_ret
  exact ⟨rfl, f1.trans' f2⟩
set_option maxRecDepth 20000 in
set_option maxHeartbeats 400000 in
theorem sends_h2 (tb : TB w) (m : ByteArray) (x : UInt64) (b : Bool) (hl : Rc w 1 v l.length (l.map .string) LB) (ho : ∀ s ∈ l, s.size ≤ 140737488351232) (hlm : l.length ≤ 9223372036854775807) (hA : cheavyS l = false) (hm : 1024 < m.size) :
    Calls Tryz.prog 3 #[.string m, W64 x, .bool b, v] w fun e w' => e = .returned (.bool true) ∧ Fr [] w w' := by
  obtain ⟨la, lc, rfl⟩ := hl.isSlice
  have HA := hid (cheavy_any hl ho hlm)
  have HW := hid fun (w1 : World) (f : Fr [] w w1) => cworks_any (tb.keep f)
  rw [hA] at HA
  obtain ⟨n, hn⟩ : ∃ n, l.length = n := ⟨_, rfl⟩
  rw [hn] at HA ⊢
  have hd : decide (1024 < m.size) = true := by simpa using hm
  have hd' : decide (1024 < (m.size : Int)) = true := by simp; omega
  clear hl ho tb hlm hA hn hm
  go_enter Tryz.func3, Tryz.ntmps3
  go_wp2_with (first
    | (go_at_call 6; refine HA.out.mono ?_; rintro e w1 ⟨rfl, f1⟩)
    | (go_at_call 7; refine (HW.out _ f1).mono ?_; rintro e w2 ⟨rfl, f2⟩))
  go_ret
  exact ⟨rfl, f1.trans' f2⟩
set_option maxRecDepth 20000 in
set_option maxHeartbeats 400000 in
theorem sends_h3 (tb : TB w) (m : ByteArray) (x : UInt64) (b : Bool) (hl : Rc w 1 v l.length (l.map .string) LB) (ho : ∀ s ∈ l, s.size ≤ 140737488351232) (hlm : l.length ≤ 9223372036854775807) (hA : cheavyS l = false) (hm : m.size ≤ 1024) (hm2 : m.size ≠ 32) :
    Calls Tryz.prog 3 #[.string m, W64 x, .bool b, v] w fun e w' => e = .returned (.bool true) ∧ Fr [] w w' := by
  obtain ⟨la, lc, rfl⟩ := hl.isSlice
  have HA := hid (cheavy_any hl ho hlm)
  have HW := hid fun (w1 : World) (f : Fr [] w w1) => cworks_any (tb.keep f)
  have HB := hid fun (w1 : World) (f : Fr [] w w1) => cnew_bad m x b w1 (tb.keep f) hm2 (by omega)
  rw [hA] at HA
  obtain ⟨n, hn⟩ : ∃ n, l.length = n := ⟨_, rfl⟩
  rw [hn] at HA ⊢
  have hd : decide (1024 < m.size) = false := by simpa using hm
  have hd' : decide (1024 < (m.size : Int)) = false := by simp; omega
  have he : ((m.size : Int) != 32) = true := by simp; omega
  clear hl ho tb hlm hA hn hm
  go_enter Tryz.func3, Tryz.ntmps3
  go_wp2_with (first
    | (go_at_call 6; refine HA.out.mono ?_; rintro e w1 ⟨rfl, f1⟩)
    | (go_at_call 8; refine (HB.out _ f1).mono ?_; rintro e w2 ⟨rfl, f2⟩; have g2 := f1.trans' f2)
    | (go_at_call 7; refine (HW.out _ g2).mono ?_; rintro e w3 ⟨rfl, f3⟩))
  go_ret
  exact ⟨rfl, g2.trans' f3⟩
set_option maxRecDepth 20000 in
set_option maxHeartbeats 4000000 in
theorem sends_light (tb : TB w) (m : ByteArray) (x : UInt64) (b : Bool) (hl : Rc w 1 v l.length (l.map .string) LB) (ho : ∀ s ∈ l, s.size ≤ 140737488351232) (hlm : l.length ≤ 9223372036854775807) (hA : cheavyS l = false) (hm2 : m.size = 32) :
    Calls Tryz.prog 3 #[.string m, W64 x, .bool b, v] w fun e w' => e = .returned (.bool true) ∧ Fr [] w w' := by
  obtain ⟨la, lc, rfl⟩ := hl.isSlice
  have HA := hid (cheavy_any hl ho hlm)
  have HW := hid fun (w1 : World) (f : Fr [] w w1) => cworks_any (tb.keep f)
  have HC := hid fun (w1 : World) (f : Fr [] w w1) => cnew_any m x b w1 (tb.keep f) hm2
  have HD := hid fun (w1 : World) (f : Fr [] w w1) => dnew_any m x b w1 (tb.keep f) hm2
  have KK := chOf_ok m x b
  generalize chOf m x b = K at *
  rw [hA] at HA
  have HTOT := hid (cheavyS_no hA)
  have HL := hid hl
  obtain ⟨n, hn⟩ : ∃ n, l.length = n := ⟨_, rfl⟩
  have HLN := hid hn
  have hn12 : n ≤ 12 := by have := HTOT.out.1; omega
  rw [hn] at HA HL ⊢
  have hd : decide (1024 < m.size) = false := by simp; omega
  have hd' : decide (1024 < (m.size : Int)) = false := by simp; omega
  have he : ((m.size : Int) != 32) = false := by simp; omega
  have GS := hid fun (w1 : World) (cb s o k : Nat) (t : ByteArray) (h : Held w1 (chR cb s o K { CHS.init with ns := 0 + UInt64.ofNat k })) (ht : t.size ≤ 32768) => csend_any h KK rfl t (by omega)
  have GD := hid fun (w1 : World) (p k : Nat) (t : ByteArray) (h : Held w1 [Res.blk p (docL K { CHS.init with ns := 0 + UInt64.ofNat k })]) (ht : t.size ≤ 32768) => dsend_ev h KK rfl t (by omega)
  clear hl ho tb hlm hA hn hm2
  go_enter Tryz.func3, Tryz.ntmps3
  go_wp2_with (first
    | (go_at_call 6; refine HA.out.mono ?_; rintro e w1 ⟨rfl, f1⟩; clear HA)
    | (go_at_call 8; refine (HC.out _ f1).mono ?_; rintro e w2 ⟨cb, s, o, rfl, E2⟩; have T2 := hid (Ev.trans ((Ev.start w).step f1) E2); have g2 := Ev.nil T2.out; clear E2 HC)
    | (go_at_call 9; refine (HD.out _ g2).mono ?_; rintro e w3 ⟨p, rfl, E3⟩; have T3 := hid (two_n T2.out E3); clear E3 T2 g2 HD f1))
  go_loopw [12] (fun iv wr => ∃ i : Nat, i ≤ n ∧ iv = .int .i64 (i : Int) ∧ Hid (Ev w [] wr ([Res.blk p (docL K { CHS.init with ns := 0 + UInt64.ofNat (ckl (l.take i)).length })] ++ chR cb s o K { CHS.init with ns := 0 + UInt64.ofNat (ckl (l.take i)).length }))) (fun iv _ => n - (intOf iv).toNat)
  case atStart => exact ⟨0, Nat.zero_le _, rfl, T3⟩
  case round =>
    obtain ⟨i, hi, rfl, hE⟩ := hrel
    by_cases hli : i < n
    case pos =>
      have hd1 : decide (i < n) = true := by simp; omega
      obtain ⟨lb, off, rfl, _, hlb, hh, hcell⟩ := rc_at (HL.out.keep (Ev.nil hE.out) (by simp)) hli
      have HX := hid fun (w1 : World) (f : Fr [] w w1) => show w1.cell? ⟨lb, off + i, none⟩ = some (.string l[i]) from by
        obtain ⟨lb', off', e1, _, _, _, h⟩ := rc_at (HL.out.keep f (by simp)) hli
        obtain ⟨rfl, rfl⟩ : lb = lb' ∧ off = off' := by simpa using e1
        exact h
      have htk := ckl_take l i hh
      have hts := totN_mem l _ (List.getElem_mem hh)
      have ht1 : (l[i]).size ≤ 32768 := by have := HTOT.out.2; omega
      have hkk : 0 + UInt64.ofNat (ckl (l.take i)).length + UInt64.ofNat (pcs l[i]) = 0 + UInt64.ofNat (ckl (l.take (i + 1))).length := by
        rw [htk, List.length_append, cks_len, UInt64.ofNat_add, UInt64.add_assoc]
      have e9 : ({ CHS.init with ns := 0 + UInt64.ofNat (ckl (l.take i)).length + UInt64.ofNat (pcs l[i]) } : CHS) = { CHS.init with ns := 0 + UInt64.ofNat (ckl (l.take (i + 1))).length } := by rw [hkk]
      have HS2 : Hid (Calls Tryz.prog 10 #[.pointer (some ⟨cb, 0, none⟩), .string l[i]] wr fun e w' => e = .returned (.tuple #[.string (sendS K (0 + UInt64.ofNat (ckl (l.take i)).length) l[i]), .int .i64 0]) ∧ Ev wr (chR cb s o K { CHS.init with ns := 0 + UInt64.ofNat (ckl (l.take i)).length }) w' (chR cb s o K { CHS.init with ns := 0 + UInt64.ofNat (ckl (l.take (i + 1))).length })) := by
        refine hid ((GS.out wr cb s o _ l[i] (two_ha hE.out) ht1).mono ?_)
        rintro e w' ⟨q1, q2⟩
        exact ⟨q1, e9 ▸ q2⟩
      have HD2 : Hid (∀ w1, Held w1 [Res.blk p (docL K { CHS.init with ns := 0 + UInt64.ofNat (ckl (l.take i)).length })] → Calls Tryz.prog 11 #[.pointer (some ⟨p, 0, none⟩), .string l[i]] w1 fun e w' => e = .returned (.tuple #[.string (sendS K (0 + UInt64.ofNat (ckl (l.take i)).length) l[i]), .int .i64 0]) ∧ Ev w1 [Res.blk p (docL K { CHS.init with ns := 0 + UInt64.ofNat (ckl (l.take i)).length })] w' [Res.blk p (docL K { CHS.init with ns := 0 + UInt64.ofNat (ckl (l.take (i + 1))).length })]) := by
        refine hid fun w1 hw1 => ((GD.out w1 p _ l[i] hw1 ht1).mono ?_)
        rintro e w' ⟨q1, q2⟩
        exact ⟨q1, e9 ▸ q2⟩
      clear e9 hkk htk GS GD T3 hts
      obtain ⟨t, ht⟩ : ∃ t, l[i] = t := ⟨_, rfl⟩
      obtain ⟨k, hk⟩ : ∃ k, (ckl (l.take i)).length = k := ⟨_, rfl⟩
      obtain ⟨sd, hsd⟩ : ∃ sd, sendS K (0 + UInt64.ofNat k) t = sd := ⟨_, rfl⟩
      rw [ht] at hcell HX HS2 HD2
      rw [hk] at hE HS2 HD2
      rw [hsd] at HS2 HD2
      clear hsd ht hk ht1
      go_wp2_with (first
        | (go_at_call 10; refine HS2.out.mono ?_; rintro e w5 ⟨rfl, h5⟩; have T5 := hid (two_a hE.out h5); have hcell2 := HX.out w5 (Ev.nil T5.out); clear h5 hE hcell HS2)
        | (go_at_call 11; refine (HD2.out _ (two_hb T5.out)).mono ?_; rintro e w6 ⟨rfl, h6⟩; have T6 := hid (two_b T5.out h6); clear h6 T5 hcell2 HD2))
      go_roundw
      case rel => exact ⟨i + 1, by omega, by go_num, T6⟩
      case measure => simp [intOf]; omega
    case neg =>
      have hd1 : decide (i < n) = false := by simp; omega
      have HC1 := hid (cclosed_any (two_ha hE.out))
      have HC2 := hid (cwaits_any (two_ha hE.out))
      rw [show (CHS.init).cl = false from rfl] at HC1
      have g := Ev.nil hE.out
      clear T3 GS GD HL HLN HTOT
      go_wp2_with (first
        | (go_at_call 12; refine HC1.out.mono ?_; rintro e w7 ⟨rfl, e7⟩; have e7' := hid e7; rw [e7'.out]; clear e7 HC1)
        | (go_at_call 13; refine HC2.out.mono ?_; rintro e w8 ⟨rfl, e8⟩; have e8' := hid e8; rw [e8'.out]; clear e8 HC2)
        | (go_at_call 7; refine (HW.out _ g).mono ?_; rintro e w9 ⟨rfl, f9⟩; have g9 := g.trans' f9))
      go_ret
      exact ⟨rfl, g9⟩
theorem sends_walk (tb : TB w) (m : ByteArray) (x : UInt64) (b : Bool) (hl : Rc w 1 v l.length (l.map .string) LB) (ho : ∀ s ∈ l, s.size ≤ 140737488351232) (hlm : l.length ≤ 9223372036854775807) :
    Calls Tryz.prog 3 #[.string m, W64 x, .bool b, v] w fun e w' => e = .returned (.bool true) ∧ Fr [] w w' := by
  cases hA : cheavyS l with
  | true => exact sends_h1 tb m x b hl ho hlm hA
  | false =>
    by_cases hm : 1024 < m.size
    · exact sends_h2 tb m x b hl ho hlm hA hm
    · by_cases h2 : m.size = 32
      · exact sends_light tb m x b hl ho hlm hA h2
      · exact sends_h3 tb m x b hl ho hlm hA (by omega) h2
end
end Go.Proofs.YtneoagelcjfanaaGreatDoor.chn
