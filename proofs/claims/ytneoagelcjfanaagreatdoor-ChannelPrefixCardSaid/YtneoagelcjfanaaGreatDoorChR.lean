/- Layer 22: taking piece by piece is taking at once (plain; for ChannelPrefix, ChannelTakes). -/
import Derived.Test.YtneoagelcjfanaaGreatDoorChO
namespace Go.Proofs.YtneoagelcjfanaaGreatDoor.chn
open Go Go.Xr Go.RowKit Go.Proofs.YtneoagelcjfanaaGreatDoor Go.Proofs.YtneoagelcjfanaaGreatDoor.rcd
set_option linter.unusedVariables false
set_option linter.unusedSimpArgs false
theorem takeL_succ (K : CH) (f : Nat) (no : UInt64) (H out : ByteArray) : takeL K (f + 1) no H out = (if H.size < 4 then ⟨no, H, out, 0⟩ else if wholeB (tellN H) = false then ⟨no, H, out, 51⟩ else if H.size < 4 + tellN H then ⟨no, H, out, 0⟩ else if recOk K.ci K.mi K.li no (H.extract 4 (4 + tellN H)) then takeL K f (no + 1) (H.extract (4 + tellN H) H.size) (out ++ recT K.ci K.mi K.li (H.extract 4 (4 + tellN H))) else ⟨no, H.extract (4 + tellN H) H.size, out, 7⟩) := rfl
theorem takeL_fuel (K : CH) : ∀ (f g : Nat) (no : UInt64) (H out : ByteArray), H.size < f → H.size < g → takeL K f no H out = takeL K g no H out
  | 0, _, _, _, _, h, _ => absurd h (Nat.not_lt_zero _)
  | _ + 1, 0, _, _, _, _, h => absurd h (Nat.not_lt_zero _)
  | f + 1, g + 1, no, H, out, hf, hg => by
    rw [takeL_succ, takeL_succ]
    by_cases h4 : H.size < 4
    · rw [if_pos h4, if_pos h4]
    · rw [if_neg h4, if_neg h4, takeL_fuel K f g _ _ _ (by rw [ByteArray.size_extract]; omega) (by rw [ByteArray.size_extract]; omega)]
theorem takeL_le (K : CH) : ∀ (f : Nat) (no : UInt64) (H out : ByteArray), (takeL K f no H out).H.size ≤ H.size
  | 0, _, _, _ => Nat.le_refl _
  | f + 1, no, H, out => by
    rw [takeL_succ]
    have h := takeL_le K f (no + 1) (H.extract (4 + tellN H) H.size) (out ++ recT K.ci K.mi K.li (H.extract 4 (4 + tellN H)))
    have e : (H.extract (4 + tellN H) H.size).size ≤ H.size := by rw [ByteArray.size_extract]; omega
    split
    · exact Nat.le_refl _
    · split
      · exact Nat.le_refl _
      · split
        · exact Nat.le_refl _
        · split
          · exact Nat.le_trans h e
          · exact e
theorem tellN_app (H G : ByteArray) (h : 4 ≤ H.size) : tellN (H ++ G) = tellN H := by
  unfold tellN
  have e : (H ++ G).data.toList = H.data.toList ++ G.data.toList := by simp [ByteArray.data_append]
  rw [e, List.take_append_of_le_length (by rw [ba_len]; exact h)]
theorem ext_app1 (H G : ByteArray) (a b : Nat) (h : b ≤ H.size) : (H ++ G).extract a b = H.extract a b := by
  apply ByteArray.ext
  simp only [ByteArray.data_append, ByteArray.data_extract]
  have h' : b ≤ H.data.size := h
  rw [Array.extract_append]
  have e : b - H.data.size = 0 := by omega
  rw [e]
  simp
theorem ext_app2 (H G : ByteArray) (a : Nat) (h : a ≤ H.size) : (H ++ G).extract a (H ++ G).size = H.extract a H.size ++ G := by
  apply ByteArray.ext
  simp only [ByteArray.data_append, ByteArray.data_extract, ByteArray.size_append]
  have h' : a ≤ H.data.size := h
  have hs : H.size = H.data.size := rfl
  have gs : G.size = G.data.size := rfl
  rw [Array.extract_append, hs, gs]
  have e : a - H.data.size = 0 := by omega
  have e2 : H.data.size + G.data.size - H.data.size = G.data.size := by omega
  rw [e, e2]
  congr 1
  · apply Array.ext'
    rw [Array.toList_extract, Array.toList_extract, List.extract_eq_take_drop, List.extract_eq_take_drop, List.take_of_length_le (by rw [List.length_drop, Array.length_toList]; omega), List.take_of_length_le (by rw [List.length_drop, Array.length_toList]; omega)]
  · simp
/-- What is taken of H1 and then of H2 is what is taken of both at once. -/
theorem take_split (K : CH) : ∀ (f : Nat) (no : UInt64) (H1 H2 out : ByteArray), H1.size + H2.size < f →
    ((takeL K f no H1 out).c = 0 → takeL K f no (H1 ++ H2) out = takeL K f (takeL K f no H1 out).no ((takeL K f no H1 out).H ++ H2) (takeL K f no H1 out).out) ∧
    ((takeL K f no H1 out).c ≠ 0 → (takeL K f no (H1 ++ H2) out).c = (takeL K f no H1 out).c ∧ (takeL K f no (H1 ++ H2) out).out = (takeL K f no H1 out).out)
  | 0, _, _, _, _, h => absurd h (Nat.not_lt_zero _)
  | f + 1, no, H1, H2, out, hf => by
    by_cases h4 : H1.size < 4
    · have e : takeL K (f + 1) no H1 out = ⟨no, H1, out, 0⟩ := by rw [takeL_succ, if_pos h4]
      rw [e]
      exact ⟨fun _ => rfl, fun h => absurd rfl h⟩
    · have h4' : ¬ (H1 ++ H2).size < 4 := by rw [ByteArray.size_append]; omega
      have ht : tellN (H1 ++ H2) = tellN H1 := tellN_app _ _ (by omega)
      obtain ⟨n, hn⟩ : ∃ n, tellN H1 = n := ⟨_, rfl⟩
      cases hw : wholeB n with
      | false =>
        have e : takeL K (f + 1) no H1 out = ⟨no, H1, out, 51⟩ := by rw [takeL_succ, if_neg h4, hn, if_pos hw]
        have e2 : takeL K (f + 1) no (H1 ++ H2) out = ⟨no, H1 ++ H2, out, 51⟩ := by rw [takeL_succ, if_neg h4', ht, hn, if_pos hw]
        rw [e, e2]
        exact ⟨fun h => absurd h (show ¬ (51 : Int) = 0 by decide), fun _ => ⟨rfl, rfl⟩⟩
      | true =>
        by_cases hl : H1.size < 4 + n
        · have e : takeL K (f + 1) no H1 out = ⟨no, H1, out, 0⟩ := by rw [takeL_succ, if_neg h4, hn, if_neg (by rw [hw]; decide), if_pos hl]
          rw [e]
          exact ⟨fun _ => rfl, fun h => absurd rfl h⟩
        · have hl' : ¬ (H1 ++ H2).size < 4 + n := by rw [ByteArray.size_append]; omega
          have x1 := ext_app1 H1 H2 4 (4 + n) (by omega)
          have x2 := ext_app2 H1 H2 (4 + n) (by omega)
          have e := takeL_succ K f no H1 out
          rw [if_neg h4, hn, if_neg (by rw [hw]; decide), if_neg hl] at e
          have e2 := takeL_succ K f no (H1 ++ H2) out
          rw [if_neg h4', ht, hn, if_neg (by rw [hw]; decide), if_neg hl', x1, x2] at e2
          cases hr : recOk K.ci K.mi K.li no (H1.extract 4 (4 + n)) with
          | false =>
            rw [hr, if_neg (by decide)] at e e2
            rw [e, e2]
            exact ⟨fun h => absurd h (show ¬ (7 : Int) = 0 by decide), fun _ => ⟨rfl, rfl⟩⟩
          | true =>
            rw [hr, if_pos rfl] at e e2
            rw [e, e2]
            have hz : (H1.extract (4 + n) H1.size).size = H1.size - (4 + n) := by rw [ByteArray.size_extract]; omega
            obtain ⟨g1, g2⟩ := take_split K f (no + 1) (H1.extract (4 + n) H1.size) H2 (out ++ recT K.ci K.mi K.li (H1.extract 4 (4 + n))) (by omega)
            refine ⟨fun h => ?_, g2⟩
            have hle := takeL_le K f (no + 1) (H1.extract (4 + n) H1.size) (out ++ recT K.ci K.mi K.li (H1.extract 4 (4 + n)))
            rw [g1 h]
            exact takeL_fuel K _ _ _ _ _ (by rw [ByteArray.size_append]; omega) (by rw [ByteArray.size_append]; omega)
theorem takeL_out (K : CH) : ∀ (f : Nat) (no : UInt64) (H out : ByteArray), takeL K f no H out = ⟨(takeL K f no H ⟨#[]⟩).no, (takeL K f no H ⟨#[]⟩).H, out ++ (takeL K f no H ⟨#[]⟩).out, (takeL K f no H ⟨#[]⟩).c⟩
  | 0, no, H, out => by
    show (⟨no, H, out, 0⟩ : TK) = ⟨no, H, out ++ ⟨#[]⟩, 0⟩
    rw [app_bempty]
  | f + 1, no, H, out => by
    rw [takeL_succ, takeL_succ]
    obtain ⟨R, hR⟩ : ∃ R, H.extract 4 (4 + tellN H) = R := ⟨_, rfl⟩
    obtain ⟨Z, hZ⟩ : ∃ Z, H.extract (4 + tellN H) H.size = Z := ⟨_, rfl⟩
    rw [hR, hZ, bempty_app]
    split
    · rw [app_bempty]
    · split
      · rw [app_bempty]
      · split
        · rw [app_bempty]
        · split
          · rw [takeL_out K f (no + 1) Z (out ++ recT K.ci K.mi K.li R), takeL_out K f (no + 1) Z (recT K.ci K.mi K.li R)]
            simp only [ByteArray.append_assoc]
          · rw [app_bempty]
/-- What is held, and a piece more. -/
theorem take_feed (K : CH) (no : UInt64) (D P : ByteArray) :
    ((takeS K no D).c = 0 → takeS K no (D ++ P) = ⟨(takeS K (takeS K no D).no ((takeS K no D).H ++ P)).no, (takeS K (takeS K no D).no ((takeS K no D).H ++ P)).H, (takeS K no D).out ++ (takeS K (takeS K no D).no ((takeS K no D).H ++ P)).out, (takeS K (takeS K no D).no ((takeS K no D).H ++ P)).c⟩) ∧
    ((takeS K no D).c ≠ 0 → (takeS K no (D ++ P)).c = (takeS K no D).c ∧ (takeS K no (D ++ P)).out = (takeS K no D).out) := by
  have hs : (D ++ P).size = D.size + P.size := ByteArray.size_append
  have e1 : takeS K no D = takeL K (D.size + P.size + 1) no D ⟨#[]⟩ := takeL_fuel K _ _ _ _ _ (Nat.lt_succ_self _) (by omega)
  have e2 : takeS K no (D ++ P) = takeL K (D.size + P.size + 1) no (D ++ P) ⟨#[]⟩ := takeL_fuel K _ _ _ _ _ (Nat.lt_succ_self _) (by omega)
  obtain ⟨g1, g2⟩ := take_split K (D.size + P.size + 1) no D P ⟨#[]⟩ (Nat.lt_succ_self _)
  have hle := takeL_le K (D.size + P.size + 1) no D ⟨#[]⟩
  rw [← e1] at g1 g2 hle
  rw [← e2] at g1 g2
  refine ⟨fun h => ?_, g2⟩
  rw [g1 h, takeL_out]
  have e3 : takeL K (D.size + P.size + 1) (takeS K no D).no ((takeS K no D).H ++ P) ⟨#[]⟩ = takeS K (takeS K no D).no ((takeS K no D).H ++ P) := takeL_fuel K _ _ _ _ _ (by rw [ByteArray.size_append]; omega) (Nat.lt_succ_self _)
  rw [e3]
end Go.Proofs.YtneoagelcjfanaaGreatDoor.chn
