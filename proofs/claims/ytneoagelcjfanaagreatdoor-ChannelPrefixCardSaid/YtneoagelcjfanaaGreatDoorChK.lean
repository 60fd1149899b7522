/- Layer 22: what is sent comes through (plain). -/
import Derived.Test.YtneoagelcjfanaaGreatDoorChJ
namespace Go.Proofs.YtneoagelcjfanaaGreatDoor.chn
open Go Go.Xr Go.RowKit Go.Proofs.YtneoagelcjfanaaGreatDoor Go.Proofs.YtneoagelcjfanaaGreatDoor.rcd
set_option linter.unusedVariables false
set_option linter.unusedSimpArgs false
theorem clsR_pow (n : Nat) : ∀ f c, ∃ j, j ≤ f ∧ clsR n f c = c * 2 ^ j
  | 0, c => ⟨0, Nat.le_refl _, by simp [clsR]⟩
  | f + 1, c => by
    rw [clsR]
    split
    · obtain ⟨j, h1, h2⟩ := clsR_pow n f (2 * c)
      exact ⟨j + 1, by omega, by rw [h2, Nat.pow_succ, Nat.mul_comm 2 c, Nat.mul_assoc, Nat.mul_comm 2]⟩
    · exact ⟨0, by omega, by simp⟩
theorem wholeB_cls (n : Nat) : wholeB (clsN n + 40) = true := by
  obtain ⟨j, h1, h2⟩ := clsR_pow n 8 64
  unfold wholeB
  rw [List.any_eq_true]
  exact ⟨j, by simp; omega, by unfold clsN; rw [h2]; simp⟩
theorem tellN_u32 (q : Nat) (r : ByteArray) (hq : q < 4294967296) : tellN (u32S q ++ r) = q := by
  unfold tellN
  have e : (u32S q ++ r).data.toList = leN q 4 ++ r.data.toList := by simp [u32S, ByteArray.data_append]
  rw [e, List.take_append_of_le_length (by rw [leN_len]; exact Nat.le_refl _), List.take_of_length_le (by rw [leN_len]; exact Nat.le_refl _), leV_leN _ hq]
theorem u32S_size (q : Nat) : (u32S q).size = 4 := rfl
theorem app_cut {H rest X Y : ByteArray} (h : H ++ rest = X ++ Y) (hs : X.size ≤ H.size) : ∃ Z, H = X ++ Z ∧ Y = Z ++ rest := by
  have hl : H.data.toList ++ rest.data.toList = X.data.toList ++ Y.data.toList := by
    have := congrArg (fun b : ByteArray => b.data.toList) h
    simpa [ByteArray.data_append] using this
  have hX : X.data.toList.length ≤ H.data.toList.length := by rw [ba_len, ba_len]; exact hs
  rcases List.append_eq_append_iff.1 hl with ⟨a, h1, h2⟩ | ⟨a, h1, h2⟩
  · have e : a = [] := by
      have := congrArg List.length h1
      rw [List.length_append] at this
      exact List.eq_nil_of_length_eq_zero (by omega)
    subst e
    refine ⟨⟨#[]⟩, ?_, ?_⟩
    · apply ByteArray.ext; apply Array.ext'; simpa [ByteArray.data_append] using h1.symm
    · apply ByteArray.ext; apply Array.ext'; simpa [ByteArray.data_append] using h2.symm
  · refine ⟨⟨a.toArray⟩, ?_, ?_⟩
    · apply ByteArray.ext; apply Array.ext'; simpa [ByteArray.data_append] using h1
    · apply ByteArray.ext; apply Array.ext'; simpa [ByteArray.data_append] using h2
theorem app_mid (U R Z : ByteArray) : (U ++ R ++ Z).extract U.size (U.size + R.size) = R ∧ (U ++ R ++ Z).extract (U.size + R.size) (U ++ R ++ Z).size = Z := by
  constructor
  · apply ByteArray.ext; apply Array.ext'
    simp [ByteArray.data_append, ByteArray.data_extract, ← ByteArray.size_data]
  · apply ByteArray.ext; apply Array.ext'
    simp [ByteArray.data_append, ByteArray.data_extract, ← ByteArray.size_data]
def wir (K : CH) : UInt64 → List ByteArray → ByteArray
  | _, [] => ⟨#[]⟩
  | no, c :: cs => oneR K no c ++ wir K (no + 1) cs
def catB : List ByteArray → ByteArray
  | [] => ⟨#[]⟩
  | c :: cs => c ++ catB cs
theorem bempty_app (a : ByteArray) : (⟨#[]⟩ : ByteArray) ++ a = a := ByteArray.empty_append
theorem app_bempty (a : ByteArray) : a ++ (⟨#[]⟩ : ByteArray) = a := ByteArray.append_empty
/-- So many bytes of what is sent are taken: so many records of it. -/
theorem take_wir {A B : CH} (h1 : B.ci = A.co) (h2 : B.mi = A.mo) (h3 : B.li = A.lo) (hc : A.co.size = 16) (hm : A.mo.size = 32) : ∀ (cs : List ByteArray) (no : UInt64) (f : Nat) (H out rest : ByteArray), (∀ c ∈ cs, c.size ≤ 8192) → H ++ rest = wir A no cs → H.size < f →
    ∃ i H', i ≤ cs.length ∧ takeL B f no H out = ⟨no + UInt64.ofNat i, H', out ++ catB (cs.take i), 0⟩ ∧ H' ++ rest = wir A (no + UInt64.ofNat i) (cs.drop i) ∧ (rest.size = 0 → i = cs.length) ∧ (i = 0 → H' = H)
  | cs, no, 0, H, out, rest, _, _, hf => absurd hf (Nat.not_lt_zero _)
  | [], no, f + 1, H, out, rest, hcs, he, hf => by
    have hz : H.size = 0 := by
      have := congrArg ByteArray.size he
      rw [ByteArray.size_append] at this
      have e : (wir A no []).size = 0 := rfl
      omega
    refine ⟨0, H, Nat.le_refl _, ?_, by simpa using he, fun _ => rfl, fun _ => rfl⟩
    show (if H.size < 4 then _ else _) = _
    rw [if_pos (by omega)]
    simp [catB, app_bempty]
  | c :: cs, no, f + 1, H, out, rest, hcs, he, hf => by
    have hc8 := hcs c (List.mem_cons_self ..)
    obtain ⟨n, hn⟩ : ∃ n, clsN c.size + 40 = n := ⟨_, rfl⟩
    have hns := clsN_le c.size
    have hw : wholeB n = true := by rw [← hn]; exact wholeB_cls _
    have hrs : (recS A.co A.mo A.lo no c).size = n := by rw [recS_size _ _ _ _ _ hc8]; exact hn
    have he2 : H ++ rest = u32S n ++ (recS A.co A.mo A.lo no c ++ wir A (no + 1) cs) := by
      rw [he]
      show (u32S (clsN c.size + 40) ++ _) ++ _ = _
      rw [hn, ByteArray.append_assoc]
    have hsz : H.size + rest.size = 4 + (n + (wir A (no + 1) cs).size) := by
      have := congrArg ByteArray.size he2
      rw [ByteArray.size_append, ByteArray.size_append, ByteArray.size_append, hrs, u32S_size] at this
      exact this
    have stay : takeL B (f + 1) no H out = ⟨no, H, out, 0⟩ → H.size < 4 + n → ∃ i H', i ≤ (c :: cs).length ∧ takeL B (f + 1) no H out = ⟨no + UInt64.ofNat i, H', out ++ catB ((c :: cs).take i), 0⟩ ∧ H' ++ rest = wir A (no + UInt64.ofNat i) ((c :: cs).drop i) ∧ (rest.size = 0 → i = (c :: cs).length) ∧ (i = 0 → H' = H) := by
      intro ht hlt
      refine ⟨0, H, Nat.zero_le _, ?_, by simpa using he, fun hr => by omega, fun _ => rfl⟩
      rw [ht]
      simp [catB, app_bempty]
    have step : takeL B (f + 1) no H out = (if H.size < 4 then ⟨no, H, out, 0⟩ else if wholeB (tellN H) = false then ⟨no, H, out, 51⟩ else if H.size < 4 + tellN H then ⟨no, H, out, 0⟩ else if recOk B.ci B.mi B.li no (H.extract 4 (4 + tellN H)) then takeL B f (no + 1) (H.extract (4 + tellN H) H.size) (out ++ recT B.ci B.mi B.li (H.extract 4 (4 + tellN H))) else ⟨no, H.extract (4 + tellN H) H.size, out, 7⟩) := rfl
    by_cases h4 : H.size < 4
    · exact stay (by rw [step, if_pos h4]) (by omega)
    · obtain ⟨Z, hZ, hZ2⟩ := app_cut he2 (by rw [u32S_size]; omega)
      have ht : tellN H = n := by rw [hZ]; exact tellN_u32 _ _ (by omega)
      rw [ht] at step
      by_cases hlt : H.size < 4 + n
      · exact stay (by rw [step, if_neg h4, if_neg (by rw [hw]; decide), if_pos hlt]) hlt
      · have hZs : H.size = 4 + Z.size := by rw [hZ, ByteArray.size_append, u32S_size]
        obtain ⟨Y, hY, hY2⟩ := app_cut hZ2.symm (by omega)
        have hH : H = u32S n ++ recS A.co A.mo A.lo no c ++ Y := by rw [hZ, hY, ByteArray.append_assoc]
        obtain ⟨m1, m2⟩ := app_mid (u32S n) (recS A.co A.mo A.lo no c) Y
        rw [← hH, hrs, u32S_size] at m1 m2
        have hYs : H.size = 4 + n + Y.size := by rw [hH, ByteArray.size_append, ByteArray.size_append, hrs, u32S_size]
        rw [step, if_neg h4, if_neg (by rw [hw]; decide), if_neg hlt, m1, m2, h1, h2, h3, recOk_rec _ _ _ _ _ _ hc hm hc8, if_pos (by simp), recT_rec _ _ _ _ _ hc hm hc8]
        obtain ⟨i, H', g1, g2, g3, g4, g5⟩ := take_wir h1 h2 h3 hc hm cs (no + 1) f Y (out ++ c) rest (fun x hx => hcs x (List.mem_cons_of_mem _ hx)) hY2.symm (by omega)
        have eno : no + 1 + UInt64.ofNat i = no + UInt64.ofNat (i + 1) := by
          rw [UInt64.ofNat_add, UInt64.add_assoc, UInt64.add_comm 1]
          rfl
        refine ⟨i + 1, H', by simpa using g1, ?_, ?_, fun hr => by rw [g4 hr]; rfl, fun h => absurd h (by omega)⟩
        · rw [g2, eno]
          simp [catB, ByteArray.append_assoc]
        · rw [g3, eno]
          rfl
end Go.Proofs.YtneoagelcjfanaaGreatDoor.chn
