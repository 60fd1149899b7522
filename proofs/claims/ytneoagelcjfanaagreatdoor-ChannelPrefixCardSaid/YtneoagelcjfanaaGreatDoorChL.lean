/- Layer 22: what is sent, record by record (plain). -/
import Derived.Test.YtneoagelcjfanaaGreatDoorChK
namespace Go.Proofs.YtneoagelcjfanaaGreatDoor.chn
open Go Go.Xr Go.RowKit Go.Proofs.YtneoagelcjfanaaGreatDoor Go.Proofs.YtneoagelcjfanaaGreatDoor.rcd
set_option linter.unusedVariables false
set_option linter.unusedSimpArgs false
def cks (t : ByteArray) : List ByteArray := (List.range (pcs t)).map (chunk t)
theorem cks_size (t : ByteArray) : ∀ c ∈ cks t, c.size ≤ 8192 := by
  intro c hc
  obtain ⟨k, _, rfl⟩ := List.mem_map.1 hc
  exact chunk_size t k
theorem cks_len (t : ByteArray) : (cks t).length = pcs t := by simp [cks]
theorem wir_app (K : CH) : ∀ (a b : List ByteArray) (no : UInt64), wir K no (a ++ b) = wir K no a ++ wir K (no + UInt64.ofNat a.length) b
  | [], b, no => by
    show wir K no b = ⟨#[]⟩ ++ wir K (no + UInt64.ofNat 0) b
    rw [bempty_app]
    simp
  | c :: a, b, no => by
    show oneR K no c ++ wir K (no + 1) (a ++ b) = (oneR K no c ++ wir K (no + 1) a) ++ wir K (no + UInt64.ofNat (a.length + 1)) b
    rw [wir_app K a b (no + 1), ByteArray.append_assoc]
    have e : no + 1 + UInt64.ofNat a.length = no + UInt64.ofNat (a.length + 1) := by
      rw [UInt64.ofNat_add, UInt64.add_assoc, UInt64.add_comm 1]
      rfl
    rw [e]
theorem catB_app : ∀ a b : List ByteArray, catB (a ++ b) = catB a ++ catB b
  | [], b => (bempty_app _).symm
  | c :: a, b => by
    show c ++ catB (a ++ b) = (c ++ catB a) ++ catB b
    rw [catB_app a b, ByteArray.append_assoc]
theorem wireK_wir (K : CH) (no : UInt64) (t : ByteArray) : ∀ k, wireK K no t k = wir K no ((List.range k).map (chunk t))
  | 0 => rfl
  | k + 1 => by
    rw [List.range_succ, List.map_append, wir_app, ← wireK_wir K no t k]
    show wireK K no t k ++ oneR K (no + UInt64.ofNat k) (chunk t k) = wireK K no t k ++ (oneR K (no + UInt64.ofNat ((List.range k).map (chunk t)).length) (chunk t k) ++ ⟨#[]⟩)
    rw [app_bempty]
    simp
theorem sendS_wir (K : CH) (no : UInt64) (t : ByteArray) : sendS K no t = wir K no (cks t) := wireK_wir K no t _
theorem catB_range (t : ByteArray) : ∀ k, catB ((List.range k).map (chunk t)) = t.extract 0 (min (8192 * k) t.size)
  | 0 => by
    apply ByteArray.ext
    simp [catB, ByteArray.data_extract]
  | k + 1 => by
    rw [List.range_succ, List.map_append, catB_app, catB_range t k]
    show _ ++ (chunk t k ++ ⟨#[]⟩) = _
    rw [app_bempty]
    unfold chunk
    apply ByteArray.ext
    simp only [ByteArray.data_append, ByteArray.data_extract]
    by_cases h : 8192 * k ≤ t.size
    · rw [Nat.min_eq_left h, Array.extract_append_extract]
      congr 1 <;> omega
    · have e1 : t.data.extract (8192 * k) (min (8192 * (k + 1)) t.size) = #[] := by
        apply Array.eq_empty_of_size_eq_zero
        simp
        omega
      rw [e1, Array.append_empty]
      congr 1
      omega
theorem cks_cat (t : ByteArray) : catB (cks t) = t := by
  unfold cks
  rw [catB_range]
  have e : min (8192 * pcs t) t.size = t.size := by unfold pcs; omega
  rw [e]
  exact ByteArray.extract_zero_size ..
/-- A record in another one's place. -/
theorem take_wrong {A B : CH} (h1 : B.ci = A.co) (h2 : B.mi = A.mo) (h3 : B.li = A.lo) (hc : A.co.size = 16) (hm : A.mo.size = 32) (c : ByteArray) (x no : UInt64) (f : Nat) (out : ByteArray) (hc8 : c.size ≤ 8192) (hne : x ≠ no) :
    takeL B (f + 1) no (oneR A x c) out = ⟨no, ⟨#[]⟩, out, 7⟩ := by
  obtain ⟨n, hn⟩ : ∃ n, clsN c.size + 40 = n := ⟨_, rfl⟩
  have hns := clsN_le c.size
  have hw : wholeB n = true := by rw [← hn]; exact wholeB_cls _
  have hrs : (recS A.co A.mo A.lo x c).size = n := by rw [recS_size _ _ _ _ _ hc8]; exact hn
  have hH : oneR A x c = u32S n ++ recS A.co A.mo A.lo x c ++ ⟨#[]⟩ := by
    rw [app_bempty]
    show u32S (clsN c.size + 40) ++ _ = _
    rw [hn]
  have hs : (oneR A x c).size = 4 + n := by rw [hH, ByteArray.size_append, ByteArray.size_append, hrs, u32S_size]; rfl
  have ht : tellN (oneR A x c) = n := by rw [hH, ByteArray.append_assoc]; exact tellN_u32 _ _ (by omega)
  obtain ⟨m1, m2⟩ := app_mid (u32S n) (recS A.co A.mo A.lo x c) ⟨#[]⟩
  rw [← hH, hrs, u32S_size] at m1 m2
  show (if (oneR A x c).size < 4 then _ else if wholeB (tellN (oneR A x c)) = false then _ else if (oneR A x c).size < 4 + tellN (oneR A x c) then _ else if recOk B.ci B.mi B.li no ((oneR A x c).extract 4 (4 + tellN (oneR A x c))) then _ else (⟨no, (oneR A x c).extract (4 + tellN (oneR A x c)) (oneR A x c).size, out, 7⟩ : TK)) = _
  rw [ht, if_neg (by omega), if_neg (by rw [hw]; decide), if_neg (by omega), m1, m2, h1, h2, h3, recOk_rec _ _ _ _ _ _ hc hm hc8, if_neg (by simpa using hne)]
end Go.Proofs.YtneoagelcjfanaaGreatDoor.chn
