/- Layer 1: ShaTexts, the walk. -/
import Derived.Test.YtkohnmlnpbkphaaShaM
namespace Go.Proofs.Ytkohnmlnpbkphaa
open Go Go.Xr Go.RowKit
set_option linter.unusedVariables false
set_option linter.unusedSimpArgs false

theorem hex_read (b : ByteArray) (h : b.size = 32) : readE (hexS b) = 0 ∧ readS (hexS b) = b := by
  have hl : b.data.toList.length = 32 := by rw [bytes_len, h]
  have h1 := read_yes (hexS b) (by rw [hexS_size, h]) (hexL_ok b.data.toList hl)
  refine ⟨h1.1, h1.2.trans ?_⟩
  have e : (hexS b).data.toList = hexL b.data.toList := by unfold hexS; simp
  rw [e, hexL_back _ hl]
theorem hex_unread (b : ByteArray) (h : b.size ≠ 32) : readE (hexS b) = 2 ∧ readS (hexS b) = ⟨#[]⟩ := read_no (hexS b) (.inl (by rw [hexS_size]; omega))

set_option maxHeartbeats 1000000 in
set_option maxRecDepth 20000 in
theorem texts_walk {w : World} (b s : ByteArray) (hb : b.size ≤ 9223372036854775807) (hs : s.size ≤ 9223372036854775807) : Calls Try.prog 5 #[.string b, .string s] w fun e w' => e = .returned (.bool true) ∧ Fr [] w w' := by
  by_cases h : b.size ≤ 16384
  · obtain ⟨x, E, hxe⟩ : ∃ x E, readS s = x ∧ readE s = E := ⟨_, _, rfl, rfl⟩
    have h1 := fun w0 : World => read_any (w := w0) s hs
    have h2 := fun w0 : World => rread_any (w := w0) s hs
    have h3 := fun w0 : World => hex_any (w := w0) b (by omega)
    have h4 := fun w0 : World => read_any (w := w0) (hexS b) (by rw [hexS_size]; omega)
    have h5 := fun w0 : World => rhex_any (w := w0) b (by omega)
    rw [hxe.1, hxe.2] at h1 h2
    have H1 := hid h1
    have H2 := hid h2
    have H3 := hid h3
    have H5 := hid h5
    clear h1 h2 h3 h5 hxe
    by_cases h32 : b.size = 32
    · rw [(hex_read b h32).1, (hex_read b h32).2] at h4
      have H4 := hid h4
      have hd : ((b.size : Int) == 32) = true := by simp; omega
      clear h4 h32
      go_enter Try.func5, Try.ntmps5
      go_wp2_with fail
      refine (H1.out _).mono ?_
      rintro e w1 ⟨rfl, f1⟩
      go_wp2_with fail
      refine (H2.out _).mono ?_
      rintro e w2 ⟨rfl, f2⟩
      go_wp2_with fail
      refine (H3.out _).mono ?_
      rintro e w3 ⟨rfl, f3⟩
      go_wp2_with fail
      refine (H4.out _).mono ?_
      rintro e w4 ⟨rfl, f4⟩
      go_wp2_with fail
      refine (H3.out _).mono ?_
      rintro e w5 ⟨rfl, f5⟩
      go_wp2_with fail
      refine (H5.out _).mono ?_
      rintro e w6 ⟨rfl, f6⟩
      go_wp2_with fail
      refine alive_any.mono ?_
      rintro e w7 ⟨rfl, f7⟩
      go_wp2_with fail
      go_ret
      exact ⟨rfl, (((((f1.trans' f2).trans' f3).trans' f4).trans' f5).trans' f6).trans' f7⟩
    · rw [(hex_unread b h32).1, (hex_unread b h32).2] at h4
      have H4 := hid h4
      have hd : ((b.size : Int) == 32) = false := by simp; omega
      clear h4 h32
      go_enter Try.func5, Try.ntmps5
      go_wp2_with fail
      refine (H1.out _).mono ?_
      rintro e w1 ⟨rfl, f1⟩
      go_wp2_with fail
      refine (H2.out _).mono ?_
      rintro e w2 ⟨rfl, f2⟩
      go_wp2_with fail
      refine (H3.out _).mono ?_
      rintro e w3 ⟨rfl, f3⟩
      go_wp2_with fail
      refine (H4.out _).mono ?_
      rintro e w4 ⟨rfl, f4⟩
      go_wp2_with fail
      refine (H3.out _).mono ?_
      rintro e w5 ⟨rfl, f5⟩
      go_wp2_with fail
      refine (H5.out _).mono ?_
      rintro e w6 ⟨rfl, f6⟩
      go_wp2_with fail
      refine alive_any.mono ?_
      rintro e w7 ⟨rfl, f7⟩
      go_wp2_with fail
      go_ret
      exact ⟨rfl, (((((f1.trans' f2).trans' f3).trans' f4).trans' f5).trans' f6).trans' f7⟩
  · go_enter Try.func5, Try.ntmps5
    go_wp2_with fail
    refine alive_any.mono ?_
    rintro e w3 ⟨rfl, f3⟩
    go_wp2_with fail
    go_ret
    exact ⟨rfl, f3⟩
end Go.Proofs.Ytkohnmlnpbkphaa
