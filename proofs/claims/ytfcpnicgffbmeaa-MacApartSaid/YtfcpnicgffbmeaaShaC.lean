/- Layer 1, sha: Add. -/
import Derived.Test.YtfcpnicgffbmeaaShaB
import Derived.Test.YtfcpnicgffbmeaaShaT
import Derived.Test.YtfcpnicgffbmeaaCopy
namespace Go.Proofs.Ytfcpnicgffbmeaa
open Go Go.Xr Go.RowKit
set_option linter.unusedVariables false
set_option linter.unusedSimpArgs false

theorem hcs_splice (tp : Nat) (v : List UInt32) (p : List UInt8) (n r : Nat) (c : List UInt8) (hv : v.length = 8) (hp : p.length = 64) (h : r + c.length ≤ 64) :
    splice (hcs tp v p n) (9 + r) (bv c) = hcs tp v (spl p r c) n := by
  unfold splice hcs spl
  have e1 : 9 + r = (Value.pointer (some ⟨tp, 0, none⟩) :: w32s v).length + r := by simp [w32s, hv]
  have e2 : Value.pointer (some ⟨tp, 0, none⟩) :: (w32s v ++ (bv p ++ [.int .u64 (n : Int)])) = (Value.pointer (some ⟨tp, 0, none⟩) :: w32s v) ++ (bv p ++ [.int .u64 (n : Int)]) := rfl
  rw [e2, e1, Nat.add_assoc, List.take_length_add_append, List.drop_length_add_append, bv_length, List.take_append_of_le_length (by simp [hp]; omega), List.drop_append_of_le_length (by simp [hp]; omega), bv_take, bv_drop, bv_append, bv_append]
  simp
theorem hcs_n (tp : Nat) (v : List UInt32) (p : List UInt8) (n : Nat) (hv : v.length = 8) (hp : p.length = 64) : (hcs tp v p n)[73]? = some (.int .u64 n) := by
  unfold hcs w32s
  rw [show 73 = (8 + 64) + 1 by omega, List.getElem?_cons_succ, List.getElem?_append_right (by simp [hv]), List.getElem?_append_right (by simp [hv, hp])]
  simp [hv, hp]
theorem hcs_setn (tp : Nat) (v : List UInt32) (p : List UInt8) (n m : Nat) (hv : v.length = 8) (hp : p.length = 64) : (hcs tp v p n).set 73 (.int .u64 m) = hcs tp v p m := by
  unfold hcs w32s
  rw [show 73 = (8 + 64) + 1 by omega, List.set_cons_succ, List.set_append_right _ _ (by simp [hv]), List.set_append_right _ _ (by simp [hv, hp])]
  simp [hv, hp]

/-- A hash that has taken the bytes bs. -/
structure HR (w : World) (hb tp : Nat) (bs : List UInt8) : Prop where
  mem : ∃ v p, Blk w hb (hcs tp v p bs.length) ∧ Inv bs v p
  tab : Blk w tp (tcs B0 K0)
theorem HR.ne {w : World} {hb tp : Nat} {bs : List UInt8} (h : HR w hb tp bs) : hb ≠ tp := by
  intro e
  obtain ⟨v, p, h1, h2⟩ := h.mem
  have := congrArg List.length (Blk.eq h1 (e ▸ h.tab))
  rw [hcs_length tp v p _ h2.v8 h2.pl] at this
  exact absurd this (by decide)
theorem HR.keep {w w' : World} {hb tp : Nat} {bs : List UInt8} {S : List Nat} (h : HR w hb tp bs) (f : Fr S w w') (h1 : hb ∉ S) (h2 : tp ∉ S) : HR w' hb tp bs := by
  obtain ⟨v, p, h3, h4⟩ := h.mem
  exact ⟨⟨v, p, f.blk h3 h1, h4⟩, f.blk h.tab h2⟩

theorem extract_drop (x : ByteArray) (k : Nat) : (x.extract k x.size).data.toList = x.data.toList.drop k := by
  have e : x.data.toList.length = x.size := bytes_len x
  simp only [ByteArray.data_extract, Array.toList_extract, List.extract]
  rw [← e]
  exact List.take_of_length_le (by simp)

def strLen : Value → Nat
  | .string t => t.size
  | _ => 0
theorem strLen_eq (t : ByteArray) : strLen (.string t) = t.size := rfl
theorem extract_size (t : ByteArray) (k : Nat) : (t.extract k t.size).size = t.size - k := by simp

set_option maxHeartbeats 1000000 in
set_option maxRecDepth 20000 in
theorem add_any {w : World} {hb tp : Nat} {bs : List UInt8} (h : HR w hb tp bs) (s : ByteArray) (hs : bs.length + s.size < 1152921504606846976) :
    Calls Try.prog 23 #[.pointer (some ⟨hb, 0, none⟩), .string s] w fun e w' => e = .returned (.int .i64 0) ∧ HR w' hb tp (bs ++ s.data.toList) ∧ Fr [hb] w w' := by
  obtain ⟨v, p, hH, hI⟩ := h.mem
  have hc0 := hH.cell 0
  rw [show (hcs tp v p bs.length)[0]? = some (.pointer (some ⟨tp, 0, none⟩)) from rfl] at hc0
  have H := hid h
  clear h hH hI
  go_enter Try.func23, Try.ntmps23
  go_wp2_with fail
  clear hc0
  go_loopw [1] (fun x wr => ∃ (t : ByteArray) (d : List UInt8), x = .string t ∧ Hid (s.data.toList = d ++ t.data.toList) ∧ d.length + t.size ≤ s.size ∧ HR wr hb tp (bs ++ d) ∧ Fr [hb] w wr) (fun x _ => strLen x)
  case atStart => exact ⟨s, [], rfl, rfl, by simp, by rw [List.append_nil]; exact H.out, Fr.refl _ _⟩
  case round =>
    obtain ⟨t, d, rfl, hd, hdl, hr, f⟩ := hrel
    obtain ⟨v1, p1, hH, hI⟩ := hr.mem
    have hT := hr.tab
    have hne := hid hr.ne
    have hbl := bytes_len t
    have Hbl := hid hbl
    have hte : t.toList = t.data.toList := ByteArray.toList_eq t
    clear H hr hbl
    obtain ⟨N, hN, hN2⟩ : ∃ N : Nat, (bs ++ d).length = N ∧ N + t.size < 1152921504606846976 := ⟨_, rfl, by rw [List.length_append]; omega⟩
    rw [hN] at hH
    have HN := hid hN
    clear hN
    by_cases ht : t.size = 0
    · have hnil : t.data.toList = [] := List.eq_nil_of_length_eq_zero (by rw [Hbl.out]; exact ht)
      have ht1 : t.toList.isEmpty = true := by rw [hte, hnil]; rfl
      have Hd : Hid (s.data.toList = d) := by
        rw [hd.out, hnil, List.append_nil]
        exact hid rfl
      clear hnil hte ht
      go_wp2_with fail
      go_ret
      refine ⟨rfl, ⟨⟨v1, p1, ?_, ?_⟩, hT⟩, f⟩
      · rw [Hd.out, HN.out]
        exact hH
      · rw [Hd.out]
        exact hI
    · have ht1 : t.toList.isEmpty = false := by
        rw [hte]
        cases e : t.data.toList with
        | nil => rw [e] at Hbl; exact absurd Hbl.out.symm ht
        | cons _ _ => rfl
      have HI := hid hI
      clear hte hI
      have hm1 : N % 64 < 64 := Nat.mod_lt _ (by decide)
      have hm2 : (0 : Int) ≤ (N : Int) % 64 := by omega
      have hm4 : (N : Int) % 64 ≤ 64 := by omega
      have hm6 : ¬ (64 = N % 64) := by omega
      have hm5 : ((N : Int) % 64).toNat = N % 64 := by omega
      go_wp2_with fail
      obtain ⟨ι, W, hι, hW1, hW2, hW0⟩ := family (fun w' => w'.cell? ⟨hb, 73, none⟩ = some (.int .u64 (N : Int))) (w := wr.drew) (by rw [World.cell?_drew, hH.cell]; exact hcs_n tp v1 p1 N HI.out.v8 HI.out.pl)
      have HW1 := hid hW1
      have HW2 := hid hW2
      have HW0 := hid hW0
      clear hW1 hW2 hW0
      have hS1 := HW1.out
      refine wp_region_X (fun w' => ∃ j, w' = W j) false (by kernel_rfl) ?_
      refine WX.pure [0, 1, 2, 3, 4, 5, 6, 7, 8, 9] (by kernel_rfl) HW0.out ?_
      simp only [pick, List.toList_toArray, List.map_cons, List.map_nil, List.getD_cons_succ, List.getD_cons_zero]
      repeat (go_big_quiet_step (fail))
      refine wpQuiet_nil ?_
      refine WX.eff 10 (by kernel_rfl) ?_
      simp only [pick, List.toList_toArray, List.map_cons, List.map_nil, List.getD_cons_succ, List.getD_cons_zero]
      obtain ⟨k, hk, hk1, hk2, hk3, hk4⟩ : ∃ k : Nat, Nat.min t.size (64 - N % 64) = k ∧ 0 < k ∧ k ≤ t.size ∧ N % 64 + k ≤ 64 ∧ (k = t.size ∨ N % 64 + k = 64) := by
        refine ⟨min t.size (64 - N % 64), rfl, ?_, ?_, ?_, ?_⟩ <;> omega
      refine wpList_copy_str rfl _ _ 5 _ _ rfl (64 - N % 64) _ t k hk rfl rfl hH.drew Try.underlying41 (by kernel_rfl) (by rw [hcs_length tp v1 p1 N HI.out.v8 HI.out.pl]; omega) ?_
      intro w2 f2 hb2 hs2
      have hcl : (t.data.toList.take k).length = k := by rw [List.length_take, Hbl.out]; omega
      rw [hcs_splice tp v1 p1 N (N % 64) _ HI.out.v8 HI.out.pl (by rw [hcl]; exact hk3)] at hb2
      have Hcl := hid hcl
      have Hk4 := hid hk4
      clear hcl hk hk4
      have hpl2 : (spl p1 (N % 64) (t.data.toList.take k)).length = 64 := by rw [spl_len p1 _ _ (by rw [HI.out.pl, Hcl.out]; exact hk3)]; exact HI.out.pl
      have Hpl2 := hid hpl2
      clear hpl2
      refine wpList_nil ?_
      refine After.on (HW2.out _ (by rw [hb2.cell]; exact hcs_n tp v1 _ N HI.out.v8 Hpl2.out)) ?_
      simp only [Act.put, List.setIfInBounds_toArray, List.set_cons_succ, List.set_cons_zero]
      refine WX.pure [11] (by kernel_rfl) (HW2.out _ (by rw [hb2.cell]; exact hcs_n tp v1 _ N HI.out.v8 Hpl2.out)) ?_
      simp only [pick, List.toList_toArray, List.map_cons, List.map_nil, List.getD_cons_succ, List.getD_cons_zero]
      repeat (go_big_quiet_step (fail))
      refine wpQuiet_nil ?_
      refine WX.done (by kernel_rfl) ?_
      clear hS1
      clear HW1 HW2 HW0 hι W ι
      have hT2 := f2.blk hT.drew (by simp; exact fun e => hne.out e.symm)
      have g2 : Fr [hb] w w2 := f.drew.trans' f2
      have Hd : Hid (s.data.toList = (d ++ t.data.toList.take k) ++ (t.extract k t.size).data.toList) := by
        rw [extract_drop, List.append_assoc, List.take_append_drop]
        exact hd
      have HNk : Hid ((bs ++ (d ++ t.data.toList.take k)).length = N + k) := by
        rw [← List.append_assoc, List.length_append, HN.out, Hcl.out]
        exact hid rfl
      clear hT f hm2 hm4 hm5 hm6 ht1 hd
      have c73 : w2.cell? ⟨hb, 73, none⟩ = some (.int .u64 (N : Int)) := by rw [hb2.cell]; exact hcs_n tp v1 _ N HI.out.v8 Hpl2.out
      generalize hp2 : spl p1 (N % 64) (t.data.toList.take k) = p2 at *
      have Hp2 := hid hp2
      clear hp2
      go_wp2_with (refine wpList_put rfl _ _ _ rfl rfl (.int .u64 ((N + k : Nat) : Int)) (by rfl) rfl hb2 (by rw [hcs_length tp v1 _ N HI.out.v8 Hpl2.out]; decide) (by kernel_rfl) ?_; intro w3 f3 hb3 hs3; rw [hcs_setn tp v1 _ N _ HI.out.v8 Hpl2.out] at hb3; clear c73; have c73 : w3.cell? ⟨hb, 73, none⟩ = some (.int .u64 ((N + k : Nat) : Int)) := (by rw [hb3.cell]; exact hcs_n tp v1 _ _ HI.out.v8 Hpl2.out); simp only [World.size_alloc, World.size_drew, Act.put, List.setIfInBounds_toArray, List.set_cons_succ, List.set_cons_zero])
      all_goals have hne2 := hne.out
      all_goals have hT3 : Blk w3 tp (tcs B0 K0) := f3.blk hT2 (by simp; exact fun e => hne2 e.symm)
      all_goals have hes := extract_size t k
      · have hz : (N + k) % 64 = 0 := by
          have h0 : (((N : Int) + k) % 64 == 0) = true := by assumption
          simp at h0
          omega
        refine (block_any hb3 hT3 HI.out.v8 Hpl2.out K0_len B0_len).mono ?_
        rintro e w4 ⟨rfl, hb4, f4⟩
        clear hne2 hes
        go_wp2_with fail
        refine ⟨⟨t.extract k t.size, d ++ t.data.toList.take k, rfl, Hd, ?_, ⟨⟨_, _, by rw [HNk.out]; exact hb4, ?_⟩, f4.blk hT3 (by simp; exact fun e => hne.out e.symm)⟩, (g2.trans' f3).trans' f4⟩, ?_⟩
        · rw [List.length_append, Hcl.out, extract_size]; omega
        · have hi := HI.out.whole (t.data.toList.take k) (by rw [HN.out, Hcl.out]; omega) (by rw [Hcl.out]; exact hk1)
          rw [HN.out, Hp2.out] at hi
          rw [← List.append_assoc]
          exact hi
        · rw [strLen_eq, strLen_eq, extract_size]; omega
      · have hz : ¬ (N + k) % 64 = 0 := by
          have h0 : (((N : Int) + k) % 64 == 0) = false := by assumption
          simp at h0
          omega
        refine ⟨⟨t.extract k t.size, d ++ t.data.toList.take k, rfl, Hd, ?_, ⟨⟨_, _, by rw [HNk.out]; exact hb3, ?_⟩, hT3⟩, g2.trans' f3⟩, ?_⟩
        · rw [List.length_append, Hcl.out, extract_size]; omega
        · have hi := HI.out.part (t.data.toList.take k) (by rw [HN.out, Hcl.out]; omega)
          rw [HN.out, Hp2.out] at hi
          rw [← List.append_assoc]
          exact hi
        · rw [strLen_eq, strLen_eq, extract_size]; omega
end Go.Proofs.Ytfcpnicgffbmeaa
