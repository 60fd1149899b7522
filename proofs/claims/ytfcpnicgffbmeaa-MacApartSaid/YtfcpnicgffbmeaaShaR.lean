/- Layer 1, the document's sha: words, a block. -/
import Derived.Test.YtfcpnicgffbmeaaShaB
import Derived.Test.YtfcpnicgffbmeaaShaT
namespace Go.Xr
open Go
theorem shl32_or (a b : UInt32) (n : Nat) : shl32 (a ||| b) n = shl32 a n ||| shl32 b n := by
  unfold shl32
  apply UInt32.toBitVec_inj.1
  show (a.toBitVec ||| b.toBitVec) <<< n = a.toBitVec <<< n ||| b.toBitVec <<< n
  exact BitVec.shiftLeft_or_distrib _ _ _
theorem shl32_shl (a : UInt32) (n m : Nat) : shl32 (shl32 a n) m = shl32 a (n + m) := by
  unfold shl32
  apply UInt32.toBitVec_inj.1
  show (a.toBitVec <<< n) <<< m = a.toBitVec <<< (n + m)
  exact (BitVec.shiftLeft_add _ _ _).symm
theorem shl32_zero (n : Nat) : shl32 0 n = 0 := by
  unfold shl32
  apply UInt32.toBitVec_inj.1
  show (0#32) <<< n = 0#32
  simp
theorem ldw_four (p : List UInt8) (i : Nat) : ldw p i 4 = shl32 (g8 p (4 * i)).toUInt32 24 ||| shl32 (g8 p (4 * i + 1)).toUInt32 16 ||| shl32 (g8 p (4 * i + 2)).toUInt32 8 ||| (g8 p (4 * i + 3)).toUInt32 := by
  simp only [ldw, shl32_or, shl32_shl, shl32_zero, UInt32.zero_or, Nat.add_zero]
theorem schW_alt (l : List UInt32) (i : Nat) : g32 l (i - 16) + sg0 (g32 l (i - 15)) + g32 l (i - 7) + sg1 (g32 l (i - 2)) = schW l i := by
  unfold schW
  rw [UInt32.add_assoc (g32 l (i - 16)), UInt32.add_comm (sg0 _), ← UInt32.add_assoc]
end Go.Xr
namespace Go.Proofs.Ytfcpnicgffbmeaa
open Go Go.Xr Go.RowKit
set_option linter.unusedVariables false
set_option linter.unusedSimpArgs false

attribute [local go_sem] cv8_32 shl_u32 shr_u32 or_u32 xor_u32 and_u32 add_u32 not_u32

theorem rturn_any (x : UInt32) (k : Int) (hk : k ∈ turns.map fun n : Nat => (n : Int)) (w : World) :
    Calls Try.prog 39 #[W32 x, .int .u64 k] w fun e w' => e = .returned (W32 (rotr x k.toNat)) ∧ w = w' := by
  obtain ⟨n, hn, rfl⟩ := List.mem_map.1 hk
  simp only [turns, List.mem_cons, List.not_mem_nil, or_false] at hn
  rcases hn with rfl | rfl | rfl | rfl | rfl | rfl | rfl | rfl | rfl | rfl
  all_goals
    simp only [Int.cast_ofNat_Int]
    go_enter Try.func39, Try.ntmps39
    go_wp2
    go_ret
    exact ⟨rfl, rfl⟩

theorem ldo_set (p : List UInt8) (i : Nat) (h : i < 64) : (w32s (ldo p i)).set i (W32 (ldw p i 4)) = w32s (ldo p (i + 1)) := by
  unfold w32s ldo
  rw [← List.map_set, List.set_append_right _ _ (by rw [ldl_length]; exact Nat.le_refl _), ldl_length, Nat.sub_self, show 64 - i = (64 - (i + 1)) + 1 by omega, List.replicate_succ, List.set_cons_zero, ldl_succ, List.append_assoc]
  rfl
theorem ldo_length (p : List UInt8) (i : Nat) (h : i ≤ 64) : (w32s (ldo p i)).length = 64 := by
  unfold w32s ldo
  rw [List.length_map, List.length_append, ldl_length, List.length_replicate]
  omega
theorem inf28 : ∃ i, Try.prog.info? 52 = some i ∧ i.zero = some (W32 0) ∧ i.size = 1 ∧ i.bytes = 4 := ⟨_, rfl, rfl, rfl, rfl⟩
theorem w32s_get (l : List UInt32) (i : Nat) (h : i < l.length) : (w32s l)[i]? = some (W32 (g32 l i)) := by
  unfold w32s
  rw [List.getElem?_map, g32_eq l i h]
  rfl
theorem w32s_len (l : List UInt32) : (w32s l).length = l.length := by simp [w32s]

def radd (v : List UInt32) (s : St) (m : Nat) : List UInt32 := (List.range 8).map fun i => if i < m then g32 v i + g32 s.list i else g32 s.list i
theorem radd_zero (v : List UInt32) (s : St) : radd v s 0 = s.list := rfl
theorem radd_full (v : List UInt32) (s : St) : radd v s 8 = addW v s 8 := rfl
theorem radd_len (v : List UInt32) (s : St) (m : Nat) : (radd v s m).length = 8 := by simp [radd]
theorem radd_set (v : List UInt32) (s : St) (m : Nat) (hm : m < 8) : (radd v s m).set m (g32 s.list m + g32 v m) = radd v s (m + 1) := by
  rw [UInt32.add_comm]
  have h : m = 0 ∨ m = 1 ∨ m = 2 ∨ m = 3 ∨ m = 4 ∨ m = 5 ∨ m = 6 ∨ m = 7 := by omega
  rcases h with rfl | rfl | rfl | rfl | rfl | rfl | rfl | rfl <;> rfl
theorem radd_get (v : List UInt32) (s : St) (m : Nat) (hm : m < 8) : g32 (radd v s m) m = g32 s.list m := by
  have h : m = 0 ∨ m = 1 ∨ m = 2 ∨ m = 3 ∨ m = 4 ∨ m = 5 ∨ m = 6 ∨ m = 7 := by omega
  rcases h with rfl | rfl | rfl | rfl | rfl | rfl | rfl | rfl <;> rfl

set_option maxHeartbeats 4000000 in
set_option maxRecDepth 100000 in
theorem rblock_any {w : World} {vv : Value} {vb kb : Nat} {v K : List UInt32} {kc : Nat} (hV : Own w 1 vv 8 (w32s v) (some vb)) (hK : Blk w kb (w32s K)) (s : ByteArray) (hs : s.size = 64) (hKl : K.length = 64) (hVl : v.length = 8) :
    Calls Try.prog 33 #[vv, .slice (some ⟨kb, 0, none⟩) 64 kc, .string s] w fun e w' => ∃ rv rb, e = .returned rv ∧ Own w' 1 rv 8 (w32s (compress K v s.data.toList)) (some rb) ∧ w.heap.size ≤ rb ∧ Fr [] w w' := by
  obtain ⟨p, hp⟩ : ∃ p, s.data.toList = p := ⟨_, rfl⟩
  rw [hp]
  have Hp := hid hp
  clear hp
  obtain ⟨i28, hi28, hz28, hs28, hb28⟩ := inf28
  have Hi := hid hi28
  have Hz := hid hz28
  have Hs := hid hs28
  have Hb := hid hb28
  have Hss := hid hs
  have HKl := hid hKl
  have HVl := hid hVl
  obtain ⟨vb', vcap, hvb, rfl, hvc1, hvc2, hvcell⟩ := hV.opened (by decide)
  cases hvb
  have HV := hid hV
  have Hvb := hid (hV.lt vb rfl)
  have Hkb := hid hK.lt
  have Hvcell := hid hvcell
  clear hi28 hz28 hs28 hb28 hKl hVl hs hV hvcell
  go_enter Try.func33, Try.ntmps33
  go_wp2_with (refine wpList_make rfl _ _ _ rfl 64 64 .i64 .i64 rfl rfl 52 _ _ (W32 0) 1 4 Try.underlying62 Hi.out Hz.out Hs.out Hb.out rfl (by decide) (Nat.le_refl _) (by decide) (by decide) ?_; intro hb1; simp only [World.size_alloc, World.size_drew, Act.put, List.setIfInBounds_toArray, List.set_cons_succ, List.set_cons_zero])
  have HB0 : Hid (Blk (w.alloc (.cells (List.replicate (64 * 1) (W32 0)).toArray 52)) w.heap.size (w32s (ldo p 0))) := by
    have e : List.replicate (64 * 1) (W32 0) = w32s (ldo p 0) := by simp [w32s, ldo, ldl]
    rw [← e]
    exact hb1
  clear hb1
  have f0 : Fr [] w (w.alloc (.cells (List.replicate (64 * 1) (W32 0)).toArray 52)) := (Fr.refl [] w).alloc _
  generalize w.alloc (.cells (List.replicate (64 * 1) (W32 0)).toArray 52) = w1 at *
  go_loopw [8] (fun iv wr => ∃ m : Nat, m ≤ 16 ∧ iv = .int .i64 m ∧ Blk wr w.heap.size (w32s (ldo p m)) ∧ Fr [] w wr) (fun iv _ => 16 - (intOf iv).toNat)
  case atStart => exact ⟨0, by omega, rfl, HB0.out, f0⟩
  case round =>
    obtain ⟨m, hm, rfl, hb1, f⟩ := hrel
    clear HB0 f0
    by_cases hlt : m < 16
    · --< a
      have hd1 : decide ((m : Int) < 16) = true := by simp; omega
      have hix : ∀ (i : Int) (j : Nat), i = j → j < 64 → ∀ w0 : World, (Instr.index 9 (.string s) (.int .i64 i)).run Try.prog w0 = .ok (bt (g8 p j)) w0 := fun i j h1 h2 w0 => by
        have := index_str (P := Try.prog) w0 9 s .i64 i j Try.underlying9 h1 (by rw [Hss.out]; exact h2) 0
        rw [Hp.out] at this
        exact this
      have hx0 := hix (4 * (m : Int)) (4 * m) (by omega) (by omega)
      have hx1 := hix (4 * (m : Int) + 1) (4 * m + 1) (by omega) (by omega)
      have hx2 := hix (4 * (m : Int) + 2) (4 * m + 2) (by omega) (by omega)
      have hx3 := hix (4 * (m : Int) + 3) (4 * m + 3) (by omega) (by omega)
      clear hix
      go_wp2_with fail
      obtain ⟨ι, W, hι, hW1, hW2, hW0⟩ := family (fun w' => Blk w' w.heap.size (w32s (ldo p m))) (w := wr.drew) hb1.drew
      have HW1 := hid hW1
      have HW2 := hid hW2
      have HW0 := hid hW0
      clear hW1 hW2 hW0
      refine wp_region_X (fun w' => ∃ j, w' = W j) true (by kernel_rfl) ?_
      refine WX.pure [0, 1, 2, 3, 4, 5, 6, 7, 8, 9, 10, 11, 12, 13, 14, 15, 16, 17, 18, 19, 20, 21, 22, 23, 24, 25, 26, 27, 28, 29, 30, 31] (by kernel_rfl) HW0.out ?_
      simp only [pick, List.toList_toArray, List.map_cons, List.map_nil, List.getD_cons_succ, List.getD_cons_zero]
      repeat (go_big_quiet_step (fail))
      refine wpQuiet_nil ?_
      refine WX.eff 32 (by kernel_rfl) ?_
      simp only [pick, List.toList_toArray, List.map_cons, List.map_nil, List.getD_cons_succ, List.getD_cons_zero]
      refine wpList_put rfl _ _ _ rfl rfl (W32 (ldw p m 4)) (by rw [ldw_four]; rfl) rfl hb1.drew (by rw [ldo_length p m (by omega)]; omega) (by kernel_rfl) ?_
      intro w5 f5 hb5 _
      refine wpList_nil ?_
      refine After.end rfl ?_
      refine WX.done (by kernel_rfl) ?_
      clear HW1 HW2 HW0 hι W ι
      clear hx0 hx1 hx2 hx3
      rw [ldo_set p m (by omega)] at hb5
      go_wp2_with fail
      go_roundw
      case rel => exact ⟨m + 1, by omega, by go_num, hb5, (f.drew).trans f5 (by simp)⟩
      case measure => simp [intOf]; omega
    · have em : m = 16 := by omega
      have hge : (16 : Int) ≤ m := by omega
      have hd1 : decide ((m : Int) < 16) = false := by simp; omega
      have hb2 : Blk wr w.heap.size (w32s (schi p 16)) := by
        rw [em] at hb1
        exact hb1
      clear hb1 em
      go_wp2_with fail
      go_loopw [9] (fun k wr => ∃ i : Nat, 16 ≤ i ∧ i ≤ 64 ∧ k = .int .i64 i ∧ Blk wr w.heap.size (w32s (schi p i)) ∧ Fr [] w wr) (fun k _ => 64 - (intOf k).toNat)
      case atStart => exact ⟨16, by omega, by omega, rfl, hb2, f⟩
      case round =>
        obtain ⟨i, hi1, hi2, rfl, hb3, f3⟩ := hrel
        clear f hb2
        by_cases hlt : i < 64
        · --< b
          have hd2 : decide ((i : Int) < 64) = true := by simp; omega
          go_wp2_with fail
          obtain ⟨ι, W, hι, hW1, hW2, hW0⟩ := family (fun w' => Blk w' w.heap.size (w32s (schi p i))) (w := wr.drew) hb3.drew
          have HW1 := hid hW1
          have HW2 := hid hW2
          have HW0 := hid hW0
          clear hW1 hW2 hW0
          have hS1 : ∀ k, (W k).cell? ⟨w.heap.size, i - 15, none⟩ = some (W32 (g32 (sch p (i - 16)) (i - 15))) := fun k => by rw [(HW1.out k).cell]; exact schi_get p i _ hi1 (by omega)
          have hS2 : ∀ k, (W k).cell? ⟨w.heap.size, i - 2, none⟩ = some (W32 (g32 (sch p (i - 16)) (i - 2))) := fun k => by rw [(HW1.out k).cell]; exact schi_get p i _ hi1 (by omega)
          refine wp_region_X (fun w' => ∃ j, w' = W j) false (by kernel_rfl) ?_
          refine WX.pure [0, 1, 2, 3, 4, 5, 6, 7, 8, 9, 10, 11] (by kernel_rfl) HW0.out ?_
          simp only [pick, List.toList_toArray, List.map_cons, List.map_nil, List.getD_cons_succ, List.getD_cons_zero]
          repeat (go_big_quiet_step (fail))
          refine wpQuiet_nil ?_
          refine WX.done (by kernel_rfl) ?_
          clear hS1 hS2
          clear HW1 HW2 HW0 hι W ι
          have hb4 := hb3.drew
          have f4 := f3.drew
          generalize wr.drew = w4 at *
          go_wp2_with fail
          obtain ⟨ι, W, hι, hW1, hW2, hW0⟩ := family (fun w' => Blk w' w.heap.size (w32s (schi p i))) (w := w4.drew) hb4.drew
          have HW1 := hid hW1
          have HW2 := hid hW2
          have HW0 := hid hW0
          clear hW1 hW2 hW0
          have hS1 : ∀ k, (W k).cell? ⟨w.heap.size, i - 16, none⟩ = some (W32 (g32 (sch p (i - 16)) (i - 16))) := fun k => by rw [(HW1.out k).cell]; exact schi_get p i _ hi1 (by omega)
          have hS2 : ∀ k, (W k).cell? ⟨w.heap.size, i - 7, none⟩ = some (W32 (g32 (sch p (i - 16)) (i - 7))) := fun k => by rw [(HW1.out k).cell]; exact schi_get p i _ hi1 (by omega)
          refine wp_region_X (fun w' => ∃ j, w' = W j) true (by kernel_rfl) ?_
          refine WX.pure [0, 1, 2, 3, 4, 5, 6, 7, 9, 12, 13, 16, 17, 18, 19, 20, 22, 24, 27, 28] (by kernel_rfl) HW0.out ?_
          simp only [pick, List.toList_toArray, List.map_cons, List.map_nil, List.getD_cons_succ, List.getD_cons_zero]
          repeat (go_big_quiet_step (fail))
          refine wpQuiet_nil ?_
          refine WX.eff 8 (by kernel_rfl) ?_
          simp only [pick, List.toList_toArray, List.map_cons, List.map_nil, List.getD_cons_succ, List.getD_cons_zero]
          go_wp2_with (go_at_call 39; refine (rturn_any _ _ (by decide) _).mono ?_; rintro e w' ⟨rfl, rfl⟩)
          refine After.on HW0.out ?_
          refine WX.eff 10 (by kernel_rfl) ?_
          simp only [pick, List.toList_toArray, List.map_cons, List.map_nil, List.getD_cons_succ, List.getD_cons_zero]
          go_wp2_with (go_at_call 39; refine (rturn_any _ _ (by decide) _).mono ?_; rintro e w' ⟨rfl, rfl⟩)
          refine After.on HW0.out ?_
          refine WX.pure [11, 14, 15, 21] (by kernel_rfl) HW0.out ?_
          simp only [pick, List.toList_toArray, List.map_cons, List.map_nil, List.getD_cons_succ, List.getD_cons_zero]
          repeat (go_big_quiet_step (fail))
          refine wpQuiet_nil ?_
          refine WX.eff 23 (by kernel_rfl) ?_
          simp only [pick, List.toList_toArray, List.map_cons, List.map_nil, List.getD_cons_succ, List.getD_cons_zero]
          go_wp2_with (go_at_call 39; refine (rturn_any _ _ (by decide) _).mono ?_; rintro e w' ⟨rfl, rfl⟩)
          refine After.on HW0.out ?_
          refine WX.eff 25 (by kernel_rfl) ?_
          simp only [pick, List.toList_toArray, List.map_cons, List.map_nil, List.getD_cons_succ, List.getD_cons_zero]
          go_wp2_with (go_at_call 39; refine (rturn_any _ _ (by decide) _).mono ?_; rintro e w' ⟨rfl, rfl⟩)
          refine After.on HW0.out ?_
          refine WX.pure [26, 29, 30, 31] (by kernel_rfl) HW0.out ?_
          simp only [pick, List.toList_toArray, List.map_cons, List.map_nil, List.getD_cons_succ, List.getD_cons_zero]
          repeat (go_big_quiet_step (fail))
          refine wpQuiet_nil ?_
          refine WX.eff 32 (by kernel_rfl) ?_
          simp only [pick, List.toList_toArray, List.map_cons, List.map_nil, List.getD_cons_succ, List.getD_cons_zero]
          refine wpList_put rfl _ _ _ rfl rfl (W32 (schW (sch p (i - 16)) i)) (by rw [← schW_alt]; rfl) rfl hb4.drew (by rw [schi_length p i hi2]; exact hlt) (by kernel_rfl) ?_
          intro w5 f5 hb5 _
          refine wpList_nil ?_
          refine After.end rfl ?_
          refine WX.done (by kernel_rfl) ?_
          clear hS1 hS2
          clear HW1 HW2 HW0 hι W ι
          rw [schi_set p i hi1 hlt] at hb5
          go_wp2_with fail
          go_roundw
          case rel => exact ⟨i + 1, by omega, by omega, by go_num, hb5, (f4.drew).trans f5 (by simp)⟩
          case measure => simp [intOf]; omega
        · have ei : i = 64 := by omega
          have hge2 : (64 : Int) ≤ i := by omega
          have hd2 : decide ((i : Int) < 64) = false := by simp; omega
          rw [ei] at hb3
          clear ei
          have HO0 : Hid (Own (wr.alloc (.cells #[] 52)) 1 (.slice (some ⟨wr.heap.size, 0, none⟩) 0 0) 0 [] (some wr.heap.size)) := hid (Own.blk (cs := []) (Blk.alloc wr [] _) (Nat.le_refl _) (by simp) (by simp))
          have fa : Fr [] wr (wr.alloc (.cells #[] 52)) := (Fr.refl [] wr).alloc _
          have Hnews : Hid (∀ j u, (w32s v)[j]? = some u → (wr.alloc (.cells #[] 52)).cell? ((⟨vb, 0, none⟩ : Addr).add j) = some u) := by
            obtain ⟨cs, hcs, _, hct, _⟩ := (HV.out.keep (f3.trans' fa) (by simp)).blkOf
            exact hid (hcs.cells (by rw [List.drop_zero, w32s_len, HVl.out]; exact hct))
          have Hvl := hid (show (w32s v).length = 8 * 1 by rw [w32s_len, HVl.out])
          go_wp2_with (refine wpList_append rfl _ _ _ rfl 52 _ _ 1 4 Try.underlying62 Hi.out Hz.out Hs.out Hb.out rfl (by decide) rfl HO0.out ⟨vb, 0, none⟩ 8 vcap (w32s v) rfl Hvl.out Hnews.out (w32s_one _) (by decide) (by decide) ?_; intro rv0 w5 B0' ho1 f5 hB'; simp only [World.size_alloc, World.size_drew, Act.put, List.setIfInBounds_toArray, List.set_cons_succ, List.set_cons_zero])
          have HO1 : Hid (∃ rb, Own w5 1 rv0 8 (w32s (St.of v).list) (some rb) ∧ w.heap.size < rb) := by
            have e : w32s (St.of v).list = [] ++ w32s v := by
              rw [List.nil_append]
              exact congrArg w32s (list8 v HVl.out).symm
            rw [e]
            have hlt : w.heap.size < wr.heap.size := hb3.lt
            rcases hB' with rfl | ⟨b, rfl, hge⟩
            · exact hid ⟨_, by simpa using ho1, hlt⟩
            · exact hid ⟨b, by simpa using ho1, by simp at hge; omega⟩
          have g5 : Fr [] w w5 := (f3.trans' fa).trans f5 (fun x hx => .inr (by have := f3.size; simp at hx; omega))
          have hW5 := (fa.blk hb3 (by simp)).same (f5.block w.heap.size (by simp; have := hb3.lt; omega) (by simp; have := hb3.lt; omega))
          clear hB' f5 ho1 hb3 f3 fa HO0 Hnews
          go_wp2_with fail
          go_loopw [12, 13] (fun rv iv wr => ∃ (q : Nat) (st : St) (rb : Nat), q ≤ 64 ∧ iv = .int .i64 q ∧ Hid (st = rnds K (sch p 48) q (St.of v)) ∧ Own wr 1 rv 8 (w32s st.list) (some rb) ∧ w.heap.size < rb ∧ Blk wr w.heap.size (w32s (schi p 64)) ∧ Fr [] w wr) (fun _ iv _ => 64 - (intOf iv).toNat)
          case atStart => 
            obtain ⟨rb, h1, h2⟩ := HO1.out
            exact ⟨0, St.of v, rb, by omega, rfl, rfl, h1, h2, hW5, g5⟩
          case round =>
            obtain ⟨q, st, rb, hq, rfl, hst, ho, hrb, hW, g⟩ := hrel
            clear HO1 hW5 g5
            obtain ⟨rb', rcap, hrb', rfl, _, _, _⟩ := ho.opened (by decide)
            cases hrb'
            obtain ⟨cs, hcs, hcl, hct, hback⟩ := ho.blkOf
            have hcj : ∀ j, j < 8 → cs[j]? = some (W32 (g32 st.list j)) := fun j hj => by
              have h1 : (cs.take 8)[j]? = cs[j]? := List.getElem?_take_of_lt hj
              rw [← h1, hct]
              exact w32s_get _ j hj
            have hKr := g.blk hK (by simp)
            have Hback := hid hback
            have Hcj := hid hcj
            clear hback hcj hct
            by_cases hlt : q < 64
            · --< c
              have hd3 : decide ((q : Int) < 64) = true := by simp; omega
              go_wp2_with fail
              obtain ⟨ι, W, hι, hW1, hW2, hW0⟩ := family (fun w' => Blk w' rb cs) (w := wr.drew) hcs.drew
              have HW1 := hid hW1
              have HW2 := hid hW2
              have HW0 := hid hW0
              clear hW1 hW2 hW0
              have hS0 : ∀ k, (W k).cell? ⟨rb, 0, none⟩ = some (W32 st.a) := fun k => by rw [(HW1.out k).cell]; exact Hcj.out 0 (by decide)
              have hS1 : ∀ k, (W k).cell? ⟨rb, 1, none⟩ = some (W32 st.b) := fun k => by rw [(HW1.out k).cell]; exact Hcj.out 1 (by decide)
              have hS2 : ∀ k, (W k).cell? ⟨rb, 2, none⟩ = some (W32 st.c) := fun k => by rw [(HW1.out k).cell]; exact Hcj.out 2 (by decide)
              have hS4 : ∀ k, (W k).cell? ⟨rb, 4, none⟩ = some (W32 st.e) := fun k => by rw [(HW1.out k).cell]; exact Hcj.out 4 (by decide)
              have hS5 : ∀ k, (W k).cell? ⟨rb, 5, none⟩ = some (W32 st.f) := fun k => by rw [(HW1.out k).cell]; exact Hcj.out 5 (by decide)
              have hS6 : ∀ k, (W k).cell? ⟨rb, 6, none⟩ = some (W32 st.g) := fun k => by rw [(HW1.out k).cell]; exact Hcj.out 6 (by decide)
              refine wp_region_X (fun w' => ∃ j, w' = W j) false (by kernel_rfl) ?_
              refine WX.pure [0, 1, 2, 3, 4, 5, 6, 7, 8, 9, 10, 11, 12, 13, 14, 15, 16, 17, 18, 19, 20, 21, 22, 23] (by kernel_rfl) HW0.out ?_
              simp only [pick, List.toList_toArray, List.map_cons, List.map_nil, List.getD_cons_succ, List.getD_cons_zero]
              repeat (go_big_quiet_step (fail))
              refine wpQuiet_nil ?_
              refine WX.done (by kernel_rfl) ?_
              clear hS0 hS1 hS2 hS4 hS5 hS6
              clear HW1 HW2 HW0 hι W ι
              have hcs2 := hcs.drew
              have hK2 := hKr.drew
              have hW2 := hW.drew
              have g2 := g.drew
              clear hcs hKr hW g ho
              generalize wr.drew = w6 at *
              go_wp2_with fail
              obtain ⟨ι, W, hι, hW1, hW2, hW0⟩ := family (fun w' => Blk w' rb cs ∧ Blk w' kb (w32s K) ∧ Blk w' w.heap.size (w32s (schi p 64))) (w := w6.drew) ⟨hcs2.drew, hK2.drew, hW2.drew⟩
              have HW1 := hid hW1
              have HW2 := hid hW2
              have HW0 := hid hW0
              clear hW1 hW2 hW0
              have hS0 : ∀ k, (W k).cell? ⟨rb, 7, none⟩ = some (W32 st.h) := fun k => by rw [(HW1.out k).1.cell]; exact Hcj.out 7 (by decide)
              have hS1 : ∀ k, (W k).cell? ⟨kb, q, none⟩ = some (W32 (g32 K q)) := fun k => by rw [(HW1.out k).2.1.cell]; exact w32s_get K q (by rw [HKl.out]; exact hlt)
              have hS2 : ∀ k, (W k).cell? ⟨w.heap.size, q, none⟩ = some (W32 (g32 (sch p 48) q)) := fun k => by rw [(HW1.out k).2.2.cell]; exact schi_get p 64 q (by decide) (by omega)
              refine wp_region_X (fun w' => ∃ j, w' = W j) false (by kernel_rfl) ?_
              refine WX.pure [0, 1, 2, 3, 5, 8, 12, 13, 14, 15, 16, 17, 18, 19, 21, 22, 23, 24, 26, 27, 28, 29] (by kernel_rfl) HW0.out ?_
              simp only [pick, List.toList_toArray, List.map_cons, List.map_nil, List.getD_cons_succ, List.getD_cons_zero]
              repeat (go_big_quiet_step (fail))
              refine wpQuiet_nil ?_
              refine WX.eff 4 (by kernel_rfl) ?_
              simp only [pick, List.toList_toArray, List.map_cons, List.map_nil, List.getD_cons_succ, List.getD_cons_zero]
              go_wp2_with (go_at_call 39; refine (rturn_any _ _ (by decide) _).mono ?_; rintro e w' ⟨rfl, rfl⟩)
              refine After.on HW0.out ?_
              refine WX.eff 6 (by kernel_rfl) ?_
              simp only [pick, List.toList_toArray, List.map_cons, List.map_nil, List.getD_cons_succ, List.getD_cons_zero]
              go_wp2_with (go_at_call 39; refine (rturn_any _ _ (by decide) _).mono ?_; rintro e w' ⟨rfl, rfl⟩)
              refine After.on HW0.out ?_
              refine WX.pure [7] (by kernel_rfl) HW0.out ?_
              simp only [pick, List.toList_toArray, List.map_cons, List.map_nil, List.getD_cons_succ, List.getD_cons_zero]
              repeat (go_big_quiet_step (fail))
              refine wpQuiet_nil ?_
              refine WX.eff 9 (by kernel_rfl) ?_
              simp only [pick, List.toList_toArray, List.map_cons, List.map_nil, List.getD_cons_succ, List.getD_cons_zero]
              go_wp2_with (go_at_call 39; refine (rturn_any _ _ (by decide) _).mono ?_; rintro e w' ⟨rfl, rfl⟩)
              refine After.on HW0.out ?_
              refine WX.pure [10, 11, 20, 25, 30, 31] (by kernel_rfl) HW0.out ?_
              simp only [pick, List.toList_toArray, List.map_cons, List.map_nil, List.getD_cons_succ, List.getD_cons_zero]
              repeat (go_big_quiet_step (fail))
              refine wpQuiet_nil ?_
              refine WX.done (by kernel_rfl) ?_
              clear hS0 hS1 hS2
              clear HW1 HW2 HW0 hι W ι
              have hcs3 := hcs2.drew
              have hW3 := hW2.drew
              have g3 := g2.drew
              clear hcs2 hK2 hW2 g2
              generalize w6.drew = w7 at *
              have c3 : w7.cell? ⟨rb, 3, none⟩ = some (W32 st.d) := by rw [hcs3.cell]; exact Hcj.out 3 (by decide)
              go_wp2_with (first
                | (go_at_call 39; refine (rturn_any _ _ (by decide) _).mono ?_; rintro e w' ⟨rfl, rfl⟩)
                | (refine wpList_buildSlice_ones rfl _ 8 _ rfl 52 Try.underlying62 _ _ Hi.out Hz.out rfl Hs.out (by decide) (by decide) rfl (w32s (rnd (g32 K q) (g32 (sch p 48) q) st).list) rfl (w32s_one _) ?_; intro hbN; simp only [World.size_alloc, World.size_drew, Act.put, List.setIfInBounds_toArray, List.set_cons_succ, List.set_cons_zero]))
              go_roundw
              case rel =>
                refine ⟨q + 1, rnd (g32 K q) (g32 (sch p 48) q) st, w7.heap.size, by omega, by go_num, by rw [hst]; rfl, ?_, hW3.lt, hW3.old _, g3.alloc _⟩
                exact Own.blk (size := 1) (n := 8) (cap := 8) hbN (Nat.le_refl _) (by decide) rfl
              case measure => simp [intOf]; omega
            · have eq : q = 64 := by omega
              have hd3 : decide ((q : Int) < 64) = false := by simp; omega
              rw [eq] at hst
              clear eq
              have hct2 : cs.take 8 = w32s (radd v st 0) := by
                have h1 := Own.cells1 ho hcs
                rw [h1]
                rfl
              have Hct2 := hid hct2
              have Hcl8 := hid (show 8 ≤ cs.length from hcl)
              clear hct2 hKr hW ho hcl hd3
              go_wp2_with fail
              obtain ⟨wo, rfl⟩ : ∃ wo : World, wo = wr := ⟨_, rfl⟩
              go_loopw [22] (fun iv wx => ∃ (r : Nat) (cs' : List Value), r ≤ 8 ∧ iv = .int .i64 r ∧ Blk wx rb cs' ∧ Hid (cs'.length = cs.length) ∧ Hid (cs'.take 8 = w32s (radd v st r)) ∧ Fr [rb] wo wx) (fun iv _ => 8 - (intOf iv).toNat)
              case atStart => exact ⟨0, cs, by omega, rfl, hcs, rfl, Hct2, Fr.refl _ _⟩
              case round =>
                obtain ⟨r, cs', hr, rfl, hcs', hl', ht', g'⟩ := hrel
                clear hcs
                have gg : Fr [] w wr := g.trans g' (fun x hx => .inr (by simp at hx; omega))
                have hcr : r < 8 → cs'[r]? = some (W32 (g32 st.list r)) := fun h => by
                  have h1 : (cs'.take 8)[r]? = cs'[r]? := List.getElem?_take_of_lt h
                  rw [← h1, ht'.out, w32s_get _ _ (by rw [radd_len]; exact h), radd_get v st r h]
                have Hcr := hid hcr
                clear hcr
                by_cases hlt4 : r < 8
                · have hd4 : decide ((r : Int) < 8) = true := by simp; omega
                  have hvv : wr.cell? ⟨vb, r, none⟩ = some (W32 (g32 v r)) := by
                    rw [gg.cell_old (a := ⟨vb, r, none⟩) Hvb.out, (Hvcell.out r (by rw [w32s_len, HVl.out]; exact hlt4)).1]
                    exact w32s_get _ _ (by rw [HVl.out]; exact hlt4)
                  go_wp2_with fail
                  obtain ⟨ι, W, hι, hW1, hW2, hW0⟩ := family (fun w' => Blk w' rb cs' ∧ w'.cell? ⟨vb, r, none⟩ = some (W32 (g32 v r))) (w := wr.drew) ⟨hcs'.drew, by rw [World.cell?_drew]; exact hvv⟩
                  have HW1 := hid hW1
                  have HW2 := hid hW2
                  have HW0 := hid hW0
                  clear hW1 hW2 hW0
                  have hS1 : ∀ k, (W k).cell? ⟨rb, r, none⟩ = some (W32 (g32 st.list r)) := fun k => by rw [(HW1.out k).1.cell]; exact Hcr.out hlt4
                  have hS2 : ∀ k, (W k).cell? ⟨vb, r, none⟩ = some (W32 (g32 v r)) := fun k => (HW1.out k).2
                  clear hvv
                  refine wp_region_X (fun w' => ∃ j, w' = W j) true (by kernel_rfl) ?_
                  refine WX.pure [0, 1, 2, 3, 4, 5, 6, 7, 8, 9, 10, 11] (by kernel_rfl) HW0.out ?_
                  simp only [pick, List.toList_toArray, List.map_cons, List.map_nil, List.getD_cons_succ, List.getD_cons_zero]
                  repeat (go_big_quiet_step (fail))
                  refine wpQuiet_nil ?_
                  refine WX.eff 12 (by kernel_rfl) ?_
                  simp only [pick, List.toList_toArray, List.map_cons, List.map_nil, List.getD_cons_succ, List.getD_cons_zero]
                  refine wpList_put rfl _ _ _ rfl rfl (W32 (g32 st.list r + g32 v r)) rfl rfl hcs'.drew (by have := hl'.out; have := Hcl8.out; omega) (by kernel_rfl) ?_
                  intro w7 f7 hb7 _
                  refine wpList_nil ?_
                  refine After.end rfl ?_
                  refine WX.done (by kernel_rfl) ?_
                  clear hS1 hS2
                  clear HW1 HW2 HW0 hι W ι
                  have hn : Hid ((cs'.set r (W32 (g32 st.list r + g32 v r))).take 8 = w32s (radd v st (r + 1))) := by
                    rw [List.take_set, ht'.out, ← radd_set v st r hlt4]
                    unfold w32s
                    rw [List.map_set]
                    exact hid rfl
                  go_wp2_with fail
                  go_roundw
                  case rel => exact ⟨r + 1, _, by omega, by go_num, hb7, by rw [List.length_set]; exact hl', hn, g'.drew.trans' f7⟩
                  case measure => simp [intOf]; omega
                · have er : r = 8 := by omega
                  have hd4 : decide ((r : Int) < 8) = false := by simp; omega
                  rw [er, radd_full] at ht'
                  clear er
                  go_wp2_with fail
                  go_ret
                  have ho' := Hback.out wr cs' hcs' hl'.out
                  rw [ht'.out] at ho'
                  refine ⟨_, rb, rfl, ?_, Nat.le_of_lt hrb, gg⟩
                  unfold compress
                  rw [← hst.out]
                  exact ho'
end Go.Proofs.Ytfcpnicgffbmeaa
