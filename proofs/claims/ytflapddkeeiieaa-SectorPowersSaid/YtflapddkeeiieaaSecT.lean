/- Layer 6, sector: Same. -/
import Derived.Test.YtflapddkeeiieaaSecS
import Derived.Test.YtflapddkeeiieaaThree
import Derived.Stop.BytesEq
namespace Go.Xr
open Go Go.RowKit
/-- A comparison, whatever it is, in a region that draws its order. -/
theorem quiet_bin_v {P : Program} {ops : Array Oper} {S : World → Prop} {a : Act} {o : Oper} {rest : List Oper} {Q' : Act → Prop} (hg : Region.wanted o (yielded ops a.tmps) = true) (op : BinOp) (t ty : TypeId) (x y : Operand) (ho : o.op = .binOp op t x y ty) (xv yv : Value) (hx : a.eval x = xv) (hy : a.eval y = yv) (v : Value)
    (hG : ∀ w, (eqGuard op t x y xv yv).run P w = .ok () w) (hr : ∀ w, (binOp op t xv yv).run P w = .ok v w) (h : wpQuiet P ops S Q' rest (a.put o.dst v)) : wpQuiet P ops S Q' (o :: rest) a := by
  refine wpQuiet_step fun K hK => ?_
  rw [if_pos hg]
  refine ⟨v, fun w hC => ?_, hK _ h⟩
  unfold Oper.quietAt execOp
  simp only [ho, hx, hy, Sem.run_bind, Sem.run_pure, Result.andThen_ok, hG w, hr w]
  exact ⟨rfl, rfl⟩
end Go.Xr
namespace Go.Proofs.Ytflapddkeeiieaa
open Go Go.Xr Go.RowKit
set_option linter.unusedVariables false
set_option linter.unusedSimpArgs false
theorem run_neq_sec (xs ys : List UInt8) (hx : xs.length = 512) (hy : ys.length = 512) (w : World) :
    (binOp .neq 73 (.agg (bv xs).toArray) (.agg (bv ys).toArray)).run Try.prog w = .ok (.bool (!(xs == ys))) w := by
  have h := run_equalIn_bytes (P := Try.prog) w 9998 73 5 512 Try.underlying73 Try.underlying5 (fun w => rfl) xs ys hx hy
  rw [run_neq_struct]
  have e : ∀ l : List UInt8, bv l = l.map Go.Extern.Stop.cell := fun l => rfl
  rw [show (9998 + 2 : Nat) = 10000 from rfl, ← e xs, ← e ys] at h
  rw [h]
  rfl
theorem guard_sec (x y : Operand) (xs ys : Array Value) (w : World) : (eqGuard .neq 73 x y (.agg xs) (.agg ys)).run Try.prog w = .ok () w := run_eqGuard_agg w .neq _ x y xs ys (by kernel_rfl)
theorem row_at {cs : List Value} {l : List (List UInt8)} {n i : Nat} (h : cs.take (n * 512) = fl l) (h5 : ∀ s ∈ l, s.length = 512) (hi : i < l.length) (hn : l.length = n) : (cs.drop (i * 512)).take 512 = bv l[i] := by
  rw [← fl_drop l i hi h5, ← h, List.drop_take, List.take_take]
  congr 1
  omega
set_option maxHeartbeats 1000000 in
set_option maxRecDepth 20000 in
theorem equalS_any {w : World} {va vb : Value} {a b : List (List UInt8)} {ka kb : Nat} (ha : Xr.Own w 512 va a.length (fl a) (some ka)) (hb : Xr.Own w 512 vb b.length (fl b) (some kb)) (ha5 : ∀ s ∈ a, s.length = 512) (hb5 : ∀ s ∈ b, s.length = 512) (hal : a.length ≤ 16384) (hbl : b.length ≤ 16384) :
    Calls Try.prog 53 #[va, vb] w fun e w' => e = .returned (.bool (a == b)) ∧ Fr [] w w' := by
  obtain ⟨ca, xa1, xa2, xa3, _⟩ := own_splice ha
  obtain ⟨cb, xb1, xb2, xb3, _⟩ := own_splice hb
  obtain ⟨ac, rfl⟩ : ∃ c, va = .slice (some ⟨ka, 0, none⟩) a.length c := by
    rcases ha.shape with ⟨_, _, _, h⟩ | ⟨k, c, hk, h1, _⟩
    · cases h
    · cases hk; exact ⟨c, h1⟩
  obtain ⟨bc, rfl⟩ : ∃ c, vb = .slice (some ⟨kb, 0, none⟩) b.length c := by
    rcases hb.shape with ⟨_, _, _, h⟩ | ⟨k, c, hk, h1, _⟩
    · cases h
    · cases hk; exact ⟨c, h1⟩
  obtain ⟨n, hn⟩ : ∃ n, a.length = n := ⟨_, rfl⟩
  obtain ⟨m, hm⟩ : ∃ m, b.length = m := ⟨_, rfl⟩
  have HA := hid xa3
  have HB := hid xb3
  have Ha5 := hid ha5
  have Hb5 := hid hb5
  rw [hn] at xa2 hal ⊢
  rw [hm] at xb2 hbl ⊢
  have Hn := hid hn
  have Hm := hid hm
  clear ha hb xa3 xb3 ha5 hb5 hn hm
  by_cases hnm : n = m
  · subst hnm
    go_enter Try.func53, Try.ntmps53
    go_wp2
    go_loopw [13] (fun iv wr => ∃ i : Nat, i ≤ n ∧ iv = .int .i64 (i : Int) ∧ a.take i = b.take i ∧ Fr [] w wr) (fun iv _ => n - (intOf iv).toNat)
    case atStart => exact ⟨0, Nat.zero_le _, rfl, rfl, Fr.refl _ _⟩
    case round =>
      obtain ⟨i, hi, rfl, he, f⟩ := hrel
      by_cases hin : i < n
      · have hd : decide (i < n) = true := by simp; omega
        have hia : i < a.length := by rw [Hn.out]; exact hin
        have hib : i < b.length := by rw [Hm.out]; exact hin
        have ra := row_at HA.out Ha5.out hia rfl
        have rb := row_at HB.out Hb5.out hib rfl
        have lx : a[i].length = 512 := Ha5.out _ (List.getElem_mem hia)
        have ly : b[i].length = 512 := Hb5.out _ (List.getElem_mem hib)
        have hta : a.take (i + 1) = a.take i ++ [a[i]] := (List.take_append_getElem hia).symm
        have htb : b.take (i + 1) = b.take i ++ [b[i]] := (List.take_append_getElem hib).symm
        have hne : a[i] ≠ b[i] → (a == b) = false := fun h => by
          rw [beq_eq_false_iff_ne]
          intro e
          subst e
          exact h rfl
        generalize a[i] = x at *
        generalize b[i] = y at *
        have ba := f.blk xa1 (by simp)
        have bb := f.blk xb1 (by simp)
        have HL := hid (And.intro lx ly)
        have HR := hid (And.intro ra rb)
        have HT := hid (And.intro hta (And.intro htb he))
        have HN := hid hne
        clear hia hib ra rb lx ly hta htb hne he
        by_cases hxy : x = y
        · subst hxy
          have hnb := fun w => run_neq_sec x x HL.out.1 HL.out.1 w
          rw [show (!(x == x)) = false from by simp] at hnb
          go_wp2_with fail
          refine wp_region_D (fun _ => True) false [] (by kernel_rfl) ?_
          refine WD.pure [0, 1, 2, 3, 4, 5, 6, 7, 8] (by kernel_rfl) trivial ?_
          simp only [pick, List.toList_toArray, List.map_cons, List.map_nil, List.getD_cons_succ, List.getD_cons_zero]
          repeat (first | (refine quiet_load_ag rfl _ _ rfl rfl (bv x) ba.drew secT (by rw [bv_length]; exact HL.out.1) HR.out.1 ?_; simp only [World.size_alloc, World.size_drew, Act.put, List.setIfInBounds_toArray, List.set_cons_succ, List.set_cons_zero]) | (refine quiet_load_ag rfl _ _ rfl rfl (bv x) bb.drew secT (by rw [bv_length]; exact HL.out.1) HR.out.2 ?_; simp only [World.size_alloc, World.size_drew, Act.put, List.setIfInBounds_toArray, List.set_cons_succ, List.set_cons_zero]) | (refine quiet_bin_v (by rfl) _ _ _ _ _ rfl _ _ rfl rfl (.bool false) (fun w => guard_sec _ _ _ _ w) hnb ?_; simp only [World.size_alloc, World.size_drew, Act.put, List.setIfInBounds_toArray, List.set_cons_succ, List.set_cons_zero]) | go_big_quiet_step (fail))
          refine wpQuiet_nil ?_
          refine WD.done (by kernel_rfl) ?_
          go_wp2_with fail
          go_roundw
          case rel => exact ⟨i + 1, by omega, by go_num, by rw [HT.out.1, HT.out.2.1, HT.out.2.2], f.drew⟩
          case measure => simp [intOf]; omega
        · have hnb := fun w => run_neq_sec x y HL.out.1 HL.out.2 w
          rw [show (!(x == y)) = true from by simpa using hxy] at hnb
          go_wp2_with fail
          refine wp_region_D (fun _ => True) false [] (by kernel_rfl) ?_
          refine WD.pure [0, 1, 2, 3, 4, 5, 6, 7, 8] (by kernel_rfl) trivial ?_
          simp only [pick, List.toList_toArray, List.map_cons, List.map_nil, List.getD_cons_succ, List.getD_cons_zero]
          repeat (first | (refine quiet_load_ag rfl _ _ rfl rfl (bv x) ba.drew secT (by rw [bv_length]; exact HL.out.1) HR.out.1 ?_; simp only [World.size_alloc, World.size_drew, Act.put, List.setIfInBounds_toArray, List.set_cons_succ, List.set_cons_zero]) | (refine quiet_load_ag rfl _ _ rfl rfl (bv y) bb.drew secT (by rw [bv_length]; exact HL.out.2) HR.out.2 ?_; simp only [World.size_alloc, World.size_drew, Act.put, List.setIfInBounds_toArray, List.set_cons_succ, List.set_cons_zero]) | (refine quiet_bin_v (by rfl) _ _ _ _ _ rfl _ _ rfl rfl (.bool true) (fun w => guard_sec _ _ _ _ w) hnb ?_; simp only [World.size_alloc, World.size_drew, Act.put, List.setIfInBounds_toArray, List.set_cons_succ, List.set_cons_zero]) | go_big_quiet_step (fail))
          refine wpQuiet_nil ?_
          refine WD.done (by kernel_rfl) ?_
          go_wp2_with fail
          go_ret
          rw [HN.out hxy]
          exact ⟨rfl, f.drew⟩
      · have hd : decide (i < n) = false := by simp; omega
        have hin' : i = n := by omega
        have hab : a = b := by
          rw [hin', ← Hn.out, List.take_length, Hn.out, ← Hm.out, List.take_length] at he
          exact he
        go_wp2_with fail
        go_ret
        rw [hab, beq_self_eq_true]
        exact ⟨rfl, f⟩
  · have hd : decide ((n : Int) = (m : Int)) = false := by simp; omega
    have hd' : ((n : Int) == (m : Int)) = false := by simp; omega
    go_enter Try.func53, Try.ntmps53
    go_wp2
    go_ret
    have e : (a == b) = false := by
      rw [beq_eq_false_iff_ne]
      intro e
      exact hnm (by rw [← Hn.out, ← Hm.out, e])
    rw [e]
    exact ⟨rfl, Fr.refl _ _⟩
end Go.Proofs.Ytflapddkeeiieaa
