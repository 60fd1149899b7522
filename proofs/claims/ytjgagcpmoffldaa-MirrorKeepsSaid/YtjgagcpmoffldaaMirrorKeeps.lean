/- Layer 7: MirrorKeeps, the walk. -/
import Derived.Test.YtjgagcpmoffldaaMirSt
import Derived.Test.YtjgagcpmoffldaaMirrorNil
namespace Go.Proofs.Ytjgagcpmoffldaa
open Go Go.Xr Go.RowKit
set_option linter.unusedVariables false
set_option linter.unusedSimpArgs false
set_option maxRecDepth 20000 in
theorem mk_inf9 : ∃ i, Try.prog.info? 9 = some i ∧ i.zero = some (.string ⟨#[]⟩) ∧ i.size = 1 ∧ i.bytes = 16 := ⟨_, rfl, rfl, rfl, rfl⟩
set_option maxRecDepth 20000 in
theorem stepT7 : AggT Try.prog 47 6 := ⟨_, Try.underlying47, rfl, rfl⟩
section
variable {w : World}
set_option maxRecDepth 20000 in
set_option maxHeartbeats 8000000 in
theorem mirrorKeeps_walk {v0 : Value} {l : List Step7} {LB : Option Nat} (hl : Rc w 6 v0 l.length (l.flatMap stc7) LB) (hlok : ∀ s ∈ l, StOk7 w s) (hlm : l.length ≤ maxLen) :
    Calls Try.prog 4 #[v0] w fun e w' => e = .returned (.bool true) ∧ Fr [] w w' := by
  obtain ⟨la, lc, rfl⟩ := hl.isSlice
  unfold maxLen at hlm
  obtain ⟨i9, hi9, hz9, hs9, hb9⟩ := mk_inf9
  have Hi9 := hid hi9
  have Hz9 := hid hz9
  have Hs9 := hid hs9
  have Hb9 := hid hb9
  obtain ⟨i5, hi5, hz5, hs5, hb5⟩ := inf5
  have Hi5 := hid hi5
  have Hz5 := hid hz5
  have Hs5 := hid hs5
  have Hb5 := hid hb5
  clear hi9 hz9 hs9 hb9 hi5 hz5 hs5 hb5
  have HA := hid malive_any
  have hlen := sy_len 6 6 []
  have hok : SysOk (sy (newXD 6) (newXD 6) []) := sy_ok (mt_newXD_good (by decide) (by decide)) (mt_newXD_good (by decide) (by decide)) []
  have OK0 := hid ((made_stp _).ok hok)
  have T0 : Hid ((sy (newXD 6) (newXD 6) []).made.T ≤ 8) := hid ((made_stp _).T hok)
  have S0 : Hid (Snd (List.replicate 5 Zs) ⟨(sy (newXD 6) (newXD 6) []).made, true, true, 1⟩) := hid (snd_made 5 [])
  have HM := hid fun (w1 : World) (d : Bool → Nat) (FF : Bool → List Nat) (h : Held w1 ([] ++ sysC [] (sy (newXD 6) (newXD 6) []) d FF)) => make_ok h hok (by rw [sy_T]; decide) (by rw [hlen.1, hlen.2]) (by rw [hlen.2]; decide) rfl rfl
  generalize (sy (newXD 6) (newXD 6) []).made = sm at *
  clear hlen hok
  go_enter Try.func4, Try.ntmps4
  go_wp2_with (go_at_call 16; refine (HA.out _).mono ?_; rintro e w0 ⟨rfl, f0⟩; have F0 := hid f0; clear HA f0)
  refine (newp_ok 6 (by decide) (by decide)).mono ?_
  rintro e w1 ⟨d0, G0, rfl, r0, p0, f1, g0⟩
  go_wp2_with fail
  refine (newp_ok 6 (by decide) (by decide)).mono ?_
  rintro e w2 ⟨d1, G1, rfl, r1, p1, f2, g1⟩
  obtain ⟨d, FF, rfl, rfl, ev⟩ := sys_new2 (Ev.refl (Held.nil w0)) r0 p0 f1 g0 r1 p1 f2 g1
  have EV := hid (((Ev.start w).step F0.out).trans ev)
  clear r0 p0 f1 g0 r1 p1 f2 g1 ev F0
  go_wp2_with (first
    | (go_at_call 6; (with_reducible refine (HM.out _ _ _ EV.out.held).mono ?_); rintro e w3 ⟨m, FF3, rfl, v3⟩; have E3 := hid (EV.out.trans v3); clear HM v3 EV)
    | (refine wpList_make rfl _ _ _ rfl 5 5 .i64 .i64 rfl rfl 9 _ _ (.string ⟨#[]⟩) 1 16 Try.underlying43 Hi9.out Hz9.out Hs9.out Hb9.out rfl (by decide) (Nat.le_refl _) (by decide) (by decide) ?_; intro hb1; have E4 := hid (E3.out.new ((Fr.refl [] w3).alloc _) (Res.On.blk hb1) (fun b hb => by simp [Res.blk] at hb; omega)); refine wpList_world (fun w' => Hid (Ev w [] w' (Res.blk w3.heap.size (List.replicate (5 * 1) (.string ⟨#[]⟩)) :: ([] ++ mirC [] m d FF3 ⟨sm, true, true, 1⟩)))) E4 ?_; clear hb1 E4; (try simp only [World.size_alloc, World.size_drew, Act.put, List.setIfInBounds_toArray, List.set_cons_succ, List.set_cons_zero]); intro w4 E4))
  generalize w3.heap.size = nb at *
  clear E3
  have OKm : Hid (SysOk (⟨sm, true, true, 1⟩ : MS).s) := OK0
  have Tm : Hid ((⟨sm, true, true, 1⟩ : MS).s.T ≤ 8) := T0
  generalize MS.mk sm true true 1 = M0 at *
  go_loopw [10] (fun iv wr => ∃ i : Nat, i ≤ 5 ∧ iv = .int .i64 (i : Int) ∧ ∃ N : List ByteArray, N.length = 5 ∧ (∀ j, j < i → N[j]? = some Zs) ∧ Hid (Ev w [] wr (Res.blk nb (N.map .string) :: ([] ++ mirC [] m d FF3 M0)))) (fun iv _ => 5 - (intOf iv).toNat)
  case atStart => exact ⟨0, by omega, rfl, List.replicate 5 ⟨#[]⟩, by simp, fun j h => by omega, by simpa using E4⟩
  case round =>
    obtain ⟨i, hi, rfl, N, hN, hNz, E5⟩ := hrel
    clear E4
    by_cases hlt : i < 5
    · have hbn := E5.out.held.blkAt 0 rfl
      have hcn := hbn.cell i
      rw [List.getElem?_map, List.getElem?_eq_getElem (show i < N.length by omega), Option.map_some] at hcn
      have hfn := hbn.free i (by simp; omega)
      clear hcn hfn
      have HZ := hid (show zsec.length = 512 by unfold zsec; exact List.length_replicate)
      go_wp2_with (first
        | (refine wpList_make rfl _ _ _ rfl 512 512 .i64 .i64 rfl rfl 5 _ _ (bt 0) 1 1 Try.underlying44 Hi5.out Hz5.out Hs5.out Hb5.out rfl (by decide) (Nat.le_refl _) (by decide) (by decide) ?_; intro hb1; (try simp only [World.size_alloc, World.size_drew, Act.put, List.setIfInBounds_toArray, List.set_cons_succ, List.set_cons_zero]))
        | (refine wpList_string_of_bytes rfl _ _ 5 _ rfl 512 512 rfl hb1 zsec HZ.out (by unfold zsec; rw [bv_replicate, List.length_replicate, List.drop_zero, Nat.mul_one, List.take_replicate, Nat.min_self]) Try.underlying44 Try.underlying5 Try.underlying9 ?_; (try simp only [World.size_alloc, World.size_drew, Act.put, List.setIfInBounds_toArray, List.set_cons_succ, List.set_cons_zero]))
        | (refine wpList_put rfl _ _ _ rfl rfl (.string Zs) rfl rfl (hbn.old _) (by simp; omega) (by kernel_rfl) ?_; intro w7 f7 b7 hs7; have E7 := hid ((E5.out.step ((Fr.refl [] wr).alloc _)).at 0 rfl f7 (fun b hb => .inl hb) (Res.On.blk b7) (fun b hb => .inl hb)); clear hb1 hs7; simp only [World.size_alloc, World.size_drew, Act.put, List.setIfInBounds_toArray, List.set_cons_succ, List.set_cons_zero]))
      go_roundw
      case rel =>
        refine ⟨i + 1, by omega, by go_num, N.set i Zs, by rw [List.length_set]; exact hN, fun j hj => ?_, ?_⟩
        · by_cases e : j = i
          · subst e
            rw [List.getElem?_set_self (by omega)]
          · rw [List.getElem?_set_ne (fun e2 => e e2.symm)]
            exact hNz j (by omega)
        · rw [List.map_set]
          exact E7
      case measure => simp [intOf]; omega
    · have hi5 : i = 5 := by omega
      obtain rfl : N = List.replicate 5 Zs := by
        refine List.ext_getElem? fun j => ?_
        by_cases hj : j < 5
        · rw [hNz j (by omega), List.getElem?_replicate_of_lt hj]
        · rw [List.getElem?_eq_none (by omega), List.getElem?_eq_none (by simp; omega)]
      have hd5 : decide ((i : Int) < 5) = false := by simp; omega
      have hd5n : decide (i < 5) = false := by simp; omega
      generalize i = i0 at *
      have S1 : Hid (Snd (List.replicate 5 Zs) M0) := S0
      have Z1 : Hid (∀ x ∈ List.replicate 5 Zs, x.size = 512) := hid fun x hx => by
        rw [List.eq_of_mem_replicate hx]
        show zsec.toArray.size = 512
        rw [List.size_toArray]
        exact List.length_replicate
      clear hN hNz hlt hi hi5
      go_wp2_with fail
      clear hd5 hd5n
      go_loopw [11, 7] (fun iv mv wr => ∃ (i m : Nat) (N : List ByteArray) (M : MS) (FF : Bool → List Nat), i ≤ 60 ∧ i ≤ l.length ∧ iv = .int .i64 (i : Int) ∧ mv = .pointer (some ⟨m, 0, none⟩) ∧ Hid (N.length = 5) ∧ Hid (∀ x ∈ N, x.size = 512) ∧ Hid (Snd N M) ∧ Hid (SysOk M.s) ∧ Hid (M.s.T ≤ 1000 + 1000 * i) ∧ Hid (Ev w [] wr ([Res.blk nb (N.map .string)] ++ mirC [] m d FF M))) (fun iv _ _ => 60 - (intOf iv).toNat)
      case atStart => exact ⟨0, m, _, M0, FF3, by omega, by omega, rfl, rfl, hid (by simp), Z1, S1, OKm, hid (by have := Tm.out; omega), E5⟩
      case round =>
        obtain ⟨i, m, N, M, FF1, hi, hil, rfl, rfl, NL, NZ, SN, OK, TT, EV⟩ := hrel
        clear E5 S1 Z1 OKm Tm T0 S0 OK0
        by_cases hlt : i < 60 ∧ i < l.length
        · obtain ⟨hlt1, hlt2⟩ := hlt
          have hfr : Fr [] w wr := EV.out.nil
          obtain ⟨b, off, cap, hv, hB, hblt, hcs⟩ := step_cell7 (hl.keep hfr (by simp)) i hlt2
          obtain ⟨rfl, rfl⟩ : la = some ⟨b, off, none⟩ ∧ lc = cap := by simpa using hv
          have c0 : wr.cell? ⟨b, off + i * 6, none⟩ = some (.int .i64 l[i].Do) := by simpa [stc7] using hcs 0 (by decide)
          have c1 : wr.cell? ⟨b, off + i * 6 + 1, none⟩ = some (.int .i64 l[i].I) := by simpa [stc7] using hcs 1 (by decide)
          have c2 : wr.cell? ⟨b, off + i * 6 + 2, none⟩ = some (.int .i64 l[i].D) := by simpa [stc7] using hcs 2 (by decide)
          have c3 : wr.cell? ⟨b, off + i * 6 + 3, none⟩ = some (bt l[i].C) := by simpa [stc7] using hcs 3 (by decide)
          have c4 : wr.cell? ⟨b, off + i * 6 + 4, none⟩ = some (.string l[i].Text) := by simpa [stc7] using hcs 4 (by decide)
          have c5 : wr.cell? ⟨b, off + i * 6 + 5, none⟩ = some l[i].Keep := by simpa [stc7] using hcs 5 (by decide)
          have Hst := hid (hlok l[i] (List.getElem_mem hlt2))
          generalize l[i] = s at *
          clear hcs
          have Hone : Hid (∀ u ∈ stc7 s, u.oneCell' = true) := hid (by
            obtain ⟨ka, kc, hk⟩ := Hst.out.k.isSlice
            unfold stc7
            rw [hk]
            simp [Value.oneCell', bt])
          go_wp2_with (refine wpList_store_ag rfl _ _ _ rfl rfl (stc7 s) rfl (Blk.alloc wr [.int .i64 0, .int .i64 0, .int .i64 0, .int .u8 0, .string ⟨#[]⟩, .slice none 0 0] _) stepT7 rfl (by simp) Hone.out ?_; intro w7 f7 b7 hs7; have b7' : Blk w7 wr.heap.size (stc7 s) := b7; have E7 : Hid (Ev w [] w7 ([Res.blk wr.heap.size (stc7 s), Res.blk nb (N.map .string)] ++ mirC [] m d FF1 M)) := hid (EV.out.new (((Fr.refl [] wr).alloc _).trans f7 (fun x hx => .inr (by simp at hx; omega))) (Res.On.blk b7') (fun b hb => by simp [Res.blk] at hb; omega)); clear f7 b7 b7' hs7; simp only [World.size_alloc, World.size_drew, Act.put, List.setIfInBounds_toArray, List.set_cons_succ, List.set_cons_zero])
          generalize wr.heap.size = sb at *
          have hcur := hid (mcur_any E7.out.held)
          clear c0 c1 c2 c3 c4 c5 EV hfr hblt
          go_wp2_with (go_at_call 11; refine hcur.out.mono ?_; rintro e w8 ⟨rfl, f8⟩; have E8 := hid (E7.out.step f8); have kb := E8.out.held.blkAt 0 rfl; have k0 : w8.cell? ⟨sb, 0, none⟩ = some (.int .i64 s.Do) := kb.cell 0; have k1 : w8.cell? ⟨sb, 1, none⟩ = some (.int .i64 s.I) := kb.cell 1; have k2 : w8.cell? ⟨sb, 2, none⟩ = some (.int .i64 s.D) := kb.cell 2; have k3 : w8.cell? ⟨sb, 3, none⟩ = some (bt s.C) := kb.cell 3; have k5 : w8.cell? ⟨sb, 5, none⟩ = some s.Keep := kb.cell 5; clear kb f8 hcur; revert k0)
          intro k0
          by_cases h5 : s.Do = 5
          · have u5 : (s.Do == 5) = true := by simpa using h5
            have TTt0 := TT.out
            rcases k_bit s.D with hb | hb
            · have ub0 : (bits .and .i64 s.D 1 == 0) = true := by rw [hb]; rfl
              have ub1 : (bits .and .i64 s.D 1 == 1) = false := by rw [hb]; rfl
              cases hcc : M.c1 with
              | true =>
                obtain ⟨M1, hM1⟩ : ∃ M1, M1 = ({ M with s := M.s.fa false } : MS) := ⟨_, rfl⟩
                have hfa := hid (mFail false E8.out.held OK.out)
                rw [← hM1] at hfa
                obtain ⟨q1, q2⟩ := snd_fa SN.out false hcc
                rw [← hM1] at q1 q2
                have OKt : Hid (SysOk M1.s) := hid (by rw [hM1]; exact (fa_stp M.s false).ok OK.out)
                have TTt : Hid (M1.s.T ≤ 1000 + 1000 * i + 500) := hid (by have h0 : (M.s.fa false).T ≤ M.s.T := (fa_stp M.s false).T OK.out; rw [hM1]; show (M.s.fa false).T ≤ _; omega)
                have FCt := hid q1
                have SNt := hid q2
                have NLt := NL
                have NZt := NZ
                clear q1 q2 hb
                go_wp2_with (go_at_call 17; (with_reducible refine hfa.out.mono ?_); rintro e w12 ⟨rfl, FFt, vt⟩; have EVt := hid (E8.out.trans vt); clear vt hfa E8 k0 k1 k2 k3 k5; have nst := hid trivial; revert nst)
                intro _
                clear OK TT SN NL NZ TTt0
                clear hM1
                as_aux_lemma =>
                  have hfl := hid (mflush_any EVt.out.held OKt.out (by have := TTt.out; omega))
                  rw [FCt.out] at hfl
                  have OKf := hid ((flushM_stp M1).ok OKt.out)
                  have TTf : Hid ((M1).flushM.s.T ≤ 1000 + 1000 * i + 600) := hid (by have := (flushM_stp M1).T OKt.out; have := TTt.out; omega)
                  have SNf := hid SNt.out
                  generalize (M1).flushM = Mf at *
                  go_wp2_with (go_at_call 13; (with_reducible refine hfl.out.mono ?_); rintro e w9 ⟨rfl, FF9, v9⟩; have E9 := hid (EVt.out.trans v9); clear hfl v9 EVt)
                  go_loopw [18] (fun qv wq => ∃ (q : Nat) (FFq : Bool → List Nat), q ≤ 5 ∧ qv = .int .i64 (q : Int) ∧ Hid (Ev w [] wq ([Res.blk sb (stc7 s), Res.blk nb ((N).map .string)] ++ mirC [] m d FFq Mf))) (fun qv _ => 5 - (intOf qv).toNat)
                  case atStart => exact ⟨0, FF9, by omega, rfl, E9⟩
                  case round =>
                    obtain ⟨q, FFq, hq, rfl, EQ⟩ := hrel
                    clear E9
                    by_cases hq5 : q < 5
                    · have hqN : q < (N).length := by rw [NLt.out]; exact hq5
                      have hr := hid (mread_any EQ.out.held OKf.out (by have := TTf.out; omega) (q : Int))
                      rw [snd_rd SNf.out hqN] at hr
                      obtain ⟨So, co, ho1, ho2⟩ := snd_ot SNf.out hqN
                      have ho := hid fun (w1 : World) (FF1 : Bool → List Nat) (h : Held w1 ([Res.blk sb (stc7 s), Res.blk nb ((N).map .string)] ++ mirC [] m d FF1 Mf)) => mother_any h OKf.out (by have := TTf.out; omega) (q : Int)
                      rw [ho1] at ho
                      have hcell : Hid (∀ (w1 : World) (FF1 : Bool → List Nat), Held w1 ([Res.blk sb (stc7 s), Res.blk nb ((N).map .string)] ++ mirC [] m d FF1 Mf) → w1.cell? ⟨nb, q, none⟩ = some (.string (N)[q])) := hid fun w1 FF1 h => by
                        have := (h.blkAt 1 rfl).cell q
                        rw [List.getElem?_map, List.getElem?_eq_getElem hqN] at this
                        exact this
                      generalize (N)[q] = Sq at *
                      by_cases hco : co = 0
                      · obtain rfl := ho2 hco
                        subst hco
                        clear ho1 ho2
                        go_wp2_with (first
                          | (go_at_call 8; (with_reducible refine hr.out.mono ?_); rintro e w10 ⟨rfl, FF10, v10⟩; have E10 := hid (EQ.out.trans v10); have kq10 := hcell.out _ _ E10.out.held; have ho10 := ho.out _ _ E10.out.held; clear v10 EQ hr ho)
                          | (go_at_call 9; (with_reducible refine ho10.mono ?_); rintro e w11 ⟨rfl, FF11, v11⟩; have E11 := hid (E10.out.trans v11); have kq11 := hcell.out _ _ E11.out.held; clear v11 E10 kq10 ho10))
                        go_roundw
                        case rel => exact ⟨q + 1, FF11, by omega, by go_num, E11⟩
                        case measure => simp [intOf]; omega
                      · have u0 : (co == 0) = false := by simpa using hco
                        clear ho1 ho2
                        go_wp2_with (first
                          | (go_at_call 8; (with_reducible refine hr.out.mono ?_); rintro e w10 ⟨rfl, FF10, v10⟩; have E10 := hid (EQ.out.trans v10); have kq10 := hcell.out _ _ E10.out.held; have ho10 := ho.out _ _ E10.out.held; clear v10 EQ hr ho)
                          | (go_at_call 9; (with_reducible refine ho10.mono ?_); rintro e w11 ⟨rfl, FF11, v11⟩; have E11 := hid (E10.out.trans v11); have kq11 := hcell.out _ _ E11.out.held; clear v11 E10 kq10 ho10))
                        go_roundw
                        case rel => exact ⟨q + 1, FF11, by omega, by go_num, E11⟩
                        case measure => simp [intOf]; omega
                    · obtain rfl : q = 5 := by omega
                      clear hq5 hq
                      go_wp2_with fail
                      go_roundw
                      case rel => exact ⟨i + 1, m, _, Mf, FFq, by omega, by omega, by go_num, rfl, NLt, NZt, SNf, OKf, hid (by have := TTf.out; omega), hid (Ev.less [] _ EQ.out)⟩
                      case measure => simp [intOf]; omega
              | false =>
                have EVt := E8
                have OKt := OK
                have TTt : Hid (M.s.T ≤ 1000 + 1000 * i + 500) := hid (by omega)
                have FCt := hid (snd_flush SN.out).1
                have SNt := hid (snd_flush SN.out).2
                have NLt := NL
                have NZt := NZ
                have FFt := FF1
                clear hb OK TT SN NL NZ TTt0 E8
                as_aux_lemma =>
                  have hfl := hid (mflush_any EVt.out.held OKt.out (by have := TTt.out; omega))
                  rw [FCt.out] at hfl
                  have OKf := hid ((flushM_stp M).ok OKt.out)
                  have TTf : Hid ((M).flushM.s.T ≤ 1000 + 1000 * i + 600) := hid (by have := (flushM_stp M).T OKt.out; have := TTt.out; omega)
                  have SNf := hid SNt.out
                  generalize (M).flushM = Mf at *
                  go_wp2_with (go_at_call 13; (with_reducible refine hfl.out.mono ?_); rintro e w9 ⟨rfl, FF9, v9⟩; have E9 := hid (EVt.out.trans v9); clear hfl v9 EVt)
                  go_loopw [18] (fun qv wq => ∃ (q : Nat) (FFq : Bool → List Nat), q ≤ 5 ∧ qv = .int .i64 (q : Int) ∧ Hid (Ev w [] wq ([Res.blk sb (stc7 s), Res.blk nb ((N).map .string)] ++ mirC [] m d FFq Mf))) (fun qv _ => 5 - (intOf qv).toNat)
                  case atStart => exact ⟨0, FF9, by omega, rfl, E9⟩
                  case round =>
                    obtain ⟨q, FFq, hq, rfl, EQ⟩ := hrel
                    clear E9
                    by_cases hq5 : q < 5
                    · have hqN : q < (N).length := by rw [NLt.out]; exact hq5
                      have hr := hid (mread_any EQ.out.held OKf.out (by have := TTf.out; omega) (q : Int))
                      rw [snd_rd SNf.out hqN] at hr
                      obtain ⟨So, co, ho1, ho2⟩ := snd_ot SNf.out hqN
                      have ho := hid fun (w1 : World) (FF1 : Bool → List Nat) (h : Held w1 ([Res.blk sb (stc7 s), Res.blk nb ((N).map .string)] ++ mirC [] m d FF1 Mf)) => mother_any h OKf.out (by have := TTf.out; omega) (q : Int)
                      rw [ho1] at ho
                      have hcell : Hid (∀ (w1 : World) (FF1 : Bool → List Nat), Held w1 ([Res.blk sb (stc7 s), Res.blk nb ((N).map .string)] ++ mirC [] m d FF1 Mf) → w1.cell? ⟨nb, q, none⟩ = some (.string (N)[q])) := hid fun w1 FF1 h => by
                        have := (h.blkAt 1 rfl).cell q
                        rw [List.getElem?_map, List.getElem?_eq_getElem hqN] at this
                        exact this
                      generalize (N)[q] = Sq at *
                      by_cases hco : co = 0
                      · obtain rfl := ho2 hco
                        subst hco
                        clear ho1 ho2
                        go_wp2_with (first
                          | (go_at_call 8; (with_reducible refine hr.out.mono ?_); rintro e w10 ⟨rfl, FF10, v10⟩; have E10 := hid (EQ.out.trans v10); have kq10 := hcell.out _ _ E10.out.held; have ho10 := ho.out _ _ E10.out.held; clear v10 EQ hr ho)
                          | (go_at_call 9; (with_reducible refine ho10.mono ?_); rintro e w11 ⟨rfl, FF11, v11⟩; have E11 := hid (E10.out.trans v11); have kq11 := hcell.out _ _ E11.out.held; clear v11 E10 kq10 ho10))
                        go_roundw
                        case rel => exact ⟨q + 1, FF11, by omega, by go_num, E11⟩
                        case measure => simp [intOf]; omega
                      · have u0 : (co == 0) = false := by simpa using hco
                        clear ho1 ho2
                        go_wp2_with (first
                          | (go_at_call 8; (with_reducible refine hr.out.mono ?_); rintro e w10 ⟨rfl, FF10, v10⟩; have E10 := hid (EQ.out.trans v10); have kq10 := hcell.out _ _ E10.out.held; have ho10 := ho.out _ _ E10.out.held; clear v10 EQ hr ho)
                          | (go_at_call 9; (with_reducible refine ho10.mono ?_); rintro e w11 ⟨rfl, FF11, v11⟩; have E11 := hid (E10.out.trans v11); have kq11 := hcell.out _ _ E11.out.held; clear v11 E10 kq10 ho10))
                        go_roundw
                        case rel => exact ⟨q + 1, FF11, by omega, by go_num, E11⟩
                        case measure => simp [intOf]; omega
                    · obtain rfl : q = 5 := by omega
                      clear hq5 hq
                      go_wp2_with fail
                      go_roundw
                      case rel => exact ⟨i + 1, m, _, Mf, FFq, by omega, by omega, by go_num, rfl, NLt, NZt, SNf, OKf, hid (by have := TTf.out; omega), hid (Ev.less [] _ EQ.out)⟩
                      case measure => simp [intOf]; omega
            · have ub0 : (bits .and .i64 s.D 1 == 0) = false := by rw [hb]; rfl
              have ub1 : (bits .and .i64 s.D 1 == 1) = true := by rw [hb]; rfl
              cases hcc : M.c0 with
              | true =>
                obtain ⟨M1, hM1⟩ : ∃ M1, M1 = ({ M with s := M.s.fa true } : MS) := ⟨_, rfl⟩
                have hfa := hid (mFail true E8.out.held OK.out)
                rw [← hM1] at hfa
                obtain ⟨q1, q2⟩ := snd_fa SN.out true hcc
                rw [← hM1] at q1 q2
                have OKt : Hid (SysOk M1.s) := hid (by rw [hM1]; exact (fa_stp M.s true).ok OK.out)
                have TTt : Hid (M1.s.T ≤ 1000 + 1000 * i + 500) := hid (by have h0 : (M.s.fa true).T ≤ M.s.T := (fa_stp M.s true).T OK.out; rw [hM1]; show (M.s.fa true).T ≤ _; omega)
                have FCt := hid q1
                have SNt := hid q2
                have NLt := NL
                have NZt := NZ
                clear q1 q2 hb
                go_wp2_with (go_at_call 17; (with_reducible refine hfa.out.mono ?_); rintro e w12 ⟨rfl, FFt, vt⟩; have EVt := hid (E8.out.trans vt); clear vt hfa E8 k0 k1 k2 k3 k5; have nst := hid trivial; revert nst)
                intro _
                clear OK TT SN NL NZ TTt0
                clear hM1
                as_aux_lemma =>
                  have hfl := hid (mflush_any EVt.out.held OKt.out (by have := TTt.out; omega))
                  rw [FCt.out] at hfl
                  have OKf := hid ((flushM_stp M1).ok OKt.out)
                  have TTf : Hid ((M1).flushM.s.T ≤ 1000 + 1000 * i + 600) := hid (by have := (flushM_stp M1).T OKt.out; have := TTt.out; omega)
                  have SNf := hid SNt.out
                  generalize (M1).flushM = Mf at *
                  go_wp2_with (go_at_call 13; (with_reducible refine hfl.out.mono ?_); rintro e w9 ⟨rfl, FF9, v9⟩; have E9 := hid (EVt.out.trans v9); clear hfl v9 EVt)
                  go_loopw [18] (fun qv wq => ∃ (q : Nat) (FFq : Bool → List Nat), q ≤ 5 ∧ qv = .int .i64 (q : Int) ∧ Hid (Ev w [] wq ([Res.blk sb (stc7 s), Res.blk nb ((N).map .string)] ++ mirC [] m d FFq Mf))) (fun qv _ => 5 - (intOf qv).toNat)
                  case atStart => exact ⟨0, FF9, by omega, rfl, E9⟩
                  case round =>
                    obtain ⟨q, FFq, hq, rfl, EQ⟩ := hrel
                    clear E9
                    by_cases hq5 : q < 5
                    · have hqN : q < (N).length := by rw [NLt.out]; exact hq5
                      have hr := hid (mread_any EQ.out.held OKf.out (by have := TTf.out; omega) (q : Int))
                      rw [snd_rd SNf.out hqN] at hr
                      obtain ⟨So, co, ho1, ho2⟩ := snd_ot SNf.out hqN
                      have ho := hid fun (w1 : World) (FF1 : Bool → List Nat) (h : Held w1 ([Res.blk sb (stc7 s), Res.blk nb ((N).map .string)] ++ mirC [] m d FF1 Mf)) => mother_any h OKf.out (by have := TTf.out; omega) (q : Int)
                      rw [ho1] at ho
                      have hcell : Hid (∀ (w1 : World) (FF1 : Bool → List Nat), Held w1 ([Res.blk sb (stc7 s), Res.blk nb ((N).map .string)] ++ mirC [] m d FF1 Mf) → w1.cell? ⟨nb, q, none⟩ = some (.string (N)[q])) := hid fun w1 FF1 h => by
                        have := (h.blkAt 1 rfl).cell q
                        rw [List.getElem?_map, List.getElem?_eq_getElem hqN] at this
                        exact this
                      generalize (N)[q] = Sq at *
                      by_cases hco : co = 0
                      · obtain rfl := ho2 hco
                        subst hco
                        clear ho1 ho2
                        go_wp2_with (first
                          | (go_at_call 8; (with_reducible refine hr.out.mono ?_); rintro e w10 ⟨rfl, FF10, v10⟩; have E10 := hid (EQ.out.trans v10); have kq10 := hcell.out _ _ E10.out.held; have ho10 := ho.out _ _ E10.out.held; clear v10 EQ hr ho)
                          | (go_at_call 9; (with_reducible refine ho10.mono ?_); rintro e w11 ⟨rfl, FF11, v11⟩; have E11 := hid (E10.out.trans v11); have kq11 := hcell.out _ _ E11.out.held; clear v11 E10 kq10 ho10))
                        go_roundw
                        case rel => exact ⟨q + 1, FF11, by omega, by go_num, E11⟩
                        case measure => simp [intOf]; omega
                      · have u0 : (co == 0) = false := by simpa using hco
                        clear ho1 ho2
                        go_wp2_with (first
                          | (go_at_call 8; (with_reducible refine hr.out.mono ?_); rintro e w10 ⟨rfl, FF10, v10⟩; have E10 := hid (EQ.out.trans v10); have kq10 := hcell.out _ _ E10.out.held; have ho10 := ho.out _ _ E10.out.held; clear v10 EQ hr ho)
                          | (go_at_call 9; (with_reducible refine ho10.mono ?_); rintro e w11 ⟨rfl, FF11, v11⟩; have E11 := hid (E10.out.trans v11); have kq11 := hcell.out _ _ E11.out.held; clear v11 E10 kq10 ho10))
                        go_roundw
                        case rel => exact ⟨q + 1, FF11, by omega, by go_num, E11⟩
                        case measure => simp [intOf]; omega
                    · obtain rfl : q = 5 := by omega
                      clear hq5 hq
                      go_wp2_with fail
                      go_roundw
                      case rel => exact ⟨i + 1, m, _, Mf, FFq, by omega, by omega, by go_num, rfl, NLt, NZt, SNf, OKf, hid (by have := TTf.out; omega), hid (Ev.less [] _ EQ.out)⟩
                      case measure => simp [intOf]; omega
              | false =>
                have EVt := E8
                have OKt := OK
                have TTt : Hid (M.s.T ≤ 1000 + 1000 * i + 500) := hid (by omega)
                have FCt := hid (snd_flush SN.out).1
                have SNt := hid (snd_flush SN.out).2
                have NLt := NL
                have NZt := NZ
                have FFt := FF1
                clear hb OK TT SN NL NZ TTt0 E8
                as_aux_lemma =>
                  have hfl := hid (mflush_any EVt.out.held OKt.out (by have := TTt.out; omega))
                  rw [FCt.out] at hfl
                  have OKf := hid ((flushM_stp M).ok OKt.out)
                  have TTf : Hid ((M).flushM.s.T ≤ 1000 + 1000 * i + 600) := hid (by have := (flushM_stp M).T OKt.out; have := TTt.out; omega)
                  have SNf := hid SNt.out
                  generalize (M).flushM = Mf at *
                  go_wp2_with (go_at_call 13; (with_reducible refine hfl.out.mono ?_); rintro e w9 ⟨rfl, FF9, v9⟩; have E9 := hid (EVt.out.trans v9); clear hfl v9 EVt)
                  go_loopw [18] (fun qv wq => ∃ (q : Nat) (FFq : Bool → List Nat), q ≤ 5 ∧ qv = .int .i64 (q : Int) ∧ Hid (Ev w [] wq ([Res.blk sb (stc7 s), Res.blk nb ((N).map .string)] ++ mirC [] m d FFq Mf))) (fun qv _ => 5 - (intOf qv).toNat)
                  case atStart => exact ⟨0, FF9, by omega, rfl, E9⟩
                  case round =>
                    obtain ⟨q, FFq, hq, rfl, EQ⟩ := hrel
                    clear E9
                    by_cases hq5 : q < 5
                    · have hqN : q < (N).length := by rw [NLt.out]; exact hq5
                      have hr := hid (mread_any EQ.out.held OKf.out (by have := TTf.out; omega) (q : Int))
                      rw [snd_rd SNf.out hqN] at hr
                      obtain ⟨So, co, ho1, ho2⟩ := snd_ot SNf.out hqN
                      have ho := hid fun (w1 : World) (FF1 : Bool → List Nat) (h : Held w1 ([Res.blk sb (stc7 s), Res.blk nb ((N).map .string)] ++ mirC [] m d FF1 Mf)) => mother_any h OKf.out (by have := TTf.out; omega) (q : Int)
                      rw [ho1] at ho
                      have hcell : Hid (∀ (w1 : World) (FF1 : Bool → List Nat), Held w1 ([Res.blk sb (stc7 s), Res.blk nb ((N).map .string)] ++ mirC [] m d FF1 Mf) → w1.cell? ⟨nb, q, none⟩ = some (.string (N)[q])) := hid fun w1 FF1 h => by
                        have := (h.blkAt 1 rfl).cell q
                        rw [List.getElem?_map, List.getElem?_eq_getElem hqN] at this
                        exact this
                      generalize (N)[q] = Sq at *
                      by_cases hco : co = 0
                      · obtain rfl := ho2 hco
                        subst hco
                        clear ho1 ho2
                        go_wp2_with (first
                          | (go_at_call 8; (with_reducible refine hr.out.mono ?_); rintro e w10 ⟨rfl, FF10, v10⟩; have E10 := hid (EQ.out.trans v10); have kq10 := hcell.out _ _ E10.out.held; have ho10 := ho.out _ _ E10.out.held; clear v10 EQ hr ho)
                          | (go_at_call 9; (with_reducible refine ho10.mono ?_); rintro e w11 ⟨rfl, FF11, v11⟩; have E11 := hid (E10.out.trans v11); have kq11 := hcell.out _ _ E11.out.held; clear v11 E10 kq10 ho10))
                        go_roundw
                        case rel => exact ⟨q + 1, FF11, by omega, by go_num, E11⟩
                        case measure => simp [intOf]; omega
                      · have u0 : (co == 0) = false := by simpa using hco
                        clear ho1 ho2
                        go_wp2_with (first
                          | (go_at_call 8; (with_reducible refine hr.out.mono ?_); rintro e w10 ⟨rfl, FF10, v10⟩; have E10 := hid (EQ.out.trans v10); have kq10 := hcell.out _ _ E10.out.held; have ho10 := ho.out _ _ E10.out.held; clear v10 EQ hr ho)
                          | (go_at_call 9; (with_reducible refine ho10.mono ?_); rintro e w11 ⟨rfl, FF11, v11⟩; have E11 := hid (E10.out.trans v11); have kq11 := hcell.out _ _ E11.out.held; clear v11 E10 kq10 ho10))
                        go_roundw
                        case rel => exact ⟨q + 1, FF11, by omega, by go_num, E11⟩
                        case measure => simp [intOf]; omega
                    · obtain rfl : q = 5 := by omega
                      clear hq5 hq
                      go_wp2_with fail
                      go_roundw
                      case rel => exact ⟨i + 1, m, _, Mf, FFq, by omega, by omega, by go_num, rfl, NLt, NZt, SNf, OKf, hid (by have := TTf.out; omega), hid (Ev.less [] _ EQ.out)⟩
                      case measure => simp [intOf]; omega
          · have u5 : (s.Do == 5) = false := by simpa using h5
            by_cases h6 : s.Do = 6
            · have u6 : (s.Do == 6) = true := by simpa using h6
              have hr0 := hid (mReplace false E8.out.held OK.out)
              have OK1 := hid ((rp_stp M.s false).ok OK.out)
              have hr1 := hid fun (w1 : World) (FF2 : Bool → List Nat) (h : Held w1 ([Res.blk sb (stc7 s), Res.blk nb (N.map .string)] ++ mirC [] m d FF2 { M with s := M.s.rp false })) => mReplace true h OK1.out
              obtain ⟨M1, hM1⟩ : ∃ M1, M1 = ({ M with s := (M.s.rp false).rp true } : MS) := ⟨_, rfl⟩
              rw [← hM1] at hr1
              have q0 := snd_rp SN.out
              rw [← hM1] at q0
              have OKt : Hid (SysOk M1.s) := hid (by rw [hM1]; exact (rp_stp _ true).ok OK1.out)
              have TTt : Hid (M1.s.T ≤ 1000 + 1000 * i + 500) := hid (by have h0 : (M.s.rp false).T ≤ M.s.T := (rp_stp M.s false).T OK.out; have h2 : ((M.s.rp false).rp true).T ≤ (M.s.rp false).T := (rp_stp _ true).T OK1.out; rw [hM1]; have := TT.out; show ((M.s.rp false).rp true).T ≤ _; omega)
              have FCt := hid (snd_flush q0).1
              have SNt := hid (snd_flush q0).2
              have NLt := NL
              have NZt := NZ
              generalize (if (M.s.X false).Dead then (0 : Int) else 3) = r0 at *
              generalize (if ((M.s.rp false).X true).Dead then (0 : Int) else 3) = r1 at *
              clear hM1 q0 OK TT SN
              go_wp2_with (first
                | (go_at_call 18; (with_reducible refine hr0.out.mono ?_); rintro e w12 ⟨rfl, FF12, v12⟩; have E12 := hid (E8.out.trans v12); have hr12 := hr1.out _ _ E12.out.held; clear v12 hr0 E8 k0 k1 k2 k3 k5)
                | (go_at_call 18; (with_reducible refine hr12.mono ?_); rintro e w13 ⟨rfl, FFt, vt⟩; have EVt := hid (E12.out.trans vt); clear vt E12 hr12 OK1 hr1; have nst := hid trivial; revert nst))
              intro _
              as_aux_lemma =>
                have hfl := hid (mflush_any EVt.out.held OKt.out (by have := TTt.out; omega))
                rw [FCt.out] at hfl
                have OKf := hid ((flushM_stp M1).ok OKt.out)
                have TTf : Hid ((M1).flushM.s.T ≤ 1000 + 1000 * i + 600) := hid (by have := (flushM_stp M1).T OKt.out; have := TTt.out; omega)
                have SNf := hid SNt.out
                generalize (M1).flushM = Mf at *
                go_wp2_with (go_at_call 13; (with_reducible refine hfl.out.mono ?_); rintro e w9 ⟨rfl, FF9, v9⟩; have E9 := hid (EVt.out.trans v9); clear hfl v9 EVt)
                go_loopw [18] (fun qv wq => ∃ (q : Nat) (FFq : Bool → List Nat), q ≤ 5 ∧ qv = .int .i64 (q : Int) ∧ Hid (Ev w [] wq ([Res.blk sb (stc7 s), Res.blk nb ((N).map .string)] ++ mirC [] m d FFq Mf))) (fun qv _ => 5 - (intOf qv).toNat)
                case atStart => exact ⟨0, FF9, by omega, rfl, E9⟩
                case round =>
                  obtain ⟨q, FFq, hq, rfl, EQ⟩ := hrel
                  clear E9
                  by_cases hq5 : q < 5
                  · have hqN : q < (N).length := by rw [NLt.out]; exact hq5
                    have hr := hid (mread_any EQ.out.held OKf.out (by have := TTf.out; omega) (q : Int))
                    rw [snd_rd SNf.out hqN] at hr
                    obtain ⟨So, co, ho1, ho2⟩ := snd_ot SNf.out hqN
                    have ho := hid fun (w1 : World) (FF1 : Bool → List Nat) (h : Held w1 ([Res.blk sb (stc7 s), Res.blk nb ((N).map .string)] ++ mirC [] m d FF1 Mf)) => mother_any h OKf.out (by have := TTf.out; omega) (q : Int)
                    rw [ho1] at ho
                    have hcell : Hid (∀ (w1 : World) (FF1 : Bool → List Nat), Held w1 ([Res.blk sb (stc7 s), Res.blk nb ((N).map .string)] ++ mirC [] m d FF1 Mf) → w1.cell? ⟨nb, q, none⟩ = some (.string (N)[q])) := hid fun w1 FF1 h => by
                      have := (h.blkAt 1 rfl).cell q
                      rw [List.getElem?_map, List.getElem?_eq_getElem hqN] at this
                      exact this
                    generalize (N)[q] = Sq at *
                    by_cases hco : co = 0
                    · obtain rfl := ho2 hco
                      subst hco
                      clear ho1 ho2
                      go_wp2_with (first
                        | (go_at_call 8; (with_reducible refine hr.out.mono ?_); rintro e w10 ⟨rfl, FF10, v10⟩; have E10 := hid (EQ.out.trans v10); have kq10 := hcell.out _ _ E10.out.held; have ho10 := ho.out _ _ E10.out.held; clear v10 EQ hr ho)
                        | (go_at_call 9; (with_reducible refine ho10.mono ?_); rintro e w11 ⟨rfl, FF11, v11⟩; have E11 := hid (E10.out.trans v11); have kq11 := hcell.out _ _ E11.out.held; clear v11 E10 kq10 ho10))
                      go_roundw
                      case rel => exact ⟨q + 1, FF11, by omega, by go_num, E11⟩
                      case measure => simp [intOf]; omega
                    · have u0 : (co == 0) = false := by simpa using hco
                      clear ho1 ho2
                      go_wp2_with (first
                        | (go_at_call 8; (with_reducible refine hr.out.mono ?_); rintro e w10 ⟨rfl, FF10, v10⟩; have E10 := hid (EQ.out.trans v10); have kq10 := hcell.out _ _ E10.out.held; have ho10 := ho.out _ _ E10.out.held; clear v10 EQ hr ho)
                        | (go_at_call 9; (with_reducible refine ho10.mono ?_); rintro e w11 ⟨rfl, FF11, v11⟩; have E11 := hid (E10.out.trans v11); have kq11 := hcell.out _ _ E11.out.held; clear v11 E10 kq10 ho10))
                      go_roundw
                      case rel => exact ⟨q + 1, FF11, by omega, by go_num, E11⟩
                      case measure => simp [intOf]; omega
                  · obtain rfl : q = 5 := by omega
                    clear hq5 hq
                    go_wp2_with fail
                    go_roundw
                    case rel => exact ⟨i + 1, m, _, Mf, FFq, by omega, by omega, by go_num, rfl, NLt, NZt, SNf, OKf, hid (by have := TTf.out; omega), hid (Ev.less [] _ EQ.out)⟩
                    case measure => simp [intOf]; omega
            · have u6 : (s.Do == 6) = false := by simpa using h6
              by_cases h4 : s.Do = 4
              · have u4 : (s.Do == 4) = true := by simpa using h4
                have hl6 : M.s.len (!M.c0) = 6 := by
                  have h1 := (snd_len SN.out).1
                  have h2 := (snd_len SN.out).2
                  rw [NL.out] at h1 h2
                  cases M.c0
                  · exact h2
                  · exact h1
                have hrs := hid (mresync_any E8.out.held OK.out (by have := TT.out; rw [hl6]; omega))
                obtain ⟨q1, q2⟩ := snd_rs NZ.out SN.out
                rw [q1] at hrs
                have OKt := hid ((rs_stp M).ok OK.out)
                have TTt : Hid (M.rs.1.s.T ≤ 1000 + 1000 * i + 500) := hid (by have h0 := (rs_stp M).T OK.out; rw [hl6] at h0; have := TT.out; omega)
                have FCt := hid (snd_flush q2).1
                have SNt := hid (snd_flush q2).2
                have NLt := NL
                have NZt := NZ
                clear q1 q2 OK TT SN hl6
                generalize M.rs.1 = M1 at *
                generalize M.rs.2.1 = n1 at *
                go_wp2_with (go_at_call 10; (with_reducible refine hrs.out.mono ?_); rintro e w12 ⟨rfl, FFt, vt⟩; have EVt := hid (E8.out.trans vt); clear vt hrs E8 k0 k1 k2 k3 k5; have nst := hid trivial; revert nst)
                intro _
                as_aux_lemma =>
                  have hfl := hid (mflush_any EVt.out.held OKt.out (by have := TTt.out; omega))
                  rw [FCt.out] at hfl
                  have OKf := hid ((flushM_stp M1).ok OKt.out)
                  have TTf : Hid ((M1).flushM.s.T ≤ 1000 + 1000 * i + 600) := hid (by have := (flushM_stp M1).T OKt.out; have := TTt.out; omega)
                  have SNf := hid SNt.out
                  generalize (M1).flushM = Mf at *
                  go_wp2_with (go_at_call 13; (with_reducible refine hfl.out.mono ?_); rintro e w9 ⟨rfl, FF9, v9⟩; have E9 := hid (EVt.out.trans v9); clear hfl v9 EVt)
                  go_loopw [18] (fun qv wq => ∃ (q : Nat) (FFq : Bool → List Nat), q ≤ 5 ∧ qv = .int .i64 (q : Int) ∧ Hid (Ev w [] wq ([Res.blk sb (stc7 s), Res.blk nb ((N).map .string)] ++ mirC [] m d FFq Mf))) (fun qv _ => 5 - (intOf qv).toNat)
                  case atStart => exact ⟨0, FF9, by omega, rfl, E9⟩
                  case round =>
                    obtain ⟨q, FFq, hq, rfl, EQ⟩ := hrel
                    clear E9
                    by_cases hq5 : q < 5
                    · have hqN : q < (N).length := by rw [NLt.out]; exact hq5
                      have hr := hid (mread_any EQ.out.held OKf.out (by have := TTf.out; omega) (q : Int))
                      rw [snd_rd SNf.out hqN] at hr
                      obtain ⟨So, co, ho1, ho2⟩ := snd_ot SNf.out hqN
                      have ho := hid fun (w1 : World) (FF1 : Bool → List Nat) (h : Held w1 ([Res.blk sb (stc7 s), Res.blk nb ((N).map .string)] ++ mirC [] m d FF1 Mf)) => mother_any h OKf.out (by have := TTf.out; omega) (q : Int)
                      rw [ho1] at ho
                      have hcell : Hid (∀ (w1 : World) (FF1 : Bool → List Nat), Held w1 ([Res.blk sb (stc7 s), Res.blk nb ((N).map .string)] ++ mirC [] m d FF1 Mf) → w1.cell? ⟨nb, q, none⟩ = some (.string (N)[q])) := hid fun w1 FF1 h => by
                        have := (h.blkAt 1 rfl).cell q
                        rw [List.getElem?_map, List.getElem?_eq_getElem hqN] at this
                        exact this
                      generalize (N)[q] = Sq at *
                      by_cases hco : co = 0
                      · obtain rfl := ho2 hco
                        subst hco
                        clear ho1 ho2
                        go_wp2_with (first
                          | (go_at_call 8; (with_reducible refine hr.out.mono ?_); rintro e w10 ⟨rfl, FF10, v10⟩; have E10 := hid (EQ.out.trans v10); have kq10 := hcell.out _ _ E10.out.held; have ho10 := ho.out _ _ E10.out.held; clear v10 EQ hr ho)
                          | (go_at_call 9; (with_reducible refine ho10.mono ?_); rintro e w11 ⟨rfl, FF11, v11⟩; have E11 := hid (E10.out.trans v11); have kq11 := hcell.out _ _ E11.out.held; clear v11 E10 kq10 ho10))
                        go_roundw
                        case rel => exact ⟨q + 1, FF11, by omega, by go_num, E11⟩
                        case measure => simp [intOf]; omega
                      · have u0 : (co == 0) = false := by simpa using hco
                        clear ho1 ho2
                        go_wp2_with (first
                          | (go_at_call 8; (with_reducible refine hr.out.mono ?_); rintro e w10 ⟨rfl, FF10, v10⟩; have E10 := hid (EQ.out.trans v10); have kq10 := hcell.out _ _ E10.out.held; have ho10 := ho.out _ _ E10.out.held; clear v10 EQ hr ho)
                          | (go_at_call 9; (with_reducible refine ho10.mono ?_); rintro e w11 ⟨rfl, FF11, v11⟩; have E11 := hid (E10.out.trans v11); have kq11 := hcell.out _ _ E11.out.held; clear v11 E10 kq10 ho10))
                        go_roundw
                        case rel => exact ⟨q + 1, FF11, by omega, by go_num, E11⟩
                        case measure => simp [intOf]; omega
                    · obtain rfl : q = 5 := by omega
                      clear hq5 hq
                      go_wp2_with fail
                      go_roundw
                      case rel => exact ⟨i + 1, m, _, Mf, FFq, by omega, by omega, by go_num, rfl, NLt, NZt, SNf, OKf, hid (by have := TTf.out; omega), hid (Ev.less [] _ EQ.out)⟩
                      case measure => simp [intOf]; omega
              · have u4 : (s.Do == 4) = false := by simpa using h4
                by_cases h7 : s.Do = 7
                · have u7 : (s.Do == 7) = true := by simpa using h7
                  have hkeep : Rc w8 1 s.Keep s.ks.length (s.ks.map .bool) s.KB := Hst.out.k.keep E8.out.nil (by simp)
                  have hKB : ∀ x, s.KB = some x → x ∉ feetOf ([Res.blk sb (stc7 s), Res.blk nb (N.map .string)] ++ mirC [] m d FF1 M) := fun x hx hx2 => by
                    have h1 := Hst.out.k.lt x hx
                    rcases E8.out.low x hx2 with h2 | h2
                    · cases h2
                    · omega
                  have hc0 := hid (mCrash false E8.out.held OK.out SN.out (by have := TT.out; omega) hkeep hKB Hst.out.kl)
                  have hc1 := hid fun (w1 : World) (FF2 : Bool → List Nat) (h : Held w1 ([Res.blk sb (stc7 s), Res.blk nb (N.map .string)] ++ mirC [] m d FF2 M)) => (show Calls Try.prog 19 #[.pointer (some ⟨d true, 0, none⟩), .slice none 0 0] w1 fun e w' => ∃ c FF', e = .returned (.int .i64 c) ∧ Ev w1 ([Res.blk sb (stc7 s), Res.blk nb (N.map .string)] ++ mirC [] m d FF2 M) w' ([Res.blk sb (stc7 s), Res.blk nb (N.map .string)] ++ mirC [] m d FF' M) from mCrash true h OK.out SN.out (by have := TT.out; omega) (ks := []) (Rc.nil w1 1) (fun x hx => by cases hx) (by decide))
                  have hdd := hid fun (b : Bool) (w1 : World) (FF2 : Bool → List Nat) (h : Held w1 ([Res.blk sb (stc7 s), Res.blk nb (N.map .string)] ++ mirC [] m d FF2 M)) => sDead b (mir_sys h) OK.out
                  have hop := hid fun (w1 : World) (FF2 : Bool → List Nat) (h : Held w1 ([Res.blk sb (stc7 s), Res.blk nb (N.map .string)] ++ sysC [] M.s d FF2)) => mOpen h OK.out SN.out (by rw [NL.out]; decide)
                  have hal := snd_alive SN.out
                  have OKt := OK
                  have TTt : Hid (M.s.T ≤ 1000 + 1000 * i + 500) := hid (by have := TT.out; omega)
                  have FCt := hid (snd_flush SN.out).1
                  have SNt := hid (snd_flush SN.out).2
                  have NLt := NL
                  have NZt := NZ
                  clear hkeep hKB OK TT SN
                  generalize hz0 : (M.s.X false).Dead = z0 at *
                  generalize hz1 : (M.s.X true).Dead = z1 at *
                  have hdz0 := hid fun (w1 : World) (FF2 : Bool → List Nat) (h : Held w1 ([Res.blk sb (stc7 s), Res.blk nb (N.map .string)] ++ mirC [] m d FF2 M)) => (show Calls Try.prog 20 #[.pointer (some ⟨d false, 0, none⟩)] w1 fun e w' => e = .returned (.bool z0) ∧ w' = w1 from by have := hdd.out false w1 FF2 h; rw [hz0] at this; exact this)
                  have hdz1 := hid fun (w1 : World) (FF2 : Bool → List Nat) (h : Held w1 ([Res.blk sb (stc7 s), Res.blk nb (N.map .string)] ++ mirC [] m d FF2 M)) => (show Calls Try.prog 20 #[.pointer (some ⟨d true, 0, none⟩)] w1 fun e w' => e = .returned (.bool z1) ∧ w' = w1 from by have := hdd.out true w1 FF2 h; rw [hz1] at this; exact this)
                  clear hdd hz0 hz1
                  cases z0 with
                  | false =>
                    clear hal hdz1
                    go_wp2_with (first
                      | (go_at_call 19; (with_reducible refine hc0.out.mono ?_); rintro e w12 ⟨r12, FF12, rfl, v12⟩; have E12 := hid (E8.out.trans v12); have hc12 := hid (hc1.out _ _ E12.out.held); clear v12 hc0 E8 k0 k1 k2 k3 k5)
                      | (go_at_call 19; (with_reducible refine hc12.out.mono ?_); rintro e w13 ⟨r13, FF13, rfl, v13⟩; have E13 := hid (E12.out.trans v13); have hd13 := hid (hdz0.out _ _ E13.out.held); have ho13 := hid (hop.out _ _ (mir_drop E13.out).held); clear v13 E12 hc12 hc1 hdz0 hop)
                      | (go_at_call 20; (with_reducible refine hd13.out.mono ?_); rintro e w14 ⟨rfl, hw⟩; subst hw; clear hd13)
                      | (go_at_call 7; (with_reducible refine ho13.out.mono ?_); rintro e w15 ⟨mt, rfl, vt⟩; have EVt := hid ((mir_drop E13.out).trans vt); clear vt E13 ho13; have nst := hid trivial; revert nst))
                    intro _
                    have FFt := FF1
                    as_aux_lemma =>
                      have hfl := hid (mflush_any EVt.out.held OKt.out (by have := TTt.out; omega))
                      rw [FCt.out] at hfl
                      have OKf := hid ((flushM_stp M).ok OKt.out)
                      have TTf : Hid ((M).flushM.s.T ≤ 1000 + 1000 * i + 600) := hid (by have := (flushM_stp M).T OKt.out; have := TTt.out; omega)
                      have SNf := hid SNt.out
                      generalize (M).flushM = Mf at *
                      go_wp2_with (go_at_call 13; (with_reducible refine hfl.out.mono ?_); rintro e w9 ⟨rfl, FF9, v9⟩; have E9 := hid (EVt.out.trans v9); clear hfl v9 EVt)
                      go_loopw [18] (fun qv wq => ∃ (q : Nat) (FFq : Bool → List Nat), q ≤ 5 ∧ qv = .int .i64 (q : Int) ∧ Hid (Ev w [] wq ([Res.blk sb (stc7 s), Res.blk nb ((N).map .string)] ++ mirC [] mt d FFq Mf))) (fun qv _ => 5 - (intOf qv).toNat)
                      case atStart => exact ⟨0, FF9, by omega, rfl, E9⟩
                      case round =>
                        obtain ⟨q, FFq, hq, rfl, EQ⟩ := hrel
                        clear E9
                        by_cases hq5 : q < 5
                        · have hqN : q < (N).length := by rw [NLt.out]; exact hq5
                          have hr := hid (mread_any EQ.out.held OKf.out (by have := TTf.out; omega) (q : Int))
                          rw [snd_rd SNf.out hqN] at hr
                          obtain ⟨So, co, ho1, ho2⟩ := snd_ot SNf.out hqN
                          have ho := hid fun (w1 : World) (FF1 : Bool → List Nat) (h : Held w1 ([Res.blk sb (stc7 s), Res.blk nb ((N).map .string)] ++ mirC [] mt d FF1 Mf)) => mother_any h OKf.out (by have := TTf.out; omega) (q : Int)
                          rw [ho1] at ho
                          have hcell : Hid (∀ (w1 : World) (FF1 : Bool → List Nat), Held w1 ([Res.blk sb (stc7 s), Res.blk nb ((N).map .string)] ++ mirC [] mt d FF1 Mf) → w1.cell? ⟨nb, q, none⟩ = some (.string (N)[q])) := hid fun w1 FF1 h => by
                            have := (h.blkAt 1 rfl).cell q
                            rw [List.getElem?_map, List.getElem?_eq_getElem hqN] at this
                            exact this
                          generalize (N)[q] = Sq at *
                          by_cases hco : co = 0
                          · obtain rfl := ho2 hco
                            subst hco
                            clear ho1 ho2
                            go_wp2_with (first
                              | (go_at_call 8; (with_reducible refine hr.out.mono ?_); rintro e w10 ⟨rfl, FF10, v10⟩; have E10 := hid (EQ.out.trans v10); have kq10 := hcell.out _ _ E10.out.held; have ho10 := ho.out _ _ E10.out.held; clear v10 EQ hr ho)
                              | (go_at_call 9; (with_reducible refine ho10.mono ?_); rintro e w11 ⟨rfl, FF11, v11⟩; have E11 := hid (E10.out.trans v11); have kq11 := hcell.out _ _ E11.out.held; clear v11 E10 kq10 ho10))
                            go_roundw
                            case rel => exact ⟨q + 1, FF11, by omega, by go_num, E11⟩
                            case measure => simp [intOf]; omega
                          · have u0 : (co == 0) = false := by simpa using hco
                            clear ho1 ho2
                            go_wp2_with (first
                              | (go_at_call 8; (with_reducible refine hr.out.mono ?_); rintro e w10 ⟨rfl, FF10, v10⟩; have E10 := hid (EQ.out.trans v10); have kq10 := hcell.out _ _ E10.out.held; have ho10 := ho.out _ _ E10.out.held; clear v10 EQ hr ho)
                              | (go_at_call 9; (with_reducible refine ho10.mono ?_); rintro e w11 ⟨rfl, FF11, v11⟩; have E11 := hid (E10.out.trans v11); have kq11 := hcell.out _ _ E11.out.held; clear v11 E10 kq10 ho10))
                            go_roundw
                            case rel => exact ⟨q + 1, FF11, by omega, by go_num, E11⟩
                            case measure => simp [intOf]; omega
                        · obtain rfl : q = 5 := by omega
                          clear hq5 hq
                          go_wp2_with fail
                          go_roundw
                          case rel => exact ⟨i + 1, mt, _, Mf, FFq, by omega, by omega, by go_num, rfl, NLt, NZt, SNf, OKf, hid (by have := TTf.out; omega), hid (Ev.less [] _ EQ.out)⟩
                          case measure => simp [intOf]; omega
                  | true =>
                    obtain rfl : z1 = false := by rcases hal with h | h; cases h; exact h
                    clear hal
                    go_wp2_with (first
                      | (go_at_call 19; (with_reducible refine hc0.out.mono ?_); rintro e w12 ⟨r12, FF12, rfl, v12⟩; have E12 := hid (E8.out.trans v12); have hc12 := hid (hc1.out _ _ E12.out.held); clear v12 hc0 E8 k0 k1 k2 k3 k5)
                      | (go_at_call 19; (with_reducible refine hc12.out.mono ?_); rintro e w13 ⟨r13, FF13, rfl, v13⟩; have E13 := hid (E12.out.trans v13); have hd13 := hid (hdz0.out _ _ E13.out.held); have hd14 := hid (hdz1.out _ _ E13.out.held); have ho13 := hid (hop.out _ _ (mir_drop E13.out).held); clear v13 E12 hc12 hc1 hdz0 hop)
                      | (go_at_call 20; (with_reducible refine hd13.out.mono ?_); rintro e w14 ⟨rfl, hw⟩; subst hw; clear hd13)
                      | (go_at_call 20; (with_reducible refine hd14.out.mono ?_); rintro e w14 ⟨rfl, hw⟩; subst hw; clear hd14)
                      | (go_at_call 7; (with_reducible refine ho13.out.mono ?_); rintro e w15 ⟨mt, rfl, vt⟩; have EVt := hid ((mir_drop E13.out).trans vt); clear vt E13 ho13; have nst := hid trivial; revert nst))
                    intro _
                    have FFt := FF1
                    as_aux_lemma =>
                      have hfl := hid (mflush_any EVt.out.held OKt.out (by have := TTt.out; omega))
                      rw [FCt.out] at hfl
                      have OKf := hid ((flushM_stp M).ok OKt.out)
                      have TTf : Hid ((M).flushM.s.T ≤ 1000 + 1000 * i + 600) := hid (by have := (flushM_stp M).T OKt.out; have := TTt.out; omega)
                      have SNf := hid SNt.out
                      generalize (M).flushM = Mf at *
                      go_wp2_with (go_at_call 13; (with_reducible refine hfl.out.mono ?_); rintro e w9 ⟨rfl, FF9, v9⟩; have E9 := hid (EVt.out.trans v9); clear hfl v9 EVt)
                      go_loopw [18] (fun qv wq => ∃ (q : Nat) (FFq : Bool → List Nat), q ≤ 5 ∧ qv = .int .i64 (q : Int) ∧ Hid (Ev w [] wq ([Res.blk sb (stc7 s), Res.blk nb ((N).map .string)] ++ mirC [] mt d FFq Mf))) (fun qv _ => 5 - (intOf qv).toNat)
                      case atStart => exact ⟨0, FF9, by omega, rfl, E9⟩
                      case round =>
                        obtain ⟨q, FFq, hq, rfl, EQ⟩ := hrel
                        clear E9
                        by_cases hq5 : q < 5
                        · have hqN : q < (N).length := by rw [NLt.out]; exact hq5
                          have hr := hid (mread_any EQ.out.held OKf.out (by have := TTf.out; omega) (q : Int))
                          rw [snd_rd SNf.out hqN] at hr
                          obtain ⟨So, co, ho1, ho2⟩ := snd_ot SNf.out hqN
                          have ho := hid fun (w1 : World) (FF1 : Bool → List Nat) (h : Held w1 ([Res.blk sb (stc7 s), Res.blk nb ((N).map .string)] ++ mirC [] mt d FF1 Mf)) => mother_any h OKf.out (by have := TTf.out; omega) (q : Int)
                          rw [ho1] at ho
                          have hcell : Hid (∀ (w1 : World) (FF1 : Bool → List Nat), Held w1 ([Res.blk sb (stc7 s), Res.blk nb ((N).map .string)] ++ mirC [] mt d FF1 Mf) → w1.cell? ⟨nb, q, none⟩ = some (.string (N)[q])) := hid fun w1 FF1 h => by
                            have := (h.blkAt 1 rfl).cell q
                            rw [List.getElem?_map, List.getElem?_eq_getElem hqN] at this
                            exact this
                          generalize (N)[q] = Sq at *
                          by_cases hco : co = 0
                          · obtain rfl := ho2 hco
                            subst hco
                            clear ho1 ho2
                            go_wp2_with (first
                              | (go_at_call 8; (with_reducible refine hr.out.mono ?_); rintro e w10 ⟨rfl, FF10, v10⟩; have E10 := hid (EQ.out.trans v10); have kq10 := hcell.out _ _ E10.out.held; have ho10 := ho.out _ _ E10.out.held; clear v10 EQ hr ho)
                              | (go_at_call 9; (with_reducible refine ho10.mono ?_); rintro e w11 ⟨rfl, FF11, v11⟩; have E11 := hid (E10.out.trans v11); have kq11 := hcell.out _ _ E11.out.held; clear v11 E10 kq10 ho10))
                            go_roundw
                            case rel => exact ⟨q + 1, FF11, by omega, by go_num, E11⟩
                            case measure => simp [intOf]; omega
                          · have u0 : (co == 0) = false := by simpa using hco
                            clear ho1 ho2
                            go_wp2_with (first
                              | (go_at_call 8; (with_reducible refine hr.out.mono ?_); rintro e w10 ⟨rfl, FF10, v10⟩; have E10 := hid (EQ.out.trans v10); have kq10 := hcell.out _ _ E10.out.held; have ho10 := ho.out _ _ E10.out.held; clear v10 EQ hr ho)
                              | (go_at_call 9; (with_reducible refine ho10.mono ?_); rintro e w11 ⟨rfl, FF11, v11⟩; have E11 := hid (E10.out.trans v11); have kq11 := hcell.out _ _ E11.out.held; clear v11 E10 kq10 ho10))
                            go_roundw
                            case rel => exact ⟨q + 1, FF11, by omega, by go_num, E11⟩
                            case measure => simp [intOf]; omega
                        · obtain rfl : q = 5 := by omega
                          clear hq5 hq
                          go_wp2_with fail
                          go_roundw
                          case rel => exact ⟨i + 1, mt, _, Mf, FFq, by omega, by omega, by go_num, rfl, NLt, NZt, SNf, OKf, hid (by have := TTf.out; omega), hid (Ev.less [] _ EQ.out)⟩
                          case measure => simp [intOf]; omega
                · have u7 : (s.Do == 7) = false := by simpa using h7
                  by_cases h8 : s.Do = 8
                  · have u8 : (s.Do == 8) = true := by simpa using h8
                    have hkeep : Rc w8 1 s.Keep s.ks.length (s.ks.map .bool) s.KB := Hst.out.k.keep E8.out.nil (by simp)
                    have hKB : ∀ x, s.KB = some x → x ∉ feetOf ([Res.blk sb (stc7 s), Res.blk nb (N.map .string)] ++ mirC [] m d FF1 M) := fun x hx hx2 => by
                      have h1 := Hst.out.k.lt x hx
                      rcases E8.out.low x hx2 with h2 | h2
                      · cases h2
                      · omega
                    have hc0 := hid (mCrash false E8.out.held OK.out SN.out (by have := TT.out; omega) hkeep hKB Hst.out.kl)
                    have hc1 := hid fun (w1 : World) (FF2 : Bool → List Nat) (h : Held w1 ([Res.blk sb (stc7 s), Res.blk nb (N.map .string)] ++ mirC [] m d FF2 M)) => (show Calls Try.prog 19 #[.pointer (some ⟨d true, 0, none⟩), .slice none 0 0] w1 fun e w' => ∃ c FF', e = .returned (.int .i64 c) ∧ Ev w1 ([Res.blk sb (stc7 s), Res.blk nb (N.map .string)] ++ mirC [] m d FF2 M) w' ([Res.blk sb (stc7 s), Res.blk nb (N.map .string)] ++ mirC [] m d FF' M) from mCrash true h OK.out SN.out (by have := TT.out; omega) (ks := []) (Rc.nil w1 1) (fun x hx => by cases hx) (by decide))
                    have hdd := hid fun (b : Bool) (w1 : World) (FF2 : Bool → List Nat) (h : Held w1 ([Res.blk sb (stc7 s), Res.blk nb (N.map .string)] ++ mirC [] m d FF2 M)) => sDead b (mir_sys h) OK.out
                    have hop := hid fun (w1 : World) (FF2 : Bool → List Nat) (h : Held w1 ([Res.blk sb (stc7 s), Res.blk nb (N.map .string)] ++ sysC [] M.s d FF2)) => mOpen h OK.out SN.out (by rw [NL.out]; decide)
                    have hal := snd_alive SN.out
                    have OKt := OK
                    have TTt : Hid (M.s.T ≤ 1000 + 1000 * i + 500) := hid (by have := TT.out; omega)
                    have FCt := hid (snd_flush SN.out).1
                    have SNt := hid (snd_flush SN.out).2
                    have NLt := NL
                    have NZt := NZ
                    clear hkeep hKB OK TT SN
                    generalize hz0 : (M.s.X false).Dead = z0 at *
                    generalize hz1 : (M.s.X true).Dead = z1 at *
                    have hdz0 := hid fun (w1 : World) (FF2 : Bool → List Nat) (h : Held w1 ([Res.blk sb (stc7 s), Res.blk nb (N.map .string)] ++ mirC [] m d FF2 M)) => (show Calls Try.prog 20 #[.pointer (some ⟨d false, 0, none⟩)] w1 fun e w' => e = .returned (.bool z0) ∧ w' = w1 from by have := hdd.out false w1 FF2 h; rw [hz0] at this; exact this)
                    have hdz1 := hid fun (w1 : World) (FF2 : Bool → List Nat) (h : Held w1 ([Res.blk sb (stc7 s), Res.blk nb (N.map .string)] ++ mirC [] m d FF2 M)) => (show Calls Try.prog 20 #[.pointer (some ⟨d true, 0, none⟩)] w1 fun e w' => e = .returned (.bool z1) ∧ w' = w1 from by have := hdd.out true w1 FF2 h; rw [hz1] at this; exact this)
                    clear hdd hz0 hz1
                    cases z0 with
                    | false =>
                      clear hal hdz1
                      go_wp2_with (first
                        | (go_at_call 19; (with_reducible refine hc0.out.mono ?_); rintro e w12 ⟨r12, FF12, rfl, v12⟩; have E12 := hid (E8.out.trans v12); have hc12 := hid (hc1.out _ _ E12.out.held); clear v12 hc0 E8 k0 k1 k2 k3 k5)
                        | (go_at_call 19; (with_reducible refine hc12.out.mono ?_); rintro e w13 ⟨r13, FF13, rfl, v13⟩; have E13 := hid (E12.out.trans v13); have hd13 := hid (hdz0.out _ _ E13.out.held); have ho13 := hid (hop.out _ _ (mir_drop E13.out).held); clear v13 E12 hc12 hc1 hdz0 hop)
                        | (go_at_call 20; (with_reducible refine hd13.out.mono ?_); rintro e w14 ⟨rfl, hw⟩; subst hw; clear hd13)
                        | (go_at_call 7; (with_reducible refine ho13.out.mono ?_); rintro e w15 ⟨mt, rfl, vt⟩; have EVt := hid ((mir_drop E13.out).trans vt); clear vt E13 ho13; have nst := hid trivial; revert nst))
                      intro _
                      have FFt := FF1
                      as_aux_lemma =>
                        have hfl := hid (mflush_any EVt.out.held OKt.out (by have := TTt.out; omega))
                        rw [FCt.out] at hfl
                        have OKf := hid ((flushM_stp M).ok OKt.out)
                        have TTf : Hid ((M).flushM.s.T ≤ 1000 + 1000 * i + 600) := hid (by have := (flushM_stp M).T OKt.out; have := TTt.out; omega)
                        have SNf := hid SNt.out
                        generalize (M).flushM = Mf at *
                        go_wp2_with (go_at_call 13; (with_reducible refine hfl.out.mono ?_); rintro e w9 ⟨rfl, FF9, v9⟩; have E9 := hid (EVt.out.trans v9); clear hfl v9 EVt)
                        go_loopw [18] (fun qv wq => ∃ (q : Nat) (FFq : Bool → List Nat), q ≤ 5 ∧ qv = .int .i64 (q : Int) ∧ Hid (Ev w [] wq ([Res.blk sb (stc7 s), Res.blk nb ((N).map .string)] ++ mirC [] mt d FFq Mf))) (fun qv _ => 5 - (intOf qv).toNat)
                        case atStart => exact ⟨0, FF9, by omega, rfl, E9⟩
                        case round =>
                          obtain ⟨q, FFq, hq, rfl, EQ⟩ := hrel
                          clear E9
                          by_cases hq5 : q < 5
                          · have hqN : q < (N).length := by rw [NLt.out]; exact hq5
                            have hr := hid (mread_any EQ.out.held OKf.out (by have := TTf.out; omega) (q : Int))
                            rw [snd_rd SNf.out hqN] at hr
                            obtain ⟨So, co, ho1, ho2⟩ := snd_ot SNf.out hqN
                            have ho := hid fun (w1 : World) (FF1 : Bool → List Nat) (h : Held w1 ([Res.blk sb (stc7 s), Res.blk nb ((N).map .string)] ++ mirC [] mt d FF1 Mf)) => mother_any h OKf.out (by have := TTf.out; omega) (q : Int)
                            rw [ho1] at ho
                            have hcell : Hid (∀ (w1 : World) (FF1 : Bool → List Nat), Held w1 ([Res.blk sb (stc7 s), Res.blk nb ((N).map .string)] ++ mirC [] mt d FF1 Mf) → w1.cell? ⟨nb, q, none⟩ = some (.string (N)[q])) := hid fun w1 FF1 h => by
                              have := (h.blkAt 1 rfl).cell q
                              rw [List.getElem?_map, List.getElem?_eq_getElem hqN] at this
                              exact this
                            generalize (N)[q] = Sq at *
                            by_cases hco : co = 0
                            · obtain rfl := ho2 hco
                              subst hco
                              clear ho1 ho2
                              go_wp2_with (first
                                | (go_at_call 8; (with_reducible refine hr.out.mono ?_); rintro e w10 ⟨rfl, FF10, v10⟩; have E10 := hid (EQ.out.trans v10); have kq10 := hcell.out _ _ E10.out.held; have ho10 := ho.out _ _ E10.out.held; clear v10 EQ hr ho)
                                | (go_at_call 9; (with_reducible refine ho10.mono ?_); rintro e w11 ⟨rfl, FF11, v11⟩; have E11 := hid (E10.out.trans v11); have kq11 := hcell.out _ _ E11.out.held; clear v11 E10 kq10 ho10))
                              go_roundw
                              case rel => exact ⟨q + 1, FF11, by omega, by go_num, E11⟩
                              case measure => simp [intOf]; omega
                            · have u0 : (co == 0) = false := by simpa using hco
                              clear ho1 ho2
                              go_wp2_with (first
                                | (go_at_call 8; (with_reducible refine hr.out.mono ?_); rintro e w10 ⟨rfl, FF10, v10⟩; have E10 := hid (EQ.out.trans v10); have kq10 := hcell.out _ _ E10.out.held; have ho10 := ho.out _ _ E10.out.held; clear v10 EQ hr ho)
                                | (go_at_call 9; (with_reducible refine ho10.mono ?_); rintro e w11 ⟨rfl, FF11, v11⟩; have E11 := hid (E10.out.trans v11); have kq11 := hcell.out _ _ E11.out.held; clear v11 E10 kq10 ho10))
                              go_roundw
                              case rel => exact ⟨q + 1, FF11, by omega, by go_num, E11⟩
                              case measure => simp [intOf]; omega
                          · obtain rfl : q = 5 := by omega
                            clear hq5 hq
                            go_wp2_with fail
                            go_roundw
                            case rel => exact ⟨i + 1, mt, _, Mf, FFq, by omega, by omega, by go_num, rfl, NLt, NZt, SNf, OKf, hid (by have := TTf.out; omega), hid (Ev.less [] _ EQ.out)⟩
                            case measure => simp [intOf]; omega
                    | true =>
                      obtain rfl : z1 = false := by rcases hal with h | h; cases h; exact h
                      clear hal
                      go_wp2_with (first
                        | (go_at_call 19; (with_reducible refine hc0.out.mono ?_); rintro e w12 ⟨r12, FF12, rfl, v12⟩; have E12 := hid (E8.out.trans v12); have hc12 := hid (hc1.out _ _ E12.out.held); clear v12 hc0 E8 k0 k1 k2 k3 k5)
                        | (go_at_call 19; (with_reducible refine hc12.out.mono ?_); rintro e w13 ⟨r13, FF13, rfl, v13⟩; have E13 := hid (E12.out.trans v13); have hd13 := hid (hdz0.out _ _ E13.out.held); have hd14 := hid (hdz1.out _ _ E13.out.held); have ho13 := hid (hop.out _ _ (mir_drop E13.out).held); clear v13 E12 hc12 hc1 hdz0 hop)
                        | (go_at_call 20; (with_reducible refine hd13.out.mono ?_); rintro e w14 ⟨rfl, hw⟩; subst hw; clear hd13)
                        | (go_at_call 20; (with_reducible refine hd14.out.mono ?_); rintro e w14 ⟨rfl, hw⟩; subst hw; clear hd14)
                        | (go_at_call 7; (with_reducible refine ho13.out.mono ?_); rintro e w15 ⟨mt, rfl, vt⟩; have EVt := hid ((mir_drop E13.out).trans vt); clear vt E13 ho13; have nst := hid trivial; revert nst))
                      intro _
                      have FFt := FF1
                      as_aux_lemma =>
                        have hfl := hid (mflush_any EVt.out.held OKt.out (by have := TTt.out; omega))
                        rw [FCt.out] at hfl
                        have OKf := hid ((flushM_stp M).ok OKt.out)
                        have TTf : Hid ((M).flushM.s.T ≤ 1000 + 1000 * i + 600) := hid (by have := (flushM_stp M).T OKt.out; have := TTt.out; omega)
                        have SNf := hid SNt.out
                        generalize (M).flushM = Mf at *
                        go_wp2_with (go_at_call 13; (with_reducible refine hfl.out.mono ?_); rintro e w9 ⟨rfl, FF9, v9⟩; have E9 := hid (EVt.out.trans v9); clear hfl v9 EVt)
                        go_loopw [18] (fun qv wq => ∃ (q : Nat) (FFq : Bool → List Nat), q ≤ 5 ∧ qv = .int .i64 (q : Int) ∧ Hid (Ev w [] wq ([Res.blk sb (stc7 s), Res.blk nb ((N).map .string)] ++ mirC [] mt d FFq Mf))) (fun qv _ => 5 - (intOf qv).toNat)
                        case atStart => exact ⟨0, FF9, by omega, rfl, E9⟩
                        case round =>
                          obtain ⟨q, FFq, hq, rfl, EQ⟩ := hrel
                          clear E9
                          by_cases hq5 : q < 5
                          · have hqN : q < (N).length := by rw [NLt.out]; exact hq5
                            have hr := hid (mread_any EQ.out.held OKf.out (by have := TTf.out; omega) (q : Int))
                            rw [snd_rd SNf.out hqN] at hr
                            obtain ⟨So, co, ho1, ho2⟩ := snd_ot SNf.out hqN
                            have ho := hid fun (w1 : World) (FF1 : Bool → List Nat) (h : Held w1 ([Res.blk sb (stc7 s), Res.blk nb ((N).map .string)] ++ mirC [] mt d FF1 Mf)) => mother_any h OKf.out (by have := TTf.out; omega) (q : Int)
                            rw [ho1] at ho
                            have hcell : Hid (∀ (w1 : World) (FF1 : Bool → List Nat), Held w1 ([Res.blk sb (stc7 s), Res.blk nb ((N).map .string)] ++ mirC [] mt d FF1 Mf) → w1.cell? ⟨nb, q, none⟩ = some (.string (N)[q])) := hid fun w1 FF1 h => by
                              have := (h.blkAt 1 rfl).cell q
                              rw [List.getElem?_map, List.getElem?_eq_getElem hqN] at this
                              exact this
                            generalize (N)[q] = Sq at *
                            by_cases hco : co = 0
                            · obtain rfl := ho2 hco
                              subst hco
                              clear ho1 ho2
                              go_wp2_with (first
                                | (go_at_call 8; (with_reducible refine hr.out.mono ?_); rintro e w10 ⟨rfl, FF10, v10⟩; have E10 := hid (EQ.out.trans v10); have kq10 := hcell.out _ _ E10.out.held; have ho10 := ho.out _ _ E10.out.held; clear v10 EQ hr ho)
                                | (go_at_call 9; (with_reducible refine ho10.mono ?_); rintro e w11 ⟨rfl, FF11, v11⟩; have E11 := hid (E10.out.trans v11); have kq11 := hcell.out _ _ E11.out.held; clear v11 E10 kq10 ho10))
                              go_roundw
                              case rel => exact ⟨q + 1, FF11, by omega, by go_num, E11⟩
                              case measure => simp [intOf]; omega
                            · have u0 : (co == 0) = false := by simpa using hco
                              clear ho1 ho2
                              go_wp2_with (first
                                | (go_at_call 8; (with_reducible refine hr.out.mono ?_); rintro e w10 ⟨rfl, FF10, v10⟩; have E10 := hid (EQ.out.trans v10); have kq10 := hcell.out _ _ E10.out.held; have ho10 := ho.out _ _ E10.out.held; clear v10 EQ hr ho)
                                | (go_at_call 9; (with_reducible refine ho10.mono ?_); rintro e w11 ⟨rfl, FF11, v11⟩; have E11 := hid (E10.out.trans v11); have kq11 := hcell.out _ _ E11.out.held; clear v11 E10 kq10 ho10))
                              go_roundw
                              case rel => exact ⟨q + 1, FF11, by omega, by go_num, E11⟩
                              case measure => simp [intOf]; omega
                          · obtain rfl : q = 5 := by omega
                            clear hq5 hq
                            go_wp2_with fail
                            go_roundw
                            case rel => exact ⟨i + 1, mt, _, Mf, FFq, by omega, by omega, by go_num, rfl, NLt, NZt, SNf, OKf, hid (by have := TTf.out; omega), hid (Ev.less [] _ EQ.out)⟩
                            case measure => simp [intOf]; omega
                  · have u8 : (s.Do == 8) = false := by simpa using h8
                    obtain ⟨k, hk5, hke⟩ := k_fifth s.I
                    have hfi := hid fun w1 : World => fill7_any w1 s.C
                    have hSz := fill7_size s.C
                    have hkN : k < N.length := by rw [NL.out]; exact hk5
                    obtain ⟨q1, q2, q3⟩ := snd_wr SN.out hkN hSz
                    have OK1 := hid ((wrM_stp M (k : Int) (fill7 s.C)).ok OK.out)
                    have OKt := hid ((flushM_stp (M.wrM (k : Int) (fill7 s.C))).ok OK1.out)
                    have T1 : Hid ((M.wrM (k : Int) (fill7 s.C)).s.T ≤ 1000 + 1000 * i + 100) := hid (by have := (wrM_stp M (k : Int) (fill7 s.C)).T OK.out; have := TT.out; omega)
                    have TTt : Hid ((M.wrM (k : Int) (fill7 s.C)).flushM.s.T ≤ 1000 + 1000 * i + 500) := hid (by have := (flushM_stp (M.wrM (k : Int) (fill7 s.C))).T OK1.out; have := T1.out; omega)
                    have FCt := hid (snd_flush q3).1
                    have SNt := hid (snd_flush q3).2
                    have NLt : Hid ((N.set k (fill7 s.C)).length = 5) := hid (by rw [List.length_set]; exact NL.out)
                    have NZt : Hid (∀ x ∈ N.set k (fill7 s.C), x.size = 512) := hid fun x hx => by
                      rcases List.mem_or_eq_of_mem_set hx with h | h
                      · exact NZ.out x h
                      · rw [h]; exact hSz
                    have hwr := hid fun (w1 : World) (N1 : List ByteArray) (FF2 : Bool → List Nat) (h : Held w1 ([Res.blk sb (stc7 s), Res.blk nb (N1.map .string)] ++ mirC [] m d FF2 M)) => mwrite_any h OK.out (by have := TT.out; omega) (k : Int) (fill7 s.C) (by rw [hSz]; decide)
                    rw [q1] at hwr
                    generalize M.wrM (k : Int) (fill7 s.C) = M1 at *
                    have hfl1 := hid fun (w1 : World) (N1 : List ByteArray) (FF2 : Bool → List Nat) (h : Held w1 ([Res.blk sb (stc7 s), Res.blk nb (N1.map .string)] ++ mirC [] m d FF2 M1)) => mflush_any h OK1.out (by have := T1.out; omega)
                    rw [q2] at hfl1
                    generalize M1.flushM = M2 at *
                    generalize fill7 s.C = Sf at *
                    have hput : Hid (∀ w1 w2 : World, Fr [] w8 w1 → Fr [nb] w1 w2 → Blk w2 nb ((N.map .string).set k (.string Sf)) → Ev w [] w2 ([Res.blk sb (stc7 s), Res.blk nb ((N.set k Sf).map .string)] ++ mirC [] m d FF1 M)) := hid fun w1 w2 f1 f2 hb => by
                      have := (E8.out.step f1).at 1 rfl f2 (fun b hb => .inl hb) (Res.On.blk hb) (fun b hb => .inl hb)
                      rw [← List.map_set] at this
                      exact this
                    have hblk : Hid (∀ w1 : World, Fr [] w8 w1 → Blk w1 nb (N.map .string)) := hid fun w1 f1 => (E8.out.step f1).held.blkAt 1 rfl
                    have hlb : k < (N.map Value.string).length := by rw [List.length_map]; exact hkN
                    have hcell : Hid (∀ w1 : World, Blk w1 nb ((N.map .string).set k (.string Sf)) → w1.cell? ⟨nb, k, none⟩ = some (.string Sf)) := hid fun w1 hb => by
                      have := hb.cell k
                      rw [List.getElem?_set_self hlb] at this
                      exact this
                    clear q1 q2 q3 hSz OK SN TT NL NZ hkN OK1 T1
                    go_wp2_with (first
                      | (go_at_call 21; refine (hfi.out _).mono ?_; rintro e w12 ⟨rfl, f12⟩; have b12 := hblk.out _ f12; clear hfi)
                      | (refine wpList_put rfl _ _ _ rfl rfl (.string Sf) rfl rfl b12 hlb (by kernel_rfl) ?_; intro w13 f13 b13 hs13; have E13 := hid (hput.out _ _ f12 f13 b13); have k13 := hcell.out _ b13; have hw13 := hid (hwr.out _ _ _ E13.out.held); clear b12 b13 f12 f13 hs13 hput hblk hcell E8 k0 k1 k2 k3 k5 hwr; simp only [World.size_alloc, World.size_drew, Act.put, List.setIfInBounds_toArray, List.set_cons_succ, List.set_cons_zero])
                      | (go_at_call 12; (with_reducible refine hw13.out.mono ?_); rintro e w14 ⟨rfl, FF14, v14⟩; have E14 := hid (E13.out.trans v14); have hf14 := hid (hfl1.out _ _ _ E14.out.held); clear hw13 E13 v14)
                      | (go_at_call 13; (with_reducible refine hf14.out.mono ?_); rintro e w15 ⟨rfl, FFt, vt⟩; have EVt := hid (E14.out.trans vt); clear hf14 E14 vt hfl1; have nst := hid trivial; revert nst))
                    intro _
                    have NPs : ∃ N2, N2 = N.set k Sf := ⟨_, rfl⟩
                    obtain ⟨N2, hN2⟩ := NPs
                    rw [← hN2] at NLt NZt SNt EVt
                    clear hN2
                    as_aux_lemma =>
                      have hfl := hid (mflush_any EVt.out.held OKt.out (by have := TTt.out; omega))
                      rw [FCt.out] at hfl
                      have OKf := hid ((flushM_stp M2).ok OKt.out)
                      have TTf : Hid ((M2).flushM.s.T ≤ 1000 + 1000 * i + 600) := hid (by have := (flushM_stp M2).T OKt.out; have := TTt.out; omega)
                      have SNf := hid SNt.out
                      generalize (M2).flushM = Mf at *
                      go_wp2_with (go_at_call 13; (with_reducible refine hfl.out.mono ?_); rintro e w9 ⟨rfl, FF9, v9⟩; have E9 := hid (EVt.out.trans v9); clear hfl v9 EVt)
                      go_loopw [18] (fun qv wq => ∃ (q : Nat) (FFq : Bool → List Nat), q ≤ 5 ∧ qv = .int .i64 (q : Int) ∧ Hid (Ev w [] wq ([Res.blk sb (stc7 s), Res.blk nb ((N2).map .string)] ++ mirC [] m d FFq Mf))) (fun qv _ => 5 - (intOf qv).toNat)
                      case atStart => exact ⟨0, FF9, by omega, rfl, E9⟩
                      case round =>
                        obtain ⟨q, FFq, hq, rfl, EQ⟩ := hrel
                        clear E9
                        by_cases hq5 : q < 5
                        · have hqN : q < (N2).length := by rw [NLt.out]; exact hq5
                          have hr := hid (mread_any EQ.out.held OKf.out (by have := TTf.out; omega) (q : Int))
                          rw [snd_rd SNf.out hqN] at hr
                          obtain ⟨So, co, ho1, ho2⟩ := snd_ot SNf.out hqN
                          have ho := hid fun (w1 : World) (FF1 : Bool → List Nat) (h : Held w1 ([Res.blk sb (stc7 s), Res.blk nb ((N2).map .string)] ++ mirC [] m d FF1 Mf)) => mother_any h OKf.out (by have := TTf.out; omega) (q : Int)
                          rw [ho1] at ho
                          have hcell : Hid (∀ (w1 : World) (FF1 : Bool → List Nat), Held w1 ([Res.blk sb (stc7 s), Res.blk nb ((N2).map .string)] ++ mirC [] m d FF1 Mf) → w1.cell? ⟨nb, q, none⟩ = some (.string (N2)[q])) := hid fun w1 FF1 h => by
                            have := (h.blkAt 1 rfl).cell q
                            rw [List.getElem?_map, List.getElem?_eq_getElem hqN] at this
                            exact this
                          generalize (N2)[q] = Sq at *
                          by_cases hco : co = 0
                          · obtain rfl := ho2 hco
                            subst hco
                            clear ho1 ho2
                            go_wp2_with (first
                              | (go_at_call 8; (with_reducible refine hr.out.mono ?_); rintro e w10 ⟨rfl, FF10, v10⟩; have E10 := hid (EQ.out.trans v10); have kq10 := hcell.out _ _ E10.out.held; have ho10 := ho.out _ _ E10.out.held; clear v10 EQ hr ho)
                              | (go_at_call 9; (with_reducible refine ho10.mono ?_); rintro e w11 ⟨rfl, FF11, v11⟩; have E11 := hid (E10.out.trans v11); have kq11 := hcell.out _ _ E11.out.held; clear v11 E10 kq10 ho10))
                            go_roundw
                            case rel => exact ⟨q + 1, FF11, by omega, by go_num, E11⟩
                            case measure => simp [intOf]; omega
                          · have u0 : (co == 0) = false := by simpa using hco
                            clear ho1 ho2
                            go_wp2_with (first
                              | (go_at_call 8; (with_reducible refine hr.out.mono ?_); rintro e w10 ⟨rfl, FF10, v10⟩; have E10 := hid (EQ.out.trans v10); have kq10 := hcell.out _ _ E10.out.held; have ho10 := ho.out _ _ E10.out.held; clear v10 EQ hr ho)
                              | (go_at_call 9; (with_reducible refine ho10.mono ?_); rintro e w11 ⟨rfl, FF11, v11⟩; have E11 := hid (E10.out.trans v11); have kq11 := hcell.out _ _ E11.out.held; clear v11 E10 kq10 ho10))
                            go_roundw
                            case rel => exact ⟨q + 1, FF11, by omega, by go_num, E11⟩
                            case measure => simp [intOf]; omega
                        · obtain rfl : q = 5 := by omega
                          clear hq5 hq
                          go_wp2_with fail
                          go_roundw
                          case rel => exact ⟨i + 1, m, _, Mf, FFq, by omega, by omega, by go_num, rfl, NLt, NZt, SNf, OKf, hid (by have := TTf.out; omega), hid (Ev.less [] _ EQ.out)⟩
                          case measure => simp [intOf]; omega
        · have hfr := hid EV.out.nil
          clear EV SN NL NZ OK TT
          by_cases hx : i < l.length
          · have hx2 : ¬ i < 60 := fun h => hlt ⟨h, hx⟩
            have a1 : decide ((i : Int) < (l.length : Int)) = true := by simp; omega
            have a1n : decide (i < l.length) = true := by simp; omega
            have a2 : decide ((i : Int) < 60) = false := by simp; omega
            have a2n : decide (i < 60) = false := by simp; omega
            clear hlt hi hil
            go_wp2_with fail
            go_ret
            exact ⟨rfl, hfr.out⟩
          · have a1 : decide ((i : Int) < (l.length : Int)) = false := by simp; omega
            have a1n : decide (i < l.length) = false := by simp; omega
            clear hlt hi hil
            go_wp2_with fail
            go_ret
            exact ⟨rfl, hfr.out⟩
end
end Go.Proofs.Ytjgagcpmoffldaa
