/- Layer 21, record: the statements' keys. -/
import Derived.Test.YtgbkbhklgbjgmaaRecM
import Derived.Test.YtgbkbhklgbjgmaaThree
namespace Go.Proofs.Ytgbkbhklgbjgmaa.rcd
open Go Go.Xr Go.RowKit
set_option linter.unusedVariables false
set_option linter.unusedSimpArgs false
attribute [local go_sem] and_u8_c
def z31L : List UInt8 := List.replicate 31 0
def kmS (x : UInt8) : ByteArray := (⟨z31L.toArray⟩ : ByteArray) ++ (⟨[x &&& c8 3].toArray⟩ : ByteArray)
theorem kmS_size (x : UInt8) : (kmS x).size = 32 := by
  unfold kmS
  rw [ByteArray.size_append]
  rfl
def recsS : ByteArray := ⟨#[114, 101, 99, 111, 114, 100, 115]⟩
def kC (x : UInt8) : ByteArray := keyC (kmS x) recsS
def kM (x : UInt8) : ByteArray := keyM (kmS x) recsS
theorem k_sizes (x : UInt8) : (kC x).size = 16 ∧ (kM x).size = 32 := ⟨keyC_size _ _, keyM_size _ _⟩
theorem k_may (x : UInt8) : mayS (kC x) (kM x) = true := by simp [mayS, k_sizes x]
set_option maxRecDepth 20000 in
theorem keyZ : ∃ i, Try.prog.info? 23 = some i ∧ i.zero = some (.agg #[.string ⟨#[]⟩, .string ⟨#[]⟩]) := ⟨_, rfl, rfl⟩
set_option maxRecDepth 20000 in
theorem keyAT : AggT Try.prog 23 2 := ⟨_, Try.underlying23, rfl, rfl⟩

def O6 (N : Nat) (w' : World) : Prop := Xr.Own w' 1 (.slice (some ⟨N, 0, none⟩) 31 31) 31 (bv z31L) (some N)
def O10 (x : UInt8) (N : Nat) (w' : World) : Prop := Xr.Own w' 1 (.slice (some ⟨N, 0, none⟩) 1 1) 1 (bv [x &&& c8 3]) (some N)
theorem O6.on {N : Nat} {w w' : World} {L : List Nat} (h : O6 N w) (f : Fr L w w') (hN : N ∉ L) : O6 N w' := Xr.Own.keep h f (by simpa using hN)
theorem O10.on {x : UInt8} {N : Nat} {w w' : World} {L : List Nat} (h : O10 x N w) (f : Fr L w w') (hN : N ∉ L) : O10 x N w' := Xr.Own.keep h f (by simpa using hN)
theorem O6.at {N : Nat} {w : World} (h : O6 N w) : N < w.heap.size := Xr.Own.lt h N rfl
theorem O10.at {x : UInt8} {N : Nat} {w : World} (h : O10 x N w) : N < w.heap.size := Xr.Own.lt h N rfl
set_option maxRecDepth 20000 in
set_option maxHeartbeats 2000000 in
theorem keys_of {w : World} (x : UInt8) : Calls Try.prog 20 #[bt x] w fun e w' => e = .returned (.agg #[.string (kC x), .string (kM x)]) ∧ Fr [] w w' := by
  obtain ⟨i5, hi5, hz5, hs5, hb5⟩ := inf5
  have Hi := hid hi5
  have Hz := hid hz5
  have Hs := hid hs5
  have Hb := hid hb5
  obtain ⟨ik, hik, hzk⟩ := keyZ
  have Hk := hid hik
  have Hkz := hid hzk
  have H1 := hid fun w0 : World => rkeys_any (w := w0) (kmS x) recsS (kmS_size x) (by decide)
  obtain ⟨C, hCe⟩ : ∃ C, kC x = C := ⟨_, rfl⟩
  obtain ⟨M, hMe⟩ : ∃ M, kM x = M := ⟨_, rfl⟩
  rw [show keyC (kmS x) recsS = C from hCe, show keyM (kmS x) recsS = M from hMe] at H1
  rw [hCe, hMe]
  have HL := hid (show List.replicate 31 (bt 0) = bv z31L by rw [z31L, bv_replicate])
  unfold kmS at H1
  obtain ⟨D6, hD6⟩ : ∃ D : ByteArray, ⟨z31L.toArray⟩ = D := ⟨_, rfl⟩
  obtain ⟨D10, hD10⟩ : ∃ D : ByteArray, ⟨[x &&& c8 3].toArray⟩ = D := ⟨_, rfl⟩
  have HS6 : Hid (∀ (w0 : World) (N : Nat), Xr.Own w0 1 (.slice (some ⟨N, 0, none⟩) 31 31) 31 (bv z31L) (some N) → (convert 57 9 (.slice (some ⟨N, 0, none⟩) 31 31)).run Try.prog w0 = .ok (.string D6) w0) := hid fun w0 N h => by
    rw [← hD6]
    exact run_string_of_own _ _ _ 5 h Try.underlying57 Try.underlying5 Try.underlying9
  have HS10 : Hid (∀ (w0 : World) (N : Nat), Xr.Own w0 1 (.slice (some ⟨N, 0, none⟩) 1 1) 1 (bv [x &&& c8 3]) (some N) → (convert 57 9 (.slice (some ⟨N, 0, none⟩) 1 1)).run Try.prog w0 = .ok (.string D10) w0) := hid fun w0 N h => by
    rw [← hD10]
    exact run_string_of_own _ _ _ 5 h Try.underlying57 Try.underlying5 Try.underlying9
  rw [hD6, hD10] at H1
  have hD6s : D6.size ≤ 31 := by rw [← hD6]; exact Nat.le_refl _
  have hD10s : D10.size ≤ 1 := by rw [← hD10]; exact Nat.le_refl _
  clear hCe hMe hD6 hD10 hi5 hz5 hs5 hb5 hik hzk
  go_enter Try.func20, Try.ntmps20
  go_wp2_with (refine wpList_alloc_any rfl _ rfl _ _ 2 Hk.out Hkz.out rfl ?_; intro zs w1 hzl hze f1 hlt1 hb1; rw [hze] at hb1; clear hzl hze; simp only [World.size_alloc, World.size_drew, Act.put, List.setIfInBounds_toArray, List.set_cons_succ, List.set_cons_zero])
  obtain ⟨R0, hR0⟩ : ∃ R0, w.heap.size = R0 := ⟨_, rfl⟩
  have HR0 := hid hR0
  rw [hR0] at hb1 hlt1 ⊢
  clear hR0
  obtain ⟨u0, hw0⟩ : ∃ u0, w1.drew = u0 := ⟨_, rfl⟩
  have d0 : Blk u0 R0 [.string ⟨#[]⟩, .string ⟨#[]⟩] := by rw [← hw0]; exact hb1.drew
  have gu0 : Fr [] w u0 := by rw [← hw0]; exact f1.drew
  clear hb1 f1 hlt1
  refine wp_region_D (fun _ => True) false [] (by kernel_rfl) ?_
  refine WD.free [2, 3] (by kernel_rfl) trivial ?_
  simp only [pick, List.toList_toArray, List.map_cons, List.map_nil, List.getD_cons_succ, List.getD_cons_zero]
  repeat (first | (refine quiet_conv_v (by rfl) _ _ _ rfl _ rfl (.string D6) (fun wq h => by first|exact HS6.out _ _ h|exact HS6.out _ _ h.1|exact HS6.out _ _ h.2|(rw [h];exact HS6.out _ _ ho6)) ?_; simp only [World.size_alloc, World.size_drew, Act.put, List.setIfInBounds_toArray, List.set_cons_succ, List.set_cons_zero]) | (refine quiet_conv_v (by rfl) _ _ _ rfl _ rfl (.string D10) (fun wq h => by first|exact HS10.out _ _ h|exact HS10.out _ _ h.1|exact HS10.out _ _ h.2|(rw [h];exact HS10.out _ _ ho10)) ?_; simp only [World.size_alloc, World.size_drew, Act.put, List.setIfInBounds_toArray, List.set_cons_succ, List.set_cons_zero]) | go_big_quiet_step (fail))
  refine wpQuiet_nil ?_
  refine WD.eff3 0 4 11 (by kernel_rfl) ?_ ?_ ?_
  all_goals simp only [pick, List.toList_toArray, List.map_cons, List.map_nil, List.getD_cons_succ, List.getD_cons_zero]
  all_goals rw [hw0]
  · skip
    refine wpList_make1 rfl _ _ _ rfl 31 31 .i64 .i64 rfl rfl 5 _ _ 1 Try.underlying57 Hi.out Hz.out Hs.out Hb.out rfl (Nat.le_refl _) (by decide) (by decide) ?_
    intro u1 f hlt ho6
    rw [HL.out] at ho6
    obtain ⟨N6, hN6⟩ : ∃ N, u0.heap.size = N := ⟨_, rfl⟩
    rw [hN6] at ho6 ⊢
    replace ho6 : O6 N6 u1 := ho6
    try replace ho10 := ho10.on f (by simp)
    try have hne6 : N6 ≠ Na := by have := hba.lt; omega
    try replace hba := f.blk hba (by simp)
    have gu1 := gu0.trans' f
    replace d0 := f.blk d0 (by simp)
    clear hN6 hlt f gu0
    simp only [World.size_alloc, World.size_drew, Act.put, List.setIfInBounds_toArray, List.set_cons_succ, List.set_cons_zero]
    try refine wpList_nil ?_
    refine AfterD.on trivial (by kernel_rfl) ?_
    refine WD.more (O6 N6) (fun _ _ => trivial) ?_
    try simp only [World.size_alloc, World.size_drew, Act.put, List.setIfInBounds_toArray, List.set_cons_succ, List.set_cons_zero]
    refine WD.held [1] (by kernel_rfl) ho6 ?_
    simp only [pick, List.toList_toArray, List.map_cons, List.map_nil, List.getD_cons_succ, List.getD_cons_zero]
    repeat (first | (refine quiet_conv_v (by rfl) _ _ _ rfl _ rfl (.string D6) (fun wq h => by first|exact HS6.out _ _ h|exact HS6.out _ _ h.1|exact HS6.out _ _ h.2|(rw [h];exact HS6.out _ _ ho6)) ?_; simp only [World.size_alloc, World.size_drew, Act.put, List.setIfInBounds_toArray, List.set_cons_succ, List.set_cons_zero]) | (refine quiet_conv_v (by rfl) _ _ _ rfl _ rfl (.string D10) (fun wq h => by first|exact HS10.out _ _ h|exact HS10.out _ _ h.1|exact HS10.out _ _ h.2|(rw [h];exact HS10.out _ _ ho10)) ?_; simp only [World.size_alloc, World.size_drew, Act.put, List.setIfInBounds_toArray, List.set_cons_succ, List.set_cons_zero]) | go_big_quiet_step (fail))
    refine wpQuiet_nil ?_
    refine WD.eff2 4 11 (by kernel_rfl) ?_ ?_
    all_goals simp only [pick, List.toList_toArray, List.map_cons, List.map_nil, List.getD_cons_succ, List.getD_cons_zero]
    · skip
      refine wpList_buildSlice_any rfl _ 1 _ rfl 5 Try.underlying57 _ _ Hi.out Hz.out rfl Hs.out (by decide) (by decide) rfl [bt (x &&& c8 3)] rfl (bv_one [x &&& c8 3]) ?_
      intro u2 f hlt hb
      obtain ⟨N10, hN10⟩ : ∃ N, u1.heap.size = N := ⟨_, rfl⟩
      rw [hN10] at hb ⊢
      have ho10 : O10 x N10 u2 := Own.blk hb (Nat.le_refl _) (by unfold maxLen; omega) rfl
      try replace ho6 := ho6.on f (by simp)
      try have hne10 : N10 ≠ Na := by have := hba.lt; omega
      try replace hba := f.blk hba (by simp)
      have gu2 := gu1.trans' f
      replace d0 := f.blk d0 (by simp)
      clear hN10 hlt f gu1 hb
      simp only [World.size_alloc, World.size_drew, Act.put, List.setIfInBounds_toArray, List.set_cons_succ, List.set_cons_zero]
      try refine wpList_nil ?_
      refine AfterD.on ho6 (by kernel_rfl) ?_
      refine WD.more (fun w' => O6 N6 w' ∧ O10 x N10 w') (fun _ h => h.1) ?_
      try simp only [World.size_alloc, World.size_drew, Act.put, List.setIfInBounds_toArray, List.set_cons_succ, List.set_cons_zero]
      refine WD.held [5] (by kernel_rfl) ⟨ho6, ho10⟩ ?_
      simp only [pick, List.toList_toArray, List.map_cons, List.map_nil, List.getD_cons_succ, List.getD_cons_zero]
      repeat (first | (refine quiet_conv_v (by rfl) _ _ _ rfl _ rfl (.string D6) (fun wq h => by first|exact HS6.out _ _ h|exact HS6.out _ _ h.1|exact HS6.out _ _ h.2|(rw [h];exact HS6.out _ _ ho6)) ?_; simp only [World.size_alloc, World.size_drew, Act.put, List.setIfInBounds_toArray, List.set_cons_succ, List.set_cons_zero]) | (refine quiet_conv_v (by rfl) _ _ _ rfl _ rfl (.string D10) (fun wq h => by first|exact HS10.out _ _ h|exact HS10.out _ _ h.1|exact HS10.out _ _ h.2|(rw [h];exact HS10.out _ _ ho10)) ?_; simp only [World.size_alloc, World.size_drew, Act.put, List.setIfInBounds_toArray, List.set_cons_succ, List.set_cons_zero]) | go_big_quiet_step (fail))
      refine wpQuiet_nil ?_
      refine WD.free [6] (by kernel_rfl) ⟨ho6, ho10⟩ ?_
      simp only [pick, List.toList_toArray, List.map_cons, List.map_nil, List.getD_cons_succ, List.getD_cons_zero]
      repeat (first | (refine quiet_conv_v (by rfl) _ _ _ rfl _ rfl (.string D6) (fun wq h => by first|exact HS6.out _ _ h|exact HS6.out _ _ h.1|exact HS6.out _ _ h.2|(rw [h];exact HS6.out _ _ ho6)) ?_; simp only [World.size_alloc, World.size_drew, Act.put, List.setIfInBounds_toArray, List.set_cons_succ, List.set_cons_zero]) | (refine quiet_conv_v (by rfl) _ _ _ rfl _ rfl (.string D10) (fun wq h => by first|exact HS10.out _ _ h|exact HS10.out _ _ h.1|exact HS10.out _ _ h.2|(rw [h];exact HS10.out _ _ ho10)) ?_; simp only [World.size_alloc, World.size_drew, Act.put, List.setIfInBounds_toArray, List.set_cons_succ, List.set_cons_zero]) | go_big_quiet_step (fail))
      refine wpQuiet_nil ?_
      refine WD.eff2 7 11 (by kernel_rfl) ?_ ?_
      all_goals simp only [pick, List.toList_toArray, List.map_cons, List.map_nil, List.getD_cons_succ, List.getD_cons_zero]
      · skip
        go_wp2_with fail
        refine (H1.out _).mono ?_
        rintro e u3 ⟨rfl, f⟩
        go_wp2_with fail
        replace ho6 := ho6.on f (by simp)
        replace ho10 := ho10.on f (by simp)
        try replace hba := f.blk hba (by simp)
        have gu3 := gu2.trans' f
        replace d0 := f.blk d0 (by simp)
        clear f gu2
        try refine wpList_nil ?_
        refine AfterD.on ⟨ho6, ho10⟩ (by kernel_rfl) ?_
        try simp only [World.size_alloc, World.size_drew, Act.put, List.setIfInBounds_toArray, List.set_cons_succ, List.set_cons_zero]
        refine WD.free [8, 9, 10] (by kernel_rfl) ⟨ho6, ho10⟩ ?_
        simp only [pick, List.toList_toArray, List.map_cons, List.map_nil, List.getD_cons_succ, List.getD_cons_zero]
        repeat (first | (refine quiet_conv_v (by rfl) _ _ _ rfl _ rfl (.string D6) (fun wq h => by first|exact HS6.out _ _ h|exact HS6.out _ _ h.1|exact HS6.out _ _ h.2|(rw [h];exact HS6.out _ _ ho6)) ?_; simp only [World.size_alloc, World.size_drew, Act.put, List.setIfInBounds_toArray, List.set_cons_succ, List.set_cons_zero]) | (refine quiet_conv_v (by rfl) _ _ _ rfl _ rfl (.string D10) (fun wq h => by first|exact HS10.out _ _ h|exact HS10.out _ _ h.1|exact HS10.out _ _ h.2|(rw [h];exact HS10.out _ _ ho10)) ?_; simp only [World.size_alloc, World.size_drew, Act.put, List.setIfInBounds_toArray, List.set_cons_succ, List.set_cons_zero]) | go_big_quiet_step (fail))
        refine wpQuiet_nil ?_
        refine WD.eff 11 (by kernel_rfl) ?_
        simp only [pick, List.toList_toArray, List.map_cons, List.map_nil, List.getD_cons_succ, List.getD_cons_zero]
        refine wpList_alloc_any rfl _ rfl _ _ 2 Hk.out Hkz.out rfl ?_
        intro zs u4 hzl hze f hlt hba
        rw [hze] at hba
        obtain ⟨Na, hNa⟩ : ∃ N, u3.heap.size = N := ⟨_, rfl⟩
        rw [hNa] at hba ⊢
        have HNa : w.heap.size ≤ Na := by have := gu3.size; omega
        have hRa : R0 ≠ Na := by have := d0.lt; omega
        try have hne6 : N6 ≠ Na := by have := ho6.at; omega
        try have hne10 : N10 ≠ Na := by have := ho10.at; omega
        try replace ho6 := ho6.on f (by simp)
        try replace ho10 := ho10.on f (by simp)
        have gu4 := gu3.trans' f
        replace d0 := f.blk d0 (by simp)
        clear hzl hze hlt f gu3 hNa
        simp only [World.size_alloc, World.size_drew, Act.put, List.setIfInBounds_toArray, List.set_cons_succ, List.set_cons_zero]
        try refine wpList_nil ?_
        refine AfterD.on ⟨ho6, ho10⟩ (by kernel_rfl) ?_
        try simp only [World.size_alloc, World.size_drew, Act.put, List.setIfInBounds_toArray, List.set_cons_succ, List.set_cons_zero]
        refine WD.eff 12 (by kernel_rfl) ?_
        simp only [pick, List.toList_toArray, List.map_cons, List.map_nil, List.getD_cons_succ, List.getD_cons_zero]
        refine wpList_store_ag rfl _ _ _ rfl rfl [.string C, .string M] rfl hba keyAT rfl (by decide) (by simp [Value.oneCell']) ?_
        intro u5 f hbB hs
        replace hbB : Blk u5 Na [.string C, .string M] := hbB
        replace ho6 := ho6.on f (by simpa using hne6)
        replace ho10 := ho10.on f (by simpa using hne10)
        have gu5 := gu4.trans f (by simp; have := HNa; omega)
        replace d0 := f.blk d0 (by simpa using hRa)
        clear hba hs
        simp only [World.size_alloc, World.size_drew, Act.put, List.setIfInBounds_toArray, List.set_cons_succ, List.set_cons_zero]
        try refine wpList_nil ?_
        refine AfterD.on ⟨ho6, ho10⟩ (by kernel_rfl) ?_
        try simp only [World.size_alloc, World.size_drew, Act.put, List.setIfInBounds_toArray, List.set_cons_succ, List.set_cons_zero]
        refine WD.pure [13] (by kernel_rfl) ⟨ho6, ho10⟩ ?_
        simp only [pick, List.toList_toArray, List.map_cons, List.map_nil, List.getD_cons_succ, List.getD_cons_zero]
        repeat (first | (refine quiet_conv_v (by rfl) _ _ _ rfl _ rfl (.string D6) (fun wq h => by first|exact HS6.out _ _ h|exact HS6.out _ _ h.1|exact HS6.out _ _ h.2|(rw [h];exact HS6.out _ _ ho6)) ?_; simp only [World.size_alloc, World.size_drew, Act.put, List.setIfInBounds_toArray, List.set_cons_succ, List.set_cons_zero]) | (refine quiet_conv_v (by rfl) _ _ _ rfl _ rfl (.string D10) (fun wq h => by first|exact HS10.out _ _ h|exact HS10.out _ _ h.1|exact HS10.out _ _ h.2|(rw [h];exact HS10.out _ _ ho10)) ?_; simp only [World.size_alloc, World.size_drew, Act.put, List.setIfInBounds_toArray, List.set_cons_succ, List.set_cons_zero]) | go_big_quiet_step (fail))
        refine wpQuiet_nil ?_
        refine WD.done (by kernel_rfl) ?_
        have k0 := hbB.cell 0
        have k1 := hbB.cell 1
        go_wp2_with (refine wpList_store_agg rfl _ _ _ rfl rfl [.string C, .string M] rfl d0 keyT2 (Nat.le_refl _) (by simp [Value.oneCell']) ?_; intro u9 f9 b9 hs9; simp only [World.size_alloc, World.size_drew, Act.put, List.setIfInBounds_toArray, List.set_cons_succ, List.set_cons_zero])
        refine Go.Proofs.Ytgbkbhklgbjgmaa.aes.bodyPost_cell rfl rfl b9 _ Try.underlying23 rfl keyT2 rfl ?_
        exact ⟨rfl, gu5.trans f9 (by simp; have := HR0.out; omega)⟩
      · skip
        skip
        refine wpList_alloc_any rfl _ rfl _ _ 2 Hk.out Hkz.out rfl ?_
        intro zs u3 hzl hze f hlt hba
        rw [hze] at hba
        obtain ⟨Na, hNa⟩ : ∃ N, u2.heap.size = N := ⟨_, rfl⟩
        rw [hNa] at hba ⊢
        have HNa : w.heap.size ≤ Na := by have := gu2.size; omega
        have hRa : R0 ≠ Na := by have := d0.lt; omega
        try have hne6 : N6 ≠ Na := by have := ho6.at; omega
        try have hne10 : N10 ≠ Na := by have := ho10.at; omega
        try replace ho6 := ho6.on f (by simp)
        try replace ho10 := ho10.on f (by simp)
        have gu3 := gu2.trans' f
        replace d0 := f.blk d0 (by simp)
        clear hzl hze hlt f gu2 hNa
        simp only [World.size_alloc, World.size_drew, Act.put, List.setIfInBounds_toArray, List.set_cons_succ, List.set_cons_zero]
        try refine wpList_nil ?_
        refine AfterD.on ⟨ho6, ho10⟩ (by kernel_rfl) ?_
        try simp only [World.size_alloc, World.size_drew, Act.put, List.setIfInBounds_toArray, List.set_cons_succ, List.set_cons_zero]
        refine WD.eff 7 (by kernel_rfl) ?_
        simp only [pick, List.toList_toArray, List.map_cons, List.map_nil, List.getD_cons_succ, List.getD_cons_zero]
        go_wp2_with fail
        refine (H1.out _).mono ?_
        rintro e u4 ⟨rfl, f⟩
        go_wp2_with fail
        replace ho6 := ho6.on f (by simp)
        replace ho10 := ho10.on f (by simp)
        try replace hba := f.blk hba (by simp)
        have gu4 := gu3.trans' f
        replace d0 := f.blk d0 (by simp)
        clear f gu3
        try refine wpList_nil ?_
        refine AfterD.on ⟨ho6, ho10⟩ (by kernel_rfl) ?_
        try simp only [World.size_alloc, World.size_drew, Act.put, List.setIfInBounds_toArray, List.set_cons_succ, List.set_cons_zero]
        refine WD.pure [8, 9] (by kernel_rfl) ⟨ho6, ho10⟩ ?_
        simp only [pick, List.toList_toArray, List.map_cons, List.map_nil, List.getD_cons_succ, List.getD_cons_zero]
        repeat (first | (refine quiet_conv_v (by rfl) _ _ _ rfl _ rfl (.string D6) (fun wq h => by first|exact HS6.out _ _ h|exact HS6.out _ _ h.1|exact HS6.out _ _ h.2|(rw [h];exact HS6.out _ _ ho6)) ?_; simp only [World.size_alloc, World.size_drew, Act.put, List.setIfInBounds_toArray, List.set_cons_succ, List.set_cons_zero]) | (refine quiet_conv_v (by rfl) _ _ _ rfl _ rfl (.string D10) (fun wq h => by first|exact HS10.out _ _ h|exact HS10.out _ _ h.1|exact HS10.out _ _ h.2|(rw [h];exact HS10.out _ _ ho10)) ?_; simp only [World.size_alloc, World.size_drew, Act.put, List.setIfInBounds_toArray, List.set_cons_succ, List.set_cons_zero]) | go_big_quiet_step (fail))
        refine wpQuiet_nil ?_
        refine WD.free [10] (by kernel_rfl) ⟨ho6, ho10⟩ ?_
        simp only [pick, List.toList_toArray, List.map_cons, List.map_nil, List.getD_cons_succ, List.getD_cons_zero]
        repeat (first | (refine quiet_conv_v (by rfl) _ _ _ rfl _ rfl (.string D6) (fun wq h => by first|exact HS6.out _ _ h|exact HS6.out _ _ h.1|exact HS6.out _ _ h.2|(rw [h];exact HS6.out _ _ ho6)) ?_; simp only [World.size_alloc, World.size_drew, Act.put, List.setIfInBounds_toArray, List.set_cons_succ, List.set_cons_zero]) | (refine quiet_conv_v (by rfl) _ _ _ rfl _ rfl (.string D10) (fun wq h => by first|exact HS10.out _ _ h|exact HS10.out _ _ h.1|exact HS10.out _ _ h.2|(rw [h];exact HS10.out _ _ ho10)) ?_; simp only [World.size_alloc, World.size_drew, Act.put, List.setIfInBounds_toArray, List.set_cons_succ, List.set_cons_zero]) | go_big_quiet_step (fail))
        refine wpQuiet_nil ?_
        refine WD.eff 12 (by kernel_rfl) ?_
        simp only [pick, List.toList_toArray, List.map_cons, List.map_nil, List.getD_cons_succ, List.getD_cons_zero]
        refine wpList_store_ag rfl _ _ _ rfl rfl [.string C, .string M] rfl hba keyAT rfl (by decide) (by simp [Value.oneCell']) ?_
        intro u5 f hbB hs
        replace hbB : Blk u5 Na [.string C, .string M] := hbB
        replace ho6 := ho6.on f (by simpa using hne6)
        replace ho10 := ho10.on f (by simpa using hne10)
        have gu5 := gu4.trans f (by simp; have := HNa; omega)
        replace d0 := f.blk d0 (by simpa using hRa)
        clear hba hs
        simp only [World.size_alloc, World.size_drew, Act.put, List.setIfInBounds_toArray, List.set_cons_succ, List.set_cons_zero]
        try refine wpList_nil ?_
        refine AfterD.on ⟨ho6, ho10⟩ (by kernel_rfl) ?_
        try simp only [World.size_alloc, World.size_drew, Act.put, List.setIfInBounds_toArray, List.set_cons_succ, List.set_cons_zero]
        refine WD.pure [13] (by kernel_rfl) ⟨ho6, ho10⟩ ?_
        simp only [pick, List.toList_toArray, List.map_cons, List.map_nil, List.getD_cons_succ, List.getD_cons_zero]
        repeat (first | (refine quiet_conv_v (by rfl) _ _ _ rfl _ rfl (.string D6) (fun wq h => by first|exact HS6.out _ _ h|exact HS6.out _ _ h.1|exact HS6.out _ _ h.2|(rw [h];exact HS6.out _ _ ho6)) ?_; simp only [World.size_alloc, World.size_drew, Act.put, List.setIfInBounds_toArray, List.set_cons_succ, List.set_cons_zero]) | (refine quiet_conv_v (by rfl) _ _ _ rfl _ rfl (.string D10) (fun wq h => by first|exact HS10.out _ _ h|exact HS10.out _ _ h.1|exact HS10.out _ _ h.2|(rw [h];exact HS10.out _ _ ho10)) ?_; simp only [World.size_alloc, World.size_drew, Act.put, List.setIfInBounds_toArray, List.set_cons_succ, List.set_cons_zero]) | go_big_quiet_step (fail))
        refine wpQuiet_nil ?_
        refine WD.done (by kernel_rfl) ?_
        have k0 := hbB.cell 0
        have k1 := hbB.cell 1
        go_wp2_with (refine wpList_store_agg rfl _ _ _ rfl rfl [.string C, .string M] rfl d0 keyT2 (Nat.le_refl _) (by simp [Value.oneCell']) ?_; intro u9 f9 b9 hs9; simp only [World.size_alloc, World.size_drew, Act.put, List.setIfInBounds_toArray, List.set_cons_succ, List.set_cons_zero])
        refine Go.Proofs.Ytgbkbhklgbjgmaa.aes.bodyPost_cell rfl rfl b9 _ Try.underlying23 rfl keyT2 rfl ?_
        exact ⟨rfl, gu5.trans f9 (by simp; have := HR0.out; omega)⟩
    · skip
      skip
      refine wpList_alloc_any rfl _ rfl _ _ 2 Hk.out Hkz.out rfl ?_
      intro zs u2 hzl hze f hlt hba
      rw [hze] at hba
      obtain ⟨Na, hNa⟩ : ∃ N, u1.heap.size = N := ⟨_, rfl⟩
      rw [hNa] at hba ⊢
      have HNa : w.heap.size ≤ Na := by have := gu1.size; omega
      have hRa : R0 ≠ Na := by have := d0.lt; omega
      try have hne6 : N6 ≠ Na := by have := ho6.at; omega
      try have hne10 : N10 ≠ Na := by have := ho10.at; omega
      try replace ho6 := ho6.on f (by simp)
      try replace ho10 := ho10.on f (by simp)
      have gu2 := gu1.trans' f
      replace d0 := f.blk d0 (by simp)
      clear hzl hze hlt f gu1 hNa
      simp only [World.size_alloc, World.size_drew, Act.put, List.setIfInBounds_toArray, List.set_cons_succ, List.set_cons_zero]
      try refine wpList_nil ?_
      refine AfterD.on ho6 (by kernel_rfl) ?_
      try simp only [World.size_alloc, World.size_drew, Act.put, List.setIfInBounds_toArray, List.set_cons_succ, List.set_cons_zero]
      refine WD.eff 4 (by kernel_rfl) ?_
      simp only [pick, List.toList_toArray, List.map_cons, List.map_nil, List.getD_cons_succ, List.getD_cons_zero]
      refine wpList_buildSlice_any rfl _ 1 _ rfl 5 Try.underlying57 _ _ Hi.out Hz.out rfl Hs.out (by decide) (by decide) rfl [bt (x &&& c8 3)] rfl (bv_one [x &&& c8 3]) ?_
      intro u3 f hlt hb
      obtain ⟨N10, hN10⟩ : ∃ N, u2.heap.size = N := ⟨_, rfl⟩
      rw [hN10] at hb ⊢
      have ho10 : O10 x N10 u3 := Own.blk hb (Nat.le_refl _) (by unfold maxLen; omega) rfl
      try replace ho6 := ho6.on f (by simp)
      try have hne10 : N10 ≠ Na := by have := hba.lt; omega
      try replace hba := f.blk hba (by simp)
      have gu3 := gu2.trans' f
      replace d0 := f.blk d0 (by simp)
      clear hN10 hlt f gu2 hb
      simp only [World.size_alloc, World.size_drew, Act.put, List.setIfInBounds_toArray, List.set_cons_succ, List.set_cons_zero]
      try refine wpList_nil ?_
      refine AfterD.on ho6 (by kernel_rfl) ?_
      refine WD.more (fun w' => O6 N6 w' ∧ O10 x N10 w') (fun _ h => h.1) ?_
      try simp only [World.size_alloc, World.size_drew, Act.put, List.setIfInBounds_toArray, List.set_cons_succ, List.set_cons_zero]
      refine WD.pure [5, 6] (by kernel_rfl) ⟨ho6, ho10⟩ ?_
      simp only [pick, List.toList_toArray, List.map_cons, List.map_nil, List.getD_cons_succ, List.getD_cons_zero]
      repeat (first | (refine quiet_conv_v (by rfl) _ _ _ rfl _ rfl (.string D6) (fun wq h => by first|exact HS6.out _ _ h|exact HS6.out _ _ h.1|exact HS6.out _ _ h.2|(rw [h];exact HS6.out _ _ ho6)) ?_; simp only [World.size_alloc, World.size_drew, Act.put, List.setIfInBounds_toArray, List.set_cons_succ, List.set_cons_zero]) | (refine quiet_conv_v (by rfl) _ _ _ rfl _ rfl (.string D10) (fun wq h => by first|exact HS10.out _ _ h|exact HS10.out _ _ h.1|exact HS10.out _ _ h.2|(rw [h];exact HS10.out _ _ ho10)) ?_; simp only [World.size_alloc, World.size_drew, Act.put, List.setIfInBounds_toArray, List.set_cons_succ, List.set_cons_zero]) | go_big_quiet_step (fail))
      refine wpQuiet_nil ?_
      refine WD.eff 7 (by kernel_rfl) ?_
      simp only [pick, List.toList_toArray, List.map_cons, List.map_nil, List.getD_cons_succ, List.getD_cons_zero]
      go_wp2_with fail
      refine (H1.out _).mono ?_
      rintro e u4 ⟨rfl, f⟩
      go_wp2_with fail
      replace ho6 := ho6.on f (by simp)
      replace ho10 := ho10.on f (by simp)
      try replace hba := f.blk hba (by simp)
      have gu4 := gu3.trans' f
      replace d0 := f.blk d0 (by simp)
      clear f gu3
      try refine wpList_nil ?_
      refine AfterD.on ⟨ho6, ho10⟩ (by kernel_rfl) ?_
      try simp only [World.size_alloc, World.size_drew, Act.put, List.setIfInBounds_toArray, List.set_cons_succ, List.set_cons_zero]
      refine WD.pure [8, 9] (by kernel_rfl) ⟨ho6, ho10⟩ ?_
      simp only [pick, List.toList_toArray, List.map_cons, List.map_nil, List.getD_cons_succ, List.getD_cons_zero]
      repeat (first | (refine quiet_conv_v (by rfl) _ _ _ rfl _ rfl (.string D6) (fun wq h => by first|exact HS6.out _ _ h|exact HS6.out _ _ h.1|exact HS6.out _ _ h.2|(rw [h];exact HS6.out _ _ ho6)) ?_; simp only [World.size_alloc, World.size_drew, Act.put, List.setIfInBounds_toArray, List.set_cons_succ, List.set_cons_zero]) | (refine quiet_conv_v (by rfl) _ _ _ rfl _ rfl (.string D10) (fun wq h => by first|exact HS10.out _ _ h|exact HS10.out _ _ h.1|exact HS10.out _ _ h.2|(rw [h];exact HS10.out _ _ ho10)) ?_; simp only [World.size_alloc, World.size_drew, Act.put, List.setIfInBounds_toArray, List.set_cons_succ, List.set_cons_zero]) | go_big_quiet_step (fail))
      refine wpQuiet_nil ?_
      refine WD.free [10] (by kernel_rfl) ⟨ho6, ho10⟩ ?_
      simp only [pick, List.toList_toArray, List.map_cons, List.map_nil, List.getD_cons_succ, List.getD_cons_zero]
      repeat (first | (refine quiet_conv_v (by rfl) _ _ _ rfl _ rfl (.string D6) (fun wq h => by first|exact HS6.out _ _ h|exact HS6.out _ _ h.1|exact HS6.out _ _ h.2|(rw [h];exact HS6.out _ _ ho6)) ?_; simp only [World.size_alloc, World.size_drew, Act.put, List.setIfInBounds_toArray, List.set_cons_succ, List.set_cons_zero]) | (refine quiet_conv_v (by rfl) _ _ _ rfl _ rfl (.string D10) (fun wq h => by first|exact HS10.out _ _ h|exact HS10.out _ _ h.1|exact HS10.out _ _ h.2|(rw [h];exact HS10.out _ _ ho10)) ?_; simp only [World.size_alloc, World.size_drew, Act.put, List.setIfInBounds_toArray, List.set_cons_succ, List.set_cons_zero]) | go_big_quiet_step (fail))
      refine wpQuiet_nil ?_
      refine WD.eff 12 (by kernel_rfl) ?_
      simp only [pick, List.toList_toArray, List.map_cons, List.map_nil, List.getD_cons_succ, List.getD_cons_zero]
      refine wpList_store_ag rfl _ _ _ rfl rfl [.string C, .string M] rfl hba keyAT rfl (by decide) (by simp [Value.oneCell']) ?_
      intro u5 f hbB hs
      replace hbB : Blk u5 Na [.string C, .string M] := hbB
      replace ho6 := ho6.on f (by simpa using hne6)
      replace ho10 := ho10.on f (by simpa using hne10)
      have gu5 := gu4.trans f (by simp; have := HNa; omega)
      replace d0 := f.blk d0 (by simpa using hRa)
      clear hba hs
      simp only [World.size_alloc, World.size_drew, Act.put, List.setIfInBounds_toArray, List.set_cons_succ, List.set_cons_zero]
      try refine wpList_nil ?_
      refine AfterD.on ⟨ho6, ho10⟩ (by kernel_rfl) ?_
      try simp only [World.size_alloc, World.size_drew, Act.put, List.setIfInBounds_toArray, List.set_cons_succ, List.set_cons_zero]
      refine WD.pure [13] (by kernel_rfl) ⟨ho6, ho10⟩ ?_
      simp only [pick, List.toList_toArray, List.map_cons, List.map_nil, List.getD_cons_succ, List.getD_cons_zero]
      repeat (first | (refine quiet_conv_v (by rfl) _ _ _ rfl _ rfl (.string D6) (fun wq h => by first|exact HS6.out _ _ h|exact HS6.out _ _ h.1|exact HS6.out _ _ h.2|(rw [h];exact HS6.out _ _ ho6)) ?_; simp only [World.size_alloc, World.size_drew, Act.put, List.setIfInBounds_toArray, List.set_cons_succ, List.set_cons_zero]) | (refine quiet_conv_v (by rfl) _ _ _ rfl _ rfl (.string D10) (fun wq h => by first|exact HS10.out _ _ h|exact HS10.out _ _ h.1|exact HS10.out _ _ h.2|(rw [h];exact HS10.out _ _ ho10)) ?_; simp only [World.size_alloc, World.size_drew, Act.put, List.setIfInBounds_toArray, List.set_cons_succ, List.set_cons_zero]) | go_big_quiet_step (fail))
      refine wpQuiet_nil ?_
      refine WD.done (by kernel_rfl) ?_
      have k0 := hbB.cell 0
      have k1 := hbB.cell 1
      go_wp2_with (refine wpList_store_agg rfl _ _ _ rfl rfl [.string C, .string M] rfl d0 keyT2 (Nat.le_refl _) (by simp [Value.oneCell']) ?_; intro u9 f9 b9 hs9; simp only [World.size_alloc, World.size_drew, Act.put, List.setIfInBounds_toArray, List.set_cons_succ, List.set_cons_zero])
      refine Go.Proofs.Ytgbkbhklgbjgmaa.aes.bodyPost_cell rfl rfl b9 _ Try.underlying23 rfl keyT2 rfl ?_
      exact ⟨rfl, gu5.trans f9 (by simp; have := HR0.out; omega)⟩
  · skip
    skip
    refine wpList_buildSlice_any rfl _ 1 _ rfl 5 Try.underlying57 _ _ Hi.out Hz.out rfl Hs.out (by decide) (by decide) rfl [bt (x &&& c8 3)] rfl (bv_one [x &&& c8 3]) ?_
    intro u1 f hlt hb
    obtain ⟨N10, hN10⟩ : ∃ N, u0.heap.size = N := ⟨_, rfl⟩
    rw [hN10] at hb ⊢
    have ho10 : O10 x N10 u1 := Own.blk hb (Nat.le_refl _) (by unfold maxLen; omega) rfl
    try replace ho6 := ho6.on f (by simp)
    try have hne10 : N10 ≠ Na := by have := hba.lt; omega
    try replace hba := f.blk hba (by simp)
    have gu1 := gu0.trans' f
    replace d0 := f.blk d0 (by simp)
    clear hN10 hlt f gu0 hb
    simp only [World.size_alloc, World.size_drew, Act.put, List.setIfInBounds_toArray, List.set_cons_succ, List.set_cons_zero]
    try refine wpList_nil ?_
    refine AfterD.on trivial (by kernel_rfl) ?_
    refine WD.more (O10 x N10) (fun _ _ => trivial) ?_
    try simp only [World.size_alloc, World.size_drew, Act.put, List.setIfInBounds_toArray, List.set_cons_succ, List.set_cons_zero]
    refine WD.held [5] (by kernel_rfl) ho10 ?_
    simp only [pick, List.toList_toArray, List.map_cons, List.map_nil, List.getD_cons_succ, List.getD_cons_zero]
    repeat (first | (refine quiet_conv_v (by rfl) _ _ _ rfl _ rfl (.string D6) (fun wq h => by first|exact HS6.out _ _ h|exact HS6.out _ _ h.1|exact HS6.out _ _ h.2|(rw [h];exact HS6.out _ _ ho6)) ?_; simp only [World.size_alloc, World.size_drew, Act.put, List.setIfInBounds_toArray, List.set_cons_succ, List.set_cons_zero]) | (refine quiet_conv_v (by rfl) _ _ _ rfl _ rfl (.string D10) (fun wq h => by first|exact HS10.out _ _ h|exact HS10.out _ _ h.1|exact HS10.out _ _ h.2|(rw [h];exact HS10.out _ _ ho10)) ?_; simp only [World.size_alloc, World.size_drew, Act.put, List.setIfInBounds_toArray, List.set_cons_succ, List.set_cons_zero]) | go_big_quiet_step (fail))
    refine wpQuiet_nil ?_
    refine WD.eff2 0 11 (by kernel_rfl) ?_ ?_
    all_goals simp only [pick, List.toList_toArray, List.map_cons, List.map_nil, List.getD_cons_succ, List.getD_cons_zero]
    · skip
      refine wpList_make1 rfl _ _ _ rfl 31 31 .i64 .i64 rfl rfl 5 _ _ 1 Try.underlying57 Hi.out Hz.out Hs.out Hb.out rfl (Nat.le_refl _) (by decide) (by decide) ?_
      intro u2 f hlt ho6
      rw [HL.out] at ho6
      obtain ⟨N6, hN6⟩ : ∃ N, u1.heap.size = N := ⟨_, rfl⟩
      rw [hN6] at ho6 ⊢
      replace ho6 : O6 N6 u2 := ho6
      try replace ho10 := ho10.on f (by simp)
      try have hne6 : N6 ≠ Na := by have := hba.lt; omega
      try replace hba := f.blk hba (by simp)
      have gu2 := gu1.trans' f
      replace d0 := f.blk d0 (by simp)
      clear hN6 hlt f gu1
      simp only [World.size_alloc, World.size_drew, Act.put, List.setIfInBounds_toArray, List.set_cons_succ, List.set_cons_zero]
      try refine wpList_nil ?_
      refine AfterD.on ho10 (by kernel_rfl) ?_
      refine WD.more (fun w' => O6 N6 w' ∧ O10 x N10 w') (fun _ h => h.2) ?_
      try simp only [World.size_alloc, World.size_drew, Act.put, List.setIfInBounds_toArray, List.set_cons_succ, List.set_cons_zero]
      refine WD.held [1] (by kernel_rfl) ⟨ho6, ho10⟩ ?_
      simp only [pick, List.toList_toArray, List.map_cons, List.map_nil, List.getD_cons_succ, List.getD_cons_zero]
      repeat (first | (refine quiet_conv_v (by rfl) _ _ _ rfl _ rfl (.string D6) (fun wq h => by first|exact HS6.out _ _ h|exact HS6.out _ _ h.1|exact HS6.out _ _ h.2|(rw [h];exact HS6.out _ _ ho6)) ?_; simp only [World.size_alloc, World.size_drew, Act.put, List.setIfInBounds_toArray, List.set_cons_succ, List.set_cons_zero]) | (refine quiet_conv_v (by rfl) _ _ _ rfl _ rfl (.string D10) (fun wq h => by first|exact HS10.out _ _ h|exact HS10.out _ _ h.1|exact HS10.out _ _ h.2|(rw [h];exact HS10.out _ _ ho10)) ?_; simp only [World.size_alloc, World.size_drew, Act.put, List.setIfInBounds_toArray, List.set_cons_succ, List.set_cons_zero]) | go_big_quiet_step (fail))
      refine wpQuiet_nil ?_
      refine WD.free [6] (by kernel_rfl) ⟨ho6, ho10⟩ ?_
      simp only [pick, List.toList_toArray, List.map_cons, List.map_nil, List.getD_cons_succ, List.getD_cons_zero]
      repeat (first | (refine quiet_conv_v (by rfl) _ _ _ rfl _ rfl (.string D6) (fun wq h => by first|exact HS6.out _ _ h|exact HS6.out _ _ h.1|exact HS6.out _ _ h.2|(rw [h];exact HS6.out _ _ ho6)) ?_; simp only [World.size_alloc, World.size_drew, Act.put, List.setIfInBounds_toArray, List.set_cons_succ, List.set_cons_zero]) | (refine quiet_conv_v (by rfl) _ _ _ rfl _ rfl (.string D10) (fun wq h => by first|exact HS10.out _ _ h|exact HS10.out _ _ h.1|exact HS10.out _ _ h.2|(rw [h];exact HS10.out _ _ ho10)) ?_; simp only [World.size_alloc, World.size_drew, Act.put, List.setIfInBounds_toArray, List.set_cons_succ, List.set_cons_zero]) | go_big_quiet_step (fail))
      refine wpQuiet_nil ?_
      refine WD.eff2 7 11 (by kernel_rfl) ?_ ?_
      all_goals simp only [pick, List.toList_toArray, List.map_cons, List.map_nil, List.getD_cons_succ, List.getD_cons_zero]
      · skip
        go_wp2_with fail
        refine (H1.out _).mono ?_
        rintro e u3 ⟨rfl, f⟩
        go_wp2_with fail
        replace ho6 := ho6.on f (by simp)
        replace ho10 := ho10.on f (by simp)
        try replace hba := f.blk hba (by simp)
        have gu3 := gu2.trans' f
        replace d0 := f.blk d0 (by simp)
        clear f gu2
        try refine wpList_nil ?_
        refine AfterD.on ⟨ho6, ho10⟩ (by kernel_rfl) ?_
        try simp only [World.size_alloc, World.size_drew, Act.put, List.setIfInBounds_toArray, List.set_cons_succ, List.set_cons_zero]
        refine WD.free [8, 9, 10] (by kernel_rfl) ⟨ho6, ho10⟩ ?_
        simp only [pick, List.toList_toArray, List.map_cons, List.map_nil, List.getD_cons_succ, List.getD_cons_zero]
        repeat (first | (refine quiet_conv_v (by rfl) _ _ _ rfl _ rfl (.string D6) (fun wq h => by first|exact HS6.out _ _ h|exact HS6.out _ _ h.1|exact HS6.out _ _ h.2|(rw [h];exact HS6.out _ _ ho6)) ?_; simp only [World.size_alloc, World.size_drew, Act.put, List.setIfInBounds_toArray, List.set_cons_succ, List.set_cons_zero]) | (refine quiet_conv_v (by rfl) _ _ _ rfl _ rfl (.string D10) (fun wq h => by first|exact HS10.out _ _ h|exact HS10.out _ _ h.1|exact HS10.out _ _ h.2|(rw [h];exact HS10.out _ _ ho10)) ?_; simp only [World.size_alloc, World.size_drew, Act.put, List.setIfInBounds_toArray, List.set_cons_succ, List.set_cons_zero]) | go_big_quiet_step (fail))
        refine wpQuiet_nil ?_
        refine WD.eff 11 (by kernel_rfl) ?_
        simp only [pick, List.toList_toArray, List.map_cons, List.map_nil, List.getD_cons_succ, List.getD_cons_zero]
        refine wpList_alloc_any rfl _ rfl _ _ 2 Hk.out Hkz.out rfl ?_
        intro zs u4 hzl hze f hlt hba
        rw [hze] at hba
        obtain ⟨Na, hNa⟩ : ∃ N, u3.heap.size = N := ⟨_, rfl⟩
        rw [hNa] at hba ⊢
        have HNa : w.heap.size ≤ Na := by have := gu3.size; omega
        have hRa : R0 ≠ Na := by have := d0.lt; omega
        try have hne6 : N6 ≠ Na := by have := ho6.at; omega
        try have hne10 : N10 ≠ Na := by have := ho10.at; omega
        try replace ho6 := ho6.on f (by simp)
        try replace ho10 := ho10.on f (by simp)
        have gu4 := gu3.trans' f
        replace d0 := f.blk d0 (by simp)
        clear hzl hze hlt f gu3 hNa
        simp only [World.size_alloc, World.size_drew, Act.put, List.setIfInBounds_toArray, List.set_cons_succ, List.set_cons_zero]
        try refine wpList_nil ?_
        refine AfterD.on ⟨ho6, ho10⟩ (by kernel_rfl) ?_
        try simp only [World.size_alloc, World.size_drew, Act.put, List.setIfInBounds_toArray, List.set_cons_succ, List.set_cons_zero]
        refine WD.eff 12 (by kernel_rfl) ?_
        simp only [pick, List.toList_toArray, List.map_cons, List.map_nil, List.getD_cons_succ, List.getD_cons_zero]
        refine wpList_store_ag rfl _ _ _ rfl rfl [.string C, .string M] rfl hba keyAT rfl (by decide) (by simp [Value.oneCell']) ?_
        intro u5 f hbB hs
        replace hbB : Blk u5 Na [.string C, .string M] := hbB
        replace ho6 := ho6.on f (by simpa using hne6)
        replace ho10 := ho10.on f (by simpa using hne10)
        have gu5 := gu4.trans f (by simp; have := HNa; omega)
        replace d0 := f.blk d0 (by simpa using hRa)
        clear hba hs
        simp only [World.size_alloc, World.size_drew, Act.put, List.setIfInBounds_toArray, List.set_cons_succ, List.set_cons_zero]
        try refine wpList_nil ?_
        refine AfterD.on ⟨ho6, ho10⟩ (by kernel_rfl) ?_
        try simp only [World.size_alloc, World.size_drew, Act.put, List.setIfInBounds_toArray, List.set_cons_succ, List.set_cons_zero]
        refine WD.pure [13] (by kernel_rfl) ⟨ho6, ho10⟩ ?_
        simp only [pick, List.toList_toArray, List.map_cons, List.map_nil, List.getD_cons_succ, List.getD_cons_zero]
        repeat (first | (refine quiet_conv_v (by rfl) _ _ _ rfl _ rfl (.string D6) (fun wq h => by first|exact HS6.out _ _ h|exact HS6.out _ _ h.1|exact HS6.out _ _ h.2|(rw [h];exact HS6.out _ _ ho6)) ?_; simp only [World.size_alloc, World.size_drew, Act.put, List.setIfInBounds_toArray, List.set_cons_succ, List.set_cons_zero]) | (refine quiet_conv_v (by rfl) _ _ _ rfl _ rfl (.string D10) (fun wq h => by first|exact HS10.out _ _ h|exact HS10.out _ _ h.1|exact HS10.out _ _ h.2|(rw [h];exact HS10.out _ _ ho10)) ?_; simp only [World.size_alloc, World.size_drew, Act.put, List.setIfInBounds_toArray, List.set_cons_succ, List.set_cons_zero]) | go_big_quiet_step (fail))
        refine wpQuiet_nil ?_
        refine WD.done (by kernel_rfl) ?_
        have k0 := hbB.cell 0
        have k1 := hbB.cell 1
        go_wp2_with (refine wpList_store_agg rfl _ _ _ rfl rfl [.string C, .string M] rfl d0 keyT2 (Nat.le_refl _) (by simp [Value.oneCell']) ?_; intro u9 f9 b9 hs9; simp only [World.size_alloc, World.size_drew, Act.put, List.setIfInBounds_toArray, List.set_cons_succ, List.set_cons_zero])
        refine Go.Proofs.Ytgbkbhklgbjgmaa.aes.bodyPost_cell rfl rfl b9 _ Try.underlying23 rfl keyT2 rfl ?_
        exact ⟨rfl, gu5.trans f9 (by simp; have := HR0.out; omega)⟩
      · skip
        skip
        refine wpList_alloc_any rfl _ rfl _ _ 2 Hk.out Hkz.out rfl ?_
        intro zs u3 hzl hze f hlt hba
        rw [hze] at hba
        obtain ⟨Na, hNa⟩ : ∃ N, u2.heap.size = N := ⟨_, rfl⟩
        rw [hNa] at hba ⊢
        have HNa : w.heap.size ≤ Na := by have := gu2.size; omega
        have hRa : R0 ≠ Na := by have := d0.lt; omega
        try have hne6 : N6 ≠ Na := by have := ho6.at; omega
        try have hne10 : N10 ≠ Na := by have := ho10.at; omega
        try replace ho6 := ho6.on f (by simp)
        try replace ho10 := ho10.on f (by simp)
        have gu3 := gu2.trans' f
        replace d0 := f.blk d0 (by simp)
        clear hzl hze hlt f gu2 hNa
        simp only [World.size_alloc, World.size_drew, Act.put, List.setIfInBounds_toArray, List.set_cons_succ, List.set_cons_zero]
        try refine wpList_nil ?_
        refine AfterD.on ⟨ho6, ho10⟩ (by kernel_rfl) ?_
        try simp only [World.size_alloc, World.size_drew, Act.put, List.setIfInBounds_toArray, List.set_cons_succ, List.set_cons_zero]
        refine WD.eff 7 (by kernel_rfl) ?_
        simp only [pick, List.toList_toArray, List.map_cons, List.map_nil, List.getD_cons_succ, List.getD_cons_zero]
        go_wp2_with fail
        refine (H1.out _).mono ?_
        rintro e u4 ⟨rfl, f⟩
        go_wp2_with fail
        replace ho6 := ho6.on f (by simp)
        replace ho10 := ho10.on f (by simp)
        try replace hba := f.blk hba (by simp)
        have gu4 := gu3.trans' f
        replace d0 := f.blk d0 (by simp)
        clear f gu3
        try refine wpList_nil ?_
        refine AfterD.on ⟨ho6, ho10⟩ (by kernel_rfl) ?_
        try simp only [World.size_alloc, World.size_drew, Act.put, List.setIfInBounds_toArray, List.set_cons_succ, List.set_cons_zero]
        refine WD.pure [8, 9] (by kernel_rfl) ⟨ho6, ho10⟩ ?_
        simp only [pick, List.toList_toArray, List.map_cons, List.map_nil, List.getD_cons_succ, List.getD_cons_zero]
        repeat (first | (refine quiet_conv_v (by rfl) _ _ _ rfl _ rfl (.string D6) (fun wq h => by first|exact HS6.out _ _ h|exact HS6.out _ _ h.1|exact HS6.out _ _ h.2|(rw [h];exact HS6.out _ _ ho6)) ?_; simp only [World.size_alloc, World.size_drew, Act.put, List.setIfInBounds_toArray, List.set_cons_succ, List.set_cons_zero]) | (refine quiet_conv_v (by rfl) _ _ _ rfl _ rfl (.string D10) (fun wq h => by first|exact HS10.out _ _ h|exact HS10.out _ _ h.1|exact HS10.out _ _ h.2|(rw [h];exact HS10.out _ _ ho10)) ?_; simp only [World.size_alloc, World.size_drew, Act.put, List.setIfInBounds_toArray, List.set_cons_succ, List.set_cons_zero]) | go_big_quiet_step (fail))
        refine wpQuiet_nil ?_
        refine WD.free [10] (by kernel_rfl) ⟨ho6, ho10⟩ ?_
        simp only [pick, List.toList_toArray, List.map_cons, List.map_nil, List.getD_cons_succ, List.getD_cons_zero]
        repeat (first | (refine quiet_conv_v (by rfl) _ _ _ rfl _ rfl (.string D6) (fun wq h => by first|exact HS6.out _ _ h|exact HS6.out _ _ h.1|exact HS6.out _ _ h.2|(rw [h];exact HS6.out _ _ ho6)) ?_; simp only [World.size_alloc, World.size_drew, Act.put, List.setIfInBounds_toArray, List.set_cons_succ, List.set_cons_zero]) | (refine quiet_conv_v (by rfl) _ _ _ rfl _ rfl (.string D10) (fun wq h => by first|exact HS10.out _ _ h|exact HS10.out _ _ h.1|exact HS10.out _ _ h.2|(rw [h];exact HS10.out _ _ ho10)) ?_; simp only [World.size_alloc, World.size_drew, Act.put, List.setIfInBounds_toArray, List.set_cons_succ, List.set_cons_zero]) | go_big_quiet_step (fail))
        refine wpQuiet_nil ?_
        refine WD.eff 12 (by kernel_rfl) ?_
        simp only [pick, List.toList_toArray, List.map_cons, List.map_nil, List.getD_cons_succ, List.getD_cons_zero]
        refine wpList_store_ag rfl _ _ _ rfl rfl [.string C, .string M] rfl hba keyAT rfl (by decide) (by simp [Value.oneCell']) ?_
        intro u5 f hbB hs
        replace hbB : Blk u5 Na [.string C, .string M] := hbB
        replace ho6 := ho6.on f (by simpa using hne6)
        replace ho10 := ho10.on f (by simpa using hne10)
        have gu5 := gu4.trans f (by simp; have := HNa; omega)
        replace d0 := f.blk d0 (by simpa using hRa)
        clear hba hs
        simp only [World.size_alloc, World.size_drew, Act.put, List.setIfInBounds_toArray, List.set_cons_succ, List.set_cons_zero]
        try refine wpList_nil ?_
        refine AfterD.on ⟨ho6, ho10⟩ (by kernel_rfl) ?_
        try simp only [World.size_alloc, World.size_drew, Act.put, List.setIfInBounds_toArray, List.set_cons_succ, List.set_cons_zero]
        refine WD.pure [13] (by kernel_rfl) ⟨ho6, ho10⟩ ?_
        simp only [pick, List.toList_toArray, List.map_cons, List.map_nil, List.getD_cons_succ, List.getD_cons_zero]
        repeat (first | (refine quiet_conv_v (by rfl) _ _ _ rfl _ rfl (.string D6) (fun wq h => by first|exact HS6.out _ _ h|exact HS6.out _ _ h.1|exact HS6.out _ _ h.2|(rw [h];exact HS6.out _ _ ho6)) ?_; simp only [World.size_alloc, World.size_drew, Act.put, List.setIfInBounds_toArray, List.set_cons_succ, List.set_cons_zero]) | (refine quiet_conv_v (by rfl) _ _ _ rfl _ rfl (.string D10) (fun wq h => by first|exact HS10.out _ _ h|exact HS10.out _ _ h.1|exact HS10.out _ _ h.2|(rw [h];exact HS10.out _ _ ho10)) ?_; simp only [World.size_alloc, World.size_drew, Act.put, List.setIfInBounds_toArray, List.set_cons_succ, List.set_cons_zero]) | go_big_quiet_step (fail))
        refine wpQuiet_nil ?_
        refine WD.done (by kernel_rfl) ?_
        have k0 := hbB.cell 0
        have k1 := hbB.cell 1
        go_wp2_with (refine wpList_store_agg rfl _ _ _ rfl rfl [.string C, .string M] rfl d0 keyT2 (Nat.le_refl _) (by simp [Value.oneCell']) ?_; intro u9 f9 b9 hs9; simp only [World.size_alloc, World.size_drew, Act.put, List.setIfInBounds_toArray, List.set_cons_succ, List.set_cons_zero])
        refine Go.Proofs.Ytgbkbhklgbjgmaa.aes.bodyPost_cell rfl rfl b9 _ Try.underlying23 rfl keyT2 rfl ?_
        exact ⟨rfl, gu5.trans f9 (by simp; have := HR0.out; omega)⟩
    · skip
      skip
      refine wpList_alloc_any rfl _ rfl _ _ 2 Hk.out Hkz.out rfl ?_
      intro zs u2 hzl hze f hlt hba
      rw [hze] at hba
      obtain ⟨Na, hNa⟩ : ∃ N, u1.heap.size = N := ⟨_, rfl⟩
      rw [hNa] at hba ⊢
      have HNa : w.heap.size ≤ Na := by have := gu1.size; omega
      have hRa : R0 ≠ Na := by have := d0.lt; omega
      try have hne6 : N6 ≠ Na := by have := ho6.at; omega
      try have hne10 : N10 ≠ Na := by have := ho10.at; omega
      try replace ho6 := ho6.on f (by simp)
      try replace ho10 := ho10.on f (by simp)
      have gu2 := gu1.trans' f
      replace d0 := f.blk d0 (by simp)
      clear hzl hze hlt f gu1 hNa
      simp only [World.size_alloc, World.size_drew, Act.put, List.setIfInBounds_toArray, List.set_cons_succ, List.set_cons_zero]
      try refine wpList_nil ?_
      refine AfterD.on ho10 (by kernel_rfl) ?_
      try simp only [World.size_alloc, World.size_drew, Act.put, List.setIfInBounds_toArray, List.set_cons_succ, List.set_cons_zero]
      refine WD.eff 0 (by kernel_rfl) ?_
      simp only [pick, List.toList_toArray, List.map_cons, List.map_nil, List.getD_cons_succ, List.getD_cons_zero]
      refine wpList_make1 rfl _ _ _ rfl 31 31 .i64 .i64 rfl rfl 5 _ _ 1 Try.underlying57 Hi.out Hz.out Hs.out Hb.out rfl (Nat.le_refl _) (by decide) (by decide) ?_
      intro u3 f hlt ho6
      rw [HL.out] at ho6
      obtain ⟨N6, hN6⟩ : ∃ N, u2.heap.size = N := ⟨_, rfl⟩
      rw [hN6] at ho6 ⊢
      replace ho6 : O6 N6 u3 := ho6
      try replace ho10 := ho10.on f (by simp)
      try have hne6 : N6 ≠ Na := by have := hba.lt; omega
      try replace hba := f.blk hba (by simp)
      have gu3 := gu2.trans' f
      replace d0 := f.blk d0 (by simp)
      clear hN6 hlt f gu2
      simp only [World.size_alloc, World.size_drew, Act.put, List.setIfInBounds_toArray, List.set_cons_succ, List.set_cons_zero]
      try refine wpList_nil ?_
      refine AfterD.on ho10 (by kernel_rfl) ?_
      refine WD.more (fun w' => O6 N6 w' ∧ O10 x N10 w') (fun _ h => h.2) ?_
      try simp only [World.size_alloc, World.size_drew, Act.put, List.setIfInBounds_toArray, List.set_cons_succ, List.set_cons_zero]
      refine WD.pure [1, 6] (by kernel_rfl) ⟨ho6, ho10⟩ ?_
      simp only [pick, List.toList_toArray, List.map_cons, List.map_nil, List.getD_cons_succ, List.getD_cons_zero]
      repeat (first | (refine quiet_conv_v (by rfl) _ _ _ rfl _ rfl (.string D6) (fun wq h => by first|exact HS6.out _ _ h|exact HS6.out _ _ h.1|exact HS6.out _ _ h.2|(rw [h];exact HS6.out _ _ ho6)) ?_; simp only [World.size_alloc, World.size_drew, Act.put, List.setIfInBounds_toArray, List.set_cons_succ, List.set_cons_zero]) | (refine quiet_conv_v (by rfl) _ _ _ rfl _ rfl (.string D10) (fun wq h => by first|exact HS10.out _ _ h|exact HS10.out _ _ h.1|exact HS10.out _ _ h.2|(rw [h];exact HS10.out _ _ ho10)) ?_; simp only [World.size_alloc, World.size_drew, Act.put, List.setIfInBounds_toArray, List.set_cons_succ, List.set_cons_zero]) | go_big_quiet_step (fail))
      refine wpQuiet_nil ?_
      refine WD.eff 7 (by kernel_rfl) ?_
      simp only [pick, List.toList_toArray, List.map_cons, List.map_nil, List.getD_cons_succ, List.getD_cons_zero]
      go_wp2_with fail
      refine (H1.out _).mono ?_
      rintro e u4 ⟨rfl, f⟩
      go_wp2_with fail
      replace ho6 := ho6.on f (by simp)
      replace ho10 := ho10.on f (by simp)
      try replace hba := f.blk hba (by simp)
      have gu4 := gu3.trans' f
      replace d0 := f.blk d0 (by simp)
      clear f gu3
      try refine wpList_nil ?_
      refine AfterD.on ⟨ho6, ho10⟩ (by kernel_rfl) ?_
      try simp only [World.size_alloc, World.size_drew, Act.put, List.setIfInBounds_toArray, List.set_cons_succ, List.set_cons_zero]
      refine WD.pure [8, 9] (by kernel_rfl) ⟨ho6, ho10⟩ ?_
      simp only [pick, List.toList_toArray, List.map_cons, List.map_nil, List.getD_cons_succ, List.getD_cons_zero]
      repeat (first | (refine quiet_conv_v (by rfl) _ _ _ rfl _ rfl (.string D6) (fun wq h => by first|exact HS6.out _ _ h|exact HS6.out _ _ h.1|exact HS6.out _ _ h.2|(rw [h];exact HS6.out _ _ ho6)) ?_; simp only [World.size_alloc, World.size_drew, Act.put, List.setIfInBounds_toArray, List.set_cons_succ, List.set_cons_zero]) | (refine quiet_conv_v (by rfl) _ _ _ rfl _ rfl (.string D10) (fun wq h => by first|exact HS10.out _ _ h|exact HS10.out _ _ h.1|exact HS10.out _ _ h.2|(rw [h];exact HS10.out _ _ ho10)) ?_; simp only [World.size_alloc, World.size_drew, Act.put, List.setIfInBounds_toArray, List.set_cons_succ, List.set_cons_zero]) | go_big_quiet_step (fail))
      refine wpQuiet_nil ?_
      refine WD.free [10] (by kernel_rfl) ⟨ho6, ho10⟩ ?_
      simp only [pick, List.toList_toArray, List.map_cons, List.map_nil, List.getD_cons_succ, List.getD_cons_zero]
      repeat (first | (refine quiet_conv_v (by rfl) _ _ _ rfl _ rfl (.string D6) (fun wq h => by first|exact HS6.out _ _ h|exact HS6.out _ _ h.1|exact HS6.out _ _ h.2|(rw [h];exact HS6.out _ _ ho6)) ?_; simp only [World.size_alloc, World.size_drew, Act.put, List.setIfInBounds_toArray, List.set_cons_succ, List.set_cons_zero]) | (refine quiet_conv_v (by rfl) _ _ _ rfl _ rfl (.string D10) (fun wq h => by first|exact HS10.out _ _ h|exact HS10.out _ _ h.1|exact HS10.out _ _ h.2|(rw [h];exact HS10.out _ _ ho10)) ?_; simp only [World.size_alloc, World.size_drew, Act.put, List.setIfInBounds_toArray, List.set_cons_succ, List.set_cons_zero]) | go_big_quiet_step (fail))
      refine wpQuiet_nil ?_
      refine WD.eff 12 (by kernel_rfl) ?_
      simp only [pick, List.toList_toArray, List.map_cons, List.map_nil, List.getD_cons_succ, List.getD_cons_zero]
      refine wpList_store_ag rfl _ _ _ rfl rfl [.string C, .string M] rfl hba keyAT rfl (by decide) (by simp [Value.oneCell']) ?_
      intro u5 f hbB hs
      replace hbB : Blk u5 Na [.string C, .string M] := hbB
      replace ho6 := ho6.on f (by simpa using hne6)
      replace ho10 := ho10.on f (by simpa using hne10)
      have gu5 := gu4.trans f (by simp; have := HNa; omega)
      replace d0 := f.blk d0 (by simpa using hRa)
      clear hba hs
      simp only [World.size_alloc, World.size_drew, Act.put, List.setIfInBounds_toArray, List.set_cons_succ, List.set_cons_zero]
      try refine wpList_nil ?_
      refine AfterD.on ⟨ho6, ho10⟩ (by kernel_rfl) ?_
      try simp only [World.size_alloc, World.size_drew, Act.put, List.setIfInBounds_toArray, List.set_cons_succ, List.set_cons_zero]
      refine WD.pure [13] (by kernel_rfl) ⟨ho6, ho10⟩ ?_
      simp only [pick, List.toList_toArray, List.map_cons, List.map_nil, List.getD_cons_succ, List.getD_cons_zero]
      repeat (first | (refine quiet_conv_v (by rfl) _ _ _ rfl _ rfl (.string D6) (fun wq h => by first|exact HS6.out _ _ h|exact HS6.out _ _ h.1|exact HS6.out _ _ h.2|(rw [h];exact HS6.out _ _ ho6)) ?_; simp only [World.size_alloc, World.size_drew, Act.put, List.setIfInBounds_toArray, List.set_cons_succ, List.set_cons_zero]) | (refine quiet_conv_v (by rfl) _ _ _ rfl _ rfl (.string D10) (fun wq h => by first|exact HS10.out _ _ h|exact HS10.out _ _ h.1|exact HS10.out _ _ h.2|(rw [h];exact HS10.out _ _ ho10)) ?_; simp only [World.size_alloc, World.size_drew, Act.put, List.setIfInBounds_toArray, List.set_cons_succ, List.set_cons_zero]) | go_big_quiet_step (fail))
      refine wpQuiet_nil ?_
      refine WD.done (by kernel_rfl) ?_
      have k0 := hbB.cell 0
      have k1 := hbB.cell 1
      go_wp2_with (refine wpList_store_agg rfl _ _ _ rfl rfl [.string C, .string M] rfl d0 keyT2 (Nat.le_refl _) (by simp [Value.oneCell']) ?_; intro u9 f9 b9 hs9; simp only [World.size_alloc, World.size_drew, Act.put, List.setIfInBounds_toArray, List.set_cons_succ, List.set_cons_zero])
      refine Go.Proofs.Ytgbkbhklgbjgmaa.aes.bodyPost_cell rfl rfl b9 _ Try.underlying23 rfl keyT2 rfl ?_
      exact ⟨rfl, gu5.trans f9 (by simp; have := HR0.out; omega)⟩
  · skip
    skip
    refine wpList_alloc_any rfl _ rfl _ _ 2 Hk.out Hkz.out rfl ?_
    intro zs u1 hzl hze f hlt hba
    rw [hze] at hba
    obtain ⟨Na, hNa⟩ : ∃ N, u0.heap.size = N := ⟨_, rfl⟩
    rw [hNa] at hba ⊢
    have HNa : w.heap.size ≤ Na := by have := gu0.size; omega
    have hRa : R0 ≠ Na := by have := d0.lt; omega
    try have hne6 : N6 ≠ Na := by have := ho6.at; omega
    try have hne10 : N10 ≠ Na := by have := ho10.at; omega
    try replace ho6 := ho6.on f (by simp)
    try replace ho10 := ho10.on f (by simp)
    have gu1 := gu0.trans' f
    replace d0 := f.blk d0 (by simp)
    clear hzl hze hlt f gu0 hNa
    simp only [World.size_alloc, World.size_drew, Act.put, List.setIfInBounds_toArray, List.set_cons_succ, List.set_cons_zero]
    try refine wpList_nil ?_
    refine AfterD.on trivial (by kernel_rfl) ?_
    try simp only [World.size_alloc, World.size_drew, Act.put, List.setIfInBounds_toArray, List.set_cons_succ, List.set_cons_zero]
    refine WD.eff2 0 4 (by kernel_rfl) ?_ ?_
    all_goals simp only [pick, List.toList_toArray, List.map_cons, List.map_nil, List.getD_cons_succ, List.getD_cons_zero]
    · skip
      refine wpList_make1 rfl _ _ _ rfl 31 31 .i64 .i64 rfl rfl 5 _ _ 1 Try.underlying57 Hi.out Hz.out Hs.out Hb.out rfl (Nat.le_refl _) (by decide) (by decide) ?_
      intro u2 f hlt ho6
      rw [HL.out] at ho6
      obtain ⟨N6, hN6⟩ : ∃ N, u1.heap.size = N := ⟨_, rfl⟩
      rw [hN6] at ho6 ⊢
      replace ho6 : O6 N6 u2 := ho6
      try replace ho10 := ho10.on f (by simp)
      try have hne6 : N6 ≠ Na := by have := hba.lt; omega
      try replace hba := f.blk hba (by simp)
      have gu2 := gu1.trans' f
      replace d0 := f.blk d0 (by simp)
      clear hN6 hlt f gu1
      simp only [World.size_alloc, World.size_drew, Act.put, List.setIfInBounds_toArray, List.set_cons_succ, List.set_cons_zero]
      try refine wpList_nil ?_
      refine AfterD.on trivial (by kernel_rfl) ?_
      refine WD.more (O6 N6) (fun _ _ => trivial) ?_
      try simp only [World.size_alloc, World.size_drew, Act.put, List.setIfInBounds_toArray, List.set_cons_succ, List.set_cons_zero]
      refine WD.held [1] (by kernel_rfl) ho6 ?_
      simp only [pick, List.toList_toArray, List.map_cons, List.map_nil, List.getD_cons_succ, List.getD_cons_zero]
      repeat (first | (refine quiet_conv_v (by rfl) _ _ _ rfl _ rfl (.string D6) (fun wq h => by first|exact HS6.out _ _ h|exact HS6.out _ _ h.1|exact HS6.out _ _ h.2|(rw [h];exact HS6.out _ _ ho6)) ?_; simp only [World.size_alloc, World.size_drew, Act.put, List.setIfInBounds_toArray, List.set_cons_succ, List.set_cons_zero]) | (refine quiet_conv_v (by rfl) _ _ _ rfl _ rfl (.string D10) (fun wq h => by first|exact HS10.out _ _ h|exact HS10.out _ _ h.1|exact HS10.out _ _ h.2|(rw [h];exact HS10.out _ _ ho10)) ?_; simp only [World.size_alloc, World.size_drew, Act.put, List.setIfInBounds_toArray, List.set_cons_succ, List.set_cons_zero]) | go_big_quiet_step (fail))
      refine wpQuiet_nil ?_
      refine WD.eff 4 (by kernel_rfl) ?_
      simp only [pick, List.toList_toArray, List.map_cons, List.map_nil, List.getD_cons_succ, List.getD_cons_zero]
      refine wpList_buildSlice_any rfl _ 1 _ rfl 5 Try.underlying57 _ _ Hi.out Hz.out rfl Hs.out (by decide) (by decide) rfl [bt (x &&& c8 3)] rfl (bv_one [x &&& c8 3]) ?_
      intro u3 f hlt hb
      obtain ⟨N10, hN10⟩ : ∃ N, u2.heap.size = N := ⟨_, rfl⟩
      rw [hN10] at hb ⊢
      have ho10 : O10 x N10 u3 := Own.blk hb (Nat.le_refl _) (by unfold maxLen; omega) rfl
      try replace ho6 := ho6.on f (by simp)
      try have hne10 : N10 ≠ Na := by have := hba.lt; omega
      try replace hba := f.blk hba (by simp)
      have gu3 := gu2.trans' f
      replace d0 := f.blk d0 (by simp)
      clear hN10 hlt f gu2 hb
      simp only [World.size_alloc, World.size_drew, Act.put, List.setIfInBounds_toArray, List.set_cons_succ, List.set_cons_zero]
      try refine wpList_nil ?_
      refine AfterD.on ho6 (by kernel_rfl) ?_
      refine WD.more (fun w' => O6 N6 w' ∧ O10 x N10 w') (fun _ h => h.1) ?_
      try simp only [World.size_alloc, World.size_drew, Act.put, List.setIfInBounds_toArray, List.set_cons_succ, List.set_cons_zero]
      refine WD.pure [5, 6] (by kernel_rfl) ⟨ho6, ho10⟩ ?_
      simp only [pick, List.toList_toArray, List.map_cons, List.map_nil, List.getD_cons_succ, List.getD_cons_zero]
      repeat (first | (refine quiet_conv_v (by rfl) _ _ _ rfl _ rfl (.string D6) (fun wq h => by first|exact HS6.out _ _ h|exact HS6.out _ _ h.1|exact HS6.out _ _ h.2|(rw [h];exact HS6.out _ _ ho6)) ?_; simp only [World.size_alloc, World.size_drew, Act.put, List.setIfInBounds_toArray, List.set_cons_succ, List.set_cons_zero]) | (refine quiet_conv_v (by rfl) _ _ _ rfl _ rfl (.string D10) (fun wq h => by first|exact HS10.out _ _ h|exact HS10.out _ _ h.1|exact HS10.out _ _ h.2|(rw [h];exact HS10.out _ _ ho10)) ?_; simp only [World.size_alloc, World.size_drew, Act.put, List.setIfInBounds_toArray, List.set_cons_succ, List.set_cons_zero]) | go_big_quiet_step (fail))
      refine wpQuiet_nil ?_
      refine WD.eff 7 (by kernel_rfl) ?_
      simp only [pick, List.toList_toArray, List.map_cons, List.map_nil, List.getD_cons_succ, List.getD_cons_zero]
      go_wp2_with fail
      refine (H1.out _).mono ?_
      rintro e u4 ⟨rfl, f⟩
      go_wp2_with fail
      replace ho6 := ho6.on f (by simp)
      replace ho10 := ho10.on f (by simp)
      try replace hba := f.blk hba (by simp)
      have gu4 := gu3.trans' f
      replace d0 := f.blk d0 (by simp)
      clear f gu3
      try refine wpList_nil ?_
      refine AfterD.on ⟨ho6, ho10⟩ (by kernel_rfl) ?_
      try simp only [World.size_alloc, World.size_drew, Act.put, List.setIfInBounds_toArray, List.set_cons_succ, List.set_cons_zero]
      refine WD.pure [8, 9] (by kernel_rfl) ⟨ho6, ho10⟩ ?_
      simp only [pick, List.toList_toArray, List.map_cons, List.map_nil, List.getD_cons_succ, List.getD_cons_zero]
      repeat (first | (refine quiet_conv_v (by rfl) _ _ _ rfl _ rfl (.string D6) (fun wq h => by first|exact HS6.out _ _ h|exact HS6.out _ _ h.1|exact HS6.out _ _ h.2|(rw [h];exact HS6.out _ _ ho6)) ?_; simp only [World.size_alloc, World.size_drew, Act.put, List.setIfInBounds_toArray, List.set_cons_succ, List.set_cons_zero]) | (refine quiet_conv_v (by rfl) _ _ _ rfl _ rfl (.string D10) (fun wq h => by first|exact HS10.out _ _ h|exact HS10.out _ _ h.1|exact HS10.out _ _ h.2|(rw [h];exact HS10.out _ _ ho10)) ?_; simp only [World.size_alloc, World.size_drew, Act.put, List.setIfInBounds_toArray, List.set_cons_succ, List.set_cons_zero]) | go_big_quiet_step (fail))
      refine wpQuiet_nil ?_
      refine WD.free [10] (by kernel_rfl) ⟨ho6, ho10⟩ ?_
      simp only [pick, List.toList_toArray, List.map_cons, List.map_nil, List.getD_cons_succ, List.getD_cons_zero]
      repeat (first | (refine quiet_conv_v (by rfl) _ _ _ rfl _ rfl (.string D6) (fun wq h => by first|exact HS6.out _ _ h|exact HS6.out _ _ h.1|exact HS6.out _ _ h.2|(rw [h];exact HS6.out _ _ ho6)) ?_; simp only [World.size_alloc, World.size_drew, Act.put, List.setIfInBounds_toArray, List.set_cons_succ, List.set_cons_zero]) | (refine quiet_conv_v (by rfl) _ _ _ rfl _ rfl (.string D10) (fun wq h => by first|exact HS10.out _ _ h|exact HS10.out _ _ h.1|exact HS10.out _ _ h.2|(rw [h];exact HS10.out _ _ ho10)) ?_; simp only [World.size_alloc, World.size_drew, Act.put, List.setIfInBounds_toArray, List.set_cons_succ, List.set_cons_zero]) | go_big_quiet_step (fail))
      refine wpQuiet_nil ?_
      refine WD.eff 12 (by kernel_rfl) ?_
      simp only [pick, List.toList_toArray, List.map_cons, List.map_nil, List.getD_cons_succ, List.getD_cons_zero]
      refine wpList_store_ag rfl _ _ _ rfl rfl [.string C, .string M] rfl hba keyAT rfl (by decide) (by simp [Value.oneCell']) ?_
      intro u5 f hbB hs
      replace hbB : Blk u5 Na [.string C, .string M] := hbB
      replace ho6 := ho6.on f (by simpa using hne6)
      replace ho10 := ho10.on f (by simpa using hne10)
      have gu5 := gu4.trans f (by simp; have := HNa; omega)
      replace d0 := f.blk d0 (by simpa using hRa)
      clear hba hs
      simp only [World.size_alloc, World.size_drew, Act.put, List.setIfInBounds_toArray, List.set_cons_succ, List.set_cons_zero]
      try refine wpList_nil ?_
      refine AfterD.on ⟨ho6, ho10⟩ (by kernel_rfl) ?_
      try simp only [World.size_alloc, World.size_drew, Act.put, List.setIfInBounds_toArray, List.set_cons_succ, List.set_cons_zero]
      refine WD.pure [13] (by kernel_rfl) ⟨ho6, ho10⟩ ?_
      simp only [pick, List.toList_toArray, List.map_cons, List.map_nil, List.getD_cons_succ, List.getD_cons_zero]
      repeat (first | (refine quiet_conv_v (by rfl) _ _ _ rfl _ rfl (.string D6) (fun wq h => by first|exact HS6.out _ _ h|exact HS6.out _ _ h.1|exact HS6.out _ _ h.2|(rw [h];exact HS6.out _ _ ho6)) ?_; simp only [World.size_alloc, World.size_drew, Act.put, List.setIfInBounds_toArray, List.set_cons_succ, List.set_cons_zero]) | (refine quiet_conv_v (by rfl) _ _ _ rfl _ rfl (.string D10) (fun wq h => by first|exact HS10.out _ _ h|exact HS10.out _ _ h.1|exact HS10.out _ _ h.2|(rw [h];exact HS10.out _ _ ho10)) ?_; simp only [World.size_alloc, World.size_drew, Act.put, List.setIfInBounds_toArray, List.set_cons_succ, List.set_cons_zero]) | go_big_quiet_step (fail))
      refine wpQuiet_nil ?_
      refine WD.done (by kernel_rfl) ?_
      have k0 := hbB.cell 0
      have k1 := hbB.cell 1
      go_wp2_with (refine wpList_store_agg rfl _ _ _ rfl rfl [.string C, .string M] rfl d0 keyT2 (Nat.le_refl _) (by simp [Value.oneCell']) ?_; intro u9 f9 b9 hs9; simp only [World.size_alloc, World.size_drew, Act.put, List.setIfInBounds_toArray, List.set_cons_succ, List.set_cons_zero])
      refine Go.Proofs.Ytgbkbhklgbjgmaa.aes.bodyPost_cell rfl rfl b9 _ Try.underlying23 rfl keyT2 rfl ?_
      exact ⟨rfl, gu5.trans f9 (by simp; have := HR0.out; omega)⟩
    · skip
      skip
      refine wpList_buildSlice_any rfl _ 1 _ rfl 5 Try.underlying57 _ _ Hi.out Hz.out rfl Hs.out (by decide) (by decide) rfl [bt (x &&& c8 3)] rfl (bv_one [x &&& c8 3]) ?_
      intro u2 f hlt hb
      obtain ⟨N10, hN10⟩ : ∃ N, u1.heap.size = N := ⟨_, rfl⟩
      rw [hN10] at hb ⊢
      have ho10 : O10 x N10 u2 := Own.blk hb (Nat.le_refl _) (by unfold maxLen; omega) rfl
      try replace ho6 := ho6.on f (by simp)
      try have hne10 : N10 ≠ Na := by have := hba.lt; omega
      try replace hba := f.blk hba (by simp)
      have gu2 := gu1.trans' f
      replace d0 := f.blk d0 (by simp)
      clear hN10 hlt f gu1 hb
      simp only [World.size_alloc, World.size_drew, Act.put, List.setIfInBounds_toArray, List.set_cons_succ, List.set_cons_zero]
      try refine wpList_nil ?_
      refine AfterD.on trivial (by kernel_rfl) ?_
      refine WD.more (O10 x N10) (fun _ _ => trivial) ?_
      try simp only [World.size_alloc, World.size_drew, Act.put, List.setIfInBounds_toArray, List.set_cons_succ, List.set_cons_zero]
      refine WD.held [5] (by kernel_rfl) ho10 ?_
      simp only [pick, List.toList_toArray, List.map_cons, List.map_nil, List.getD_cons_succ, List.getD_cons_zero]
      repeat (first | (refine quiet_conv_v (by rfl) _ _ _ rfl _ rfl (.string D6) (fun wq h => by first|exact HS6.out _ _ h|exact HS6.out _ _ h.1|exact HS6.out _ _ h.2|(rw [h];exact HS6.out _ _ ho6)) ?_; simp only [World.size_alloc, World.size_drew, Act.put, List.setIfInBounds_toArray, List.set_cons_succ, List.set_cons_zero]) | (refine quiet_conv_v (by rfl) _ _ _ rfl _ rfl (.string D10) (fun wq h => by first|exact HS10.out _ _ h|exact HS10.out _ _ h.1|exact HS10.out _ _ h.2|(rw [h];exact HS10.out _ _ ho10)) ?_; simp only [World.size_alloc, World.size_drew, Act.put, List.setIfInBounds_toArray, List.set_cons_succ, List.set_cons_zero]) | go_big_quiet_step (fail))
      refine wpQuiet_nil ?_
      refine WD.eff 0 (by kernel_rfl) ?_
      simp only [pick, List.toList_toArray, List.map_cons, List.map_nil, List.getD_cons_succ, List.getD_cons_zero]
      refine wpList_make1 rfl _ _ _ rfl 31 31 .i64 .i64 rfl rfl 5 _ _ 1 Try.underlying57 Hi.out Hz.out Hs.out Hb.out rfl (Nat.le_refl _) (by decide) (by decide) ?_
      intro u3 f hlt ho6
      rw [HL.out] at ho6
      obtain ⟨N6, hN6⟩ : ∃ N, u2.heap.size = N := ⟨_, rfl⟩
      rw [hN6] at ho6 ⊢
      replace ho6 : O6 N6 u3 := ho6
      try replace ho10 := ho10.on f (by simp)
      try have hne6 : N6 ≠ Na := by have := hba.lt; omega
      try replace hba := f.blk hba (by simp)
      have gu3 := gu2.trans' f
      replace d0 := f.blk d0 (by simp)
      clear hN6 hlt f gu2
      simp only [World.size_alloc, World.size_drew, Act.put, List.setIfInBounds_toArray, List.set_cons_succ, List.set_cons_zero]
      try refine wpList_nil ?_
      refine AfterD.on ho10 (by kernel_rfl) ?_
      refine WD.more (fun w' => O6 N6 w' ∧ O10 x N10 w') (fun _ h => h.2) ?_
      try simp only [World.size_alloc, World.size_drew, Act.put, List.setIfInBounds_toArray, List.set_cons_succ, List.set_cons_zero]
      refine WD.pure [1, 6] (by kernel_rfl) ⟨ho6, ho10⟩ ?_
      simp only [pick, List.toList_toArray, List.map_cons, List.map_nil, List.getD_cons_succ, List.getD_cons_zero]
      repeat (first | (refine quiet_conv_v (by rfl) _ _ _ rfl _ rfl (.string D6) (fun wq h => by first|exact HS6.out _ _ h|exact HS6.out _ _ h.1|exact HS6.out _ _ h.2|(rw [h];exact HS6.out _ _ ho6)) ?_; simp only [World.size_alloc, World.size_drew, Act.put, List.setIfInBounds_toArray, List.set_cons_succ, List.set_cons_zero]) | (refine quiet_conv_v (by rfl) _ _ _ rfl _ rfl (.string D10) (fun wq h => by first|exact HS10.out _ _ h|exact HS10.out _ _ h.1|exact HS10.out _ _ h.2|(rw [h];exact HS10.out _ _ ho10)) ?_; simp only [World.size_alloc, World.size_drew, Act.put, List.setIfInBounds_toArray, List.set_cons_succ, List.set_cons_zero]) | go_big_quiet_step (fail))
      refine wpQuiet_nil ?_
      refine WD.eff 7 (by kernel_rfl) ?_
      simp only [pick, List.toList_toArray, List.map_cons, List.map_nil, List.getD_cons_succ, List.getD_cons_zero]
      go_wp2_with fail
      refine (H1.out _).mono ?_
      rintro e u4 ⟨rfl, f⟩
      go_wp2_with fail
      replace ho6 := ho6.on f (by simp)
      replace ho10 := ho10.on f (by simp)
      try replace hba := f.blk hba (by simp)
      have gu4 := gu3.trans' f
      replace d0 := f.blk d0 (by simp)
      clear f gu3
      try refine wpList_nil ?_
      refine AfterD.on ⟨ho6, ho10⟩ (by kernel_rfl) ?_
      try simp only [World.size_alloc, World.size_drew, Act.put, List.setIfInBounds_toArray, List.set_cons_succ, List.set_cons_zero]
      refine WD.pure [8, 9] (by kernel_rfl) ⟨ho6, ho10⟩ ?_
      simp only [pick, List.toList_toArray, List.map_cons, List.map_nil, List.getD_cons_succ, List.getD_cons_zero]
      repeat (first | (refine quiet_conv_v (by rfl) _ _ _ rfl _ rfl (.string D6) (fun wq h => by first|exact HS6.out _ _ h|exact HS6.out _ _ h.1|exact HS6.out _ _ h.2|(rw [h];exact HS6.out _ _ ho6)) ?_; simp only [World.size_alloc, World.size_drew, Act.put, List.setIfInBounds_toArray, List.set_cons_succ, List.set_cons_zero]) | (refine quiet_conv_v (by rfl) _ _ _ rfl _ rfl (.string D10) (fun wq h => by first|exact HS10.out _ _ h|exact HS10.out _ _ h.1|exact HS10.out _ _ h.2|(rw [h];exact HS10.out _ _ ho10)) ?_; simp only [World.size_alloc, World.size_drew, Act.put, List.setIfInBounds_toArray, List.set_cons_succ, List.set_cons_zero]) | go_big_quiet_step (fail))
      refine wpQuiet_nil ?_
      refine WD.free [10] (by kernel_rfl) ⟨ho6, ho10⟩ ?_
      simp only [pick, List.toList_toArray, List.map_cons, List.map_nil, List.getD_cons_succ, List.getD_cons_zero]
      repeat (first | (refine quiet_conv_v (by rfl) _ _ _ rfl _ rfl (.string D6) (fun wq h => by first|exact HS6.out _ _ h|exact HS6.out _ _ h.1|exact HS6.out _ _ h.2|(rw [h];exact HS6.out _ _ ho6)) ?_; simp only [World.size_alloc, World.size_drew, Act.put, List.setIfInBounds_toArray, List.set_cons_succ, List.set_cons_zero]) | (refine quiet_conv_v (by rfl) _ _ _ rfl _ rfl (.string D10) (fun wq h => by first|exact HS10.out _ _ h|exact HS10.out _ _ h.1|exact HS10.out _ _ h.2|(rw [h];exact HS10.out _ _ ho10)) ?_; simp only [World.size_alloc, World.size_drew, Act.put, List.setIfInBounds_toArray, List.set_cons_succ, List.set_cons_zero]) | go_big_quiet_step (fail))
      refine wpQuiet_nil ?_
      refine WD.eff 12 (by kernel_rfl) ?_
      simp only [pick, List.toList_toArray, List.map_cons, List.map_nil, List.getD_cons_succ, List.getD_cons_zero]
      refine wpList_store_ag rfl _ _ _ rfl rfl [.string C, .string M] rfl hba keyAT rfl (by decide) (by simp [Value.oneCell']) ?_
      intro u5 f hbB hs
      replace hbB : Blk u5 Na [.string C, .string M] := hbB
      replace ho6 := ho6.on f (by simpa using hne6)
      replace ho10 := ho10.on f (by simpa using hne10)
      have gu5 := gu4.trans f (by simp; have := HNa; omega)
      replace d0 := f.blk d0 (by simpa using hRa)
      clear hba hs
      simp only [World.size_alloc, World.size_drew, Act.put, List.setIfInBounds_toArray, List.set_cons_succ, List.set_cons_zero]
      try refine wpList_nil ?_
      refine AfterD.on ⟨ho6, ho10⟩ (by kernel_rfl) ?_
      try simp only [World.size_alloc, World.size_drew, Act.put, List.setIfInBounds_toArray, List.set_cons_succ, List.set_cons_zero]
      refine WD.pure [13] (by kernel_rfl) ⟨ho6, ho10⟩ ?_
      simp only [pick, List.toList_toArray, List.map_cons, List.map_nil, List.getD_cons_succ, List.getD_cons_zero]
      repeat (first | (refine quiet_conv_v (by rfl) _ _ _ rfl _ rfl (.string D6) (fun wq h => by first|exact HS6.out _ _ h|exact HS6.out _ _ h.1|exact HS6.out _ _ h.2|(rw [h];exact HS6.out _ _ ho6)) ?_; simp only [World.size_alloc, World.size_drew, Act.put, List.setIfInBounds_toArray, List.set_cons_succ, List.set_cons_zero]) | (refine quiet_conv_v (by rfl) _ _ _ rfl _ rfl (.string D10) (fun wq h => by first|exact HS10.out _ _ h|exact HS10.out _ _ h.1|exact HS10.out _ _ h.2|(rw [h];exact HS10.out _ _ ho10)) ?_; simp only [World.size_alloc, World.size_drew, Act.put, List.setIfInBounds_toArray, List.set_cons_succ, List.set_cons_zero]) | go_big_quiet_step (fail))
      refine wpQuiet_nil ?_
      refine WD.done (by kernel_rfl) ?_
      have k0 := hbB.cell 0
      have k1 := hbB.cell 1
      go_wp2_with (refine wpList_store_agg rfl _ _ _ rfl rfl [.string C, .string M] rfl d0 keyT2 (Nat.le_refl _) (by simp [Value.oneCell']) ?_; intro u9 f9 b9 hs9; simp only [World.size_alloc, World.size_drew, Act.put, List.setIfInBounds_toArray, List.set_cons_succ, List.set_cons_zero])
      refine Go.Proofs.Ytgbkbhklgbjgmaa.aes.bodyPost_cell rfl rfl b9 _ Try.underlying23 rfl keyT2 rfl ?_
      exact ⟨rfl, gu5.trans f9 (by simp; have := HR0.out; omega)⟩
end Go.Proofs.Ytgbkbhklgbjgmaa.rcd
