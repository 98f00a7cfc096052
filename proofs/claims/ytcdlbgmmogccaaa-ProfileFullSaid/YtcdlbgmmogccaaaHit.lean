/-
  Layer 14: the program's Hit, Ban, Banned, Len. Conditions: the book's counts and clock are far below the greatest int.
-/
import Derived.Test.YtcdlbgmmogccaaaLeast
namespace Go.Proofs.Ytcdlbgmmogccaaa
open Go.Eng

theorem wrap_small {a : Int} (h0 : -9223372036854775808 ≤ a) (h1 : a ≤ 9223372036854775807) : IntKind.i64.wrap a = a := by
  show (if (true && decide (a % 18446744073709551616 ≥ 9223372036854775808)) = true then a % 18446744073709551616 - 18446744073709551616 else a % 18446744073709551616) = a
  simp only [Bool.true_and, ge_iff_le, decide_eq_true_eq]
  split <;> omega

/-- Len: P14.4. -/
theorem f18_calls (bb mc mb : Nat) (s : BS) : Ctr Try.prog 18 #[.pointer (some ⟨bb, 0, none⟩)] (bookC bb mc mb s) (fun _ => True) (fun v c => v = .int .i64 s.m.length ∧ c = bookC bb mc mb s) := by
  intro w0 hp hro
  have hs := book_st hp
  refine calls_W (n := 11) Try.func18 rfl Try.ntmps18 (by simp) ?_
  refine W_seq ?_
  -- region 0
  refine W_region (by decide +kernel) ?_
  refine sq_r r_assign rfl ?_
  refine sq_z ?_
  refine W_seq ?_
  refine W_seq ?_
  -- region 1
  refine W_region (by decide +kernel) ?_
  refine sq_r r_move rfl ?_
  refine sq_e rfl (o_call0 cb23 rfl rfl (f23_calls bb (some mc)) hs (At.one (hs.own (i := 0) rfl) rfl) ?_)
  rintro v c w ⟨rfl, rfl⟩ hs
  refine sq_r (r_not rfl) rfl ?_
  refine sq_z ?_
  -- IF ('tmp', 5)
  refine W_cond rfl rfl (fun hc => ?_) (fun hc => ?_)
  · cases hc
  · refine W_skip ?_
    refine W_seq ?_
    -- region 3
    refine W_region (by decide +kernel) ?_
    refine sq_r r_move rfl ?_
    refine sq_r (r_nilCheck rfl) rfl ?_
    refine sq_r (r_field rfl fa54_0) rfl ?_
    refine sq_r (r_load1 rfl ty51 (At.one (hs.own (i := 0) rfl) rfl)) rfl ?_
    refine sq_r (r_lenMo Try.underlying51 rfl (hs.own (i := 1) rfl)) rfl ?_
    refine sq_r r_assign rfl ?_
    refine sq_z ?_
    refine W_ret ?_
    exact ret1 rfl (by decide) rfl (fin hs ⟨rfl, rfl⟩ (by simp [bookC]))

/-- Banned: P14.4. -/
def isBan (s : BS) (k : Ky) : Bool := decide (0 < (mget s.bn k).getD 0)
theorem f21_calls (bb mc mb : Nat) (s : BS) (k : Ky) : Ctr Try.prog 21 #[.pointer (some ⟨bb, 0, none⟩), .agg (kc k).toArray] (bookC bb mc mb s) (fun _ => True) (fun v c => v = .bool (isBan s k) ∧ c = bookC bb mc mb s) := by
  intro w0 hp hro
  have hs := book_st hp
  refine calls_W (n := 16) Try.func21 rfl Try.ntmps21 (by simp) ?_
  refine W_seq ?_
  -- region 0
  refine W_region (by decide +kernel) ?_
  refine sq_e rfl (o_box (cs := kc k) hs rfl ?_); intro b3 w hs
  refine sq_r r_assign rfl ?_
  refine sq_z ?_
  refine W_seq ?_
  -- region 1 DRAWS
  refine W_drawM hs Try.mixed [true, true, true, true] [0, 1, 3, 7, 15, 31, 63, 7, 255, 511, 1023, 2047] [1] [0, 1, 2, 3, 4, 5, 6, 7, 8, 9, 10, 11] (by decide +kernel) ?_
  intro w hs; have hR := hs.mask [true, true, true, true]
  refine dq_r hR rfl rfl rfl (fun _ w _ _ hR => r_move) ?_
  refine dq_e hR rfl rfl rfl (o_call0 cb23 rfl rfl (f23_calls bb (some mc)) hs (At.one (hs.own (i := 0) rfl) rfl) ?_)
  rintro v c w ⟨rfl, rfl⟩ hs
  have hR := hs.mask [true, true, true, true]
  refine dq_r hR rfl rfl rfl (fun _ w _ _ hR => r_move) ?_
  refine dq_r hR rfl rfl rfl (fun _ w _ _ hR => r_move) ?_ /- GUARD 2 True -/
  refine dq_r hR rfl rfl rfl (fun _ w _ _ hR => r_nilCheck rfl) ?_ /- GUARD 2 True -/
  refine dq_r hR rfl rfl rfl (fun _ w _ _ hR => r_field rfl fa54_1) ?_ /- GUARD 2 True -/
  refine dq_r hR rfl rfl rfl (fun _ w _ _ hR => r_load1 rfl ty52 (At.one (hR.own (i := 0) rfl) rfl)) ?_ /- GUARD 2 True -/
  refine dq_r hR rfl rfl rfl (fun _ w _ _ hR => r_loadN rfl ty28 (kc_len k) (At.of_block (hR.own (i := 3) rfl) (kc_all k))) ?_ /- GUARD 2 True -/
  refine dq_r hR rfl rfl rfl (fun _ w _ _ hR => r_lookup KT28 Try.underlying52 (zero3 w) rfl rfl (hR.own (i := 2) rfl)) ?_ /- GUARD 2 True -/
  refine dq_r hR rfl rfl rfl (fun _ w _ _ hR => r_cmp rfl rfl rfl) ?_ /- GUARD 2 True -/
  refine dq_r hR rfl rfl rfl (fun _ w _ _ hR => r_pick rfl) ?_
  refine dq_r hR rfl rfl rfl (fun _ w _ _ hR => r_assign) ?_
  refine dq_z hR ?_
  refine W_ret ?_
  exact ret1 rfl (by decide) rfl (fin hs ⟨rfl, rfl⟩ (by simp [bookC]))

/-- Ban: P14.4. -/
def banS (s : BS) (k : Ky) : BS := { s with bn := mput s.bn s.cb k 1, cb := mclk s.bn s.cb k, m := mdel s.m k }
theorem f19_calls (bb mc mb : Nat) (s : BS) (k : Ky) (hm : Mwf s.m s.c) (hb : Mwf s.bn s.cb) : Ctr Try.prog 19 #[.pointer (some ⟨bb, 0, none⟩), .agg (kc k).toArray] (bookC bb mc mb s) (fun _ => True) (fun _ c => c = bookC bb mc mb (banS s k)) := by
  intro w0 hp hro
  have hs := book_st hp
  refine calls_W (n := 16) Try.func19 rfl Try.ntmps19 (by simp) ?_
  refine W_seq ?_
  -- region 0
  refine W_region (by decide +kernel) ?_
  refine sq_e rfl (o_box (cs := kc k) hs rfl ?_); intro b3 w hs
  refine sq_z ?_
  refine W_seq ?_
  -- region 1
  refine W_region (by decide +kernel) ?_
  refine sq_r r_move rfl ?_
  refine sq_e rfl (o_call0 cb23 rfl rfl (f23_calls bb (some mc)) hs (At.one (hs.own (i := 0) rfl) rfl) ?_)
  rintro v c w ⟨rfl, rfl⟩ hs
  refine sq_z ?_
  -- IF ('tmp', 5)
  refine W_cond rfl rfl (fun hc => ?_) (fun hc => ?_)
  · refine W_seq ?_
    -- region 2 DRAWS
    refine W_drawM hs Try.mixed [true, true, false, true] [0, 1, 3, 7, 0, 31] [5] [0, 1, 2, 3, 4, 5] (by decide +kernel) ?_
    intro w hs; have hR := hs.mask [true, true, false, true]
    refine dq_r hR rfl rfl rfl (fun _ w _ _ hR => r_move) ?_
    refine dq_r hR rfl rfl rfl (fun _ w _ _ hR => r_nilCheck rfl) ?_
    refine dq_r hR rfl rfl rfl (fun _ w _ _ hR => r_field rfl fa54_1) ?_
    refine dq_r hR rfl rfl rfl (fun _ w _ _ hR => r_load1 rfl ty52 (At.one (hR.own (i := 0) rfl) rfl)) ?_
    refine dq_r hR rfl rfl rfl (fun _ w _ _ hR => r_loadN rfl ty28 (kc_len k) (At.of_block (hR.own (i := 3) rfl) (kc_all k))) ?_
    refine dq_e hR rfl rfl rfl (o_mapUpdate (i := 2) (a := k) (v := (1 : Int)) (ev' := encI) KT28 Try.underlying52 hs rfl rfl rfl rfl hb.keys ?_); intro w hs
    have hR := hs.mask [true, true, false, true]
    refine dq_z hR ?_
    -- region 3 DRAWS
    refine W_drawM hs Try.mixed [true, false, true, true] [0, 1, 3, 7, 0, 31] [5] [0, 1, 2, 3, 4, 5] (by decide +kernel) ?_
    intro w hs; have hR := hs.mask [true, false, true, true]
    refine dq_r hR rfl rfl rfl (fun _ w _ _ hR => r_move) ?_
    refine dq_r hR rfl rfl rfl (fun _ w _ _ hR => r_nilCheck rfl) ?_
    refine dq_r hR rfl rfl rfl (fun _ w _ _ hR => r_field rfl fa54_0) ?_
    refine dq_r hR rfl rfl rfl (fun _ w _ _ hR => r_load1 rfl ty51 (At.one (hR.own (i := 0) rfl) rfl)) ?_
    refine dq_r hR rfl rfl rfl (fun _ w _ _ hR => r_loadN rfl ty28 (kc_len k) (At.of_block (hR.own (i := 3) rfl) (kc_all k))) ?_
    refine dq_e hR rfl rfl rfl (o_delete (i := 1) (a := k) KT28 Try.underlying51 hs rfl rfl rfl hm.keys ?_); intro w hs
    have hR := hs.mask [true, false, true, true]
    refine dq_z hR ?_
    exact ret0 rfl (fin hs rfl (by simp [bookC, banS]))
  · cases hc

/-! ### Hit: P14.3 -/
/-- Room for one more: where there is none the one goes that comes ahead of all others. -/
def Room (m m1 : List (Ky × (Int × Int) × Nat)) : Prop :=
  (m.length < 1000 ∧ m1 = m) ∨ (1000 ≤ m.length ∧ ∃ r ∈ m, (∀ r' ∈ m, ¬ ahead r'.2.1 r.2.1) ∧ m1 = mdel m r.1)
def Mid (s : BS) (k : Ky) (m1 : List (Ky × (Int × Int) × Nat)) (ct : Int × Int) (clk : Int) : Prop :=
  (mget s.m k = some ct ∧ m1 = s.m ∧ clk = s.clk) ∨ (mget s.m k = none ∧ Room s.m m1 ∧ ct = (0, s.clk + 1) ∧ clk = s.clk + 1)
def hitS (s : BS) (k : Ky) (m1 : List (Ky × (Int × Int) × Nat)) (ct : Int × Int) (clk : Int) : BS :=
  { s with m := mput m1 s.c k (if s.thr ≤ ct.1 + 1 then 0 else ct.1 + 1, ct.2), c := mclk m1 s.c k, clk := clk }
def HitR (s : BS) (k : Ky) (v : Bool) (s' : BS) : Prop :=
  (isBan s k = true ∧ v = false ∧ s' = s) ∨ (isBan s k = false ∧ ∃ m1 ct clk, Mid s k m1 ct clk ∧ v = decide (s.thr ≤ ct.1 + 1) ∧ s' = hitS s k m1 ct clk)

theorem room_wf {m m1 : List (Ky × (Int × Int) × Nat)} {c : Nat} (h : Mwf m c) (hr : Room m m1) : Mwf m1 c := by
  rcases hr with ⟨_, rfl⟩ | ⟨_, r, _, _, rfl⟩
  · exact h
  · exact h.del _
theorem mid_wf {s : BS} {k : Ky} {m1 : List (Ky × (Int × Int) × Nat)} {ct : Int × Int} {clk : Int} (h : Mwf s.m s.c) (hm : Mid s k m1 ct clk) : Mwf m1 s.c := by
  rcases hm with ⟨_, rfl, _⟩ | ⟨_, hr, _⟩
  · exact h
  · exact room_wf h hr
theorem mget_mem {α β : Type} [DecidableEq α] {m : List (α × β × Nat)} {a : α} {v : β} (h : mget m a = some v) : ∃ n, (a, v, n) ∈ m := by
  unfold mget at h
  obtain ⟨r, hr, rfl⟩ := Option.map_eq_some_iff.1 h
  have h1 := List.find?_some hr
  have h2 := List.mem_of_find?_eq_some hr
  simp at h1
  subst h1
  exact ⟨r.2.2, h2⟩

set_option maxHeartbeats 1000000 in
theorem f14_calls (bb mc mb : Nat) (s : BS) (k : Ky) (hm : Mwf s.m s.c) (hclk : 0 ≤ s.clk ∧ s.clk < 4611686018427387904) (hct : ∀ r ∈ s.m, 0 ≤ r.2.1.1 ∧ r.2.1.1 < 4611686018427387904) :
    Ctr Try.prog 14 #[.pointer (some ⟨bb, 0, none⟩), .agg (kc k).toArray] (bookC bb mc mb s) (fun _ => True) (fun v c => ∃ r s', v = .bool r ∧ HitR s k r s' ∧ c = bookC bb mc mb s') := by
  intro w0 hp hro
  have hs := book_st hp
  refine calls_W (n := 78) Try.func14 rfl Try.ntmps14 (by simp) ?_
  refine W_seq ?_
  -- region 0
  refine W_region (by decide +kernel) ?_
  refine sq_e rfl (o_box (cs := kc k) hs rfl ?_); intro b3 w hs
  refine sq_r r_assign rfl ?_
  refine sq_z ?_
  refine W_seq ?_
  refine W_seq ?_
  -- region 1 DRAWS
  refine W_drawM hs Try.mixed [true, true, true, true] [0, 1, 3, 7, 15, 31, 63, 127, 15, 511, 1023, 2047] [1] [0, 1, 2, 3, 4, 5, 6, 7, 8, 9, 10, 11] (by decide +kernel) ?_
  intro w hs; have hR := hs.mask [true, true, true, true]
  refine dq_r hR rfl rfl rfl (fun _ w _ _ hR => r_move) ?_
  refine dq_e hR rfl rfl rfl (o_call0 cb23 rfl rfl (f23_calls bb (some mc)) hs (At.one (hs.own (i := 0) rfl) rfl) ?_)
  rintro v c w ⟨rfl, rfl⟩ hs
  have hR := hs.mask [true, true, true, true]
  refine dq_r hR rfl rfl rfl (fun _ w _ _ hR => r_not rfl) ?_
  refine dq_r hR rfl rfl rfl (fun _ w _ _ hR => r_move) ?_
  refine dq_r hR rfl rfl rfl (fun _ w _ _ hR => r_move) ?_ /- GUARD 3 False -/
  refine dq_r hR rfl rfl rfl (fun _ w _ _ hR => r_nilCheck rfl) ?_ /- GUARD 3 False -/
  refine dq_r hR rfl rfl rfl (fun _ w _ _ hR => r_field rfl fa54_1) ?_ /- GUARD 3 False -/
  refine dq_r hR rfl rfl rfl (fun _ w _ _ hR => r_load1 rfl ty52 (At.one (hR.own (i := 0) rfl) rfl)) ?_ /- GUARD 3 False -/
  refine dq_r hR rfl rfl rfl (fun _ w _ _ hR => r_loadN rfl ty28 (kc_len k) (At.of_block (hR.own (i := 3) rfl) (kc_all k))) ?_ /- GUARD 3 False -/
  refine dq_r hR rfl rfl rfl (fun _ w _ _ hR => r_lookup KT28 Try.underlying52 (zero3 w) rfl rfl (hR.own (i := 2) rfl)) ?_ /- GUARD 3 False -/
  refine dq_r hR rfl rfl rfl (fun _ w _ _ hR => r_cmp rfl rfl rfl) ?_ /- GUARD 3 False -/
  refine dq_r hR rfl rfl rfl (fun _ w _ _ hR => r_pick rfl) ?_
  refine dq_z hR ?_
  -- IF ('tmp', 19)
  refine W_cond rfl rfl (fun hc => ?_) (fun hc => ?_)
  · refine W_seq ?_
    -- region 2
    refine W_region (by decide +kernel) ?_
    refine sq_r r_assign rfl ?_
    refine sq_z ?_
    refine W_ret ?_
    repeat with_reducible first | refine thenQ_ret ?_ | refine blockQ_ret ?_
    refine ret1 (v := .bool false) rfl (by decide) rfl ?_
    exact fin (c' := bookC bb mc mb s) hs ⟨false, s, rfl, .inl ⟨hc, rfl, rfl⟩, rfl⟩ (by simp [bookC])
  · refine W_skip ?_
    have hban : isBan s k = false := hc
    refine W_seq ?_
    -- region 3 DRAWS
    refine W_drawM hs Try.mixed [true, true, true, true] [0, 1, 3, 7, 0, 31, 63, 127, 127, 0, 767, 2047] [9, 10] [0, 1, 2, 3, 4, 5, 6, 7, 8, 9, 10, 11] (by decide +kernel) ?_
    intro w hs; have hR := hs.mask [true, true, true, true]
    refine dq_r hR rfl rfl rfl (fun _ w _ _ hR => r_move) ?_
    refine dq_r hR rfl rfl rfl (fun _ w _ _ hR => r_nilCheck rfl) ?_
    refine dq_r hR rfl rfl rfl (fun _ w _ _ hR => r_field rfl fa54_0) ?_
    refine dq_r hR rfl rfl rfl (fun _ w _ _ hR => r_load1 rfl ty51 (At.one (hR.own (i := 0) rfl) rfl)) ?_
    refine dq_r hR rfl rfl rfl (fun _ w _ _ hR => r_loadN rfl ty28 (kc_len k) (At.of_block (hR.own (i := 3) rfl) (kc_all k))) ?_
    refine dq_r hR rfl rfl rfl (fun _ w _ _ hR => r_lookup2 KT28 Try.underlying51 (zero58 w) rfl rfl (hR.own (i := 1) rfl)) ?_
    refine dq_r hR rfl rfl rfl (fun _ w _ _ hR => r_move) ?_
    refine dq_r hR rfl rfl rfl (fun _ w _ _ hR => r_extract rfl rfl) ?_
    refine dq_r hR rfl rfl rfl (fun _ w _ _ hR => r_extract rfl rfl) ?_
    refine dq_e hR rfl rfl rfl (o_alloc hs ty58 ?_); intro b5 w hs
    have hR := hs.mask [true, true, true, true]
    refine dq_e hR rfl rfl rfl (o_store (i := 5) (vs := cv ((mget s.m k).getD (0, 0))) hs rfl rfl ty58 rfl (by simp [cv, Value.oneCell']) (by simp [cv]) ?_); intro w hs
    have hR := hs.mask [true, true, true, true]
    refine dq_r hR rfl rfl rfl (fun _ w _ _ hR => r_assign) ?_
    refine dq_z hR ?_
    refine W_mid (M := fun f w => ∃ g m1 ct clk, f = ov [(0, .pointer (some ⟨bb, 0, none⟩)), (3, .pointer (some ⟨b3, 0, none⟩)), (5, .pointer (some ⟨b5, 0, none⟩))] g ∧ Mid s k m1 ct clk ∧
      St w0 (ks (bookC bb mc mb s)) [[(bb, cb [.map (some mc), .map (some mb), .int .i64 s.thr, .int .i64 clk] 54)], [(mc, mo encV ctV m1 s.c)], [(mb, mo encV encI s.bn s.cb)], [(b3, cb (kc k) 28)], [(b5, cb (cv ct) 58)]] w) ?_ (fun f w hM => ?_)
    · refine W_seq ?_
      -- region 4
      refine W_region (by decide +kernel) ?_
      refine sq_r r_move rfl ?_
      refine sq_r (r_not rfl) rfl ?_
      refine sq_z ?_
      -- IF ('tmp', 30)
      refine W_cond rfl rfl (fun hc => ?_) (fun hc => ?_)
      · -- it isn't there
        have hnone : mget s.m k = none := by cases h : mget s.m k <;> simp [h] at hc ⊢
        rw [hnone] at hs
        refine W_mid (M := fun f w => ∃ g m1, f = ov [(0, .pointer (some ⟨bb, 0, none⟩)), (3, .pointer (some ⟨b3, 0, none⟩)), (5, .pointer (some ⟨b5, 0, none⟩))] g ∧ Room s.m m1 ∧
          St w0 (ks (bookC bb mc mb s)) [[(bb, cb [.map (some mc), .map (some mb), .int .i64 s.thr, .int .i64 s.clk] 54)], [(mc, mo encV ctV m1 s.c)], [(mb, mo encV encI s.bn s.cb)], [(b3, cb (kc k) 28)], [(b5, cb (cv (0, 0)) 58)]] w) ?_ (fun f w hM => ?_)
        · refine W_seq ?_
          -- region 5
          refine W_region (by decide +kernel) ?_
          refine sq_r r_move rfl ?_
          refine sq_r (r_nilCheck rfl) rfl ?_
          refine sq_r (r_field rfl fa54_0) rfl ?_
          refine sq_r (r_load1 rfl ty51 (At.one (hs.own (i := 0) rfl) rfl)) rfl ?_
          refine sq_r (r_lenMo Try.underlying51 rfl (hs.own (i := 1) rfl)) rfl ?_
          refine sq_r (r_cmp rfl rfl rfl) rfl ?_
          refine sq_z ?_
          -- IF ('tmp', 36)
          refine W_cond rfl rfl (fun hc => ?_) (fun hc => ?_)
          · have hlen : 1000 ≤ s.m.length := by have := of_decide_eq_true hc; omega
            have hne : s.m ≠ [] := fun e => by rw [e] at hlen; simp at hlen
            -- region 6 DRAWS
            refine W_drawM hs Try.mixed [true, false, true, true, true, true] [0, 1, 3, 7, 0, 16, 48, 112, 240, 511] [8, 9] [0, 1, 2, 3, 4, 5, 6, 7, 8, 9] (by decide +kernel) ?_
            intro w hs; have hR := hs.mask [true, false, true, true, true, true]
            refine dq_r hR rfl rfl rfl (fun _ w _ _ hR => r_move) ?_
            refine dq_r hR rfl rfl rfl (fun _ w _ _ hR => r_nilCheck rfl) ?_
            refine dq_r hR rfl rfl rfl (fun _ w _ _ hR => r_field rfl fa54_0) ?_
            refine dq_r hR rfl rfl rfl (fun _ w _ _ hR => r_load1 rfl ty51 (At.one (hR.own (i := 0) rfl) rfl)) ?_
            refine dq_r hR rfl rfl rfl (fun _ w _ _ hR => r_move) ?_
            refine dq_r hR rfl rfl rfl (fun _ w _ _ hR => r_nilCheck rfl) ?_
            refine dq_r hR rfl rfl rfl (fun _ w _ _ hR => r_field rfl fa54_0) ?_
            refine dq_r hR rfl rfl rfl (fun _ w _ _ hR => r_load1 rfl ty51 (At.one (hR.own (i := 0) rfl) rfl)) ?_
            refine dq_e hR rfl rfl rfl (o_call0 cb24 rfl rfl (f24_calls mc s.m s.c hm hne) hs (hs.own (i := 1) rfl) ?_)
            rintro v c w ⟨⟨r, hr, rfl, hle⟩, rfl⟩ hs
            have hR := hs.mask [true, false, true, true, true, true]
            refine dq_e hR rfl rfl rfl (o_delete (i := 1) (a := r.1) KT28 Try.underlying51 hs rfl rfl rfl hm.keys ?_); intro w hs
            have hR := hs.mask [true, false, true, true, true, true]
            refine dq_z hR ?_
            exact ⟨_, mdel s.m r.1, ov_self ⟨rfl, rfl, rfl, trivial⟩, .inr ⟨hlen, r, hr, hle, rfl⟩, (hs.mask [true, true, true, true, false, true]).cast rfl⟩
          · have hlen : s.m.length < 1000 := by have := of_decide_eq_false hc; omega
            refine W_skip ?_
            exact ⟨_, s.m, ov_self ⟨rfl, rfl, rfl, trivial⟩, .inl ⟨hlen, rfl⟩, (hs.mask [true, true, true, true, false, true]).cast rfl⟩
        · obtain ⟨g, m1, rfl, hroom, hs⟩ := hM
          refine W_seq ?_
          -- region 7
          refine W_region (by decide +kernel) ?_
          refine sq_r r_move rfl ?_
          refine sq_r (r_nilCheck rfl) rfl ?_
          refine sq_r (r_field rfl fa54_3) rfl ?_
          refine sq_r (r_load1 rfl ty3 (At.one (hs.own (i := 0) rfl) rfl)) rfl ?_
          refine sq_r (r_add rfl rfl (wrap_small (by omega) (by omega))) rfl ?_
          refine sq_r (r_nilCheck rfl) rfl ?_
          refine sq_r (r_field rfl fa54_3) rfl ?_
          refine sq_e rfl (o_store (i := 0) (vs := [.int .i64 (s.clk + 1)]) hs rfl rfl ty3 rfl (by simp [Value.oneCell']) (by simp) ?_); intro w hs
          refine sq_z ?_
          -- region 8
          refine W_region (by decide +kernel) ?_
          refine sq_r r_move rfl ?_
          refine sq_r (r_nilCheck rfl) rfl ?_
          refine sq_r (r_field rfl fa54_3) rfl ?_
          refine sq_r (r_load1 rfl ty3 (At.one (hs.own (i := 0) rfl) rfl)) rfl ?_
          refine sq_r (r_field rfl fa58_1) rfl ?_
          refine sq_e rfl (o_store (i := 4) (vs := [.int .i64 (s.clk + 1)]) hs rfl rfl ty3 rfl (by simp [Value.oneCell']) (by simp [cv]) ?_); intro w hs
          refine sq_z ?_
          exact ⟨_, m1, (0, s.clk + 1), s.clk + 1, ov_self ⟨rfl, rfl, rfl, trivial⟩, .inr ⟨hnone, hroom, rfl, rfl⟩, hs⟩
      · -- it is there
        refine W_skip ?_
        obtain ⟨ct, hsome⟩ : ∃ ct, mget s.m k = some ct := by cases h : mget s.m k <;> simp [h] at hc ⊢
        rw [hsome] at hs
        exact ⟨_, s.m, ct, s.clk, ov_self ⟨rfl, rfl, rfl, trivial⟩, .inl ⟨hsome, rfl, rfl⟩, (hs.mask [true, true, true, true, false, true]).cast rfl⟩
    · obtain ⟨g, m1, ct, clk, rfl, hmid, hs⟩ := hM
      have hct1 : 0 ≤ ct.1 ∧ ct.1 < 4611686018427387904 := by
        rcases hmid with ⟨h, _, _⟩ | ⟨_, _, rfl, _⟩
        · obtain ⟨n, hn⟩ := mget_mem h
          exact hct _ hn
        · exact ⟨Int.le_refl _, by simp⟩
      have hmw := mid_wf hm hmid
      refine W_seq ?_
      -- region 9
      refine W_region (by decide +kernel) ?_
      refine sq_r (r_field rfl fa58_0) rfl ?_
      refine sq_r (r_load1 rfl ty3 (At.one (hs.own (i := 4) rfl) rfl)) rfl ?_
      refine sq_r (r_add rfl rfl (wrap_small (by omega) (by omega))) rfl ?_
      refine sq_r (r_field rfl fa58_0) rfl ?_
      refine sq_e rfl (o_store (i := 4) (vs := [.int .i64 (ct.1 + 1)]) hs rfl rfl ty3 rfl (by simp [Value.oneCell']) (by simp [cv]) ?_); intro w hs
      refine sq_z ?_
      refine W_seq ?_
      -- region 10 DRAWS
      refine W_drawM hs Try.mixed [true, true, true, true, true] [0, 1, 0, 4, 12, 28, 63, 127] [] [0, 1, 2, 3, 4, 5, 6, 7] (by decide +kernel) ?_
      intro w hs; have hR := hs.mask [true, true, true, true, true]
      refine dq_r hR rfl rfl rfl (fun _ w _ _ hR => r_field rfl fa58_0) ?_
      refine dq_r hR rfl rfl rfl (fun _ w _ _ hR => r_load1 rfl ty3 (At.one (hR.own (i := 4) rfl) rfl)) ?_
      refine dq_r hR rfl rfl rfl (fun _ w _ _ hR => r_move) ?_
      refine dq_r hR rfl rfl rfl (fun _ w _ _ hR => r_nilCheck rfl) ?_
      refine dq_r hR rfl rfl rfl (fun _ w _ _ hR => r_field rfl fa54_2) ?_
      refine dq_r hR rfl rfl rfl (fun _ w _ _ hR => r_load1 rfl ty3 (At.one (hR.own (i := 0) rfl) rfl)) ?_
      refine dq_r hR rfl rfl rfl (fun _ w _ _ hR => r_cmp rfl rfl rfl) ?_
      refine dq_r hR rfl rfl rfl (fun _ w _ _ hR => r_assign) ?_
      refine dq_z hR ?_
      refine W_mid (M := fun f w => ∃ g, f = ov [(0, .pointer (some ⟨bb, 0, none⟩)), (3, .pointer (some ⟨b3, 0, none⟩)), (5, .pointer (some ⟨b5, 0, none⟩)), (7, .bool (decide (s.thr ≤ ct.1 + 1)))] g ∧
        St w0 (ks (bookC bb mc mb s)) [[(bb, cb [.map (some mc), .map (some mb), .int .i64 s.thr, .int .i64 clk] 54)], [(mc, mo encV ctV m1 s.c)], [(mb, mo encV encI s.bn s.cb)], [(b3, cb (kc k) 28)], [(b5, cb (cv (if s.thr ≤ ct.1 + 1 then 0 else ct.1 + 1, ct.2)) 58)]] w) ?_ (fun f w hM => ?_)
      · refine W_seq ?_
        -- region 11
        refine W_region (by decide +kernel) ?_
        refine sq_r r_move rfl ?_
        refine sq_z ?_
        -- IF ('tmp', 69)
        refine W_cond rfl rfl (fun hc => ?_) (fun hc => ?_)
        · have hh : s.thr ≤ ct.1 + 1 := of_decide_eq_true hc
          -- region 12
          refine W_region (by decide +kernel) ?_
          refine sq_r (r_field rfl fa58_0) rfl ?_
          refine sq_e rfl (o_store (i := 4) (vs := [.int .i64 0]) hs rfl rfl ty3 rfl (by simp [Value.oneCell']) (by simp [spl, cv]) ?_); intro w hs
          refine sq_z ?_
          rw [if_pos hh]
          exact ⟨_, ov_self ⟨rfl, rfl, rfl, rfl, trivial⟩, hs⟩
        · have hh : ¬ s.thr ≤ ct.1 + 1 := of_decide_eq_false hc
          refine W_skip ?_
          rw [if_neg hh]
          exact ⟨_, ov_self ⟨rfl, rfl, rfl, rfl, trivial⟩, hs⟩
      · obtain ⟨g, rfl, hs⟩ := hM
        refine W_seq ?_
        -- region 13 DRAWS
        refine W_drawM hs Try.mixed [true, false, true, true, true] [0, 1, 3, 7, 0, 0, 63] [6] [0, 1, 2, 3, 4, 5, 6] (by decide +kernel) ?_
        intro w hs; have hR := hs.mask [true, false, true, true, true]
        refine dq_r hR rfl rfl rfl (fun _ w _ _ hR => r_move) ?_
        refine dq_r hR rfl rfl rfl (fun _ w _ _ hR => r_nilCheck rfl) ?_
        refine dq_r hR rfl rfl rfl (fun _ w _ _ hR => r_field rfl fa54_0) ?_
        refine dq_r hR rfl rfl rfl (fun _ w _ _ hR => r_load1 rfl ty51 (At.one (hR.own (i := 0) rfl) rfl)) ?_
        refine dq_r hR rfl rfl rfl (fun _ w _ _ hR => r_loadN rfl ty28 (kc_len k) (At.of_block (hR.own (i := 3) rfl) (kc_all k))) ?_
        refine dq_r hR rfl rfl rfl (fun _ w _ _ hR => r_loadN (vs := cv (if s.thr ≤ ct.1 + 1 then 0 else ct.1 + 1, ct.2)) rfl ty58 rfl (At.of_block (hR.own (i := 4) rfl) rfl)) ?_
        refine dq_e hR rfl rfl rfl (o_mapUpdate (i := 1) (a := k) (v := (if s.thr ≤ ct.1 + 1 then 0 else ct.1 + 1, ct.2)) (ev' := ctV) KT28 Try.underlying51 hs rfl rfl rfl rfl hmw.keys ?_); intro w hs
        have hR := hs.mask [true, false, true, true, true]
        refine dq_z hR ?_
        refine W_seq ?_
        -- region 14
        refine W_region (by decide +kernel) ?_
        refine sq_r r_move rfl ?_
        refine sq_r r_assign rfl ?_
        refine sq_z ?_
        refine W_ret ?_
        refine ret1 (v := .bool (decide (s.thr ≤ ct.1 + 1))) rfl (by decide) rfl ?_
        exact fin (c' := bookC bb mc mb (hitS s k m1 ct clk)) hs ⟨_, hitS s k m1 ct clk, rfl, .inr ⟨hban, m1, ct, clk, hmid, rfl, rfl⟩, rfl⟩ (by simp [bookC, hitS])

end Go.Proofs.Ytcdlbgmmogccaaa
