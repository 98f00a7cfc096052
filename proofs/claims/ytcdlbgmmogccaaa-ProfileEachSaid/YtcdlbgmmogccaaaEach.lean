/-
  Layer 14: the law ProfileEach: of a key alone every threshold-th meeting is told. No condition.
-/
import Derived.Test.YtcdlbgmmogccaaaAwake
namespace Go.Proofs.Ytcdlbgmmogccaaa
open Go.Eng

/-- The book of one key behind i meetings. -/
def bk (k : Ky) (t : Int) (i : Nat) : BS := if i = 0 then new0 t else one k t ((i : Int) % t)
theorem each_step (t : Int) (ht : 1 ≤ t) (i : Int) : nxt t (i % t) = (i + 1) % t ∧ decide (t ≤ i % t + 1) = decide ((i + 1) % t = 0) := by
  have h0 := Int.emod_nonneg i (show t ≠ 0 by omega)
  have h1 := Int.emod_lt_of_pos i (show 0 < t by omega)
  have e : (i + 1) % t = (i % t + 1) % t := (Int.emod_add_emod i t 1).symm
  unfold nxt
  by_cases h : t ≤ i % t + 1
  · have h2 : i % t + 1 = t := by omega
    rw [if_pos h, e, h2, Int.emod_self]
    simp
  · rw [if_neg h, e, Int.emod_eq_of_lt (a := i % t + 1) (b := t) (by omega) (by omega)]
    refine ⟨rfl, ?_⟩
    rw [decide_eq_decide]
    omega
theorem hit_bk (bb mc mb : Nat) (t : Int) (ht : 1 ≤ t) (k : Ky) (i : Nat) (hi : i < 4611686018427387904) : Ctr Try.prog 14 #[.pointer (some ⟨bb, 0, none⟩), .agg (kc k).toArray] (bookC bb mc mb (bk k t i)) (fun _ => True)
    (fun v c => v = .bool (decide (((i : Int) + 1) % t = 0)) ∧ c = bookC bb mc mb (bk k t (i + 1))) := by
  obtain ⟨h1, h2⟩ := each_step t ht i
  by_cases h : i = 0
  · subst h
    have := hit_new bb mc mb t k
    simp only [Int.ofNat_zero, Int.zero_emod, Int.zero_add] at h1 h2 ⊢
    rw [h1, h2] at this
    simpa [bk] using this
  · have := hit_one bb mc mb t ((i : Int) % t) k ⟨Int.emod_nonneg _ (by omega), by
      have := Int.emod_lt_of_pos i (show 0 < t by omega)
      by_cases hl : (i : Int) < t
      · rw [Int.emod_eq_of_lt (by omega) hl]; omega
      · omega⟩
    rw [h1, h2] at this
    simpa [bk, h] using this
theorem cnt_bk (k : Ky) (t : Int) (i : Nat) : cnt (bk k t i) k = (i : Int) % t := by
  unfold bk
  split
  · rename_i h; subst h; simp [cnt, new0, mget]
  · simp [cnt, one, mget]

theorem f5_law (k : Ky) (t m : Int) (hm : In64 m) : Ctr Try.prog 5 #[encV k, .int .i64 t, .int .i64 m] [] (fun _ => True) (fun v c => v = .bool true ∧ c = []) := by
  intro w0 hp hro
  have hs : St w0 (ks []) [] w0 := St.start w0
  refine calls_W (n := 45) Try.func5 rfl Try.ntmps5 (by simp) ?_
  refine W_seq ?_
  -- region 0
  refine W_region (by decide +kernel) ?_
  refine sq_e rfl (o_box (cs := kc k) hs rfl ?_); intro b3 w hs
  refine sq_r r_assign rfl ?_
  refine sq_z ?_
  refine W_seq ?_
  refine W_seq ?_
  -- region 1
  refine W_region (by decide +kernel) ?_
  refine sq_e rfl (o_callN cb9 rfl rfl (Post := fun v _ => v = .bool true) f9_calls hs trivial ?_)
  rintro v w rfl hs
  refine sq_r (r_not rfl) rfl ?_
  refine sq_z ?_
  -- IF ('tmp', 10)
  refine W_cond rfl rfl (fun hc => ?_) (fun hc => ?_)
  · cases hc
  refine W_skip ?_
  refine W_seq ?_
  refine W_seq ?_
  -- region 3
  refine W_region (by decide +kernel) ?_
  refine sq_r r_move rfl ?_
  by_cases h1 : t < 1
  · refine sq_r (r_cmp (r := true) rfl rfl (by simp [cmpB, h1])) rfl ?_
    refine sq_r r_move rfl ?_
    refine sq_n rfl ?_
    refine sq_n rfl ?_
    refine sq_r (r_pick rfl) rfl ?_
    refine sq_r r_move rfl ?_
    refine sq_n rfl ?_
    refine sq_n rfl ?_
    refine sq_r (r_pick rfl) rfl ?_
    refine sq_z ?_
    -- IF ('tmp', 20)
    refine W_cond rfl rfl (fun hc => ?_) (fun hc => ?_)
    · refine W_seq ?_
      -- region 4
      refine W_region (by decide +kernel) ?_
      refine sq_r r_assign rfl ?_
      refine sq_z ?_
      refine W_ret ?_
      repeat with_reducible first | refine thenQ_ret ?_ | refine blockQ_ret ?_
      exact ret1 (v := .bool true) rfl (by decide) rfl (fin (c' := []) hs ⟨rfl, rfl⟩ (by simp))
    · cases hc
  refine sq_r (r_cmp (r := false) rfl rfl (by simp [cmpB]; omega)) rfl ?_
  refine sq_r r_move rfl ?_
  refine sq_r r_move rfl ?_ /- GUARD 2 False -/
  by_cases h2 : m < 0
  · refine sq_r (r_cmp (r := true) rfl rfl (by simp [cmpB, h2])) rfl ?_ /- GUARD 2 False -/
    refine sq_r (r_pick rfl) rfl ?_
    refine sq_r r_move rfl ?_
    refine sq_n rfl ?_
    refine sq_n rfl ?_
    refine sq_r (r_pick rfl) rfl ?_
    refine sq_z ?_
    -- IF ('tmp', 20)
    refine W_cond rfl rfl (fun hc => ?_) (fun hc => ?_)
    · refine W_seq ?_
      -- region 4
      refine W_region (by decide +kernel) ?_
      refine sq_r r_assign rfl ?_
      refine sq_z ?_
      refine W_ret ?_
      repeat with_reducible first | refine thenQ_ret ?_ | refine blockQ_ret ?_
      exact ret1 (v := .bool true) rfl (by decide) rfl (fin (c' := []) hs ⟨rfl, rfl⟩ (by simp))
    · cases hc
  refine sq_r (r_cmp (r := false) rfl rfl (by simp [cmpB]; omega)) rfl ?_ /- GUARD 2 False -/
  refine sq_r (r_pick rfl) rfl ?_
  refine sq_r r_move rfl ?_
  refine sq_r r_move rfl ?_ /- GUARD 6 False -/
  refine sq_r (r_cmp rfl rfl rfl) rfl ?_ /- GUARD 6 False -/
  refine sq_r (r_pick rfl) rfl ?_
  refine sq_z ?_
  -- IF ('tmp', 20)
  refine W_cond (b := decide (2000 < m)) rfl rfl (fun hc => ?_) (fun hc => ?_)
  · refine W_seq ?_
    -- region 4
    refine W_region (by decide +kernel) ?_
    refine sq_r r_assign rfl ?_
    refine sq_z ?_
    refine W_ret ?_
    repeat with_reducible first | refine thenQ_ret ?_ | refine blockQ_ret ?_
    exact ret1 (v := .bool true) rfl (by decide) rfl (fin (c' := []) hs ⟨rfl, rfl⟩ (by simp))
  have hm2 : m ≤ 2000 := by have := of_decide_eq_false hc; omega
  obtain ⟨n, rfl⟩ : ∃ n : Nat, m = n := ⟨m.toNat, by omega⟩
  refine W_skip ?_
  refine W_seq ?_
  -- region 5
  refine W_region (by decide +kernel) ?_
  refine sq_r r_move rfl ?_
  refine sq_e rfl (o_call0 cb12 rfl rfl (f12_calls t) hs trivial ?_)
  rintro v c w ⟨bb, mc, mb, rfl, hcp⟩ hs
  have ht : 1 ≤ t := by omega
  have hs : St w0 (ks []) [[(b3, cb (kc k) 28)], bookC bb mc mb (bk k t 0)] w := (St.permAt (i := 1) hs rfl hcp).cast (by
    have : max t 1 = t := by omega
    simp only [this]; rfl)
  refine sq_r r_assign rfl ?_
  refine sq_z ?_
  refine W_seq ?_
  refine W_seq ?_
  -- region 6
  refine W_region (by decide +kernel) ?_
  refine sq_r r_move rfl ?_
  refine sq_r (r_eqnil Try.underlying33 rfl rfl) rfl ?_
  refine sq_z ?_
  -- IF ('tmp', 24)
  refine W_cond rfl rfl (fun hc => ?_) (fun hc => ?_)
  · cases hc
  refine W_skip ?_
  refine W_seq ?_
  refine W_seq ?_
  -- region 8
  refine W_region (by decide +kernel) ?_
  refine sq_r r_assign rfl ?_
  refine sq_z ?_
  refine W_block ?_ -- 0
  -- LOOP
  refine W_loop (fun (i : Nat) f w => ∃ g, f = ov [(1, .int .i64 t), (2, .int .i64 n), (3, .pointer (some ⟨b3, 0, none⟩)), (7, .pointer (some ⟨bb, 0, none⟩)), (8, .int .i64 ((i : Int) + 1))] g ∧ i ≤ n ∧
    St w0 (ks []) [[(b3, cb (kc k) 28)], bookC bb mc mb (bk k t i)] w) (fun i => n - i) 0 ?_ ?_
  · exact ⟨_, ov_self ⟨rfl, rfl, rfl, rfl, rfl, trivial⟩, Nat.zero_le _, hs⟩
  rintro i f w ⟨g, rfl, hi, hs⟩
  refine W_seq ?_
  refine W_seq ?_
  -- region 9
  refine W_region (by decide +kernel) ?_
  refine sq_r r_move rfl ?_
  refine sq_r r_move rfl ?_
  refine sq_r (r_cmp rfl rfl rfl) rfl ?_
  refine sq_z ?_
  -- IF ('tmp', 27)
  refine W_cond rfl rfl (fun hc => ?_) (fun hc => ?_)
  · have hlt : i < n := by have := of_decide_eq_true hc; omega
    have hmod : ((i : Int) + 1).tmod t = ((i : Int) + 1) % t := Int.tmod_eq_emod_of_nonneg (by omega)
    refine W_skip ?_
    refine W_seq ?_
    refine W_block ?_ -- 1
    refine W_seq ?_
    -- region 11 DRAWS
    refine W_drawM hs Try.mixed [true, false] [0, 0, 3, 0, 0, 24, 56, 127] [2] [0, 1, 3, 4, 5, 6, 2, 7] (by decide +kernel) ?_
    intro w hs; have hR := hs.mask [true, false]
    refine dq_r hR rfl rfl rfl (fun _ w _ _ hR => r_move) ?_
    refine dq_r hR rfl rfl rfl (fun _ w _ _ hR => r_loadN rfl ty28 (kc_len k) (At.of_block (hR.own (i := 0) rfl) (kc_all k))) ?_
    refine dq_r hR rfl rfl rfl (fun _ w _ _ hR => r_move) ?_
    refine dq_r hR rfl rfl rfl (fun _ w _ _ hR => r_move) ?_
    refine dq_r hR rfl rfl rfl (fun _ w _ _ hR => r_rem rfl rfl (by omega)) ?_
    refine dq_r hR rfl rfl rfl (fun _ w _ _ hR => r_cmp rfl rfl rfl) ?_
    refine dq_e hR rfl rfl rfl (o_call (i := 1) cb14 rfl rfl (hit_bk bb mc mb t ht k i (by omega)) hs rfl trivial ?_)
    rintro v c w ⟨rfl, rfl⟩ hs
    have hR := hs.mask [true, false]
    refine dq_r hR rfl rfl rfl (fun _ w _ _ hR => r_neB Try.underlying4 rfl rfl) ?_
    refine dq_z hR ?_
    -- IF ('tmp', 37)
    refine W_cond (b := false) rfl ?_ (fun hc => ?_) (fun hc => ?_)
    · show Value.bool (decide (((i : Int) + 1) % t = 0) != (((i : Int) + 1).tmod t == 0)) = _
      rw [hmod]
      by_cases h : ((i : Int) + 1) % t = 0 <;> simp [h]
    · cases hc
    refine W_skip ?_
    -- region 10
    refine W_region (by decide +kernel) ?_
    refine sq_r r_move rfl ?_
    refine sq_r (r_add rfl rfl (wrap_small (by omega) (by omega))) rfl ?_
    refine sq_r r_assign rfl ?_
    refine sq_z ?_
    exact ⟨i + 1, ⟨_, ov_self ⟨rfl, rfl, rfl, rfl, rfl, trivial⟩, by omega, hs⟩, by omega⟩
  · have hin : i = n := by have := of_decide_eq_false hc; omega
    subst hin
    have hmod : (i : Int).tmod t = (i : Int) % t := Int.tmod_eq_emod_of_nonneg (by omega)
    refine W_exit ?_ -- 0
    refine W_seq ?_
    -- region 13 DRAWS
    refine W_drawM hs Try.mixed [true, false] [0, 0, 3, 0, 0, 24, 63, 127] [2] [0, 1, 3, 4, 5, 2, 6, 7] (by decide +kernel) ?_
    intro w hs; have hR := hs.mask [true, false]
    refine dq_r hR rfl rfl rfl (fun _ w _ _ hR => r_move) ?_
    refine dq_r hR rfl rfl rfl (fun _ w _ _ hR => r_loadN rfl ty28 (kc_len k) (At.of_block (hR.own (i := 0) rfl) (kc_all k))) ?_
    refine dq_r hR rfl rfl rfl (fun _ w _ _ hR => r_move) ?_
    refine dq_r hR rfl rfl rfl (fun _ w _ _ hR => r_move) ?_
    refine dq_r hR rfl rfl rfl (fun _ w _ _ hR => r_rem rfl rfl (by omega)) ?_
    refine dq_e hR rfl rfl rfl (o_call (i := 1) cb16 rfl rfl (f16_calls bb mc mb (bk k t i) k) hs rfl trivial ?_)
    rintro v c w ⟨rfl, rfl⟩ hs
    have hR := hs.mask [true, false]
    refine dq_r hR rfl rfl rfl (fun _ w _ _ hR => r_cmp (r := true) rfl rfl (by rw [cnt_bk, hmod]; simp [cmpB])) ?_
    refine dq_r hR rfl rfl rfl (fun _ w _ _ hR => r_assign) ?_
    refine dq_z hR ?_
    refine W_ret ?_
    exact ret1 (v := .bool true) rfl (by decide) rfl (fin (c' := []) hs ⟨rfl, rfl⟩ (by simp))

end Go.Proofs.Ytcdlbgmmogccaaa
