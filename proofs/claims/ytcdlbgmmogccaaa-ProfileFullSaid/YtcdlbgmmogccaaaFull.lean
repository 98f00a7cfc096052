/-
  Layer 14: the law ProfileFull: with more keys than may be counted the one with the least count goes, of several the one that has been there longest. No condition.
-/
import Derived.Test.YtcdlbgmmogccaaaBoth
import Derived.Test.YtcdlbgmmogccaaaMore
namespace Go.Proofs.Ytcdlbgmmogccaaa
open Go.Eng

theorem flat3 : flat Try.prog 1 3 1 = true := by kernel_rfl
def kM (n : Int) : Ky := #v[n, 0, 0, 0, 0, 0, 0, 0, 0, 0]
theorem rb_len {rb : Nat} {r : RS} {c : Ck} (h : RB rb r c) : ∃ ra rcap, ∀ {w : World}, Hp c w → w.cell? ⟨rb, 0, none⟩ = some (.slice ra r.rows.length rcap) := by
  obtain ⟨rv, ov', rc, oc, hr, _, rfl⟩ := h
  obtain ⟨ra, rcap, rfl⟩ := hr.len
  exact ⟨ra, rcap, fun hp => At.one (hp.has (rb, cb [.slice ra r.rows.length rcap, ov', .int .i64 r.thr] 43) (by simp [rbC])) rfl⟩

set_option maxHeartbeats 2000000 in
theorem f4_law (m : Int) (yv : Value) (xs : List (Vector Int 1)) : Ctr Try.prog 4 #[.int .i64 m, yv] [] (fun w => Arg 1 w yv xs) (fun v c => v = .bool true ∧ c = []) := by
  intro w0 hp harg
  have hs : St w0 (ks []) [] w0 := St.start w0
  obtain ⟨ya, ycap, hyv⟩ : ∃ ya ycap, yv = .slice ya xs.length ycap := by obtain ⟨⟨a, cap, h, _⟩, _, _⟩ := harg; exact ⟨a, cap, h⟩
  have hmax := max4000
  refine calls_W (n := 95) Try.func4 rfl Try.ntmps4 (by simp) ?_
  refine W_seq ?_
  -- region 0
  refine W_region (by decide +kernel) ?_
  refine sq_r r_assign rfl ?_
  refine sq_z ?_
  refine W_seq ?_
  refine W_seq ?_
  -- region 1
  refine W_region (by decide +kernel) ?_
  refine sq_e rfl (o_callN cb9 rfl rfl (Post := fun v _ => v = .bool true) f9_calls hs trivial ?_)
  rintro v w rfl hs
  refine sq_r (r_not rfl) rfl ?_
  refine sq_z ?_
  refine W_cond rfl rfl (fun hc => ?_) (fun hc => ?_)
  · cases hc
  refine W_skip ?_
  refine W_seq ?_
  refine W_seq ?_
  -- region 3
  refine W_region (by decide +kernel) ?_
  refine sq_r r_move rfl ?_
  by_cases h1 : m < 0
  · refine sq_r (r_cmp (r := true) rfl rfl (by simp [cmpB, h1])) rfl ?_
    refine sq_r r_move rfl ?_
    refine sq_n rfl ?_
    refine sq_n rfl ?_
    refine sq_r (r_pick rfl) rfl ?_
    refine sq_r r_move rfl ?_
    refine sq_n rfl ?_
    refine sq_n rfl ?_
    refine sq_n rfl ?_
    refine sq_r (r_pick rfl) rfl ?_
    refine sq_z ?_
    -- IF ('tmp', 28)
    refine W_cond rfl rfl (fun hc => ?_) (fun hc => ?_)
    · refine W_seq ?_
      -- region 4
      refine W_region (by decide +kernel) ?_
      refine sq_r r_assign rfl ?_
      refine sq_z ?_
      refine W_ret ?_
      repeat with_reducible first | refine thenQ_ret ?_ | refine blockQ_ret ?_
      exact ret1 (v := .bool true) rfl (by decide) rfl (fin (c' := []) hs ⟨rfl, rfl⟩ (by simp))
    · cases hc
  refine sq_r (r_cmp (r := false) rfl rfl (by simp [cmpB]; omega)) rfl ?_
  refine sq_r r_move rfl ?_
  refine sq_r r_move rfl ?_ /- GUARD 2 False -/
  by_cases h2 : 20 < m
  · refine sq_r (r_cmp (r := true) rfl rfl (by simp [cmpB, h2])) rfl ?_
    refine sq_r (r_pick rfl) rfl ?_
    refine sq_r r_move rfl ?_
    refine sq_n rfl ?_
    refine sq_n rfl ?_
    refine sq_n rfl ?_
    refine sq_r (r_pick rfl) rfl ?_
    refine sq_z ?_
    -- IF ('tmp', 28)
    refine W_cond rfl rfl (fun hc => ?_) (fun hc => ?_)
    · refine W_seq ?_
      -- region 4
      refine W_region (by decide +kernel) ?_
      refine sq_r r_assign rfl ?_
      refine sq_z ?_
      refine W_ret ?_
      repeat with_reducible first | refine thenQ_ret ?_ | refine blockQ_ret ?_
      exact ret1 (v := .bool true) rfl (by decide) rfl (fin (c' := []) hs ⟨rfl, rfl⟩ (by simp))
    · cases hc
  refine sq_r (r_cmp (r := false) rfl rfl (by simp [cmpB]; omega)) rfl ?_
  refine sq_r (r_pick rfl) rfl ?_
  refine sq_r r_move rfl ?_
  refine sq_r r_move rfl ?_ /- GUARD 6 False -/
  refine sq_r (r_lenS Try.underlying32 hyv) rfl ?_ /- GUARD 6 False -/
  refine sq_r (r_cmp rfl rfl rfl) rfl ?_ /- GUARD 6 False -/
  refine sq_r (r_pick rfl) rfl ?_
  refine sq_z ?_
  refine W_cond (b := decide (50 < (xs.length : Int))) rfl rfl (fun hc => ?_) (fun hc => ?_)
  · refine W_seq ?_
    -- region 4
    refine W_region (by decide +kernel) ?_
    refine sq_r r_assign rfl ?_
    refine sq_z ?_
    refine W_ret ?_
    repeat with_reducible first | refine thenQ_ret ?_ | refine blockQ_ret ?_
    exact ret1 (v := .bool true) rfl (by decide) rfl (fin (c' := []) hs ⟨rfl, rfl⟩ (by simp))
  have hn : xs.length ≤ 50 := by have := of_decide_eq_false hc; omega
  obtain ⟨q, rfl⟩ : ∃ q : Nat, m = q := ⟨m.toNat, by omega⟩
  have hq : q ≤ 20 := by omega
  refine W_skip ?_
  refine W_seq ?_
  -- region 5
  refine W_region (by decide +kernel) ?_
  refine sq_e rfl (o_call0 cb12 rfl rfl (f12_calls 1000000) hs trivial ?_)
  rintro v c w ⟨bb, mc, mb, rfl, hcp⟩ hs
  have hs : St w0 (ks []) [bookC bb mc mb (new0 (max 1000000 1))] w := St.permAt (i := 0) hs rfl hcp
  refine sq_e rfl (o_call0 cb13 rfl rfl (f13_calls 1000000) hs trivial ?_)
  rintro v c w ⟨rb, rfl, hrb⟩ hs
  have hs : St w0 (ks []) [bookC bb mc mb (new0 (max 1000000 1)), c] w := hs
  refine sq_r r_assign rfl ?_
  refine sq_r r_assign rfl ?_
  refine sq_z ?_
  refine W_seq ?_
  refine W_seq ?_
  -- region 6
  refine W_region (by decide +kernel) ?_
  refine sq_r r_move rfl ?_
  refine sq_r (r_eqnil Try.underlying33 rfl rfl) rfl ?_
  refine sq_z ?_
  refine W_cond rfl rfl (fun hc => ?_) (fun hc => ?_)
  · cases hc
  refine W_skip ?_
  refine W_seq ?_
  -- region 8
  refine W_region (by decide +kernel) ?_
  refine sq_e rfl (o_makeSlice0 (c := 1100) sl32 ty3 hs rfl rfl (by decide) (by decide) (by omega) ?_)
  intro v lc w hv hs
  refine sq_r r_assign rfl ?_
  refine sq_z ?_
  refine W_seq ?_
  refine W_seq ?_
  -- region 9
  refine W_region (by decide +kernel) ?_
  refine sq_r r_assign rfl ?_
  refine sq_z ?_
  refine W_block ?_ -- 0
  -- LOOP
  refine W_loop (fun (i : Nat) f w => ∃ g v lc l, f = ov [(0, .int .i64 q), (1, yv), (5, .pointer (some ⟨bb, 0, none⟩)), (6, .pointer (some ⟨rb, 0, none⟩)), (7, v), (8, .int .i64 i)] g ∧ i ≤ 1000 ∧ l.length = i ∧ Sl 3 1 v l.length (ic l) lc ∧
    St w0 (ks []) [bookC bb mc mb (new0 (max 1000000 1)), c, lc] w) (fun i => 1000 - i) 0 ?_ ?_
  · exact ⟨_, v, lc, [], ov_self ⟨rfl, rfl, rfl, rfl, rfl, rfl, trivial⟩, by omega, rfl, hv, hs⟩
  rintro i f w ⟨g, v, lc, l, rfl, hi, hl, hv, hs⟩
  refine W_seq ?_
  refine W_seq ?_
  -- region 10
  refine W_region (by decide +kernel) ?_
  refine sq_r r_move rfl ?_
  refine sq_r (r_cmp rfl rfl rfl) rfl ?_
  refine sq_z ?_
  refine W_cond rfl rfl (fun hd => ?_) (fun hd => ?_)
  · have hlt : i < 1000 := by have := of_decide_eq_true hd; omega
    refine W_skip ?_
    refine W_seq ?_
    refine W_block ?_ -- 1
    -- region 12
    refine W_region (by decide +kernel) ?_
    refine sq_r r_move rfl ?_
    refine sq_r r_move rfl ?_
    refine sq_e rfl (o_buildN [.int .i64 i] [[.int .i64 i]] sl32 ty3 hs rfl rfl rfl (by simp) (by simp) ?_); intro b4 w hs
    refine sq_e rfl (o_append (i := 2) (m := 1) (news := [.int .i64 i]) (soff := 0) (sb := b4) (scap := 1) sl32 ty3 rfl hs rfl rfl rfl hv (by simp) (At.of_block (hs.own (i := 3) rfl) (by simp)) (by simp [Value.oneCell']) (by omega) (by omega) ?_)
    intro v' lc' w hv' hs
    refine sq_r r_assign rfl ?_
    refine sq_z ?_
    -- region 11
    refine W_region (by decide +kernel) ?_
    refine sq_r r_move rfl ?_
    refine sq_r (r_add rfl rfl (wrap_small (by omega) (by omega))) rfl ?_
    refine sq_r r_assign rfl ?_
    refine sq_z ?_
    exact ⟨i + 1, ⟨_, v', lc', l ++ [(i : Int)], ov_self ⟨rfl, rfl, rfl, rfl, rfl, rfl, trivial⟩, by omega, by simp [hl], by rw [List.length_append, ic_app]; exact hv', (hs.mask [true, true, true, false]).cast (by simp [zipMask])⟩, by omega⟩
  have hi1 : i = 1000 := by have := of_decide_eq_false hd; omega
  refine W_exit ?_ -- 0
  refine W_seq ?_
  -- region 13
  refine W_region (by decide +kernel) ?_
  refine sq_r r_move rfl ?_
  refine sq_r r_move rfl ?_
  refine sq_e rfl (o_append_arg (i := 2) sl32 ty3 rfl (harg.old hs) hs rfl rfl rfl hv (by omega) (by omega) ?_)
  intro v2 lc2 w hv2 hs
  refine sq_r r_assign rfl ?_
  refine sq_z ?_
  have hv2 : Sl 3 1 v2 (l ++ ints xs).length (ic (l ++ ints xs)) lc2 := by rw [List.length_append, show (ints xs).length = xs.length from by simp [ints]]; exact hv2
  have hl2 : (l ++ ints xs).length = 1000 + xs.length := by rw [List.length_append, show (ints xs).length = xs.length from by simp [ints]]; omega
  refine W_seq ?_
  refine W_seq ?_
  -- region 14
  refine W_region (by decide +kernel) ?_
  refine sq_r r_assign rfl ?_
  refine sq_z ?_
  refine W_block ?_ -- 2
  -- LOOP
  refine W_loop (fun (i : Nat) f w => ∃ g v lc l, f = ov [(0, .int .i64 q), (5, .pointer (some ⟨bb, 0, none⟩)), (6, .pointer (some ⟨rb, 0, none⟩)), (7, v), (9, .int .i64 i)] g ∧ i ≤ q ∧ l.length = 1000 + xs.length + i ∧ Sl 3 1 v l.length (ic l) lc ∧
    St w0 (ks []) [bookC bb mc mb (new0 (max 1000000 1)), c, lc] w) (fun i => q - i) 0 ?_ ?_
  · exact ⟨_, v2, lc2, l ++ ints xs, ov_self ⟨rfl, rfl, rfl, rfl, rfl, trivial⟩, by omega, hl2, hv2, hs⟩
  clear hv2 hl2 hi hl hv hi1 hd
  rintro i f w ⟨g, v, lc, l, rfl, hi, hl, hv, hs⟩
  refine W_seq ?_
  refine W_seq ?_
  -- region 15
  refine W_region (by decide +kernel) ?_
  refine sq_r r_move rfl ?_
  refine sq_r r_move rfl ?_
  refine sq_r (r_cmp rfl rfl rfl) rfl ?_
  refine sq_z ?_
  refine W_cond rfl rfl (fun hd => ?_) (fun hd => ?_)
  · have hlt : i < q := by have := of_decide_eq_true hd; omega
    refine W_skip ?_
    refine W_seq ?_
    refine W_block ?_ -- 3
    -- region 17
    refine W_region (by decide +kernel) ?_
    refine sq_r r_move rfl ?_
    refine sq_r r_move rfl ?_
    refine sq_r (r_add rfl rfl (wrap_small (by omega) (by omega))) rfl ?_
    refine sq_e rfl (o_buildN [.int .i64 (5000 + (i : Int))] [[.int .i64 (5000 + (i : Int))]] sl32 ty3 hs rfl rfl rfl (by simp) (by simp) ?_); intro b4 w hs
    refine sq_e rfl (o_append (i := 2) (m := 1) (news := [.int .i64 (5000 + (i : Int))]) (soff := 0) (sb := b4) (scap := 1) sl32 ty3 rfl hs rfl rfl rfl hv (by simp) (At.of_block (hs.own (i := 3) rfl) (by simp)) (by simp [Value.oneCell']) (by omega) (by omega) ?_)
    intro v' lc' w hv' hs
    refine sq_r r_assign rfl ?_
    refine sq_z ?_
    -- region 16
    refine W_region (by decide +kernel) ?_
    refine sq_r r_move rfl ?_
    refine sq_r (r_add rfl rfl (wrap_small (by omega) (by omega))) rfl ?_
    refine sq_r r_assign rfl ?_
    refine sq_z ?_
    exact ⟨i + 1, ⟨_, v', lc', l ++ [5000 + (i : Int)], ov_self ⟨rfl, rfl, rfl, rfl, rfl, trivial⟩, by omega, by rw [List.length_append, hl]; rfl, by rw [List.length_append, ic_app]; exact hv', (hs.mask [true, true, true, false]).cast (by simp [zipMask])⟩, by omega⟩
  have hN : l.length ≤ 1070 := by omega
  obtain ⟨la, lcap, rfl⟩ := hv.len
  clear hd hl hi
  refine W_exit ?_ -- 2
  refine W_seq ?_
  refine W_seq ?_
  -- region 18
  refine W_region (by decide +kernel) ?_
  refine sq_r r_move rfl ?_
  refine sq_r (r_lenS Try.underlying32 rfl) rfl ?_
  refine sq_r r_move rfl ?_
  refine sq_z ?_
  refine W_block ?_ -- 4
  -- LOOP
  refine W_loop (fun (i : Nat) f w => ∃ g s r c, f = ov [(5, .pointer (some ⟨bb, 0, none⟩)), (6, .pointer (some ⟨rb, 0, none⟩)), (7, .slice la l.length lcap), (55, .slice la l.length lcap), (56, .int .i64 l.length), (57, .int .i64 i)] g ∧ i ≤ l.length ∧ Both i s r ∧ RB rb r c ∧
    St w0 (ks []) [bookC bb mc mb s, c, lc] w) (fun i => l.length - i) 0 ?_ ?_
  · exact ⟨_, new0 (max 1000000 1), _, c, ov_self ⟨rfl, rfl, rfl, rfl, rfl, rfl, trivial⟩, Nat.zero_le _, Both.new _, hrb, hs⟩
  rintro i f w ⟨g, s, r, c, rfl, hi, hB, hrb, hs⟩
  refine W_seq ?_
  -- region 19
  refine W_region (by decide +kernel) ?_
  refine sq_r (r_cmp rfl rfl rfl) rfl ?_
  refine sq_z ?_
  refine W_seq ?_
  refine W_cond rfl rfl (fun hd => ?_) (fun hd => ?_)
  · have hlt : i < l.length := by have := of_decide_eq_true hd; omega
    obtain ⟨x, hx⟩ : ∃ x, l[i]? = some x := ⟨_, List.getElem?_eq_getElem hlt⟩
    obtain ⟨b, cap, hve, hcell⟩ := hv.int hx (hs.at (i := 2) rfl)
    simp only [Value.slice.injEq, true_and] at hve
    obtain ⟨rfl, rfl⟩ := hve
    refine W_skip ?_
    refine W_seq ?_
    refine W_block ?_ -- 5
    refine W_seq ?_
    -- KEY
    refine W_region (by decide +kernel) ?_
    refine sq_r (r_index rfl rfl sl32 (by omega) (by omega)) rfl ?_
    refine sq_r (r_load1 rfl ty3 hcell) rfl ?_
    refine sq_r r_assign rfl ?_
    refine sq_z ?_
    refine W_seq ?_
    refine W_region (by decide +kernel) ?_
    refine sq_r r_move rfl ?_
    refine sq_r (r_build (v := .agg (ic [x, 0, 0, 0, 0, 0, 0, 0, 0, 0]).toArray) (by kernel_rfl)) rfl ?_
    refine sq_e rfl (o_alloc hs ty28 ?_); intro b4 w hs
    refine sq_e rfl (o_store (i := 3) (vs := ic [x, 0, 0, 0, 0, 0, 0, 0, 0, 0]) hs rfl rfl ty28 rfl (ic_one _) (by simp) ?_); intro w hs
    refine sq_z ?_
    have hs : St w0 (ks []) [bookC bb mc mb s, c, lc, [(b4, cb (kc (kM x)) 28)]] w := hs.cast rfl
    refine W_seq ?_
    -- region 22 DRAWS
    refine W_drawM hs Try.mixed [false, false, true, true] [0, 0, 3, 0, 0, 31, 63] [2, 5] [0, 1, 3, 4, 2, 5, 6] (by decide +kernel) ?_
    intro w hs; have hR := hs.mask [false, false, true, true]
    refine dq_r hR rfl rfl rfl (fun _ w _ _ hR => r_move) ?_
    refine dq_r hR rfl rfl rfl (fun _ w _ _ hR => r_loadN rfl ty28 (kc_len (kM x)) (At.of_block (hR.own (i := 3) rfl) (kc_all _))) ?_
    refine dq_r hR rfl rfl rfl (fun _ w _ _ hR => r_move) ?_
    refine dq_r hR rfl rfl rfl (fun _ w _ _ hR => r_loadN rfl ty28 (kc_len (kM x)) (At.of_block (hR.own (i := 3) rfl) (kc_all _))) ?_
    refine dq_e hR rfl rfl rfl (o_call (i := 0) cb14 rfl rfl (f14_calls bb mc mb s (kM x) hB.wf (hB.clk (by omega)) (hB.cts (by omega))) hs rfl trivial ?_)
    rintro v c' w ⟨v1, s', rfl, hh, rfl⟩ hs
    have hR := hs.mask [false, false, true, true]
    refine dq_e hR rfl rfl rfl (o_call (i := 1) cb15 rfl rfl (f15_calls rb r (kM x) c hrb (hB.rows (by omega)) (by have := hB.out (by omega); omega) (hB.rcts (by omega))) hs rfl trivial ?_)
    rintro v c' w ⟨v2, r', rfl, hr, hrb'⟩ hs
    have hR := hs.mask [false, false, true, true]
    obtain ⟨rfl, hB'⟩ := hB.hit hh hr
    refine dq_r hR rfl rfl rfl (fun _ w _ _ hR => r_neBf Try.underlying4 rfl rfl rfl) ?_
    refine dq_z hR ?_
    refine W_cond rfl rfl (fun he => ?_) (fun he => ?_)
    · cases he
    refine W_skip ?_
    -- region 24
    refine W_region (by decide +kernel) ?_
    refine sq_r (r_add rfl rfl (wrap_small (by omega) (by omega))) rfl ?_
    refine sq_r r_move rfl ?_
    refine sq_z ?_
    exact ⟨i + 1, ⟨_, s', r', c', ov_self ⟨rfl, rfl, rfl, rfl, rfl, rfl, trivial⟩, by omega, hB', hrb', (hs.mask [true, true, true, false]).cast (by simp [zipMask])⟩, by omega⟩
  have hin : i = l.length := by have := of_decide_eq_false hd; omega
  subst hin
  refine W_exit ?_ -- 4
  refine W_seq ?_
  refine W_seq ?_
  -- region 25
  refine W_region (by decide +kernel) ?_
  refine sq_r r_move rfl ?_
  refine sq_r (r_lenS Try.underlying32 rfl) rfl ?_
  refine sq_r r_move rfl ?_
  refine sq_z ?_
  refine W_block ?_ -- 6
  -- LOOP
  refine W_loop (fun (i : Nat) f w => ∃ g c, f = ov [(5, .pointer (some ⟨bb, 0, none⟩)), (6, .pointer (some ⟨rb, 0, none⟩)), (71, .slice la l.length lcap), (72, .int .i64 l.length), (73, .int .i64 i)] g ∧ i ≤ l.length ∧ RB rb r c ∧
    St w0 (ks []) [bookC bb mc mb s, c, lc] w) (fun i => l.length - i) 0 ?_ ?_
  · exact ⟨_, c, ov_self ⟨rfl, rfl, rfl, rfl, rfl, trivial⟩, Nat.zero_le _, hrb, hs⟩
  rintro i f w ⟨g, c, rfl, hi, hrb, hs⟩
  refine W_seq ?_
  -- region 26
  refine W_region (by decide +kernel) ?_
  refine sq_r (r_cmp rfl rfl rfl) rfl ?_
  refine sq_z ?_
  refine W_seq ?_
  refine W_cond rfl rfl (fun hd => ?_) (fun hd => ?_)
  · have hlt : i < l.length := by have := of_decide_eq_true hd; omega
    obtain ⟨x, hx⟩ : ∃ x, l[i]? = some x := ⟨_, List.getElem?_eq_getElem hlt⟩
    obtain ⟨b, cap, hve, hcell⟩ := hv.int hx (hs.at (i := 2) rfl)
    simp only [Value.slice.injEq, true_and] at hve
    obtain ⟨rfl, rfl⟩ := hve
    refine W_skip ?_
    refine W_seq ?_
    refine W_block ?_ -- 7
    refine W_seq ?_
    -- KEY
    refine W_region (by decide +kernel) ?_
    refine sq_r (r_index rfl rfl sl32 (by omega) (by omega)) rfl ?_
    refine sq_r (r_load1 rfl ty3 hcell) rfl ?_
    refine sq_r r_assign rfl ?_
    refine sq_z ?_
    refine W_seq ?_
    refine W_region (by decide +kernel) ?_
    refine sq_r r_move rfl ?_
    refine sq_r (r_build (v := .agg (ic [x, 0, 0, 0, 0, 0, 0, 0, 0, 0]).toArray) (by kernel_rfl)) rfl ?_
    refine sq_e rfl (o_alloc hs ty28 ?_); intro b4 w hs
    refine sq_e rfl (o_store (i := 3) (vs := ic [x, 0, 0, 0, 0, 0, 0, 0, 0, 0]) hs rfl rfl ty28 rfl (ic_one _) (by simp) ?_); intro w hs
    refine sq_z ?_
    have hs : St w0 (ks []) [bookC bb mc mb s, c, lc, [(b4, cb (kc (kM x)) 28)]] w := hs.cast rfl
    refine W_seq ?_
    -- region 29 DRAWS
    refine W_drawM hs Try.mixed [true, true, true, true] [0, 0, 3, 0, 0, 31, 63] [2, 5] [0, 1, 3, 4, 2, 5, 6] (by decide +kernel) ?_
    intro w hs; have hR := hs.mask [true, true, true, true]
    refine dq_r hR rfl rfl rfl (fun _ w _ _ hR => r_move) ?_
    refine dq_r hR rfl rfl rfl (fun _ w _ _ hR => r_loadN rfl ty28 (kc_len (kM x)) (At.of_block (hR.own (i := 3) rfl) (kc_all _))) ?_
    refine dq_r hR rfl rfl rfl (fun _ w _ _ hR => r_move) ?_
    refine dq_r hR rfl rfl rfl (fun _ w _ _ hR => r_loadN rfl ty28 (kc_len (kM x)) (At.of_block (hR.own (i := 3) rfl) (kc_all _))) ?_
    refine dq_e hR rfl rfl rfl (o_call (i := 0) cb16 rfl rfl (f16_calls bb mc mb s (kM x)) hs rfl trivial ?_)
    rintro v c' w ⟨rfl, rfl⟩ hs
    have hR := hs.mask [true, true, true, true]
    refine dq_e hR rfl rfl rfl (o_call (i := 1) cb17 rfl rfl (f17_calls rb r (kM x) c hrb (by have := hB.rows (by omega); omega)) hs rfl trivial ?_)
    rintro v c' w ⟨rfl, hcc⟩ hs
    subst hcc
    have hR := hs.mask [true, true, true, true]
    refine dq_r hR rfl rfl rfl (fun _ w _ _ hR => r_cmp (r := false) rfl rfl (by rw [hB.cnt]; simp [cmpB])) ?_
    refine dq_z hR ?_
    refine W_cond rfl rfl (fun he => ?_) (fun he => ?_)
    · cases he
    refine W_skip ?_
    -- region 31
    refine W_region (by decide +kernel) ?_
    refine sq_r (r_add rfl rfl (wrap_small (by omega) (by omega))) rfl ?_
    refine sq_r r_move rfl ?_
    refine sq_z ?_
    exact ⟨i + 1, ⟨_, _, ov_self ⟨rfl, rfl, rfl, rfl, rfl, trivial⟩, by omega, hrb, (hs.mask [true, true, true, false]).cast (by simp [zipMask])⟩, by omega⟩
  obtain ⟨ra, rcap, hrows⟩ := rb_len hrb
  refine W_exit ?_ -- 6
  refine W_seq ?_
  -- region 32 DRAWS
  refine W_drawM hs Try.mixed [true, true, true] [0, 1, 0, 4, 12, 28, 60, 127, 255] [1] [0, 2, 3, 4, 5, 6, 1, 7, 8] (by decide +kernel) ?_
  intro w hs; have hR := hs.mask [true, true, true]
  refine dq_r hR rfl rfl rfl (fun _ w _ _ hR => r_move) ?_
  refine dq_r hR rfl rfl rfl (fun _ w _ _ hR => r_move) ?_
  refine dq_r hR rfl rfl rfl (fun _ w _ _ hR => r_nilCheck rfl) ?_
  refine dq_r hR rfl rfl rfl (fun _ w _ _ hR => r_field rfl fa43_0) ?_
  refine dq_r hR rfl rfl rfl (fun _ w _ _ hR => r_load1 rfl ty40 (hrows (hR.at (i := 1) rfl))) ?_
  refine dq_r hR rfl rfl rfl (fun _ w _ _ hR => r_lenS Try.underlying40 rfl) ?_
  refine dq_e hR rfl rfl rfl (o_call (i := 0) cb18 rfl rfl (f18_calls bb mc mb s) hs rfl trivial ?_)
  rintro v c' w ⟨rfl, rfl⟩ hs
  have hR := hs.mask [true, true, true]
  refine dq_r hR rfl rfl rfl (fun _ w _ _ hR => r_cmp (r := true) rfl rfl (by rw [hB.lens]; simp [cmpB])) ?_
  refine dq_r hR rfl rfl rfl (fun _ w _ _ hR => r_assign) ?_
  refine dq_z hR ?_
  refine W_ret ?_
  exact ret1 (v := .bool true) rfl (by decide) rfl (fin (c' := []) hs ⟨rfl, rfl⟩ (by simp))

end Go.Proofs.Ytcdlbgmmogccaaa
