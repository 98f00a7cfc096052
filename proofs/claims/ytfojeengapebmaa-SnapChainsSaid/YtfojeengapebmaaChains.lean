/-
  Layer 17: the law SnapChains: the links from the outermost one to any one, of any links. No condition.
-/
import Derived.Test.YtfojeengapebmaaOpen
namespace Go.Proofs.Ytfojeengapebmaa
open Go.Eng

theorem chn_len {ups : List Int} : ∀ (k : Nat) (n : Int) (l : List Int), chn ups k n = some l → (l.length : Int) ≤ n + 1 ∨ l = []
  | 0, n, l, h => by
    unfold chn at h
    split at h
    · cases h; exact .inr rfl
    · cases h
  | k + 1, n, l, h => by
    unfold chn at h
    split at h
    · cases h; exact .inr rfl
    · split at h
      · cases h
      · rename_i h1 h2
        obtain ⟨l', hl, rfl⟩ := Option.map_eq_some_iff.1 h
        rcases chn_len k _ l' hl with h3 | rfl
        · left; simp; omega
        · left; simp; omega
theorem chO_len (ls : List Lk) (n : Int) (hl : ls.length ≤ 1000000) : (chO ls n).length ≤ 1000000 := by
  unfold chO
  rw [List.length_reverse]
  cases h : chn (ls.map (·.up)) (n + 1).toNat n with
  | none => simp
  | some l =>
    rcases chn_len _ _ _ h with h1 | rfl
    · by_cases hn : n < ls.length
      · simp only [Option.getD_some]; omega
      · by_cases hm : n = -1
        · rw [hm, chn_end] at h; cases h; simp
        · rw [chn_bad hm (.inr (.inl (by simp; omega)))] at h; cases h
    · simp
set_option maxRecDepth 20000 in
theorem f5_law (v : Value) (ls : List Lk) (n : Int) : Ctr Try.prog 5 #[v, .int .i64 n] [] (RdL (fun _ => True) v ls) (fun v c => v = .bool true ∧ c = []) := by
  intro w0 hp hrd
  have hs : St w0 (ks []) [] w0 := St.start w0
  obtain ⟨a, cap, hv, _⟩ := id hrd
  subst hv
  refine calls_W (n := 39) Try.func5 rfl Try.ntmps5 (by simp) ?_
  refine W_seq ?_
  -- region 0
  refine W_region (by decide +kernel) ?_
  refine sq_r r_assign rfl ?_
  refine sq_z ?_
  refine W_seq ?_
  refine W_seq ?_
  -- region 1
  refine W_region (by decide +kernel) ?_
  refine sq_e rfl (o_callN cb7 rfl rfl (Post := fun v _ => v = .bool true) f7_calls hs trivial ?_)
  rintro v w rfl hs
  refine sq_r (r_not rfl) rfl ?_
  refine sq_z ?_
  refine W_cond rfl rfl (fun hc => ?_) (fun hc => ?_)
  · cases hc
  refine W_skip ?_
  refine W_seq ?_
  refine W_seq ?_
  -- region 3
  refine W_region (by decide +kernel) ?_
  refine sq_r r_move rfl ?_
  refine sq_r (r_lenS Try.underlying28 rfl) rfl ?_
  refine sq_r (r_cmp rfl rfl rfl) rfl ?_
  refine sq_z ?_
  refine W_cond rfl rfl (fun hc => ?_) (fun hc => ?_)
  · refine W_seq ?_
    -- region 4
    refine W_region (by decide +kernel) ?_
    refine sq_r r_assign rfl ?_
    refine sq_z ?_
    refine W_ret ?_
    repeat with_reducible first | refine thenQ_ret ?_ | refine blockQ_ret ?_
    exact ret1 (v := .bool true) rfl (by decide) rfl (fin (c' := []) hs ⟨rfl, rfl⟩ (by simp))
  have hn : ls.length ≤ 300 := by have := of_decide_eq_false hc; omega
  refine W_skip ?_
  refine W_seq ?_
  -- region 5
  refine W_region (by decide +kernel) ?_
  refine sq_r r_move rfl ?_
  refine sq_r r_move rfl ?_
  refine sq_e rfl (o_call0 cb14 rfl rfl (f14_calls _ ls n (by omega)) hs (hrd.keep hs (by simp [ks])) ?_)
  intro u1 c1 w hu1 hs
  refine sq_r r_move rfl ?_
  refine sq_r r_move rfl ?_
  refine sq_e rfl (o_call0 cb15 rfl rfl (f15_calls _ ls n (by omega)) hs (hrd.keep hs (by simp [ks])) ?_)
  intro u2 c2 w hu2 hs
  refine sq_r r_assign rfl ?_
  refine sq_r r_assign rfl ?_
  refine sq_z ?_
  have hs : St w0 (ks []) [c1, c2] w := hs
  obtain ⟨a1, cap1, rfl⟩ := hu1.len
  obtain ⟨a2, cap2, rfl⟩ := hu2.len
  have hlen := chO_len ls n (by omega)
  refine W_seq ?_
  refine W_seq ?_
  -- region 6
  refine W_region (by decide +kernel) ?_
  refine sq_r r_move rfl ?_
  refine sq_r (r_lenS Try.underlying35 rfl) rfl ?_
  refine sq_r r_move rfl ?_
  refine sq_r (r_lenS Try.underlying35 rfl) rfl ?_
  refine sq_r (r_cmp (r := false) rfl rfl (by simp [cmpB])) rfl ?_
  refine sq_z ?_
  refine W_cond rfl rfl (fun hc => ?_) (fun hc => ?_)
  · cases hc
  refine W_skip ?_
  refine W_seq ?_
  refine W_seq ?_
  -- region 8
  refine W_region (by decide +kernel) ?_
  refine sq_r r_move rfl ?_
  refine sq_r (r_lenS Try.underlying35 rfl) rfl ?_
  refine sq_r r_move rfl ?_
  refine sq_z ?_
  refine W_block ?_ -- 0
  -- LOOP
  refine W_loop (fun (i : Nat) f w => ∃ g, f = ov [(5, .slice a1 (chO ls n).length cap1), (6, .slice a2 (chO ls n).length cap2), (25, .int .i64 (chO ls n).length), (26, .int .i64 i)] g ∧ i ≤ (chO ls n).length ∧ St w0 (ks []) [c1, c2] w) (fun i => (chO ls n).length - i) 0 ?_ ?_
  · exact ⟨_, ov_self ⟨rfl, rfl, rfl, rfl, trivial⟩, Nat.zero_le _, hs⟩
  rintro i f w ⟨g, rfl, hi, hs⟩
  refine W_seq ?_
  -- region 9
  refine W_region (by decide +kernel) ?_
  refine sq_r (r_cmp rfl rfl rfl) rfl ?_
  refine sq_z ?_
  refine W_seq ?_
  refine W_cond rfl rfl (fun hd => ?_) (fun hd => ?_)
  · have hlt : i < (chO ls n).length := by have := of_decide_eq_true hd; omega
    obtain ⟨x, hx⟩ : ∃ x, (chO ls n)[i]? = some x := ⟨_, List.getElem?_eq_getElem hlt⟩
    obtain ⟨b1, k1, e1, _⟩ := hu1.int hx (hs.at (i := 0) rfl)
    obtain ⟨b2, k2, e2, _⟩ := hu2.int hx (hs.at (i := 1) rfl)
    simp only [Value.slice.injEq, true_and] at e1 e2
    obtain ⟨rfl, rfl⟩ := e1
    obtain ⟨rfl, rfl⟩ := e2
    have hc1 : ∀ {w : World}, Hp c1 w → w.cell? ⟨b1, 0 + ((i : Int).toNat) * 1, none⟩ = some (.int .i64 x) := fun hp => by
      obtain ⟨b, k, e, h⟩ := hu1.int hx hp
      simp only [Value.slice.injEq, true_and, Option.some.injEq, Addr.mk.injEq] at e
      obtain ⟨⟨rfl, _⟩, _⟩ := e
      exact h
    have hc2 : ∀ {w : World}, Hp c2 w → w.cell? ⟨b2, 0 + ((i : Int).toNat) * 1, none⟩ = some (.int .i64 x) := fun hp => by
      obtain ⟨b, k, e, h⟩ := hu2.int hx hp
      simp only [Value.slice.injEq, true_and, Option.some.injEq, Addr.mk.injEq] at e
      obtain ⟨⟨rfl, _⟩, _⟩ := e
      exact h
    refine W_skip ?_
    refine W_seq ?_
    refine W_block ?_ -- 1
    refine W_seq ?_
    -- region 10
    refine W_region (by decide +kernel) ?_
    refine sq_r r_move rfl ?_
    refine sq_r r_assign rfl ?_
    refine sq_z ?_
    refine W_seq ?_
    -- region 11 DRAWS
    refine W_drawM hs Try.mixed [true, true] [0, 0, 3, 7, 0, 0, 48, 112, 255] [] [0, 1, 2, 3, 4, 5, 6, 7, 8] (by decide +kernel) ?_
    intro w hs; have hR := hs.mask [true, true]
    refine dq_r hR rfl rfl rfl (fun _ w _ _ hR => r_move) ?_
    refine dq_r hR rfl rfl rfl (fun _ w _ _ hR => r_move) ?_
    refine dq_r hR rfl rfl rfl (fun _ w _ _ hR => r_index rfl rfl sl35 (by omega) (by omega)) ?_
    refine dq_r hR rfl rfl rfl (fun _ w _ _ hR => r_load1 rfl ty3 (hc1 (hR.at (i := 0) rfl))) ?_
    refine dq_r hR rfl rfl rfl (fun _ w _ _ hR => r_move) ?_
    refine dq_r hR rfl rfl rfl (fun _ w _ _ hR => r_move) ?_
    refine dq_r hR rfl rfl rfl (fun _ w _ _ hR => r_index rfl rfl sl35 (by omega) (by omega)) ?_
    refine dq_r hR rfl rfl rfl (fun _ w _ _ hR => r_load1 rfl ty3 (hc2 (hR.at (i := 1) rfl))) ?_
    refine dq_r hR rfl rfl rfl (fun _ w _ _ hR => r_cmp (r := false) rfl rfl (by simp [cmpB])) ?_
    refine dq_z hR ?_
    refine W_cond rfl rfl (fun he => ?_) (fun he => ?_)
    · cases he
    refine W_skip ?_
    -- region 13
    refine W_region (by decide +kernel) ?_
    refine sq_r (r_add rfl rfl (wrap_small (by omega) (by omega))) rfl ?_
    refine sq_r r_move rfl ?_
    refine sq_z ?_
    exact ⟨i + 1, ⟨_, ov_self ⟨rfl, rfl, rfl, rfl, trivial⟩, by omega, hs⟩, by omega⟩
  · refine W_exit ?_ -- 0
    refine W_seq ?_
    -- region 14
    refine W_region (by decide +kernel) ?_
    refine sq_r r_assign rfl ?_
    refine sq_z ?_
    refine W_ret ?_
    exact ret1 (v := .bool true) rfl (by decide) rfl (fin (c' := []) hs ⟨rfl, rfl⟩ (by simp))

end Go.Proofs.Ytfojeengapebmaa
