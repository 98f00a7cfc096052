/-
  Layer 17: the document's answer for links that are alike: same, SameLinks. Conditions: there are few links and registers.
-/
import Derived.Test.YtfojeengapebmaaAwake
namespace Go.Proofs.Ytfojeengapebmaa
open Go.Eng

theorem lk_ext {x y : Lk} (h0 : x.up = y.up) (h1 : x.fn = y.fn) (h2 : x.pc = y.pc) (h3 : x.into = y.into) (h4 : x.regs = y.regs) : x = y := by
  cases x; cases y; simp_all
set_option maxRecDepth 20000 in
set_option maxHeartbeats 2000000 in
theorem f23_calls (x y : Lk) (u v : Value) (B : Nat → Prop) (hn : x.regs.length ≤ 1000000) : Ctr Try.prog 23 #[.agg (lkC x u).toArray, .agg (lkC y v).toArray] [] (fun w => RdS B u x.regs w ∧ RdS B v y.regs w)
    (fun r c => (∃ b, r = .bool b ∧ (b = true ↔ x = y)) ∧ c = []) := by
  intro w0 hp hro
  have hs : St w0 (ks []) [] w0 := St.start w0
  obtain ⟨⟨ua, ucap, rfl, hu⟩, ⟨va, vcap, rfl, hv⟩⟩ := hro
  refine calls_W (n := 59) Try.func23 rfl Try.ntmps23 (by simp) ?_
  refine W_seq ?_
  -- region 0
  refine W_region (by decide +kernel) ?_
  refine sq_e rfl (o_box (cs := lkC x (.slice ua x.regs.length ucap)) hs rfl ?_); intro b2 w hs
  refine sq_e rfl (o_box (cs := lkC y (.slice va y.regs.length vcap)) hs rfl ?_); intro b3 w hs
  refine sq_r r_assign rfl ?_
  refine sq_z ?_
  have hs : St w0 (ks []) [[(b2, cb (lkC x (.slice ua x.regs.length ucap)) 39)], [(b3, cb (lkC y (.slice va y.regs.length vcap)) 39)]] w := hs
  refine W_seq ?_
  refine W_seq ?_
  -- region 1
  refine W_region (by decide +kernel) ?_
  by_cases h0 : x.up = y.up
  rotate_left
  · refine sq_r (r_field rfl fa39_0) rfl ?_
    refine sq_r (r_load1 rfl ty3 (At.one (hs.own (i := 0) rfl) rfl)) rfl ?_
    refine sq_r (r_field rfl fa39_0) rfl ?_
    refine sq_r (r_load1 rfl ty3 (At.one (hs.own (i := 1) rfl) rfl)) rfl ?_
    refine sq_r (r_cmp (r := true) rfl rfl (by simp [cmpB, h0])) rfl ?_
    refine sq_r r_move rfl ?_
    refine sq_n rfl ?_
    refine sq_n rfl ?_
    refine sq_n rfl ?_
    refine sq_n rfl ?_
    refine sq_n rfl ?_
    refine sq_r (r_pick (b := true) rfl) rfl ?_
    refine sq_r r_move rfl ?_
    refine sq_n rfl ?_
    refine sq_n rfl ?_
    refine sq_n rfl ?_
    refine sq_n rfl ?_
    refine sq_n rfl ?_
    refine sq_r (r_pick (b := true) rfl) rfl ?_
    refine sq_r r_move rfl ?_
    refine sq_n rfl ?_
    refine sq_n rfl ?_
    refine sq_n rfl ?_
    refine sq_n rfl ?_
    refine sq_n rfl ?_
    refine sq_r (r_pick (b := true) rfl) rfl ?_
    refine sq_r r_move rfl ?_
    refine sq_n rfl ?_
    refine sq_n rfl ?_
    refine sq_n rfl ?_
    refine sq_n rfl ?_
    refine sq_n rfl ?_
    refine sq_n rfl ?_
    refine sq_n rfl ?_
    refine sq_r (r_pick (b := true) rfl) rfl ?_
    refine sq_z ?_
    refine W_cond rfl rfl (fun hd => ?_) (fun hd => ?_)
    · refine W_seq ?_
      -- region 2
      refine W_region (by decide +kernel) ?_
      refine sq_r r_assign rfl ?_
      refine sq_z ?_
      refine W_ret ?_
      repeat with_reducible first | refine thenQ_ret ?_ | refine blockQ_ret ?_
      exact ret1 (v := .bool false) rfl (by decide) rfl (fin (c' := []) hs ⟨⟨false, rfl, by simp; intro e; exact h0 (by rw [e])⟩, rfl⟩ (by simp))
    · cases hd
  refine sq_r (r_field rfl fa39_0) rfl ?_
  refine sq_r (r_load1 rfl ty3 (At.one (hs.own (i := 0) rfl) rfl)) rfl ?_
  refine sq_r (r_field rfl fa39_0) rfl ?_
  refine sq_r (r_load1 rfl ty3 (At.one (hs.own (i := 1) rfl) rfl)) rfl ?_
  refine sq_r (r_cmp (r := false) rfl rfl (by simp [cmpB, h0])) rfl ?_
  refine sq_r r_move rfl ?_
  by_cases h1 : x.fn = y.fn
  rotate_left
  · refine sq_r (r_field rfl fa39_1) rfl ?_
    refine sq_r (r_load1 rfl ty3 (At.one (hs.own (i := 0) rfl) rfl)) rfl ?_
    refine sq_r (r_field rfl fa39_1) rfl ?_
    refine sq_r (r_load1 rfl ty3 (At.one (hs.own (i := 1) rfl) rfl)) rfl ?_
    refine sq_r (r_cmp (r := true) rfl rfl (by simp [cmpB, h1])) rfl ?_
    refine sq_r (r_pick (b := false) rfl) rfl ?_
    refine sq_r r_move rfl ?_
    refine sq_n rfl ?_
    refine sq_n rfl ?_
    refine sq_n rfl ?_
    refine sq_n rfl ?_
    refine sq_n rfl ?_
    refine sq_r (r_pick (b := true) rfl) rfl ?_
    refine sq_r r_move rfl ?_
    refine sq_n rfl ?_
    refine sq_n rfl ?_
    refine sq_n rfl ?_
    refine sq_n rfl ?_
    refine sq_n rfl ?_
    refine sq_r (r_pick (b := true) rfl) rfl ?_
    refine sq_r r_move rfl ?_
    refine sq_n rfl ?_
    refine sq_n rfl ?_
    refine sq_n rfl ?_
    refine sq_n rfl ?_
    refine sq_n rfl ?_
    refine sq_n rfl ?_
    refine sq_n rfl ?_
    refine sq_r (r_pick (b := true) rfl) rfl ?_
    refine sq_z ?_
    refine W_cond rfl rfl (fun hd => ?_) (fun hd => ?_)
    · refine W_seq ?_
      -- region 2
      refine W_region (by decide +kernel) ?_
      refine sq_r r_assign rfl ?_
      refine sq_z ?_
      refine W_ret ?_
      repeat with_reducible first | refine thenQ_ret ?_ | refine blockQ_ret ?_
      exact ret1 (v := .bool false) rfl (by decide) rfl (fin (c' := []) hs ⟨⟨false, rfl, by simp; intro e; exact h1 (by rw [e])⟩, rfl⟩ (by simp))
    · cases hd
  refine sq_r (r_field rfl fa39_1) rfl ?_
  refine sq_r (r_load1 rfl ty3 (At.one (hs.own (i := 0) rfl) rfl)) rfl ?_
  refine sq_r (r_field rfl fa39_1) rfl ?_
  refine sq_r (r_load1 rfl ty3 (At.one (hs.own (i := 1) rfl) rfl)) rfl ?_
  refine sq_r (r_cmp (r := false) rfl rfl (by simp [cmpB, h1])) rfl ?_
  refine sq_r (r_pick (b := false) rfl) rfl ?_
  refine sq_r r_move rfl ?_
  by_cases h2 : x.pc = y.pc
  rotate_left
  · refine sq_r (r_field rfl fa39_2) rfl ?_
    refine sq_r (r_load1 rfl ty3 (At.one (hs.own (i := 0) rfl) rfl)) rfl ?_
    refine sq_r (r_field rfl fa39_2) rfl ?_
    refine sq_r (r_load1 rfl ty3 (At.one (hs.own (i := 1) rfl) rfl)) rfl ?_
    refine sq_r (r_cmp (r := true) rfl rfl (by simp [cmpB, h2])) rfl ?_
    refine sq_r (r_pick (b := false) rfl) rfl ?_
    refine sq_r r_move rfl ?_
    refine sq_n rfl ?_
    refine sq_n rfl ?_
    refine sq_n rfl ?_
    refine sq_n rfl ?_
    refine sq_n rfl ?_
    refine sq_r (r_pick (b := true) rfl) rfl ?_
    refine sq_r r_move rfl ?_
    refine sq_n rfl ?_
    refine sq_n rfl ?_
    refine sq_n rfl ?_
    refine sq_n rfl ?_
    refine sq_n rfl ?_
    refine sq_n rfl ?_
    refine sq_n rfl ?_
    refine sq_r (r_pick (b := true) rfl) rfl ?_
    refine sq_z ?_
    refine W_cond rfl rfl (fun hd => ?_) (fun hd => ?_)
    · refine W_seq ?_
      -- region 2
      refine W_region (by decide +kernel) ?_
      refine sq_r r_assign rfl ?_
      refine sq_z ?_
      refine W_ret ?_
      repeat with_reducible first | refine thenQ_ret ?_ | refine blockQ_ret ?_
      exact ret1 (v := .bool false) rfl (by decide) rfl (fin (c' := []) hs ⟨⟨false, rfl, by simp; intro e; exact h2 (by rw [e])⟩, rfl⟩ (by simp))
    · cases hd
  refine sq_r (r_field rfl fa39_2) rfl ?_
  refine sq_r (r_load1 rfl ty3 (At.one (hs.own (i := 0) rfl) rfl)) rfl ?_
  refine sq_r (r_field rfl fa39_2) rfl ?_
  refine sq_r (r_load1 rfl ty3 (At.one (hs.own (i := 1) rfl) rfl)) rfl ?_
  refine sq_r (r_cmp (r := false) rfl rfl (by simp [cmpB, h2])) rfl ?_
  refine sq_r (r_pick (b := false) rfl) rfl ?_
  refine sq_r r_move rfl ?_
  by_cases h3 : x.into = y.into
  rotate_left
  · refine sq_r (r_field rfl fa39_3) rfl ?_
    refine sq_r (r_load1 rfl ty3 (At.one (hs.own (i := 0) rfl) rfl)) rfl ?_
    refine sq_r (r_field rfl fa39_3) rfl ?_
    refine sq_r (r_load1 rfl ty3 (At.one (hs.own (i := 1) rfl) rfl)) rfl ?_
    refine sq_r (r_cmp (r := true) rfl rfl (by simp [cmpB, h3])) rfl ?_
    refine sq_r (r_pick (b := false) rfl) rfl ?_
    refine sq_r r_move rfl ?_
    refine sq_n rfl ?_
    refine sq_n rfl ?_
    refine sq_n rfl ?_
    refine sq_n rfl ?_
    refine sq_n rfl ?_
    refine sq_n rfl ?_
    refine sq_n rfl ?_
    refine sq_r (r_pick (b := true) rfl) rfl ?_
    refine sq_z ?_
    refine W_cond rfl rfl (fun hd => ?_) (fun hd => ?_)
    · refine W_seq ?_
      -- region 2
      refine W_region (by decide +kernel) ?_
      refine sq_r r_assign rfl ?_
      refine sq_z ?_
      refine W_ret ?_
      repeat with_reducible first | refine thenQ_ret ?_ | refine blockQ_ret ?_
      exact ret1 (v := .bool false) rfl (by decide) rfl (fin (c' := []) hs ⟨⟨false, rfl, by simp; intro e; exact h3 (by rw [e])⟩, rfl⟩ (by simp))
    · cases hd
  refine sq_r (r_field rfl fa39_3) rfl ?_
  refine sq_r (r_load1 rfl ty3 (At.one (hs.own (i := 0) rfl) rfl)) rfl ?_
  refine sq_r (r_field rfl fa39_3) rfl ?_
  refine sq_r (r_load1 rfl ty3 (At.one (hs.own (i := 1) rfl) rfl)) rfl ?_
  refine sq_r (r_cmp (r := false) rfl rfl (by simp [cmpB, h3])) rfl ?_
  refine sq_r (r_pick (b := false) rfl) rfl ?_
  refine sq_r r_move rfl ?_
  by_cases h4 : x.regs.length = y.regs.length
  rotate_left
  · refine sq_r (r_field rfl fa39_4) rfl ?_
    refine sq_r (r_load1 rfl ty37 (At.one (hs.own (i := 0) rfl) rfl)) rfl ?_
    refine sq_r (r_lenS Try.underlying37 rfl) rfl ?_
    refine sq_r (r_field rfl fa39_4) rfl ?_
    refine sq_r (r_load1 rfl ty37 (At.one (hs.own (i := 1) rfl) rfl)) rfl ?_
    refine sq_r (r_lenS Try.underlying37 rfl) rfl ?_
    refine sq_r (r_cmp (r := true) rfl rfl (by simp [cmpB]; omega)) rfl ?_
    refine sq_r (r_pick (b := false) rfl) rfl ?_
    refine sq_z ?_
    refine W_cond rfl rfl (fun hd => ?_) (fun hd => ?_)
    · refine W_seq ?_
      -- region 2
      refine W_region (by decide +kernel) ?_
      refine sq_r r_assign rfl ?_
      refine sq_z ?_
      refine W_ret ?_
      repeat with_reducible first | refine thenQ_ret ?_ | refine blockQ_ret ?_
      exact ret1 (v := .bool false) rfl (by decide) rfl (fin (c' := []) hs ⟨⟨false, rfl, by simp; intro e; exact h4 (by rw [e])⟩, rfl⟩ (by simp))
    · cases hd
  refine sq_r (r_field rfl fa39_4) rfl ?_
  refine sq_r (r_load1 rfl ty37 (At.one (hs.own (i := 0) rfl) rfl)) rfl ?_
  refine sq_r (r_lenS Try.underlying37 rfl) rfl ?_
  refine sq_r (r_field rfl fa39_4) rfl ?_
  refine sq_r (r_load1 rfl ty37 (At.one (hs.own (i := 1) rfl) rfl)) rfl ?_
  refine sq_r (r_lenS Try.underlying37 rfl) rfl ?_
  refine sq_r (r_cmp (r := false) rfl rfl (by simp [cmpB, h4])) rfl ?_
  refine sq_r (r_pick (b := false) rfl) rfl ?_
  refine sq_z ?_
  refine W_cond rfl rfl (fun hd => ?_) (fun hd => ?_)
  · cases hd
  refine W_skip ?_
  refine W_seq ?_
  refine W_seq ?_
  -- region 3
  refine W_region (by decide +kernel) ?_
  refine sq_r (r_field rfl fa39_4) rfl ?_
  refine sq_r (r_load1 rfl ty37 (At.one (hs.own (i := 0) rfl) rfl)) rfl ?_
  refine sq_r (r_lenS Try.underlying37 rfl) rfl ?_
  refine sq_r r_move rfl ?_
  refine sq_z ?_
  refine W_block ?_ -- 0
  -- LOOP
  refine W_loop (fun (i : Nat) f w => ∃ g, f = ov [(2, .pointer (some ⟨b2, 0, none⟩)), (3, .pointer (some ⟨b3, 0, none⟩)), (43, .int .i64 x.regs.length), (44, .int .i64 i)] g ∧ i ≤ x.regs.length ∧ (∀ j, j < i → x.regs[j]? = y.regs[j]?) ∧
    St w0 (ks []) [[(b2, cb (lkC x (.slice ua x.regs.length ucap)) 39)], [(b3, cb (lkC y (.slice va y.regs.length vcap)) 39)]] w) (fun i => x.regs.length - i) 0 ?_ ?_
  · exact ⟨_, ov_self ⟨rfl, rfl, rfl, rfl, trivial⟩, Nat.zero_le _, fun j hj => absurd hj (Nat.not_lt_zero j), hs⟩
  clear hs
  rintro i f w ⟨g, rfl, hi, hall, hs⟩
  refine W_seq ?_
  -- region 4
  refine W_region (by decide +kernel) ?_
  refine sq_r (r_cmp rfl rfl rfl) rfl ?_
  refine sq_z ?_
  refine W_seq ?_
  refine W_cond rfl rfl (fun hd => ?_) (fun hd => ?_)
  · have hlt : i < x.regs.length := by have := of_decide_eq_true hd; omega
    obtain ⟨p, hp⟩ : ∃ p, x.regs[i]? = some p := ⟨_, List.getElem?_eq_getElem hlt⟩
    obtain ⟨q, hq⟩ : ∃ q, y.regs[i]? = some q := ⟨_, List.getElem?_eq_getElem (by omega)⟩
    obtain ⟨bu, ou, rfl, _, hatu⟩ := hu i p hp
    obtain ⟨bv, ov', rfl, _, hatv⟩ := hv i q hq
    have hau : ∀ {cs : List Ck} {w : World}, St w0 (ks []) cs w → At w bu (ou + i * 4) (scF p) := fun hs => at_keep hs (by simp [ks]) (by simp [scF]) hatu
    have hav : ∀ {cs : List Ck} {w : World}, St w0 (ks []) cs w → At w bv (ov' + i * 4) (scF q) := fun hs => at_keep hs (by simp [ks]) (by simp [scF]) hatv
    refine W_skip ?_
    refine W_seq ?_
    refine W_block ?_ -- 1
    refine W_seq ?_
    -- region 5
    refine W_region (by decide +kernel) ?_
    refine sq_r r_move rfl ?_
    refine sq_r r_assign rfl ?_
    refine sq_z ?_
    refine W_seq ?_
    -- region 6 DRAWS
    refine W_drawM hs Try.mixed [true, true] [0, 1, 0, 7, 15, 0, 32, 0, 224, 480, 1023] [] [0, 1, 2, 3, 4, 5, 6, 7, 8, 9, 10] (by decide +kernel) ?_
    intro w hs; have hR := hs.mask [true, true]
    refine dq_r hR rfl rfl rfl (fun _ w _ _ hR => r_field rfl fa39_4) ?_
    refine dq_r hR rfl rfl rfl (fun _ w _ _ hR => r_load1 rfl ty37 (At.one (hR.own (i := 0) rfl) rfl)) ?_
    refine dq_r hR rfl rfl rfl (fun _ w _ _ hR => r_move) ?_
    refine dq_r hR rfl rfl rfl (fun _ w _ _ hR => r_index rfl rfl sl37 (by omega) (by omega)) ?_
    refine dq_r hR rfl rfl rfl (fun _ w _ _ hR => r_loadN rfl ty69 (scF_len p) (hau hR)) ?_
    refine dq_r hR rfl rfl rfl (fun _ w _ _ hR => r_field rfl fa39_4) ?_
    refine dq_r hR rfl rfl rfl (fun _ w _ _ hR => r_load1 rfl ty37 (At.one (hR.own (i := 1) rfl) rfl)) ?_
    refine dq_r hR rfl rfl rfl (fun _ w _ _ hR => r_move) ?_
    refine dq_r hR rfl rfl rfl (fun _ w _ _ hR => r_index rfl rfl sl37 (by omega) (by omega)) ?_
    refine dq_r hR rfl rfl rfl (fun _ w _ _ hR => r_loadN rfl ty69 (scF_len q) (hav hR)) ?_
    refine dq_r hR rfl rfl rfl (fun _ w _ _ hR => r_neS (a := p) (b := q) Try.underlying69 flat69 (by decide) (by kernel_rfl) rfl rfl) ?_
    refine dq_z hR ?_
    refine W_cond rfl rfl (fun he => ?_) (fun he => ?_)
    · have hpq : p ≠ q := by simpa using he
      refine W_seq ?_
      -- region 7
      refine W_region (by decide +kernel) ?_
      refine sq_r r_assign rfl ?_
      refine sq_z ?_
      refine W_ret ?_
      repeat with_reducible first | refine thenQ_ret ?_ | refine blockQ_ret ?_
      refine ret1 (v := .bool false) rfl (by decide) rfl (fin (c' := []) hs ⟨⟨false, rfl, by simp; intro e; rw [e, hq] at hp; cases hp; exact hpq rfl⟩, rfl⟩ (by simp))
    · have hpq : p = q := by simpa using he
      subst hpq
      refine W_skip ?_
      -- region 8
      refine W_region (by decide +kernel) ?_
      refine sq_r (r_add rfl rfl (wrap_small (by omega) (by omega))) rfl ?_
      refine sq_r r_move rfl ?_
      refine sq_z ?_
      refine ⟨i + 1, ⟨_, ov_self ⟨rfl, rfl, rfl, rfl, trivial⟩, by omega, fun j hj => ?_, hs⟩, by omega⟩
      by_cases hji : j < i
      · exact hall j hji
      · obtain rfl : j = i := by omega
        rw [hp, hq]
  · have hin : i = x.regs.length := by have := of_decide_eq_false hd; omega
    subst hin
    have hre : x.regs = y.regs := by
      apply List.ext_getElem?
      intro j
      by_cases hj : j < x.regs.length
      · exact hall j hj
      · rw [List.getElem?_eq_none (by omega), List.getElem?_eq_none (by omega)]
    refine W_exit ?_ -- 0
    refine W_seq ?_
    -- region 9
    refine W_region (by decide +kernel) ?_
    refine sq_r r_assign rfl ?_
    refine sq_z ?_
    refine W_ret ?_
    exact ret1 (v := .bool true) rfl (by decide) rfl (fin (c' := []) hs ⟨⟨true, rfl, by simp; exact lk_ext h0 h1 h2 h3 hre⟩, rfl⟩ (by simp))

end Go.Proofs.Ytfojeengapebmaa
