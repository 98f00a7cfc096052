/-
  Layer 17: the law SnapBooks: whatever chains are added, in any order, the links are those that the document says, each once. Condition: what the chains hold can be counted by an int.
-/
import Derived.Test.YtfojeengapebmaaMany
namespace Go.Proofs.Ytfojeengapebmaa
open Go.Eng

theorem opF_of {P : Program} {w : World} {f : Fm} {o : Oper} {v : Value} {K : Fm → World → Prop} {Qp : List PanicEntry → World → Prop} (h : (execOp (ev f) o).run P w = .ok (.value v) w) (k : K (put f o.dst v) w) : opF P o f w K Qp := by
  unfold opF
  rw [h]
  exact k
theorem Ok7.mono {s : B7} {m k m' k' : Nat} (h : Ok7 s m k) (hm : m ≤ m') (hk : k ≤ k') : Ok7 s m' k' := ⟨h.nm, h.rg, by have := h.links; omega, by have := h.regs; omega⟩
theorem rgn_mem {l : List Lk} {y : Lk} (h : y ∈ l) : y.regs.length ≤ rgn l := by
  induction l with
  | nil => cases h
  | cons x l ih =>
    simp only [rgn, List.map_cons, List.sum_cons]
    rcases List.mem_cons.1 h with rfl | h
    · omega
    · have := ih h; simp only [rgn] at this; omega
theorem RAs.rg {n : Nat} : ∀ {l L L' : List Lk} {up z : Int}, RAs L up l L' z → (∀ y ∈ L, y.regs.length ≤ n) → (∀ y ∈ l, y.regs.length ≤ n) → ∀ y ∈ L', y.regs.length ≤ n
  | [], _, _, _, _, ⟨rfl, _⟩, hL, _ => hL
  | x :: _, _, _, _, _, ⟨_, _, h1, h2⟩, hL, hl => RAs.rg h2 (h1.rg hL (hl x (by simp))) (fun y hy => hl y (by simp [hy]))
theorem rB_rd {rb : Nat} {L : List Lk} {c : Ck} (h : rB rb L c) : ∃ v, ∀ w, Hp c w → w.cell? ⟨rb, 0 + 0, none⟩ = some v ∧ RdL (fun _ => True) v L w := by
  obtain ⟨v, ps, lc, dc, rfl, hlc, hrg, rfl⟩ := h
  exact ⟨v, fun w hp => ⟨At.one (hp.has (rb, cb [v] 30) (by simp)) rfl, (mk_rdl hlc hrg (Hp.right hp)).mono fun _ _ => trivial⟩⟩
theorem st_out0 {w0 w : World} {cs : List Ck} (hs : St w0 (ks []) cs w) {b : Nat} (h : b < w0.heap.size) : b ∉ ks cs.flatten := fun hb => by
  rcases hs.fresh b hb with h1 | h1
  · simp [ks] at h1
  · omega

set_option maxRecDepth 20000 in
set_option maxHeartbeats 2000000 in
theorem f3_law (v : Value) (css : List (List Lk)) (hbig : mny css ≤ 4000000000000000000) : Ctr Try.prog 3 #[v] [] (fun w => RdC (· < w.heap.size) v css w) (fun v c => v = .bool true ∧ c = []) := by
  intro w0 hp hrd0
  have hs : St w0 (ks []) [] w0 := St.start w0
  obtain ⟨a, cap, hv, hall⟩ := id hrd0
  subst hv
  refine calls_W (n := 41) Try.func3 rfl Try.ntmps3 (by simp) ?_
  refine W_seq ?_
  -- region 0
  refine W_region (by decide +kernel) ?_
  refine sq_r r_assign rfl ?_
  refine sq_z ?_
  refine W_seq ?_
  refine W_seq ?_
  -- region 1
  refine W_region (by decide +kernel) ?_
  refine sq_e rfl (o_callN cb7 rfl rfl (Post := fun v _ => v = .bool true) f7_calls hs trivial ?_)
  rintro v w rfl hs
  refine sq_r (r_not rfl) rfl ?_
  refine sq_z ?_
  refine W_cond rfl rfl (fun hc => ?_) (fun hc => ?_)
  · cases hc
  refine W_skip ?_
  refine W_seq ?_
  refine W_seq ?_
  -- region 3
  refine W_region (by decide +kernel) ?_
  refine sq_r r_move rfl ?_
  refine sq_e rfl (o_callN cb8 rfl rfl (Post := fun r _ => r = .int .i64 (mny css : Nat)) (f8_calls _ css (· < w0.heap.size) hbig) hs (hrd0.keep hs (by simp [ks])) ?_)
  rintro r w rfl hs
  refine sq_r (r_cmp rfl rfl rfl) rfl ?_
  refine sq_z ?_
  refine W_cond rfl rfl (fun hc => ?_) (fun hc => ?_)
  · refine W_seq ?_
    -- region 4
    refine W_region (by decide +kernel) ?_
    refine sq_r r_assign rfl ?_
    refine sq_z ?_
    refine W_ret ?_
    repeat with_reducible first | refine thenQ_ret ?_ | refine blockQ_ret ?_
    exact ret1 (v := .bool true) rfl (by decide) rfl (fin (c' := []) hs ⟨rfl, rfl⟩ (by simp))
  have hmn : mny css ≤ 600 := by have := of_decide_eq_false hc; omega
  have hlm := len_mny css
  refine W_skip ?_
  refine W_seq ?_
  -- region 5
  refine W_region (by decide +kernel) ?_
  refine sq_e rfl (o_call0 cb9 rfl rfl f9_calls hs trivial ?_)
  rintro v c w ⟨bb, c0, rfl, hcp, hb⟩ hs
  have hs : St w0 (ks []) [c0] w := hs.perm hcp
  refine sq_r (r_build (v := .agg #[.slice none 0 0]) (by kernel_rfl)) rfl ?_
  refine sq_e rfl (o_box (cs := [.slice none 0 0]) hs rfl ?_); intro rb w hs
  refine sq_r r_assign rfl ?_
  refine sq_r r_assign rfl ?_
  refine sq_z ?_
  have hs : St w0 (ks []) [c0, [(rb, cb [.slice none 0 0] 30)]] w := hs
  refine W_seq ?_
  refine W_seq ?_
  -- region 6
  refine W_region (by decide +kernel) ?_
  refine sq_r r_move rfl ?_
  refine sq_r (r_eqnil Try.underlying25 rfl rfl) rfl ?_
  refine sq_z ?_
  refine W_cond rfl rfl (fun hc => ?_) (fun hc => ?_)
  · cases hc
  refine W_skip ?_
  refine W_seq ?_
  refine W_seq ?_
  -- region 8
  refine W_region (by decide +kernel) ?_
  refine sq_r r_move rfl ?_
  refine sq_r (r_lenS Try.underlying22 rfl) rfl ?_
  refine sq_r r_move rfl ?_
  refine sq_z ?_
  refine W_block ?_ -- 0
  -- LOOP
  refine W_loop (fun (i : Nat) f w => ∃ g q L c1 c2, f = ov [(3, .pointer (some ⟨bb, 0, none⟩)), (4, .pointer (some ⟨rb, 0, none⟩)), (17, .slice a css.length cap), (18, .int .i64 css.length), (19, .int .i64 i)] g ∧ i ≤ css.length ∧ RelS q L ∧ Ok7 q (mny (css.take i)) (mny (css.take i)) ∧ (∀ y ∈ L, y.regs.length ≤ 600) ∧ BK bb q c1 ∧ rB rb L c2 ∧
    St w0 (ks []) [c1, c2] w) (fun i => css.length - i) 0 ?_ ?_
  · exact ⟨_, s0, [], c0, _, ov_self ⟨rfl, rfl, rfl, rfl, rfl, trivial⟩, Nat.zero_le _, RelS.new, ok0, by simp, hb, ⟨_, [], [], [], rfl, Sl.nil 39 5, fun p hp => by simp at hp, rfl⟩, hs⟩
  clear hs hb
  rintro i f w ⟨g, q, L, c1, c2, rfl, hi, hrel, hq, hLr, hb, hL, hs⟩
  refine W_seq ?_
  -- region 9
  refine W_region (by decide +kernel) ?_
  refine sq_r (r_cmp rfl rfl rfl) rfl ?_
  refine sq_z ?_
  refine W_seq ?_
  refine W_cond rfl rfl (fun hd => ?_) (fun hd => ?_)
  · have hlt : i < css.length := by have := of_decide_eq_true hd; omega
    obtain ⟨x, hx⟩ : ∃ x, css[i]? = some x := ⟨_, List.getElem?_eq_getElem hlt⟩
    obtain ⟨b, off, cv, rfl, hbb, hat0, hrd⟩ := hall i x hx
    have hat : At w b (off + i * 1) [cv] := at_keep hs (by simp [ks]) (by simp) hat0
    have hrt := mny_take hx
    have hrl := mny_le css (i + 1)
    have hq1 := Ok7.addF x q (-1) _ _ hq
    refine W_skip ?_
    refine W_seq ?_
    refine W_block ?_ -- 1
    refine W_seq ?_
    -- region 10
    refine W_region (by decide +kernel) ?_
    refine sq_r (r_index rfl rfl sl22 (by omega) (by omega)) rfl ?_
    refine sq_r (r_load1 rfl ty28 (hat 0 _ rfl)) rfl ?_
    refine sq_r r_assign rfl ?_
    refine sq_z ?_
    refine W_mid (M := fun f w => ∃ g L2 c1' c2', f = ov [(3, .pointer (some ⟨bb, 0, none⟩)), (4, .pointer (some ⟨rb, 0, none⟩)), (17, .slice (some ⟨b, off, none⟩) css.length cap), (18, .int .i64 css.length), (19, .int .i64 i), (39, .bool false)] g ∧
      RelS (addF q (-1) x).1 L2 ∧ (∀ y ∈ L2, y.regs.length ≤ 600) ∧ BK bb (addF q (-1) x).1 c1' ∧ rB rb L2 c2' ∧ St w0 (ks []) [c1', c2'] w) ?_ (fun f w hM => ?_)
    · -- region 11 DRAWS
      refine W_tree hs Try.mixed [false, false] [0, 0, 3, 0, 0, 31, 63, 127, 255, 511, 255, 1279, 3327, 7423, 16383, 32767, 65535] [2, 5, 9, 13, 14]
        (.rd 0 (.rd 1 (.rd 3 (.rd 4 (.alt 2 (.alt 5 (.rd 6 (.rd 7 (.rd 8 (.rd 10 (.rd 11 (.rd 12 (.alt 9 (.alt 13 (.alt 14 (.rd 15 (.rd 16 .fin)) .no) .no) (.alt 13 (.alt 9 (.alt 14 (.rd 15 (.rd 16 .fin)) .no) .no) .no)))))))) .no) .no))))) (by decide +kernel) ?_
      intro w hs; have hR := hs.mask [false, false]
      refine tq_r hR rfl rfl (fun w hR => r_move) ?_
      refine tq_r hR rfl rfl (fun w hR => r_move) ?_
      refine tq_r hR rfl rfl (fun w hR => r_move) ?_
      refine tq_r hR rfl rfl (fun w hR => r_move) ?_
      refine tq_e hR rfl rfl (o_call (i := 0) cb10 rfl rfl (f10_calls bb q c1 cv x (mny (css.take i)) (mny (css.take i)) hb hq (by omega) (by omega)) hs rfl ((hrd.keep hs (by simp [ks])).mono fun b hb' hbk => st_out0 hs hb' (ks_mem (i := 0) rfl hbk)) ?_)
      rintro r c1' w ⟨rfl, hb1⟩ hs
      have hR := hs.mask [false, false]
      refine tq_e hR rfl rfl (o_call (i := 1) cb11 rfl rfl (f11_calls rb L c2 cv x hL (by rw [← hrel.eq]; have := hq.links; omega) (fun y hy => by have := hLr y hy; omega) (fun y hy => by have := rgn_mem hy; omega)) hs rfl ((hrd.keep hs (by simp [ks])).mono fun b hb' hbk => st_out0 hs hb' (ks_mem (i := 1) rfl hbk)) ?_)
      rintro r c2' w ⟨L2, z2, rfl, hra, hL2'⟩ hs
      have hR := hs.mask [false, false]
      obtain ⟨he, hR1⟩ := hrel.adds hra
      have hLr1 := RAs.rg hra hLr (fun y hy => by have := rgn_mem hy; omega)
      obtain ⟨v2, hL2⟩ := rB_rd hL2'
      refine tq_r hR rfl rfl (fun w hR => r_cmp (r := false) rfl rfl (by rw [he]; simp [cmpB])) ?_
      refine tq_r hR rfl rfl (fun w hR => r_move) ?_
      refine tq_r hR rfl rfl (fun w hR => r_move) ?_
      refine tq_r hR rfl rfl (fun w hR => r_move) ?_
      refine tq_r hR rfl rfl (fun w hR => r_nilCheck rfl) ?_
      refine tq_r hR rfl rfl (fun w hR => r_field rfl fa30_0) ?_
      refine tq_or hR rfl rfl ?_ ?_
      · refine o_call (i := 0) cb13 rfl rfl (f13_calls bb (addF q (-1) x).1 c1' hb1 (by have := hq1.links; omega) (fun l hl => by have := hLr1 l (by rw [← hR1.eq]; exact hl); omega)) hs rfl trivial ?_
        rintro r c9 w ⟨d, rfl, hd9⟩ hs
        have hs : St w0 (ks []) [c1' ++ d, c2'] w := hs
        have hR := hs.mask [false, false]
        refine tq_e hR rfl rfl (opF_of (r_load1 rfl ty28 (hL2 w (hs.at (i := 1) rfl)).1) ?_)
        refine tq_e hR rfl rfl (o_callN cb12 rfl rfl (Post := fun r _ => ∃ b, r = .bool b ∧ (b = true ↔ (addF q (-1) x).1.links = L2)) (f12_calls r v2 (addF q (-1) x).1.links L2 (fun _ => True) (by have := hq1.links; omega) (fun l hl => by have := hLr1 l (by rw [← hR1.eq]; exact hl); omega)) hs ⟨(hd9 w (Hp.right (hs.at (i := 0) rfl))).mono fun _ _ => trivial, (hL2 w (hs.at (i := 1) rfl)).2⟩ ?_)
        rintro r2 w ⟨bo, rfl, hbo⟩ hs
        have hR := hs.mask [false, false]
        have hbo : bo = true := hbo.2 hR1.eq
        subst hbo
        refine tq_r hR rfl rfl (fun w hR => r_not rfl) ?_
        refine tq_r hR rfl rfl (fun w hR => r_pick (b := false) rfl) ?_
        refine tq_z hR ?_
        exact ⟨_, L2, c1', c2', ov_self ⟨rfl, rfl, rfl, rfl, rfl, rfl, trivial⟩, hR1, hLr1, hb1, hL2', hs.keep (by simp)⟩
      · refine tq_e hR rfl rfl (opF_of (r_load1 rfl ty28 (hL2 w (hs.at (i := 1) rfl)).1) ?_)
        refine tq_e hR rfl rfl (o_call (i := 0) cb13 rfl rfl (f13_calls bb (addF q (-1) x).1 c1' hb1 (by have := hq1.links; omega) (fun l hl => by have := hLr1 l (by rw [← hR1.eq]; exact hl); omega)) hs rfl trivial ?_)
        rintro r c9 w ⟨d, rfl, hd9⟩ hs
        have hs : St w0 (ks []) [c1' ++ d, c2'] w := hs
        have hR := hs.mask [false, false]
        refine tq_e hR rfl rfl (o_callN cb12 rfl rfl (Post := fun r _ => ∃ b, r = .bool b ∧ (b = true ↔ (addF q (-1) x).1.links = L2)) (f12_calls r v2 (addF q (-1) x).1.links L2 (fun _ => True) (by have := hq1.links; omega) (fun l hl => by have := hLr1 l (by rw [← hR1.eq]; exact hl); omega)) hs ⟨(hd9 w (Hp.right (hs.at (i := 0) rfl))).mono fun _ _ => trivial, (hL2 w (hs.at (i := 1) rfl)).2⟩ ?_)
        rintro r2 w ⟨bo, rfl, hbo⟩ hs
        have hR := hs.mask [false, false]
        have hbo : bo = true := hbo.2 hR1.eq
        subst hbo
        refine tq_r hR rfl rfl (fun w hR => r_not rfl) ?_
        refine tq_r hR rfl rfl (fun w hR => r_pick (b := false) rfl) ?_
        refine tq_z hR ?_
        exact ⟨_, L2, c1', c2', ov_self ⟨rfl, rfl, rfl, rfl, rfl, rfl, trivial⟩, hR1, hLr1, hb1, hL2', hs.keep (by simp)⟩
    obtain ⟨g, L2, c1', c2', rfl, hR1, hLr1, hb1, hL2', hs⟩ := hM
    refine W_cond rfl rfl (fun he => ?_) (fun he => ?_)
    · cases he
    refine W_skip ?_
    -- region 13
    refine W_region (by decide +kernel) ?_
    refine sq_r (r_add rfl rfl (wrap_small (by omega) (by omega))) rfl ?_
    refine sq_r r_move rfl ?_
    refine sq_z ?_
    exact ⟨i + 1, ⟨_, _, L2, c1', c2', ov_self ⟨rfl, rfl, rfl, rfl, rfl, trivial⟩, by omega, hR1, hq1.mono (by omega) (by omega), hLr1, hb1, hL2', hs⟩, by omega⟩
  · refine W_exit ?_ -- 0
    refine W_seq ?_
    -- region 14
    refine W_region (by decide +kernel) ?_
    refine sq_r r_assign rfl ?_
    refine sq_z ?_
    refine W_ret ?_
    exact ret1 (v := .bool true) rfl (by decide) rfl (fin (c' := []) hs ⟨rfl, rfl⟩ (by simp))

end Go.Proofs.Ytfojeengapebmaa
