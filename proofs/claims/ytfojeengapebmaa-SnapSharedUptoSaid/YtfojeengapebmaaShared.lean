/-
  Layer 17: the law SnapShared: a chain that is added twice adds nothing; its links, from the outermost one, are what was added. Condition: what the chains hold can be counted by an int.
-/
import Derived.Test.YtfojeengapebmaaAgain
namespace Go.Proofs.Ytfojeengapebmaa
open Go.Eng

/-- Behind the first i chains: where each stands. -/
def AtI (css : List (List Lk)) (L : List Lk) (i : Nat) (ats : List Int) : Prop :=
  ats.length = i ∧ ∀ j c, j < i → css[j]? = some c → ∃ is, IdxP L (-1) c is ∧ ats[j]? = some (lastI (-1) is)

set_option maxRecDepth 20000 in
set_option maxHeartbeats 4000000 in
theorem f4_law (v : Value) (css : List (List Lk)) (hbig : mny css ≤ 4000000000000000000) : Ctr Try.prog 4 #[v] [] (fun w => RdC (· < w.heap.size) v css w) (fun v c => v = .bool true ∧ c = []) := by
  intro w0 hp hrd0
  have hs : St w0 (ks []) [] w0 := St.start w0
  have hmax : 2000000 ≤ maxLen := by decide +kernel
  obtain ⟨a, cap, hv, hall⟩ := id hrd0
  subst hv
  refine calls_W (n := 96) Try.func4 rfl Try.ntmps4 (by simp) ?_
  refine W_seq ?_
  -- region 0
  refine W_region (by decide +kernel) ?_
  refine sq_r r_assign rfl ?_
  refine sq_z ?_
  refine W_seq ?_
  refine W_seq ?_
  -- region 1
  refine W_region (by decide +kernel) ?_
  refine sq_e rfl (o_callN cb7 rfl rfl (Post := fun v _ => v = .bool true) f7_calls hs trivial ?_)
  rintro v w rfl hs
  refine sq_r (r_not rfl) rfl ?_
  refine sq_z ?_
  refine W_cond rfl rfl (fun hc => ?_) (fun hc => ?_)
  · cases hc
  refine W_skip ?_
  refine W_seq ?_
  refine W_seq ?_
  -- region 3
  refine W_region (by decide +kernel) ?_
  refine sq_r r_move rfl ?_
  refine sq_e rfl (o_callN cb8 rfl rfl (Post := fun r _ => r = .int .i64 (mny css : Nat)) (f8_calls _ css (· < w0.heap.size) hbig) hs (hrd0.keep hs (by simp [ks])) ?_)
  rintro r w rfl hs
  refine sq_r (r_cmp rfl rfl rfl) rfl ?_
  refine sq_z ?_
  refine W_cond rfl rfl (fun hc => ?_) (fun hc => ?_)
  · refine W_seq ?_
    -- region 4
    refine W_region (by decide +kernel) ?_
    refine sq_r r_assign rfl ?_
    refine sq_z ?_
    refine W_ret ?_
    repeat with_reducible first | refine thenQ_ret ?_ | refine blockQ_ret ?_
    exact ret1 (v := .bool true) rfl (by decide) rfl (fin (c' := []) hs ⟨rfl, rfl⟩ (by simp))
  have hmn : mny css ≤ 600 := by have := of_decide_eq_false hc; omega
  have hlm := len_mny css
  refine W_skip ?_
  refine W_seq ?_
  -- region 5
  refine W_region (by decide +kernel) ?_
  refine sq_e rfl (o_call0 cb9 rfl rfl f9_calls hs trivial ?_)
  rintro v c w ⟨bb, c0, rfl, hcp, hb⟩ hs
  have hs : St w0 (ks []) [c0] w := hs.perm hcp
  refine sq_r r_assign rfl ?_
  refine sq_z ?_
  refine W_seq ?_
  refine W_seq ?_
  -- region 6
  refine W_region (by decide +kernel) ?_
  refine sq_r r_move rfl ?_
  refine sq_r (r_eqnil Try.underlying25 rfl rfl) rfl ?_
  refine sq_z ?_
  refine W_cond rfl rfl (fun hc => ?_) (fun hc => ?_)
  · cases hc
  refine W_skip ?_
  refine W_seq ?_
  -- region 8
  refine W_region (by decide +kernel) ?_
  refine sq_r r_assign rfl ?_
  refine sq_z ?_
  refine W_seq ?_
  refine W_seq ?_
  -- region 9
  refine W_region (by decide +kernel) ?_
  refine sq_r r_move rfl ?_
  refine sq_r (r_lenS Try.underlying22 rfl) rfl ?_
  refine sq_r r_move rfl ?_
  refine sq_z ?_
  refine W_block ?_ -- 0
  -- LOOP
  refine W_loop (fun (i : Nat) f w => ∃ g q L c1 u oc ats, f = ov [(0, .slice a css.length cap), (3, .pointer (some ⟨bb, 0, none⟩)), (4, u), (23, .slice a css.length cap), (24, .int .i64 css.length), (25, .int .i64 i)] g ∧ i ≤ css.length ∧ RelS q L ∧ Ups L ∧ Ok7 q (mny (css.take i)) (mny (css.take i)) ∧ (∀ y ∈ L, y.regs.length ≤ 600) ∧ AtI css L i ats ∧
    Sl 3 1 u ats.length (ic ats) oc ∧ BK bb q c1 ∧ St w0 (ks []) [c1, oc] w) (fun i => css.length - i) 0 ?_ ?_
  · exact ⟨_, s0, [], c0, _, [], [], ov_self ⟨rfl, rfl, rfl, rfl, rfl, rfl, trivial⟩, Nat.zero_le _, RelS.new, fun i l hi => by simp at hi, ok0, by simp, ⟨rfl, fun j _ hj => absurd hj (Nat.not_lt_zero j)⟩, Sl.nil 3 1, hb, hs.cast (by simp)⟩
  clear hs hb
  rintro i f w ⟨g, q, L, c1, u, oc, ats, rfl, hi, hrel, hups, hq, hLr, ⟨hal, hat⟩, hu, hb, hs⟩
  refine W_seq ?_
  -- region 10
  refine W_region (by decide +kernel) ?_
  refine sq_r (r_cmp rfl rfl rfl) rfl ?_
  refine sq_z ?_
  refine W_seq ?_
  refine W_cond rfl rfl (fun hd => ?_) (fun hd => ?_)
  · have hlt : i < css.length := by have := of_decide_eq_true hd; omega
    obtain ⟨x, hx⟩ : ∃ x, css[i]? = some x := ⟨_, List.getElem?_eq_getElem hlt⟩
    obtain ⟨b, off, cv, rfl, hbb, hat0, hrd⟩ := hall i x hx
    have hatc : At w b (off + i * 1) [cv] := at_keep hs (by simp [ks]) (by simp) hat0
    have hrt := mny_take hx
    have hrl := mny_le css (i + 1)
    have hq1 := Ok7.addF x q (-1) _ _ hq
    obtain ⟨L2, z2, hra⟩ := ras_ex x L (-1)
    obtain ⟨he, hR1⟩ := hrel.adds hra
    obtain ⟨is, M, hL2, hidx, hz2, hups2, _⟩ := add_idx hra hups (by omega)
    have hLr1 := RAs.rg hra hLr (fun y hy => by have := rgn_mem hy; omega)
    refine W_skip ?_
    refine W_seq ?_
    refine W_block ?_ -- 1
    refine W_seq ?_
    -- region 11
    refine W_region (by decide +kernel) ?_
    refine sq_r (r_index rfl rfl sl22 (by omega) (by omega)) rfl ?_
    refine sq_r (r_load1 rfl ty28 (hatc 0 _ rfl)) rfl ?_
    refine sq_r r_assign rfl ?_
    refine sq_z ?_
    -- region 12
    refine W_region (by decide +kernel) ?_
    refine sq_r r_move rfl ?_
    refine sq_r r_move rfl ?_
    refine sq_r r_move rfl ?_
    refine sq_e rfl (o_call (i := 0) cb10 rfl rfl (f10_calls bb q c1 cv x (mny (css.take i)) (mny (css.take i)) hb hq (by omega) (by omega)) hs rfl ((hrd.keep hs (by simp [ks])).mono fun b hb' hbk => st_out0 hs hb' (ks_mem (i := 0) rfl hbk)) ?_)
    rintro r c1' w ⟨rfl, hb1⟩ hs
    rw [he]
    refine sq_e rfl (o_buildN [.int .i64 z2] [[.int .i64 z2]] sl35 ty3 hs rfl rfl rfl (by simp) (by simp) ?_); intro b4 w hs
    refine sq_e rfl (o_append (i := 1) (m := 1) (news := [.int .i64 z2]) (soff := 0) (sb := b4) (scap := 1) sl35 ty3 rfl hs rfl rfl rfl hu (by simp) (At.of_block (hs.own (i := 2) rfl) (by simp)) (by simp [Value.oneCell']) (by omega) (by omega) ?_)
    intro u' oc' w hu' hs
    refine sq_r r_assign rfl ?_
    refine sq_z ?_
    -- region 13
    refine W_region (by decide +kernel) ?_
    refine sq_r (r_add rfl rfl (wrap_small (by omega) (by omega))) rfl ?_
    refine sq_r r_move rfl ?_
    refine sq_z ?_
    refine ⟨i + 1, ⟨_, _, L2, c1', u', oc', ats ++ [z2], ov_self ⟨rfl, rfl, rfl, rfl, rfl, rfl, trivial⟩, by omega, hR1, hups2, hq1.mono (by omega) (by omega), hLr1, ⟨by simp [hal], fun j c hj hc => ?_⟩, by rw [List.length_append, ic_app]; exact hu', hb1, (hs.mask [true, true, false]).cast (by simp [zipMask])⟩, by omega⟩
    by_cases hji : j < i
    · obtain ⟨is', h1, h2⟩ := hat j c hji hc
      exact ⟨is', by rw [hL2]; exact h1.mono, by rw [List.getElem?_append_left (by omega)]; exact h2⟩
    · obtain rfl : j = i := by omega
      rw [hx] at hc
      cases hc
      exact ⟨is, hidx, by rw [List.getElem?_append_right (by omega), hal, hz2]; simp⟩
  have hin : i = css.length := by have := of_decide_eq_false hd; omega
  subst hin
  rw [List.take_length] at hq
  refine W_exit ?_ -- 0
  refine W_seq ?_
  -- region 14
  refine W_region (by decide +kernel) ?_
  refine sq_r r_move rfl ?_
  refine sq_e rfl (o_call (i := 0) cb13 rfl rfl (f13_full bb q c1 hb (by have := hq.links; omega) (fun l hl => by have := hLr l (by rw [← hrel.eq]; exact hl); omega)) hs rfl trivial ?_)
  rintro r c9 w ⟨d, rfl, ps, lc, dc, rfl, hpl, hlc, hrg⟩ hs
  rw [hrel.eq] at hpl
  have hpl2 : L.length = ps.length := by rw [hpl, List.length_map]
  have hd9 : ∀ w, Hp (lc ++ dc) w → RdL (· ∈ ks (lc ++ dc)) r L w := fun w hw => by rw [hpl]; exact mk_rdl hlc hrg hw
  refine sq_r r_assign rfl ?_
  refine sq_z ?_
  have hs : St w0 (ks []) [c1, lc ++ dc, oc] w := hs.cast (by simp)
  obtain ⟨ra, rcap, hrv, _⟩ := hd9 w (hs.at (i := 1) rfl)
  subst hrv
  obtain ⟨ua, ucap, rfl⟩ := hu.len
  refine W_seq ?_
  refine W_seq ?_
  -- region 15
  refine W_region (by decide +kernel) ?_
  refine sq_r r_move rfl ?_
  refine sq_r (r_lenS Try.underlying22 rfl) rfl ?_
  refine sq_r r_move rfl ?_
  refine sq_z ?_
  refine W_block ?_ -- 2
  -- LOOP
  refine W_loop (fun (i : Nat) f w => ∃ g c2, f = ov [(3, .pointer (some ⟨bb, 0, none⟩)), (4, .slice ua ats.length ucap), (7, .slice ra L.length rcap), (38, .slice a css.length cap), (39, .int .i64 css.length), (40, .int .i64 i)] g ∧ i ≤ css.length ∧ BK bb q c2 ∧
    St w0 (ks []) [c2, lc ++ dc, oc] w) (fun i => css.length - i) 0 ?_ ?_
  · exact ⟨_, c1, ov_self ⟨rfl, rfl, rfl, rfl, rfl, rfl, trivial⟩, Nat.zero_le _, hb, hs⟩
  clear hs hb
  rintro i f w ⟨g, c2, rfl, hi, hb, hs⟩
  refine W_seq ?_
  -- region 16
  refine W_region (by decide +kernel) ?_
  refine sq_r (r_cmp rfl rfl rfl) rfl ?_
  refine sq_z ?_
  refine W_seq ?_
  refine W_cond rfl rfl (fun hd => ?_) (fun hd => ?_)
  · have hlt : i < css.length := by have := of_decide_eq_true hd; omega
    obtain ⟨x, hx⟩ : ∃ x, css[i]? = some x := ⟨_, List.getElem?_eq_getElem hlt⟩
    obtain ⟨b, off, cv, rfl, hbb, hat0, hrd⟩ := hall i x hx
    obtain ⟨ca, ccap, hcv, _⟩ := id hrd
    subst hcv
    have hatc : At w b (off + i * 1) [Value.slice ca x.length ccap] := at_keep hs (by simp [ks]) (by simp) hat0
    have hrt := mny_take hx
    have hrl := mny_le css (i + 1)
    obtain ⟨is, hidx, hati⟩ := hat i x hlt hx
    have hagain := addF_again hrel hidx
    obtain ⟨ub, uc, hue, _⟩ := hu.int hati (hs.at (i := 2) rfl)
    simp only [Value.slice.injEq, true_and] at hue
    obtain ⟨rfl, rfl⟩ := hue
    have hcell : ∀ {w : World}, Hp oc w → w.cell? ⟨ub, 0 + ((i : Int).toNat) * 1, none⟩ = some (.int .i64 (lastI (-1) is)) := fun hp => by
      obtain ⟨b', k', e, h⟩ := hu.int hati hp
      simp only [Value.slice.injEq, true_and, Option.some.injEq, Addr.mk.injEq] at e
      obtain ⟨⟨rfl, _⟩, _⟩ := e
      exact h
    refine W_skip ?_
    refine W_seq ?_
    refine W_block ?_ -- 3
    refine W_seq ?_
    -- region 17
    refine W_region (by decide +kernel) ?_
    refine sq_r r_move rfl ?_
    refine sq_r (r_index rfl rfl sl22 (by omega) (by omega)) rfl ?_
    refine sq_r (r_load1 rfl ty28 (hatc 0 _ rfl)) rfl ?_
    refine sq_r r_assign rfl ?_
    refine sq_r r_assign rfl ?_
    refine sq_z ?_
    refine W_seq ?_
    refine W_seq ?_
    -- region 18 DRAWS
    refine W_drawM hs Try.mixed [false, true, true] [0, 0, 3, 0, 0, 24, 56, 127] [2] [0, 1, 3, 4, 5, 6, 2, 7] (by decide +kernel) ?_
    intro w hs; have hR := hs.mask [false, true, true]
    refine dq_r hR rfl rfl rfl (fun _ w _ _ hR => r_move) ?_
    refine dq_r hR rfl rfl rfl (fun _ w _ _ hR => r_move) ?_
    refine dq_r hR rfl rfl rfl (fun _ w _ _ hR => r_move) ?_
    refine dq_r hR rfl rfl rfl (fun _ w _ _ hR => r_move) ?_
    refine dq_r hR rfl rfl rfl (fun _ w _ _ hR => r_index rfl rfl sl35 (by omega) (by rw [hal]; omega)) ?_
    refine dq_r hR rfl rfl rfl (fun _ w _ _ hR => r_load1 rfl ty3 (hcell (hR.at (i := 2) rfl))) ?_
    refine dq_e hR rfl rfl rfl (o_call (i := 0) cb10 rfl rfl (f10_calls bb q c2 _ x (mny css) (mny css) hb hq (by omega) (by omega)) hs rfl ((hrd.keep hs (by simp [ks])).mono fun b hb' hbk => st_out0 hs hb' (ks_mem (i := 0) rfl hbk)) ?_)
    rintro r c3 w ⟨rfl, hb3⟩ hs
    rw [hagain] at hb3 ⊢
    have hR := hs.mask [false, true, true]
    refine dq_r hR rfl rfl rfl (fun _ w _ _ hR => r_cmp (r := false) rfl rfl (by simp [cmpB])) ?_
    refine dq_z hR ?_
    refine W_cond rfl rfl (fun he => ?_) (fun he => ?_)
    · cases he
    refine W_skip ?_
    have hlast := lastI_ge hidx (Int.le_refl _)
    have hch := chO_idx hidx hlast
    have hisl := hidx.len
    have hLl : L.length ≤ 600 := by rw [← hrel.eq]; have := hq.links; omega
    refine W_seq ?_
    -- region 20
    refine W_region (by decide +kernel) ?_
    refine sq_r r_move rfl ?_
    refine sq_r r_move rfl ?_
    refine sq_r r_move rfl ?_
    refine sq_r (r_index rfl rfl sl35 (by omega) (by rw [hal]; omega)) rfl ?_
    refine sq_r (r_load1 rfl ty3 (hcell (hs.at (i := 2) rfl))) rfl ?_
    refine sq_e rfl (o_call0 cb14 rfl rfl (f14_calls _ L (lastI (-1) is) (by omega)) hs ((hd9 _ (hs.at (i := 1) rfl)).mono fun _ _ => trivial) ?_)
    intro e1 ec w he1 hs
    rw [hch] at he1
    obtain ⟨ea, ecap, rfl⟩ := he1.len
    refine sq_r r_assign rfl ?_
    refine sq_z ?_
    refine W_seq ?_
    refine W_seq ?_
    -- region 21
    refine W_region (by decide +kernel) ?_
    refine sq_r r_move rfl ?_
    refine sq_r (r_lenS Try.underlying35 rfl) rfl ?_
    refine sq_r r_move rfl ?_
    refine sq_r (r_lenS Try.underlying28 rfl) rfl ?_
    refine sq_r (r_cmp (r := false) rfl rfl (by simp [cmpB, hisl])) rfl ?_
    refine sq_z ?_
    refine W_cond rfl rfl (fun hg => ?_) (fun hg => ?_)
    · cases hg
    refine W_skip ?_
    refine W_seq ?_
    -- region 23
    refine W_region (by decide +kernel) ?_
    refine sq_r r_move rfl ?_
    refine sq_r (r_lenS Try.underlying35 rfl) rfl ?_
    refine sq_r r_move rfl ?_
    refine sq_z ?_
    have hs : St w0 (ks []) [c3, lc ++ dc, oc, ec] w := hs.cast (by simp)
    refine W_block ?_ -- 4
    -- LOOP
    refine W_loop (fun (k : Nat) f w => ∃ g, f = ov [(3, .pointer (some ⟨bb, 0, none⟩)), (4, .slice (some ⟨ub, 0, none⟩) ats.length ucap), (7, .slice ra L.length rcap), (9, .slice ca x.length ccap), (38, .slice (some ⟨b, off, none⟩) css.length cap), (39, .int .i64 css.length), (40, .int .i64 i), (64, .slice ea is.length ecap), (65, .int .i64 is.length), (66, .int .i64 k)] g ∧ k ≤ is.length ∧
      St w0 (ks []) [c3, lc ++ dc, oc, ec] w) (fun k => is.length - k) 0 ?_ ?_
    · exact ⟨_, ov_self ⟨rfl, rfl, rfl, rfl, rfl, rfl, rfl, rfl, rfl, rfl, trivial⟩, Nat.zero_le _, hs⟩
    clear hs
    rintro k f w ⟨g, rfl, hk, hs⟩
    refine W_seq ?_
    -- region 24
    refine W_region (by decide +kernel) ?_
    refine sq_r (r_cmp rfl rfl rfl) rfl ?_
    refine sq_z ?_
    refine W_seq ?_
    refine W_cond rfl rfl (fun hd2 => ?_) (fun hd2 => ?_)
    · have hkl : k < is.length := by have := of_decide_eq_true hd2; omega
      obtain ⟨y, hy⟩ : ∃ y, x[k]? = some y := ⟨_, List.getElem?_eq_getElem (by omega)⟩
      obtain ⟨n, up, hisk, hLn⟩ := hidx.get k y hy
      obtain ⟨eb, ec', hee, hecell⟩ := he1.int hisk (hs.at (i := 3) rfl)
      simp only [Value.slice.injEq, true_and] at hee
      obtain ⟨rfl, rfl⟩ := hee
      have hnl : n < L.length := (List.getElem?_eq_some_iff.1 hLn).1
      obtain ⟨p, hpn, hp1⟩ : ∃ p, ps[n]? = some p ∧ p.1 = { y with up := up } := by
        rw [hpl, List.getElem?_map] at hLn
        obtain ⟨p, h1, h2⟩ := Option.map_eq_some_iff.1 hLn
        exact ⟨p, h1, h2⟩
      obtain ⟨lb, lo, rfl, _, _⟩ : ∃ b off, ra = some ⟨b, off, none⟩ ∧ b ∈ ks lc ∧ At w b (off + n * 5) (prC p) := by
        obtain ⟨_, _, e, h⟩ := sl_rd prC_len (by decide) hlc (Hp.left (hs.at (i := 1) rfl))
        simp only [Value.slice.injEq] at e
        obtain ⟨rfl, _⟩ := e
        exact h n p hpn
      have hld : ∀ {w : World}, Hp (lc ++ dc) w → At w lb (lo + ((n : Int).toNat) * 5) (lkC p.1 p.2) := fun hp => by
        obtain ⟨_, _, e, h⟩ := sl_rd prC_len (by decide) hlc (Hp.left hp)
        simp only [Value.slice.injEq] at e
        obtain ⟨rfl, _⟩ := e
        obtain ⟨b', o', e, _, h⟩ := h n p hpn
        simp only [Option.some.injEq, Addr.mk.injEq, and_true] at e
        obtain ⟨rfl, rfl⟩ := e
        exact h
      obtain ⟨_, _, hcv2, hcl⟩ := id hrd
      simp only [Value.slice.injEq, true_and] at hcv2
      obtain ⟨rfl, rfl⟩ := hcv2
      obtain ⟨yb, yo, yv, rfl, hyb, hyat, hyr⟩ := hcl k y hy
      have hya : ∀ {cs : List Ck} {w : World}, St w0 (ks []) cs w → At w yb (yo + ((k : Int).toNat) * 5) (lkC y yv) := fun hs => at_keep hs (by simp [ks]) (by simp [lkC]) hyat
      obtain ⟨pa, pcap, hpv⟩ : ∃ a cap, p.2 = .slice a p.1.regs.length cap := by
        obtain ⟨a, cap, h, _⟩ := hrg p (List.mem_of_getElem? hpn) w (Hp.right (hs.at (i := 1) rfl))
        exact ⟨a, cap, h⟩
      obtain ⟨ya, ycap, hyv⟩ : ∃ a cap, yv = .slice a y.regs.length cap := by
        obtain ⟨a, cap, h, _⟩ := hyr
        exact ⟨a, cap, h⟩
      have hpo : ∀ u ∈ lkC p.1 p.2, u.oneCell' = true := by
        intro u hu; simp only [lkC, List.mem_cons, List.not_mem_nil, or_false] at hu
        rcases hu with rfl | rfl | rfl | rfl | rfl <;> first | rfl | (rw [hpv]; rfl)
      have hyo : ∀ u ∈ lkC y yv, u.oneCell' = true := by
        intro u hu; simp only [lkC, List.mem_cons, List.not_mem_nil, or_false] at hu
        rcases hu with rfl | rfl | rfl | rfl | rfl <;> first | rfl | (rw [hyv]; rfl)
      refine W_skip ?_
      refine W_seq ?_
      refine W_block ?_ -- 5
      refine W_seq ?_
      -- region 25
      refine W_region (by decide +kernel) ?_
      refine sq_r r_move rfl ?_
      refine sq_r (r_index rfl rfl sl35 (by omega) (by omega)) rfl ?_
      refine sq_r (r_load1 rfl ty3 hecell) rfl ?_
      refine sq_r r_assign rfl ?_
      refine sq_r r_assign rfl ?_
      refine sq_z ?_
      refine W_mid (M := fun f w => ∃ g b13 b14, f = ov [(3, .pointer (some ⟨bb, 0, none⟩)), (4, .slice (some ⟨ub, 0, none⟩) ats.length ucap), (7, .slice (some ⟨lb, lo, none⟩) L.length rcap), (9, .slice (some ⟨yb, yo, none⟩) x.length ccap), (38, .slice (some ⟨b, off, none⟩) css.length cap), (39, .int .i64 css.length), (40, .int .i64 i), (64, .slice (some ⟨eb, 0, none⟩) is.length ecap), (65, .int .i64 is.length), (66, .int .i64 k), (13, .pointer (some ⟨b13, 0, none⟩)), (14, .pointer (some ⟨b14, 0, none⟩))] g ∧
        St w0 (ks []) [c3, lc ++ dc, oc, ec, [(b13, cb (lkC p.1 p.2) 39)], [(b14, cb (lkC y yv) 39)]] w) ?_ (fun f w hM => ?_)
      · -- region 26 DRAWS
        refine W_tree hs Try.mixed [true, true, true, true] [0, 0, 3, 7, 0, 0, 48, 112, 0, 0, 783, 2047] [8, 9, 10, 11]
          (.rd 0 (.rd 1 (.rd 2 (.rd 3 (.rd 4 (.rd 5 (.rd 6 (.rd 7 (.alt 8 (.alt 9 (.alt 10 (.alt 11 .fin .no) .no) .no) (.alt 9 (.alt 8 (.alt 10 (.alt 11 .fin .no) .no) .no) .no)))))))))) (by decide +kernel) ?_
        intro w hs; have hR := hs.mask [true, true, true, true]
        refine tq_r hR rfl rfl (fun w hR => r_move) ?_
        refine tq_r hR rfl rfl (fun w hR => r_move) ?_
        refine tq_r hR rfl rfl (fun w hR => r_index rfl rfl sl28 (by omega) (by omega)) ?_
        refine tq_r hR rfl rfl (fun w hR => r_loadN rfl ty39 rfl (hld (hR.at (i := 1) rfl))) ?_
        refine tq_r hR rfl rfl (fun w hR => r_move) ?_
        refine tq_r hR rfl rfl (fun w hR => r_move) ?_
        refine tq_r hR rfl rfl (fun w hR => r_index rfl rfl sl28 (by omega) (by omega)) ?_
        refine tq_r hR rfl rfl (fun w hR => r_loadN rfl ty39 rfl (hya hR)) ?_
        refine tq_or hR rfl rfl ?_ ?_
        · refine o_alloc hs ty39 ?_; intro b13 w hs
          have hR := hs.mask [true, true, true, true]
          refine tq_e hR rfl rfl (o_alloc hs ty39 ?_); intro b14 w hs
          have hR := hs.mask [true, true, true, true]
          refine tq_e hR rfl rfl (o_store (i := 4) (vs := lkC p.1 p.2) hs rfl rfl ty39 rfl hpo (by simp [lkC]) ?_); intro w hs
          have hR := hs.mask [true, true, true, true]
          refine tq_e hR rfl rfl (o_store (i := 5) (vs := lkC y yv) hs rfl rfl ty39 rfl hyo (by simp [lkC]) ?_); intro w hs
          have hR := hs.mask [true, true, true, true]
          refine tq_z hR ?_
          exact ⟨_, b13, b14, ov_self ⟨rfl, rfl, rfl, rfl, rfl, rfl, rfl, rfl, rfl, rfl, rfl, rfl, trivial⟩, hs⟩
        · refine tq_e hR rfl rfl (o_alloc hs ty39 ?_); intro b14 w hs
          have hR := hs.mask [true, true, true, true]
          refine tq_e hR rfl rfl (o_alloc hs ty39 ?_); intro b13 w hs
          have hR := hs.mask [true, true, true, true]
          refine tq_e hR rfl rfl (o_store (i := 5) (vs := lkC p.1 p.2) hs rfl rfl ty39 rfl hpo (by simp [lkC]) ?_); intro w hs
          have hR := hs.mask [true, true, true, true]
          refine tq_e hR rfl rfl (o_store (i := 4) (vs := lkC y yv) hs rfl rfl ty39 rfl hyo (by simp [lkC]) ?_); intro w hs
          have hR := hs.mask [true, true, true, true]
          refine tq_z hR ?_
          refine ⟨_, b13, b14, ov_self ⟨rfl, rfl, rfl, rfl, rfl, rfl, rfl, rfl, rfl, rfl, rfl, rfl, trivial⟩, st_perm (ls := [c3, lc ++ dc, oc, ec, [(b14, cb (lkC y yv) 39)], [(b13, cb (lkC p.1 p.2) 39)]]) hs ?_⟩
          simp only [List.flatten_cons, List.flatten_nil, List.append_nil, List.cons_append, List.nil_append]
          refine List.Perm.append_left _ (List.Perm.append_left _ (List.Perm.append_left _ (List.Perm.append_left _ (List.Perm.swap _ _ _))))
      obtain ⟨g, b13, b14, rfl, hs⟩ := hM
      refine W_seq ?_
      -- region 27
      refine W_region (by decide +kernel) ?_
      refine sq_r (r_field rfl fa39_0) rfl ?_
      refine sq_r (r_load1 rfl ty3 (At.one (v := .int .i64 p.1.up) (hs.own (i := 4) rfl) rfl)) rfl ?_
      refine sq_r (r_field rfl fa39_0) rfl ?_
      refine sq_e rfl (o_store (i := 5) (vs := [.int .i64 p.1.up]) hs rfl rfl ty3 rfl (by simp [Value.oneCell']) (by simp [lkC]) ?_); intro w hs
      refine sq_z ?_
      have hs : St w0 (ks []) [c3, lc ++ dc, oc, ec, [(b13, cb (lkC p.1 p.2) 39)], [(b14, cb (lkC p.1 yv) 39)]] w := by
        rw [hp1] at hs ⊢
        exact hs
      refine W_seq ?_
      -- region 28
      refine W_region (by decide +kernel) ?_
      refine sq_r (r_loadN rfl ty39 rfl (At.of_block (vs := lkC p.1 p.2) (hs.own (i := 4) rfl) (by simp))) rfl ?_
      refine sq_e rfl (o_buildN [.agg (lkC p.1 p.2).toArray] [lkC p.1 p.2] sl28 ty39 hs rfl rfl rfl (by simp [lkC]) (by simp) ?_); intro b83 w hs
      refine sq_r (r_loadN rfl ty39 rfl (At.of_block (vs := lkC p.1 yv) (hs.own (i := 5) rfl) (by simp))) rfl ?_
      refine sq_e rfl (o_buildN [.agg (lkC p.1 yv).toArray] [lkC p.1 yv] sl28 ty39 hs rfl rfl rfl (by simp [lkC]) (by simp) ?_); intro b85 w hs
      refine sq_e rfl (o_callN cb12 rfl rfl (Post := fun r _ => ∃ b, r = .bool b ∧ (b = true ↔ [p.1] = [p.1])) (f12_calls (.slice (some ⟨b83, 0, none⟩) 1 1) (.slice (some ⟨b85, 0, none⟩) 1 1) [p.1] [p.1] (fun _ => True) (by simp) (fun l hl => ?_)) hs ⟨?_, ?_⟩ ?_)
      · obtain rfl : l = p.1 := by simpa using hl
        have := hLr p.1 (by rw [hpl]; exact List.mem_map.2 ⟨p, List.mem_of_getElem? hpn, rfl⟩)
        omega
      · refine ⟨_, _, rfl, fun j l hj => ?_⟩
        obtain ⟨rfl, rfl⟩ : j = 0 ∧ l = p.1 := by
          cases j with
          | zero => simp at hj; exact ⟨rfl, hj.symm⟩
          | succ j => simp at hj
        exact ⟨b83, 0, p.2, rfl, trivial, At.of_block (hs.own (i := 6) rfl) (by simp), (hrg p (List.mem_of_getElem? hpn) w (Hp.right (hs.at (i := 1) rfl))).mono fun _ _ => trivial⟩
      · refine ⟨_, _, rfl, fun j l hj => ?_⟩
        obtain ⟨rfl, rfl⟩ : j = 0 ∧ l = p.1 := by
          cases j with
          | zero => simp at hj; exact ⟨rfl, hj.symm⟩
          | succ j => simp at hj
        refine ⟨b85, 0, yv, rfl, trivial, At.of_block (hs.own (i := 7) rfl) (by simp), ?_⟩
        rw [show p.1.regs = y.regs from by rw [hp1]]
        exact (hyr.keep hs (by simp [ks])).mono fun _ _ => trivial
      rintro r w ⟨bo, rfl, hbo⟩ hs
      obtain rfl : bo = true := hbo.2 rfl
      refine sq_r (r_not rfl) rfl ?_
      refine sq_z ?_
      refine W_cond rfl rfl (fun hf => ?_) (fun hf => ?_)
      · cases hf
      refine W_skip ?_
      -- region 30
      refine W_region (by decide +kernel) ?_
      refine sq_r (r_add rfl rfl (wrap_small (by omega) (by omega))) rfl ?_
      refine sq_r r_move rfl ?_
      refine sq_z ?_
      exact ⟨k + 1, ⟨_, ov_self ⟨rfl, rfl, rfl, rfl, rfl, rfl, rfl, rfl, rfl, rfl, trivial⟩, by omega, (hs.mask [true, true, true, true]).cast (by simp [zipMask])⟩, by omega⟩
    · refine W_exit ?_ -- 4
      -- region 31
      refine W_region (by decide +kernel) ?_
      refine sq_r (r_add rfl rfl (wrap_small (by omega) (by omega))) rfl ?_
      refine sq_r r_move rfl ?_
      refine sq_z ?_
      exact ⟨i + 1, ⟨_, c3, ov_self ⟨rfl, rfl, rfl, rfl, rfl, rfl, trivial⟩, by omega, hb3, (hs.mask [true, true, true, false]).cast (by simp [zipMask])⟩, by omega⟩
  · have hin : i = css.length := by have := of_decide_eq_false hd; omega
    subst hin
    refine W_exit ?_ -- 2
    refine W_seq ?_
    -- region 32
    refine W_region (by decide +kernel) ?_
    refine sq_r r_move rfl ?_
    refine sq_e rfl (o_call (i := 0) cb13 rfl rfl (f13_calls bb q c2 hb (by have := hq.links; omega) (fun l hl => by have := hLr l (by rw [← hrel.eq]; exact hl); omega)) hs rfl trivial ?_)
    rintro r c9 w ⟨d, rfl, hd⟩ hs
    rw [hrel.eq] at hd
    have hs : St w0 (ks []) [c2, d, lc ++ dc, oc] w := hs.cast (by simp)
    obtain ⟨xa, xcap, hxv, _⟩ := hd w (hs.at (i := 1) rfl)
    subst hxv
    refine sq_r (r_lenS Try.underlying28 rfl) rfl ?_
    refine sq_r r_move rfl ?_
    refine sq_r (r_lenS Try.underlying28 rfl) rfl ?_
    refine sq_r (r_cmp (r := true) rfl rfl (by simp [cmpB])) rfl ?_
    refine sq_r r_assign rfl ?_
    refine sq_z ?_
    refine W_ret ?_
    exact ret1 (v := .bool true) rfl (by decide) rfl (fin (c' := []) hs ⟨rfl, rfl⟩ (by simp))

end Go.Proofs.Ytfojeengapebmaa
