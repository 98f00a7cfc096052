/-
  Layer 17: the program's Add. Conditions: the book holds few links and registers.
-/
import Derived.Test.YtfojeengapebmaaBook
namespace Go.Proofs.Ytfojeengapebmaa
open Go.Eng

theorem rgn_take {l : List Lk} {i : Nat} {x : Lk} (hx : l[i]? = some x) : rgn (l.take (i + 1)) = rgn (l.take i) + x.regs.length := by
  unfold rgn
  rw [List.take_add_one, hx]
  simp
theorem rgn_le (l : List Lk) (i : Nat) : rgn (l.take i) ≤ rgn l := by
  unfold rgn
  conv => rhs; rw [← List.take_append_drop i l]
  rw [List.map_append, List.sum_append]
  omega
theorem RdS.lt {B : Nat → Prop} {v : Value} {xs : List Sc} {w : World} (h : RdS B v xs w) : RdS (fun b => B b ∧ b < w.heap.size) v xs w := by
  obtain ⟨a, cap, hv, hall⟩ := h
  refine ⟨a, cap, hv, fun i x hi => ?_⟩
  obtain ⟨b, off, ha, hb, hat⟩ := hall i x hi
  have h0 : 0 < (ic x.toList).length := by simp
  exact ⟨b, off, ha, ⟨hb, cells_lt (hat 0 _ (List.getElem?_eq_getElem h0))⟩, hat⟩
theorem RdL.lt {B : Nat → Prop} {v : Value} {ls : List Lk} {w : World} (h : RdL B v ls w) : RdL (fun b => B b ∧ b < w.heap.size) v ls w := by
  obtain ⟨a, cap, hv, hall⟩ := h
  refine ⟨a, cap, hv, fun i x hi => ?_⟩
  obtain ⟨b, off, rv, ha, hb, hat, hr⟩ := hall i x hi
  exact ⟨b, off, rv, ha, ⟨hb, cells_lt (hat 0 (.int .i64 x.up) rfl)⟩, hat, hr.lt⟩
theorem St.out {w0 w : World} {F0 : List Nat} {cs : List Ck} (hs : St w0 F0 cs w) {b : Nat} (h : b ∉ F0 ∧ b < w0.heap.size) : b ∉ ks cs.flatten := fun hb => by
  rcases hs.fresh b hb with h1 | h1
  · exact h.1 h1
  · have := h.2; omega
theorem ks_mem {cs : List Ck} {i : Nat} {c : Ck} (hi : cs[i]? = some c) {b : Nat} (hb : b ∈ ks c) : b ∈ ks cs.flatten := by
  obtain ⟨p, hp, rfl⟩ := List.mem_map.1 hb
  exact List.mem_map.2 ⟨p, List.mem_flatten.2 ⟨c, List.mem_of_getElem? hi, hp⟩, rfl⟩

set_option maxRecDepth 20000 in
set_option maxHeartbeats 2000000 in
theorem f10_calls (bb : Nat) (s : B7) (c : Ck) (av : Value) (l : List Lk) (m0 k0 : Nat) (hc : BK bb s c) (hok : Ok7 s m0 k0) (hm : m0 + l.length ≤ 1000000) (hk : k0 + rgn l ≤ 1000000) :
    Ctr Try.prog 10 #[.pointer (some ⟨bb, 0, none⟩), av] c (RdL (· ∉ ks c) av l) (fun r c' => r = .int .i64 (addF s (-1) l).2 ∧ BK bb (addF s (-1) l).1 c') := by
  intro w0 hp hrd
  have hs : St w0 (ks c) [c] w0 := hp.st
  have hmax : 2000000 ≤ maxLen := by decide +kernel
  obtain ⟨a, cap, rfl, hall⟩ := hrd.lt
  refine calls_W (n := 77) Try.func10 rfl Try.ntmps10 (by simp) ?_
  refine W_seq ?_
  -- region 0
  refine W_region (by decide +kernel) ?_
  refine sq_r r_assign rfl ?_
  refine sq_z ?_
  refine W_seq ?_
  refine W_seq ?_
  -- region 1
  refine W_region (by decide +kernel) ?_
  refine sq_r r_move rfl ?_
  obtain ⟨mn0, hmn⟩ : ∃ mn, w0.cell? ⟨bb, 0 + 1, none⟩ = some (.map (some mn)) := by
    obtain ⟨mn, mr, v, ps, lc, dc, _, _, _, rfl⟩ := id hc
    exact ⟨mn, rl_cell (Hp.left hp) rfl⟩
  refine sq_e rfl (o_callN cb20 rfl rfl (Post := fun v _ => v = .bool true) (f20_calls bb (some mn0)) hs hmn ?_)
  rintro v w rfl hs
  refine sq_r (r_not rfl) rfl ?_
  refine sq_z ?_
  refine W_cond rfl rfl (fun hz => ?_) (fun hz => ?_)
  · cases hz
  refine W_skip ?_
  refine W_seq ?_
  -- region 3
  refine W_region (by decide +kernel) ?_
  refine sq_r r_assign rfl ?_
  refine sq_z ?_
  refine W_seq ?_
  refine W_seq ?_
  -- region 4
  refine W_region (by decide +kernel) ?_
  refine sq_r r_move rfl ?_
  refine sq_r (r_lenS Try.underlying28 rfl) rfl ?_
  refine sq_r r_move rfl ?_
  refine sq_z ?_
  refine W_block ?_ -- 0
  -- LOOP
  refine W_loop (fun (i : Nat) f w => ∃ g q up c1, f = ov [(0, .pointer (some ⟨bb, 0, none⟩)), (5, .int .i64 up), (14, .slice a l.length cap), (15, .int .i64 l.length), (16, .int .i64 i)] g ∧ i ≤ l.length ∧ addF s (-1) l = addF q up (l.drop i) ∧ Ok7 q (m0 + i) (k0 + rgn (l.take i)) ∧ BK bb q c1 ∧
    St w0 (ks c) [c1] w) (fun i => l.length - i) 0 ?_ ?_
  · exact ⟨_, s, -1, c, ov_self ⟨rfl, rfl, rfl, rfl, rfl, trivial⟩, Nat.zero_le _, rfl, hok, hc, hs⟩
  clear hs
  rintro i f w ⟨g, q, up, c1, rfl, hi, heq, hq, hb, hs⟩
  refine W_seq ?_
  -- region 5
  refine W_region (by decide +kernel) ?_
  refine sq_r (r_cmp rfl rfl rfl) rfl ?_
  refine sq_z ?_
  refine W_seq ?_
  refine W_cond rfl rfl (fun hd => ?_) (fun hd => ?_)
  · have hlt : i < l.length := by have := of_decide_eq_true hd; omega
    obtain ⟨x, hx⟩ : ∃ x, l[i]? = some x := ⟨_, List.getElem?_eq_getElem hlt⟩
    have hdrop : l.drop i = x :: l.drop (i + 1) := by
      rw [List.drop_eq_getElem_cons hlt]
      congr 1
      exact (List.getElem?_eq_some_iff.1 hx).2
    have hrt := rgn_take hx
    have hrl := rgn_le l (i + 1)
    have hq1 := hq.add1 up x
    have hqr := hq.regs
    have hql := hq.links
    obtain ⟨b, off, rv, rfl, hbb, hat0, hrs⟩ := hall i x hx
    obtain ⟨mn, mr, v, ps, lc, dc, hps, hlc, hrg, rfl⟩ := hb
    have hat : At w b (off + i * 5) (lkC x rv) := at_keep hs hbb.1 (by simp [lkC]) hat0
    have hrd : ∀ {cs : List Ck} {w : World}, St w0 (ks c) cs w → RdS (fun b => b ∉ ks c ∧ b < w0.heap.size) rv x.regs w := fun hs => hrs.keep hs (fun b h => h.1)
    obtain ⟨ra, rcap, hrv, _⟩ := id hrs
    subst hrv
    obtain ⟨va, vcap, rfl⟩ := hlc.len
    have hs : St w0 (ks c) [rlC bb mr (.slice va ps.length vcap) (.map (some mn)) q.rg, [(mn, mo encV encI q.nm.1 q.nm.2)], lc, dc] w := hs.cast (by simp)
    refine W_skip ?_
    refine W_seq ?_
    refine W_block ?_ -- 1
    refine W_seq ?_
    -- region 6
    refine W_region (by decide +kernel) ?_
    refine sq_r (r_index rfl rfl sl28 (by omega) (by omega)) rfl ?_
    refine sq_r (r_loadN (vs := lkC x (.slice ra x.regs.length rcap)) rfl ty39 rfl hat) rfl ?_
    refine sq_e rfl (o_alloc hs ty39 ?_); intro b7 w hs
    refine sq_e rfl (o_store (i := 4) (vs := lkC x (.slice ra x.regs.length rcap)) hs rfl rfl ty39 rfl (by simp [lkC, Value.oneCell']) (by simp [lkC]) ?_); intro w hs
    refine sq_z ?_
    have hs : St w0 (ks c) [rlC bb mr (.slice va ps.length vcap) (.map (some mn)) q.rg, [(mn, mo encV encI q.nm.1 q.nm.2)], lc, dc, [(b7, cb (lkC x (.slice ra x.regs.length rcap)) 39)]] w := hs
    refine W_mid (M := fun f w => ∃ g b8, f = ov [(0, .pointer (some ⟨bb, 0, none⟩)), (5, .int .i64 up), (7, .pointer (some ⟨b7, 0, none⟩)), (8, .pointer (some ⟨b8, 0, none⟩)), (14, .slice (some ⟨b, off, none⟩) l.length cap), (15, .int .i64 l.length), (16, .int .i64 i)] g ∧
      St w0 (ks c) [rlC bb mr (.slice va ps.length vcap) (.map (some mn)) (lst q.rg 0 x.regs).2, [(mn, mo encV encI q.nm.1 q.nm.2)], lc, dc, [(b7, cb (lkC x (.slice ra x.regs.length rcap)) 39)], [(b8, cb (ic (nkey up x (lst q.rg 0 x.regs).1).toList) 65)]] w) ?_ (fun f w hM => ?_)
    · -- region 7 DRAWS
      refine W_tree hs Try.mixed [false, true, true, true, true] [0, 0, 2, 0, 8, 0, 32, 0, 0, 256, 896, 2047, 0, 8191] [10, 12, 13]
        (.rd 0 (.rd 1 (.rd 2 (.rd 3 (.rd 4 (.rd 5 (.rd 6 (.rd 7 (.rd 8 (.rd 9 (.alt 10 (.rd 11 (.alt 12 (.alt 13 .fin .no) .no)) (.alt 12 (.alt 10 (.rd 11 (.alt 13 .fin .no)) .no) .no)))))))))))) (by decide +kernel) ?_
      intro w hs; have hR := hs.mask [false, true, true, true, true]
      refine tq_r hR rfl rfl (fun w hR => r_move) ?_
      refine tq_r hR rfl rfl (fun w hR => r_field rfl fa39_1) ?_
      refine tq_r hR rfl rfl (fun w hR => r_load1 rfl ty3 (At.one (hR.own (i := 4) rfl) rfl)) ?_
      refine tq_r hR rfl rfl (fun w hR => r_field rfl fa39_2) ?_
      refine tq_r hR rfl rfl (fun w hR => r_load1 rfl ty3 (At.one (hR.own (i := 4) rfl) rfl)) ?_
      refine tq_r hR rfl rfl (fun w hR => r_field rfl fa39_3) ?_
      refine tq_r hR rfl rfl (fun w hR => r_load1 rfl ty3 (At.one (hR.own (i := 4) rfl) rfl)) ?_
      refine tq_r hR rfl rfl (fun w hR => r_move) ?_
      refine tq_r hR rfl rfl (fun w hR => r_field rfl fa39_4) ?_
      refine tq_r hR rfl rfl (fun w hR => r_load1 rfl ty37 (At.one (hR.own (i := 4) rfl) rfl)) ?_
      refine tq_or hR rfl rfl ?_ ?_
      · refine o_call (i := 0) cb21 rfl rfl (f21_calls bb mr (.slice va ps.length vcap) (.map (some mn)) q.rg _ x.regs hq.rg (by omega)) hs rfl ((hrd hs).mono fun b h hb => St.out hs h (ks_mem (i := 0) rfl hb)) ?_
        rintro v c' w ⟨rfl, rfl⟩ hs
        have hR := hs.mask [false, true, true, true, true]
        refine tq_r hR rfl rfl (fun w hR => r_buildL (ps := [(0, .int .i64 up), (1, .int .i64 x.fn), (2, .int .i64 x.pc), (3, .int .i64 x.into), (4, .int .i64 (lst q.rg 0 x.regs).1)]) rfl (build_name _ _ _ _ _ _)) ?_
        refine tq_e hR rfl rfl (o_alloc hs ty65 ?_); intro b8 w hs
        have hR := hs.mask [false, true, true, true, true]
        refine tq_e hR rfl rfl (o_store (i := 5) (vs := ic (nkey up x (lst q.rg 0 x.regs).1).toList) hs rfl rfl ty65 rfl (ic_one _) (by simp) ?_); intro w hs
        have hR := hs.mask [false, true, true, true, true]
        refine tq_z hR ?_
        exact ⟨_, b8, ov_self ⟨rfl, rfl, rfl, rfl, rfl, rfl, rfl, trivial⟩, hs⟩
      · refine tq_e hR rfl rfl (o_alloc hs ty65 ?_); intro b8 w hs
        have hR := hs.mask [false, true, true, true, true]
        refine tq_e hR rfl rfl (o_call (i := 0) cb21 rfl rfl (f21_calls bb mr (.slice va ps.length vcap) (.map (some mn)) q.rg _ x.regs hq.rg (by omega)) hs rfl ((hrd hs).mono fun b h hb => St.out hs h (ks_mem (i := 0) rfl hb)) ?_)
        rintro v c' w ⟨rfl, rfl⟩ hs
        have hR := hs.mask [false, true, true, true, true]
        refine tq_r hR rfl rfl (fun w hR => r_buildL (ps := [(0, .int .i64 up), (1, .int .i64 x.fn), (2, .int .i64 x.pc), (3, .int .i64 x.into), (4, .int .i64 (lst q.rg 0 x.regs).1)]) rfl (build_name _ _ _ _ _ _)) ?_
        refine tq_e hR rfl rfl (o_store (i := 5) (vs := ic (nkey up x (lst q.rg 0 x.regs).1).toList) hs rfl rfl ty65 rfl (ic_one _) (by simp) ?_); intro w hs
        have hR := hs.mask [false, true, true, true, true]
        refine tq_z hR ?_
        exact ⟨_, b8, ov_self ⟨rfl, rfl, rfl, rfl, rfl, rfl, rfl, trivial⟩, hs⟩
    obtain ⟨g, b8, rfl, hs⟩ := hM
    have hkl : (ic (nkey up x (lst q.rg 0 x.regs).1).toList).length = 5 := by simp
    refine W_seq ?_
    -- region 8 DRAWS
    refine W_drawM hs Try.mixed [true, true, true, true, true, true] [0, 1, 3, 7, 0, 31, 63, 127, 127, 255, 1023] [] [0, 1, 2, 3, 4, 5, 6, 7, 8, 9, 10] (by decide +kernel) ?_
    intro w hs; have hR := hs.mask [true, true, true, true, true, true]
    refine dq_r hR rfl rfl rfl (fun _ w _ _ hR => r_move) ?_
    refine dq_r hR rfl rfl rfl (fun _ w _ _ hR => r_nilCheck rfl) ?_
    refine dq_r hR rfl rfl rfl (fun _ w _ _ hR => r_field rfl fa62_1) ?_
    refine dq_r hR rfl rfl rfl (fun _ w _ _ hR => r_load1 rfl ty59 (rl_cell (k := 0 + 1) (hR.at (i := 0) rfl) rfl)) ?_
    refine dq_r hR rfl rfl rfl (fun _ w _ _ hR => r_loadN rfl ty65 hkl (At.of_block (hR.own (i := 5) rfl) (ic_all _))) ?_
    refine dq_r hR rfl rfl rfl (fun _ w _ _ hR => r_lookup2 (a := nkey up x (lst q.rg 0 x.regs).1) KT65 Try.underlying59 (zero3 w) rfl rfl (hR.own (i := 1) rfl)) ?_
    refine dq_r hR rfl rfl rfl (fun _ w _ _ hR => r_move) ?_
    refine dq_r hR rfl rfl rfl (fun _ w _ _ hR => r_extract rfl rfl) ?_
    refine dq_r hR rfl rfl rfl (fun _ w _ _ hR => r_extract rfl rfl) ?_
    refine dq_r hR rfl rfl rfl (fun _ w _ _ hR => r_assign) ?_
    refine dq_r hR rfl rfl rfl (fun _ w _ _ hR => r_assign) ?_
    refine dq_z hR ?_
    refine W_mid (M := fun f w => ∃ g c1, f = ov [(0, .pointer (some ⟨bb, 0, none⟩)), (9, .int .i64 (add1 q up x).2), (14, .slice (some ⟨b, off, none⟩) l.length cap), (15, .int .i64 l.length), (16, .int .i64 i)] g ∧
      BK bb (add1 q up x).1 c1 ∧ St w0 (ks c) [c1] w) ?_ (fun f w hM => ?_)
    · refine W_seq ?_
      -- region 9
      refine W_region (by decide +kernel) ?_
      refine sq_r r_move rfl ?_
      refine sq_r (r_not rfl) rfl ?_
      refine sq_z ?_
      refine W_cond rfl rfl (fun he => ?_) (fun he => ?_)
      · have hnone : mget q.nm.1 (nkey up x (lst q.rg 0 x.regs).1) = none := by cases h : mget q.nm.1 (nkey up x (lst q.rg 0 x.regs).1) <;> simp [h] at he ⊢
        have hpl : q.links.length = ps.length := by rw [hps, List.length_map]
        have hadd : add1 q up x = (⟨q.links ++ [{ x with up := up }], (mput q.nm.1 q.nm.2 (nkey up x (lst q.rg 0 x.regs).1) ps.length, mclk q.nm.1 q.nm.2 (nkey up x (lst q.rg 0 x.regs).1)), (lst q.rg 0 x.regs).2⟩, (ps.length : Int)) := by
          unfold add1
          rw [hnone, hpl]
        rw [hadd]
        refine W_seq ?_
        -- region 10
        refine W_region (by decide +kernel) ?_
        refine sq_r r_move rfl ?_
        refine sq_r (r_nilCheck rfl) rfl ?_
        refine sq_r (r_field rfl fa62_0) rfl ?_
        refine sq_r (r_load1 rfl ty28 (rl_cell (k := 0 + 0) (hs.at (i := 0) rfl) rfl)) rfl ?_
        refine sq_r (r_lenS Try.underlying28 rfl) rfl ?_
        refine sq_r r_assign rfl ?_
        refine sq_z ?_
        refine W_seq ?_
        -- region 11 DRAWS
        refine W_drawM hs Try.mixed [true, false, true, true, true, true] [0, 1, 3, 7, 0, 0, 63] [6] [0, 1, 2, 3, 4, 5, 6] (by decide +kernel) ?_
        intro w hs; have hR := hs.mask [true, false, true, true, true, true]
        refine dq_r hR rfl rfl rfl (fun _ w _ _ hR => r_move) ?_
        refine dq_r hR rfl rfl rfl (fun _ w _ _ hR => r_nilCheck rfl) ?_
        refine dq_r hR rfl rfl rfl (fun _ w _ _ hR => r_field rfl fa62_1) ?_
        refine dq_r hR rfl rfl rfl (fun _ w _ _ hR => r_load1 rfl ty59 (rl_cell (k := 0 + 1) (hR.at (i := 0) rfl) rfl)) ?_
        refine dq_r hR rfl rfl rfl (fun _ w _ _ hR => r_loadN rfl ty65 hkl (At.of_block (hR.own (i := 5) rfl) (ic_all _))) ?_
        refine dq_r hR rfl rfl rfl (fun _ w _ _ hR => r_move) ?_
        refine dq_e hR rfl rfl rfl (o_mapUpdate (i := 1) (a := nkey up x (lst q.rg 0 x.regs).1) (v := (ps.length : Int)) (ev' := encI) KT65 Try.underlying59 hs rfl rfl rfl rfl hq.nm.keys ?_); intro w hs
        have hR := hs.mask [true, false, true, true, true, true]
        refine dq_z hR ?_
        -- region 12 DRAWS
        refine W_drawT hs Try.mixed [true, true, false, true, true, true] [false, true, false, true, true, true] 4 [0, 0, 2, 6, 14, 0, 0, 64, 0, 256, 0, 1024, 0, 4096, 12288, 32736, 65504, 131070, 262143, 524287, 1048575] [14, 16, 17, 20] [0, 1, 2, 3, 4, 5, 6, 7, 8, 9, 10, 11, 12, 13, 14, 15, 16, 17, 18, 19, 20] (by decide +kernel) ?_
        intro w hs; have hR := hs.mask [true, true, false, true, true, true]
        refine dq_rp hR rfl rfl rfl (fun w => r_move) ?_
        refine dq_rp hR rfl rfl rfl (fun w => r_move) ?_
        refine dq_rp hR rfl rfl rfl (fun w => r_nilCheck rfl) ?_
        refine dq_rp hR rfl rfl rfl (fun w => r_field rfl fa62_0) ?_
        refine dq_r1 hR rfl rfl (by decide) rfl (fun w hR => r_load1 rfl ty28 (rl_cell (k := 0 + 0) (hR.at (i := 0) rfl) rfl)) ?_
        refine dq_rp hR rfl rfl rfl (fun w => r_move) ?_
        refine dq_rp hR rfl rfl rfl (fun w => r_field rfl fa39_1) ?_
        refine dq_r1 hR rfl rfl (by decide) rfl (fun w hR => r_load1 rfl ty3 (At.one (hR.own (i := 4) rfl) rfl)) ?_
        refine dq_rp hR rfl rfl rfl (fun w => r_field rfl fa39_2) ?_
        refine dq_r1 hR rfl rfl (by decide) rfl (fun w hR => r_load1 rfl ty3 (At.one (hR.own (i := 4) rfl) rfl)) ?_
        refine dq_rp hR rfl rfl rfl (fun w => r_field rfl fa39_3) ?_
        refine dq_r1 hR rfl rfl (by decide) rfl (fun w hR => r_load1 rfl ty3 (At.one (hR.own (i := 4) rfl) rfl)) ?_
        refine dq_rp hR rfl rfl rfl (fun w => r_field rfl fa39_4) ?_
        refine dq_r1 hR rfl rfl (by decide) rfl (fun w hR => r_load1 rfl ty37 (At.one (hR.own (i := 4) rfl) rfl)) ?_
        refine dq_e hR rfl rfl rfl (o_call0 cb22 rfl rfl (f22_calls (.slice ra x.regs.length rcap) x.regs _ (by omega)) hs (hrd hs) ?_)
        intro r d w hr hs
        obtain ⟨na, ncap, rfl⟩ := hr.len
        have hR := hs.mask [true, true, false, true, true, true]
        refine dq_rp hR rfl rfl rfl (fun w => r_buildL (ps := [(0, .int .i64 up), (1, .int .i64 x.fn), (2, .int .i64 x.pc), (3, .int .i64 x.into), (4, .slice na x.regs.length ncap)]) rfl (build_link _ _ _ _ _ _ _ _)) ?_
        refine dq_e hR rfl rfl rfl (o_buildN [.agg #[.int .i64 up, .int .i64 x.fn, .int .i64 x.pc, .int .i64 x.into, .slice na x.regs.length ncap]] [lkC { x with up := up } (.slice na x.regs.length ncap)] sl28 ty39 hs rfl rfl rfl (by simp [lkC]) (by simp) ?_); intro b9 w hs
        have hR := hs.mask [true, true, false, true, true, true]
        refine dq_e hR rfl rfl rfl (o_append (i := 2) (m := 1) (news := lkC { x with up := up } (.slice na x.regs.length ncap)) (soff := 0) (sb := b9) (scap := 1) sl28 ty39 rfl hs rfl rfl rfl hlc rfl (At.of_block (hs.own (i := 7) rfl) (by simp)) (by simp [lkC, Value.oneCell']) (by omega) (by omega) ?_)
        intro v2 lc2 w hv2 hs
        have hR := hs.mask [true, true, false, true, true, true]
        refine dq_rp hR rfl rfl rfl (fun w => r_nilCheck rfl) ?_
        refine dq_rp hR rfl rfl rfl (fun w => r_field rfl fa62_0) ?_
        refine dq_e hR rfl rfl rfl (o_storeIn (i := 0) (c1 := []) (vs := [v2]) hs rfl (sl_one hv2).2 ty28 rfl (by simpa using (sl_one hv2).1) (by simp) ?_); intro w hs
        have hR := hs.mask [false, true, false, true, true, true]
        refine dq_z hR ?_
        refine ⟨_, rlC bb mr v2 (.map (some mn)) (lst q.rg 0 x.regs).2 ++ ([(mn, mo encV encI (mput q.nm.1 q.nm.2 (nkey up x (lst q.rg 0 x.regs).1) (ps.length : Int)) (mclk q.nm.1 q.nm.2 (nkey up x (lst q.rg 0 x.regs).1)))] ++ (lc2 ++ (dc ++ d))), ov_self ⟨rfl, rfl, rfl, rfl, rfl, trivial⟩,
          ⟨mn, mr, v2, ps ++ [({ x with up := up }, .slice na x.regs.length ncap)], lc2, dc ++ d, ?_, ?_, hrg.add hr, rfl⟩, (hs.mask [true, true, true, true, false, false, true, false]).cast (by simp [zipMask, rlC, spl])⟩
        · simp [hps]
        · rw [List.length_append, List.flatMap_append]
          simpa [prC] using hv2
      · obtain ⟨z0, hsome⟩ : ∃ z, mget q.nm.1 (nkey up x (lst q.rg 0 x.regs).1) = some z := by cases h : mget q.nm.1 (nkey up x (lst q.rg 0 x.regs).1) <;> simp [h] at he ⊢
        have hadd : add1 q up x = ({ q with rg := (lst q.rg 0 x.regs).2 }, z0) := by
          unfold add1
          rw [hsome]
        rw [hadd]
        refine W_skip ?_
        refine ⟨_, rlC bb mr (.slice va ps.length vcap) (.map (some mn)) (lst q.rg 0 x.regs).2 ++ ([(mn, mo encV encI q.nm.1 q.nm.2)] ++ (lc ++ dc)), ov_self ⟨rfl, by rw [hsome]; rfl, rfl, rfl, rfl, trivial⟩, ⟨mn, mr, _, ps, lc, dc, hps, hlc, hrg, rfl⟩, (hs.mask [true, true, true, true, false, false]).cast (by simp [zipMask])⟩
    · obtain ⟨g, c1, rfl, hb1, hs⟩ := hM
      -- region 13
      refine W_region (by decide +kernel) ?_
      refine sq_r r_move rfl ?_
      refine sq_r r_assign rfl ?_
      refine sq_z ?_
      -- region 14
      refine W_region (by decide +kernel) ?_
      refine sq_r (r_add rfl rfl (wrap_small (by omega) (by omega))) rfl ?_
      refine sq_r r_move rfl ?_
      refine sq_z ?_
      exact ⟨i + 1, ⟨_, (add1 q up x).1, (add1 q up x).2, c1, ov_self ⟨rfl, rfl, rfl, rfl, rfl, trivial⟩, by omega, by rw [heq, hdrop]; rfl, by rw [hrt, ← Nat.add_assoc, ← Nat.add_assoc]; exact hq1, hb1, hs⟩, by omega⟩
  · have hin : i = l.length := by have := of_decide_eq_false hd; omega
    subst hin
    rw [List.drop_length] at heq
    refine W_exit ?_ -- 0
    refine W_seq ?_
    -- region 15
    refine W_region (by decide +kernel) ?_
    refine sq_r r_move rfl ?_
    refine sq_r r_assign rfl ?_
    refine sq_z ?_
    refine W_ret ?_
    exact ret1 (v := .int .i64 up) rfl (by decide) rfl (fin (c' := c1) hs ⟨by rw [heq]; rfl, by rw [heq]; exact hb⟩ (by simp))

end Go.Proofs.Ytfojeengapebmaa
