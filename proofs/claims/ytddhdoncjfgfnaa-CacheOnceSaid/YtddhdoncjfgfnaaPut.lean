/-
  Layer 15: a trace is taken in (Put). Conditions: the cache is whole, the trace is not long.
-/
import Derived.Test.YtddhdoncjfgfnaaNew
namespace Go.Proofs.Ytddhdoncjfgfnaa
open Go.Eng

theorem Ok.pick {s : C15} (h : Ok s) : Ok (pickS s) := ⟨h.h, h.f, h.l, h.lim, h.o, h.nd, by have := h.pk; simp only [pickS, List.length_tail]; omega, h.ids, h.l0⟩
/-- Of a key that is held its trace goes. -/
def dropK (s : C15) (k : Ky) : C15 := if 0 < findK s k then goneK s (findK s k) else s
theorem Ok.drop {s : C15} (h : Ok s) (k : Ky) : Ok (dropK s k) := by
  unfold dropK
  split
  · exact h.gone _
  · exact h
/-- One makes room. -/
def evK (s : C15) : C15 := goneK (pickS s) ((s.order[(pickN s s.order.length).toNat]?).getD 0)
theorem Ok.ev {s : C15} (h : Ok s) : Ok (evK s) := h.pick.gone _
def ev1 (s : C15) : C15 := if s.limit ≤ s.order.length then evK s else s
def addK (s : C15) (y : LT) : C15 := { s with last := s.last + 1, held := (mput s.held.1 s.held.2 (s.last + 1) y, mclk s.held.1 s.held.2 (s.last + 1)), order := s.order ++ [s.last + 1], most := max s.most (s.order.length + 1) }
def putS (s : C15) (y : LT) : C15 := if s.limit = 0 then s else addK (ev1 (dropK s y.key)) y
def putN (s : C15) : Int := if s.limit = 0 then -1 else s.last + 1
theorem rest_lt {id : Int} {xs : List Int} (h : id ∈ xs) : (rest id xs).length < xs.length := by
  unfold rest
  rw [List.length_filter_lt_length_iff_exists]
  exact ⟨id, h, by simp⟩
theorem ev_lt {s : C15} (h : 0 < s.order.length) : (evK s).order.length < s.order.length := by
  have hr := pickN_rng (s := s) (n := s.order.length) (by omega)
  have hi : (pickN s s.order.length).toNat < s.order.length := by omega
  unfold evK
  rw [List.getElem?_eq_getElem hi]
  exact rest_lt (List.getElem_mem hi)
theorem drop_last (s : C15) (k : Ky) : (dropK s k).last = s.last ∧ (dropK s k).limit = s.limit := by
  unfold dropK
  split <;> exact ⟨rfl, rfl⟩
theorem ev1_last (s : C15) : (ev1 s).last = s.last ∧ (ev1 s).limit = s.limit := by
  unfold ev1
  split <;> exact ⟨rfl, rfl⟩
theorem Ok.ev1 {s : C15} (h : Ok s) : Ok (Proofs.Ytddhdoncjfgfnaa.ev1 s) := by
  unfold Proofs.Ytddhdoncjfgfnaa.ev1
  split
  · exact h.ev
  · exact h
theorem ev1_room {s : C15} (h : Ok s) (hl : s.limit ≠ 0) : ((ev1 s).order.length : Int) < s.limit := by
  have h1 := h.lim
  have h2 := h.o
  unfold ev1
  split
  · have := ev_lt (s := s) (by omega)
    omega
  · omega
theorem Ok.add {s : C15} (h : Ok s) (hr : (s.order.length : Int) < s.limit) (y : LT) : Ok (addK s y) := by
  have hl0 := h.l0
  refine ⟨h.h.put _ _, h.f, h.l, h.lim, ?_, ?_, h.pk, fun id hid => ?_, ?_⟩
  · simp only [addK, List.length_append, List.length_singleton]; omega
  · simp only [addK]
    rw [List.nodup_append]
    refine ⟨h.nd, by simp, fun a ha b hb e => ?_⟩
    simp only [List.mem_singleton] at hb
    have := h.ids a ha
    omega
  · simp only [addK, List.mem_append, List.mem_singleton] at hid
    simp only [addK]
    rcases hid with hid | rfl
    · have := h.ids id hid; omega
    · omega
  · simp only [addK]; omega
theorem Ok.put {s : C15} (h : Ok s) (y : LT) : Ok (putS s y) := by
  unfold putS
  split
  · exact h
  · rename_i hl
    have h1 := h.drop y.key
    refine h1.ev1.add ?_ y
    have := ev1_room h1 (by rw [(drop_last s y.key).2]; exact hl)
    rw [(ev1_last _).2]
    exact this

set_option maxRecDepth 20000 in
set_option maxHeartbeats 4000000 in
theorem f10_calls (bb : Nat) (s : C15) (c : Ck) (hc : BK bb s c) (ok : Ok s) (hlast : s.last ≤ 4000000000000000000) (x : LT) (hsm : x.small) : Ctr Try.prog 10 #[.pointer (some ⟨bb, 0, none⟩), evT x] c (RdT (· ∉ ks c) x) (fun r c' => ∃ y, y.t = x.t ∧ r = .int .i64 (putN s) ∧ BK bb (putS s y) c') := by
  intro w0 hp hro
  have hlim := ok.lim
  have hl0 := ok.l0
  have hs : St w0 (ks c) [c] w0 := hp.st
  have hrx : ∀ {cs : List Ck} {w : World}, St w0 (ks c) cs w → RdT (· ∉ ks c) x w := fun hs => hro.old hs (fun b hb => hb)
  have hx1 := hro.one
  refine calls_W (n := 97) Try.func10 rfl Try.ntmps10 (by simp) ?_
  refine W_seq ?_
  -- region 0
  refine W_region (by decide +kernel) ?_
  refine sq_e rfl (o_box (cs := trC x) hs rfl ?_); intro b3 w hs
  refine sq_r r_assign rfl ?_
  refine sq_z ?_
  have hs : St w0 (ks c) [c, [(b3, cb (trC x) 33)]] w := hs
  refine W_seq ?_
  refine W_mid (M := fun f w => ∃ g, f = ov [(0, .pointer (some ⟨bb, 0, none⟩)), (3, .pointer (some ⟨b3, 0, none⟩)), (15, .bool (s.limit == 0))] g ∧ St w0 (ks c) [c, [(b3, cb (trC x) 33)]] w) ?_ (fun f w hM => ?_)
  · -- region 1
    obtain ⟨mh, mf, ml, ov0, pv, oc, pc, dc, hk, hce⟩ := id hc
    have hB : ∀ {w : World}, Hp c w → w.heap[bb]? = some (cb (bx mh mf ml ov0 pv s) 65) := fun h => h.has (bb, cb (bx mh mf ml ov0 pv s) 65) (by rw [hce]; simp)
    refine W_region (by decide +kernel) ?_
    refine sq_r r_move rfl ?_
    refine sq_e rfl (o_callN cb23 rfl rfl (Post := fun v _ => v = .bool true) (f23_calls bb (some mh)) hs (At.one (hB (hs.at (i := 0) rfl)) rfl) ?_)
    rintro u w rfl hs
    refine sq_r (r_not rfl) rfl ?_
    refine sq_r r_move rfl ?_
    refine sq_r r_move rfl ?_ /- GUARD 3 False -/
    refine sq_r (r_nilCheck rfl) rfl ?_ /- GUARD 3 False -/
    refine sq_r (r_field rfl fa65_4) rfl ?_ /- GUARD 3 False -/
    refine sq_r (r_load1 rfl ty3 (At.one (v := .int .i64 s.limit) (hB (hs.at (i := 0) rfl)) rfl)) rfl ?_ /- GUARD 3 False -/
    refine sq_r (r_cmp rfl rfl rfl) rfl ?_ /- GUARD 3 False -/
    refine sq_r (r_pick (b := false) rfl) rfl ?_
    refine sq_z ?_
    exact ⟨_, ov_self ⟨rfl, rfl, rfl, trivial⟩, hs⟩
  obtain ⟨g, rfl, hs⟩ := hM
  refine W_cond rfl rfl (fun hz => ?_) (fun hz => ?_)
  · have hz : s.limit = 0 := by simpa using hz
    refine W_seq ?_
    -- region 2
    refine W_region (by decide +kernel) ?_
    refine sq_r r_assign rfl ?_
    refine sq_z ?_
    refine W_ret ?_
    repeat with_reducible first | refine thenQ_ret ?_ | refine blockQ_ret ?_
    exact ret1 (v := .int .i64 (-1)) rfl (by decide) rfl (fin (c' := c) hs ⟨x, rfl, by rw [putN, if_pos hz], by rw [putS, if_pos hz]; exact hc⟩ (by simp))
  have hz : s.limit ≠ 0 := by simpa using hz
  refine W_skip ?_
  refine W_mid (M := fun f w => ∃ g c1, f = ov [(0, .pointer (some ⟨bb, 0, none⟩)), (3, .pointer (some ⟨b3, 0, none⟩))] g ∧ BK bb (dropK s x.key) c1 ∧ St w0 (ks c) [c1, [(b3, cb (trC x) 33)]] w) ?_ (fun f w hM => ?_)
  · refine W_seq ?_
    -- region 3
    refine W_region (by decide +kernel) ?_
    refine sq_r r_move rfl ?_
    refine sq_r (r_field rfl fa33_0) rfl ?_
    refine sq_r (r_loadN (vs := ic x.key.toList) rfl ty26 (by simp) (At.of_block (hs.own (i := 1) rfl) (by simpa using trC_key x))) rfl ?_
    refine sq_e rfl (o_callN cb24 rfl rfl (Post := fun r _ => r = .int .i64 (findK s x.key)) (f24_calls bb s c hc x.key (by have := ok.o; omega)) hs (hs.at (i := 0) rfl) ?_)
    rintro u w rfl hs
    refine sq_r r_assign rfl ?_
    refine sq_z ?_
    refine W_seq ?_
    -- region 4
    refine W_region (by decide +kernel) ?_
    refine sq_r r_move rfl ?_
    refine sq_r (r_cmp rfl rfl rfl) rfl ?_
    refine sq_z ?_
    refine W_cond rfl rfl (fun hg => ?_) (fun hg => ?_)
    · -- region 5
      refine W_region (by decide +kernel) ?_
      refine sq_r r_move rfl ?_
      refine sq_r r_move rfl ?_
      refine sq_e rfl (o_call (i := 0) cb25 rfl rfl (f25_calls bb s c hc ok (findK s x.key)) hs rfl trivial ?_)
      intro u c1 w hb1 hs
      refine sq_z ?_
      exact ⟨_, c1, ov_self ⟨rfl, rfl, trivial⟩, by rw [dropK, if_pos (of_decide_eq_true hg)]; exact hb1, hs⟩
    · refine W_skip ?_
      exact ⟨_, c, ov_self ⟨rfl, rfl, trivial⟩, by rw [dropK, if_neg (of_decide_eq_false hg)]; exact hc, hs⟩
  obtain ⟨g, c1, rfl, hb1, hs⟩ := hM
  have ok1 := ok.drop x.key
  have hd := drop_last s x.key
  obtain ⟨s1, hs1⟩ : ∃ s1, s1 = dropK s x.key := ⟨_, rfl⟩
  rw [← hs1] at hb1 ok1 hd
  refine W_mid (M := fun f w => ∃ g c2, f = ov [(0, .pointer (some ⟨bb, 0, none⟩)), (3, .pointer (some ⟨b3, 0, none⟩))] g ∧ BK bb (ev1 s1) c2 ∧ St w0 (ks c) [c2, [(b3, cb (trC x) 33)]] w) ?_ (fun f w hM => ?_)
  · refine W_block ?_ -- 0
    -- LOOP
    refine W_loop (fun (s2 : C15) f w => ∃ g c2, f = ov [(0, .pointer (some ⟨bb, 0, none⟩)), (3, .pointer (some ⟨b3, 0, none⟩))] g ∧ (s2 = s1 ∨ (s2 = evK s1 ∧ s1.limit ≤ s1.order.length)) ∧ BK bb s2 c2 ∧ Ok s2 ∧ s2.limit = s1.limit ∧ St w0 (ks c) [c2, [(b3, cb (trC x) 33)]] w) (fun s2 => s2.order.length) s1 ?_ ?_
    · exact ⟨_, c1, ov_self ⟨rfl, rfl, trivial⟩, .inl rfl, hb1, ok1, rfl, hs⟩
    clear hs hb1
    rintro s2 f w ⟨g, c2, rfl, hor, hb2, ok2, hl2, hs⟩
    obtain ⟨mh, mf, ml, ov2, pv, oc, pc, dc, hk, hce⟩ := id hb2
    obtain ⟨oa, ocap, rfl⟩ := hk.o.len
    have hB : ∀ {w : World}, Hp c2 w → w.heap[bb]? = some (cb (bx mh mf ml (.slice oa s2.order.length ocap) pv s2) 65) := fun h => h.has (bb, cb (bx mh mf ml (.slice oa s2.order.length ocap) pv s2) 65) (by rw [hce]; simp)
    refine W_seq ?_
    refine W_seq ?_
    -- region 6 DRAWS
    refine W_drawM hs Try.mixed [true, true] [0, 1, 3, 7, 15, 0, 32, 96, 224, 511] [] [0, 1, 2, 3, 4, 5, 6, 7, 8, 9] (by decide +kernel) ?_
    intro w hs; have hR := hs.mask [true, true]
    refine dq_r hR rfl rfl rfl (fun _ w _ _ hR => r_move) ?_
    refine dq_r hR rfl rfl rfl (fun _ w _ _ hR => r_nilCheck rfl) ?_
    refine dq_r hR rfl rfl rfl (fun _ w _ _ hR => r_field rfl fa65_1) ?_
    refine dq_r hR rfl rfl rfl (fun _ w _ _ hR => r_load1 rfl ty27 (At.one (hB (hR.at (i := 0) rfl)) rfl)) ?_
    refine dq_r hR rfl rfl rfl (fun _ w _ _ hR => r_lenS Try.underlying27 rfl) ?_
    refine dq_r hR rfl rfl rfl (fun _ w _ _ hR => r_move) ?_
    refine dq_r hR rfl rfl rfl (fun _ w _ _ hR => r_nilCheck rfl) ?_
    refine dq_r hR rfl rfl rfl (fun _ w _ _ hR => r_field rfl fa65_4) ?_
    refine dq_r hR rfl rfl rfl (fun _ w _ _ hR => r_load1 rfl ty3 (At.one (v := .int .i64 s2.limit) (hB (hR.at (i := 0) rfl)) rfl)) ?_
    refine dq_r hR rfl rfl rfl (fun _ w _ _ hR => r_cmp rfl rfl rfl) ?_
    refine dq_z hR ?_
    refine W_cond rfl rfl (fun hd => ?_) (fun hd => ?_)
    · have hfull : s2.limit ≤ s2.order.length := of_decide_eq_true hd
      have ho2 := ok2.o
      have hlim2 := ok2.lim
      have hl0' : 0 < s2.order.length := by omega
      have hrng := pickN_rng (s := s2) (n := s2.order.length) (by omega)
      have hpi : (pickN s2 s2.order.length).toNat < s2.order.length := by omega
      obtain ⟨z, hzz⟩ : ∃ z, s2.order[(pickN s2 s2.order.length).toNat]? = some z := ⟨_, List.getElem?_eq_getElem hpi⟩
      have hev : evK s2 = goneK (pickS s2) z := by unfold evK; rw [hzz]; rfl
      obtain ⟨ob, ocap', hoe, _⟩ := hk.o.int hzz ((bk_st (hs.at (i := 0) rfl) hce).at (i := 4) rfl)
      simp only [Value.slice.injEq, true_and] at hoe
      obtain ⟨rfl, rfl⟩ := hoe
      have hcell : ∀ {w : World}, Hp oc w → w.cell? ⟨ob, 0 + (pickN s2 s2.order.length).toNat * 1, none⟩ = some (.int .i64 z) := fun hp => by
        obtain ⟨_, _, e, h⟩ := hk.o.int hzz hp
        simp only [Value.slice.injEq, true_and, Option.some.injEq, Addr.mk.injEq] at e
        obtain ⟨⟨rfl, _⟩, _⟩ := e
        exact h
      have hs : St w0 (ks c) [[(bb, cb (bx mh mf ml (.slice (some ⟨ob, 0, none⟩) s2.order.length ocap) pv s2) 65)], [(mh, mo encI evT s2.held.1 s2.held.2)], [(mf, mo encV encI s2.fails.1 s2.fails.2)], [(ml, mo encV encI s2.links.1 s2.links.2)], oc, pc, dc, [(b3, cb (trC x) 33)]] w := hs.cast (by rw [hce]; simp)
      have hbp : bb ∉ ks pc := fun h => st_apart hs (i := 0) (j := 5) (by decide) rfl rfl bb h (by simp [ks])
      refine W_skip ?_
      refine W_block ?_ -- 1
      -- region 7 DRAWS
      refine W_draw Try.mixed [0, 0, 2, 6, 14, 0, 0, 64, 192, 448, 960, 2016, 4094, 8190, 16383] [11, 14] [0, 1, 2, 3, 4, 5, 6, 7, 8, 9, 10, 11, 12, 13, 14]
        (fun k w => k < 2 → w.cell? ⟨bb, 0 + 1, none⟩ = some (.slice (some ⟨ob, 0, none⟩) s2.order.length ocap) ∧ Hp oc w) (by decide +kernel) ?_
      have hs := hs.drew
      have hR : ∀ k : Nat, k < 2 → ({ w with drawn := w.drawn + 1 } : World).cell? ⟨bb, 0 + 1, none⟩ = some (.slice (some ⟨ob, 0, none⟩) s2.order.length ocap) ∧ Hp oc { w with drawn := w.drawn + 1 } := fun _ _ => ⟨At.one (hs.own (i := 0) rfl) rfl, hs.at (i := 4) rfl⟩
      refine dq_rp (hR _) rfl rfl rfl (fun w => r_move) ?_
      refine dq_rp (hR _) rfl rfl rfl (fun w => r_move) ?_
      refine dq_rp (hR _) rfl rfl rfl (fun w => r_nilCheck rfl) ?_
      refine dq_rp (hR _) rfl rfl rfl (fun w => r_field rfl fa65_1) ?_
      refine dq_r (hR _) rfl rfl rfl (fun k w _ hk2 hS => r_load1 rfl ty27 (hS (Nat.lt_of_le_of_lt hk2 (by decide))).1) ?_
      refine dq_rp (hR _) rfl rfl rfl (fun w => r_move) ?_
      refine dq_rp (hR _) rfl rfl rfl (fun w => r_move) ?_
      refine dq_rp (hR _) rfl rfl rfl (fun w => r_nilCheck rfl) ?_
      refine dq_rp (hR _) rfl rfl rfl (fun w => r_field rfl fa65_1) ?_
      refine dq_r (hR _) rfl rfl rfl (fun k w _ hk2 hS => r_load1 rfl ty27 (hS (Nat.lt_of_le_of_lt hk2 (by decide))).1) ?_
      refine dq_rp (hR _) rfl rfl rfl (fun w => r_lenS Try.underlying27 rfl) ?_
      refine dq_e (hR _) rfl rfl rfl (o_call (i := 0) cb26 rfl rfl (f26_calls bb mh mf ml (.slice (some ⟨ob, 0, none⟩) s2.order.length ocap) pv s2 pc s2.order.length (by omega) (by omega) hk.p hk.q hbp (by have := ok2.pk; omega)) hs rfl (hs.at (i := 5) rfl) ?_)
      rintro r c3 w ⟨rfl, pv3, hp3, hq3, rfl⟩ hs
      have hR : ∀ k : Nat, k < 2 → w.cell? ⟨bb, 0 + 1, none⟩ = some (.slice (some ⟨ob, 0, none⟩) s2.order.length ocap) ∧ Hp oc w := fun _ _ => ⟨At.one (hs.own (i := 0) rfl) rfl, hs.at (i := 4) rfl⟩
      refine dq_rp (hR _) rfl rfl rfl (fun w => r_index rfl rfl sl27 (by omega) (by omega)) ?_
      refine dq_r (hR _) rfl rfl rfl (fun k w _ hk2 hS => r_load1 rfl ty3 (hcell (hS (Nat.lt_of_le_of_lt hk2 (by decide))).2)) ?_
      obtain ⟨c4, hc4⟩ : ∃ c4, c4 = [(bb, cb (bx mh mf ml (.slice (some ⟨ob, 0, none⟩) s2.order.length ocap) pv3 (pickS s2)) 65)] ++ ([(mh, mo encI evT (pickS s2).held.1 (pickS s2).held.2)] ++ ([(mf, mo encV encI (pickS s2).fails.1 (pickS s2).fails.2)] ++ ([(ml, mo encV encI (pickS s2).links.1 (pickS s2).links.2)] ++ (oc ++ (pc ++ dc))))) := ⟨_, rfl⟩
      have hb4 : BK bb (pickS s2) c4 := ⟨mh, mf, ml, _, pv3, oc, pc, dc, ⟨hk.o, hp3, hq3, hk.h⟩, hc4⟩
      have hs4 : St w0 (ks c) [c4, [(b3, cb (trC x) 33)]] w := hs.cast (by rw [hc4]; simp [pickS])
      refine dq_e (hR _) rfl rfl rfl (o_call (i := 0) cb25 rfl rfl (f25_calls bb (pickS s2) c4 hb4 ok2.pick z) hs4 rfl trivial ?_)
      intro u c5 w hb5 hs
      have hlt := ev_lt hl0'
      rw [hev] at hlt
      have hno : s2 = s1 := by
        rcases hor with h | ⟨h, hf⟩
        · exact h
        · exfalso
          have o1 := ok1.o
          have l1 := ok1.lim
          have := ev_lt (s := s1) (by omega)
          rw [← h] at this
          omega
      subst hno
      refine dq_z (fun hk2 => absurd hk2 (by decide)) ?_
      exact ⟨evK s2, ⟨_, c5, ov_self ⟨rfl, rfl, trivial⟩, .inr ⟨rfl, hfull⟩, by rw [hev]; exact hb5, ok2.ev, rfl, hs⟩, by rw [hev]; exact hlt⟩
    · have hroom : ¬ s2.limit ≤ s2.order.length := of_decide_eq_false hd
      refine W_exit ?_ -- 0
      have he : ev1 s1 = s2 := by
        rcases hor with rfl | ⟨rfl, hf⟩
        · rw [ev1, if_neg hroom]
        · rw [ev1, if_pos hf]
      repeat with_reducible refine thenQ_exit ?_
      refine blockQ_exit ?_
      exact ⟨_, c2, ov_self ⟨rfl, rfl, trivial⟩, by rw [he]; exact hb2, hs⟩
  obtain ⟨g, c2, rfl, hb2, hs⟩ := hM
  have ok2 : Ok (ev1 s1) := ok1.ev1
  have hr2 := ev1_room ok1 (by rw [hd.2]; exact hz)
  have he2 := ev1_last s1
  rw [hd.1, hd.2] at he2
  rw [hd.2] at hr2
  obtain ⟨s2, hs2⟩ : ∃ s2, s2 = ev1 s1 := ⟨_, rfl⟩
  rw [← hs2] at hb2 ok2 hr2 he2
  obtain ⟨mh, mf, ml, ov2, pv, oc, pc, dc, hk, hce⟩ := hb2
  have hs : St w0 (ks c) [[(bb, cb (bx mh mf ml ov2 pv s2) 65)], [(mh, mo encI evT s2.held.1 s2.held.2)], [(mf, mo encV encI s2.fails.1 s2.fails.2)], [(ml, mo encV encI s2.links.1 s2.links.2)], oc, pc, dc, [(b3, cb (trC x) 33)]] w := hs.cast (by rw [hce]; simp)
  have hl2 := he2.1
  refine W_seq ?_
  -- region 8
  refine W_region (by decide +kernel) ?_
  refine sq_r r_move rfl ?_
  refine sq_r (r_nilCheck rfl) rfl ?_
  refine sq_r (r_field rfl fa65_6) rfl ?_
  refine sq_r (r_load1 rfl ty3 (At.one (v := .int .i64 s2.last) (hs.own (i := 0) rfl) rfl)) rfl ?_
  refine sq_r (r_add (c := s2.last + 1) rfl rfl (wrap_small (by omega) (by omega))) rfl ?_
  refine sq_r (r_nilCheck rfl) rfl ?_
  refine sq_r (r_field rfl fa65_6) rfl ?_
  refine sq_e rfl (o_store (i := 0) (vs := [.int .i64 (s2.last + 1)]) hs rfl rfl ty3 rfl (by simp [Value.oneCell']) (by simp [bx]) ?_); intro w hs
  refine sq_z ?_
  have hs : St w0 (ks c) [[(bb, cb [.map (some mh), ov2, .map (some mf), .map (some ml), .int .i64 s2.limit, pv, .int .i64 (s2.last + 1), .int .i64 s2.most] 65)], [(mh, mo encI evT s2.held.1 s2.held.2)], [(mf, mo encV encI s2.fails.1 s2.fails.2)], [(ml, mo encV encI s2.links.1 s2.links.2)], oc, pc, dc, [(b3, cb (trC x) 33)]] w := hs
  refine W_seq ?_
  -- region 9 DRAWS
  refine W_drawM hs Try.mixed [true, false, true, true, true, true, true, true] [0, 1, 3, 7, 0, 16, 48, 112, 0, 256, 1023] [9, 10] [0, 1, 2, 3, 4, 5, 6, 7, 8, 9, 10] (by decide +kernel) ?_
  intro w hs; have hR := hs.mask [true, false, true, true, true, true, true, true]
  refine dq_r hR rfl rfl rfl (fun _ w _ _ hR => r_move) ?_
  refine dq_r hR rfl rfl rfl (fun _ w _ _ hR => r_nilCheck rfl) ?_
  refine dq_r hR rfl rfl rfl (fun _ w _ _ hR => r_field rfl fa65_0) ?_
  refine dq_r hR rfl rfl rfl (fun _ w _ _ hR => r_load1 rfl ty62 (At.one (hR.own (i := 0) rfl) rfl)) ?_
  refine dq_r hR rfl rfl rfl (fun _ w _ _ hR => r_move) ?_
  refine dq_r hR rfl rfl rfl (fun _ w _ _ hR => r_nilCheck rfl) ?_
  refine dq_r hR rfl rfl rfl (fun _ w _ _ hR => r_field rfl fa65_6) ?_
  refine dq_r hR rfl rfl rfl (fun _ w _ _ hR => r_load1 rfl ty3 (At.one (v := .int .i64 (s2.last + 1)) (hR.own (i := 0) rfl) rfl)) ?_
  refine dq_r hR rfl rfl rfl (fun _ w _ _ hR => r_loadN rfl ty33 (trC_len x) (At.of_block (hR.own (i := 7) rfl) (by simp))) ?_
  refine dq_e hR rfl rfl rfl (o_call0 cb27 rfl rfl (f27_calls x (· ∉ ks c) hsm) hs (hrx hs) ?_)
  rintro r d w ⟨y, ci, cbk, co, cl, cv, dd, rfl, hyt, hown, hde⟩ hs
  have hheld : Held y d := fun w hw => by rw [hde] at hw ⊢; exact hown.rd hw
  have hR := hs.mask [true, false, true, true, true, true, true, true]
  refine dq_e hR rfl rfl rfl (o_mapUpdate (i := 1) (a := s2.last + 1) (v := y) KT3 Try.underlying62 hs rfl rfl rfl rfl ok2.h.keys ?_); intro w hs
  have hR := hs.mask [true, false, true, true, true, true, true, true]
  refine dq_z hR ?_
  have hs : St w0 (ks c) [[(bb, cb [.map (some mh), ov2, .map (some mf), .map (some ml), .int .i64 s2.limit, pv, .int .i64 (s2.last + 1), .int .i64 s2.most] 65)], [(mh, mo encI evT (mput s2.held.1 s2.held.2 (s2.last + 1) y) (mclk s2.held.1 s2.held.2 (s2.last + 1)))], [(mf, mo encV encI s2.fails.1 s2.fails.2)], [(ml, mo encV encI s2.links.1 s2.links.2)], oc, pc, dc, [(b3, cb (trC x) 33)], d] w := hs
  have ho2 := ok2.o
  have hmax : 20000000000000 ≤ maxLen := by decide +kernel
  refine W_seq ?_
  -- region 10 DRAWS
  refine W_drawT hs Try.mixed [true, true, true, true, false, true, true, true, true] [false, true, true, true, false, true, true, true, true] 3 [0, 0, 2, 6, 14, 0, 32, 96, 224, 480, 1022, 2047, 4095, 8191] [9, 10, 13] [0, 1, 2, 3, 4, 5, 6, 7, 8, 9, 10, 11, 12, 13] (by decide +kernel) ?_
  intro w hs; have hR := hs.mask [true, true, true, true, false, true, true, true, true]
  refine dq_rp hR rfl rfl rfl (fun w => r_move) ?_
  refine dq_rp hR rfl rfl rfl (fun w => r_move) ?_
  refine dq_rp hR rfl rfl rfl (fun w => r_nilCheck rfl) ?_
  refine dq_rp hR rfl rfl rfl (fun w => r_field rfl fa65_1) ?_
  refine dq_r1 hR rfl rfl (by decide) rfl (fun w hR => r_load1 rfl ty27 (At.one (v := ov2) (hR.own (i := 0) rfl) rfl)) ?_
  refine dq_rp hR rfl rfl rfl (fun w => r_move) ?_
  refine dq_rp hR rfl rfl rfl (fun w => r_nilCheck rfl) ?_
  refine dq_rp hR rfl rfl rfl (fun w => r_field rfl fa65_6) ?_
  refine dq_r1 hR rfl rfl (by decide) rfl (fun w hR => r_load1 rfl ty3 (At.one (v := .int .i64 (s2.last + 1)) (hR.own (i := 0) rfl) rfl)) ?_
  refine dq_e hR rfl rfl rfl (o_buildN [.int .i64 (s2.last + 1)] [[.int .i64 (s2.last + 1)]] sl27 ty3 hs rfl rfl rfl (by simp) (by simp) ?_); intro b9 w hs
  have hR := hs.mask [true, true, true, true, false, true, true, true, true]
  refine dq_e hR rfl rfl rfl (o_append (i := 4) (m := 1) (news := [.int .i64 (s2.last + 1)]) (soff := 0) (sb := b9) (scap := 1) sl27 ty3 rfl hs rfl rfl rfl hk.o (by simp) (At.of_block (hs.own (i := 9) rfl) (by simp)) (by simp [Value.oneCell']) (by omega) (by omega) ?_)
  intro ov3 oc3 w hsl hs
  have hR := hs.mask [true, true, true, true, false, true, true, true, true]
  refine dq_rp hR rfl rfl rfl (fun w => r_nilCheck rfl) ?_
  refine dq_rp hR rfl rfl rfl (fun w => r_field rfl fa65_1) ?_
  refine dq_e hR rfl rfl rfl (o_store (i := 0) (vs := [ov3]) hs rfl (sl_one hsl).2 ty27 rfl (by simpa using (sl_one hsl).1) (by simp) ?_); intro w hs
  have hR := hs.mask [false, true, true, true, false, true, true, true, true]
  refine dq_z hR ?_
  obtain ⟨oa3, ocap3, rfl⟩ := hsl.len
  have hs : St w0 (ks c) [[(bb, cb [.map (some mh), .slice oa3 (s2.order.length + 1) ocap3, .map (some mf), .map (some ml), .int .i64 s2.limit, pv, .int .i64 (s2.last + 1), .int .i64 s2.most] 65)], [(mh, mo encI evT (mput s2.held.1 s2.held.2 (s2.last + 1) y) (mclk s2.held.1 s2.held.2 (s2.last + 1)))], [(mf, mo encV encI s2.fails.1 s2.fails.2)], [(ml, mo encV encI s2.links.1 s2.links.2)], oc3, pc, dc, [(b3, cb (trC x) 33)], d] w := (hs.mask [true, true, true, true, true, true, true, true, true])
  refine W_seq ?_
  -- region 11 DRAWS
  refine W_drawT hs Try.mixed [true, true, true, true, true, true, true, true, true] [false, true, true, true, true, true, true, true, true] 1 [0, 0, 2, 6, 14, 0, 32, 96, 224, 480, 1022, 2047, 4095, 8191] [13] [0, 1, 2, 3, 4, 5, 6, 7, 8, 9, 10, 11, 12, 13] (by decide +kernel) ?_
  intro w hs; have hR := hs.mask [true, true, true, true, true, true, true, true, true]
  refine dq_rp hR rfl rfl rfl (fun w => r_move) ?_
  refine dq_rp hR rfl rfl rfl (fun w => r_move) ?_
  refine dq_rp hR rfl rfl rfl (fun w => r_nilCheck rfl) ?_
  refine dq_rp hR rfl rfl rfl (fun w => r_field rfl fa65_7) ?_
  refine dq_r1 hR rfl rfl (by decide) rfl (fun w hR => r_load1 rfl ty3 (At.one (v := .int .i64 s2.most) (hR.own (i := 0) rfl) rfl)) ?_
  refine dq_rp hR rfl rfl rfl (fun w => r_move) ?_
  refine dq_rp hR rfl rfl rfl (fun w => r_nilCheck rfl) ?_
  refine dq_rp hR rfl rfl rfl (fun w => r_field rfl fa65_1) ?_
  refine dq_r1 hR rfl rfl (by decide) rfl (fun w hR => r_load1 rfl ty27 (At.one (hR.own (i := 0) rfl) rfl)) ?_
  refine dq_rp hR rfl rfl rfl (fun w => r_lenS Try.underlying27 rfl) ?_
  refine dq_rp hR rfl rfl rfl (fun w => r_max rfl rfl) ?_
  refine dq_rp hR rfl rfl rfl (fun w => r_nilCheck rfl) ?_
  refine dq_rp hR rfl rfl rfl (fun w => r_field rfl fa65_7) ?_
  refine dq_e hR rfl rfl rfl (o_store (i := 0) (vs := [.int .i64 (max s2.most ((s2.order.length + 1 : Nat) : Int))]) hs rfl rfl ty3 rfl (by simp [Value.oneCell']) (by simp) ?_); intro w hs
  have hR := hs.mask [false, true, true, true, true, true, true, true, true]
  refine dq_z hR ?_
  have hs : St w0 (ks c) [[(bb, cb (bx mh mf ml (.slice oa3 (s2.order.length + 1) ocap3) pv (addK s2 y)) 65)], [(mh, mo encI evT (addK s2 y).held.1 (addK s2 y).held.2)], [(mf, mo encV encI s2.fails.1 s2.fails.2)], [(ml, mo encV encI s2.links.1 s2.links.2)], oc3, pc, dc, [(b3, cb (trC x) 33)], d] w := hs
  refine W_seq ?_
  -- region 12
  refine W_region (by decide +kernel) ?_
  refine sq_r r_move rfl ?_
  refine sq_r (r_nilCheck rfl) rfl ?_
  refine sq_r (r_field rfl fa65_6) rfl ?_
  refine sq_r (r_load1 rfl ty3 (At.one (v := .int .i64 (s2.last + 1)) (hs.own (i := 0) rfl) rfl)) rfl ?_
  refine sq_r r_assign rfl ?_
  refine sq_z ?_
  refine W_ret ?_
  have hky : y.key = x.key := (LT.t_eq hyt).1
  have hput : putS s y = addK s2 y := by rw [putS, if_neg hz, hky, ← hs1, ← hs2]
  refine ret1 (v := .int .i64 (s2.last + 1)) rfl (by decide) rfl (fin (c' := [(bb, cb (bx mh mf ml (.slice oa3 (s2.order.length + 1) ocap3) pv (addK s2 y)) 65)] ++ ([(mh, mo encI evT (addK s2 y).held.1 (addK s2 y).held.2)] ++ ([(mf, mo encV encI s2.fails.1 s2.fails.2)] ++ ([(ml, mo encV encI s2.links.1 s2.links.2)] ++ (oc3 ++ (pc ++ (dc ++ d))))))) hs
    ⟨y, hyt, by rw [putN, if_neg hz, hl2], ?_⟩ ?_)
  · rw [hput]
    refine ⟨mh, mf, ml, _, pv, oc3, pc, dc ++ d, ⟨?_, hk.p, hk.q, fun r hr => ?_⟩, rfl⟩
    · show Sl 3 1 _ (s2.order ++ [s2.last + 1]).length (ic (s2.order ++ [s2.last + 1])) oc3
      rw [List.length_append, ic_app]
      exact hsl
    · rcases mem_mput hr with ⟨h1, _⟩ | ⟨_, h1⟩
      · exact ⟨(hk.h r h1).1.left d, (hk.h r h1).2⟩
      · rw [h1]
        exact ⟨hheld.right dc, small_t hsm hyt⟩
  · simp only [List.flatten_cons, List.flatten_nil, List.append_nil, List.cons_append, List.nil_append]
    repeat refine List.Sublist.cons_cons _ ?_
    refine (List.Sublist.refl oc3).append ((List.Sublist.refl pc).append ((List.Sublist.refl dc).append ?_))
    exact List.sublist_cons_self _ _

end Go.Proofs.Ytddhdoncjfgfnaa
