/-
  Layer 15: the law CacheActs' walk: call by call the cache and its own reference answer alike. Conditions: what comes in is not long.
-/
import Derived.Test.YtddhdoncjfgfnaaAct
namespace Go.Proofs.Ytddhdoncjfgfnaa
open Go.Eng

theorem r_row_key {w : World} {b off n cap : Nat} {xs : List (Int × LT)} {B : Nat → Prop} (h : RdG 18 rowC B (.slice (some ⟨b, off, none⟩) n cap) xs w) {i : Nat} {p : Int × LT} (hi : xs[i]? = some p) : At w b (off + i * 18 + 1 + 0) (ic p.2.key.toList) :=
  (h.get2 hi).sub 1 (by simpa using rowC_key p)

set_option maxRecDepth 40000 in
set_option maxHeartbeats 8000000 in
theorem f5_law (limit : Int) (pv : Value) (picks : List Int) (av : Value) (xs : List AcT) (hpl : picks.length ≤ 17592186043904) (hsm : ∀ a ∈ xs, a.t.small) (hn : xs.length ≤ 567489872384) :
    Ctr Try.prog 5 #[.int .i64 limit, pv, av] [] (fun w => RdG 1 iF (· < w.heap.size) pv picks w ∧ RdG 21 actC (· < w.heap.size) av xs w ∧ ∀ a ∈ xs, RdT (· < w.heap.size) a.t w) (fun v c => v = .bool true ∧ c = []) := by
  intro w0 hp hro
  have hs : St w0 (ks []) [] w0 := St.start w0
  have hmax : 20000000000000 ≤ maxLen := by decide +kernel
  have hkB : ∀ b, b < w0.heap.size → b ∉ ks [] := by simp [ks]
  obtain ⟨hrp, hra, hrt⟩ := hro
  obtain ⟨pa, pcap, rfl⟩ := hrp.len
  obtain ⟨aa, acap, rfl⟩ := hra.len
  refine calls_W (n := 101) Try.func5 rfl Try.ntmps5 (by simp) ?_
  refine W_seq ?_
  -- region 0
  refine W_region (by decide +kernel) ?_
  refine sq_r r_assign rfl ?_
  refine sq_z ?_
  refine W_seq ?_
  refine W_seq ?_
  -- region 1
  refine W_region (by decide +kernel) ?_
  refine sq_e rfl (o_callN cb7 rfl rfl (Post := fun v _ => v = .bool true) f7_calls hs trivial ?_)
  rintro v w rfl hs
  refine sq_r (r_not rfl) rfl ?_
  refine sq_z ?_
  refine W_cond rfl rfl (fun hc => ?_) (fun hc => ?_)
  · cases hc
  refine W_skip ?_
  refine W_seq ?_
  -- region 3
  refine W_region (by decide +kernel) ?_
  refine sq_r r_move rfl ?_
  refine sq_r (r_lenS Try.underlying27 rfl) rfl ?_
  refine sq_r r_assign rfl ?_
  refine sq_z ?_
  refine W_seq ?_
  refine W_seq ?_
  -- region 4
  refine W_region (by decide +kernel) ?_
  refine sq_r r_move rfl ?_
  refine sq_r (r_lenS Try.underlying48 rfl) rfl ?_
  refine sq_r r_move rfl ?_
  refine sq_z ?_
  refine W_block ?_ -- 0
  refine W_loop (fun (i : Nat) f w => ∃ g z, f = ov [(0, .int .i64 limit), (1, .slice pa picks.length pcap), (2, .slice aa xs.length acap), (7, .int .i64 z), (20, .slice aa xs.length acap), (21, .int .i64 xs.length), (22, .int .i64 i)] g ∧ i ≤ xs.length ∧ St w0 (ks []) [] w) (fun i => xs.length - i) 0 ?_ ?_
  · exact ⟨_, _, ov_self ⟨rfl, rfl, rfl, rfl, rfl, rfl, rfl, trivial⟩, Nat.zero_le _, hs⟩
  clear hs
  rintro i f w ⟨g, z, rfl, hi, hs⟩
  refine W_seq ?_
  -- region 5
  refine W_region (by decide +kernel) ?_
  refine sq_r (r_cmp rfl rfl rfl) rfl ?_
  refine sq_z ?_
  refine W_seq ?_
  refine W_cond rfl rfl (fun hd => ?_) (fun hd => ?_)
  · have hlt : i < xs.length := by have := of_decide_eq_true hd; omega
    obtain ⟨x, hx⟩ : ∃ x, xs[i]? = some x := ⟨_, List.getElem?_eq_getElem hlt⟩
    have hxm := List.mem_of_getElem? hx
    obtain ⟨b, off, rfl, _, _⟩ := hra.get hx
    refine W_skip ?_
    refine W_seq ?_
    refine W_block ?_ -- 1
    refine W_seq ?_
    -- region 6
    refine W_region (by decide +kernel) ?_
    refine sq_r (r_index rfl rfl sl48 (by omega) (by omega)) rfl ?_
    refine sq_r (r_loadN rfl ty50 (actC_len x) ((hra.old actC_len (by decide) hs hkB).get2 hx)) rfl ?_
    refine sq_e rfl (o_alloc hs ty50 ?_); intro b9 w hs
    refine sq_e rfl (o_store (i := 0) (vs := actC x) hs rfl rfl (by rw [actC_len]; exact ty50) rfl (actC_one (hrt x hxm).one) (by simp [actC_len]) ?_); intro w hs
    refine sq_z ?_
    have hs : St w0 (ks []) [[(b9, cb (actC x) 50)]] w := by
      rw [← spl_all (cs := [Value.int .i64 0, .int .i64 0, .int .i64 0, .int .i64 0, .int .i64 0, .int .i64 0, .int .i64 0, .int .i64 0, .int .i64 0, .int .i64 0, .int .i64 0, .int .i64 0, .int .i64 0, .slice none 0 0, .slice none 0 0, .slice none 0 0, .slice none 0 0, .slice none 0 0, .int .i64 0, .int .i64 0, .int .i64 0]) (vs := actC x) (by simp [actC_len])]
      exact hs
    -- region 7
    refine W_region (by decide +kernel) ?_
    refine sq_r r_move rfl ?_
    refine sq_r (r_field rfl fa50_1) rfl ?_
    refine sq_r (r_loadN rfl ty33 (trC_len x.t) (At.of_block (hs.own (i := 0) rfl) (by rw [trC_len]; exact actC_tr x))) rfl ?_
    refine sq_e rfl (o_callN cb8 rfl rfl (Post := fun r _ => ∃ z, r = .int .i64 z) (f8_calls x.t (· < w0.heap.size) (hsm x hxm)) hs ((hrt x hxm).old hs hkB) ?_)
    rintro r w ⟨z', rfl⟩ hs
    refine sq_r (r_add rfl rfl rfl) rfl ?_
    refine sq_r (r_add rfl rfl rfl) rfl ?_
    refine sq_r r_assign rfl ?_
    refine sq_z ?_
    -- region 8
    refine W_region (by decide +kernel) ?_
    refine sq_r (r_add rfl rfl (wrap_small (by omega) (by omega))) rfl ?_
    refine sq_r r_move rfl ?_
    refine sq_z ?_
    exact ⟨i + 1, ⟨_, _, ov_self ⟨rfl, rfl, rfl, rfl, rfl, rfl, rfl, trivial⟩, by omega, hs.keep (by simp)⟩, by omega⟩
  refine W_exit ?_ -- 0
  refine W_seq ?_
  refine W_seq ?_
  -- region 9
  refine W_region (by decide +kernel) ?_
  refine sq_r r_move rfl ?_
  refine sq_r (r_cmp rfl rfl rfl) rfl ?_
  refine sq_z ?_
  refine W_cond rfl rfl (fun hc => ?_) (fun hc => ?_)
  · refine W_seq ?_
    -- region 10
    refine W_region (by decide +kernel) ?_
    refine sq_r r_assign rfl ?_
    refine sq_z ?_
    refine W_ret ?_
    repeat with_reducible first | refine thenQ_ret ?_ | refine blockQ_ret ?_
    exact ret1 (v := .bool true) rfl (by decide) rfl (fin (c' := []) hs ⟨rfl, rfl⟩ (by simp))
  refine W_skip ?_
  refine W_seq ?_
  -- region 11
  refine W_region (by decide +kernel) ?_
  refine sq_r r_move rfl ?_
  refine sq_r r_move rfl ?_
  refine sq_e rfl (o_call0 cb9 rfl rfl (f9_calls limit (.slice pa picks.length pcap) picks (· < w0.heap.size) hpl) hs (hrp.old iF_len (by decide) hs hkB) ?_)
  rintro v c w ⟨bb, c0, rfl, hcp, hb0⟩ hs
  have hs : St w0 (ks []) [c0] w := st_perm (ls := [c]) hs (by simpa using hcp)
  refine sq_r r_move rfl ?_
  refine sq_r r_move rfl ?_
  refine sq_e rfl (o_call0 cb14 rfl rfl (f14_calls limit pa picks.length pcap picks) hs trivial ?_)
  rintro v c2 w ⟨rb, rfl, hk0⟩ hs
  refine sq_r r_assign rfl ?_
  refine sq_r r_assign rfl ?_
  refine sq_z ?_
  have hs : St w0 (ks []) [c0 ++ c2] w := hs.cast (by simp)
  refine W_seq ?_
  refine W_seq ?_
  -- region 12
  refine W_region (by decide +kernel) ?_
  refine sq_r r_move rfl ?_
  refine sq_r (r_eqnil Try.underlying36 rfl rfl) rfl ?_
  refine sq_z ?_
  refine W_cond rfl rfl (fun hc => ?_) (fun hc => ?_)
  · cases hc
  refine W_skip ?_
  refine W_seq ?_
  refine W_seq ?_
  -- region 14
  refine W_region (by decide +kernel) ?_
  refine sq_r r_move rfl ?_
  refine sq_r (r_lenS Try.underlying48 rfl) rfl ?_
  refine sq_r r_move rfl ?_
  refine sq_z ?_
  refine W_block ?_ -- 2
  have hrel0 := RelC.new limit picks hpl
  -- LOOP
  refine W_loop (fun (i : Nat) f w => ∃ g s r c1 c2, f = ov [(0, .int .i64 limit), (10, .pointer (some ⟨bb, 0, none⟩)), (11, .pointer (some ⟨rb, 0, none⟩)), (43, .slice aa xs.length acap), (44, .int .i64 xs.length), (45, .int .i64 i)] g ∧ i ≤ xs.length ∧ BK bb s c1 ∧ RK rb (.slice pa picks.length pcap) r c2 ∧ RelC s r ∧ r.notes.length ≤ i ∧ s.last ≤ (i : Int) ∧ r.picks = picks ∧ r.limit = min (max limit 0) 1000 ∧ (∀ p ∈ r.rows, ∃ a ∈ xs, p.2 = a.t) ∧ St w0 (ks []) [c1 ++ c2] w) (fun i => xs.length - i) 0 ?_ ?_
  · exact ⟨_, _, _, c0, c2, ov_self ⟨rfl, rfl, rfl, rfl, rfl, rfl, trivial⟩, Nat.zero_le _, hb0, hk0, hrel0, Nat.le_refl _, Int.le_refl _, rfl, rfl, (fun p hp => by cases hp), hs⟩
  clear hs hb0 hk0 hrel0 hcp
  rintro i f w ⟨g, s, r, c1, c2, rfl, hi, hb, hk, hrel, hnl, hla, hpk, hlm, hrw, hs⟩
  refine W_seq ?_
  -- region 15
  refine W_region (by decide +kernel) ?_
  refine sq_r (r_cmp rfl rfl rfl) rfl ?_
  refine sq_z ?_
  refine W_seq ?_
  refine W_cond rfl rfl (fun hd => ?_) (fun hd => ?_)
  · have hlt : i < xs.length := by have := of_decide_eq_true hd; omega
    obtain ⟨x, hx⟩ : ∃ x, xs[i]? = some x := ⟨_, List.getElem?_eq_getElem hlt⟩
    have hxm := List.mem_of_getElem? hx
    obtain ⟨b, off, rfl, _, _⟩ := hra.get hx
    refine W_skip ?_
    refine W_seq ?_
    refine W_block ?_ -- 3
    refine W_seq ?_
    -- region 16
    refine W_region (by decide +kernel) ?_
    refine sq_r (r_index rfl rfl sl48 (by omega) (by omega)) rfl ?_
    refine sq_r (r_loadN rfl ty50 (actC_len x) ((hra.old actC_len (by decide) hs hkB).get2 hx)) rfl ?_
    refine sq_e rfl (o_alloc hs ty50 ?_); intro b13 w hs
    refine sq_e rfl (o_store (i := 1) (vs := actC x) hs rfl rfl (by rw [actC_len]; exact ty50) rfl (actC_one (hrt x hxm).one) (by simp [actC_len]) ?_); intro w hs
    refine sq_z ?_
    have hs : St w0 (ks []) [c1 ++ c2, [(b13, cb (actC x) 50)]] w := by
      rw [← spl_all (cs := [Value.int .i64 0, .int .i64 0, .int .i64 0, .int .i64 0, .int .i64 0, .int .i64 0, .int .i64 0, .int .i64 0, .int .i64 0, .int .i64 0, .int .i64 0, .int .i64 0, .int .i64 0, .slice none 0 0, .slice none 0 0, .slice none 0 0, .slice none 0 0, .slice none 0 0, .int .i64 0, .int .i64 0, .int .i64 0]) (vs := actC x) (by simp [actC_len])]
      exact hs
    refine W_seq ?_
    -- region 17 DRAWS, with the test behind it
    refine W_mid (M := fun f w => ∃ g s' r' c1' c2', f = ov [(0, .int .i64 limit), (10, .pointer (some ⟨bb, 0, none⟩)), (11, .pointer (some ⟨rb, 0, none⟩)), (43, .slice (some ⟨b, off, none⟩) xs.length acap), (44, .int .i64 xs.length), (45, .int .i64 i), (62, .bool false)] g ∧ BK bb s' c1' ∧ RK rb (.slice pa picks.length pcap) r' c2' ∧ RelC s' r' ∧ r'.notes.length ≤ i + 1 ∧ s'.last ≤ ((i + 1 : Nat) : Int) ∧ r'.picks = picks ∧ r'.limit = min (max limit 0) 1000 ∧ (∀ p ∈ r'.rows, ∃ a ∈ xs, p.2 = a.t) ∧ St w0 (ks []) [c1' ++ c2'] w) ?_ (fun f w hM => ?_)
    · refine W_draw Try.mixed [0, 0, 0, 7, 15, 31, 63, 127, 63, 319, 831, 1855, 4095, 8191] [3, 7] [0, 1, 2, 3, 4, 5, 6, 8, 9, 10, 11, 7, 12, 13]
        (fun k w => (k < 1 → w.heap[b13]? = some (cb (actC x) 50)) ∧ (1 ≤ k → w.cell? ⟨rb, 0 + 6, none⟩ = some (.int .i64 (topA r x)))) (by decide +kernel) ?_
      have hs := hs.drew
      have hR : ∀ k : Nat, k < 1 → ((k < 1 → ({ w with drawn := w.drawn + 1 } : World).heap[b13]? = some (cb (actC x) 50)) ∧ (1 ≤ k → ({ w with drawn := w.drawn + 1 } : World).cell? ⟨rb, 0 + 6, none⟩ = some (.int .i64 (topA r x)))) :=
        fun k hk => ⟨fun _ => hs.own (i := 1) rfl, fun h => absurd h (by omega)⟩
      refine dq_rp (hR _ (by decide)) rfl rfl rfl (fun w => r_move) ?_
      refine dq_rp (hR _ (by decide)) rfl rfl rfl (fun w => r_move) ?_
      refine dq_r (hR _ (by decide)) rfl rfl rfl (fun k w _ hk2 hS => r_loadN rfl ty50 (actC_len x) (At.of_block (hS.1 (Nat.lt_of_le_of_lt hk2 (by decide))) (by simp))) ?_
      refine dq_e (hR _ (by decide)) rfl rfl rfl (o_call (i := 0) cb15 rfl rfl (f15_calls bb rb pa picks.length pcap s r c1 c2 x hb hk hrel (by omega) (by omega) (by rw [hpk]; exact hpl) (hsm x hxm) (fun p hp => by obtain ⟨a, ha, e⟩ := hrw p hp; rw [e]; exact hsm a ha)) hs rfl
        ⟨by rw [hpk]; exact (hrp.old iF_len (by decide) hs hkB).mono fun b hb h => st_out0 hs hb (ks_mem (i := 0) rfl h), ((hrt x hxm).old hs hkB).mono fun b hb h => st_out0 hs hb (ks_mem (i := 0) rfl h), fun p hp => by
          obtain ⟨a, ha, e⟩ := hrw p hp
          rw [e]
          exact ((hrt a ha).old hs hkB).mono fun b hb h => st_out0 hs hb (ks_mem (i := 0) rfl h)⟩ ?_)
      rintro u c' w ⟨rfl, s', r', c1', c2', rfl, hb1, hk1, hrel1, hnl1, hla1, hpk1, hlm1, htp, hrw1⟩ hs
      have hcell : w.cell? ⟨rb, 0 + 6, none⟩ = some (.int .i64 (topA r x)) := by
        obtain ⟨rv, nv, rc, nc, hce, _⟩ := id hk1
        have h2 : Hp c2' w := (hs.at (i := 0) rfl).right
        have h3 := h2.has (rb, cb (rbx rv nv (.slice pa picks.length pcap) r') 58) (by rw [hce]; simp)
        rw [← htp]
        exact At.one h3 rfl
      have hR : ∀ k : Nat, 1 ≤ k → ((k < 1 → w.heap[b13]? = some (cb (actC x) 50)) ∧ (1 ≤ k → w.cell? ⟨rb, 0 + 6, none⟩ = some (.int .i64 (topA r x)))) :=
        fun k hk => ⟨fun h => absurd h (by omega), fun _ => hcell⟩
      refine dq_rp (hR _ (by decide)) rfl rfl rfl (fun w => r_not rfl) ?_
      refine dq_rp (hR _ (by decide)) rfl rfl rfl (fun w => r_move) ?_
      refine dq_rp (hR _ (by decide)) rfl rfl rfl (fun w => r_move) ?_
      refine dq_rp (hR _ (by decide)) rfl rfl rfl (fun w => r_move) ?_
      refine dq_rp (hR _ (by decide)) rfl rfl rfl (fun w => r_nilCheck rfl) ?_
      refine dq_rp (hR _ (by decide)) rfl rfl rfl (fun w => r_field rfl fa58_6) ?_
      refine dq_r (hR _ (by decide)) rfl rfl rfl (fun k w hk1 _ hS => r_load1 rfl ty3 (hS.2 (Nat.le_trans (by decide) hk1))) ?_
      refine dq_e (hR _ (by decide)) rfl rfl rfl (o_callN cb16 rfl rfl (Post := fun v _ => v = .int .i64 s'.most) (f16_calls bb s' c1' hb1) hs (hs.at (i := 0) rfl).left ?_)
      rintro u w2 rfl hs2
      have hcell2 : w2.cell? ⟨rb, 0 + 6, none⟩ = some (.int .i64 (topA r x)) := by
        obtain ⟨rv, nv, rc, nc, hce, _⟩ := id hk1
        have h2 : Hp c2' w2 := (hs2.at (i := 0) rfl).right
        have h3 := h2.has (rb, cb (rbx rv nv (.slice pa picks.length pcap) r') 58) (by rw [hce]; simp)
        rw [← htp]
        exact At.one h3 rfl
      have hR : ∀ k : Nat, 1 ≤ k → ((k < 1 → w2.heap[b13]? = some (cb (actC x) 50)) ∧ (1 ≤ k → w2.cell? ⟨rb, 0 + 6, none⟩ = some (.int .i64 (topA r x)))) :=
        fun k hk => ⟨fun h => absurd h (by omega), fun _ => hcell2⟩
      refine dq_rp (hR _ (by decide)) rfl rfl rfl (fun w => r_cmp (r := false) rfl rfl (by simp [cmpB, hrel1.top, htp])) ?_
      refine dq_rp (hR _ (by decide)) rfl rfl rfl (fun w => r_pick (b := false) rfl) ?_
      refine dq_z (hR _ (by decide)) ?_
      refine ⟨_, s', r', c1', c2', ov_self ⟨rfl, rfl, rfl, rfl, rfl, rfl, rfl, trivial⟩, hb1, hk1, hrel1, by omega, by omega, hpk1.trans hpk, hlm1.trans hlm, fun p hp => ?_, hs2.keep (by simp)⟩
      rcases hrw1 p hp with h | h
      · exact hrw p h
      · exact ⟨x, hxm, h⟩
    clear hs hb hk hrel hnl hla hpk hlm hrw
    obtain ⟨g, s, r, c1, c2, rfl, hb, hk, hrel, hnl, hla, hpk, hlm, hrw, hs⟩ := hM
    refine W_cond rfl rfl (fun hc => ?_) (fun hc => ?_)
    · cases hc
    refine W_skip ?_
    have ho := hrel.inv.ok.o
    have hlim := hrel.inv.ok.lim
    have hll := hrel.lim
    have hlen := hrel.len
    have hord := hrel.ord
    have h13 := f13_calls bb s c1 hb (by omega)
    obtain ⟨K, hK⟩ : ∃ K, K = s.order.map (keyOf s) := ⟨_, rfl⟩
    have hKl : s.order.length = K.length := by rw [hK, List.length_map]
    have hKr : ∀ (j : Nat) (p : Int × LT), r.rows[j]? = some p → K[j]? = some p.2.key := fun j p hj => by
      rw [hK, hord, List.map_map, List.getElem?_map, hj]
      simp only [Option.map_some, Function.comp_def, Option.some.injEq]
      exact hrel.key (List.mem_of_getElem? hj)
    rw [← hK, hKl] at h13
    have hKb : K.length ≤ 1000 := by omega
    have hKn : K.length = r.rows.length := by omega
    have hKm : (K.length : Int) ≤ max limit 0 := by omega
    clear hK
    refine W_seq ?_
    -- region 19
    refine W_region (by decide +kernel) ?_
    refine sq_r r_move rfl ?_
    refine sq_e rfl (o_call0 cb13 rfl rfl h13 hs (hs.at (i := 0) rfl).left ?_)
    rintro u d w hsl hs
    have hlx := Sl.len hsl
    obtain ⟨ka, hlx⟩ := hlx
    obtain ⟨kcap, hue⟩ := hlx
    subst hue
    refine sq_r r_assign rfl ?_
    refine sq_z ?_
    have hs : St w0 (ks []) [c1 ++ c2, d] w := hs
    have hk0 := hk
    obtain ⟨rv, nv, rc, nc, hce, hrs, hns, hr1⟩ := hk0
    have hlr := Sl.len hrs
    obtain ⟨ra, hlr⟩ := hlr
    obtain ⟨rcap, hre⟩ := hlr
    subst hre
    have hB : ∀ {w : World}, Hp c2 w → w.heap[rb]? = some (cb (rbx (.slice ra r.rows.length rcap) nv (.slice pa picks.length pcap) r) 58) := fun h => h.has (rb, cb (rbx (.slice ra r.rows.length rcap) nv (.slice pa picks.length pcap) r) 58) (by rw [hce]; simp)
    have hRr : ∀ {w : World}, Hp c2 w → RdG 18 rowC (· ∈ ks rc) (.slice ra r.rows.length rcap) r.rows w := fun h => sl_rd rowC_len (by decide) hrs (by rw [hce] at h; exact h.right.left)
    refine W_seq ?_
    refine W_seq ?_
    -- region 20
    refine W_region (by decide +kernel) ?_
    refine sq_r r_move rfl ?_
    refine sq_r (r_lenS Try.underlying45 rfl) rfl ?_
    refine sq_r r_move rfl ?_
    refine sq_r (r_nilCheck rfl) rfl ?_
    refine sq_r (r_field rfl fa58_0) rfl ?_
    refine sq_r (r_load1 rfl ty55 (At.one (hB (hs.at (i := 0) rfl).right) rfl)) rfl ?_
    refine sq_r (r_lenS Try.underlying55 rfl) rfl ?_
    refine sq_r (r_cmp (r := false) rfl rfl (by simp [cmpB, hKn])) rfl ?_
    refine sq_r r_move rfl ?_
    refine sq_r r_move rfl ?_
    refine sq_r (r_lenS Try.underlying45 rfl) rfl ?_
    refine sq_r r_move rfl ?_
    refine sq_r (r_max rfl rfl) rfl ?_
    refine sq_r (r_cmp (r := false) rfl rfl (by simp [cmpB]; omega)) rfl ?_
    refine sq_r (r_pick (b := false) rfl) rfl ?_
    refine sq_z ?_
    refine W_cond rfl rfl (fun hc => ?_) (fun hc => ?_)
    · cases hc
    refine W_skip ?_
    refine W_seq ?_
    -- region 22
    refine W_region (by decide +kernel) ?_
    refine sq_r r_move rfl ?_
    refine sq_r (r_lenS Try.underlying45 rfl) rfl ?_
    refine sq_r r_move rfl ?_
    refine sq_z ?_
    refine W_block ?_ -- 4
    -- LOOP
    refine W_loop (fun (q : Nat) f w => ∃ g, f = ov [(0, .int .i64 limit), (10, .pointer (some ⟨bb, 0, none⟩)), (11, .pointer (some ⟨rb, 0, none⟩)), (43, .slice (some ⟨b, off, none⟩) xs.length acap), (44, .int .i64 xs.length), (45, .int .i64 i), (14, .slice ka K.length kcap), (81, .int .i64 K.length), (82, .int .i64 q)] g ∧ q ≤ K.length ∧ St w0 (ks []) [c1 ++ c2, d] w) (fun q => K.length - q) 0 ?_ ?_
    · exact ⟨_, ov_self ⟨rfl, rfl, rfl, rfl, rfl, rfl, rfl, rfl, rfl, trivial⟩, Nat.zero_le _, hs⟩
    clear hs
    rintro q f w ⟨g, rfl, hql, hs⟩
    refine W_seq ?_
    -- region 23
    refine W_region (by decide +kernel) ?_
    refine sq_r (r_cmp rfl rfl rfl) rfl ?_
    refine sq_z ?_
    refine W_seq ?_
    refine W_cond rfl rfl (fun hd3 => ?_) (fun hd3 => ?_)
    · have hqlt : q < K.length := by have := of_decide_eq_true hd3; omega
      obtain ⟨p, hpq⟩ : ∃ p, r.rows[q]? = some p := ⟨_, List.getElem?_eq_getElem (by omega)⟩
      have hkq := hKr q p hpq
      have hrdk : ∀ {w : World}, Hp d w → RdG 10 kF (· ∈ ks d) (.slice ka K.length kcap) K w := fun h => sl_rd kF_len (by decide) hsl h
      obtain ⟨kb, koff, rfl, _, _⟩ := (hrdk (hs.at (i := 1) rfl)).get hkq
      obtain ⟨rb2, roff, rfl, _, _⟩ := (hRr (hs.at (i := 0) rfl).right).get hpq
      refine W_skip ?_
      refine W_seq ?_
      refine W_block ?_ -- 5
      refine W_seq ?_
      -- region 24
      refine W_region (by decide +kernel) ?_
      refine sq_r r_move rfl ?_
      refine sq_r r_assign rfl ?_
      refine sq_z ?_
      refine W_seq ?_
      -- region 25 DRAWS
      refine W_drawM hs Try.mixed [true, true] [0, 0, 3, 7, 0, 16, 48, 112, 0, 496, 1008, 2032, 4080, 8191] [] [0, 1, 2, 3, 4, 5, 6, 7, 8, 9, 10, 11, 12, 13] (by decide +kernel) ?_
      intro w hs; have hR := hs.mask [true, true]
      refine dq_r hR rfl rfl rfl (fun _ w _ _ hR => r_move) ?_
      refine dq_r hR rfl rfl rfl (fun _ w _ _ hR => r_move) ?_
      refine dq_r hR rfl rfl rfl (fun _ w _ _ hR => r_index rfl rfl sl45 (by omega) (by omega)) ?_
      refine dq_r hR rfl rfl rfl (fun _ w _ _ hR => r_loadN rfl ty26 (kF_len p.2.key) ((hrdk (hR.at (i := 1) rfl)).get2 hkq)) ?_
      refine dq_r hR rfl rfl rfl (fun _ w _ _ hR => r_move) ?_
      refine dq_r hR rfl rfl rfl (fun _ w _ _ hR => r_nilCheck rfl) ?_
      refine dq_r hR rfl rfl rfl (fun _ w _ _ hR => r_field rfl fa58_0) ?_
      refine dq_r hR rfl rfl rfl (fun _ w _ _ hR => r_load1 rfl ty55 (At.one (hB (hR.at (i := 0) rfl).right) rfl)) ?_
      refine dq_r hR rfl rfl rfl (fun _ w _ _ hR => r_move) ?_
      refine dq_r hR rfl rfl rfl (fun _ w _ _ hR => r_index rfl rfl sl55 (by omega) (by omega)) ?_
      refine dq_r hR rfl rfl rfl (fun _ w _ _ hR => r_field rfl fa60_1) ?_
      refine dq_r hR rfl rfl rfl (fun _ w _ _ hR => r_field rfl fa33_0) ?_
      refine dq_r hR rfl rfl rfl (fun _ w _ _ hR => r_loadN (vs := ic p.2.key.toList) rfl ty26 (by simp) (r_row_key (hRr (hR.at (i := 0) rfl).right) hpq)) ?_
      refine dq_r hR rfl rfl rfl (fun _ w _ _ hR => r_neSf (a := p.2.key) (b := p.2.key) rfl Try.underlying26 flat26 (by decide) guard26 rfl rfl) ?_
      refine dq_z hR ?_
      refine W_cond rfl rfl (fun hc => ?_) (fun hc => ?_)
      · cases hc
      refine W_skip ?_
      -- region 27
      refine W_region (by decide +kernel) ?_
      refine sq_r (r_add rfl rfl (wrap_small (by omega) (by omega))) rfl ?_
      refine sq_r r_move rfl ?_
      refine sq_z ?_
      exact ⟨q + 1, ⟨_, ov_self ⟨rfl, rfl, rfl, rfl, rfl, rfl, rfl, rfl, rfl, trivial⟩, by omega, hs⟩, by omega⟩
    · refine W_exit ?_ -- 4
      -- region 28
      refine W_region (by decide +kernel) ?_
      refine sq_r (r_add rfl rfl (wrap_small (by omega) (by omega))) rfl ?_
      refine sq_r r_move rfl ?_
      refine sq_z ?_
      exact ⟨i + 1, ⟨_, s, r, c1, c2, ov_self ⟨rfl, rfl, rfl, rfl, rfl, rfl, trivial⟩, by omega, hb, hk, hrel, hnl, hla, hpk, hlm, hrw, hs.keep (by simp)⟩, by omega⟩
  · refine W_exit ?_ -- 2
    refine W_seq ?_
    -- region 29
    refine W_region (by decide +kernel) ?_
    refine sq_r r_assign rfl ?_
    refine sq_z ?_
    refine W_ret ?_
    exact ret1 (v := .bool true) rfl (by decide) rfl (fin (c' := []) hs ⟨rfl, rfl⟩ (by simp))

end Go.Proofs.Ytddhdoncjfgfnaa
