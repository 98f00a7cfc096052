/-
  Layer 17: the program's Links. Conditions: the book holds few links.
-/
import Derived.Test.YtfojeengapebmaaAdd
namespace Go.Proofs.Ytfojeengapebmaa
open Go.Eng

/-- Links that are held, with their registers, may be read. -/
theorem mk_rdl {v : Value} {ps : List Pr} {lc dc : Ck} (hl : Sl 39 5 v ps.length (ps.flatMap prC) lc) (hr : Rgs ps dc) {w : World} (hp : Hp (lc ++ dc) w) : RdL (· ∈ ks (lc ++ dc)) v (ps.map (·.1)) w := by
  obtain ⟨a, cap, hv, hall⟩ := sl_rd prC_len (by decide) hl (Hp.left hp)
  refine ⟨a, cap, by rw [List.length_map]; exact hv, fun i l hi => ?_⟩
  rw [List.getElem?_map] at hi
  obtain ⟨p, hpi, rfl⟩ := Option.map_eq_some_iff.1 hi
  obtain ⟨b, off, ha, hb, hat⟩ := hall i p hpi
  refine ⟨b, off, p.2, ha, ?_, hat, (hr p (List.mem_of_getElem? hpi) w (Hp.right hp)).mono fun b hb => ?_⟩
  · simp [ks] at hb ⊢; exact .inl hb
  · simp [ks] at hb ⊢; exact .inr hb
theorem pr_set (p : Pr) (v : Value) : prC (p.1, v) = spl (prC p) 4 [v] := by
  simp [prC, lkC, spl]
/-- The first i lie with registers of dd, the others are as they were. -/
def LnI (ps : List Pr) (dd : Ck) (i : Nat) (qs : List Pr) : Prop :=
  qs.length = ps.length ∧ qs.map (·.1) = ps.map (·.1) ∧ (∀ j p, j < i → qs[j]? = some p → ∀ w, Hp dd w → RdS (· ∈ ks dd) p.2 p.1.regs w) ∧ ∀ j, i ≤ j → qs[j]? = ps[j]?

set_option maxRecDepth 20000 in
set_option maxHeartbeats 1000000 in
theorem f13_full (bb : Nat) (s : B7) (c : Ck) (hc : BK bb s c) (hn : s.links.length ≤ 1000000) (hbnd' : ∀ l ∈ s.links, l.regs.length ≤ 2000000) : Ctr Try.prog 13 #[.pointer (some ⟨bb, 0, none⟩)] c (fun _ => True) (fun r c' => ∃ d, c' = c ++ d ∧ ∃ ps lc dc, d = lc ++ dc ∧ s.links = ps.map (·.1) ∧ Sl 39 5 r ps.length (ps.flatMap prC) lc ∧ Rgs ps dc) := by
  intro w0 hp hro
  obtain ⟨mn, mr, v, ps, lc, dc, hps, hlc, hrg, hce⟩ := hc
  have hpl : s.links.length = ps.length := by rw [hps, List.length_map]
  have hs : St w0 (ks c) [rlC bb mr v (.map (some mn)) s.rg, [(mn, mo encV encI s.nm.1 s.nm.2)], lc, dc] w0 := hp.st.cast (by rw [hce]; simp)
  refine calls_W (n := 30) Try.func13 rfl Try.ntmps13 (by simp) ?_
  refine W_seq ?_
  -- region 0
  refine W_region (by decide +kernel) ?_
  refine sq_r r_assign rfl ?_
  refine sq_z ?_
  refine W_seq ?_
  refine W_seq ?_
  -- region 1
  refine W_region (by decide +kernel) ?_
  refine sq_r r_move rfl ?_
  refine sq_e rfl (o_callN cb20 rfl rfl (Post := fun v _ => v = .bool true) (f20_calls bb (some mn)) hs (rl_cell (k := 0 + 1) (hs.at (i := 0) rfl) rfl) ?_)
  rintro u w rfl hs
  refine sq_r (r_not rfl) rfl ?_
  refine sq_z ?_
  refine W_cond rfl rfl (fun hz => ?_) (fun hz => ?_)
  · cases hz
  refine W_skip ?_
  refine W_seq ?_
  -- region 3
  refine W_region (by decide +kernel) ?_
  refine sq_r r_move rfl ?_
  refine sq_r (r_nilCheck rfl) rfl ?_
  refine sq_r (r_field rfl fa62_0) rfl ?_
  refine sq_r (r_load1 rfl ty28 (rl_cell (k := 0 + 0) (hs.at (i := 0) rfl) rfl)) rfl ?_
  refine sq_e rfl (o_call0 cb24 rfl rfl (f24_calls v ps (· ∈ ks lc) (by omega) (hrg.one (hs.at (i := 3) rfl))) hs (sl_rd prC_len (by decide) hlc (hs.at (i := 2) rfl)) ?_)
  intro r lc2 w hr hs
  refine sq_r r_assign rfl ?_
  refine sq_z ?_
  obtain ⟨ra, rcap, rfl⟩ := hr.len
  refine W_seq ?_
  refine W_seq ?_
  -- region 4
  refine W_region (by decide +kernel) ?_
  refine sq_r r_move rfl ?_
  refine sq_r (r_lenS Try.underlying28 rfl) rfl ?_
  refine sq_r r_move rfl ?_
  refine sq_z ?_
  refine W_block ?_ -- 0
  -- LOOP
  refine W_loop (fun (i : Nat) f w => ∃ g qs lc2 dd, f = ov [(3, .slice ra ps.length rcap), (14, .int .i64 ps.length), (15, .int .i64 i)] g ∧ i ≤ ps.length ∧ LnI ps dd i qs ∧ Sl 39 5 (.slice ra ps.length rcap) ps.length (qs.flatMap prC) lc2 ∧
    St w0 (ks c) [rlC bb mr v (.map (some mn)) s.rg, [(mn, mo encV encI s.nm.1 s.nm.2)], lc, dc, lc2, dd] w) (fun i => ps.length - i) 0 ?_ ?_
  · exact ⟨_, ps, lc2, [], ov_self ⟨rfl, rfl, rfl, trivial⟩, Nat.zero_le _, ⟨rfl, rfl, fun j _ hj => absurd hj (Nat.not_lt_zero j), fun _ _ => rfl⟩, hr, hs.cast (by simp)⟩
  clear hr hs
  rintro i f w ⟨g, qs, lc2, dd, rfl, hi, ⟨hql, hqm, hq1, hq2⟩, hr, hs⟩
  refine W_seq ?_
  -- region 5
  refine W_region (by decide +kernel) ?_
  refine sq_r (r_cmp rfl rfl rfl) rfl ?_
  refine sq_z ?_
  refine W_seq ?_
  refine W_cond rfl rfl (fun hd => ?_) (fun hd => ?_)
  · have hlt : i < ps.length := by have := of_decide_eq_true hd; omega
    obtain ⟨p, hp⟩ : ∃ p, ps[i]? = some p := ⟨_, List.getElem?_eq_getElem hlt⟩
    have hqi : qs[i]? = some p := (hq2 i (Nat.le_refl _)).trans hp
    obtain ⟨b, cap, rest, hv, rfl, hcell, _⟩ := hr.get prC_len hqi (by decide)
    simp only [Value.slice.injEq, true_and] at hv
    obtain ⟨rfl, rfl⟩ := hv
    have hbnd : ∀ p ∈ ps, p.1.regs.length ≤ 2000000 := fun p hp => hbnd' p.1 (by rw [hps]; exact List.mem_map.2 ⟨p, hp, rfl⟩)
    refine W_skip ?_
    refine W_seq ?_
    refine W_block ?_ -- 1
    refine W_seq ?_
    -- region 6
    refine W_region (by decide +kernel) ?_
    refine sq_r r_move rfl ?_
    refine sq_r r_assign rfl ?_
    refine sq_z ?_
    have hat : At w b (0 + i * 5) (prC p) := At.of_block (hs.own (i := 4) rfl) (by rw [prC_len, Nat.zero_add]; exact hcell)
    -- region 7
    refine W_region (by decide +kernel) ?_
    refine sq_r r_move rfl ?_
    refine sq_r r_move rfl ?_
    refine sq_r r_move rfl ?_
    refine sq_r r_move rfl ?_
    refine sq_r (r_index rfl rfl sl28 (by omega) (by omega)) rfl ?_
    refine sq_r (r_field rfl fa39_4) rfl ?_
    refine sq_r (r_load1 rfl ty37 (hat 4 _ rfl)) rfl ?_
    refine sq_e rfl (o_call0 cb22 rfl rfl (f22_calls p.2 p.1.regs (· ∈ ks dc) (hbnd p (List.mem_of_getElem? hp))) hs (hrg p (List.mem_of_getElem? hp) w (hs.at (i := 3) rfl)) ?_)
    intro u d w hu hs
    refine sq_r (r_index rfl rfl sl28 (by omega) (by omega)) rfl ?_
    refine sq_r (r_field rfl fa39_4) rfl ?_
    refine sq_e rfl (o_store (i := 4) (vs := [u]) hs rfl (sl_one hu).2 ty37 rfl (by simpa using (sl_one hu).1) ?_ ?_)
    · rw [List.length_append, cat_len prC_len, hql]
      simp only [Int.toNat_natCast, List.length_cons, List.length_nil]
      have : (i + 1) * 5 ≤ ps.length * 5 := Nat.mul_le_mul_right _ hlt
      omega
    intro w hs
    refine sq_z ?_
    have hs : St w0 (ks c) [rlC bb mr v (.map (some mn)) s.rg, [(mn, mo encV encI s.nm.1 s.nm.2)], lc, dc, [(b, cb ((qs.set i (p.1, u)).flatMap prC ++ rest) 39)], dd ++ d] w := hs.cast (by
      have e := cat_set prC_len rest (off := 4) (vs := [u]) qs i p (p.1, u) hqi (pr_set p u) (by simp)
      rw [← e]
      simp)
    -- region 8
    refine W_region (by decide +kernel) ?_
    refine sq_r (r_add rfl rfl (wrap_small (by omega) (by omega))) rfl ?_
    refine sq_r r_move rfl ?_
    refine sq_z ?_
    have hil : i < qs.length := by omega
    refine ⟨i + 1, ⟨_, qs.set i (p.1, u), _, dd ++ d, ov_self ⟨rfl, rfl, rfl, trivial⟩, by omega, ⟨by rw [List.length_set, hql], ?_, fun j y hj hy w hw => ?_, fun j hj => ?_⟩, hr.set prC_len (by rw [List.length_set]) rfl, hs⟩, by omega⟩
    · rw [List.map_set, hqm]
      exact list_set_same (by rw [List.getElem?_map, hp]; rfl)
    · by_cases hji : i = j
      · subst hji
        rw [List.getElem?_set_self hil] at hy
        cases hy
        exact RdS.mono (sl_rd scF_len (by decide) hu (Hp.right hw)) fun b hb => by simp [ks] at hb ⊢; exact .inr hb
      · rw [List.getElem?_set_ne hji] at hy
        exact (hq1 j y (by omega) hy w (Hp.left hw)).mono fun b hb => by simp [ks] at hb ⊢; exact .inl hb
    · rw [List.getElem?_set_ne (by omega)]
      exact hq2 j (by omega)
  · have hin : i = ps.length := by have := of_decide_eq_false hd; omega
    subst hin
    refine W_exit ?_ -- 0
    refine W_seq ?_
    -- region 9
    refine W_region (by decide +kernel) ?_
    refine sq_r r_move rfl ?_
    refine sq_r r_assign rfl ?_
    refine sq_z ?_
    refine W_ret ?_
    refine ret1 (v := .slice ra ps.length rcap) rfl (by decide) rfl (fin (c' := c ++ (lc2 ++ dd)) hs ⟨_, rfl, qs, lc2, dd, rfl, by rw [hps, hqm], by rw [hql]; exact hr, fun p hp w hw => ?_⟩ (by rw [hce]; simp))
    obtain ⟨j, hj⟩ := List.mem_iff_getElem?.1 hp
    exact hq1 j p (by have := (List.getElem?_eq_some_iff.1 hj).1; omega) hj w hw

theorem f13_calls (bb : Nat) (s : B7) (c : Ck) (hc : BK bb s c) (hn : s.links.length ≤ 1000000) (hbnd' : ∀ l ∈ s.links, l.regs.length ≤ 2000000) : Ctr Try.prog 13 #[.pointer (some ⟨bb, 0, none⟩)] c (fun _ => True) (fun r c' => ∃ d, c' = c ++ d ∧ ∀ w, Hp d w → RdL (· ∈ ks d) r s.links w) := by
  intro w hp hro
  refine (f13_full bb s c hc hn hbnd' w hp hro).mono ?_
  rintro e w' ⟨v, c', rfl, ⟨d, rfl, ps, lc, dc, rfl, hl, hsl, hr⟩, hst⟩
  exact ⟨_, _, rfl, ⟨_, rfl, fun w hw => by rw [hl]; exact mk_rdl hsl hr hw⟩, hst⟩

end Go.Proofs.Ytfojeengapebmaa
