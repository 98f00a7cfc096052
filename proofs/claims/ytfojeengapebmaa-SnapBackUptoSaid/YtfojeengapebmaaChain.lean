/-
  Layer 17: the chains of links, the program's and the document's. Conditions: there are few links.
-/
import Derived.Test.YtfojeengapebmaaRev
namespace Go.Proofs.Ytfojeengapebmaa
open Go.Eng

/-- From a link to the outermost one; none: it doesn't end, or leaves the links. -/
def chn (ups : List Int) : Nat → Int → Option (List Int)
  | 0, n => if n = -1 then some [] else none
  | k + 1, n => if n = -1 then some [] else if n < -1 ∨ (ups.length : Int) ≤ n ∨ n ≤ ups.getD n.toNat 0 then none else (chn ups k (ups.getD n.toNat 0)).map (n :: ·)
def chO (ls : List Lk) (n : Int) : List Int := ((chn (ls.map (·.up)) (n + 1).toNat n).getD []).reverse
theorem chn_end (ups : List Int) (k : Nat) : chn ups k (-1) = some [] := by cases k <;> simp [chn]
theorem chn_bad {ups : List Int} {k : Nat} {n : Int} (h : n ≠ -1) (hb : n < -1 ∨ (ups.length : Int) ≤ n ∨ n ≤ ups.getD n.toNat 0) : chn ups k n = none := by
  cases k with
  | zero => simp [chn, h]
  | succ k => simp only [chn, if_neg h, if_pos hb]
theorem chn_step {ups : List Int} {k : Nat} {n : Int} (h : n ≠ -1) (hb : ¬ (n < -1 ∨ (ups.length : Int) ≤ n ∨ n ≤ ups.getD n.toNat 0)) : chn ups (k + 1) n = (chn ups k (ups.getD n.toNat 0)).map (n :: ·) := by
  simp only [chn, if_neg h, if_neg hb]
/-- Where both stand, in the midst. -/
structure ChI (ls : List Lk) (n0 : Int) (k : Nat) (n : Int) (acc : List Int) : Prop where
  fuel : n + 1 ≤ k
  len : acc.length ≤ ls.length
  room : acc = [] ∨ (acc.length : Int) + n + 1 ≤ ls.length
  eq : chn (ls.map (·.up)) (n0 + 1).toNat n0 = (chn (ls.map (·.up)) k n).map (acc ++ ·)
theorem ChI.start (ls : List Lk) (n0 : Int) : ChI ls n0 (n0 + 1).toNat n0 [] := by
  refine ⟨by omega, by simp, .inl rfl, ?_⟩
  cases chn (ls.map (·.up)) (n0 + 1).toNat n0 <;> simp
theorem ChI.bad {ls : List Lk} {n0 n : Int} {k : Nat} {acc : List Int} (h : ChI ls n0 k n acc) (hn : n ≠ -1) (hb : n < -1 ∨ (ls.length : Int) ≤ n ∨ n ≤ (ls.map (·.up)).getD n.toNat 0) : chO ls n0 = [] := by
  unfold chO
  rw [h.eq, chn_bad hn (by simpa using hb)]
  rfl
theorem ChI.fin {ls : List Lk} {n0 : Int} {k : Nat} {acc : List Int} (h : ChI ls n0 k (-1) acc) : chO ls n0 = acc.reverse := by
  unfold chO
  rw [h.eq, chn_end]
  simp
theorem ChI.next {ls : List Lk} {n0 n : Int} {k : Nat} {acc : List Int} {l : Lk} (h : ChI ls n0 k n acc) (h0 : 0 ≤ n) (hl : ls[n.toNat]? = some l) (hlt : l.up < n) : ∃ k', k = k' + 1 ∧ ChI ls n0 k' l.up (acc ++ [n]) := by
  have hn := (List.getElem?_eq_some_iff.1 hl).1
  have hf := h.fuel
  obtain ⟨k', rfl⟩ : ∃ k', k = k' + 1 := ⟨k - 1, by omega⟩
  have hu : (ls.map (·.up)).getD n.toNat 0 = l.up := by simp [List.getD, hl]
  refine ⟨k', rfl, by omega, ?_, .inr ?_, ?_⟩
  · rw [List.length_append]
    rcases h.room with h1 | h1
    · subst h1; simp; omega
    · simp; omega
  · rw [List.length_append]
    rcases h.room with h1 | h1
    · subst h1; simp; omega
    · simp; omega
  · rw [h.eq, chn_step (by omega) (by rw [hu]; simp; omega), hu]
    cases chn (ls.map (·.up)) k' l.up <;> simp

set_option maxRecDepth 10000 in
/-- Chain (function 14). -/
theorem f14_calls (v : Value) (ls : List Lk) (n0 : Int) (hlen : ls.length ≤ 1000) : Ctr Try.prog 14 #[v, .int .i64 n0] [] (RdL (fun _ => True) v ls) (fun r c => Sl 3 1 r (chO ls n0).length (ic (chO ls n0)) c) := by
  intro w0 hp hrd
  have hs : St w0 (ks []) [[]] w0 := (St.start w0).cast rfl
  obtain ⟨a, cap, rfl, hall⟩ := hrd
  have hmax := max4000
  refine calls_W (n := 37) Try.func14 rfl Try.ntmps14 (by simp) ?_
  refine W_seq ?_
  -- region 0
  refine W_region (by decide +kernel) ?_
  refine sq_r r_assign rfl ?_
  refine sq_z ?_
  refine W_seq ?_
  -- region 1
  refine W_region (by decide +kernel) ?_
  refine sq_r r_assign rfl ?_
  refine sq_z ?_
  refine W_seq ?_
  refine W_block ?_ -- 0
  -- LOOP
  refine W_loop (fun (k : Nat) f w => ∃ g n acc u oc, f = ov [(0, .slice a ls.length cap), (1, .int .i64 n), (5, u)] g ∧ ChI ls n0 k n acc ∧ Sl 3 1 u acc.length (ic acc) oc ∧ St w0 (ks []) [oc] w) (fun k => k) (n0 + 1).toNat ?_ ?_
  · exact ⟨_, n0, [], _, [], ov_self ⟨rfl, rfl, rfl, trivial⟩, ChI.start ls n0, Sl.nil 3 1, hs⟩
  clear hs
  rintro k f w ⟨g, n, acc, u, oc, rfl, hI, hu, hs⟩
  have hal := hI.len
  refine W_seq ?_
  refine W_seq ?_
  -- region 2
  refine W_region (by decide +kernel) ?_
  refine sq_r r_move rfl ?_
  refine sq_r (r_cmp rfl rfl rfl) rfl ?_
  refine sq_z ?_
  refine W_cond rfl rfl (fun hc => ?_) (fun hc => ?_)
  · have hn1 : n ≠ -1 := by simpa using hc
    refine W_skip ?_
    refine W_block ?_ -- 1
    refine W_seq ?_
    refine W_seq ?_
    -- region 3
    refine W_region (by decide +kernel) ?_
    refine sq_r r_move rfl ?_
    by_cases h1 : n < -1
    · refine sq_r (r_cmp (r := true) rfl rfl (by simp [cmpB, h1])) rfl ?_
      refine sq_r r_move rfl ?_
      refine sq_n rfl ?_
      refine sq_n rfl ?_
      refine sq_n rfl ?_
      refine sq_n rfl ?_
      refine sq_r (r_pick rfl) rfl ?_
      refine sq_r r_move rfl ?_
      refine sq_n rfl ?_
      refine sq_n rfl ?_
      refine sq_n rfl ?_
      refine sq_n rfl ?_
      refine sq_n rfl ?_
      refine sq_n rfl ?_
      refine sq_n rfl ?_
      refine sq_r (r_pick rfl) rfl ?_
      refine sq_z ?_
      refine W_cond rfl rfl (fun hd => ?_) (fun hd => ?_)
      · refine W_seq ?_
        -- region 4
        refine W_region (by decide +kernel) ?_
        refine sq_r r_assign rfl ?_
        refine sq_z ?_
        refine W_ret ?_
        repeat with_reducible first | refine thenQ_ret ?_ | refine blockQ_ret ?_
        refine ret1 (v := .slice none 0 0) rfl (by decide) rfl (fin (c' := []) hs ?_ (by simp))
        rw [hI.bad hn1 (.inl h1)]
        exact Sl.nil 3 1
      · cases hd
    refine sq_r (r_cmp (r := false) rfl rfl (by simp [cmpB]; omega)) rfl ?_
    refine sq_r r_move rfl ?_
    refine sq_r r_move rfl ?_ /- GUARD 2 False -/
    refine sq_r r_move rfl ?_ /- GUARD 2 False -/
    refine sq_r (r_lenS Try.underlying28 rfl) rfl ?_ /- GUARD 2 False -/
    by_cases h2 : (ls.length : Int) ≤ n
    · refine sq_r (r_cmp (r := true) rfl rfl (by simp [cmpB, h2])) rfl ?_
      refine sq_r (r_pick rfl) rfl ?_
      refine sq_r r_move rfl ?_
      refine sq_n rfl ?_
      refine sq_n rfl ?_
      refine sq_n rfl ?_
      refine sq_n rfl ?_
      refine sq_n rfl ?_
      refine sq_n rfl ?_
      refine sq_n rfl ?_
      refine sq_r (r_pick rfl) rfl ?_
      refine sq_z ?_
      refine W_cond rfl rfl (fun hd => ?_) (fun hd => ?_)
      · refine W_seq ?_
        -- region 4
        refine W_region (by decide +kernel) ?_
        refine sq_r r_assign rfl ?_
        refine sq_z ?_
        refine W_ret ?_
        repeat with_reducible first | refine thenQ_ret ?_ | refine blockQ_ret ?_
        refine ret1 (v := .slice none 0 0) rfl (by decide) rfl (fin (c' := []) hs ?_ (by simp))
        rw [hI.bad hn1 (.inr (.inl h2))]
        exact Sl.nil 3 1
      · cases hd
    refine sq_r (r_cmp (r := false) rfl rfl (by simp [cmpB]; omega)) rfl ?_
    refine sq_r (r_pick (b := false) rfl) rfl ?_
    refine sq_r r_move rfl ?_
    have h0 : 0 ≤ n := by omega
    obtain ⟨l, hl⟩ : ∃ l, ls[n.toNat]? = some l := ⟨_, List.getElem?_eq_getElem (by omega)⟩
    obtain ⟨b, off, rv, rfl, _, hat0, _⟩ := hall n.toNat l hl
    have hat : ∀ {cs : List Ck} {w : World}, St w0 (ks []) cs w → At w b (off + n.toNat * 5) (lkC l rv) := fun hs => at_keep hs (by simp [ks]) (by simp [lkC]) hat0
    have hup : (ls.map (·.up)).getD n.toNat 0 = l.up := by simp [List.getD, hl]
    refine sq_r r_move rfl ?_ /- GUARD 8 False -/
    refine sq_r r_move rfl ?_ /- GUARD 8 False -/
    refine sq_r (r_index rfl rfl sl28 h0 (by omega)) rfl ?_ /- GUARD 8 False -/
    refine sq_r (r_field rfl fa39_0) rfl ?_ /- GUARD 8 False -/
    refine sq_r (r_load1 rfl ty3 (hat hs 0 _ rfl)) rfl ?_ /- GUARD 8 False -/
    refine sq_r r_move rfl ?_ /- GUARD 8 False -/
    refine sq_r (r_cmp rfl rfl rfl) rfl ?_ /- GUARD 8 False -/
    refine sq_r (r_pick rfl) rfl ?_
    refine sq_z ?_
    refine W_cond (b := decide (n ≤ l.up)) rfl rfl (fun hd => ?_) (fun hd => ?_)
    · have hb : n ≤ (ls.map (·.up)).getD n.toNat 0 := by rw [hup]; exact of_decide_eq_true hd
      refine W_seq ?_
      -- region 4
      refine W_region (by decide +kernel) ?_
      refine sq_r r_assign rfl ?_
      refine sq_z ?_
      refine W_ret ?_
      repeat with_reducible first | refine thenQ_ret ?_ | refine blockQ_ret ?_
      refine ret1 (v := .slice none 0 0) rfl (by decide) rfl (fin (c' := []) hs ?_ (by simp))
      rw [hI.bad hn1 (.inr (.inr hb))]
      exact Sl.nil 3 1
    have hlt : l.up < n := by have := of_decide_eq_false hd; omega
    obtain ⟨k', rfl, hI'⟩ := hI.next h0 hl hlt
    refine W_skip ?_
    refine W_seq ?_
    -- region 5
    refine W_region (by decide +kernel) ?_
    refine sq_r r_move rfl ?_
    refine sq_r r_move rfl ?_
    refine sq_e rfl (o_buildN [.int .i64 n] [[.int .i64 n]] sl35 ty3 hs rfl rfl rfl (by simp) (by simp) ?_); intro b4 w hs
    refine sq_e rfl (o_append (i := 0) (m := 1) (news := [.int .i64 n]) (soff := 0) (sb := b4) (scap := 1) sl35 ty3 rfl hs rfl rfl rfl hu (by simp) (At.of_block (hs.own (i := 1) rfl) (by simp)) (by simp [Value.oneCell']) (by omega) (by omega) ?_)
    intro u' oc' w hu' hs
    refine sq_r r_assign rfl ?_
    refine sq_z ?_
    -- region 6
    refine W_region (by decide +kernel) ?_
    refine sq_r r_move rfl ?_
    refine sq_r r_move rfl ?_
    refine sq_r (r_index rfl rfl sl28 h0 (by omega)) rfl ?_
    refine sq_r (r_field rfl fa39_0) rfl ?_
    refine sq_r (r_load1 rfl ty3 (hat hs 0 _ rfl)) rfl ?_
    refine sq_r r_assign rfl ?_
    refine sq_z ?_
    exact ⟨k', ⟨_, l.up, acc ++ [n], u', oc', ov_self ⟨rfl, rfl, rfl, trivial⟩, hI', by rw [List.length_append, ic_app]; exact hu', (hs.mask [true, false]).cast (by simp [zipMask])⟩, by omega⟩
  · have hn1 : n = -1 := by simpa using hc
    subst hn1
    refine W_exit ?_ -- 0
    refine W_seq ?_
    -- region 7
    refine W_region (by decide +kernel) ?_
    refine sq_r r_move rfl ?_
    refine sq_e rfl (o_call (i := 0) cb25 rfl rfl (f25_calls u acc oc hu (by omega)) hs rfl trivial ?_)
    intro v c1 w hv1 hs
    refine sq_z ?_
    refine W_seq ?_
    -- region 8
    refine W_region (by decide +kernel) ?_
    refine sq_r r_move rfl ?_
    refine sq_r r_assign rfl ?_
    refine sq_z ?_
    refine W_ret ?_
    refine ret1 (v := u) rfl (by decide) rfl (fin (c' := c1) hs ?_ (by simp))
    rw [hI.fin, List.length_reverse]
    exact hv1

set_option maxRecDepth 10000 in
/-- Chain (function 15). -/
theorem f15_calls (v : Value) (ls : List Lk) (n0 : Int) (hlen : ls.length ≤ 1000) : Ctr Try.prog 15 #[v, .int .i64 n0] [] (RdL (fun _ => True) v ls) (fun r c => Sl 3 1 r (chO ls n0).length (ic (chO ls n0)) c) := by
  intro w0 hp hrd
  have hs : St w0 (ks []) [[]] w0 := (St.start w0).cast rfl
  obtain ⟨a, cap, rfl, hall⟩ := hrd
  have hmax := max4000
  refine calls_W (n := 35) Try.func15 rfl Try.ntmps15 (by simp) ?_
  refine W_seq ?_
  -- region 0
  refine W_region (by decide +kernel) ?_
  refine sq_r r_assign rfl ?_
  refine sq_z ?_
  refine W_seq ?_
  -- region 1
  refine W_region (by decide +kernel) ?_
  refine sq_r r_assign rfl ?_
  refine sq_z ?_
  refine W_seq ?_
  refine W_block ?_ -- 0
  -- LOOP
  refine W_loop (fun (k : Nat) f w => ∃ g n acc u oc, f = ov [(0, .slice a ls.length cap), (1, .int .i64 n), (5, u)] g ∧ ChI ls n0 k n acc ∧ Sl 3 1 u acc.length (ic acc.reverse) oc ∧ St w0 (ks []) [oc] w) (fun k => k) (n0 + 1).toNat ?_ ?_
  · exact ⟨_, n0, [], _, [], ov_self ⟨rfl, rfl, rfl, trivial⟩, ChI.start ls n0, Sl.nil 3 1, hs⟩
  clear hs
  rintro k f w ⟨g, n, acc, u, oc, rfl, hI, hu, hs⟩
  have hal := hI.len
  refine W_seq ?_
  refine W_seq ?_
  -- region 2
  refine W_region (by decide +kernel) ?_
  refine sq_r r_move rfl ?_
  refine sq_r (r_cmp rfl rfl rfl) rfl ?_
  refine sq_z ?_
  refine W_cond rfl rfl (fun hc => ?_) (fun hc => ?_)
  · have hn1 : n ≠ -1 := by simpa using hc
    refine W_skip ?_
    refine W_block ?_ -- 1
    refine W_seq ?_
    refine W_seq ?_
    -- region 3
    refine W_region (by decide +kernel) ?_
    refine sq_r r_move rfl ?_
    by_cases h1 : n < -1
    · refine sq_r (r_cmp (r := true) rfl rfl (by simp [cmpB, h1])) rfl ?_
      refine sq_r r_move rfl ?_
      refine sq_n rfl ?_
      refine sq_n rfl ?_
      refine sq_n rfl ?_
      refine sq_n rfl ?_
      refine sq_r (r_pick rfl) rfl ?_
      refine sq_r r_move rfl ?_
      refine sq_n rfl ?_
      refine sq_n rfl ?_
      refine sq_n rfl ?_
      refine sq_n rfl ?_
      refine sq_n rfl ?_
      refine sq_n rfl ?_
      refine sq_n rfl ?_
      refine sq_r (r_pick rfl) rfl ?_
      refine sq_z ?_
      refine W_cond rfl rfl (fun hd => ?_) (fun hd => ?_)
      · refine W_seq ?_
        -- region 4
        refine W_region (by decide +kernel) ?_
        refine sq_r r_assign rfl ?_
        refine sq_z ?_
        refine W_ret ?_
        repeat with_reducible first | refine thenQ_ret ?_ | refine blockQ_ret ?_
        refine ret1 (v := .slice none 0 0) rfl (by decide) rfl (fin (c' := []) hs ?_ (by simp))
        rw [hI.bad hn1 (.inl h1)]
        exact Sl.nil 3 1
      · cases hd
    refine sq_r (r_cmp (r := false) rfl rfl (by simp [cmpB]; omega)) rfl ?_
    refine sq_r r_move rfl ?_
    refine sq_r r_move rfl ?_ /- GUARD 2 False -/
    refine sq_r r_move rfl ?_ /- GUARD 2 False -/
    refine sq_r (r_lenS Try.underlying28 rfl) rfl ?_ /- GUARD 2 False -/
    by_cases h2 : (ls.length : Int) ≤ n
    · refine sq_r (r_cmp (r := true) rfl rfl (by simp [cmpB, h2])) rfl ?_
      refine sq_r (r_pick rfl) rfl ?_
      refine sq_r r_move rfl ?_
      refine sq_n rfl ?_
      refine sq_n rfl ?_
      refine sq_n rfl ?_
      refine sq_n rfl ?_
      refine sq_n rfl ?_
      refine sq_n rfl ?_
      refine sq_n rfl ?_
      refine sq_r (r_pick rfl) rfl ?_
      refine sq_z ?_
      refine W_cond rfl rfl (fun hd => ?_) (fun hd => ?_)
      · refine W_seq ?_
        -- region 4
        refine W_region (by decide +kernel) ?_
        refine sq_r r_assign rfl ?_
        refine sq_z ?_
        refine W_ret ?_
        repeat with_reducible first | refine thenQ_ret ?_ | refine blockQ_ret ?_
        refine ret1 (v := .slice none 0 0) rfl (by decide) rfl (fin (c' := []) hs ?_ (by simp))
        rw [hI.bad hn1 (.inr (.inl h2))]
        exact Sl.nil 3 1
      · cases hd
    refine sq_r (r_cmp (r := false) rfl rfl (by simp [cmpB]; omega)) rfl ?_
    refine sq_r (r_pick (b := false) rfl) rfl ?_
    refine sq_r r_move rfl ?_
    have h0 : 0 ≤ n := by omega
    obtain ⟨l, hl⟩ : ∃ l, ls[n.toNat]? = some l := ⟨_, List.getElem?_eq_getElem (by omega)⟩
    obtain ⟨b, off, rv, rfl, _, hat0, _⟩ := hall n.toNat l hl
    have hat : ∀ {cs : List Ck} {w : World}, St w0 (ks []) cs w → At w b (off + n.toNat * 5) (lkC l rv) := fun hs => at_keep hs (by simp [ks]) (by simp [lkC]) hat0
    have hup : (ls.map (·.up)).getD n.toNat 0 = l.up := by simp [List.getD, hl]
    refine sq_r r_move rfl ?_ /- GUARD 8 False -/
    refine sq_r r_move rfl ?_ /- GUARD 8 False -/
    refine sq_r (r_index rfl rfl sl28 h0 (by omega)) rfl ?_ /- GUARD 8 False -/
    refine sq_r (r_field rfl fa39_0) rfl ?_ /- GUARD 8 False -/
    refine sq_r (r_load1 rfl ty3 (hat hs 0 _ rfl)) rfl ?_ /- GUARD 8 False -/
    refine sq_r r_move rfl ?_ /- GUARD 8 False -/
    refine sq_r (r_cmp rfl rfl rfl) rfl ?_ /- GUARD 8 False -/
    refine sq_r (r_pick rfl) rfl ?_
    refine sq_z ?_
    refine W_cond (b := decide (n ≤ l.up)) rfl rfl (fun hd => ?_) (fun hd => ?_)
    · have hb : n ≤ (ls.map (·.up)).getD n.toNat 0 := by rw [hup]; exact of_decide_eq_true hd
      refine W_seq ?_
      -- region 4
      refine W_region (by decide +kernel) ?_
      refine sq_r r_assign rfl ?_
      refine sq_z ?_
      refine W_ret ?_
      repeat with_reducible first | refine thenQ_ret ?_ | refine blockQ_ret ?_
      refine ret1 (v := .slice none 0 0) rfl (by decide) rfl (fin (c' := []) hs ?_ (by simp))
      rw [hI.bad hn1 (.inr (.inr hb))]
      exact Sl.nil 3 1
    have hlt : l.up < n := by have := of_decide_eq_false hd; omega
    obtain ⟨k', rfl, hI'⟩ := hI.next h0 hl hlt
    refine W_skip ?_
    refine W_seq ?_
    -- region 5
    refine W_region (by decide +kernel) ?_
    refine sq_r r_move rfl ?_
    refine sq_e rfl (o_buildN [.int .i64 n] [[.int .i64 n]] sl35 ty3 hs rfl rfl rfl (by simp) (by simp) ?_); intro b4 w hs
    refine sq_r r_move rfl ?_
    refine sq_e rfl (o_append_sl (i := 1) (j := 0) (n := 1) (xs := [.int .i64 n]) sl35 ty3 rfl hs rfl rfl rfl rfl ⟨rfl, .inr ⟨b4, 1, [], rfl, rfl, Nat.le_refl _, by omega, rfl⟩⟩ hu (ic_one _) (by omega) (by omega) ?_)
    intro u' oc' w hu' hs
    refine sq_r r_assign rfl ?_
    refine sq_z ?_
    -- region 6
    refine W_region (by decide +kernel) ?_
    refine sq_r r_move rfl ?_
    refine sq_r r_move rfl ?_
    refine sq_r (r_index rfl rfl sl28 h0 (by omega)) rfl ?_
    refine sq_r (r_field rfl fa39_0) rfl ?_
    refine sq_r (r_load1 rfl ty3 (hat hs 0 _ rfl)) rfl ?_
    refine sq_r r_assign rfl ?_
    refine sq_z ?_
    exact ⟨k', ⟨_, l.up, acc ++ [n], u', oc', ov_self ⟨rfl, rfl, rfl, trivial⟩, hI', by rw [List.length_append, List.reverse_append, Nat.add_comm]; exact hu', (hs.mask [false, true]).cast (by simp [zipMask])⟩, by omega⟩
  · have hn1 : n = -1 := by simpa using hc
    subst hn1
    refine W_exit ?_ -- 0
    refine W_seq ?_
    -- region 7
    refine W_region (by decide +kernel) ?_
    refine sq_r r_move rfl ?_
    refine sq_r r_assign rfl ?_
    refine sq_z ?_
    refine W_ret ?_
    refine ret1 (v := u) rfl (by decide) rfl (fin (c' := oc) hs ?_ (by simp))
    rw [hI.fin, List.length_reverse]
    exact hu

end Go.Proofs.Ytfojeengapebmaa
