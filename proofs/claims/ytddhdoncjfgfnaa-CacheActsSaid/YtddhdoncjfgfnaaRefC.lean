/-
  Layer 15: the document's cache: a note of a place (note), Drop, Fail, Link. Conditions: they are few.
-/
import Derived.Test.YtddhdoncjfgfnaaRefB
namespace Go.Proofs.Ytddhdoncjfgfnaa
open Go.Eng

def ntP (id op : Int) (n : Nt) : Bool := n.id == id && n.op == op
/-- A place's note, made if it isn't there. -/
def noteR (r : R15) (id op : Int) : R15 × Nat := match r.notes.findIdx? (ntP id op) with | some i => (r, i) | none => ({ r with notes := r.notes ++ [⟨id, op, 0, 0⟩] }, r.notes.length)
theorem noteR_get (r : R15) (id op : Int) : ∃ n, (noteR r id op).1.notes[(noteR r id op).2]? = some n ∧ n.id = id ∧ n.op = op := by
  unfold noteR
  cases h : r.notes.findIdx? (ntP id op) with
  | some i =>
    obtain ⟨hi, h1, _⟩ := List.findIdx?_eq_some_iff_getElem.1 h
    simp only [ntP, Bool.and_eq_true, beq_iff_eq] at h1
    exact ⟨_, List.getElem?_eq_getElem hi, h1.1, h1.2⟩
  | none => exact ⟨⟨id, op, 0, 0⟩, by simp, rfl, rfl⟩
theorem noteR_len (r : R15) (id op : Int) : (noteR r id op).1.notes.length ≤ r.notes.length + 1 ∧ (noteR r id op).1.rows = r.rows := by
  unfold noteR
  split
  · exact ⟨by simp, rfl⟩
  · exact ⟨by simp, rfl⟩
def NtC (rb : Nat) (pv : Value) (r : R15) (i : Nat) (v : Value) (c : Ck) : Prop :=
  ∃ nb ncap rest rv rc, v = .pointer (some ⟨nb, 0 + i * 4, none⟩) ∧ c = [(rb, cb (rbx rv (.slice (some ⟨nb, 0, none⟩) r.notes.length ncap) pv r) 58)] ++ (rc ++ [(nb, cb (r.notes.flatMap ntC ++ rest) 100)]) ∧
    Sl 60 18 rv r.rows.length (r.rows.flatMap rowC) rc ∧ Sl 100 4 (.slice (some ⟨nb, 0, none⟩) r.notes.length ncap) r.notes.length (r.notes.flatMap ntC) [(nb, cb (r.notes.flatMap ntC ++ rest) 100)] ∧ ∀ p ∈ r.rows, ∀ u ∈ trC p.2, u.oneCell' = true
theorem build_note (w : World) (id op : Int) : (Instr.build 100 #[(0, .int .i64 id), (1, .int .i64 op)]).run Try.prog w = .ok (.agg (ntC ⟨id, op, 0, 0⟩).toArray) w := by kernel_rfl

set_option maxRecDepth 20000 in
set_option maxHeartbeats 1000000 in
theorem f47_calls (rb : Nat) (pv : Value) (r : R15) (c : Ck) (hc : RK rb pv r c) (id op : Int) (hn : r.notes.length ≤ 4000000000000) :
    Ctr Try.prog 47 #[.pointer (some ⟨rb, 0, none⟩), .int .i64 id, .int .i64 op] c (fun _ => True) (fun v c' => NtC rb pv (noteR r id op).1 (noteR r id op).2 v c') := by
  intro w0 hp hro
  have hmax : 20000000000000 ≤ maxLen := by decide +kernel
  have hc0 := hc
  obtain ⟨rv, nv, rc, nc, hce, hrs, hns, hr1⟩ := hc0
  obtain ⟨ra, rcap, rfl⟩ := hrs.len
  obtain ⟨na, ncap, rfl⟩ := hns.len
  have hB : ∀ {w : World}, Hp c w → w.heap[rb]? = some (cb (rbx (.slice ra r.rows.length rcap) (.slice na r.notes.length ncap) pv r) 58) := fun h => h.has (rb, cb (rbx (.slice ra r.rows.length rcap) (.slice na r.notes.length ncap) pv r) 58) (by rw [hce]; simp)
  have hRr : ∀ {w : World}, Hp c w → RdG 18 rowC (· ∈ ks rc) (.slice ra r.rows.length rcap) r.rows w := fun h => sl_rd rowC_len (by decide) hrs (by rw [hce] at h; exact h.right.left)
  have hRn : ∀ {w : World}, Hp c w → RdG 4 ntC (· ∈ ks nc) (.slice na r.notes.length ncap) r.notes w := fun h => sl_rd ntC_len (by decide) hns (by rw [hce] at h; exact h.right.right)
  have hs : St w0 (ks c) [[(rb, cb (rbx (.slice ra r.rows.length rcap) (.slice na r.notes.length ncap) pv r) 58)], rc, nc] w0 := hp.st.cast (by rw [hce]; simp)
  have hBx : ∀ {w : World} {F : List Nat} {ls : List Ck}, St w0 F ([(rb, cb (rbx (.slice ra r.rows.length rcap) (.slice na r.notes.length ncap) pv r) 58)] :: ls) w → w.heap[rb]? = some (cb (rbx (.slice ra r.rows.length rcap) (.slice na r.notes.length ncap) pv r) 58) := fun hs => hs.own (i := 0) rfl
  refine calls_W (n := 68) Try.func47 rfl Try.ntmps47 (by simp) ?_
  refine W_seq ?_
  -- region 0
  refine W_region (by decide +kernel) ?_
  refine sq_r r_assign rfl ?_
  refine sq_z ?_
  refine W_seq ?_
  refine W_seq ?_
  -- region 1
  refine W_region (by decide +kernel) ?_
  refine sq_r r_move rfl ?_
  refine sq_r (r_nilCheck rfl) rfl ?_
  refine sq_r (r_field rfl fa58_1) rfl ?_
  refine sq_r (r_load1 rfl ty56 (At.one (hBx hs) rfl)) rfl ?_
  refine sq_r (r_lenS Try.underlying56 rfl) rfl ?_
  refine sq_r r_move rfl ?_
  refine sq_z ?_
  refine W_block ?_
  refine W_loop (fun (i : Nat) f w => ∃ g, f = ov [(0, .pointer (some ⟨rb, 0, none⟩)), (1, .int .i64 id), (2, .int .i64 op), (12, .int .i64 r.notes.length), (13, .int .i64 i)] g ∧ i ≤ r.notes.length ∧ (∀ (j : Nat) y, j < i → r.notes[j]? = some y → ntP id op y = false) ∧ St w0 (ks c) [[(rb, cb (rbx (.slice ra r.rows.length rcap) (.slice na r.notes.length ncap) pv r) 58)], rc, nc] w) (fun i => r.notes.length - i) 0 ?_ ?_
  · exact ⟨_, ov_self ⟨rfl, rfl, rfl, rfl, rfl, trivial⟩, Nat.zero_le _, fun j _ hj => absurd hj (Nat.not_lt_zero j), hs⟩
  clear hs
  rintro i f w ⟨g, rfl, hi, hall, hs⟩
  refine W_seq ?_
  refine W_region (by decide +kernel) ?_
  refine sq_r (r_cmp rfl rfl rfl) rfl ?_
  refine sq_z ?_
  refine W_seq ?_
  refine W_cond rfl rfl (fun hd => ?_) (fun hd => ?_)
  · have hlt : i < r.notes.length := by have := of_decide_eq_true hd; omega
    obtain ⟨n, hni⟩ : ∃ n, r.notes[i]? = some n := ⟨_, List.getElem?_eq_getElem hlt⟩
    obtain ⟨nb, ncap', nrest, hnv, hnce, _, _⟩ := hns.get ntC_len hni (by decide)
    simp only [Value.slice.injEq, true_and] at hnv
    obtain ⟨rfl, rfl⟩ := hnv
    have hcell : ∀ {w : World}, Hp nc w → At w nb (0 + ((i : Int)).toNat * 4) (ntC n) := fun h => (sl_rd ntC_len (by decide) hns h).get2 hni
    refine W_skip ?_
    refine W_seq ?_
    refine W_block ?_
    refine W_seq ?_
    -- region 3
    refine W_region (by decide +kernel) ?_
    refine sq_r r_move rfl ?_
    refine sq_r r_assign rfl ?_
    refine sq_z ?_
    refine W_mid (M := fun f w => ∃ g, f = ov [(0, .pointer (some ⟨rb, 0, none⟩)), (1, .int .i64 id), (2, .int .i64 op), (7, .int .i64 i), (12, .int .i64 r.notes.length), (13, .int .i64 i), (37, .bool (ntP id op n))] g ∧ St w0 (ks c) [[(rb, cb (rbx (.slice ra r.rows.length rcap) (.slice (some ⟨nb, 0, none⟩) r.notes.length ncap) pv r) 58)], rc, nc] w) ?_ (fun f w hM => ?_)
    · -- region 4
      refine W_region (by decide +kernel) ?_
      refine sq_r r_move rfl ?_
      refine sq_r (r_nilCheck rfl) rfl ?_
      refine sq_r (r_field rfl fa58_1) rfl ?_
      refine sq_r (r_load1 rfl ty56 (At.one (hBx hs) rfl)) rfl ?_
      refine sq_r r_move rfl ?_
      refine sq_r (r_index rfl rfl sl56 (by omega) (by omega)) rfl ?_
      refine sq_r (r_field rfl fa100_0) rfl ?_
      refine sq_r (r_load1 rfl ty3 (hcell (hs.at (i := 2) rfl) 0 _ rfl)) rfl ?_
      refine sq_r r_move rfl ?_
      refine sq_r (r_cmp rfl rfl rfl) rfl ?_
      cases h1 : (n.id == id)
      · refine sq_r r_move rfl ?_
        refine sq_n rfl ?_
        refine sq_n rfl ?_
        refine sq_n rfl ?_
        refine sq_n rfl ?_
        refine sq_n rfl ?_
        refine sq_n rfl ?_
        refine sq_n rfl ?_
        refine sq_n rfl ?_
        refine sq_n rfl ?_
        refine sq_n rfl ?_
        refine sq_r (r_pick (b := false) rfl) rfl ?_
        refine sq_z ?_
        exact ⟨_, ov_self ⟨rfl, rfl, rfl, rfl, rfl, rfl, by simp [ntP, h1]; rfl, trivial⟩, hs⟩
      · refine sq_r r_move rfl ?_
        refine sq_r r_move rfl ?_
        refine sq_r (r_nilCheck rfl) rfl ?_
        refine sq_r (r_field rfl fa58_1) rfl ?_
        refine sq_r (r_load1 rfl ty56 (At.one (hBx hs) rfl)) rfl ?_
        refine sq_r r_move rfl ?_
        refine sq_r (r_index rfl rfl sl56 (by omega) (by omega)) rfl ?_
        refine sq_r (r_field rfl fa100_1) rfl ?_
        refine sq_r (r_load1 rfl ty3 (hcell (hs.at (i := 2) rfl) 1 _ rfl)) rfl ?_
        refine sq_r r_move rfl ?_
        refine sq_r (r_cmp rfl rfl rfl) rfl ?_
        refine sq_r (r_pick (b := true) rfl) rfl ?_
        refine sq_z ?_
        exact ⟨_, ov_self ⟨rfl, rfl, rfl, rfl, rfl, rfl, by simp [ntP, h1]; rfl, trivial⟩, hs⟩
    obtain ⟨g, rfl, hs⟩ := hM
    refine W_cond rfl rfl (fun hc => ?_) (fun hc => ?_)
    · have hf : noteR r id op = (r, i) := by rw [noteR, fidx_some hni hc hall]
      refine W_seq ?_
      -- region 5
      refine W_region (by decide +kernel) ?_
      refine sq_r r_move rfl ?_
      refine sq_r (r_nilCheck rfl) rfl ?_
      refine sq_r (r_field rfl fa58_1) rfl ?_
      refine sq_r (r_load1 rfl ty56 (At.one (hBx hs) rfl)) rfl ?_
      refine sq_r r_move rfl ?_
      refine sq_r (r_index rfl rfl sl56 (by omega) (by omega)) rfl ?_
      refine sq_r r_assign rfl ?_
      refine sq_z ?_
      refine W_ret ?_
      repeat with_reducible first | refine thenQ_ret ?_ | refine blockQ_ret ?_
      rw [hf]
      exact ret1 (v := .pointer (some ⟨nb, 0 + ((i : Int)).toNat * 4, none⟩)) rfl (by decide) rfl (fin (c' := _) hs ⟨nb, ncap, nrest, _, rc, rfl, rfl, hrs, by rw [← hnce]; exact hns, hr1⟩ (by rw [hnce]; simp))
    · refine W_skip ?_
      -- region 6
      refine W_region (by decide +kernel) ?_
      refine sq_r (r_add rfl rfl (wrap_small (by omega) (by omega))) rfl ?_
      refine sq_r r_move rfl ?_
      refine sq_z ?_
      refine ⟨i + 1, ⟨_, ov_self ⟨rfl, rfl, rfl, rfl, rfl, trivial⟩, by omega, fun j y hj hy => ?_, hs⟩, by omega⟩
      by_cases hji : j < i
      · exact hall j y hji hy
      · obtain rfl : j = i := by omega
        rw [hni] at hy
        cases hy
        exact hc
  · have hin : i = r.notes.length := by have := of_decide_eq_false hd; omega
    subst hin
    have hf : noteR r id op = ({ r with notes := r.notes ++ [⟨id, op, 0, 0⟩] }, r.notes.length) := by rw [noteR, fidx_none fun j y hy => hall j y (List.getElem?_eq_some_iff.1 hy).1 hy]
    refine W_exit ?_
    refine W_seq ?_
    -- region 7
    refine W_region (by decide +kernel) ?_
    refine sq_r r_move rfl ?_
    refine sq_r r_move rfl ?_
    refine sq_r (r_nilCheck rfl) rfl ?_
    refine sq_r (r_field rfl fa58_1) rfl ?_
    refine sq_r (r_load1 rfl ty56 (At.one (hBx hs) rfl)) rfl ?_
    refine sq_r r_move rfl ?_
    refine sq_r r_move rfl ?_
    refine sq_r (r_buildL (ps := [(0, .int .i64 id), (1, .int .i64 op)]) rfl (build_note _ id op)) rfl ?_
    refine sq_e rfl (o_buildN [.agg (ntC ⟨id, op, 0, 0⟩).toArray] [ntC ⟨id, op, 0, 0⟩] sl56 ty100 hs rfl rfl rfl (by simp [ntC]) (by simp) ?_); intro b9 w hs
    refine sq_e rfl (o_append (i := 2) (m := 1) (news := ntC ⟨id, op, 0, 0⟩) (soff := 0) (sb := b9) (scap := 1) sl56 ty100 rfl hs rfl rfl rfl hns (by simp [ntC]) (At.of_block (hs.own (i := 3) rfl) (by simp [ntC])) (ntC_one _) (by omega) (by omega) ?_)
    intro u2 d2 w hu2 hs
    refine sq_r (r_nilCheck rfl) rfl ?_
    refine sq_r (r_field rfl fa58_1) rfl ?_
    refine sq_e rfl (o_store (i := 0) (vs := [u2]) hs rfl (sl_one hu2).2 ty56 rfl (by simpa using (sl_one hu2).1) (by simp [rbx]) ?_); intro w hs
    refine sq_z ?_
    obtain ⟨r2, hr2⟩ : ∃ r2 : R15, r2 = { r with notes := r.notes ++ [⟨id, op, 0, 0⟩] } := ⟨_, rfl⟩
    have hn2 : r2.notes = r.notes ++ [⟨id, op, 0, 0⟩] := by rw [hr2]
    have hl2 : r2.notes.length = r.notes.length + 1 := by rw [hn2]; simp
    have hu3 : Sl 100 4 u2 r2.notes.length (r2.notes.flatMap ntC) d2 := by
      rw [hl2, hn2, List.flatMap_append]
      simpa using hu2
    have hlast : r2.notes[r.notes.length]? = some ⟨id, op, 0, 0⟩ := by rw [hn2]; simp
    obtain ⟨nb, ncap2, nrest, hnv, hnce, _, _⟩ := hu3.get ntC_len hlast (by decide)
    rw [hnv] at hu3 hs
    have hs : St w0 (ks c) [[(rb, cb (rbx (.slice ra r.rows.length rcap) (.slice (some ⟨nb, 0, none⟩) r2.notes.length ncap2) pv r2) 58)], rc, d2] w := by
      rw [hr2]
      rw [hr2] at hs
      exact (hs.mask [true, true, true])
    refine W_seq ?_
    -- region 8 DRAWS
    refine W_drawM hs Try.mixed [true, true, true] [0, 1, 3, 7, 0, 16, 48, 112, 240, 496, 1023, 2047] [] [0, 1, 2, 3, 4, 5, 6, 7, 8, 9, 10, 11] (by decide +kernel) ?_
    intro w hs; have hR := hs.mask [true, true, true]
    refine dq_r hR rfl rfl rfl (fun _ w _ _ hR => r_move) ?_
    refine dq_r hR rfl rfl rfl (fun _ w _ _ hR => r_nilCheck rfl) ?_
    refine dq_r hR rfl rfl rfl (fun _ w _ _ hR => r_field rfl fa58_1) ?_
    refine dq_r hR rfl rfl rfl (fun _ w _ _ hR => r_load1 rfl ty56 (At.one (hR.own (i := 0) rfl) rfl)) ?_
    refine dq_r hR rfl rfl rfl (fun _ w _ _ hR => r_move) ?_
    refine dq_r hR rfl rfl rfl (fun _ w _ _ hR => r_nilCheck rfl) ?_
    refine dq_r hR rfl rfl rfl (fun _ w _ _ hR => r_field rfl fa58_1) ?_
    refine dq_r hR rfl rfl rfl (fun _ w _ _ hR => r_load1 rfl ty56 (At.one (hR.own (i := 0) rfl) rfl)) ?_
    refine dq_r hR rfl rfl rfl (fun _ w _ _ hR => r_lenS Try.underlying56 rfl) ?_
    refine dq_r hR rfl rfl rfl (fun _ w _ _ hR => r_sub (c := (r.notes.length : Int)) rfl rfl (by rw [hl2, wrap_small (by omega) (by omega)]; omega)) ?_
    refine dq_r hR rfl rfl rfl (fun _ w _ _ hR => r_index rfl rfl sl56 (by omega) (by omega)) ?_
    refine dq_r hR rfl rfl rfl (fun _ w _ _ hR => r_assign) ?_
    refine dq_z hR ?_
    refine W_ret ?_
    rw [hf]
    show bodyQ _ _ _ _ _ _
    rw [← hr2]
    exact ret1 (v := .pointer (some ⟨nb, 0 + ((r.notes.length : Int)).toNat * 4, none⟩)) rfl (by decide) rfl (fin (c' := _) hs ⟨nb, ncap2, nrest, .slice ra r.rows.length rcap, rc, rfl, rfl, by rw [hr2]; exact hrs, by rw [← hnce]; exact hu3, by rw [hr2]; exact hr1⟩ (by rw [hnce]; simp))

/-! ### Drop, Fail, Link -/
def dropR (r : R15) (k : Ky) : R15 := match r.rows.findIdx? (rowP k) with | some i => (match r.rows[i]? with | some p => goneR r i p.1 | none => r) | none => r
theorem rfind_cases (r : R15) (k : Ky) : (rfind r k = -1 ∧ dropR r k = r ∧ r.rows.findIdx? (rowP k) = none) ∨ ∃ (i : Nat) (p : Int × LT), rfind r k = i ∧ r.rows[i]? = some p ∧ dropR r k = goneR r i p.1 ∧ r.rows.findIdx? (rowP k) = some i := by
  unfold rfind dropR
  cases h : r.rows.findIdx? (rowP k) with
  | none => exact .inl ⟨rfl, rfl, rfl⟩
  | some i =>
    obtain ⟨hi, _⟩ := List.findIdx?_eq_some_iff_getElem.1 h
    refine .inr ⟨i, r.rows[i], rfl, List.getElem?_eq_getElem hi, ?_, rfl⟩
    simp only [List.getElem?_eq_getElem hi]
set_option maxRecDepth 20000 in
theorem f30_calls (rb : Nat) (pv : Value) (r : R15) (c : Ck) (hc : RK rb pv r c) (k : Ky) (hn : r.rows.length ≤ 2000000) (hn2 : r.notes.length ≤ 4000000000000) : Ctr Try.prog 30 #[.pointer (some ⟨rb, 0, none⟩), encV k] c (fun _ => True) (fun v c' => v = .bool (decide (0 ≤ rfind r k)) ∧ RK rb pv (dropR r k) c') := by
  intro w0 hp hro
  have hs : St w0 (ks c) [c] w0 := hp.st
  refine calls_W (n := 16) Try.func30 rfl Try.ntmps30 (by simp) ?_
  refine W_seq ?_
  -- region 0
  refine W_region (by decide +kernel) ?_
  refine sq_e rfl (o_box (cs := ic k.toList) hs rfl ?_); intro b3 w hs
  refine sq_r r_assign rfl ?_
  refine sq_z ?_
  have hs : St w0 (ks c) [c, [(b3, cb (ic k.toList) 26)]] w := hs
  refine W_seq ?_
  -- region 1
  refine W_region (by decide +kernel) ?_
  refine sq_r r_move rfl ?_
  refine sq_r (r_loadN (vs := ic k.toList) rfl ty26 (by simp) (At.of_block (hs.own (i := 1) rfl) (ic_all _))) rfl ?_
  refine sq_e rfl (o_callN cb44 rfl rfl (Post := fun v _ => v = .int .i64 (rfind r k)) (f44_calls rb pv r c hc k hn) hs (hs.at (i := 0) rfl) ?_)
  rintro u w rfl hs
  refine sq_r r_assign rfl ?_
  refine sq_z ?_
  refine W_mid (M := fun f w => ∃ g c1, f = ov [(5, .int .i64 (rfind r k))] g ∧ RK rb pv (dropR r k) c1 ∧ St w0 (ks c) [c1] w) ?_ (fun f w hM => ?_)
  · refine W_seq ?_
    -- region 2
    refine W_region (by decide +kernel) ?_
    refine sq_r r_move rfl ?_
    refine sq_r (r_cmp rfl rfl rfl) rfl ?_
    refine sq_z ?_
    rcases rfind_cases r k with ⟨h1, h2, _⟩ | ⟨i, p, h1, h2, h3, _⟩
    · rw [h1]
      refine W_cond rfl rfl (fun hg => ?_) (fun hg => ?_)
      · cases hg
      · refine W_skip ?_
        exact ⟨_, c, ov_self ⟨rfl, trivial⟩, by rw [h2]; exact hc, hs.keep (by simp)⟩
    · rw [h1]
      refine W_cond rfl rfl (fun hg => ?_) (fun hg => ?_)
      · -- region 3
        refine W_region (by decide +kernel) ?_
        refine sq_r r_move rfl ?_
        refine sq_r r_move rfl ?_
        refine sq_e rfl (o_call (i := 0) cb45 rfl rfl (f45_calls rb pv r c hc i p h2 hn hn2) hs rfl trivial ?_)
        intro u c1 w hb1 hs
        refine sq_z ?_
        exact ⟨_, c1, ov_self ⟨rfl, trivial⟩, by rw [h3]; exact hb1, hs.keep (by simp)⟩
      · exact absurd (of_decide_eq_false hg) (by omega)
  obtain ⟨g, c1, rfl, hb1, hs⟩ := hM
  refine W_seq ?_
  -- region 4
  refine W_region (by decide +kernel) ?_
  refine sq_r r_move rfl ?_
  refine sq_r (r_cmp rfl rfl rfl) rfl ?_
  refine sq_r r_assign rfl ?_
  refine sq_z ?_
  refine W_ret ?_
  exact ret1 (v := .bool (decide (0 ≤ rfind r k))) rfl (by decide) rfl (fin (c' := c1) hs ⟨rfl, hb1⟩ (by simp))

/-- A note changed. -/
def setR (r : R15) (id op : Int) (g : Nt → Nt) : R15 := { (noteR r id op).1 with notes := (noteR r id op).1.notes.modify (noteR r id op).2 g }
def nFail (n : Nt) : Nt := { n with fails := IntKind.i64.wrap (n.fails + 1) }
def nTo (to : Int) (n : Nt) : Nt := { n with to := to }
def rfails (r : R15) (id op : Int) : Int := match r.notes.find? (ntP id op) with | some n => n.fails | none => 0
theorem modify_set {ns : List Nt} {i : Nat} {n : Nt} (h : ns[i]? = some n) (g : Nt → Nt) : ns.modify i g = ns.set i (g n) := by
  apply List.ext_getElem?
  intro j
  rw [List.getElem?_modify, List.getElem?_set]
  by_cases hij : i = j
  · subst hij
    have hl := (List.getElem?_eq_some_iff.1 h).1
    have he := (List.getElem?_eq_some_iff.1 h).2
    simp [hl, he]
  · simp [hij]
set_option maxRecDepth 20000 in
theorem f31_calls (rb : Nat) (pv : Value) (r : R15) (c : Ck) (hc : RK rb pv r c) (id op : Int) (hn : r.rows.length ≤ 2000000) (hn2 : r.notes.length ≤ 4000000000000) : Ctr Try.prog 31 #[.pointer (some ⟨rb, 0, none⟩), .int .i64 id, .int .i64 op] c (fun _ => True)
    (fun v c' => (∀ n, (noteR r id op).1.notes[(noteR r id op).2]? = some n → v = .int .i64 (if rheld r id then IntKind.i64.wrap (n.fails + 1) else 0)) ∧ RK rb pv (if rheld r id then setR r id op nFail else r) c') := by
  intro w0 hp hro
  have hs : St w0 (ks c) [c] w0 := hp.st
  refine calls_W (n := 27) Try.func31 rfl Try.ntmps31 (by simp) ?_
  refine W_seq ?_
  -- region 0
  refine W_region (by decide +kernel) ?_
  refine sq_r r_assign rfl ?_
  refine sq_z ?_
  refine W_seq ?_
  refine W_seq ?_
  -- region 1
  refine W_region (by decide +kernel) ?_
  refine sq_r r_move rfl ?_
  refine sq_r r_move rfl ?_
  refine sq_e rfl (o_callN cb46 rfl rfl (Post := fun v _ => v = .bool (rheld r id)) (f46_calls rb pv r c hc id hn) hs (hs.at (i := 0) rfl) ?_)
  rintro u w rfl hs
  refine sq_r (r_not rfl) rfl ?_
  refine sq_z ?_
  refine W_cond rfl rfl (fun hz => ?_) (fun hz => ?_)
  · have hz : rheld r id = false := by simpa using hz
    refine W_seq ?_
    -- region 2
    refine W_region (by decide +kernel) ?_
    refine sq_r r_assign rfl ?_
    refine sq_z ?_
    refine W_ret ?_
    repeat with_reducible first | refine thenQ_ret ?_ | refine blockQ_ret ?_
    exact ret1 (v := .int .i64 0) rfl (by decide) rfl (fin (c' := c) hs ⟨fun n _ => by rw [hz]; simp, by rw [hz]; exact hc⟩ (by simp))
  have hz : rheld r id = true := by simpa using hz
  obtain ⟨n, hn1, _, _⟩ := noteR_get r id op
  refine W_skip ?_
  refine W_seq ?_
  -- region 3
  refine W_region (by decide +kernel) ?_
  refine sq_r r_move rfl ?_
  refine sq_r r_move rfl ?_
  refine sq_r r_move rfl ?_
  refine sq_e rfl (o_call (i := 0) cb47 rfl rfl (f47_calls rb pv r c hc id op hn2) hs rfl trivial ?_)
  rintro u c' w ⟨nb, ncap, rest, rv, rc, rfl, rfl, hrs, hns, hr1⟩ hs
  refine sq_r r_assign rfl ?_
  refine sq_z ?_
  have hs : St w0 (ks c) [[(rb, cb (rbx rv (.slice (some ⟨nb, 0, none⟩) (noteR r id op).1.notes.length ncap) pv (noteR r id op).1) 58)], rc, [(nb, cb ((noteR r id op).1.notes.flatMap ntC ++ rest) 100)]] w := hs.cast (by simp)
  have hat := (sl_rd ntC_len (by decide) hns (hs.at (i := 2) rfl)).get2 hn1
  refine W_seq ?_
  -- region 4
  refine W_region (by decide +kernel) ?_
  refine sq_r r_move rfl ?_
  refine sq_r (r_nilCheck rfl) rfl ?_
  refine sq_r (r_field rfl fa100_2) rfl ?_
  refine sq_r (r_load1 rfl ty3 (hat 2 _ rfl)) rfl ?_
  refine sq_r (r_add (c := IntKind.i64.wrap (n.fails + 1)) rfl rfl rfl) rfl ?_
  refine sq_r (r_nilCheck rfl) rfl ?_
  refine sq_r (r_field rfl fa100_2) rfl ?_
  refine sq_e rfl (o_store (i := 2) (vs := [.int .i64 (IntKind.i64.wrap (n.fails + 1))]) hs rfl rfl ty3 rfl (by simp [Value.oneCell']) ?_ ?_)
  · rw [List.length_append, cat_len ntC_len]
    simp only [List.length_cons, List.length_nil]
    have h := (List.getElem?_eq_some_iff.1 hn1).1
    have : ((noteR r id op).2 + 1) * 4 ≤ (noteR r id op).1.notes.length * 4 := Nat.mul_le_mul_right _ h
    omega
  intro w hs
  refine sq_z ?_
  have e := cat_set ntC_len rest (off := 2) (vs := [.int .i64 (IntKind.i64.wrap (n.fails + 1))]) (noteR r id op).1.notes (noteR r id op).2 n (nFail n) hn1 rfl (by simp)
  rw [← modify_set hn1] at e
  have hs : St w0 (ks c) [[(rb, cb (rbx rv (.slice (some ⟨nb, 0, none⟩) (noteR r id op).1.notes.length ncap) pv (noteR r id op).1) 58)], rc, [(nb, cb ((setR r id op nFail).notes.flatMap ntC ++ rest) 100)]] w := hs.cast (by
    show _ = [_, rc, [(nb, cb ((((noteR r id op).1.notes.modify (noteR r id op).2 nFail)).flatMap ntC ++ rest) 100)]].flatten
    rw [← e]; simp)
  have hln : (setR r id op nFail).notes.length = (noteR r id op).1.notes.length := by simp [setR]
  have hn2' : (setR r id op nFail).notes[(noteR r id op).2]? = some (nFail n) := by
    show ((noteR r id op).1.notes.modify (noteR r id op).2 nFail)[(noteR r id op).2]? = _
    rw [modify_set hn1, List.getElem?_set_self (List.getElem?_eq_some_iff.1 hn1).1]
  have hns2 := hns.set (v := .slice (some ⟨nb, 0, none⟩) (noteR r id op).1.notes.length ncap) ntC_len hln rfl
  have hat2 := (sl_rd ntC_len (by decide) hns2 (hs.at (i := 2) rfl)).get2 hn2'
  refine W_seq ?_
  -- region 5
  refine W_region (by decide +kernel) ?_
  refine sq_r r_move rfl ?_
  refine sq_r (r_nilCheck rfl) rfl ?_
  refine sq_r (r_field rfl fa100_2) rfl ?_
  refine sq_r (r_load1 rfl ty3 (hat2 2 _ rfl)) rfl ?_
  refine sq_r r_assign rfl ?_
  refine sq_z ?_
  refine W_ret ?_
  refine ret1 (v := .int .i64 (IntKind.i64.wrap (n.fails + 1))) rfl (by decide) rfl (fin (c' := [(rb, cb (rbx rv (.slice (some ⟨nb, 0, none⟩) (noteR r id op).1.notes.length ncap) pv (setR r id op nFail)) 58)] ++ (rc ++ [(nb, cb ((setR r id op nFail).notes.flatMap ntC ++ rest) 100)])) hs ⟨fun n' hn' => by rw [hn1] at hn'; cases hn'; rw [if_pos hz], ?_⟩ (by simp [rbx, setR]))
  rw [if_pos hz]
  exact ⟨rv, _, rc, _, rfl, hrs, by rw [hln]; exact hns2, hr1⟩

def rlinkE (r : R15) (id op to : Int) : Int := if rheld r id && rheld r to then (if op < 0 then 1 else 0) else 3
set_option maxRecDepth 20000 in
theorem f32_calls (rb : Nat) (pv : Value) (r : R15) (c : Ck) (hc : RK rb pv r c) (id op to : Int) (hn : r.rows.length ≤ 2000000) (hn2 : r.notes.length ≤ 4000000000000) : Ctr Try.prog 32 #[.pointer (some ⟨rb, 0, none⟩), .int .i64 id, .int .i64 op, .int .i64 to] c (fun _ => True)
    (fun v c' => v = .int .i64 (rlinkE r id op to) ∧ RK rb pv (if rlinkE r id op to = 0 then setR r id op (nTo to) else r) c') := by
  intro w0 hp hro
  have hs : St w0 (ks c) [c] w0 := hp.st
  refine calls_W (n := 30) Try.func32 rfl Try.ntmps32 (by simp) ?_
  refine W_seq ?_
  -- region 0
  refine W_region (by decide +kernel) ?_
  refine sq_r r_assign rfl ?_
  refine sq_z ?_
  refine W_seq ?_
  refine W_mid (M := fun f w => ∃ g, f = ov [(0, .pointer (some ⟨rb, 0, none⟩)), (1, .int .i64 id), (2, .int .i64 op), (3, .int .i64 to), (19, .bool (!(rheld r id && rheld r to)))] g ∧ St w0 (ks c) [c] w) ?_ (fun f w hM => ?_)
  · -- region 1
    refine W_region (by decide +kernel) ?_
    refine sq_r r_move rfl ?_
    refine sq_r r_move rfl ?_
    refine sq_e rfl (o_callN cb46 rfl rfl (Post := fun v _ => v = .bool (rheld r id)) (f46_calls rb pv r c hc id hn) hs (hs.at (i := 0) rfl) ?_)
    rintro u w rfl hs
    cases h1 : rheld r id
    · refine sq_r (r_not rfl) rfl ?_
      refine sq_r r_move rfl ?_
      refine sq_n rfl ?_
      refine sq_n rfl ?_
      refine sq_n rfl ?_
      refine sq_n rfl ?_
      refine sq_r (r_pick (b := true) rfl) rfl ?_
      refine sq_z ?_
      exact ⟨_, ov_self ⟨rfl, rfl, rfl, rfl, rfl, trivial⟩, hs⟩
    · refine sq_r (r_not rfl) rfl ?_
      refine sq_r r_move rfl ?_
      refine sq_r r_move rfl ?_
      refine sq_r r_move rfl ?_
      refine sq_e rfl (o_callN cb46 rfl rfl (Post := fun v _ => v = .bool (rheld r to)) (f46_calls rb pv r c hc to hn) hs (hs.at (i := 0) rfl) ?_)
      rintro u w rfl hs
      refine sq_r (r_not rfl) rfl ?_
      refine sq_r (r_pick (b := false) rfl) rfl ?_
      refine sq_z ?_
      exact ⟨_, ov_self ⟨rfl, rfl, rfl, rfl, rfl, trivial⟩, hs⟩
  obtain ⟨g, rfl, hs⟩ := hM
  refine W_cond rfl rfl (fun hz => ?_) (fun hz => ?_)
  · have hz : (rheld r id && rheld r to) = false := by
      cases h : (rheld r id && rheld r to)
      · rfl
      · rw [h] at hz; cases hz
    have he : rlinkE r id op to = 3 := by rw [rlinkE, hz]; rfl
    refine W_seq ?_
    -- region 2
    refine W_region (by decide +kernel) ?_
    refine sq_r r_assign rfl ?_
    refine sq_z ?_
    refine W_ret ?_
    repeat with_reducible first | refine thenQ_ret ?_ | refine blockQ_ret ?_
    exact ret1 (v := .int .i64 3) rfl (by decide) rfl (fin (c' := c) hs ⟨by rw [he], by rw [he, if_neg (by decide)]; exact hc⟩ (by simp))
  have hz : (rheld r id && rheld r to) = true := by
    cases h : (rheld r id && rheld r to)
    · rw [h] at hz; cases hz
    · rfl
  refine W_skip ?_
  refine W_seq ?_
  refine W_seq ?_
  -- region 3
  refine W_region (by decide +kernel) ?_
  refine sq_r r_move rfl ?_
  refine sq_r (r_cmp rfl rfl rfl) rfl ?_
  refine sq_z ?_
  refine W_cond rfl rfl (fun hg => ?_) (fun hg => ?_)
  · have he : rlinkE r id op to = 1 := by rw [rlinkE, hz, if_pos rfl, if_pos (of_decide_eq_true hg)]
    refine W_seq ?_
    -- region 4
    refine W_region (by decide +kernel) ?_
    refine sq_r r_assign rfl ?_
    refine sq_z ?_
    refine W_ret ?_
    repeat with_reducible first | refine thenQ_ret ?_ | refine blockQ_ret ?_
    exact ret1 (v := .int .i64 1) rfl (by decide) rfl (fin (c' := c) hs ⟨by rw [he], by rw [he, if_neg (by decide)]; exact hc⟩ (by simp))
  have he : rlinkE r id op to = 0 := by rw [rlinkE, hz, if_pos rfl, if_neg (of_decide_eq_false hg)]
  obtain ⟨n, hn1, _, _⟩ := noteR_get r id op
  refine W_skip ?_
  refine W_seq ?_
  -- region 5
  refine W_region (by decide +kernel) ?_
  refine sq_r r_move rfl ?_
  refine sq_r r_move rfl ?_
  refine sq_r r_move rfl ?_
  refine sq_e rfl (o_call (i := 0) cb47 rfl rfl (f47_calls rb pv r c hc id op hn2) hs rfl trivial ?_)
  rintro u c' w ⟨nb, ncap, rest, rv, rc, rfl, rfl, hrs, hns, hr1⟩ hs
  refine sq_r r_assign rfl ?_
  refine sq_z ?_
  have hs : St w0 (ks c) [[(rb, cb (rbx rv (.slice (some ⟨nb, 0, none⟩) (noteR r id op).1.notes.length ncap) pv (noteR r id op).1) 58)], rc, [(nb, cb ((noteR r id op).1.notes.flatMap ntC ++ rest) 100)]] w := hs.cast (by simp)
  refine W_seq ?_
  -- region 6
  refine W_region (by decide +kernel) ?_
  refine sq_r r_move rfl ?_
  refine sq_r r_move rfl ?_
  refine sq_r (r_nilCheck rfl) rfl ?_
  refine sq_r (r_field rfl fa100_3) rfl ?_
  refine sq_e rfl (o_store (i := 2) (vs := [.int .i64 to]) hs rfl rfl ty3 rfl (by simp [Value.oneCell']) ?_ ?_)
  · rw [List.length_append, cat_len ntC_len]
    simp only [List.length_cons, List.length_nil]
    have h := (List.getElem?_eq_some_iff.1 hn1).1
    have : ((noteR r id op).2 + 1) * 4 ≤ (noteR r id op).1.notes.length * 4 := Nat.mul_le_mul_right _ h
    omega
  intro w hs
  refine sq_z ?_
  have e := cat_set ntC_len rest (off := 3) (vs := [.int .i64 to]) (noteR r id op).1.notes (noteR r id op).2 n (nTo to n) hn1 rfl (by simp)
  rw [← modify_set hn1] at e
  have hs : St w0 (ks c) [[(rb, cb (rbx rv (.slice (some ⟨nb, 0, none⟩) (noteR r id op).1.notes.length ncap) pv (noteR r id op).1) 58)], rc, [(nb, cb ((setR r id op (nTo to)).notes.flatMap ntC ++ rest) 100)]] w := hs.cast (by
    show _ = [_, rc, [(nb, cb ((((noteR r id op).1.notes.modify (noteR r id op).2 (nTo to))).flatMap ntC ++ rest) 100)]].flatten
    rw [← e]; simp)
  have hln : (setR r id op (nTo to)).notes.length = (noteR r id op).1.notes.length := by simp [setR]
  have hns2 := hns.set (v := .slice (some ⟨nb, 0, none⟩) (noteR r id op).1.notes.length ncap) ntC_len hln rfl
  refine W_seq ?_
  -- region 7
  refine W_region (by decide +kernel) ?_
  refine sq_r r_assign rfl ?_
  refine sq_z ?_
  refine W_ret ?_
  refine ret1 (v := .int .i64 0) rfl (by decide) rfl (fin (c' := [(rb, cb (rbx rv (.slice (some ⟨nb, 0, none⟩) (noteR r id op).1.notes.length ncap) pv (setR r id op (nTo to))) 58)] ++ (rc ++ [(nb, cb ((setR r id op (nTo to)).notes.flatMap ntC ++ rest) 100)])) hs ⟨by rw [he], ?_⟩ (by simp [rbx, setR]))
  rw [if_pos he]
  exact ⟨rv, _, rc, _, rfl, hrs, by rw [hln]; exact hns2, hr1⟩

end Go.Proofs.Ytddhdoncjfgfnaa
