/-
  Layer 14: the document's book (the reference), what its small functions answer: New, find, Banned, Count. Conditions: it holds few rows.
-/
import Derived.Test.YtcdlbgmmogccaaaState
namespace Go.Proofs.Ytcdlbgmmogccaaa
open Go.Eng

/-- The reference's book: its rows, those that have been there longest first; which are banned; the threshold. -/
structure RS where
  rows : List (Ky × Int)
  out : List Ky
  thr : Int
def rowF (r : Ky × Int) : List Value := kc r.1 ++ [.int .i64 r.2]
theorem rowF_len (r : Ky × Int) : (rowF r).length = 11 := by simp [rowF, kc]
theorem rowF_one (r : Ky × Int) : ∀ v ∈ rowF r, v.oneCell' = true := by
  intro v hv
  rcases List.mem_append.1 hv with hv | hv
  · exact kc_one _ v hv
  · simp at hv; subst hv; rfl
theorem rowF_key (r : Ky × Int) : ((rowF r).drop 0).take (kc r.1).length = kc r.1 := by simp [rowF]
theorem rowF_n (r : Ky × Int) : (rowF r)[10]? = some (.int .i64 r.2) := by
  unfold rowF
  rw [List.getElem?_append_right (by rw [kc_len]; exact Nat.le_refl _), kc_len]
  rfl
def rbC (rb : Nat) (rv ov : Value) (thr : Int) : Ck := [(rb, cb [rv, ov, .int .i64 thr] 43)]
def RB (rb : Nat) (s : RS) (c : Ck) : Prop :=
  ∃ rv ov rc oc, Sl 63 11 rv s.rows.length (s.rows.flatMap rowF) rc ∧ Sl 28 10 ov s.out.length (s.out.flatMap kc) oc ∧ c = rbC rb rv ov s.thr ++ (rc ++ oc)
theorem rb_st {rb : Nat} {rv ov : Value} {thr : Int} {rc oc : Ck} {w : World} (hp : Hp (rbC rb rv ov thr ++ (rc ++ oc)) w) : St w (ks (rbC rb rv ov thr ++ (rc ++ oc))) [[(rb, cb [rv, ov, .int .i64 thr] 43)], rc, oc] w :=
  hp.st.cast (by simp [rbC])

/-- New. -/
theorem f13_calls (t : Int) : Ctr Try.prog 13 #[.int .i64 t] [] (fun _ => True) (fun v c => ∃ rb, v = .pointer (some ⟨rb, 0, none⟩) ∧ RB rb ⟨[], [], max t 1⟩ c) := by
  intro w0 hp hro
  have hs : St w0 (ks []) [] w0 := St.start w0
  refine calls_W (n := 7) Try.func13 rfl Try.ntmps13 (by simp) ?_
  refine W_seq ?_
  refine W_region (by decide +kernel) ?_
  refine sq_r r_assign rfl ?_
  refine sq_z ?_
  refine W_seq ?_
  refine W_region (by decide +kernel) ?_
  refine sq_r r_move rfl ?_
  refine sq_r (r_max rfl rfl) rfl ?_
  refine sq_r (r_build (v := .agg #[.slice none 0 0, .slice none 0 0, .int .i64 (max t 1)]) (by kernel_rfl)) rfl ?_
  refine sq_e rfl (o_box (cs := [.slice none 0 0, .slice none 0 0, .int .i64 (max t 1)]) hs rfl ?_); intro b w hs
  refine sq_r r_assign rfl ?_
  refine sq_z ?_
  refine W_ret ?_
  exact ret1 rfl (by decide) rfl (fin (c' := rbC b (.slice none 0 0) (.slice none 0 0) (max t 1) ++ ([] ++ [])) hs ⟨b, rfl, _, _, _, _, Sl.nil 63 11, Sl.nil 28 10, rfl⟩ (by simp [rbC]))

/-- A key's place; -1: it isn't there. -/
def Fnd (rows : List (Ky × Int)) (k : Ky) (z : Int) : Prop :=
  (∃ (i : Nat) (r : Ky × Int), z = i ∧ rows[i]? = some r ∧ r.1 = k ∧ ∀ (j : Nat) (r' : Ky × Int), j < i → rows[j]? = some r' → r'.1 ≠ k) ∨ (z = -1 ∧ ∀ r ∈ rows, r.1 ≠ k)
theorem row_zero (r : Ky × Int) : spl [Value.int .i64 0, .int .i64 0, .int .i64 0, .int .i64 0, .int .i64 0, .int .i64 0, .int .i64 0, .int .i64 0, .int .i64 0, .int .i64 0, .int .i64 0] 0 (rowF r) = rowF r := spl_all (rowF_len r)

theorem f26_calls (rb : Nat) (s : RS) (k : Ky) (c : Ck) (hc : RB rb s c) (hn : s.rows.length ≤ 4000) : Ctr Try.prog 26 #[.pointer (some ⟨rb, 0, none⟩), .agg (kc k).toArray] c (fun _ => True)
    (fun v c' => (∃ z, v = .int .i64 z ∧ Fnd s.rows k z) ∧ c' = c) := by
  intro w0 hp hro
  obtain ⟨rv, ov', rc, oc, hr, ho, rfl⟩ := hc
  have hs := rb_st hp
  obtain ⟨ra, rcap, rfl⟩ := hr.len
  refine calls_W (n := 23) Try.func26 rfl Try.ntmps26 (by simp) ?_
  refine W_seq ?_
  -- region 0
  refine W_region (by decide +kernel) ?_
  refine sq_e rfl (o_box (cs := kc k) hs rfl ?_); intro b3 w hs
  refine sq_r r_assign rfl ?_
  refine sq_z ?_
  refine W_seq ?_
  refine W_seq ?_
  -- region 1
  refine W_region (by decide +kernel) ?_
  refine sq_r r_move rfl ?_
  refine sq_r (r_nilCheck rfl) rfl ?_
  refine sq_r (r_field rfl fa43_0) rfl ?_
  refine sq_r (r_load1 rfl ty40 (At.one (hs.own (i := 0) rfl) rfl)) rfl ?_
  refine sq_r (r_lenS Try.underlying40 rfl) rfl ?_
  refine sq_r r_move rfl ?_
  refine sq_z ?_
  refine W_block ?_ -- 0
  -- LOOP
  refine W_loop (fun (i : Nat) f w => ∃ g, f = ov [(3, .pointer (some ⟨b3, 0, none⟩)), (10, .slice ra s.rows.length rcap), (11, .int .i64 s.rows.length), (12, .int .i64 i)] g ∧ i ≤ s.rows.length ∧
    (∀ (j : Nat) (r' : Ky × Int), j < i → s.rows[j]? = some r' → r'.1 ≠ k) ∧ St w0 (ks (rbC rb (.slice ra s.rows.length rcap) ov' s.thr ++ (rc ++ oc))) [[(rb, cb [.slice ra s.rows.length rcap, ov', .int .i64 s.thr] 43)], rc, oc, [(b3, cb (kc k) 28)]] w) (fun i => s.rows.length - i) 0 ?_ ?_
  · exact ⟨_, ov_self ⟨rfl, rfl, rfl, rfl, trivial⟩, Nat.zero_le _, fun j _ hj => absurd hj (Nat.not_lt_zero j), hs⟩
  rintro i f w ⟨g, rfl, hi, hall, hs⟩
  refine W_seq ?_
  -- region 2
  refine W_region (by decide +kernel) ?_
  refine sq_r (r_cmp rfl rfl rfl) rfl ?_
  refine sq_z ?_
  refine W_seq ?_
  refine W_cond rfl rfl (fun hc => ?_) (fun hc => ?_)
  · have hlt : i < s.rows.length := by have := of_decide_eq_true hc; omega
    obtain ⟨x, hx⟩ : ∃ x, s.rows[i]? = some x := ⟨_, List.getElem?_eq_getElem hlt⟩
    obtain ⟨b, cap, rest, hv, rfl, hcell, _⟩ := hr.get rowF_len hx (by decide)
    simp only [Value.slice.injEq, true_and] at hv
    obtain ⟨rfl, rfl⟩ := hv
    refine W_skip ?_
    refine W_seq ?_
    refine W_block ?_ -- 1
    refine W_seq ?_
    -- region 3
    refine W_region (by decide +kernel) ?_
    refine sq_r r_move rfl ?_
    refine sq_r (r_index rfl rfl sl40 (by omega) (by omega)) rfl ?_
    refine sq_r (r_loadN (vs := rowF x) rfl ty63 (rowF_len x) (At.of_block (hs.own (i := 1) rfl) (by rw [rowF_len, Nat.zero_add]; exact hcell))) rfl ?_
    refine sq_e rfl (o_alloc hs ty63 ?_); intro b4 w hs
    refine sq_r r_assign rfl ?_
    refine sq_e rfl (o_store (i := 4) (vs := rowF x) hs rfl rfl (by rw [rowF_len]; exact ty63) rfl (rowF_one _) (by simp [rowF_len]) ?_); intro w hs
    refine sq_z ?_
    rw [row_zero] at hs
    refine W_seq ?_
    -- region 4
    refine W_region (by decide +kernel) ?_
    refine sq_r (r_field rfl fa63_0) rfl ?_
    refine sq_r (r_loadN rfl ty28 (kc_len x.1) (At.of_block (hs.own (i := 4) rfl) (rowF_key x))) rfl ?_
    refine sq_r (r_loadN rfl ty28 (kc_len k) (At.of_block (hs.own (i := 3) rfl) (kc_all k))) rfl ?_
    refine sq_r (r_eqS (a := x.1) (b := k) Try.underlying28 flat28 (by decide) (by kernel_rfl) rfl rfl) rfl ?_
    refine sq_z ?_
    refine W_cond rfl rfl (fun hd => ?_) (fun hd => ?_)
    · refine W_seq ?_
      -- region 5
      refine W_region (by decide +kernel) ?_
      refine sq_r r_move rfl ?_
      refine sq_r r_assign rfl ?_
      refine sq_z ?_
      refine W_ret ?_
      repeat with_reducible first | refine thenQ_ret ?_ | refine blockQ_ret ?_
      exact ret1 (v := .int .i64 i) rfl (by decide) rfl (fin hs ⟨⟨_, rfl, .inl ⟨i, x, rfl, hx, of_decide_eq_true hd, hall⟩⟩, rfl⟩ (by simp [rbC]))
    · refine W_skip ?_
      -- region 6
      refine W_region (by decide +kernel) ?_
      refine sq_r (r_add rfl rfl (wrap_small (by omega) (by omega))) rfl ?_
      refine sq_r r_move rfl ?_
      refine sq_z ?_
      refine ⟨i + 1, ⟨_, ov_self ⟨rfl, rfl, rfl, rfl, trivial⟩, by omega, fun j r' hj hr' => ?_, (hs.mask [true, true, true, true, false]).cast (by simp [zipMask])⟩, by omega⟩
      by_cases hji : j < i
      · exact hall j r' hji hr'
      · obtain rfl : j = i := by omega
        rw [hx] at hr'
        cases hr'
        exact of_decide_eq_false hd
  · have hin : i = s.rows.length := by have := of_decide_eq_false hc; omega
    subst hin
    refine W_exit ?_ -- 0
    refine W_seq ?_
    -- region 7
    refine W_region (by decide +kernel) ?_
    refine sq_r r_assign rfl ?_
    refine sq_z ?_
    refine W_ret ?_
    refine ret1 (v := .int .i64 (-1)) rfl (by decide) rfl (fin hs ⟨⟨_, rfl, .inr ⟨rfl, fun r hr => ?_⟩⟩, rfl⟩ (by simp [rbC]))
    obtain ⟨j, hj⟩ := List.mem_iff_getElem?.1 hr
    exact hall j r (List.getElem?_eq_some_iff.1 hj).1 hj

/-- Banned. -/
theorem f22_calls (rb : Nat) (s : RS) (k : Ky) (c : Ck) (hc : RB rb s c) (hn : s.out.length ≤ 4000) : Ctr Try.prog 22 #[.pointer (some ⟨rb, 0, none⟩), .agg (kc k).toArray] c (fun _ => True)
    (fun v c' => v = .bool (decide (k ∈ s.out)) ∧ c' = c) := by
  intro w0 hp hro
  obtain ⟨rv, ov', rc, oc, hr, ho, rfl⟩ := hc
  have hs := rb_st hp
  obtain ⟨oa, ocap, rfl⟩ := ho.len
  refine calls_W (n := 20) Try.func22 rfl Try.ntmps22 (by simp) ?_
  refine W_seq ?_
  -- region 0
  refine W_region (by decide +kernel) ?_
  refine sq_e rfl (o_box (cs := kc k) hs rfl ?_); intro b3 w hs
  refine sq_r r_assign rfl ?_
  refine sq_z ?_
  refine W_seq ?_
  refine W_seq ?_
  -- region 1
  refine W_region (by decide +kernel) ?_
  refine sq_r r_move rfl ?_
  refine sq_r (r_nilCheck rfl) rfl ?_
  refine sq_r (r_field rfl fa43_1) rfl ?_
  refine sq_r (r_load1 rfl ty41 (At.one (hs.own (i := 0) rfl) rfl)) rfl ?_
  refine sq_r (r_lenS Try.underlying41 rfl) rfl ?_
  refine sq_r r_move rfl ?_
  refine sq_z ?_
  refine W_block ?_ -- 0
  -- LOOP
  refine W_loop (fun (i : Nat) f w => ∃ g, f = ov [(3, .pointer (some ⟨b3, 0, none⟩)), (10, .slice oa s.out.length ocap), (11, .int .i64 s.out.length), (12, .int .i64 i)] g ∧ i ≤ s.out.length ∧
    (∀ (j : Nat) (r' : Ky), j < i → s.out[j]? = some r' → r' ≠ k) ∧ St w0 (ks (rbC rb rv (.slice oa s.out.length ocap) s.thr ++ (rc ++ oc))) [[(rb, cb [rv, .slice oa s.out.length ocap, .int .i64 s.thr] 43)], rc, oc, [(b3, cb (kc k) 28)]] w) (fun i => s.out.length - i) 0 ?_ ?_
  · exact ⟨_, ov_self ⟨rfl, rfl, rfl, rfl, trivial⟩, Nat.zero_le _, fun j _ hj => absurd hj (Nat.not_lt_zero j), hs⟩
  rintro i f w ⟨g, rfl, hi, hall, hs⟩
  refine W_seq ?_
  -- region 2
  refine W_region (by decide +kernel) ?_
  refine sq_r (r_cmp rfl rfl rfl) rfl ?_
  refine sq_z ?_
  refine W_seq ?_
  refine W_cond rfl rfl (fun hc => ?_) (fun hc => ?_)
  · have hlt : i < s.out.length := by have := of_decide_eq_true hc; omega
    obtain ⟨x, hx⟩ : ∃ x, s.out[i]? = some x := ⟨_, List.getElem?_eq_getElem hlt⟩
    obtain ⟨b, cap, rest, hv, rfl, hcell, _⟩ := ho.get kc_len hx (by decide)
    simp only [Value.slice.injEq, true_and] at hv
    obtain ⟨rfl, rfl⟩ := hv
    refine W_skip ?_
    refine W_seq ?_
    refine W_block ?_ -- 1
    refine W_seq ?_
    -- region 3
    refine W_region (by decide +kernel) ?_
    refine sq_r (r_index rfl rfl sl41 (by omega) (by omega)) rfl ?_
    refine sq_r (r_loadN (vs := kc x) rfl ty28 (kc_len x) (At.of_block (hs.own (i := 2) rfl) (by rw [kc_len, Nat.zero_add]; exact hcell))) rfl ?_
    refine sq_e rfl (o_alloc hs ty28 ?_); intro b4 w hs
    refine sq_e rfl (o_store (i := 4) (vs := kc x) hs rfl rfl (by rw [kc_len]; exact ty28) rfl (kc_one _) (by simp [kc_len]) ?_); intro w hs
    refine sq_z ?_
    rw [spl_all (vs := kc x) (by rw [kc_len]; rfl)] at hs
    refine W_seq ?_
    -- region 4
    refine W_region (by decide +kernel) ?_
    refine sq_r (r_loadN rfl ty28 (kc_len x) (At.of_block (hs.own (i := 4) rfl) (kc_all x))) rfl ?_
    refine sq_r (r_loadN rfl ty28 (kc_len k) (At.of_block (hs.own (i := 3) rfl) (kc_all k))) rfl ?_
    refine sq_r (r_eqS (a := x) (b := k) Try.underlying28 flat28 (by decide) (by kernel_rfl) rfl rfl) rfl ?_
    refine sq_z ?_
    refine W_cond rfl rfl (fun hd => ?_) (fun hd => ?_)
    · refine W_seq ?_
      -- region 5
      refine W_region (by decide +kernel) ?_
      refine sq_r r_assign rfl ?_
      refine sq_z ?_
      refine W_ret ?_
      repeat with_reducible first | refine thenQ_ret ?_ | refine blockQ_ret ?_
      refine ret1 (v := .bool true) rfl (by decide) rfl (fin hs ⟨?_, rfl⟩ (by simp [rbC]))
      rw [decide_eq_true (show k ∈ s.out from by rw [← of_decide_eq_true hd]; exact List.mem_of_getElem? hx)]
    · refine W_skip ?_
      -- region 6
      refine W_region (by decide +kernel) ?_
      refine sq_r (r_add rfl rfl (wrap_small (by omega) (by omega))) rfl ?_
      refine sq_r r_move rfl ?_
      refine sq_z ?_
      refine ⟨i + 1, ⟨_, ov_self ⟨rfl, rfl, rfl, rfl, trivial⟩, by omega, fun j r' hj hr' => ?_, (hs.mask [true, true, true, true, false]).cast (by simp [zipMask])⟩, by omega⟩
      by_cases hji : j < i
      · exact hall j r' hji hr'
      · obtain rfl : j = i := by omega
        rw [hx] at hr'
        cases hr'
        exact of_decide_eq_false hd
  · have hin : i = s.out.length := by have := of_decide_eq_false hc; omega
    subst hin
    refine W_exit ?_ -- 0
    refine W_seq ?_
    -- region 7
    refine W_region (by decide +kernel) ?_
    refine sq_r r_assign rfl ?_
    refine sq_z ?_
    refine W_ret ?_
    refine ret1 (v := .bool false) rfl (by decide) rfl (fin hs ⟨?_, rfl⟩ (by simp [rbC]))
    rw [decide_eq_false (fun hk => ?_)]
    obtain ⟨j, hj⟩ := List.mem_iff_getElem?.1 hk
    exact hall j k (List.getElem?_eq_some_iff.1 hj).1 hj rfl

/-- Count. -/
def rcnt (rows : List (Ky × Int)) (k : Ky) : Int := ((rows.find? fun r => r.1 = k).map (·.2)).getD 0
theorem rcnt_at {rows : List (Ky × Int)} {k : Ky} {i : Nat} {r : Ky × Int} (hi : rows[i]? = some r) (hr : r.1 = k) (hall : ∀ (j : Nat) (r' : Ky × Int), j < i → rows[j]? = some r' → r'.1 ≠ k) : rcnt rows k = r.2 := by
  unfold rcnt
  have : rows.find? (fun r => decide (r.1 = k)) = some r := by
    rw [List.find?_eq_some_iff_getElem]
    obtain ⟨hl, he⟩ := List.getElem?_eq_some_iff.1 hi
    refine ⟨by simpa using hr, i, hl, he, fun j hj => ?_⟩
    simpa using hall j _ hj (List.getElem?_eq_getElem (by omega))
  rw [this]
  rfl
theorem rcnt_no {rows : List (Ky × Int)} {k : Ky} (h : ∀ r ∈ rows, r.1 ≠ k) : rcnt rows k = 0 := by
  unfold rcnt
  have : rows.find? (fun r => decide (r.1 = k)) = none := by simpa using h
  rw [this]
  rfl
theorem f17_calls (rb : Nat) (s : RS) (k : Ky) (c : Ck) (hc : RB rb s c) (hn : s.rows.length ≤ 4000) : Ctr Try.prog 17 #[.pointer (some ⟨rb, 0, none⟩), .agg (kc k).toArray] c (fun _ => True)
    (fun v c' => v = .int .i64 (rcnt s.rows k) ∧ c' = c) := by
  intro w0 hp hro
  have hcc := hc
  obtain ⟨rv, ov', rc, oc, hr, ho, hce⟩ := hc
  have hs : St w0 (ks c) [c] w0 := hp.st
  obtain ⟨ra, rcap, rfl⟩ := hr.len
  refine calls_W (n := 19) Try.func17 rfl Try.ntmps17 (by simp) ?_
  refine W_seq ?_
  -- region 0
  refine W_region (by decide +kernel) ?_
  refine sq_e rfl (o_box (cs := kc k) hs rfl ?_); intro b3 w hs
  refine sq_r r_assign rfl ?_
  refine sq_z ?_
  refine W_seq ?_
  -- region 1
  refine W_region (by decide +kernel) ?_
  refine sq_r r_move rfl ?_
  refine sq_r (r_loadN rfl ty28 (kc_len k) (At.of_block (hs.own (i := 1) rfl) (kc_all k))) rfl ?_
  refine sq_e rfl (o_call (i := 0) cb26 rfl rfl (f26_calls rb s k c hcc hn) hs rfl trivial ?_)
  rintro v c' w ⟨⟨z, rfl, hz⟩, rfl⟩ hs
  refine sq_r r_assign rfl ?_
  refine sq_z ?_
  refine W_seq ?_
  refine W_seq ?_
  -- region 2
  refine W_region (by decide +kernel) ?_
  refine sq_r r_move rfl ?_
  refine sq_r (r_cmp rfl rfl rfl) rfl ?_
  refine sq_z ?_
  refine W_cond rfl rfl (fun hc => ?_) (fun hc => ?_)
  · have hz0 : z < 0 := of_decide_eq_true hc
    refine W_seq ?_
    -- region 3
    refine W_region (by decide +kernel) ?_
    refine sq_r r_assign rfl ?_
    refine sq_z ?_
    refine W_ret ?_
    repeat with_reducible first | refine thenQ_ret ?_ | refine blockQ_ret ?_
    refine ret1 (v := .int .i64 0) rfl (by decide) rfl (fin hs ⟨?_, rfl⟩ (by simp))
    rcases hz with ⟨i, _, rfl, _⟩ | ⟨_, hz⟩
    · omega
    · rw [rcnt_no hz]
  · have hz0 : ¬ z < 0 := of_decide_eq_false hc
    rcases hz with ⟨i, r, rfl, hi, hrk, hall⟩ | ⟨rfl, _⟩
    · obtain ⟨b, cap, rest, hv, rfl, hcell, _⟩ := hr.get rowF_len hi (by decide)
      simp only [Value.slice.injEq, true_and] at hv
      obtain ⟨rfl, rfl⟩ := hv
      have hlt := (List.getElem?_eq_some_iff.1 hi).1
      subst hce
      have hs : St w0 (ks (rbC rb (.slice (some ⟨b, 0, none⟩) s.rows.length rcap) ov' s.thr ++ ([(b, cb (s.rows.flatMap rowF ++ rest) 63)] ++ oc))) [[(rb, cb [.slice (some ⟨b, 0, none⟩) s.rows.length rcap, ov', .int .i64 s.thr] 43)], [(b, cb (s.rows.flatMap rowF ++ rest) 63)], oc, [(b3, cb (kc k) 28)]] w := hs.cast (by simp [rbC])
      have hN : At w b (0 + i * 11) (rowF r) := At.of_block (hs.own (i := 1) rfl) (by rw [rowF_len, Nat.zero_add]; exact hcell)
      refine W_skip ?_
      refine W_seq ?_
      -- region 4
      refine W_region (by decide +kernel) ?_
      refine sq_r r_move rfl ?_
      refine sq_r (r_nilCheck rfl) rfl ?_
      refine sq_r (r_field rfl fa43_0) rfl ?_
      refine sq_r (r_load1 rfl ty40 (At.one (hs.own (i := 0) rfl) rfl)) rfl ?_
      refine sq_r r_move rfl ?_
      refine sq_r (r_index rfl rfl sl40 (by omega) (by omega)) rfl ?_
      refine sq_r (r_field rfl fa63_1) rfl ?_
      refine sq_r (r_load1 rfl ty3 (hN 10 _ (rowF_n r))) rfl ?_
      refine sq_r r_assign rfl ?_
      refine sq_z ?_
      refine W_ret ?_
      exact ret1 (v := .int .i64 r.2) rfl (by decide) rfl (fin hs ⟨by rw [rcnt_at hi hrk hall], rfl⟩ (by simp [rbC]))
    · exact absurd (by decide) hz0

end Go.Proofs.Ytcdlbgmmogccaaa
