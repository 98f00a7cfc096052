/-
  Layer 14: the document's book (the reference): Hit. Conditions: it holds few rows, its counts are far below the greatest int.
-/
import Derived.Test.YtcdlbgmmogccaaaRefBan
namespace Go.Proofs.Ytcdlbgmmogccaaa
open Go.Eng

/-- Room for one more: the row with the least count goes, of several the first. -/
def RRoom (rows rows' : List (Ky × Int)) : Prop :=
  (rows.length < 1000 ∧ rows' = rows) ∨ (1000 ≤ rows.length ∧ ∃ l r, rows[l]? = some r ∧ (∀ (j : Nat) (r' : Ky × Int), rows[j]? = some r' → r.2 ≤ r'.2 ∧ (j < l → r.2 < r'.2)) ∧ rows' = rows.eraseIdx l)
def RMid (rows : List (Ky × Int)) (k : Ky) (rows1 : List (Ky × Int)) (i : Nat) (n : Int) : Prop :=
  (rows1 = rows ∧ Fnd rows k i ∧ rows[i]? = some (k, n)) ∨ ((∀ r ∈ rows, r.1 ≠ k) ∧ ∃ rows', RRoom rows rows' ∧ rows1 = rows' ++ [(k, 0)] ∧ i = rows'.length ∧ n = 0)
def rhitS (s : RS) (k : Ky) (rows1 : List (Ky × Int)) (i : Nat) (n : Int) : RS := { s with rows := rows1.set i (k, if s.thr ≤ n + 1 then 0 else n + 1) }
def RHitR (s : RS) (k : Ky) (v : Bool) (s' : RS) : Prop :=
  (k ∈ s.out ∧ v = false ∧ s' = s) ∨ (k ∉ s.out ∧ ∃ rows1 i n, RMid s.rows k rows1 i n ∧ v = decide (s.thr ≤ n + 1) ∧ s' = rhitS s k rows1 i n)

theorem rmid_at {rows rows1 : List (Ky × Int)} {k : Ky} {i : Nat} {n : Int} (h : RMid rows k rows1 i n) : rows1[i]? = some (k, n) := by
  rcases h with ⟨rfl, _, h⟩ | ⟨_, rows', _, rfl, rfl, rfl⟩
  · exact h
  · simp
theorem rroom_len {rows rows' : List (Ky × Int)} (h : RRoom rows rows') : rows'.length ≤ rows.length := by
  rcases h with ⟨_, rfl⟩ | ⟨_, l, r, _, _, rfl⟩
  · exact Nat.le_refl _
  · rw [List.length_eraseIdx]; split <;> omega
theorem row_set (r : Ky × Int) (m : Int) : rowF (r.1, m) = spl (rowF r) 10 [.int .i64 m] := by
  unfold spl rowF
  rw [List.take_append_of_le_length (by rw [kc_len]; exact Nat.le_refl _), List.take_of_length_le (by rw [kc_len]; exact Nat.le_refl _), List.drop_of_length_le (by simp [kc_len])]
  simp
theorem sl_block {v : Value} {n i : Nat} {l : List (Ky × Int)} {c : Ck} {x : Ky × Int} (h : Sl 63 11 v n (l.flatMap rowF) c) (hi : l[i]? = some x) :
    ∃ b cap rest, v = .slice (some ⟨b, 0, none⟩) n cap ∧ c = [(b, cb (l.flatMap rowF ++ rest) 63)] ∧ ((l.flatMap rowF ++ rest).drop (i * 11)).take 11 = rowF x ∧ i < n := by
  obtain ⟨b, cap, rest, h1, h2, h3, h4⟩ := h.get rowF_len hi (by decide)
  exact ⟨b, cap, rest, h1, h2, h3, by rw [h4]; exact (List.getElem?_eq_some_iff.1 hi).1⟩

theorem r_buildL {P : Program} {w : World} {f : Fm} {d : Option Nat} {ty : TypeId} {pos : String} {after : Array Edge} {g : Option (Nat × Bool)} {T : TypeId} {parts : List (Nat × Operand)} {ps : List (Nat × Value)} {v : Value}
    (hp : (parts.map fun p => (p.1, ev f p.2)) = ps) (h : (Instr.build T ps.toArray).run P w = .ok v w) : (execOp (ev f) ⟨d, .build T parts.toArray, ty, pos, after, g⟩).run P w = .ok (.value v) w := by
  refine r_build ?_
  subst hp
  have e : (parts.toArray.map fun (x : Nat × Operand) => match x with | (i, x) => (i, ev f x)) = (parts.map fun p => (p.1, ev f p.2)).toArray := by
    rw [List.map_toArray]
  rw [e]
  exact h
set_option maxHeartbeats 2000000 in
theorem f15_calls (rb : Nat) (s : RS) (k : Ky) (c : Ck) (hc : RB rb s c) (hn : s.rows.length ≤ 3000) (hm : s.out.length ≤ 3999) (hct : ∀ r ∈ s.rows, 0 ≤ r.2 ∧ r.2 < 4611686018427387904) :
    Ctr Try.prog 15 #[.pointer (some ⟨rb, 0, none⟩), .agg (kc k).toArray] c (fun _ => True) (fun v c' => ∃ r s', v = .bool r ∧ RHitR s k r s' ∧ RB rb s' c') := by
  intro w0 hp hro
  have hs : St w0 (ks c) [c] w0 := hp.st
  refine calls_W (n := 97) Try.func15 rfl Try.ntmps15 (by simp) ?_
  refine W_seq ?_
  -- region 0
  refine W_region (by decide +kernel) ?_
  refine sq_e rfl (o_box (cs := kc k) hs rfl ?_); intro b3 w hs
  refine sq_r r_assign rfl ?_
  refine sq_z ?_
  refine W_seq ?_
  refine W_seq ?_
  -- region 1
  refine W_region (by decide +kernel) ?_
  refine sq_r r_move rfl ?_
  refine sq_r (r_loadN rfl ty28 (kc_len k) (At.of_block (hs.own (i := 1) rfl) (kc_all k))) rfl ?_
  refine sq_e rfl (o_call (i := 0) cb22 rfl rfl (f22_calls rb s k c hc (by omega)) hs rfl trivial ?_)
  rintro v c' w ⟨rfl, hcc⟩ hs
  subst hcc
  refine sq_z ?_
  refine W_cond rfl rfl (fun hd => ?_) (fun hd => ?_)
  · refine W_seq ?_
    -- region 2
    refine W_region (by decide +kernel) ?_
    refine sq_r r_assign rfl ?_
    refine sq_z ?_
    refine W_ret ?_
    repeat with_reducible first | refine thenQ_ret ?_ | refine blockQ_ret ?_
    exact ret1 (v := .bool false) rfl (by decide) rfl (fin (c' := c') hs ⟨false, s, rfl, .inl ⟨of_decide_eq_true hd, rfl, rfl⟩, hc⟩ (by simp))
  have hout : k ∉ s.out := of_decide_eq_false hd
  refine W_skip ?_
  refine W_seq ?_
  -- region 3
  refine W_region (by decide +kernel) ?_
  refine sq_r r_move rfl ?_
  refine sq_r (r_loadN rfl ty28 (kc_len k) (At.of_block (hs.own (i := 1) rfl) (kc_all k))) rfl ?_
  refine sq_e rfl (o_call (i := 0) cb26 rfl rfl (f26_calls rb s k c' hc (by omega)) hs rfl trivial ?_)
  rintro v c w ⟨⟨z, rfl, hz⟩, hcc⟩ hs
  subst hcc
  refine sq_r r_assign rfl ?_
  refine sq_z ?_
  refine W_mid (M := fun f w => ∃ g rows1 i n rv ov' rc oc, f = ov [(0, .pointer (some ⟨rb, 0, none⟩)), (3, .pointer (some ⟨b3, 0, none⟩)), (5, .int .i64 (Int.ofNat i))] g ∧ RMid s.rows k rows1 i n ∧ rows1.length ≤ 3001 ∧
    Sl 63 11 rv rows1.length (rows1.flatMap rowF) rc ∧ Sl 28 10 ov' s.out.length (s.out.flatMap kc) oc ∧
    St w0 (ks c) [[(rb, cb [rv, ov', .int .i64 s.thr] 43)], rc, oc, [(b3, cb (kc k) 28)]] w) ?_ (fun f w hM => ?_)
  · refine W_seq ?_
    -- region 4
    refine W_region (by decide +kernel) ?_
    refine sq_r r_move rfl ?_
    refine sq_r (r_cmp rfl rfl rfl) rfl ?_
    refine sq_z ?_
    refine W_cond rfl rfl (fun hd => ?_) (fun hd => ?_)
    · have hz0 : z < 0 := of_decide_eq_true hd
      have hno : ∀ r ∈ s.rows, r.1 ≠ k := by
        rcases hz with ⟨i, _, rfl, _⟩ | ⟨_, h⟩
        · omega
        · exact h
      clear hz
      refine W_mid (M := fun f w => ∃ g rows' rv ov' rc oc, f = ov [(0, .pointer (some ⟨rb, 0, none⟩)), (3, .pointer (some ⟨b3, 0, none⟩))] g ∧ RRoom s.rows rows' ∧
        Sl 63 11 rv rows'.length (rows'.flatMap rowF) rc ∧ Sl 28 10 ov' s.out.length (s.out.flatMap kc) oc ∧
        St w0 (ks c) [[(rb, cb [rv, ov', .int .i64 s.thr] 43)], rc, oc, [(b3, cb (kc k) 28)]] w) ?_ (fun f w hM => ?_)
      · obtain ⟨rv, ov', rc, oc, hr, ho, hce⟩ := id hc
        obtain ⟨ra, rcap, rfl⟩ := hr.len
        have hs : St w0 (ks c) [[(rb, cb [.slice ra s.rows.length rcap, ov', .int .i64 s.thr] 43)], rc, oc, [(b3, cb (kc k) 28)]] w := hs.cast (by rw [hce]; simp [rbC])
        refine W_seq ?_
        -- region 5
        refine W_region (by decide +kernel) ?_
        refine sq_r r_move rfl ?_
        refine sq_r (r_nilCheck rfl) rfl ?_
        refine sq_r (r_field rfl fa43_0) rfl ?_
        refine sq_r (r_load1 rfl ty40 (At.one (hs.own (i := 0) rfl) rfl)) rfl ?_
        refine sq_r (r_lenS Try.underlying40 rfl) rfl ?_
        refine sq_r (r_cmp rfl rfl rfl) rfl ?_
        refine sq_z ?_
        refine W_cond rfl rfl (fun hd => ?_) (fun hd => ?_)
        · have hfull : 1000 ≤ s.rows.length := by have := of_decide_eq_true hd; omega
          refine W_seq ?_
          -- region 6
          refine W_region (by decide +kernel) ?_
          refine sq_r r_assign rfl ?_
          refine sq_z ?_
          refine W_seq ?_
          refine W_seq ?_
          -- region 7
          refine W_region (by decide +kernel) ?_
          refine sq_r r_move rfl ?_
          refine sq_r (r_nilCheck rfl) rfl ?_
          refine sq_r (r_field rfl fa43_0) rfl ?_
          refine sq_r (r_load1 rfl ty40 (At.one (hs.own (i := 0) rfl) rfl)) rfl ?_
          refine sq_r (r_lenS Try.underlying40 rfl) rfl ?_
          refine sq_r r_move rfl ?_
          refine sq_z ?_
          refine W_block ?_ -- 0
          -- LOOP
          refine W_loop (fun (i : Nat) f w => ∃ g l r, f = ov [(0, .pointer (some ⟨rb, 0, none⟩)), (3, .pointer (some ⟨b3, 0, none⟩)), (6, .int .i64 (Int.ofNat l)), (26, .slice ra s.rows.length rcap), (27, .int .i64 s.rows.length), (28, .int .i64 i)] g ∧ i ≤ s.rows.length ∧
            s.rows[l]? = some r ∧ (∀ (j : Nat) (r' : Ky × Int), j < i → s.rows[j]? = some r' → r.2 ≤ r'.2 ∧ (j < l → r.2 < r'.2)) ∧ (l < i ∨ l = 0) ∧
            St w0 (ks c) [[(rb, cb [.slice ra s.rows.length rcap, ov', .int .i64 s.thr] 43)], rc, oc, [(b3, cb (kc k) 28)]] w) (fun i => s.rows.length - i) 0 ?_ ?_
          · exact ⟨_, 0, _, ov_self ⟨rfl, rfl, rfl, rfl, rfl, rfl, trivial⟩, Nat.zero_le _, List.getElem?_eq_getElem (by omega), fun j _ hj => absurd hj (Nat.not_lt_zero j), .inr rfl, hs⟩
          rintro i f w ⟨g, l, r, rfl, hi, hl, hall, hli, hs⟩
          refine W_seq ?_
          -- region 8
          refine W_region (by decide +kernel) ?_
          refine sq_r (r_cmp rfl rfl rfl) rfl ?_
          refine sq_z ?_
          refine W_seq ?_
          refine W_cond rfl rfl (fun hd => ?_) (fun hd => ?_)
          · have hlt : i < s.rows.length := by have := of_decide_eq_true hd; omega
            obtain ⟨x, hx⟩ : ∃ x, s.rows[i]? = some x := ⟨_, List.getElem?_eq_getElem hlt⟩
            obtain ⟨b, cap, rest, hv, rfl, hcell, _⟩ := sl_block hr hx
            simp only [Value.slice.injEq, true_and] at hv
            obtain ⟨rfl, rfl⟩ := hv
            have hll : l < s.rows.length := (List.getElem?_eq_some_iff.1 hl).1
            have hcl : ∀ {ls : List Ck} {w : World}, St w0 (ks c) ([(rb, cb [.slice (some ⟨b, 0, none⟩) s.rows.length rcap, ov', .int .i64 s.thr] 43)] :: [(b, cb (s.rows.flatMap rowF ++ rest) 63)] :: ls) w → At w b (0 + l * 11) (rowF r) := fun hs => At.of_block (hs.own (i := 1) rfl) (by rw [rowF_len, Nat.zero_add]; exact cat_at rowF_len rest s.rows l r hl)
            refine W_skip ?_
            refine W_seq ?_
            refine W_block ?_ -- 1
            refine W_seq ?_
            -- region 9
            refine W_region (by decide +kernel) ?_
            refine sq_r r_move rfl ?_
            refine sq_r (r_index rfl rfl sl40 (by omega) (by omega)) rfl ?_
            refine sq_r (r_loadN (vs := rowF x) rfl ty63 (rowF_len x) (At.of_block (hs.own (i := 1) rfl) (by rw [rowF_len, Nat.zero_add]; exact hcell))) rfl ?_
            refine sq_e rfl (o_alloc hs ty63 ?_); intro b4 w hs
            refine sq_r r_assign rfl ?_
            refine sq_e rfl (o_store (i := 4) (vs := rowF x) hs rfl rfl (by rw [rowF_len]; exact ty63) rfl (rowF_one _) (by simp [rowF_len]) ?_); intro w hs
            refine sq_z ?_
            rw [row_zero] at hs
            refine W_seq ?_
            -- region 10 DRAWS
            refine W_drawM hs Try.mixed [true, true, true, true, true] [0, 1, 0, 4, 12, 28, 0, 124, 252, 508, 1023] [] [0, 1, 2, 3, 4, 5, 6, 7, 8, 9, 10] (by decide +kernel) ?_
            intro w hs; have hR := hs.mask [true, true, true, true, true]
            refine dq_r hR rfl rfl rfl (fun _ w _ _ hR => r_field rfl fa63_1) ?_
            refine dq_r hR rfl rfl rfl (fun _ w _ _ hR => r_load1 rfl ty3 (At.one (hR.own (i := 4) rfl) (rowF_n x))) ?_
            refine dq_r hR rfl rfl rfl (fun _ w _ _ hR => r_move) ?_
            refine dq_r hR rfl rfl rfl (fun _ w _ _ hR => r_nilCheck rfl) ?_
            refine dq_r hR rfl rfl rfl (fun _ w _ _ hR => r_field rfl fa43_0) ?_
            refine dq_r hR rfl rfl rfl (fun _ w _ _ hR => r_load1 rfl ty40 (At.one (hR.own (i := 0) rfl) rfl)) ?_
            refine dq_r hR rfl rfl rfl (fun _ w _ _ hR => r_move) ?_
            refine dq_r hR rfl rfl rfl (fun _ w _ _ hR => r_index rfl rfl sl40 (by simp only [Int.ofNat_eq_natCast]; omega) (by simp only [Int.ofNat_eq_natCast]; omega)) ?_
            refine dq_r hR rfl rfl rfl (fun _ w _ _ hR => r_field rfl fa63_1) ?_
            refine dq_r hR rfl rfl rfl (fun _ w _ _ hR => r_load1 rfl ty3 (hcl hR 10 _ (rowF_n r))) ?_
            refine dq_r hR rfl rfl rfl (fun _ w _ _ hR => r_cmp rfl rfl rfl) ?_
            refine dq_z hR ?_
            refine W_cond rfl rfl (fun he => ?_) (fun he => ?_)
            · have hxr : x.2 < r.2 := of_decide_eq_true he
              -- region 11
              refine W_region (by decide +kernel) ?_
              refine sq_r r_move rfl ?_
              refine sq_r r_assign rfl ?_
              refine sq_z ?_
              -- region 12
              refine W_region (by decide +kernel) ?_
              refine sq_r (r_add rfl rfl (wrap_small (by omega) (by omega))) rfl ?_
              refine sq_r r_move rfl ?_
              refine sq_z ?_
              refine ⟨i + 1, ⟨_, i, x, ov_self ⟨rfl, rfl, rfl, rfl, rfl, rfl, trivial⟩, by omega, hx, fun j r' hj hr' => ?_, .inl (by omega), (hs.mask [true, true, true, true, false]).cast (by simp [zipMask])⟩, by omega⟩
              by_cases hji : j < i
              · have := (hall j r' hji hr').1
                exact ⟨by omega, fun _ => by omega⟩
              · obtain rfl : j = i := by omega
                rw [hx] at hr'
                cases hr'
                exact ⟨Int.le_refl _, fun h => absurd h (Nat.lt_irrefl _)⟩
            · have hxr : ¬ x.2 < r.2 := of_decide_eq_false he
              refine W_skip ?_
              -- region 12
              refine W_region (by decide +kernel) ?_
              refine sq_r (r_add rfl rfl (wrap_small (by omega) (by omega))) rfl ?_
              refine sq_r r_move rfl ?_
              refine sq_z ?_
              refine ⟨i + 1, ⟨_, l, r, ov_self ⟨rfl, rfl, rfl, rfl, rfl, rfl, trivial⟩, by omega, hl, fun j r' hj hr' => ?_, by omega, (hs.mask [true, true, true, true, false]).cast (by simp [zipMask])⟩, by omega⟩
              by_cases hji : j < i
              · exact hall j r' hji hr'
              · obtain rfl : j = i := by omega
                rw [hx] at hr'
                cases hr'
                exact ⟨by omega, fun h => by omega⟩
          · have hin : i = s.rows.length := by have := of_decide_eq_false hd; omega
            subst hin
            have hll : l < s.rows.length := (List.getElem?_eq_some_iff.1 hl).1
            refine W_exit ?_ -- 0
            -- region 13
            refine W_region (by decide +kernel) ?_
            refine sq_r r_move rfl ?_
            refine sq_r r_move rfl ?_
            have hs : St w0 (ks c) [rbC rb (.slice ra s.rows.length rcap) ov' s.thr ++ (rc ++ oc), [(b3, cb (kc k) 28)]] w := hs.cast (by simp [rbC])
            refine sq_e rfl (o_call (i := 0) cb27 rfl rfl (f27_calls rb s l _ ⟨_, _, _, _, hr, ho, rfl⟩ (by omega) hll) hs rfl trivial ?_)
            rintro v c1 w ⟨rv1, ov1, rc1, oc1, hr1, ho1, rfl⟩ hs
            refine sq_z ?_
            exact ⟨_, s.rows.eraseIdx l, rv1, ov1, rc1, oc1, ov_self ⟨rfl, rfl, trivial⟩, .inr ⟨hfull, l, r, hl, fun j r' hj => hall j r' (List.getElem?_eq_some_iff.1 hj).1 hj, rfl⟩, hr1, ho1, hs.cast (by simp [rbC])⟩
        · have hless : s.rows.length < 1000 := by have := of_decide_eq_false hd; omega
          refine W_skip ?_
          exact ⟨_, s.rows, _, _, _, _, ov_self ⟨rfl, rfl, trivial⟩, .inl ⟨hless, rfl⟩, hr, ho, hs⟩
      · obtain ⟨g, rows', rv, ov', rc, oc, rfl, hroom, hr, ho, hs⟩ := hM
        have hrl := rroom_len hroom
        refine W_seq ?_
        -- region 14 DRAWS
        refine W_drawT hs Try.mixed [true, false, false, true] [false, false, false, true] 3 [0, 0, 2, 6, 14, 0, 32, 96, 254, 511, 1023, 2047] [7, 8, 11] [0, 1, 2, 3, 4, 5, 6, 7, 8, 9, 10, 11] (by decide +kernel) ?_
        intro w hs; have hR := hs.mask [true, false, false, true]
        refine dq_rp hR rfl rfl rfl (fun w => r_move) ?_
        refine dq_rp hR rfl rfl rfl (fun w => r_move) ?_
        refine dq_rp hR rfl rfl rfl (fun w => r_nilCheck rfl) ?_
        refine dq_rp hR rfl rfl rfl (fun w => r_field rfl fa43_0) ?_
        refine dq_r1 hR rfl rfl (by decide) rfl (fun w hR => r_load1 rfl ty40 (At.one (hR.own (i := 0) rfl) rfl)) ?_
        refine dq_r1 hR rfl rfl (by decide) rfl (fun w hR => r_loadN rfl ty28 (kc_len k) (At.of_block (hR.own (i := 3) rfl) (kc_all k))) ?_
        refine dq_rp hR rfl rfl rfl (fun w => r_buildL (ps := [(0, .agg (kc k).toArray)]) rfl (build_row k w)) ?_
        refine dq_e hR rfl rfl rfl (o_buildN [.agg (rowF (k, 0)).toArray] [rowF (k, 0)] sl40 ty63 hs rfl rfl rfl (by simp [rowF_len]) (by simp) ?_); intro b4 w hs
        have hR := hs.mask [true, false, false, true]
        refine dq_e hR rfl rfl rfl (o_append (i := 1) (m := 1) (news := rowF (k, 0)) (soff := 0) (sb := b4) (scap := 1) sl40 ty63 rfl hs rfl rfl rfl hr (by rw [rowF_len]) (At.of_block (hs.own (i := 4) rfl) (by simp)) (rowF_one _) (by have := max4000; omega) (by omega) ?_)
        intro v c2 w hv hs
        have hR := hs.mask [true, false, false, true]
        refine dq_rp hR rfl rfl rfl (fun w => r_nilCheck rfl) ?_
        refine dq_rp hR rfl rfl rfl (fun w => r_field rfl fa43_0) ?_
        refine dq_e hR rfl rfl rfl (o_store (i := 0) (vs := [v]) hs rfl (sl_cell hv).2 ty40 rfl (by simpa using (sl_cell hv).1) (by simp) ?_); intro w hs
        have hR := hs.mask [false, false, false, true]
        refine dq_z hR ?_
        have hs : St w0 (ks c) [[(rb, cb [v, ov', .int .i64 s.thr] 43)], c2, oc, [(b3, cb (kc k) 28)]] w := (hs.mask [true, true, true, true, false]).cast (by simp [zipMask, spl])
        have hv1 : Sl 63 11 v (rows' ++ [(k, 0)]).length ((rows' ++ [(k, 0)]).flatMap rowF) c2 := by
          rw [List.length_append, List.flatMap_append]
          simpa using hv
        obtain ⟨va, vcap, rfl⟩ := hv.len
        -- region 15
        refine W_region (by decide +kernel) ?_
        refine sq_r r_move rfl ?_
        refine sq_r (r_nilCheck rfl) rfl ?_
        refine sq_r (r_field rfl fa43_0) rfl ?_
        refine sq_r (r_load1 rfl ty40 (At.one (hs.own (i := 0) rfl) rfl)) rfl ?_
        refine sq_r (r_lenS Try.underlying40 rfl) rfl ?_
        refine sq_r (r_sub (c := (rows'.length : Int)) rfl rfl (by rw [wrap_small (by omega) (by omega)]; omega)) rfl ?_
        refine sq_r r_assign rfl ?_
        refine sq_z ?_
        exact ⟨_, rows' ++ [(k, 0)], rows'.length, 0, _, ov', c2, oc, ov_self ⟨rfl, rfl, rfl, trivial⟩, .inr ⟨hno, rows', hroom, rfl, rfl, rfl⟩, by rw [List.length_append]; simp only [List.length_cons, List.length_nil]; omega, hv1, ho, hs⟩
    · have hz0 : ¬ z < 0 := of_decide_eq_false hd
      obtain ⟨i, rfl, r, hi, hrk⟩ : ∃ i : Nat, z = i ∧ ∃ r, s.rows[i]? = some r ∧ r.1 = k := by
        rcases hz with ⟨i, r, rfl, hi, hrk, _⟩ | ⟨rfl, _⟩
        · exact ⟨i, rfl, r, hi, hrk⟩
        · exact absurd (by decide) hz0
      obtain ⟨rv, ov', rc, oc, hr, ho, hce⟩ := id hc
      refine W_skip ?_
      exact ⟨_, s.rows, i, r.2, rv, ov', rc, oc, ov_self ⟨rfl, rfl, rfl, trivial⟩, .inl ⟨rfl, hz, by rw [hi, ← hrk]⟩, by omega, hr, ho, hs.cast (by rw [hce]; simp [rbC])⟩
  · obtain ⟨g, rows1, i, n, rv, ov', rc, oc, rfl, hmid, hl1, hr, ho, hs⟩ := hM
    have hat := rmid_at hmid
    have hn0 : 0 ≤ n ∧ n < 4611686018427387904 := by
      rcases hmid with ⟨_, _, h⟩ | ⟨_, _, _, _, _, rfl⟩
      · exact hct _ (List.mem_of_getElem? h)
      · exact ⟨Int.le_refl _, by decide⟩
    obtain ⟨b, cap, rest, rfl, rfl, hcell, hil⟩ := sl_block hr hat
    have hN : ∀ {ls : List Ck} {w : World}, St w0 (ks c) ([(rb, cb [.slice (some ⟨b, 0, none⟩) rows1.length cap, ov', .int .i64 s.thr] 43)] :: [(b, cb (rows1.flatMap rowF ++ rest) 63)] :: ls) w → At w b (0 + i * 11) (rowF (k, n)) := fun hs => At.of_block (hs.own (i := 1) rfl) (by rw [rowF_len, Nat.zero_add]; exact hcell)
    refine W_seq ?_
    -- region 16
    refine W_region (by decide +kernel) ?_
    refine sq_r r_move rfl ?_
    refine sq_r (r_nilCheck rfl) rfl ?_
    refine sq_r (r_field rfl fa43_0) rfl ?_
    refine sq_r (r_load1 rfl ty40 (At.one (hs.own (i := 0) rfl) rfl)) rfl ?_
    refine sq_r r_move rfl ?_
    refine sq_r (r_index rfl rfl sl40 (by simp only [Int.ofNat_eq_natCast]; omega) (by simp only [Int.ofNat_eq_natCast]; omega)) rfl ?_
    refine sq_r (r_field rfl fa63_1) rfl ?_
    refine sq_r (r_load1 rfl ty3 (hN hs 10 _ (rowF_n (k, n)))) rfl ?_
    refine sq_r (r_add rfl rfl (wrap_small (by simp only; omega) (by simp only; omega))) rfl ?_
    refine sq_r (r_index rfl rfl sl40 (by simp only [Int.ofNat_eq_natCast]; omega) (by simp only [Int.ofNat_eq_natCast]; omega)) rfl ?_
    refine sq_r (r_field rfl fa63_1) rfl ?_
    refine sq_e rfl (o_store (i := 1) (vs := [.int .i64 (n + 1)]) hs rfl rfl ty3 rfl (by simp [Value.oneCell']) ?_ ?_)
    · rw [List.length_append, cat_len rowF_len]
      simp only [Int.ofNat_eq_natCast, Int.toNat_natCast, List.length_cons, List.length_nil]
      have : (i + 1) * 11 ≤ rows1.length * 11 := Nat.mul_le_mul_right _ hil
      omega
    intro w hs
    refine sq_z ?_
    have hs : St w0 (ks c) [[(rb, cb [.slice (some ⟨b, 0, none⟩) rows1.length cap, ov', .int .i64 s.thr] 43)], [(b, cb ((rows1.set i (k, n + 1)).flatMap rowF ++ rest) 63)], oc, [(b3, cb (kc k) 28)]] w := hs.cast (by
      have e := cat_set rowF_len rest (off := 10) (vs := [.int .i64 (n + 1)]) rows1 i (k, n) (k, n + 1) hat (row_set (k, n) (n + 1)) (by simp)
      rw [← e]
      simp)
    have hat2 : (rows1.set i (k, n + 1))[i]? = some (k, n + 1) := by rw [List.getElem?_set_self hil]
    have hcell2 := cat_at rowF_len rest (rows1.set i (k, n + 1)) i (k, n + 1) hat2
    have hN2 : ∀ {ls : List Ck} {w : World}, St w0 (ks c) ([(rb, cb [.slice (some ⟨b, 0, none⟩) rows1.length cap, ov', .int .i64 s.thr] 43)] :: [(b, cb ((rows1.set i (k, n + 1)).flatMap rowF ++ rest) 63)] :: ls) w → At w b (0 + i * 11) (rowF (k, n + 1)) := fun hs => At.of_block (hs.own (i := 1) rfl) (by rw [rowF_len, Nat.zero_add]; exact hcell2)
    refine W_seq ?_
    refine W_seq ?_
    -- region 17 DRAWS
    refine W_drawM hs Try.mixed [true, true, true, true] [0, 1, 3, 7, 0, 31, 63, 127, 0, 256, 768, 1792, 4095] [] [0, 1, 2, 3, 4, 5, 6, 7, 8, 9, 10, 11, 12] (by decide +kernel) ?_
    intro w hs; have hR := hs.mask [true, true, true, true]
    refine dq_r hR rfl rfl rfl (fun _ w _ _ hR => r_move) ?_
    refine dq_r hR rfl rfl rfl (fun _ w _ _ hR => r_nilCheck rfl) ?_
    refine dq_r hR rfl rfl rfl (fun _ w _ _ hR => r_field rfl fa43_0) ?_
    refine dq_r hR rfl rfl rfl (fun _ w _ _ hR => r_load1 rfl ty40 (At.one (hR.own (i := 0) rfl) rfl)) ?_
    refine dq_r hR rfl rfl rfl (fun _ w _ _ hR => r_move) ?_
    refine dq_r hR rfl rfl rfl (fun _ w _ _ hR => r_index rfl rfl sl40 (by simp only [Int.ofNat_eq_natCast]; omega) (by simp only [Int.ofNat_eq_natCast]; omega)) ?_
    refine dq_r hR rfl rfl rfl (fun _ w _ _ hR => r_field rfl fa63_1) ?_
    refine dq_r hR rfl rfl rfl (fun _ w _ _ hR => r_load1 rfl ty3 (hN2 hR 10 _ (rowF_n (k, n + 1)))) ?_
    refine dq_r hR rfl rfl rfl (fun _ w _ _ hR => r_move) ?_
    refine dq_r hR rfl rfl rfl (fun _ w _ _ hR => r_nilCheck rfl) ?_
    refine dq_r hR rfl rfl rfl (fun _ w _ _ hR => r_field rfl fa43_2) ?_
    refine dq_r hR rfl rfl rfl (fun _ w _ _ hR => r_load1 rfl ty3 (At.one (hR.own (i := 0) rfl) rfl)) ?_
    refine dq_r hR rfl rfl rfl (fun _ w _ _ hR => r_cmp rfl rfl rfl) ?_
    refine dq_z hR ?_
    refine W_cond rfl rfl (fun hd => ?_) (fun hd => ?_)
    · have hlt : n + 1 < s.thr := of_decide_eq_true hd
      refine W_seq ?_
      -- region 18
      refine W_region (by decide +kernel) ?_
      refine sq_r r_assign rfl ?_
      refine sq_z ?_
      refine W_ret ?_
      repeat with_reducible first | refine thenQ_ret ?_ | refine blockQ_ret ?_
      refine ret1 (v := .bool false) rfl (by decide) rfl (fin (c' := rbC rb (.slice (some ⟨b, 0, none⟩) rows1.length cap) ov' s.thr ++ ([(b, cb ((rows1.set i (k, n + 1)).flatMap rowF ++ rest) 63)] ++ oc)) hs
        ⟨false, rhitS s k rows1 i n, rfl, .inr ⟨hout, rows1, i, n, hmid, by rw [decide_eq_false (by omega)], rfl⟩, _, ov', _, oc, ?_, ho, rfl⟩ (by simp [rbC]))
      have e : (rhitS s k rows1 i n).rows = rows1.set i (k, n + 1) := by simp only [rhitS]; rw [if_neg (by omega)]
      rw [e, List.length_set]
      exact hr.set rowF_len (by rw [List.length_set]) rfl
    · have hge : s.thr ≤ n + 1 := by have := of_decide_eq_false hd; omega
      refine W_skip ?_
      refine W_seq ?_
      -- region 19
      refine W_region (by decide +kernel) ?_
      refine sq_r r_move rfl ?_
      refine sq_r (r_nilCheck rfl) rfl ?_
      refine sq_r (r_field rfl fa43_0) rfl ?_
      refine sq_r (r_load1 rfl ty40 (At.one (hs.own (i := 0) rfl) rfl)) rfl ?_
      refine sq_r r_move rfl ?_
      refine sq_r (r_index rfl rfl sl40 (by simp only [Int.ofNat_eq_natCast]; omega) (by simp only [Int.ofNat_eq_natCast]; omega)) rfl ?_
      refine sq_r (r_field rfl fa63_1) rfl ?_
      refine sq_e rfl (o_store (i := 1) (vs := [.int .i64 0]) hs rfl rfl ty3 rfl (by simp [Value.oneCell']) ?_ ?_)
      · rw [List.length_append, cat_len rowF_len, List.length_set]
        simp only [Int.ofNat_eq_natCast, Int.toNat_natCast, List.length_cons, List.length_nil]
        have : (i + 1) * 11 ≤ rows1.length * 11 := Nat.mul_le_mul_right _ hil
        omega
      intro w hs
      refine sq_z ?_
      have hs : St w0 (ks c) [[(rb, cb [.slice (some ⟨b, 0, none⟩) rows1.length cap, ov', .int .i64 s.thr] 43)], [(b, cb ((rows1.set i (k, 0)).flatMap rowF ++ rest) 63)], oc, [(b3, cb (kc k) 28)]] w := hs.cast (by
        have e := cat_set rowF_len rest (off := 10) (vs := [.int .i64 0]) (rows1.set i (k, n + 1)) i (k, n + 1) (k, 0) hat2 (row_set (k, n + 1) 0) (by simp)
        rw [List.set_set] at e
        rw [← e]
        simp)
      refine W_seq ?_
      -- region 20
      refine W_region (by decide +kernel) ?_
      refine sq_r r_assign rfl ?_
      refine sq_z ?_
      refine W_ret ?_
      refine ret1 (v := .bool true) rfl (by decide) rfl (fin (c' := rbC rb (.slice (some ⟨b, 0, none⟩) rows1.length cap) ov' s.thr ++ ([(b, cb ((rows1.set i (k, 0)).flatMap rowF ++ rest) 63)] ++ oc)) hs
        ⟨true, rhitS s k rows1 i n, rfl, .inr ⟨hout, rows1, i, n, hmid, by rw [decide_eq_true hge], rfl⟩, _, ov', _, oc, ?_, ho, rfl⟩ (by simp [rbC]))
      have e : (rhitS s k rows1 i n).rows = rows1.set i (k, 0) := by simp only [rhitS]; rw [if_pos hge]
      rw [e, List.length_set]
      exact hr.set rowF_len (by rw [List.length_set]) rfl

end Go.Proofs.Ytcdlbgmmogccaaa
