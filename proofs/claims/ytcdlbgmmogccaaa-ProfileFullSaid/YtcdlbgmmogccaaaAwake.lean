/-
  Layer 14: a book of one key; the chapter's example (awake). No condition.
-/
import Derived.Test.YtcdlbgmmogccaaaKeys
namespace Go.Proofs.Ytcdlbgmmogccaaa
open Go.Eng

theorem St.permAt {w0 w : World} {F0 : List Nat} {ls : List Ck} {i : Nat} {c c' : Ck} (h : St w0 F0 ls w) (hi : ls[i]? = some c) (hp : c.Perm c') : St w0 F0 (ls.set i c') w :=
  h.change hi ((h.at hi).st.perm hp)
theorem spl_all {cs vs : List Value} (h : vs.length = cs.length) : spl cs 0 vs = vs := by
  unfold spl
  rw [List.drop_of_length_le (by omega)]
  simp
theorem Arg.of_block {s b cap : Nat} {E : TypeId} {w : World} {xs : List (Vector Int s)} {rest : List Value} (h : w.heap[b]? = some (cb (xs.flatMap (fun x => ic x.toList) ++ rest) E)) (hl : xs.length ≤ maxLen) (hr : ∀ x ∈ xs, ∀ i ∈ x.toList, In64 i) :
    Arg s w (.slice (some ⟨b, 0, none⟩) xs.length cap) xs := by
  refine ⟨⟨_, cap, rfl, fun i x hi => ⟨b, 0, rfl, (Array.getElem?_eq_some_iff.1 h).1, ?_⟩⟩, hl, hr⟩
  refine At.of_block h ?_
  have := cat_at (F := fun x : Vector Int s => ic x.toList) (s := s) (by simp) rest xs i x hi
  rw [Nat.zero_add]
  simpa using this

/-- A book with nothing in it; with one key. -/
def new0 (thr : Int) : BS := ⟨[], 0, [], 0, thr, 0⟩
def one (k : Ky) (thr n : Int) : BS := ⟨[(k, (n, 1), 0)], 1, [], 0, thr, 1⟩
def nxt (thr n : Int) : Int := if thr ≤ n + 1 then 0 else n + 1
theorem mget_one (k : Ky) (v : Int × Int) : mget [(k, v, 0)] k = some v := by simp [mget]
theorem hit_first {k : Ky} {thr : Int} {v : Bool} {s' : BS} (h : HitR (new0 thr) k v s') : v = decide (thr ≤ 1) ∧ s' = one k thr (nxt thr 0) := by
  rcases h with ⟨h, _⟩ | ⟨_, m1, ct, clk, hm, rfl, rfl⟩
  · simp [isBan, new0, mget] at h
  · rcases hm with ⟨h, _⟩ | ⟨_, hr, rfl, rfl⟩
    · simp [new0, mget] at h
    · have hr : m1 = [] := by
        rcases hr with ⟨_, h⟩ | ⟨h, _⟩
        · exact h
        · simp [new0] at h
      subst hr
      exact ⟨by simp [new0], by simp [hitS, new0, one, mput, mclk, nxt]⟩
theorem hit_next {k : Ky} {thr n : Int} {v : Bool} {s' : BS} (h : HitR (one k thr n) k v s') : v = decide (thr ≤ n + 1) ∧ s' = one k thr (nxt thr n) := by
  rcases h with ⟨h, _⟩ | ⟨_, m1, ct, clk, hm, rfl, rfl⟩
  · simp [isBan, one, mget] at h
  · rcases hm with ⟨h, rfl, rfl⟩ | ⟨h, _⟩
    · have h : (n, (1 : Int)) = ct := by simpa [one, mget] using h
      subst h
      exact ⟨rfl, by simp [hitS, one, mput, mclk, nxt]; rfl⟩
    · simp [one, mget] at h
theorem one_wf (k : Ky) (v : Int × Int) : Mwf [(k, v, 0)] 1 := ⟨by simp [mkeys], by simp, by simp⟩
/-- Hit on such a book. -/
theorem hit_new (bb mc mb : Nat) (thr : Int) (k : Ky) : Ctr Try.prog 14 #[.pointer (some ⟨bb, 0, none⟩), .agg (kc k).toArray] (bookC bb mc mb (new0 thr)) (fun _ => True)
    (fun v c => v = .bool (decide (thr ≤ 1)) ∧ c = bookC bb mc mb (one k thr (nxt thr 0))) := by
  intro w hp hro
  refine (f14_calls bb mc mb (new0 thr) k (Mwf.nil 0) (by simp [new0]) (by simp [new0]) w hp hro).mono ?_
  rintro e w' ⟨v, c', rfl, ⟨r, s', rfl, hh, rfl⟩, hs⟩
  obtain ⟨rfl, rfl⟩ := hit_first hh
  exact ⟨_, _, rfl, ⟨rfl, rfl⟩, hs⟩
theorem hit_one (bb mc mb : Nat) (thr n : Int) (k : Ky) (hn : 0 ≤ n ∧ n < 4611686018427387904) : Ctr Try.prog 14 #[.pointer (some ⟨bb, 0, none⟩), .agg (kc k).toArray] (bookC bb mc mb (one k thr n)) (fun _ => True)
    (fun v c => v = .bool (decide (thr ≤ n + 1)) ∧ c = bookC bb mc mb (one k thr (nxt thr n))) := by
  intro w hp hro
  refine (f14_calls bb mc mb (one k thr n) k (one_wf _ _) (by simp [one]) (by simpa [one] using hn) w hp hro).mono ?_
  rintro e w' ⟨v, c', rfl, ⟨r, s', rfl, hh, rfl⟩, hs⟩
  obtain ⟨rfl, rfl⟩ := hit_next hh
  exact ⟨_, _, rfl, ⟨rfl, rfl⟩, hs⟩

/-- The chapter's example: true. -/
theorem f9_calls : Ctr Try.prog 9 #[] [] (fun _ => True) (fun v c => v = .bool true ∧ c = []) := by
  intro w0 hp hro
  have hs : St w0 (ks []) [] w0 := St.start w0
  refine calls_W (n := 54) Try.func9 rfl Try.ntmps9 (by simp) ?_
  refine W_seq ?_
  -- region 0
  refine W_region (by decide +kernel) ?_
  refine sq_r r_assign rfl ?_
  refine sq_z ?_
  refine W_seq ?_
  -- region 1
  refine W_region (by decide +kernel) ?_
  refine sq_e rfl (o_call0 cb12 rfl rfl (f12_calls 3) hs trivial ?_)
  rintro v c w ⟨bb, mc, mb, rfl, hcp⟩ hs
  have hs : St w0 (ks []) [bookC bb mc mb (new0 3)] w := St.permAt (i := 0) hs rfl hcp
  refine sq_r r_assign rfl ?_
  refine sq_z ?_
  refine W_seq ?_
  -- region 2
  refine W_region (by decide +kernel) ?_
  refine sq_r (r_build (v := .agg (ic [0, 2]).toArray) (by kernel_rfl)) rfl ?_
  refine sq_e rfl (o_buildN [.agg (ic [0, 2]).toArray] [ic [0, 2]] sl22 ty25 hs rfl rfl rfl (by simp) (by decide) ?_); intro b1 w hs
  refine sq_e rfl (o_callN cb10 rfl rfl (Post := fun r _ => ∃ k : Ky, k.toList = [1, 1, 0, 2, 0, 0, 0, 0, 0, 0] ∧ r = .tuple #[encV k, .bool true]) (RO := fun w => Arg 2 w (.slice (some ⟨b1, 0, none⟩) 1 1) [#v[0, 2]]) ?_ hs ?_ ?_)
  · intro w hp hro
    refine (f10_calls 1 _ _ w hp hro).mono ?_
    rintro e w' ⟨v, c', rfl, ⟨k, hk, rfl, rfl⟩, hs⟩
    exact ⟨_, _, rfl, ⟨⟨k, by rw [hk]; rfl, rfl⟩, rfl⟩, hs⟩
  · exact Arg.of_block (b := b1) (cap := 1) (rest := []) (E := 25) (xs := [#v[0, 2]]) (hs.own (i := 1) rfl) (by decide +kernel) (fun x hx i hi => by
      obtain rfl := List.mem_singleton.1 hx
      have : i = 0 ∨ i = 2 := by simpa [Vector.toList] using hi
      unfold In64; omega)
  rintro v w ⟨k, hk, rfl⟩ hs
  refine sq_r r_move rfl ?_
  refine sq_r (r_extract rfl rfl) rfl ?_
  refine sq_r (r_extract rfl rfl) rfl ?_
  refine sq_e rfl (o_alloc hs ty28 ?_); intro b2 w hs
  refine sq_e rfl (o_store (i := 2) (vs := kc k) hs rfl rfl (by rw [kc_len]; exact ty28) rfl (kc_one _) (by simp [kc_len]) ?_); intro w hs
  refine sq_r r_assign rfl ?_
  refine sq_z ?_
  have hs : St w0 (ks []) [bookC bb mc mb (new0 3), [(b1, cb [ic [0, 2]].flatten 25)], [(b2, cb (kc k) 28)]] w := hs.cast (by simp only [spl_all (cs := [Value.int .i64 0, .int .i64 0, .int .i64 0, .int .i64 0, .int .i64 0, .int .i64 0, .int .i64 0, .int .i64 0, .int .i64 0, .int .i64 0]) (vs := kc k) (kc_len k)]; rfl)
  have hN : (kc k)[0 + 1]? = some (.int .i64 1) := by rw [kc, hk]; rfl
  refine W_seq ?_
  refine W_seq ?_
  -- region 3
  refine W_region (by decide +kernel) ?_
  refine sq_r r_move rfl ?_
  refine sq_r (r_eqnil Try.underlying33 rfl rfl) rfl ?_
  refine sq_r r_move rfl ?_
  refine sq_r r_move rfl ?_ /- GUARD 2 False -/
  refine sq_r (r_not rfl) rfl ?_ /- GUARD 2 False -/
  refine sq_r (r_pick rfl) rfl ?_
  refine sq_r r_move rfl ?_
  refine sq_r (r_field rfl fa28_1) rfl ?_ /- GUARD 6 False -/
  refine sq_r (r_load1 rfl ty3 (At.one (hs.own (i := 2) rfl) hN)) rfl ?_ /- GUARD 6 False -/
  refine sq_r (r_cmp rfl rfl rfl) rfl ?_ /- GUARD 6 False -/
  refine sq_r (r_pick rfl) rfl ?_
  refine sq_z ?_
  -- IF ('tmp', 24)
  refine W_cond rfl rfl (fun hc => ?_) (fun hc => ?_)
  · cases hc
  · refine W_skip ?_
    refine W_seq ?_
    -- region 5 DRAWS
    refine W_drawM hs Try.mixed [false, true, true] [0, 0, 3, 0, 0, 31, 0, 0, 255, 511, 1023, 2047] [2, 5, 8] [0, 1, 3, 4, 6, 7, 2, 5, 8, 9, 10, 11] (by decide +kernel) ?_
    intro w hs; have hR := hs.mask [false, true, true]
    refine dq_r hR rfl rfl rfl (fun _ w _ _ hR => r_move) ?_
    refine dq_r hR rfl rfl rfl (fun _ w _ _ hR => r_loadN rfl ty28 (kc_len k) (At.of_block (hR.own (i := 2) rfl) (kc_all k))) ?_
    refine dq_r hR rfl rfl rfl (fun _ w _ _ hR => r_move) ?_
    refine dq_r hR rfl rfl rfl (fun _ w _ _ hR => r_loadN rfl ty28 (kc_len k) (At.of_block (hR.own (i := 2) rfl) (kc_all k))) ?_
    refine dq_r hR rfl rfl rfl (fun _ w _ _ hR => r_move) ?_
    refine dq_r hR rfl rfl rfl (fun _ w _ _ hR => r_loadN rfl ty28 (kc_len k) (At.of_block (hR.own (i := 2) rfl) (kc_all k))) ?_
    refine dq_e hR rfl rfl rfl (o_call (i := 0) cb14 rfl rfl (hit_new bb mc mb 3 k) hs rfl trivial ?_)
    rintro v c w ⟨rfl, rfl⟩ hs
    have hR := hs.mask [false, true, true]
    refine dq_e hR rfl rfl rfl (o_call (i := 0) cb14 rfl rfl (hit_one bb mc mb 3 1 k (by decide)) hs rfl trivial ?_)
    rintro v c w ⟨rfl, rfl⟩ hs
    have hR := hs.mask [false, true, true]
    refine dq_e hR rfl rfl rfl (o_call (i := 0) cb14 rfl rfl (hit_one bb mc mb 3 2 k (by decide)) hs rfl trivial ?_)
    rintro v c w ⟨rfl, rfl⟩ hs
    have hR := hs.mask [false, true, true]
    refine dq_r hR rfl rfl rfl (fun _ w _ _ hR => r_assign) ?_
    refine dq_r hR rfl rfl rfl (fun _ w _ _ hR => r_assign) ?_
    refine dq_r hR rfl rfl rfl (fun _ w _ _ hR => r_assign) ?_
    refine dq_z hR ?_
    refine W_seq ?_
    -- region 6
    refine W_region (by decide +kernel) ?_
    refine sq_r r_move rfl ?_
    refine sq_r (r_not rfl) rfl ?_
    refine sq_r r_move rfl ?_
    refine sq_r r_move rfl ?_ /- GUARD 2 True -/
    refine sq_r (r_not rfl) rfl ?_ /- GUARD 2 True -/
    refine sq_r (r_pick rfl) rfl ?_
    refine sq_r r_move rfl ?_
    refine sq_r r_move rfl ?_ /- GUARD 6 True -/
    refine sq_r (r_pick rfl) rfl ?_
    refine sq_r r_move rfl ?_
    refine sq_r r_move rfl ?_ /- GUARD 9 True -/
    refine sq_r (r_loadN rfl ty28 (kc_len k) (At.of_block (hs.own (i := 2) rfl) (kc_all k))) rfl ?_ /- GUARD 9 True -/
    refine sq_e rfl (o_call (i := 0) cb16 rfl rfl (f16_calls bb mc mb (one k 3 0) k) hs rfl trivial ?_)
    rintro v c w ⟨rfl, rfl⟩ hs
    refine sq_r (r_cmp (r := true) rfl rfl (by simp [cnt, one, mget_one, cmpB])) rfl ?_ /- GUARD 9 True -/
    refine sq_r (r_pick rfl) rfl ?_
    refine sq_r r_move rfl ?_
    refine sq_r r_move rfl ?_ /- GUARD 15 True -/
    refine sq_e rfl (o_call (i := 0) cb18 rfl rfl (f18_calls bb mc mb (one k 3 0)) hs rfl trivial ?_)
    rintro v c w ⟨rfl, rfl⟩ hs
    refine sq_r (r_cmp (r := true) rfl rfl rfl) rfl ?_ /- GUARD 15 True -/
    refine sq_r (r_pick rfl) rfl ?_
    refine sq_r r_assign rfl ?_
    refine sq_z ?_
    refine W_ret ?_
    exact ret1 (v := .bool true) rfl (by decide) rfl (fin (c' := []) hs ⟨rfl, rfl⟩ (by simp))

end Go.Proofs.Ytcdlbgmmogccaaa
