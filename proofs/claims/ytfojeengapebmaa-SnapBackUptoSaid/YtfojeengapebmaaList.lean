/-
  Layer 17: the book's number for registers (list). Conditions: there are few of them.
-/
import Derived.Test.YtfojeengapebmaaClone
namespace Go.Proofs.Ytfojeengapebmaa
open Go.Eng

abbrev V5 := Vector Int 5
abbrev Mp := List (V5 × Int × Nat) × Nat
/-- A register behind others that have a number. -/
def ck (n : Int) (s : Sc) : V5 := ⟨(n :: s.toList).toArray, by simp⟩
theorem ck_list (n : Int) (s : Sc) : (ck n s).toList = n :: s.toList := by simp [ck, Vector.toList]
def lk1 (r : Mp) (n : Int) (s : Sc) : Mp := if (mget r.1 (ck n s)).getD 0 = 0 then (mput r.1 r.2 (ck n s) ((r.1.length : Int) + 1), mclk r.1 r.2 (ck n s)) else r
def lkN (r : Mp) (n : Int) (s : Sc) : Int := (mget (lk1 r n s).1 (ck n s)).getD 0
/-- Registers' number, and what is kept behind it. -/
def lst (r : Mp) (n : Int) : List Sc → Int × Mp
  | [] => (n, r)
  | s :: l => lst (lk1 r n s) (lkN r n s) l
theorem lk1_wf {r : Mp} (h : Mwf r.1 r.2) (n : Int) (s : Sc) : Mwf (lk1 r n s).1 (lk1 r n s).2 := by
  unfold lk1
  split
  · exact h.put _ _
  · exact h
theorem len_mput_le {m : List (V5 × Int × Nat)} {c : Nat} {a : V5} {v : Int} : (mput m c a v).length ≤ m.length + 1 := by
  unfold mput
  split <;> simp
theorem lk1_len (r : Mp) (n : Int) (s : Sc) : (lk1 r n s).1.length ≤ r.1.length + 1 := by
  unfold lk1
  split
  · exact len_mput_le
  · omega
theorem sc4 (x : Sc) : ∃ a b c d, x.toList = [a, b, c, d] := by
  have h : x.toList.length = 4 := by simp
  match hk : x.toList, h with
  | [a, b, c, d], _ => exact ⟨a, b, c, d, rfl⟩
theorem build_ck' (w : World) (n a b c d : Int) : (Instr.build 89 #[(0, .int .i64 n), (1, .agg (ic [a, b, c, d]).toArray)]).run Try.prog w = .ok (.agg (ic [n, a, b, c, d]).toArray) w := by kernel_rfl
theorem build_ck (w : World) (n : Int) (x : Sc) : (Instr.build 89 #[(0, .int .i64 n), (1, .agg (scF x).toArray)]).run Try.prog w = .ok (.agg (ic (ck n x).toList).toArray) w := by
  obtain ⟨a, b, c, d, h⟩ := sc4 x
  rw [ck_list, scF, h]
  exact build_ck' w n a b c d
def rlC (bb mr : Nat) (lv mnv : Value) (r : Mp) : Ck := [(bb, cb [lv, mnv, .map (some mr)] 62), (mr, mo encV encI r.1 r.2)]

set_option maxRecDepth 10000 in
theorem f21_calls (bb mr : Nat) (lv mnv : Value) (r : Mp) (sv : Value) (xs : List Sc) (hm : Mwf r.1 r.2) (hb : r.1.length + xs.length ≤ 1000000) : Ctr Try.prog 21 #[.pointer (some ⟨bb, 0, none⟩), sv] (rlC bb mr lv mnv r) (RdG 4 scF (· ∉ ks (rlC bb mr lv mnv r)) sv xs)
    (fun v c' => v = .int .i64 (lst r 0 xs).1 ∧ c' = rlC bb mr lv mnv (lst r 0 xs).2) := by
  intro w0 hp hrd
  have hs : St w0 (ks (rlC bb mr lv mnv r)) [[(bb, cb [lv, mnv, .map (some mr)] 62)], [(mr, mo encV encI r.1 r.2)]] w0 := hp.st.cast (by simp [rlC])
  obtain ⟨a, cap, hv, hall⟩ := id hrd
  subst hv
  refine calls_W (n := 44) Try.func21 rfl Try.ntmps21 (by simp) ?_
  refine W_seq ?_
  -- region 0
  refine W_region (by decide +kernel) ?_
  refine sq_r r_assign rfl ?_
  refine sq_z ?_
  refine W_seq ?_
  -- region 1
  refine W_region (by decide +kernel) ?_
  refine sq_r r_assign rfl ?_
  refine sq_z ?_
  refine W_seq ?_
  refine W_seq ?_
  -- region 2
  refine W_region (by decide +kernel) ?_
  refine sq_r r_move rfl ?_
  refine sq_r (r_lenS Try.underlying37 rfl) rfl ?_
  refine sq_r r_move rfl ?_
  refine sq_z ?_
  refine W_block ?_ -- 0
  -- LOOP
  refine W_loop (fun (i : Nat) f w => ∃ g q n, f = ov [(0, .pointer (some ⟨bb, 0, none⟩)), (5, .int .i64 n), (9, .slice a xs.length cap), (10, .int .i64 xs.length), (11, .int .i64 i)] g ∧ i ≤ xs.length ∧ Mwf q.1 q.2 ∧ q.1.length ≤ r.1.length + i ∧ lst r 0 xs = lst q n (xs.drop i) ∧
    St w0 (ks (rlC bb mr lv mnv r)) [[(bb, cb [lv, mnv, .map (some mr)] 62)], [(mr, mo encV encI q.1 q.2)]] w) (fun i => xs.length - i) 0 ?_ ?_
  · exact ⟨_, r, 0, ov_self ⟨rfl, rfl, rfl, rfl, rfl, trivial⟩, Nat.zero_le _, hm, Nat.le_refl _, rfl, hs⟩
  rintro i f w ⟨g, q, n, rfl, hi, hq, hql, heq, hs⟩
  refine W_seq ?_
  -- region 3
  refine W_region (by decide +kernel) ?_
  refine sq_r (r_cmp rfl rfl rfl) rfl ?_
  refine sq_z ?_
  refine W_seq ?_
  refine W_cond rfl rfl (fun hc => ?_) (fun hc => ?_)
  · have hlt : i < xs.length := by have := of_decide_eq_true hc; omega
    obtain ⟨x, hx⟩ : ∃ x, xs[i]? = some x := ⟨_, List.getElem?_eq_getElem hlt⟩
    have hdrop : xs.drop i = x :: xs.drop (i + 1) := by
      rw [List.drop_eq_getElem_cons hlt]
      congr 1
      exact (List.getElem?_eq_some_iff.1 hx).2
    obtain ⟨b, off, rfl, hbb, hat0⟩ := hall i x hx
    have hat : At w b (off + i * 4) (scF x) := at_keep hs hbb (by simp [scF]) hat0
    refine W_skip ?_
    refine W_seq ?_
    refine W_block ?_ -- 1
    refine W_seq ?_
    -- region 4
    refine W_region (by decide +kernel) ?_
    refine sq_r (r_index rfl rfl sl37 (by omega) (by omega)) rfl ?_
    refine sq_r (r_loadN (vs := scF x) rfl ty69 (scF_len x) hat) rfl ?_
    refine sq_e rfl (o_alloc hs ty69 ?_); intro b4 w hs
    refine sq_e rfl (o_store (i := 2) (vs := scF x) hs rfl rfl (by rw [scF_len]; exact ty69) rfl (scF_one x) (by simp [scF]) ?_); intro w hs
    refine sq_z ?_
    rw [spl_all (vs := scF x) (by rw [scF_len]; rfl)] at hs
    refine W_seq ?_
    -- region 5
    refine W_region (by decide +kernel) ?_
    refine sq_r r_move rfl ?_
    refine sq_r (r_loadN (vs := scF x) rfl ty69 (scF_len x) (At.of_block (hs.own (i := 2) rfl) (ic_all _))) rfl ?_
    refine sq_r (r_buildL (ps := [(0, .int .i64 n), (1, .agg (scF x).toArray)]) rfl (build_ck _ n x)) rfl ?_
    refine sq_e rfl (o_alloc hs ty89 ?_); intro b5 w hs
    refine sq_e rfl (o_store (i := 3) (vs := ic (ck n x).toList) hs rfl rfl (by rw [ic_length, Vector.length_toList]; exact ty89) rfl (ic_one _) (by simp) ?_); intro w hs
    refine sq_z ?_
    have hs : St w0 (ks (rlC bb mr lv mnv r)) [[(bb, cb [lv, mnv, .map (some mr)] 62)], [(mr, mo encV encI q.1 q.2)], [(b4, cb (scF x) 69)], [(b5, cb (ic (ck n x).toList) 89)]] w := hs.cast (by
      have e := spl_all (cs := [Value.int .i64 0, .int .i64 0, .int .i64 0, .int .i64 0, .int .i64 0]) (vs := ic (ck n x).toList) (by simp)
      simp only [e]
      rfl)
    have hkl : (ic (ck n x).toList).length = 5 := by simp
    refine W_mid (M := fun f w => ∃ g, f = ov [(0, .pointer (some ⟨bb, 0, none⟩)), (8, .pointer (some ⟨b5, 0, none⟩)), (9, .slice (some ⟨b, off, none⟩) xs.length cap), (10, .int .i64 xs.length), (11, .int .i64 i)] g ∧
      St w0 (ks (rlC bb mr lv mnv r)) [[(bb, cb [lv, mnv, .map (some mr)] 62)], [(mr, mo encV encI (lk1 q n x).1 (lk1 q n x).2)], [(b4, cb (scF x) 69)], [(b5, cb (ic (ck n x).toList) 89)]] w) ?_ (fun f w hM => ?_)
    · refine W_seq ?_
      -- region 6 DRAWS
      refine W_drawM hs Try.mixed [true, true, true, true] [0, 1, 3, 7, 0, 31, 63] [] [0, 1, 2, 3, 4, 5, 6] (by decide +kernel) ?_
      intro w hs; have hR := hs.mask [true, true, true, true]
      refine dq_r hR rfl rfl rfl (fun _ w _ _ hR => r_move) ?_
      refine dq_r hR rfl rfl rfl (fun _ w _ _ hR => r_nilCheck rfl) ?_
      refine dq_r hR rfl rfl rfl (fun _ w _ _ hR => r_field rfl fa62_2) ?_
      refine dq_r hR rfl rfl rfl (fun _ w _ _ hR => r_load1 rfl ty60 (At.one (hR.own (i := 0) rfl) rfl)) ?_
      refine dq_r hR rfl rfl rfl (fun _ w _ _ hR => r_loadN rfl ty89 hkl (At.of_block (hR.own (i := 3) rfl) (ic_all _))) ?_
      refine dq_r hR rfl rfl rfl (fun _ w _ _ hR => r_lookup (a := ck n x) KT89 Try.underlying60 (zero3 w) rfl rfl (hR.own (i := 1) rfl)) ?_
      refine dq_r hR rfl rfl rfl (fun _ w _ _ hR => r_cmp rfl rfl rfl) ?_
      refine dq_z hR ?_
      refine W_cond rfl rfl (fun hd => ?_) (fun hd => ?_)
      · have hz : (mget q.1 (ck n x)).getD 0 = 0 := by simpa using hd
        -- region 7 DRAWS
        refine W_drawT hs Try.mixed [true, true, true, true] [true, false, true, true] 1 [0, 1, 3, 7, 0, 0, 32, 96, 224, 480, 992, 2047] [11] [0, 1, 2, 3, 4, 5, 6, 7, 8, 9, 10, 11] (by decide +kernel) ?_
        intro w hs; have hR := hs.mask [true, true, true, true]
        refine dq_rp hR rfl rfl rfl (fun w => r_move) ?_
        refine dq_rp hR rfl rfl rfl (fun w => r_nilCheck rfl) ?_
        refine dq_rp hR rfl rfl rfl (fun w => r_field rfl fa62_2) ?_
        refine dq_r1 hR rfl rfl (by decide) rfl (fun w hR => r_load1 rfl ty60 (At.one (hR.own (i := 0) rfl) rfl)) ?_
        refine dq_r1 hR rfl rfl (by decide) rfl (fun w hR => r_loadN rfl ty89 hkl (At.of_block (hR.own (i := 3) rfl) (ic_all _))) ?_
        refine dq_rp hR rfl rfl rfl (fun w => r_move) ?_
        refine dq_rp hR rfl rfl rfl (fun w => r_nilCheck rfl) ?_
        refine dq_rp hR rfl rfl rfl (fun w => r_field rfl fa62_2) ?_
        refine dq_r1 hR rfl rfl (by decide) rfl (fun w hR => r_load1 rfl ty60 (At.one (hR.own (i := 0) rfl) rfl)) ?_
        refine dq_r1 hR rfl rfl (by decide) rfl (fun w hR => r_lenMo Try.underlying60 rfl (hR.own (i := 1) rfl)) ?_
        refine dq_rp hR rfl rfl rfl (fun w => r_add rfl rfl (wrap_small (by omega) (by omega))) ?_
        refine dq_e hR rfl rfl rfl (o_mapUpdate (i := 1) (a := ck n x) (v := (q.1.length : Int) + 1) (ev' := encI) KT89 Try.underlying60 hs rfl rfl rfl rfl hq.keys ?_); intro w hs
        have hR := hs.mask [true, false, true, true]
        refine dq_z hR ?_
        refine ⟨_, ov_self ⟨rfl, rfl, rfl, rfl, rfl, trivial⟩, hs.cast ?_⟩
        simp [lk1, hz]
      · have hz : ¬ (mget q.1 (ck n x)).getD 0 = 0 := by simpa using hd
        refine W_skip ?_
        refine ⟨_, ov_self ⟨rfl, rfl, rfl, rfl, rfl, trivial⟩, hs.cast ?_⟩
        simp [lk1, hz]
    · obtain ⟨g, rfl, hs⟩ := hM
      -- region 8 DRAWS
      refine W_drawM hs Try.mixed [true, true, true, true] [0, 1, 3, 7, 0, 31, 63] [] [0, 1, 2, 3, 4, 5, 6] (by decide +kernel) ?_
      intro w hs; have hR := hs.mask [true, true, true, true]
      refine dq_r hR rfl rfl rfl (fun _ w _ _ hR => r_move) ?_
      refine dq_r hR rfl rfl rfl (fun _ w _ _ hR => r_nilCheck rfl) ?_
      refine dq_r hR rfl rfl rfl (fun _ w _ _ hR => r_field rfl fa62_2) ?_
      refine dq_r hR rfl rfl rfl (fun _ w _ _ hR => r_load1 rfl ty60 (At.one (hR.own (i := 0) rfl) rfl)) ?_
      refine dq_r hR rfl rfl rfl (fun _ w _ _ hR => r_loadN rfl ty89 hkl (At.of_block (hR.own (i := 3) rfl) (ic_all _))) ?_
      refine dq_r hR rfl rfl rfl (fun _ w _ _ hR => r_lookup (a := ck n x) KT89 Try.underlying60 (zero3 w) rfl rfl (hR.own (i := 1) rfl)) ?_
      refine dq_r hR rfl rfl rfl (fun _ w _ _ hR => r_assign) ?_
      refine dq_z hR ?_
      have hll := lk1_len q n x
      -- region 9
      refine W_region (by decide +kernel) ?_
      refine sq_r (r_add rfl rfl (wrap_small (by omega) (by omega))) rfl ?_
      refine sq_r r_move rfl ?_
      refine sq_z ?_
      exact ⟨i + 1, ⟨_, lk1 q n x, lkN q n x, ov_self ⟨rfl, rfl, rfl, rfl, rfl, trivial⟩, by omega, lk1_wf hq n x, by omega, by rw [heq, hdrop]; rfl, (hs.mask [true, true, false, false]).cast (by simp [zipMask])⟩, by omega⟩
  · have hin : i = xs.length := by have := of_decide_eq_false hc; omega
    subst hin
    rw [List.drop_length] at heq
    refine W_exit ?_ -- 0
    refine W_seq ?_
    -- region 10
    refine W_region (by decide +kernel) ?_
    refine sq_r r_move rfl ?_
    refine sq_r r_assign rfl ?_
    refine sq_z ?_
    refine W_ret ?_
    exact ret1 (v := .int .i64 n) rfl (by decide) rfl (fin (c' := rlC bb mr lv mnv q) hs ⟨by rw [heq]; rfl, by rw [heq]; rfl⟩ (by simp [rlC]))

end Go.Proofs.Ytfojeengapebmaa
