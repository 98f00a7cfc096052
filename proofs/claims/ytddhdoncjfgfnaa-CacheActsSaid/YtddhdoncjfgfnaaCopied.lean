/-
  Layer 15: a trace in new memory (copied). Condition: it is not long.
-/
import Derived.Test.YtddhdoncjfgfnaaClone
namespace Go.Proofs.Ytddhdoncjfgfnaa
open Go.Eng

/-- The first i lie with sources of dd, the others are as they were. -/
def ElI {α : Type} (g : α → List Sc) (ps : List (α × Value)) (dd : Ck) (i : Nat) (qs : List (α × Value)) : Prop :=
  qs.length = ps.length ∧ qs.map (·.1) = ps.map (·.1) ∧ (∀ j p, j < i → qs[j]? = some p → ∀ w, Hp dd w → RdG 4 scF (· ∈ ks dd) p.2 (g p.1) w) ∧ ∀ j, i ≤ j → qs[j]? = ps[j]?
theorem ElI.start {α : Type} {g : α → List Sc} {ps : List (α × Value)} {dd : Ck} : ElI g ps dd 0 ps := ⟨rfl, rfl, fun j _ hj => absurd hj (Nat.not_lt_zero j), fun _ _ => rfl⟩
theorem ElI.step {α : Type} {g : α → List Sc} {ps qs : List (α × Value)} {dd d : Ck} {i : Nat} (h : ElI g ps dd i qs) {p : α × Value} (hp : ps[i]? = some p) {u : Value} (hu : Sl 93 4 u (g p.1).length ((g p.1).flatMap scF) d) : ElI g ps (dd ++ d) (i + 1) (qs.set i (p.1, u)) := by
  obtain ⟨hql, hqm, hq1, hq2⟩ := h
  have hil : i < qs.length := by rw [hql]; exact (List.getElem?_eq_some_iff.1 hp).1
  refine ⟨by rw [List.length_set, hql], ?_, fun j y hj hy w hw => ?_, fun j hj => ?_⟩
  · rw [List.map_set, hqm]
    exact list_set_same (by rw [List.getElem?_map, hp]; rfl)
  · by_cases hji : i = j
    · subst hji
      rw [List.getElem?_set_self hil] at hy
      cases hy
      exact (sl_rd scF_len (by decide) hu hw.right).mono fun b hb => by simp [ks] at hb ⊢; exact .inr hb
    · rw [List.getElem?_set_ne hji] at hy
      exact (hq1 j y (by omega) hy w hw.left).mono fun b hb => by simp [ks] at hb ⊢; exact .inl hb
  · rw [List.getElem?_set_ne (by omega)]
    exact hq2 j (by omega)
theorem ElI.all {α : Type} {g : α → List Sc} {ps qs : List (α × Value)} {dd : Ck} (h : ElI g ps dd ps.length qs) : ∀ p ∈ qs, ∀ w, Hp dd w → RdG 4 scF (· ∈ ks dd) p.2 (g p.1) w := fun p hp w hw => by
  obtain ⟨j, hj⟩ := List.mem_iff_getElem?.1 hp
  exact h.2.2.1 j p (by have := (List.getElem?_eq_some_iff.1 hj).1; rw [h.1] at this; exact this) hj w hw
theorem args_more {α : Type} {g : α → List Sc} {qs : List (α × Value)} {dd : Ck} (h : ∀ p ∈ qs, ∀ w, Hp dd w → RdG 4 scF (· ∈ ks dd) p.2 (g p.1) w) (d : Ck) : ∀ p ∈ qs, ∀ w, Hp (dd ++ d) w → RdG 4 scF (· ∈ ks (dd ++ d)) p.2 (g p.1) w :=
  fun p hp w hw => (h p hp w hw.left).mono fun b hb => by simp [ks] at hb ⊢; exact .inl hb

set_option maxRecDepth 20000 in
set_option maxHeartbeats 4000000 in
theorem f27_calls (x : LT) (B : Nat → Prop) (hsm : x.small) : Ctr Try.prog 27 #[evT x] [] (RdT B x) (fun r c => ∃ y ci cbk co cl cv dd, r = evT y ∧ y.t = x.t ∧ Own y ci co cl cv cbk dd ∧ c = ci ++ (cbk ++ (co ++ (cl ++ (cv ++ dd))))) := by
  intro w0 hp hro
  have hs : St w0 (ks []) [] w0 := St.start w0
  have hmax : 20000000000000 ≤ maxLen := by decide +kernel
  have hkB : ∀ b, B b → b ∉ ks [] := by simp [ks]
  have hno := hsm.o
  have hnl := hsm.l
  have hnv := hsm.v
  refine calls_W (n := 84) Try.func27 rfl Try.ntmps27 (by simp) ?_
  refine W_seq ?_
  -- region 0
  refine W_region (by decide +kernel) ?_
  refine sq_e rfl (o_box (cs := trC x) hs rfl ?_); intro b0 w hs
  refine sq_e rfl (o_alloc hs ty33 ?_); intro b1 w hs
  refine sq_z ?_
  have hs : St w0 (ks []) [[(b0, cb (trC x) 33)], [(b1, cb (trC zLT) 33)]] w := hs
  refine W_mid (M := fun f w => ∃ g vi vb oa ocap la lcap va vcap ci cbk co cl cv, f = ov [(1, .pointer (some ⟨b0, 0, none⟩)), (2, .pointer (some ⟨b1, 0, none⟩))] g ∧ Sl 3 1 vi x.ins.length (x.ins.flatMap iF) ci ∧ Sl 93 4 vb x.back.length (x.back.flatMap scF) cbk ∧
    Sl 39 5 (.slice oa x.ops.length ocap) x.ops.length (x.ops.flatMap opC) co ∧ Sl 76 5 (.slice la x.links.length lcap) x.links.length (x.links.flatMap lkC) cl ∧ Sl 78 2 (.slice va x.virts.length vcap) x.virts.length (x.virts.flatMap vtC) cv ∧
    St w0 (ks []) [[(b0, cb (trC { x with vi := vi, vb := vb, vo := .slice oa x.ops.length ocap, vl := .slice la x.links.length lcap, vv := .slice va x.virts.length vcap }) 33)], [(b1, cb (trC zLT) 33)], ci, cbk, co, cl, cv, []] w) ?_ (fun f w hM => ?_)
  · -- region 1 DRAWS
    refine W_drawT hs Try.mixed [true, true] [false, true] 6 [0, 1, 3, 0, 8, 31, 0, 64, 255, 0, 512, 2047, 0, 4096, 16383, 14047, 65535, 131071, 262143, 524287, 1048575, 2097151, 4194303, 8388607, 16777215] [2, 5, 8, 11, 14, 16, 18, 20, 22, 24] [0, 1, 3, 4, 6, 7, 9, 10, 12, 13, 2, 15, 5, 8, 11, 14, 16, 17, 18, 19, 20, 21, 22, 23, 24] (by decide +kernel) ?_
    intro w hs; have hR := hs.mask [true, true]
    refine dq_rp hR rfl rfl rfl (fun w => r_field rfl fa33_3) ?_
    refine dq_r1 hR rfl rfl (by decide) rfl (fun w hR => r_load1 rfl ty27 (At.one (hR.own (i := 0) rfl) (tr12 x))) ?_
    refine dq_rp hR rfl rfl rfl (fun w => r_field rfl fa33_7) ?_
    refine dq_r1 hR rfl rfl (by decide) rfl (fun w hR => r_load1 rfl ty31 (At.one (hR.own (i := 0) rfl) (tr16 x))) ?_
    refine dq_rp hR rfl rfl rfl (fun w => r_field rfl fa33_4) ?_
    refine dq_r1 hR rfl rfl (by decide) rfl (fun w hR => r_load1 rfl ty28 (At.one (hR.own (i := 0) rfl) (tr13 x))) ?_
    refine dq_rp hR rfl rfl rfl (fun w => r_field rfl fa33_5) ?_
    refine dq_r1 hR rfl rfl (by decide) rfl (fun w hR => r_load1 rfl ty29 (At.one (hR.own (i := 0) rfl) (tr14 x))) ?_
    refine dq_rp hR rfl rfl rfl (fun w => r_field rfl fa33_6) ?_
    refine dq_r1 hR rfl rfl (by decide) rfl (fun w hR => r_load1 rfl ty30 (At.one (hR.own (i := 0) rfl) (tr15 x))) ?_
    refine dq_e hR rfl rfl rfl (o_call0 cb22 rfl rfl (f22_calls x.vi x.ins B hsm.i) hs (hro.i.old (fun _ => rfl) (by decide) hs hkB) ?_); intro vi ci w hvi hs
    have hR := hs.mask [true, true]
    refine dq_rp hR rfl rfl rfl (fun w => r_field rfl fa33_3) ?_
    refine dq_e hR rfl rfl rfl (o_call0 cb40 rfl rfl (f40_calls x.vb x.back B hsm.b) hs (hro.b.old scF_len (by decide) hs hkB) ?_); intro vb cbk w hvb hs
    have hR := hs.mask [true, true]
    refine dq_e hR rfl rfl rfl (o_call0 cb41 rfl rfl (f41_calls x.vo x.ops B hsm.o (fun p hp => (hro.ao p hp).shape.1)) hs (hro.o.old opC_len (by decide) hs hkB) ?_); intro vo co w hvo hs
    have hR := hs.mask [true, true]
    refine dq_e hR rfl rfl rfl (o_call0 cb42 rfl rfl (f42_calls x.vl x.links B hsm.l (fun p hp => (hro.al p hp).shape.1)) hs (hro.l.old lkC_len (by decide) hs hkB) ?_); intro vl cl w hvl hs
    have hR := hs.mask [true, true]
    refine dq_e hR rfl rfl rfl (o_call0 cb43 rfl rfl (f43_calls x.vv x.virts B hsm.v (fun p hp => (hro.av p hp).shape.1)) hs (hro.v.old vtC_len (by decide) hs hkB) ?_); intro vv cv w hvv hs
    have hR := hs.mask [true, true]
    refine dq_e hR rfl rfl rfl (o_store (i := 0) (vs := [vi]) hs rfl (sl_one hvi).2 ty27 rfl (by simpa using (sl_one hvi).1) (by simp [trC_len]) ?_); intro w hs
    have hR := hs.mask [false, true]
    refine dq_rp hR rfl rfl rfl (fun w => r_field rfl fa33_7) ?_
    refine dq_e hR rfl rfl rfl (o_store (i := 0) (vs := [vb]) hs rfl (sl_one hvb).2 ty31 rfl (by simpa using (sl_one hvb).1) (by simp [spl, trC_len]) ?_); intro w hs
    have hR := hs.mask [false, true]
    refine dq_rp hR rfl rfl rfl (fun w => r_field rfl fa33_4) ?_
    refine dq_e hR rfl rfl rfl (o_store (i := 0) (vs := [vo]) hs rfl (sl_one hvo).2 ty28 rfl (by simpa using (sl_one hvo).1) (by simp [spl, trC_len]) ?_); intro w hs
    have hR := hs.mask [false, true]
    refine dq_rp hR rfl rfl rfl (fun w => r_field rfl fa33_5) ?_
    refine dq_e hR rfl rfl rfl (o_store (i := 0) (vs := [vl]) hs rfl (sl_one hvl).2 ty29 rfl (by simpa using (sl_one hvl).1) (by simp [spl, trC_len]) ?_); intro w hs
    have hR := hs.mask [false, true]
    refine dq_rp hR rfl rfl rfl (fun w => r_field rfl fa33_6) ?_
    refine dq_e hR rfl rfl rfl (o_store (i := 0) (vs := [vv]) hs rfl (sl_one hvv).2 ty30 rfl (by simpa using (sl_one hvv).1) (by simp [spl, trC_len]) ?_); intro w hs
    have hR := hs.mask [false, true]
    refine dq_z hR ?_
    obtain ⟨oa, ocap, rfl⟩ := hvo.len
    obtain ⟨la, lcap, rfl⟩ := hvl.len
    obtain ⟨va, vcap, rfl⟩ := hvv.len
    have e : spl (spl (spl (spl (spl (trC x) (0 + 12) [vi]) (0 + 16) [vb]) (0 + 13) [.slice oa x.ops.length ocap]) (0 + 14) [.slice la x.links.length lcap]) (0 + 15) [.slice va x.virts.length vcap] = trC { x with vi := vi, vb := vb, vo := .slice oa x.ops.length ocap, vl := .slice la x.links.length lcap, vv := .slice va x.virts.length vcap } := by
      simp only [Nat.zero_add, st12, st13, st14, st15, st16]
    refine ⟨_, vi, vb, oa, ocap, la, lcap, va, vcap, ci, cbk, co, cl, cv, ov_self ⟨rfl, rfl, trivial⟩, hvi, hvb, hvo, hvl, hvv, ?_⟩
    rw [← e]
    exact hs.cast (by simp)
  obtain ⟨g, vi, vb, oa, ocap, la, lcap, va, vcap, ci, cbk, co, cl, cv, rfl, hvi, hvb, hvo, hvl, hvv, hs⟩ := hM
  obtain ⟨X, hX⟩ : ∃ X : LT, X = { x with vi := vi, vb := vb, vo := .slice oa x.ops.length ocap, vl := .slice la x.links.length lcap, vv := .slice va x.virts.length vcap } := ⟨_, rfl⟩
  rw [← hX] at hs
  have X13 : (trC X)[0 + 13]? = some (.slice oa x.ops.length ocap) := by rw [hX]; exact tr13 _
  have X14 : (trC X)[0 + 14]? = some (.slice la x.links.length lcap) := by rw [hX]; exact tr14 _
  have X15 : (trC X)[0 + 15]? = some (.slice va x.virts.length vcap) := by rw [hX]; exact tr15 _
  refine W_seq ?_
  refine W_seq ?_
  refine W_region (by decide +kernel) ?_
  refine sq_r (r_field rfl fa33_4) rfl ?_
  refine sq_r (r_load1 rfl ty28 (At.one (hs.own (i := 0) rfl) X13)) rfl ?_
  refine sq_r (r_lenS Try.underlying28 rfl) rfl ?_
  refine sq_r r_move rfl ?_
  refine sq_z ?_
  refine W_block ?_ -- 0
  -- LOOP
  refine W_loop (fun (i : Nat) f w => ∃ g qo co dd, f = ov [(1, .pointer (some ⟨b0, 0, none⟩)), (2, .pointer (some ⟨b1, 0, none⟩)), (28, .int .i64 x.ops.length), (29, .int .i64 i)] g ∧ i ≤ x.ops.length ∧ ElI (·.args) x.ops dd i qo ∧ Sl 39 5 (.slice oa x.ops.length ocap) x.ops.length (qo.flatMap opC) co ∧
    St w0 (ks []) [[(b0, cb (trC X) 33)], [(b1, cb (trC zLT) 33)], ci, cbk, co, cl, cv, dd] w) (fun i => x.ops.length - i) 0 ?_ ?_
  · exact ⟨_, x.ops, co, [], ov_self ⟨rfl, rfl, rfl, rfl, trivial⟩, Nat.zero_le _, ElI.start, hvo, hs⟩
  clear hs hvo
  rintro i f w ⟨g, qo, co, dd, rfl, hi, heo, hvo, hs⟩
  refine W_seq ?_
  refine W_region (by decide +kernel) ?_
  refine sq_r (r_cmp rfl rfl rfl) rfl ?_
  refine sq_z ?_
  refine W_seq ?_
  refine W_cond rfl rfl (fun hd => ?_) (fun hd => ?_)
  · have hlt : i < x.ops.length := by have := of_decide_eq_true hd; omega
    obtain ⟨p, hp⟩ : ∃ p, x.ops[i]? = some p := ⟨_, List.getElem?_eq_getElem hlt⟩
    have hqi : qo[i]? = some p := (heo.2.2.2 i (Nat.le_refl _)).trans hp
    have hql := heo.1
    have hpm := List.mem_of_getElem? hp
    have hsa := hsm.ao p hpm
    obtain ⟨b, cap, rest, hv, hce, hcell, _⟩ := hvo.get opC_len hqi (by decide)
    subst hce
    simp only [Value.slice.injEq, true_and] at hv
    obtain ⟨rfl, rfl⟩ := hv
    have hat : ∀ {w : World}, w.heap[b]? = some (cb (qo.flatMap opC ++ rest) 39) → At w b (0 + ((i : Int).toNat) * 5) (opC p) := fun h => At.of_block h (by rw [opC_len, Nat.zero_add]; exact hcell)
    refine W_skip ?_
    refine W_seq ?_
    refine W_block ?_
    refine W_seq ?_
    refine W_region (by decide +kernel) ?_
    refine sq_r r_move rfl ?_
    refine sq_r r_assign rfl ?_
    refine sq_z ?_
    refine W_drawT hs Try.mixed [true, true, true, true, true, true, true, true] [true, true, true, true, false, true, true, true] 2 [0, 1, 0, 0, 8, 0, 56, 120, 248, 504, 1023, 2047, 4095] [9, 12] [0, 1, 2, 3, 4, 5, 6, 7, 8, 9, 10, 11, 12] (by decide +kernel) ?_
    intro w hs; have hR := hs.mask [true, true, true, true, true, true, true, true]
    refine dq_rp hR rfl rfl rfl (fun w => r_field rfl fa33_4) ?_
    refine dq_r1 hR rfl rfl (by decide) rfl (fun w hR => r_load1 rfl ty28 (At.one (hR.own (i := 0) rfl) X13)) ?_
    refine dq_rp hR rfl rfl rfl (fun w => r_move) ?_
    refine dq_rp hR rfl rfl rfl (fun w => r_field rfl fa33_4) ?_
    refine dq_r1 hR rfl rfl (by decide) rfl (fun w hR => r_load1 rfl ty28 (At.one (hR.own (i := 0) rfl) X13)) ?_
    refine dq_rp hR rfl rfl rfl (fun w => r_move) ?_
    refine dq_rp hR rfl rfl rfl (fun w => r_index rfl rfl sl28 (by omega) (by omega)) ?_
    refine dq_rp hR rfl rfl rfl (fun w => r_field rfl fa39_1) ?_
    refine dq_r1 hR rfl rfl (by decide) rfl (fun w hR => r_load1 rfl ty31 (hat (hR.own (i := 4) rfl) 1 _ rfl)) ?_
    refine dq_e hR rfl rfl rfl (o_call0 cb40 rfl rfl (f40_calls p.2 p.1.args B hsa) hs ((hro.ao p hpm).old scF_len (by decide) hs hkB) ?_)
    intro u d w hu hs
    have hR := hs.mask [true, true, true, true, true, true, true, true]
    refine dq_rp hR rfl rfl rfl (fun w => r_index rfl rfl sl28 (by omega) (by omega)) ?_
    refine dq_rp hR rfl rfl rfl (fun w => r_field rfl fa39_1) ?_
    refine dq_e hR rfl rfl rfl (o_store (i := 4) (vs := [u]) hs rfl (sl_one hu).2 ty31 rfl (by simpa using (sl_one hu).1) ?_ ?_)
    · rw [List.length_append, cat_len opC_len, hql]
      simp only [Int.toNat_natCast, List.length_cons, List.length_nil]
      have : (i + 1) * 5 ≤ x.ops.length * 5 := Nat.mul_le_mul_right _ hlt
      omega
    intro w hs
    have hR := hs.mask [true, true, true, true, false, true, true, true]
    refine dq_z hR ?_
    have hs : St w0 (ks []) [[(b0, cb (trC X) 33)], [(b1, cb (trC zLT) 33)], ci, cbk, [(b, cb ((qo.set i (p.1, u)).flatMap opC ++ rest) 39)], cl, cv, dd ++ d] w := hs.cast (by
      have e := cat_set opC_len rest (off := 1) (vs := [u]) qo i p (p.1, u) hqi (opC_set p u) (by simp)
      rw [← e]
      simp)
    refine W_region (by decide +kernel) ?_
    refine sq_r (r_add rfl rfl (wrap_small (by omega) (by omega))) rfl ?_
    refine sq_r r_move rfl ?_
    refine sq_z ?_
    exact ⟨i + 1, ⟨_, qo.set i (p.1, u), _, dd ++ d, ov_self ⟨rfl, rfl, rfl, rfl, trivial⟩, by omega, heo.step hp hu, hvo.set opC_len (by rw [List.length_set]) rfl, hs⟩, by omega⟩
  have hin : i = x.ops.length := by have := of_decide_eq_false hd; omega
  subst hin
  refine W_exit ?_ -- 0
  have hao := heo.all
  refine W_seq ?_
  refine W_seq ?_
  refine W_region (by decide +kernel) ?_
  refine sq_r (r_field rfl fa33_5) rfl ?_
  refine sq_r (r_load1 rfl ty29 (At.one (hs.own (i := 0) rfl) X14)) rfl ?_
  refine sq_r (r_lenS Try.underlying29 rfl) rfl ?_
  refine sq_r r_move rfl ?_
  refine sq_z ?_
  refine W_block ?_ -- 2
  -- LOOP
  refine W_loop (fun (i : Nat) f w => ∃ g ql cl dd, f = ov [(1, .pointer (some ⟨b0, 0, none⟩)), (2, .pointer (some ⟨b1, 0, none⟩)), (47, .int .i64 x.links.length), (48, .int .i64 i)] g ∧ i ≤ x.links.length ∧ ElI (·.regs) x.links dd i ql ∧ Sl 76 5 (.slice la x.links.length lcap) x.links.length (ql.flatMap lkC) cl ∧ (∀ p ∈ qo, ∀ w, Hp dd w → RdG 4 scF (· ∈ ks dd) p.2 p.1.args w) ∧
    St w0 (ks []) [[(b0, cb (trC X) 33)], [(b1, cb (trC zLT) 33)], ci, cbk, co, cl, cv, dd] w) (fun i => x.links.length - i) 0 ?_ ?_
  · exact ⟨_, x.links, cl, dd, ov_self ⟨rfl, rfl, rfl, rfl, trivial⟩, Nat.zero_le _, ElI.start, hvl, hao, hs⟩
  clear hs hvl hao
  rintro i f w ⟨g, ql, cl, dd, rfl, hi, hel, hvl, hao, hs⟩
  refine W_seq ?_
  refine W_region (by decide +kernel) ?_
  refine sq_r (r_cmp rfl rfl rfl) rfl ?_
  refine sq_z ?_
  refine W_seq ?_
  refine W_cond rfl rfl (fun hd => ?_) (fun hd => ?_)
  · have hlt : i < x.links.length := by have := of_decide_eq_true hd; omega
    obtain ⟨p, hp⟩ : ∃ p, x.links[i]? = some p := ⟨_, List.getElem?_eq_getElem hlt⟩
    have hqi : ql[i]? = some p := (hel.2.2.2 i (Nat.le_refl _)).trans hp
    have hql := hel.1
    have hpm := List.mem_of_getElem? hp
    have hsa := hsm.al p hpm
    obtain ⟨b, cap, rest, hv, hce, hcell, _⟩ := hvl.get lkC_len hqi (by decide)
    subst hce
    simp only [Value.slice.injEq, true_and] at hv
    obtain ⟨rfl, rfl⟩ := hv
    have hat : ∀ {w : World}, w.heap[b]? = some (cb (ql.flatMap lkC ++ rest) 76) → At w b (0 + ((i : Int).toNat) * 5) (lkC p) := fun h => At.of_block h (by rw [lkC_len, Nat.zero_add]; exact hcell)
    refine W_skip ?_
    refine W_seq ?_
    refine W_block ?_
    refine W_seq ?_
    refine W_region (by decide +kernel) ?_
    refine sq_r r_move rfl ?_
    refine sq_r r_assign rfl ?_
    refine sq_z ?_
    refine W_drawT hs Try.mixed [true, true, true, true, true, true, true, true] [true, true, true, true, true, false, true, true] 2 [0, 1, 0, 0, 8, 0, 56, 120, 248, 504, 1023, 2047, 4095] [9, 12] [0, 1, 2, 3, 4, 5, 6, 7, 8, 9, 10, 11, 12] (by decide +kernel) ?_
    intro w hs; have hR := hs.mask [true, true, true, true, true, true, true, true]
    refine dq_rp hR rfl rfl rfl (fun w => r_field rfl fa33_5) ?_
    refine dq_r1 hR rfl rfl (by decide) rfl (fun w hR => r_load1 rfl ty29 (At.one (hR.own (i := 0) rfl) X14)) ?_
    refine dq_rp hR rfl rfl rfl (fun w => r_move) ?_
    refine dq_rp hR rfl rfl rfl (fun w => r_field rfl fa33_5) ?_
    refine dq_r1 hR rfl rfl (by decide) rfl (fun w hR => r_load1 rfl ty29 (At.one (hR.own (i := 0) rfl) X14)) ?_
    refine dq_rp hR rfl rfl rfl (fun w => r_move) ?_
    refine dq_rp hR rfl rfl rfl (fun w => r_index rfl rfl sl29 (by omega) (by omega)) ?_
    refine dq_rp hR rfl rfl rfl (fun w => r_field rfl fa76_4) ?_
    refine dq_r1 hR rfl rfl (by decide) rfl (fun w hR => r_load1 rfl ty31 (hat (hR.own (i := 5) rfl) 4 _ rfl)) ?_
    refine dq_e hR rfl rfl rfl (o_call0 cb40 rfl rfl (f40_calls p.2 p.1.regs B hsa) hs ((hro.al p hpm).old scF_len (by decide) hs hkB) ?_)
    intro u d w hu hs
    have hR := hs.mask [true, true, true, true, true, true, true, true]
    refine dq_rp hR rfl rfl rfl (fun w => r_index rfl rfl sl29 (by omega) (by omega)) ?_
    refine dq_rp hR rfl rfl rfl (fun w => r_field rfl fa76_4) ?_
    refine dq_e hR rfl rfl rfl (o_store (i := 5) (vs := [u]) hs rfl (sl_one hu).2 ty31 rfl (by simpa using (sl_one hu).1) ?_ ?_)
    · rw [List.length_append, cat_len lkC_len, hql]
      simp only [Int.toNat_natCast, List.length_cons, List.length_nil]
      have : (i + 1) * 5 ≤ x.links.length * 5 := Nat.mul_le_mul_right _ hlt
      omega
    intro w hs
    have hR := hs.mask [true, true, true, true, true, false, true, true]
    refine dq_z hR ?_
    have hs : St w0 (ks []) [[(b0, cb (trC X) 33)], [(b1, cb (trC zLT) 33)], ci, cbk, co, [(b, cb ((ql.set i (p.1, u)).flatMap lkC ++ rest) 76)], cv, dd ++ d] w := hs.cast (by
      have e := cat_set lkC_len rest (off := 4) (vs := [u]) ql i p (p.1, u) hqi (lkC_set p u) (by simp)
      rw [← e]
      simp)
    refine W_region (by decide +kernel) ?_
    refine sq_r (r_add rfl rfl (wrap_small (by omega) (by omega))) rfl ?_
    refine sq_r r_move rfl ?_
    refine sq_z ?_
    exact ⟨i + 1, ⟨_, ql.set i (p.1, u), _, dd ++ d, ov_self ⟨rfl, rfl, rfl, rfl, trivial⟩, by omega, hel.step hp hu, hvl.set lkC_len (by rw [List.length_set]) rfl, args_more hao d, hs⟩, by omega⟩
  have hin : i = x.links.length := by have := of_decide_eq_false hd; omega
  subst hin
  refine W_exit ?_ -- 2
  have hal := hel.all
  refine W_seq ?_
  refine W_seq ?_
  refine W_region (by decide +kernel) ?_
  refine sq_r (r_field rfl fa33_6) rfl ?_
  refine sq_r (r_load1 rfl ty30 (At.one (hs.own (i := 0) rfl) X15)) rfl ?_
  refine sq_r (r_lenS Try.underlying30 rfl) rfl ?_
  refine sq_r r_move rfl ?_
  refine sq_z ?_
  refine W_block ?_ -- 4
  -- LOOP
  refine W_loop (fun (i : Nat) f w => ∃ g qv cv dd, f = ov [(1, .pointer (some ⟨b0, 0, none⟩)), (2, .pointer (some ⟨b1, 0, none⟩)), (66, .int .i64 x.virts.length), (67, .int .i64 i)] g ∧ i ≤ x.virts.length ∧ ElI (·.cells) x.virts dd i qv ∧ Sl 78 2 (.slice va x.virts.length vcap) x.virts.length (qv.flatMap vtC) cv ∧ (∀ p ∈ qo, ∀ w, Hp dd w → RdG 4 scF (· ∈ ks dd) p.2 p.1.args w) ∧ (∀ p ∈ ql, ∀ w, Hp dd w → RdG 4 scF (· ∈ ks dd) p.2 p.1.regs w) ∧
    St w0 (ks []) [[(b0, cb (trC X) 33)], [(b1, cb (trC zLT) 33)], ci, cbk, co, cl, cv, dd] w) (fun i => x.virts.length - i) 0 ?_ ?_
  · exact ⟨_, x.virts, cv, dd, ov_self ⟨rfl, rfl, rfl, rfl, trivial⟩, Nat.zero_le _, ElI.start, hvv, hao, hal, hs⟩
  clear hs hvv hao hal
  rintro i f w ⟨g, qv, cv, dd, rfl, hi, hev, hvv, hao, hal, hs⟩
  refine W_seq ?_
  refine W_region (by decide +kernel) ?_
  refine sq_r (r_cmp rfl rfl rfl) rfl ?_
  refine sq_z ?_
  refine W_seq ?_
  refine W_cond rfl rfl (fun hd => ?_) (fun hd => ?_)
  · have hlt : i < x.virts.length := by have := of_decide_eq_true hd; omega
    obtain ⟨p, hp⟩ : ∃ p, x.virts[i]? = some p := ⟨_, List.getElem?_eq_getElem hlt⟩
    have hqi : qv[i]? = some p := (hev.2.2.2 i (Nat.le_refl _)).trans hp
    have hql := hev.1
    have hpm := List.mem_of_getElem? hp
    have hsa := hsm.av p hpm
    obtain ⟨b, cap, rest, hv, hce, hcell, _⟩ := hvv.get vtC_len hqi (by decide)
    subst hce
    simp only [Value.slice.injEq, true_and] at hv
    obtain ⟨rfl, rfl⟩ := hv
    have hat : ∀ {w : World}, w.heap[b]? = some (cb (qv.flatMap vtC ++ rest) 78) → At w b (0 + ((i : Int).toNat) * 2) (vtC p) := fun h => At.of_block h (by rw [vtC_len, Nat.zero_add]; exact hcell)
    refine W_skip ?_
    refine W_seq ?_
    refine W_block ?_
    refine W_seq ?_
    refine W_region (by decide +kernel) ?_
    refine sq_r r_move rfl ?_
    refine sq_r r_assign rfl ?_
    refine sq_z ?_
    refine W_drawT hs Try.mixed [true, true, true, true, true, true, true, true] [true, true, true, true, true, true, false, true] 2 [0, 1, 0, 0, 8, 0, 56, 120, 248, 504, 1023, 2047, 4095] [9, 12] [0, 1, 2, 3, 4, 5, 6, 7, 8, 9, 10, 11, 12] (by decide +kernel) ?_
    intro w hs; have hR := hs.mask [true, true, true, true, true, true, true, true]
    refine dq_rp hR rfl rfl rfl (fun w => r_field rfl fa33_6) ?_
    refine dq_r1 hR rfl rfl (by decide) rfl (fun w hR => r_load1 rfl ty30 (At.one (hR.own (i := 0) rfl) X15)) ?_
    refine dq_rp hR rfl rfl rfl (fun w => r_move) ?_
    refine dq_rp hR rfl rfl rfl (fun w => r_field rfl fa33_6) ?_
    refine dq_r1 hR rfl rfl (by decide) rfl (fun w hR => r_load1 rfl ty30 (At.one (hR.own (i := 0) rfl) X15)) ?_
    refine dq_rp hR rfl rfl rfl (fun w => r_move) ?_
    refine dq_rp hR rfl rfl rfl (fun w => r_index rfl rfl sl30 (by omega) (by omega)) ?_
    refine dq_rp hR rfl rfl rfl (fun w => r_field rfl fa78_1) ?_
    refine dq_r1 hR rfl rfl (by decide) rfl (fun w hR => r_load1 rfl ty31 (hat (hR.own (i := 6) rfl) 1 _ rfl)) ?_
    refine dq_e hR rfl rfl rfl (o_call0 cb40 rfl rfl (f40_calls p.2 p.1.cells B hsa) hs ((hro.av p hpm).old scF_len (by decide) hs hkB) ?_)
    intro u d w hu hs
    have hR := hs.mask [true, true, true, true, true, true, true, true]
    refine dq_rp hR rfl rfl rfl (fun w => r_index rfl rfl sl30 (by omega) (by omega)) ?_
    refine dq_rp hR rfl rfl rfl (fun w => r_field rfl fa78_1) ?_
    refine dq_e hR rfl rfl rfl (o_store (i := 6) (vs := [u]) hs rfl (sl_one hu).2 ty31 rfl (by simpa using (sl_one hu).1) ?_ ?_)
    · rw [List.length_append, cat_len vtC_len, hql]
      simp only [Int.toNat_natCast, List.length_cons, List.length_nil]
      have : (i + 1) * 2 ≤ x.virts.length * 2 := Nat.mul_le_mul_right _ hlt
      omega
    intro w hs
    have hR := hs.mask [true, true, true, true, true, true, false, true]
    refine dq_z hR ?_
    have hs : St w0 (ks []) [[(b0, cb (trC X) 33)], [(b1, cb (trC zLT) 33)], ci, cbk, co, cl, [(b, cb ((qv.set i (p.1, u)).flatMap vtC ++ rest) 78)], dd ++ d] w := hs.cast (by
      have e := cat_set vtC_len rest (off := 1) (vs := [u]) qv i p (p.1, u) hqi (vtC_set p u) (by simp)
      rw [← e]
      simp)
    refine W_region (by decide +kernel) ?_
    refine sq_r (r_add rfl rfl (wrap_small (by omega) (by omega))) rfl ?_
    refine sq_r r_move rfl ?_
    refine sq_z ?_
    exact ⟨i + 1, ⟨_, qv.set i (p.1, u), _, dd ++ d, ov_self ⟨rfl, rfl, rfl, rfl, trivial⟩, by omega, hev.step hp hu, hvv.set vtC_len (by rw [List.length_set]) rfl, args_more hao d, args_more hal d, hs⟩, by omega⟩
  have hin : i = x.virts.length := by have := of_decide_eq_false hd; omega
  subst hin
  refine W_exit ?_ -- 4
  have hav := hev.all
  -- region 17
  have hXl : (trC X).length = 17 := trC_len X
  have hX1 : ∀ u ∈ trC X, u.oneCell' = true := by
    intro u hu
    rw [hX] at hu
    simp only [trC, List.mem_append, List.mem_cons, List.not_mem_nil, or_false] at hu
    rcases hu with hu | rfl | rfl | rfl | rfl | rfl | rfl | rfl
    · exact ic_one _ u hu
    · rfl
    · rfl
    · exact (sl_one hvi).1
    · rfl
    · rfl
    · rfl
    · exact (sl_one hvb).1
  refine W_seq ?_
  refine W_region (by decide +kernel) ?_
  refine sq_r (r_loadN rfl ty33 hXl (At.of_block (hs.own (i := 0) rfl) (by simp))) rfl ?_
  refine sq_e rfl (o_store (i := 1) (vs := trC X) hs rfl rfl (by rw [hXl]; exact ty33) rfl hX1 (by simp [trC_len]) ?_); intro w hs
  refine sq_z ?_
  have hs : St w0 (ks []) [[(b0, cb (trC X) 33)], [(b1, cb (trC X) 33)], ci, cbk, co, cl, cv, dd] w := hs.cast (by rw [show spl (trC zLT) 0 (trC X) = trC X from spl_all (by simp [trC_len])]; simp)
  refine W_ret ?_
  refine retC (T := 33) rfl (by decide) rfl (hs.own (i := 1) rfl) (by rw [hXl]; exact ty33) (fin (c' := ci ++ (cbk ++ (co ++ (cl ++ (cv ++ dd))))) hs ⟨{ X with ops := qo, links := ql, virts := qv }, ci, cbk, co, cl, cv, dd, rfl, ?_, ?_, rfl⟩ ?_)
  · rw [hX]
    simp only [LT.t, heo.2.1, hel.2.1, hev.2.1]
  · rw [hX]
    refine ⟨by rw [ic_flat]; exact hvi, ?_, ?_, ?_, hvb, hao, hal, hav⟩
    · simp only [heo.1]; exact hvo
    · simp only [hel.1]; exact hvl
    · simp only [hev.1]; exact hvv
  · simp only [List.flatten_cons, List.flatten_nil, List.append_nil]
    exact ((List.sublist_append_right _ _).trans (List.sublist_append_right _ _))

end Go.Proofs.Ytddhdoncjfgfnaa
