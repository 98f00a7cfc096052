/-
  Layer 14: the program's search for the least counted key. Condition: the map is not empty.
-/
import Derived.Test.YtcdlbgmmogccaaaBook
namespace Go.Proofs.Ytcdlbgmmogccaaa
open Go.Eng

def ahead (x y : Int × Int) : Prop := x.1 < y.1 ∨ x.1 = y.1 ∧ x.2 < y.2
instance (x y : Int × Int) : Decidable (ahead x y) := by unfold ahead; infer_instance
theorem ahead_trans {x y z : Int × Int} (h1 : ahead x y) (h2 : ahead y z) : ahead x z := by unfold ahead at *; omega
theorem ahead_irrefl (x : Int × Int) : ¬ ahead x x := by unfold ahead; omega
def cv (x : Int × Int) : List Value := [.int .i64 x.1, .int .i64 x.2]

/-- The order that Hit hands to least. -/
theorem f25_calls (x y : Int × Int) : Ctr Try.prog 25 #[.agg (cv x).toArray, .agg (cv y).toArray] [] (fun _ => True) (fun v c => v = .bool (decide (ahead x y)) ∧ c = []) := by
  intro w0 hp hro
  have hs : St w0 (ks []) [] w0 := St.start w0
  refine calls_W (n := 24) Try.func25 rfl Try.ntmps25 (by simp) ?_
  refine W_seq ?_
  -- region 0
  refine W_region (by decide +kernel) ?_
  refine sq_e rfl (o_box (cs := cv x) hs rfl ?_); intro b0 w hs
  refine sq_e rfl (o_box (cs := cv y) hs rfl ?_); intro b1 w hs
  refine sq_r r_assign rfl ?_
  refine sq_z ?_
  refine W_seq ?_
  -- region 1
  refine W_region (by decide +kernel) ?_
  refine sq_r (r_field rfl fa58_0) rfl ?_
  refine sq_r (r_load1 rfl ty3 (At.one (hs.own (i := 0) rfl) rfl)) rfl ?_
  refine sq_r (r_field rfl fa58_0) rfl ?_
  refine sq_r (r_load1 rfl ty3 (At.one (hs.own (i := 1) rfl) rfl)) rfl ?_
  by_cases h1 : x.1 < y.1
  · refine sq_r (r_cmp (r := true) rfl rfl (by simp [cmpB, h1])) rfl ?_
    refine sq_r r_move rfl ?_
    refine sq_n rfl ?_
    refine sq_n rfl ?_
    refine sq_n rfl ?_
    refine sq_n rfl ?_
    refine sq_n rfl ?_
    refine sq_n rfl ?_
    refine sq_n rfl ?_
    refine sq_n rfl ?_
    refine sq_n rfl ?_
    refine sq_n rfl ?_
    refine sq_n rfl ?_
    refine sq_n rfl ?_
    refine sq_r (r_pick rfl) rfl ?_
    refine sq_r r_assign rfl ?_
    refine sq_z ?_
    refine W_ret ?_
    exact ret1 rfl (by decide) rfl (fin hs ⟨by rw [decide_eq_true (show ahead x y from .inl h1)]; rfl, rfl⟩ (by simp))
  · refine sq_r (r_cmp (r := false) rfl rfl (by simp [cmpB]; omega)) rfl ?_
    refine sq_r r_move rfl ?_
    refine sq_r (r_field rfl fa58_0) rfl ?_ /- GUARD 5 False -/
    refine sq_r (r_load1 rfl ty3 (At.one (hs.own (i := 0) rfl) rfl)) rfl ?_ /- GUARD 5 False -/
    refine sq_r (r_field rfl fa58_0) rfl ?_ /- GUARD 5 False -/
    refine sq_r (r_load1 rfl ty3 (At.one (hs.own (i := 1) rfl) rfl)) rfl ?_ /- GUARD 5 False -/
    by_cases h2 : x.1 = y.1
    · refine sq_r (r_cmp (r := true) rfl rfl (by simp [cmpB, h2])) rfl ?_ /- GUARD 5 False -/
      refine sq_r r_move rfl ?_ /- GUARD 5 False -/
      refine sq_r (r_field rfl fa58_1) rfl ?_ /- GUARD 11 True -/
      refine sq_r (r_load1 rfl ty3 (At.one (hs.own (i := 0) rfl) rfl)) rfl ?_ /- GUARD 11 True -/
      refine sq_r (r_field rfl fa58_1) rfl ?_ /- GUARD 11 True -/
      refine sq_r (r_load1 rfl ty3 (At.one (hs.own (i := 1) rfl) rfl)) rfl ?_ /- GUARD 11 True -/
      refine sq_r (r_cmp rfl rfl rfl) rfl ?_ /- GUARD 11 True -/
      refine sq_r (r_pick rfl) rfl ?_ /- GUARD 5 False -/
      refine sq_r (r_pick rfl) rfl ?_
      refine sq_r r_assign rfl ?_
      refine sq_z ?_
      refine W_ret ?_
      refine ret1 (v := .bool (decide (x.2 < y.2))) rfl (by decide) rfl (fin hs ⟨?_, rfl⟩ (by simp))
      congr 1; rw [decide_eq_decide]; unfold ahead; omega
    · refine sq_r (r_cmp (r := false) rfl rfl (by simp [cmpB, h2])) rfl ?_ /- GUARD 5 False -/
      refine sq_r r_move rfl ?_ /- GUARD 5 False -/
      refine sq_n rfl ?_
      refine sq_n rfl ?_
      refine sq_n rfl ?_
      refine sq_n rfl ?_
      refine sq_n rfl ?_
      refine sq_r (r_pick rfl) rfl ?_ /- GUARD 5 False -/
      refine sq_r (r_pick rfl) rfl ?_
      refine sq_r r_assign rfl ?_
      refine sq_z ?_
      refine W_ret ?_
      refine ret1 rfl (by decide) rfl (fin hs ⟨?_, rfl⟩ (by simp))
      rw [decide_eq_false (show ¬ ahead x y from by unfold ahead; omega)]; rfl

theorem born_eq {α β : Type} : ∀ {m : List (α × β × Nat)}, (m.map (·.2.2)).Nodup → ∀ {x y : α × β × Nat}, x ∈ m → y ∈ m → x.2.2 = y.2.2 → x = y
  | [], _, _, _, hx, _, _ => by cases hx
  | z :: m, hnd, x, y, hx, hy, e => by
    simp only [List.map_cons, List.nodup_cons] at hnd
    rcases List.mem_cons.1 hx with hx | hx <;> rcases List.mem_cons.1 hy with hy | hy
    · rw [hx, hy]
    · exact absurd (List.mem_map.2 ⟨y, hy, by rw [← e, hx]⟩) hnd.1
    · exact absurd (List.mem_map.2 ⟨x, hx, by rw [e, hy]⟩) hnd.1
    · exact born_eq hnd.2 hx hy e
theorem left_less {α β : Type} {m : List (α × β × Nat)} {r : α × β × Nat} (hr : r ∈ m) {seen : Array Nat} (h : seen.contains r.2.2 = false) :
    (m.filter fun x => !(seen.push r.2.2).contains x.2.2).length < (m.filter fun x => !seen.contains x.2.2).length := by
  refine filter_lt _ _ (fun x hx => ?_) r (by rw [h]; rfl) (by rw [contains_push]; simp) m hr
  rw [contains_push] at hx
  cases hc : seen.contains x.2.2
  · rfl
  · rw [hc] at hx; cases hx

abbrev lsC (b0 b1 b2 it mc c : Nat) (ko vo : List Value) (seen : Array Nat) : List Ck :=
  [[(b0, cb [.int .i64 0, .int .i64 0, .int .i64 0, .int .i64 0, .int .i64 0, .int .i64 0, .int .i64 0, .int .i64 0, .int .i64 0, .int .i64 0] 28)], [(b1, cb ko 28)], [(b2, cb vo 58)], [(it, .mapIter (some mc) c seen c)]]
/-- What least knows: of the entries seen the one in hand comes ahead of all others. -/
def lsI (m : List (Ky × (Int × Int) × Nat)) (fst : Bool) (ko vo : List Value) (seen : Array Nat) : Prop :=
  ko.length = 10 ∧ vo.length = 2 ∧ ((fst = true ∧ ∀ r ∈ m, seen.contains r.2.2 = false) ∨ (fst = false ∧ ∃ r ∈ m, ko = kc r.1 ∧ vo = cv r.2.1 ∧ ∀ r' ∈ m, seen.contains r'.2.2 = true → ¬ ahead r'.2.1 r.2.1))

theorem f24_calls (mc : Nat) (m : List (Ky × (Int × Int) × Nat)) (c : Nat) (hm : Mwf m c) (hne : m ≠ []) : Ctr Try.prog 24 #[.map (some mc), .func (.func 25) #[] #[]] [] (fun w => w.heap[mc]? = some (mo encV ctV m c))
    (fun v c' => (∃ r ∈ m, v = encV r.1 ∧ ∀ r' ∈ m, ¬ ahead r'.2.1 r.2.1) ∧ c' = []) := by
  intro w0 hp hro
  have hs : St w0 (ks []) [] w0 := St.start w0
  have hmlt : mc < w0.heap.size := (Array.getElem?_eq_some_iff.1 hro).1
  have hmc : ∀ {ls w}, St w0 (ks []) ls w → w.heap[mc]? = some (mo encV ctV m c) := fun hs => (hs.old mc hmlt (by simp [ks])).trans hro
  refine calls_W (n := 27) Try.func24 rfl Try.ntmps24 (by simp) ?_
  refine W_seq ?_
  -- region 0
  refine W_region (by decide +kernel) ?_
  refine sq_e rfl (o_alloc hs ty28 ?_); intro b0 w hs
  refine sq_z ?_
  refine W_seq ?_
  -- region 1
  refine W_region (by decide +kernel) ?_
  refine sq_e rfl (o_alloc hs ty28 ?_); intro b1 w hs
  refine sq_z ?_
  refine W_seq ?_
  -- region 2
  refine W_region (by decide +kernel) ?_
  refine sq_e rfl (o_alloc hs ty58 ?_); intro b2 w hs
  refine sq_z ?_
  refine W_seq ?_
  -- region 3
  refine W_region (by decide +kernel) ?_
  refine sq_r r_assign rfl ?_
  refine sq_z ?_
  refine W_seq ?_
  refine W_seq ?_
  -- region 4
  refine W_region (by decide +kernel) ?_
  refine sq_r r_move rfl ?_
  refine sq_e rfl (o_range Try.underlying51 hs rfl (hmc hs) ?_); intro it w hs
  refine sq_z ?_
  refine W_block ?_ -- 0
  -- LOOP
  refine W_loop (fun (seen : Array Nat) f w => ∃ f' fst ko vo, f = ov [(1, .func (.func 25) #[] #[]), (4, .pointer (some ⟨b0, 0, none⟩)), (5, .pointer (some ⟨b1, 0, none⟩)), (6, .pointer (some ⟨b2, 0, none⟩)), (7, .bool fst), (11, .pointer (some ⟨it, 0, none⟩))] f' ∧
      St w0 (ks []) (lsC b0 b1 b2 it mc c ko vo seen) w ∧ lsI m fst ko vo seen) (fun seen => (m.filter fun x => !seen.contains x.2.2).length) #[] ?_ ?_
  · exact ⟨_, true, _, _, ov_self ⟨rfl, rfl, rfl, rfl, rfl, rfl, trivial⟩, hs, rfl, rfl, .inl ⟨rfl, fun r _ => by simp⟩⟩
  rintro seen f w ⟨f', fst, ko, vo, rfl, hs, hk10, hv2, hI⟩
  refine W_seq ?_
  -- region 5
  refine W_region (by decide +kernel) ?_
  refine sq_e rfl (o_next (i := 3) hs rfl rfl (hmc hs) hm.lt (Nat.le_refl _) ?_ ?_)
  · -- nothing is left
    intro hall
    refine sq_r (r_extract rfl rfl) rfl ?_
    refine sq_z ?_
    refine W_seq ?_
    refine W_cond rfl rfl (fun hc => ?_) (fun hc => ?_)
    · cases hc
    refine W_exit ?_ -- 0
    refine W_seq ?_
    -- region 9
    obtain ⟨r0, hr0⟩ := List.exists_mem_of_ne_nil m hne
    rcases hI with ⟨_, hI⟩ | ⟨rfl, r, hr, rfl, rfl, hI⟩
    · have := hI r0 hr0; rw [hall r0 hr0] at this; cases this
    refine W_region (by decide +kernel) ?_
    refine sq_r (r_loadN rfl ty28 (kc_len _) (At.of_block (hs.own (i := 1) rfl) (kc_all _))) rfl ?_
    refine sq_e rfl (o_store (i := 0) (vs := kc r.1) hs rfl rfl (by rw [kc_len]; exact ty28) rfl (kc_one _) (by simp [kc_len]) ?_); intro w hs
    refine sq_z ?_
    refine W_ret ?_
    refine retC rfl (by decide) rfl (hs.own (i := 0) rfl) (by simp only [spl, List.length_append, List.length_take, List.length_drop, kc_len]; exact ty28) ?_
    refine fin hs ⟨⟨r, hr, ?_, fun r' hr' => hI r' hr' (hall r' hr')⟩, rfl⟩ (by simp)
    have e : spl [.int .i64 0, .int .i64 0, .int .i64 0, .int .i64 0, .int .i64 0, .int .i64 0, .int .i64 0, .int .i64 0, .int .i64 0, .int .i64 0] 0 (kc r.1) = kc r.1 := by
      unfold spl
      rw [List.drop_eq_nil_of_le (by rw [kc_len]; simp)]
      simp
    rw [e]; rfl
  · -- an entry
    intro r hr hnot w hs
    refine sq_r (r_extract rfl rfl) rfl ?_
    refine sq_z ?_
    refine W_seq ?_
    refine W_cond rfl rfl (fun hc => ?_) (fun hc => ?_)
    · refine W_skip ?_
      refine W_block ?_ -- 1
      refine W_seq ?_
      -- region 6
      refine W_region (by decide +kernel) ?_
      refine sq_r (r_entry rfl (hs.own (i := 3) rfl) (hmc hs) hr hm.born) rfl ?_
      refine sq_r (r_extract rfl rfl) rfl ?_
      refine sq_r (r_extract rfl rfl) rfl ?_
      refine sq_e rfl (o_alloc hs ty28 ?_); intro b3 w hs
      refine sq_e rfl (o_alloc hs ty58 ?_); intro b4 w hs
      refine sq_e rfl (o_store (i := 4) (vs := kc r.1) hs rfl rfl (by rw [kc_len]; exact ty28) rfl (kc_one _) (by simp [kc_len]) ?_); intro w hs
      refine sq_e rfl (o_store (i := 5) (vs := cv r.2.1) hs rfl rfl ty58 rfl (by simp [cv, Value.oneCell']) (by simp [cv]) ?_); intro w hs
      have e3 : spl [.int .i64 0, .int .i64 0, .int .i64 0, .int .i64 0, .int .i64 0, .int .i64 0, .int .i64 0, .int .i64 0, .int .i64 0, .int .i64 0] 0 (kc r.1) = kc r.1 := by
        unfold spl
        rw [List.drop_eq_nil_of_le (by rw [kc_len]; simp)]
        simp
      have hs : St w0 (ks []) (lsC b0 b1 b2 it mc c ko vo (seen.push r.2.2) ++ [[(b3, cb (kc r.1) 28)], [(b4, cb (cv r.2.1) 58)]]) w := by
        rw [← e3]; exact hs
      refine sq_z ?_
      -- the end of a round, where the entry in hand is the new one, or stays
      have hround : ∀ (f : Fm) (w : World) (ko' vo' : List Value), f 1 = .func (.func 25) #[] #[] → f 4 = .pointer (some ⟨b0, 0, none⟩) → f 5 = .pointer (some ⟨b1, 0, none⟩) → f 6 = .pointer (some ⟨b2, 0, none⟩) → f 7 = .bool false → f 11 = .pointer (some ⟨it, 0, none⟩) →
          St w0 (ks []) (lsC b0 b1 b2 it mc c ko' vo' (seen.push r.2.2) ++ [[(b3, cb (kc r.1) 28)], [(b4, cb (cv r.2.1) 58)]]) w → lsI m false ko' vo' (seen.push r.2.2) →
          ∃ g', (∃ f' fst ko vo, f = ov [(1, .func (.func 25) #[] #[]), (4, .pointer (some ⟨b0, 0, none⟩)), (5, .pointer (some ⟨b1, 0, none⟩)), (6, .pointer (some ⟨b2, 0, none⟩)), (7, .bool fst), (11, .pointer (some ⟨it, 0, none⟩))] f' ∧
            St w0 (ks []) (lsC b0 b1 b2 it mc c ko vo g') w ∧ lsI m fst ko vo g') ∧ (m.filter fun x => !g'.contains x.2.2).length < (m.filter fun x => !seen.contains x.2.2).length :=
        fun f w ko' vo' h1 h4 h5 h6 h7 h11 hs hI => ⟨seen.push r.2.2, ⟨f, false, ko', vo', ov_self ⟨h1, h4, h5, h6, h7, h11, trivial⟩, hs.mask [true, true, true, true], hI⟩, left_less hr hnot⟩
      refine W_seq ?_
      -- region 7
      refine W_region (by decide +kernel) ?_
      refine sq_r r_move rfl ?_
      refine sq_r r_move rfl ?_
      rcases hI with ⟨rfl, hI⟩ | ⟨rfl, rk, hrk, rfl, rfl, hI⟩
      · -- the first one
        refine sq_n rfl ?_
        refine sq_n rfl ?_
        refine sq_n rfl ?_
        refine sq_n rfl ?_
        refine sq_r (r_pick rfl) rfl ?_
        refine sq_z ?_
        refine W_cond rfl rfl (fun hc => ?_) (fun hc => ?_)
        · -- region 8 DRAWS
          refine W_drawM hs Try.mixed [true, false, false, true, true, true] [0, 0, 1, 7, 15] [2, 3] [0, 1, 2, 3, 4] (by decide +kernel) ?_
          intro w hs; have hR := hs.mask [true, false, false, true, true, true]
          refine dq_r hR rfl rfl rfl (fun _ w _ _ hR => r_loadN rfl ty28 (kc_len _) (At.of_block (hR.own (i := 4) rfl) (kc_all _))) ?_
          refine dq_r hR rfl rfl rfl (fun _ w _ _ hR => r_loadN (vs := cv r.2.1) rfl ty58 rfl (At.of_block (hR.own (i := 5) rfl) rfl)) ?_
          refine dq_e hR rfl rfl rfl (o_store (i := 1) (vs := kc r.1) hs rfl rfl (by rw [kc_len]; exact ty28) rfl (kc_one _) (by simp [kc_len, hk10]) ?_); intro w hs
          have hR := hs.mask [true, false, false, true, true, true]
          refine dq_e hR rfl rfl rfl (o_store (i := 2) (vs := cv r.2.1) hs rfl rfl ty58 rfl (by simp [cv, Value.oneCell']) (by simp [cv, hv2]) ?_); intro w hs
          have hR := hs.mask [true, false, false, true, true, true]
          refine dq_r hR rfl rfl rfl (fun _ w _ _ hR => r_assign) ?_
          refine dq_z hR ?_
          refine hround _ w (kc r.1) (cv r.2.1) rfl rfl rfl rfl rfl rfl ?_ ⟨kc_len _, rfl, .inr ⟨rfl, r, hr, rfl, rfl, fun r' hr' hs' => ?_⟩⟩
          · have e1 : spl ko 0 (kc r.1) = kc r.1 := by unfold spl; rw [List.drop_eq_nil_of_le (by rw [kc_len, hk10]; simp)]; simp
            have e2 : spl vo 0 (cv r.2.1) = cv r.2.1 := by unfold spl; rw [List.drop_eq_nil_of_le (by rw [hv2]; simp [cv])]; simp
            have h := hs
            rw [e1, e2] at h
            exact h
          · rw [contains_push, hI r' hr'] at hs'
            have : r'.2.2 = r.2.2 := by simpa using hs'
            have hb : r' = r := born_eq hm.born hr' hr this
            subst hb
            exact ahead_irrefl _
        · cases hc
      · -- one is in hand
        refine sq_r r_move rfl ?_ /- GUARD 1 False -/
        refine sq_r (r_loadN (vs := cv r.2.1) rfl ty58 rfl (At.of_block (hs.own (i := 5) rfl) rfl)) rfl ?_ /- GUARD 1 False -/
        refine sq_r (r_loadN (vs := cv rk.2.1) rfl ty58 rfl (At.of_block (hs.own (i := 2) rfl) rfl)) rfl ?_ /- GUARD 1 False -/
        refine sq_e rfl (o_call0 (h := 25) (by kernel_rfl) rfl rfl (f25_calls r.2.1 rk.2.1) hs trivial ?_) /- GUARD 1 False -/
        rintro v c' w ⟨rfl, rfl⟩ hs
        refine sq_r (r_pick rfl) rfl ?_
        refine sq_z ?_
        have hsame : ∀ r' ∈ m, (seen.push r.2.2).contains r'.2.2 = true → seen.contains r'.2.2 = true ∨ r' = r := fun r' hr' h => by
          rw [contains_push] at h
          rcases Bool.or_eq_true_iff.1 h with h | h
          · exact .inl h
          · refine .inr ?_
            have this : r'.2.2 = r.2.2 := by simpa using h
            exact born_eq hm.born hr' hr this
        refine W_cond rfl rfl (fun hc => ?_) (fun hc => ?_)
        · have ha : ahead r.2.1 rk.2.1 := of_decide_eq_true hc
          refine W_drawM hs Try.mixed [true, false, false, true, true, true] [0, 0, 1, 7, 15] [2, 3] [0, 1, 2, 3, 4] (by decide +kernel) ?_
          intro w hs; have hR := hs.mask [true, false, false, true, true, true]
          refine dq_r hR rfl rfl rfl (fun _ w _ _ hR => r_loadN rfl ty28 (kc_len _) (At.of_block (hR.own (i := 4) rfl) (kc_all _))) ?_
          refine dq_r hR rfl rfl rfl (fun _ w _ _ hR => r_loadN (vs := cv r.2.1) rfl ty58 rfl (At.of_block (hR.own (i := 5) rfl) rfl)) ?_
          refine dq_e hR rfl rfl rfl (o_store (i := 1) (vs := kc r.1) hs rfl rfl (by rw [kc_len]; exact ty28) rfl (kc_one _) (by simp [kc_len]) ?_); intro w hs
          have hR := hs.mask [true, false, false, true, true, true]
          refine dq_e hR rfl rfl rfl (o_store (i := 2) (vs := cv r.2.1) hs rfl rfl ty58 rfl (by simp [cv, Value.oneCell']) (by simp [cv]) ?_); intro w hs
          have hR := hs.mask [true, false, false, true, true, true]
          refine dq_r hR rfl rfl rfl (fun _ w _ _ hR => r_assign) ?_
          refine dq_z hR ?_
          refine hround _ w (kc r.1) (cv r.2.1) rfl rfl rfl rfl rfl rfl ?_ ⟨kc_len _, rfl, .inr ⟨rfl, r, hr, rfl, rfl, fun r' hr' hs' => ?_⟩⟩
          · have e1 : spl (kc rk.1) 0 (kc r.1) = kc r.1 := by unfold spl; rw [List.drop_eq_nil_of_le (by rw [kc_len, kc_len]; simp)]; simp
            have h := hs.mask [true, true, true, true, true, true]
            rw [e1] at h
            exact h
          · rcases hsame r' hr' hs' with h | rfl
            · exact fun h' => hI r' hr' h (ahead_trans h' ha)
            · exact ahead_irrefl _
        · have ha : ¬ ahead r.2.1 rk.2.1 := of_decide_eq_false hc
          refine W_skip ?_
          refine hround _ w (kc rk.1) (cv rk.2.1) rfl rfl rfl rfl rfl rfl (hs.mask [true, true, true, true, true, true]) ⟨kc_len _, rfl, .inr ⟨rfl, rk, hrk, rfl, rfl, fun r' hr' hs' => ?_⟩⟩
          rcases hsame r' hr' hs' with h | rfl
          · exact hI r' hr' h
          · exact ha
    · cases hc

end Go.Proofs.Ytcdlbgmmogccaaa
