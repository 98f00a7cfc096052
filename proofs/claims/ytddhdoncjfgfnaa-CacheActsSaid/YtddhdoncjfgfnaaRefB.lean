/-
  Layer 15: the document's cache: Get, a trace goes (gone), a note of a place (note). Conditions: they are few.
-/
import Derived.Test.YtddhdoncjfgfnaaRefA
namespace Go.Proofs.Ytddhdoncjfgfnaa
open Go.Eng

theorem rowC_tr (p : Int × LT) : ((rowC p).drop 1).take 17 = trC p.2 := by
  simp only [rowC, List.drop_succ_cons, List.drop_zero]
  rw [← trC_len p.2, List.take_length]

set_option maxRecDepth 20000 in
set_option maxHeartbeats 1000000 in
theorem f34_calls (rb : Nat) (pv : Value) (r : R15) (c : Ck) (hc : RK rb pv r c) (k : Ky) (hn : r.rows.length ≤ 2000000) : Ctr Try.prog 34 #[.pointer (some ⟨rb, 0, none⟩), encV k] [] (Hp c)
    (fun v d => ((rfind r k < 0 ∧ v = .tuple #[evT zLT, .int .i64 0, .bool false]) ∨ ∃ (i : Nat) (p : Int × LT), rfind r k = i ∧ r.rows[i]? = some p ∧ v = .tuple #[evT p.2, .int .i64 p.1, .bool true]) ∧ d = []) := by
  intro w0 hp hro
  have hs : St w0 (ks []) [] w0 := St.start w0
  have hC : ∀ {w : World} {cs : List Ck}, St w0 (ks []) cs w → Hp c w := fun hs => hro.old hs (by simp [ks])
  have hmax : 20000000000000 ≤ maxLen := by decide +kernel
  have hc0 := hc
  obtain ⟨rv, nv, rc, nc, hce, hrs, hns, hr1⟩ := hc0
  obtain ⟨ra, rcap, rfl⟩ := hrs.len
  obtain ⟨na, ncap, rfl⟩ := hns.len
  have hB : ∀ {w : World}, Hp c w → w.heap[rb]? = some (cb (rbx (.slice ra r.rows.length rcap) (.slice na r.notes.length ncap) pv r) 58) := fun h => h.has (rb, cb (rbx (.slice ra r.rows.length rcap) (.slice na r.notes.length ncap) pv r) 58) (by rw [hce]; simp)
  have hRr : ∀ {w : World}, Hp c w → RdG 18 rowC (· ∈ ks rc) (.slice ra r.rows.length rcap) r.rows w := fun h => sl_rd rowC_len (by decide) hrs (by rw [hce] at h; exact h.right.left)
  have hRn : ∀ {w : World}, Hp c w → RdG 4 ntC (· ∈ ks nc) (.slice na r.notes.length ncap) r.notes w := fun h => sl_rd ntC_len (by decide) hns (by rw [hce] at h; exact h.right.right)
  refine calls_W (n := 30) Try.func34 rfl Try.ntmps34 (by simp) ?_
  refine W_seq ?_
  -- region 0
  refine W_region (by decide +kernel) ?_
  refine sq_e rfl (o_box (cs := ic k.toList) hs rfl ?_); intro b3 w hs
  refine sq_e rfl (o_alloc hs ty33 ?_); intro b4 w hs
  refine sq_r r_assign rfl ?_
  refine sq_r r_assign rfl ?_
  refine sq_z ?_
  have hs : St w0 (ks []) [[(b3, cb (ic k.toList) 26)], [(b4, cb (trC zLT) 33)]] w := hs
  refine W_seq ?_
  -- region 1
  refine W_region (by decide +kernel) ?_
  refine sq_r r_move rfl ?_
  refine sq_r (r_loadN (vs := ic k.toList) rfl ty26 (by simp) (At.of_block (hs.own (i := 0) rfl) (ic_all _))) rfl ?_
  refine sq_e rfl (o_callN cb44 rfl rfl (Post := fun v _ => v = .int .i64 (rfind r k)) (f44_calls rb pv r c hc k hn) hs (hC hs) ?_)
  rintro u w rfl hs
  refine sq_r r_assign rfl ?_
  refine sq_z ?_
  refine W_seq ?_
  refine W_seq ?_
  -- region 2
  refine W_region (by decide +kernel) ?_
  refine sq_r r_move rfl ?_
  refine sq_r (r_cmp rfl rfl rfl) rfl ?_
  refine sq_z ?_
  refine W_cond rfl rfl (fun hz => ?_) (fun hz => ?_)
  · have hz := of_decide_eq_true hz
    refine W_seq ?_
    -- region 3
    refine W_region (by decide +kernel) ?_
    refine sq_r (r_build (v := evT zLT) (by kernel_rfl)) rfl ?_
    refine sq_e rfl (o_store (i := 1) (vs := trC zLT) hs rfl rfl ty33 rfl (RdT.z (B := fun _ => True) (w := w)).one (by simp [trC_len]) ?_); intro w hs
    refine sq_r r_assign rfl ?_
    refine sq_r r_assign rfl ?_
    refine sq_z ?_
    have hs : St w0 (ks []) [[(b3, cb (ic k.toList) 26)], [(b4, cb (trC zLT) 33)]] w := hs
    refine W_ret ?_
    repeat with_reducible first | refine thenQ_ret ?_ | refine blockQ_ret ?_
    exact retC2 (T := 33) (v := .int .i64 0) (v2 := .bool false) rfl (by decide) (by decide) (by decide) rfl (hs.own (i := 1) rfl) ty33 rfl rfl (fin (c' := []) hs ⟨.inl ⟨hz, rfl⟩, rfl⟩ (by simp))
  have hz := of_decide_eq_false hz
  obtain ⟨i, p, hri, hp⟩ : ∃ (i : Nat) (p : Int × LT), rfind r k = i ∧ r.rows[i]? = some p := by
    unfold rfind at hz ⊢
    cases h : r.rows.findIdx? (rowP k) with
    | none => rw [h] at hz; exact absurd (by decide) hz
    | some i =>
      obtain ⟨hi, _⟩ := List.findIdx?_eq_some_iff_getElem.1 h
      exact ⟨i, _, rfl, List.getElem?_eq_getElem hi⟩
  have hil := (List.getElem?_eq_some_iff.1 hp).1
  obtain ⟨b, off, rfl, _, _⟩ := (hRr (hC hs)).get hp
  have h1 := hr1 p (List.mem_of_getElem? hp)
  have hat : ∀ {w : World} {cs : List Ck}, St w0 (ks []) cs w → At w b (off + ((rfind r k)).toNat * 18) (rowC p) := fun hs => by rw [hri]; exact (hRr (hC hs)).get2 hp
  refine W_skip ?_
  refine W_seq ?_
  -- region 4 DRAWS
  refine W_drawM hs Try.mixed [true, false] [0, 1, 3, 7, 0, 31, 63, 127, 0, 256, 768, 1792, 0, 7936, 16128, 32512, 255, 131071, 262143] [16] [0, 1, 2, 3, 4, 5, 6, 7, 8, 9, 10, 11, 12, 13, 14, 15, 16, 17, 18] (by decide +kernel) ?_
  intro w hs; have hR := hs.mask [true, false]
  refine dq_r hR rfl rfl rfl (fun _ w _ _ hR => r_move) ?_
  refine dq_r hR rfl rfl rfl (fun _ w _ _ hR => r_nilCheck rfl) ?_
  refine dq_r hR rfl rfl rfl (fun _ w _ _ hR => r_field rfl fa58_0) ?_
  refine dq_r hR rfl rfl rfl (fun _ w _ _ hR => r_load1 rfl ty55 (At.one (hB (hC hR)) rfl)) ?_
  refine dq_r hR rfl rfl rfl (fun _ w _ _ hR => r_move) ?_
  refine dq_r hR rfl rfl rfl (fun _ w _ _ hR => r_index rfl rfl sl55 (by omega) (by omega)) ?_
  refine dq_r hR rfl rfl rfl (fun _ w _ _ hR => r_field rfl fa60_1) ?_
  refine dq_r hR rfl rfl rfl (fun _ w _ _ hR => r_loadN rfl ty33 (trC_len p.2) ((hat hR).sub 1 (by rw [trC_len]; exact rowC_tr p))) ?_
  refine dq_r hR rfl rfl rfl (fun _ w _ _ hR => r_move) ?_
  refine dq_r hR rfl rfl rfl (fun _ w _ _ hR => r_nilCheck rfl) ?_
  refine dq_r hR rfl rfl rfl (fun _ w _ _ hR => r_field rfl fa58_0) ?_
  refine dq_r hR rfl rfl rfl (fun _ w _ _ hR => r_load1 rfl ty55 (At.one (hB (hC hR)) rfl)) ?_
  refine dq_r hR rfl rfl rfl (fun _ w _ _ hR => r_move) ?_
  refine dq_r hR rfl rfl rfl (fun _ w _ _ hR => r_index rfl rfl sl55 (by omega) (by omega)) ?_
  refine dq_r hR rfl rfl rfl (fun _ w _ _ hR => r_field rfl fa60_0) ?_
  refine dq_r hR rfl rfl rfl (fun _ w _ _ hR => r_load1 rfl ty3 (hat hR 0 _ rfl)) ?_
  refine dq_e hR rfl rfl rfl (o_store (i := 1) (vs := trC p.2) hs rfl rfl (by rw [trC_len]; exact ty33) rfl h1 (by simp [trC_len]) ?_); intro w hs
  have hR := hs.mask [true, false]
  refine dq_r hR rfl rfl rfl (fun _ w _ _ hR => r_assign) ?_
  refine dq_r hR rfl rfl rfl (fun _ w _ _ hR => r_assign) ?_
  refine dq_z hR ?_
  have hs : St w0 (ks []) [[(b3, cb (ic k.toList) 26)], [(b4, cb (trC p.2) 33)]] w := hs.cast (by rw [show spl (trC zLT) 0 (trC p.2) = trC p.2 from spl_all (by simp [trC_len])]; simp)
  refine W_ret ?_
  exact retC2 (T := 33) (v := .int .i64 p.1) (v2 := .bool true) rfl (by decide) (by decide) (by decide) rfl (hs.own (i := 1) rfl) (by rw [trC_len]; exact ty33) rfl rfl (fin (c' := []) hs ⟨.inr ⟨i, p, hri, hp, rfl⟩, rfl⟩ (by simp))

/-! ### gone -/
def fix (id : Int) (n : Nt) : Nt := if n.to = id then { n with to := 0 } else n
def keepN (id : Int) (n : Nt) : Option Nt := if n.id = id then none else some (fix id n)
def goneR (r : R15) (i : Nat) (id : Int) : R15 := { r with rows := r.rows.take i ++ r.rows.drop (i + 1), notes := r.notes.filterMap (keepN id) }
theorem keep_take {id : Int} {ns : List Nt} {j : Nat} {n : Nt} (h : ns[j]? = some n) : (ns.take (j + 1)).filterMap (keepN id) = (ns.take j).filterMap (keepN id) ++ (keepN id n).toList := by
  rw [List.take_add_one, h, List.filterMap_append]
  cases hk : keepN id n <;> simp [hk]

set_option maxRecDepth 20000 in
set_option maxHeartbeats 2000000 in
theorem f45_calls (rb : Nat) (pv : Value) (r : R15) (c : Ck) (hc : RK rb pv r c) (i : Nat) (p : Int × LT) (hpi : r.rows[i]? = some p) (hn : r.rows.length ≤ 2000000) (hn2 : r.notes.length ≤ 4000000000000) :
    Ctr Try.prog 45 #[.pointer (some ⟨rb, 0, none⟩), .int .i64 i] c (fun _ => True) (fun _ c' => RK rb pv (goneR r i p.1) c') := by
  intro w0 hp hro
  have hmax : 20000000000000 ≤ maxLen := by decide +kernel
  have hc0 := hc
  obtain ⟨rv, nv, rc, nc, hce, hrs, hns, hr1⟩ := hc0
  obtain ⟨ra, rcap, rfl⟩ := hrs.len
  obtain ⟨na, ncap, rfl⟩ := hns.len
  have hB : ∀ {w : World}, Hp c w → w.heap[rb]? = some (cb (rbx (.slice ra r.rows.length rcap) (.slice na r.notes.length ncap) pv r) 58) := fun h => h.has (rb, cb (rbx (.slice ra r.rows.length rcap) (.slice na r.notes.length ncap) pv r) 58) (by rw [hce]; simp)
  have hRr : ∀ {w : World}, Hp c w → RdG 18 rowC (· ∈ ks rc) (.slice ra r.rows.length rcap) r.rows w := fun h => sl_rd rowC_len (by decide) hrs (by rw [hce] at h; exact h.right.left)
  have hRn : ∀ {w : World}, Hp c w → RdG 4 ntC (· ∈ ks nc) (.slice na r.notes.length ncap) r.notes w := fun h => sl_rd ntC_len (by decide) hns (by rw [hce] at h; exact h.right.right)
  have hs : St w0 (ks c) [[(rb, cb (rbx (.slice ra r.rows.length rcap) (.slice na r.notes.length ncap) pv r) 58)], rc, nc] w0 := hp.st.cast (by rw [hce]; simp)
  have hil := (List.getElem?_eq_some_iff.1 hpi).1
  obtain ⟨b, rcap', rrest, hrv, hrce, _, _⟩ := hrs.get rowC_len hpi (by decide)
  simp only [Value.slice.injEq, true_and] at hrv
  obtain ⟨rfl, rfl⟩ := hrv
  have hrc : r.rows.length ≤ rcap ∧ rcap ≤ maxLen := by
    rcases hrs.2 with ⟨h1, _⟩ | ⟨_, _, _, h1, _, h3, h4, _⟩
    · cases h1
    · cases h1; exact ⟨h3, h4⟩
  have hat : ∀ {w : World}, Hp rc w → At w b 0 (r.rows.flatMap rowC) := fun h => by
    rw [hrce] at h
    exact At.of_block (h.has (b, cb (r.rows.flatMap rowC ++ rrest) 60) (by simp)) (by rw [List.drop_zero, List.take_left])
  have hsplit : r.rows.flatMap rowC = (r.rows.take i).flatMap rowC ++ (rowC p ++ (r.rows.drop (i + 1)).flatMap rowC) := by
    conv => lhs; rw [← List.take_append_drop i r.rows, List.drop_eq_getElem_cons hil, (List.getElem?_eq_some_iff.1 hpi).2]
    rw [List.flatMap_append, List.flatMap_cons]
  have hl1 : ((r.rows.take i).flatMap rowC).length = i * 18 := by rw [cat_len rowC_len, List.length_take]; congr 1; omega
  have hl2 : ((r.rows.drop (i + 1)).flatMap rowC).length = (r.rows.length - (i + 1)) * 18 := by rw [cat_len rowC_len, List.length_drop]
  have hat1 : ∀ {w : World}, Hp rc w → At w b 0 ((r.rows.take i).flatMap rowC) := fun h => by
    have := (hat h).sub 0 (us := (r.rows.take i).flatMap rowC) (by rw [hsplit, List.drop_zero, List.take_left])
    simpa using this
  have hat2 : ∀ {w : World}, Hp rc w → At w b (if rcap = (((i : Int) + 1)).toNat then 0 else 0 + (((i : Int) + 1)).toNat * 18) ((r.rows.drop (i + 1)).flatMap rowC) := fun h => by
    have he : (((i : Int) + 1)).toNat = i + 1 := by omega
    rw [he]
    split
    · rename_i hcp
      intro j v hj
      have := (List.getElem?_eq_some_iff.1 hj).1
      rw [hl2] at this
      omega
    · have := (hat h).sub ((i + 1) * 18) (us := (r.rows.drop (i + 1)).flatMap rowC) (by
        rw [hsplit, ← List.append_assoc, List.drop_left' (by rw [List.length_append, hl1, rowC_len]; omega), List.take_length])
      simpa using this
  have hone1 : ∀ u ∈ (r.rows.take i).flatMap rowC, u.oneCell' = true := fun u hu => by
    obtain ⟨q, hq, hu⟩ := List.mem_flatMap.1 hu
    exact rowC_one (hr1 q (List.mem_of_mem_take hq)) u hu
  have hone2 : ∀ u ∈ (r.rows.drop (i + 1)).flatMap rowC, u.oneCell' = true := fun u hu => by
    obtain ⟨q, hq, hu⟩ := List.mem_flatMap.1 hu
    exact rowC_one (hr1 q (List.mem_of_mem_drop hq)) u hu
  have hcell : ∀ {w : World}, Hp rc w → w.cell? ⟨b, 0 + ((i : Int)).toNat * 18 + 0, none⟩ = some (.int .i64 p.1) := fun h => by
    have := (sl_rd rowC_len (by decide) hrs h).get2 hpi
    exact this 0 _ rfl
  refine calls_W (n := 61) Try.func45 rfl Try.ntmps45 (by simp) ?_
  refine W_seq ?_
  -- region 0
  refine W_region (by decide +kernel) ?_
  refine sq_r r_move rfl ?_
  refine sq_r (r_nilCheck rfl) rfl ?_
  refine sq_r (r_field rfl fa58_0) rfl ?_
  refine sq_r (r_load1 rfl ty55 (At.one (hs.own (i := 0) rfl) rfl)) rfl ?_
  refine sq_r r_move rfl ?_
  refine sq_r (r_index rfl rfl sl55 (by omega) (by omega)) rfl ?_
  refine sq_r (r_field rfl fa60_0) rfl ?_
  refine sq_r (r_load1 rfl ty3 (hcell (hs.at (i := 1) rfl))) rfl ?_
  refine sq_r r_assign rfl ?_
  refine sq_z ?_
  have hs : St w0 (ks c) [[(rb, cb (rbx (.slice (some ⟨b, 0, none⟩) r.rows.length rcap) (.slice na r.notes.length ncap) pv r) 58)], rc, nc, []] w0 := hs.cast (by simp)
  refine W_mid (M := fun f w => ∃ g rv2 rc2, f = ov [(0, .pointer (some ⟨rb, 0, none⟩)), (4, .int .i64 p.1)] g ∧ Sl 60 18 rv2 (goneR r i p.1).rows.length ((goneR r i p.1).rows.flatMap rowC) rc2 ∧
    St w0 (ks c) [[(rb, cb (rbx rv2 (.slice na r.notes.length ncap) pv r) 58)], nc, rc2] w) ?_ (fun f w hM => ?_)
  · -- region 1 DRAWS
    refine W_drawT hs Try.mixed [true, true, true, false] [false, true, true, false] 3 [0, 0, 2, 6, 14, 0, 62, 126, 0, 256, 768, 1792, 0, 4096, 16128, 32766, 65535, 131071, 262143] [7, 15, 18] [0, 1, 2, 3, 4, 5, 6, 8, 9, 10, 11, 12, 13, 14, 7, 15, 16, 17, 18] (by decide +kernel) ?_
    intro w hs; have hR := hs.mask [true, true, true, false]
    refine dq_rp hR rfl rfl rfl (fun w => r_move) ?_
    refine dq_rp hR rfl rfl rfl (fun w => r_move) ?_
    refine dq_rp hR rfl rfl rfl (fun w => r_nilCheck rfl) ?_
    refine dq_rp hR rfl rfl rfl (fun w => r_field rfl fa58_0) ?_
    refine dq_r1 hR rfl rfl (by decide) rfl (fun w hR => r_load1 rfl ty55 (At.one (hR.own (i := 0) rfl) rfl)) ?_
    refine dq_rp hR rfl rfl rfl (fun w => r_move) ?_
    refine dq_rp hR rfl rfl rfl (fun w => r_sliceHi sl55 rfl rfl (by omega) (by omega)) ?_
    refine dq_rp hR rfl rfl rfl (fun w => r_move) ?_
    refine dq_rp hR rfl rfl rfl (fun w => r_nilCheck rfl) ?_
    refine dq_rp hR rfl rfl rfl (fun w => r_field rfl fa58_0) ?_
    refine dq_r1 hR rfl rfl (by decide) rfl (fun w hR => r_load1 rfl ty55 (At.one (hR.own (i := 0) rfl) rfl)) ?_
    refine dq_rp hR rfl rfl rfl (fun w => r_move) ?_
    refine dq_rp hR rfl rfl rfl (fun w => r_add (c := (i : Int) + 1) rfl rfl (wrap_small (by omega) (by omega))) ?_
    refine dq_rp hR rfl rfl rfl (fun w => r_sliceLo (l := (i : Int) + 1) sl55 rfl rfl (by omega) (by omega)) ?_
    refine dq_e hR rfl rfl rfl (o_append (i := 3) (m := i) (news := (r.rows.take i).flatMap rowC) (soff := 0) (sb := b) (scap := rcap) sl55 ty60 rfl hs rfl rfl rfl (Sl.nil 60 18) hl1 (hat1 (hs.at (i := 1) rfl)) hone1 (by omega) (by omega) ?_)
    intro v1 c1 w hv1 hs
    have hR := hs.mask [true, true, true, false]
    refine dq_e hR rfl rfl rfl (o_append (i := 3) (n := 0 + i) (m := r.rows.length - ((i : Int) + 1).toNat) (news := (r.rows.drop (i + 1)).flatMap rowC) (soff := (if rcap = (((i : Int) + 1)).toNat then 0 else 0 + (((i : Int) + 1)).toNat * 18)) (sb := b) (scap := rcap - ((i : Int) + 1).toNat) sl55 ty60 rfl hs rfl rfl rfl hv1 (by rw [hl2]; congr 1) (hat2 (hs.at (i := 1) rfl)) hone2 (by omega) (by omega) ?_)
    intro v2 c2 w hv2 hs
    have hR := hs.mask [true, true, true, false]
    refine dq_rp hR rfl rfl rfl (fun w => r_nilCheck rfl) ?_
    refine dq_rp hR rfl rfl rfl (fun w => r_field rfl fa58_0) ?_
    refine dq_e hR rfl rfl rfl (o_store (i := 0) (vs := [v2]) hs rfl (sl_one hv2).2 ty55 rfl (by simpa using (sl_one hv2).1) (by simp [rbx]) ?_); intro w hs
    have hR := hs.mask [false, true, true, false]
    refine dq_z hR ?_
    have hlen : 0 + i + (r.rows.length - ((i : Int) + 1).toNat) = (goneR r i p.1).rows.length := by
      simp only [goneR, List.length_append, List.length_take, List.length_drop]
      omega
    rw [hlen, List.nil_append, ← List.flatMap_append] at hv2
    exact ⟨_, v2, c2, ov_self ⟨rfl, rfl, trivial⟩, hv2, (hs.mask [true, false, true, true]).cast (by simp [zipMask, spl, rbx])⟩
  obtain ⟨g, rv2, rc2, rfl, hrs2, hs⟩ := hM
  -- region 2
  refine W_seq ?_
  refine W_region (by decide +kernel) ?_
  refine sq_r r_assign rfl ?_
  refine sq_z ?_
  refine W_seq ?_
  refine W_seq ?_
  -- region 3
  refine W_region (by decide +kernel) ?_
  refine sq_r r_move rfl ?_
  refine sq_r (r_nilCheck rfl) rfl ?_
  refine sq_r (r_field rfl fa58_1) rfl ?_
  refine sq_r (r_load1 rfl ty56 (At.one (hs.own (i := 0) rfl) rfl)) rfl ?_
  refine sq_r (r_lenS Try.underlying56 rfl) rfl ?_
  refine sq_r r_move rfl ?_
  refine sq_z ?_
  refine W_block ?_ -- 0
  -- LOOP
  refine W_loop (fun (j : Nat) f w => ∃ g u d, f = ov [(0, .pointer (some ⟨rb, 0, none⟩)), (4, .int .i64 p.1), (5, u), (37, .slice na r.notes.length ncap), (38, .int .i64 r.notes.length), (39, .int .i64 j)] g ∧ j ≤ r.notes.length ∧ Sl 100 4 u ((r.notes.take j).filterMap (keepN p.1)).length (((r.notes.take j).filterMap (keepN p.1)).flatMap ntC) d ∧
    St w0 (ks c) [[(rb, cb (rbx rv2 (.slice na r.notes.length ncap) pv r) 58)], nc, rc2, d] w) (fun j => r.notes.length - j) 0 ?_ ?_
  · exact ⟨_, _, [], ov_self ⟨rfl, rfl, rfl, rfl, rfl, rfl, trivial⟩, Nat.zero_le _, Sl.nil 100 4, hs.cast (by simp)⟩
  clear hs
  rintro j f w ⟨g, u, d, rfl, hj, hu, hs⟩
  have hul : ((r.notes.take j).filterMap (keepN p.1)).length ≤ j := Nat.le_trans (List.length_filterMap_le _ _) (by rw [List.length_take]; omega)
  refine W_seq ?_
  -- region 4
  refine W_region (by decide +kernel) ?_
  refine sq_r (r_cmp rfl rfl rfl) rfl ?_
  refine sq_z ?_
  refine W_seq ?_
  refine W_cond rfl rfl (fun hd => ?_) (fun hd => ?_)
  · have hlt : j < r.notes.length := by have := of_decide_eq_true hd; omega
    obtain ⟨n, hnj⟩ : ∃ n, r.notes[j]? = some n := ⟨_, List.getElem?_eq_getElem hlt⟩
    have hkt := keep_take (id := p.1) hnj
    obtain ⟨nb, noff, rfl, _, _⟩ := (sl_rd ntC_len (by decide) hns (hs.at (i := 1) rfl)).get hnj
    refine W_skip ?_
    refine W_seq ?_
    refine W_block ?_ -- 1
    refine W_seq ?_
    -- region 5
    refine W_region (by decide +kernel) ?_
    refine sq_r (r_index rfl rfl sl56 (by omega) (by omega)) rfl ?_
    refine sq_r (r_loadN rfl ty100 (ntC_len n) ((sl_rd ntC_len (by decide) hns (hs.at (i := 1) rfl)).get2 hnj)) rfl ?_
    refine sq_e rfl (o_alloc hs ty100 ?_); intro b7 w hs
    refine sq_e rfl (o_store (i := 4) (vs := ntC n) hs rfl rfl ty100 rfl (ntC_one n) (by simp [ntC_len]) ?_); intro w hs
    refine sq_z ?_
    have hs : St w0 (ks c) [[(rb, cb (rbx rv2 (.slice (some ⟨nb, noff, none⟩) r.notes.length ncap) pv r) 58)], nc, rc2, d, [(b7, cb (ntC n) 100)]] w := hs
    refine W_seq ?_
    refine W_seq ?_
    -- region 6
    refine W_region (by decide +kernel) ?_
    refine sq_r (r_field rfl fa100_0) rfl ?_
    refine sq_r (r_load1 rfl ty3 (At.one (v := .int .i64 n.id) (hs.own (i := 4) rfl) rfl)) rfl ?_
    refine sq_r r_move rfl ?_
    refine sq_r (r_cmp rfl rfl rfl) rfl ?_
    refine sq_z ?_
    refine W_cond rfl rfl (fun hg => ?_) (fun hg => ?_)
    · have hg : n.id = p.1 := by simpa using hg
      refine W_exit ?_ -- 1
      -- region 10
      refine W_region (by decide +kernel) ?_
      refine sq_r (r_add rfl rfl (wrap_small (by omega) (by omega))) rfl ?_
      refine sq_r r_move rfl ?_
      refine sq_z ?_
      have hkn : keepN p.1 n = none := by rw [keepN, if_pos hg]
      rw [hkn] at hkt
      simp only [Option.toList_none, List.append_nil] at hkt
      exact ⟨j + 1, ⟨_, u, d, ov_self ⟨rfl, rfl, rfl, rfl, rfl, rfl, trivial⟩, by omega, by rw [hkt]; exact hu, hs.mask [true, true, true, true]⟩, by omega⟩
    have hg : n.id ≠ p.1 := by simpa using hg
    have hkn : keepN p.1 n = some (fix p.1 n) := by rw [keepN, if_neg hg]
    rw [hkn] at hkt
    simp only [Option.toList_some] at hkt
    refine W_skip ?_
    refine W_mid (M := fun f w => ∃ g, f = ov [(0, .pointer (some ⟨rb, 0, none⟩)), (4, .int .i64 p.1), (5, u), (7, .pointer (some ⟨b7, 0, none⟩)), (37, .slice (some ⟨nb, noff, none⟩) r.notes.length ncap), (38, .int .i64 r.notes.length), (39, .int .i64 j)] g ∧ St w0 (ks c) [[(rb, cb (rbx rv2 (.slice (some ⟨nb, noff, none⟩) r.notes.length ncap) pv r) 58)], nc, rc2, d, [(b7, cb (ntC (fix p.1 n)) 100)]] w) ?_ (fun f w hM => ?_)
    · refine W_seq ?_
      -- region 7
      refine W_region (by decide +kernel) ?_
      refine sq_r (r_field rfl fa100_3) rfl ?_
      refine sq_r (r_load1 rfl ty3 (At.one (v := .int .i64 n.to) (hs.own (i := 4) rfl) rfl)) rfl ?_
      refine sq_r r_move rfl ?_
      refine sq_r (r_cmp rfl rfl rfl) rfl ?_
      refine sq_z ?_
      refine W_cond rfl rfl (fun ht => ?_) (fun ht => ?_)
      · have ht : n.to = p.1 := by simpa using ht
        -- region 8
        refine W_region (by decide +kernel) ?_
        refine sq_r (r_field rfl fa100_3) rfl ?_
        refine sq_e rfl (o_store (i := 4) (vs := [.int .i64 0]) hs rfl rfl ty3 rfl (by simp [Value.oneCell']) (by simp [ntC]) ?_); intro w hs
        refine sq_z ?_
        exact ⟨_, ov_self ⟨rfl, rfl, rfl, rfl, rfl, rfl, rfl, trivial⟩, by rw [fix, if_pos ht]; exact hs⟩
      · have ht : n.to ≠ p.1 := by simpa using ht
        refine W_skip ?_
        exact ⟨_, ov_self ⟨rfl, rfl, rfl, rfl, rfl, rfl, rfl, trivial⟩, by rw [fix, if_neg ht]; exact hs⟩
    obtain ⟨g, rfl, hs⟩ := hM
    -- region 9
    refine W_region (by decide +kernel) ?_
    refine sq_r r_move rfl ?_
    refine sq_r (r_loadN rfl ty100 (ntC_len (fix p.1 n)) (At.of_block (hs.own (i := 4) rfl) (by simp))) rfl ?_
    refine sq_e rfl (o_buildN [.agg (ntC (fix p.1 n)).toArray] [ntC (fix p.1 n)] sl56 ty100 hs rfl rfl rfl (by simp [ntC]) (by simp) ?_); intro b9 w hs
    refine sq_e rfl (o_append (i := 3) (m := 1) (news := ntC (fix p.1 n)) (soff := 0) (sb := b9) (scap := 1) sl56 ty100 rfl hs rfl rfl rfl hu (by simp [ntC]) (At.of_block (hs.own (i := 5) rfl) (by simp [ntC])) (ntC_one _) (by omega) (by omega) ?_)
    intro u2 d2 w hu2 hs
    refine sq_r r_assign rfl ?_
    refine sq_z ?_
    -- region 10
    refine W_region (by decide +kernel) ?_
    refine sq_r (r_add rfl rfl (wrap_small (by omega) (by omega))) rfl ?_
    refine sq_r r_move rfl ?_
    refine sq_z ?_
    refine ⟨j + 1, ⟨_, u2, d2, ov_self ⟨rfl, rfl, rfl, rfl, rfl, rfl, trivial⟩, by omega, ?_, hs.mask [true, true, true, true]⟩, by omega⟩
    rw [hkt, List.length_append, List.flatMap_append]
    simpa using hu2
  · have hin : j = r.notes.length := by have := of_decide_eq_false hd; omega
    subst hin
    rw [List.take_length] at hu
    refine W_exit ?_ -- 0
    -- region 11
    refine W_region (by decide +kernel) ?_
    refine sq_r r_move rfl ?_
    refine sq_r r_move rfl ?_
    refine sq_r (r_nilCheck rfl) rfl ?_
    refine sq_r (r_field rfl fa58_1) rfl ?_
    refine sq_e rfl (o_store (i := 0) (vs := [u]) hs rfl (sl_one hu).2 ty56 rfl (by simpa using (sl_one hu).1) (by simp [rbx]) ?_); intro w hs
    refine sq_z ?_
    refine ret0 rfl ?_
    have hs : St w0 (ks c) [[(rb, cb (rbx rv2 u pv (goneR r i p.1)) 58)], nc, rc2, d] w := hs
    refine fin (c' := [(rb, cb (rbx rv2 u pv (goneR r i p.1)) 58)] ++ (rc2 ++ d)) hs ⟨rv2, u, rc2, d, rfl, hrs2, hu, fun q hq => hr1 q ?_⟩ ?_
    · rcases List.mem_append.1 hq with hq | hq
      · exact List.mem_of_mem_take hq
      · exact List.mem_of_mem_drop hq
    · simp only [List.flatten_cons, List.flatten_nil, List.append_nil, List.cons_append, List.nil_append]
      refine List.Sublist.cons_cons _ ?_
      exact List.sublist_append_right _ _

end Go.Proofs.Ytddhdoncjfgfnaa
