/-
  Layer 15: slices.DeleteFunc over ints; a trace is let go (gone); the next number of picks (pick). Conditions: the cache is whole.
-/
import Derived.Test.YtddhdoncjfgfnaaFind
namespace Go.Proofs.Ytddhdoncjfgfnaa
open Go.Eng

theorem st_apart {w0 w : World} {F0 : List Nat} {ls : List Ck} (h : St w0 F0 ls w) {i j : Nat} {c d : Ck} (hij : i < j) (hi : ls[i]? = some c) (hj : ls[j]? = some d) : ∀ b ∈ ks d, b ∉ ks c := by
  have hn := h.nodup
  unfold ks at hn
  rw [List.map_flatten] at hn
  unfold List.Nodup at hn
  rw [List.pairwise_flatten] at hn
  have hp := List.pairwise_iff_getElem.1 hn.2
  obtain ⟨hil, hi⟩ := List.getElem?_eq_some_iff.1 hi
  obtain ⟨hjl, hj⟩ := List.getElem?_eq_some_iff.1 hj
  have h1 := hp i j (by simpa using hil) (by simpa using hjl) hij
  intro b hb hc
  refine h1 b ?_ b ?_ rfl
  · simpa [hi, ks] using hc
  · simpa [hj, ks] using hb

set_option maxRecDepth 20000 in
theorem f39_calls (b3 : Nat) (id x : Int) : Ctr Try.prog 39 #[.int .i64 x, .pointer (some ⟨b3, 0, none⟩)] [] (fun w => w.cell? ⟨b3, 0, none⟩ = some (.int .i64 id)) (fun r c => r = .bool (x == id) ∧ c = []) := by
  intro w0 hp hro
  have hs : St w0 (ks []) [] w0 := St.start w0
  refine calls_W (n := 7) Try.func39 rfl Try.ntmps39 (by simp) ?_
  refine W_seq ?_
  -- region 0
  refine W_region (by decide +kernel) ?_
  refine sq_r r_assign rfl ?_
  refine sq_z ?_
  refine W_seq ?_
  -- region 1
  refine W_region (by decide +kernel) ?_
  refine sq_r r_move rfl ?_
  refine sq_r (r_load1 rfl ty3 hro) rfl ?_
  refine sq_r (r_cmp rfl rfl rfl) rfl ?_
  refine sq_r r_assign rfl ?_
  refine sq_z ?_
  refine W_ret ?_
  exact ret1 (v := .bool (x == id)) rfl (by decide) rfl (fin (c' := []) hs ⟨rfl, rfl⟩ (by simp))

def rest (id : Int) (xs : List Int) : List Int := xs.filter fun x => !(x == id)
/-- Behind the first j: what stays of them stands in front, the others stand as they did. -/
def DelI (id : Int) (xs : List Int) (j : Nat) (m : List Int) : Prop :=
  m.length = xs.length ∧ j ≤ xs.length ∧ (rest id (xs.take j)).length ≤ j ∧ m.take (rest id (xs.take j)).length = rest id (xs.take j) ∧ ∀ k, j ≤ k → m[k]? = xs[k]?
theorem rest_len (id : Int) (xs : List Int) : (rest id xs).length ≤ xs.length := List.length_filter_le _ _
theorem rest_take {id : Int} {xs : List Int} {j : Nat} {x : Int} (hx : xs[j]? = some x) : rest id (xs.take (j + 1)) = rest id (xs.take j) ++ (if x = id then [] else [x]) := by
  rw [List.take_add_one, hx]
  simp only [Option.toList_some, rest, List.filter_append]
  congr 1
  by_cases h : x = id
  · simp [h]
  · simp [h]
theorem DelI.skip {id : Int} {xs m : List Int} {j : Nat} (h : DelI id xs j m) (hx : xs[j]? = some id) : DelI id xs (j + 1) m := by
  obtain ⟨h1, h2, h3, h4, h5⟩ := h
  have e := rest_take (id := id) hx
  rw [if_pos rfl, List.append_nil] at e
  exact ⟨h1, (List.getElem?_eq_some_iff.1 hx).1, by rw [e]; omega, by rw [e]; exact h4, fun k hk => h5 k (by omega)⟩
theorem DelI.put {id : Int} {xs m : List Int} {j : Nat} {x : Int} (h : DelI id xs j m) (hx : xs[j]? = some x) (hne : x ≠ id) : DelI id xs (j + 1) (m.set (rest id (xs.take j)).length x) := by
  obtain ⟨h1, h2, h3, h4, h5⟩ := h
  have hj := (List.getElem?_eq_some_iff.1 hx).1
  have e := rest_take (id := id) hx
  rw [if_neg hne] at e
  refine ⟨by rw [List.length_set]; exact h1, hj, by rw [e]; simp; omega, ?_, fun k hk => ?_⟩
  · rw [e, List.length_append, List.length_singleton, List.take_add_one, List.take_set_of_le (Nat.le_refl _), h4, List.getElem?_set_self (by omega)]
    rfl
  · rw [List.getElem?_set_ne (by omega)]
    exact h5 k (by omega)
theorem rest_same {id : Int} {xs : List Int} (h : ∀ x ∈ xs, (x == id) = false) : rest id xs = xs := by
  unfold rest
  rw [List.filter_eq_self]
  intro x hx
  simp [h x hx]
theorem spl_len {cs vs : List Value} {off : Nat} (h : off + vs.length ≤ cs.length) : (spl cs off vs).length = cs.length := by
  unfold spl
  simp only [List.length_append, List.length_take, List.length_drop]
  omega
/-- A slice's first places, the others are free. -/
theorem Sl.front {b cap : Nat} {xs F : List Int} {rst : List Value} {n : Nat} (h : Sl 3 1 (.slice (some ⟨b, 0, none⟩) n cap) n (ic xs) [(b, cb (ic xs ++ rst) 3)]) (rst' : List Value) (hl : (ic F ++ rst').length = (ic xs ++ rst).length) (hF : F.length ≤ n) :
    Sl 3 1 (.slice (some ⟨b, 0, none⟩) F.length cap) F.length (ic F) [(b, cb (ic F ++ rst') 3)] := by
  refine ⟨by simp, ?_⟩
  rcases h.2 with ⟨h1, _⟩ | ⟨b', cap', rest', h1, h2, h3, h4, h5⟩
  · cases h1
  · cases h1
    refine .inr ⟨b, cap, rst', rfl, rfl, by omega, h4, ?_⟩
    have h6 : cb (ic xs ++ rst) 3 = cb (ic xs ++ rest') 3 := by
      injection h2 with h2 _
      exact (Prod.mk.inj h2).2
    unfold cb at h6
    injection h6 with h6
    have h7 := congrArg Array.size h6
    simp only [List.size_toArray] at h7
    rw [hl, h7, h5]

set_option maxRecDepth 20000 in
set_option maxHeartbeats 2000000 in
theorem f38_calls (b3 : Nat) (id : Int) (v : Value) (xs : List Int) (oc : Ck) (hsl : Sl 3 1 v xs.length (ic xs) oc) (hb3 : b3 ∉ ks oc) (hn : xs.length ≤ 2000000) :
    Ctr Try.prog 38 #[v, .func (.func 39) #[] #[.pointer (some ⟨b3, 0, none⟩)]] oc (fun w => w.cell? ⟨b3, 0, none⟩ = some (.int .i64 id)) (fun r c => Sl 3 1 r (rest id xs).length (ic (rest id xs)) c) := by
  intro w0 hp hro
  have hs : St w0 (ks oc) [oc] w0 := hp.st
  have hmax : 20000000000000 ≤ maxLen := by decide +kernel
  obtain ⟨a, cap, rfl⟩ := hsl.len
  refine calls_W (n := 42) Try.func38 rfl Try.ntmps38 (by simp) ?_
  refine W_seq ?_
  -- region 0
  refine W_region (by decide +kernel) ?_
  refine sq_r r_assign rfl ?_
  refine sq_z ?_
  refine W_seq ?_
  -- region 1
  refine W_region (by decide +kernel) ?_
  refine sq_r r_move rfl ?_
  refine sq_r r_move rfl ?_
  refine sq_e rfl (o_callN cb36 rfl rfl (Post := fun r _ => r = .int .i64 (idxF (· == id) xs)) (f36_calls 39 [.pointer (some ⟨b3, 0, none⟩)] cb39 (· == id) (fun w => w.cell? ⟨b3, 0, none⟩ = some (.int .i64 id)) (fun h hs => keepC h hs (by simp [ks])) (f39_calls b3 id) (.slice a xs.length cap) xs (· ∈ ks oc) hn) hs
    ⟨sl_rd iF_len (by decide) (by rw [← ic_flat]; exact hsl) (hs.at (i := 0) rfl), hro⟩ ?_)
  rintro r w rfl hs
  refine sq_r r_assign rfl ?_
  refine sq_z ?_
  refine W_seq ?_
  refine W_seq ?_
  -- region 2
  refine W_region (by decide +kernel) ?_
  refine sq_r r_move rfl ?_
  rcases idxF_cases (· == id) xs with ⟨h1, _, h3⟩ | ⟨i, x, h1, h2, h3, _, h5⟩
  · rw [h1]
    refine sq_r (r_cmp (r := true) rfl rfl rfl) rfl ?_
    refine sq_z ?_
    refine W_cond rfl rfl (fun hc => ?_) (fun hc => ?_)
    · refine W_seq ?_
      -- region 3
      refine W_region (by decide +kernel) ?_
      refine sq_r r_move rfl ?_
      refine sq_r r_assign rfl ?_
      refine sq_z ?_
      refine W_ret ?_
      repeat with_reducible first | refine thenQ_ret ?_ | refine blockQ_ret ?_
      exact ret1 (v := .slice a xs.length cap) rfl (by decide) rfl (fin (c' := oc) hs (by rw [rest_same h3]; exact hsl) (by simp))
    · cases hc
  rw [h1]
  have hil := (List.getElem?_eq_some_iff.1 h2).1
  have hxi : x = id := by simpa using h3
  subst hxi
  obtain ⟨b, cap', rst, hv, hoc, _, _⟩ := Sl.get (F := iF) iF_len (by rw [← ic_flat]; exact hsl) h2 (by decide)
  simp only [Value.slice.injEq, true_and] at hv
  obtain ⟨rfl, rfl⟩ := hv
  rw [← ic_flat] at hoc
  subst hoc
  have hcs : (ic xs ++ rst).length = cap ∧ xs.length ≤ cap := by
    rcases hsl.2 with ⟨h1, _⟩ | ⟨b', cap', rest', h1, h2, h3, h4, h5⟩
    · cases h1
    · cases h1
      have h6 : cb (ic xs ++ rst) 3 = cb (ic xs ++ rest') 3 := by
        injection h2 with h2 _
        exact (Prod.mk.inj h2).2
      unfold cb at h6
      injection h6 with h6
      have h7 := congrArg Array.size h6
      simp only [List.size_toArray] at h7
      rw [h7, h5]
      exact ⟨by omega, h3⟩
  obtain ⟨hcl, hxc⟩ := hcs
  refine sq_r (r_cmp (r := false) rfl rfl (by simp [cmpB])) rfl ?_
  refine sq_z ?_
  refine W_cond rfl rfl (fun hc => ?_) (fun hc => ?_)
  · cases hc
  refine W_skip ?_
  refine W_seq ?_
  refine W_seq ?_
  -- region 4
  refine W_region (by decide +kernel) ?_
  refine sq_r r_move rfl ?_
  refine sq_r (r_add rfl rfl (wrap_small (by omega) (by omega))) rfl ?_
  refine sq_r r_assign rfl ?_
  refine sq_z ?_
  refine W_block ?_ -- 0
  have hfr : rest x (xs.take i) = xs.take i := rest_same fun y hy => by
    obtain ⟨j, hj⟩ := List.mem_iff_getElem?.1 hy
    have hjl := (List.getElem?_eq_some_iff.1 hj).1
    rw [List.length_take] at hjl
    exact h5 j y (by omega) (by rw [List.getElem?_take, if_pos (by omega)] at hj; exact hj)
  -- LOOP
  refine W_loop (fun (j : Nat) f w => ∃ g m, f = ov [(0, .slice (some ⟨b, 0, none⟩) xs.length cap), (1, .func (.func 39) #[] #[.pointer (some ⟨b3, 0, none⟩)]), (5, .int .i64 (rest x (xs.take j)).length), (6, .int .i64 j)] g ∧ DelI x xs j m ∧
    St w0 (ks [(b, cb (ic xs ++ rst) 3)]) [[(b, cb (ic m ++ rst) 3)]] w) (fun j => xs.length - j) (i + 1) ?_ ?_
  · have e := rest_take (id := x) h2
    rw [if_pos rfl, List.append_nil, hfr] at e
    have hlt : (xs.take i).length = i := by rw [List.length_take]; omega
    exact ⟨_, xs, ov_self ⟨rfl, rfl, by rw [e, hlt]; rfl, rfl, trivial⟩, ⟨rfl, hil, by rw [e, hlt]; omega, by rw [e, hlt], fun _ _ => rfl⟩, hs⟩
  clear hs
  rintro j f w ⟨g, m, rfl, hI, hs⟩
  have hIl := hI.1
  have hI2 := hI.2.1
  have hI3 := hI.2.2.1
  refine W_seq ?_
  refine W_seq ?_
  -- region 5
  refine W_region (by decide +kernel) ?_
  refine sq_r r_move rfl ?_
  refine sq_r r_move rfl ?_
  refine sq_r (r_lenS Try.underlying27 rfl) rfl ?_
  refine sq_r (r_cmp rfl rfl rfl) rfl ?_
  refine sq_z ?_
  refine W_cond rfl rfl (fun hd => ?_) (fun hd => ?_)
  · have hlt : j < xs.length := by have := of_decide_eq_true hd; omega
    obtain ⟨y, hy⟩ : ∃ y, xs[j]? = some y := ⟨_, List.getElem?_eq_getElem hlt⟩
    have hmj : m[j]? = some y := (hI.2.2.2.2 j (Nat.le_refl _)).trans hy
    refine W_skip ?_
    refine W_seq ?_
    refine W_block ?_ -- 1
    refine W_seq ?_
    -- region 7
    refine W_region (by decide +kernel) ?_
    refine sq_r r_move rfl ?_
    refine sq_r r_move rfl ?_
    refine sq_r (r_index rfl rfl sl27 (by omega) (by omega)) rfl ?_
    refine sq_r (r_load1 rfl ty3 (At.one (v := .int .i64 y) (hs.own (i := 0) rfl) (by rw [List.getElem?_append_left (by simp; omega)]; simpa using ic_get hmj))) rfl ?_
    refine sq_r r_assign rfl ?_
    refine sq_z ?_
    refine W_seq ?_
    -- region 8
    refine W_region (by decide +kernel) ?_
    refine sq_r r_move rfl ?_
    refine sq_r r_move rfl ?_
    refine sq_e rfl (o_callCN (cap := [.pointer (some ⟨b3, 0, none⟩)]) (vs := [.int .i64 y, .pointer (some ⟨b3, 0, none⟩)]) cb39 rfl rfl (f39_calls b3 x y) hs (keepC hro hs hb3) ?_)
    rintro r w rfl hs
    refine sq_r (r_not rfl) rfl ?_
    refine sq_z ?_
    refine W_cond rfl rfl (fun hc => ?_) (fun hc => ?_)
    · have hne : y ≠ x := by simpa using hc
      have hre := rest_take (id := x) hy
      rw [if_neg hne] at hre
      refine W_seq ?_
      -- region 9
      refine W_region (by decide +kernel) ?_
      refine sq_r r_move rfl ?_
      refine sq_r r_move rfl ?_
      refine sq_r r_move rfl ?_
      refine sq_r (r_index rfl rfl sl27 (by omega) (by omega)) rfl ?_
      refine sq_e rfl (o_store (i := 0) (vs := [.int .i64 y]) hs rfl rfl ty3 rfl (by simp [Value.oneCell']) (by simp; omega) ?_); intro w hs
      refine sq_z ?_
      have hs : St w0 (ks [(b, cb (ic xs ++ rst) 3)]) [[(b, cb (ic (m.set (rest x (xs.take j)).length y) ++ rst) 3)]] w := hs.cast (by rw [← ic_set rst y (by omega)]; simp)
      -- region 10
      refine W_region (by decide +kernel) ?_
      refine sq_r r_move rfl ?_
      refine sq_r (r_add rfl rfl (wrap_small (by omega) (by omega))) rfl ?_
      refine sq_r r_assign rfl ?_
      refine sq_z ?_
      -- region 6
      refine W_region (by decide +kernel) ?_
      refine sq_r r_move rfl ?_
      refine sq_r (r_add rfl rfl (wrap_small (by omega) (by omega))) rfl ?_
      refine sq_r r_assign rfl ?_
      refine sq_z ?_
      exact ⟨j + 1, ⟨_, _, ov_self ⟨rfl, rfl, by rw [hre]; simp; rfl, rfl, trivial⟩, hI.put hy hne, hs⟩, by omega⟩
    · have hye : y = x := by simpa using hc
      subst hye
      have hre := rest_take (id := y) hy
      rw [if_pos rfl, List.append_nil] at hre
      refine W_skip ?_
      -- region 6
      refine W_region (by decide +kernel) ?_
      refine sq_r r_move rfl ?_
      refine sq_r (r_add rfl rfl (wrap_small (by omega) (by omega))) rfl ?_
      refine sq_r r_assign rfl ?_
      refine sq_z ?_
      exact ⟨j + 1, ⟨_, m, ov_self ⟨rfl, rfl, by rw [hre]; rfl, rfl, trivial⟩, hI.skip hy, hs⟩, by omega⟩
  · have hin : j = xs.length := by have := of_decide_eq_false hd; omega
    subst hin
    rw [List.take_length] at hI3 ⊢
    have hF := hI.2.2.2.1
    rw [List.take_length] at hF
    refine W_exit ?_ -- 0
    refine W_seq ?_
    -- region 11
    refine W_region (by decide +kernel) ?_
    refine sq_r r_move rfl ?_
    refine sq_r r_move rfl ?_
    refine sq_r (r_sliceLo sl27 rfl rfl (by omega) (by omega)) rfl ?_
    have hmc : (ic m ++ rst).length = cap := by
      rw [List.length_append, ic_length, hIl, ← ic_length, ← List.length_append]; exact hcl
    have hfit : (if cap = (((rest x xs).length : Nat) : Int).toNat then 0 else 0 + (((rest x xs).length : Nat) : Int).toNat * 1) + (xs.length - (((rest x xs).length : Nat) : Int).toNat) ≤ (ic m ++ rst).length := by
      rw [hmc, Int.toNat_natCast]
      split <;> omega
    refine sq_e rfl (o_clear (i := 0) sl27 ty3 rfl hs rfl rfl hfit ?_)
    intro w hs
    refine sq_z ?_
    refine W_seq ?_
    -- region 12
    refine W_region (by decide +kernel) ?_
    refine sq_r r_move rfl ?_
    refine sq_r r_move rfl ?_
    refine sq_r (r_sliceHi sl27 rfl rfl (by omega) (by omega)) rfl ?_
    refine sq_r r_assign rfl ?_
    refine sq_z ?_
    refine W_ret ?_
    have hsp : ∃ rst', spl (ic m ++ rst) (if cap = (((rest x xs).length : Nat) : Int).toNat then 0 else 0 + (((rest x xs).length : Nat) : Int).toNat * 1) (List.replicate (xs.length - (((rest x xs).length : Nat) : Int).toNat) (.int .i64 0)) = ic (rest x xs) ++ rst' := by
      rw [Int.toNat_natCast]
      have em : ic m = ic (rest x xs) ++ ic (m.drop (rest x xs).length) := by
        have h := List.take_append_drop (rest x xs).length m
        rw [hF] at h
        rw [← ic_app, h]
      split
      · rename_i hc
        rw [show xs.length - (rest x xs).length = 0 from by omega]
        refine ⟨ic (m.drop (rest x xs).length) ++ rst, ?_⟩
        rw [← List.append_assoc, ← em]
        simp [spl]
      · refine ⟨List.replicate (xs.length - (rest x xs).length) (.int .i64 0) ++ (ic m ++ rst).drop ((rest x xs).length + (xs.length - (rest x xs).length)), ?_⟩
        unfold spl
        rw [List.length_replicate, Nat.zero_add, Nat.mul_one, List.append_assoc]
        congr 1
        rw [em, List.append_assoc, List.take_append_of_le_length (by simp), List.take_of_length_le (by simp)]
    obtain ⟨rst', hsp⟩ := hsp
    have hlen : (ic (rest x xs) ++ rst').length = (ic xs ++ rst).length := by
      rw [← hsp]
      exact (spl_len (by rw [List.length_replicate]; exact hfit)).trans (hmc.trans hcl.symm)
    rw [hsp] at hs
    refine ret1 (v := .slice (some ⟨b, 0, none⟩) (rest x xs).length cap) rfl (by decide) rfl (fin (c' := [(b, cb (ic (rest x xs) ++ rst') 3)]) hs ?_ (by simp))
    exact Sl.front hsl rst' hlen (rest_len x xs)

end Go.Proofs.Ytddhdoncjfgfnaa
