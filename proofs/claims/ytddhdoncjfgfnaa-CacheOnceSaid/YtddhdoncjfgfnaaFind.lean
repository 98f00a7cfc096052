/-
  Layer 15: the cache in memory; slices.IndexFunc; find. Conditions: none but that the cache is whole.
-/
import Derived.Test.YtddhdoncjfgfnaaCopied
namespace Go.Proofs.Ytddhdoncjfgfnaa
open Go.Eng

abbrev Mh := List (Int × LT × Nat) × Nat
abbrev Mp := List (V2 × Int × Nat) × Nat
/-- The program's cache. -/
structure C15 where
  held : Mh
  order : List Int
  fails : Mp
  links : Mp
  limit : Int
  picks : List Int
  last : Int
  most : Int
def bx (mh mf ml : Nat) (ov pv : Value) (s : C15) : List Value := [.map (some mh), ov, .map (some mf), .map (some ml), .int .i64 s.limit, pv, .int .i64 s.last, .int .i64 s.most]
/-- Its parts. -/
structure Bk (s : C15) (ov pv : Value) (oc pc dc : Ck) : Prop where
  o : Sl 3 1 ov s.order.length (ic s.order) oc
  p : ∀ w, Hp pc w → RdG 1 iF (· ∈ ks pc) pv s.picks w
  q : ∃ a cap, pv = .slice a s.picks.length cap ∧ s.picks.length ≤ cap
  h : ∀ r ∈ s.held.1, Held r.2.1 dc ∧ r.2.1.small
def BK (bb : Nat) (s : C15) (c : Ck) : Prop :=
  ∃ mh mf ml ov pv oc pc dc, Bk s ov pv oc pc dc ∧ c = [(bb, cb (bx mh mf ml ov pv s) 65)] ++ ([(mh, mo encI evT s.held.1 s.held.2)] ++ ([(mf, mo encV encI s.fails.1 s.fails.2)] ++ ([(ml, mo encV encI s.links.1 s.links.2)] ++ (oc ++ (pc ++ dc)))))
theorem bk_st {bb mh mf ml : Nat} {ov pv : Value} {s : C15} {oc pc dc c : Ck} {w : World} (hp : Hp c w) (e : c = [(bb, cb (bx mh mf ml ov pv s) 65)] ++ ([(mh, mo encI evT s.held.1 s.held.2)] ++ ([(mf, mo encV encI s.fails.1 s.fails.2)] ++ ([(ml, mo encV encI s.links.1 s.links.2)] ++ (oc ++ (pc ++ dc)))))) :
    St w (ks c) [[(bb, cb (bx mh mf ml ov pv s) 65)], [(mh, mo encI evT s.held.1 s.held.2)], [(mf, mo encV encI s.fails.1 s.fails.2)], [(ml, mo encV encI s.links.1 s.links.2)], oc, pc, dc] w := hp.st.cast (by rw [e]; simp)
theorem keepC {w0 w : World} {cs : List Ck} {F0 : List Nat} {b o : Nat} {v : Value} (h : w0.cell? ⟨b, o, none⟩ = some v) (hs : St w0 F0 cs w) (hb : b ∉ F0) : w.cell? ⟨b, o, none⟩ = some v := by
  rw [hs.oldcell (cells_lt h) hb]; exact h
theorem keepH {w0 w : World} {cs : List Ck} {F0 : List Nat} {b : Nat} {o : Obj} (h : w0.heap[b]? = some o) (hs : St w0 F0 cs w) (hb : b ∉ F0) : w.heap[b]? = some o := by
  rw [hs.old b (Array.getElem?_eq_some_iff.1 h).1 hb]; exact h

/-! ### slices.IndexFunc -/
def idxF (p : Int → Bool) (xs : List Int) : Int := match xs.findIdx? p with | some i => (i : Int) | none => -1
theorem idxF_none {p : Int → Bool} {xs : List Int} (h : ∀ x ∈ xs, p x = false) : idxF p xs = -1 := by
  unfold idxF
  rw [List.findIdx?_eq_none_iff.2 h]
theorem idxF_some {p : Int → Bool} {xs : List Int} {i : Nat} {x : Int} (hx : xs[i]? = some x) (hp : p x = true) (hj : ∀ (j : Nat) y, j < i → xs[j]? = some y → p y = false) : idxF p xs = i := by
  have hi := (List.getElem?_eq_some_iff.1 hx).1
  unfold idxF
  rw [List.findIdx?_eq_some_iff_getElem.2 ⟨hi, by rw [(List.getElem?_eq_some_iff.1 hx).2]; exact hp, fun j hji => by rw [hj j _ hji (List.getElem?_eq_getElem (by omega))]; decide⟩]
theorem idxF_cases (p : Int → Bool) (xs : List Int) : (idxF p xs = -1 ∧ xs.find? p = none ∧ ∀ x ∈ xs, p x = false) ∨ ∃ (i : Nat) (x : Int), idxF p xs = i ∧ xs[i]? = some x ∧ p x = true ∧ xs.find? p = some x ∧ ∀ (j : Nat) y, j < i → xs[j]? = some y → p y = false := by
  cases h : xs.findIdx? p with
  | none =>
    have h1 := List.findIdx?_eq_none_iff.1 h
    exact .inl ⟨idxF_none h1, by rw [List.find?_eq_none]; intro x hx; simp [h1 x hx], h1⟩
  | some i =>
    obtain ⟨hi, h1, h2⟩ := List.findIdx?_eq_some_iff_getElem.1 h
    refine .inr ⟨i, xs[i], by unfold idxF; rw [h], List.getElem?_eq_getElem hi, h1, ?_, fun j y hj hy => ?_⟩
    · rw [List.find?_eq_some_iff_getElem]
      exact ⟨h1, i, hi, rfl, fun j hj => by simpa using h2 j hj⟩
    · have := h2 j hj
      obtain ⟨hj2, rfl⟩ := List.getElem?_eq_some_iff.1 hy
      simpa using this

set_option maxRecDepth 20000 in
theorem f36_calls (h : FuncId) (caps : List Value) (hB : callB Try.prog h = true) (p : Int → Bool) (RO : World → Prop) (hRO : ∀ {w0 w : World} {cs : List Ck}, RO w0 → St w0 (ks []) cs w → RO w)
    (hc : ∀ x : Int, Ctr Try.prog h (.int .i64 x :: caps).toArray [] RO (fun r c => r = .bool (p x) ∧ c = [])) (v : Value) (xs : List Int) (B : Nat → Prop) (hn : xs.length ≤ 2000000) :
    Ctr Try.prog 36 #[v, .func (.func h) #[] caps.toArray] [] (fun w => RdG 1 iF B v xs w ∧ RO w) (fun r c => r = .int .i64 (idxF p xs) ∧ c = []) := by
  intro w0 hp hro
  have hs : St w0 (ks []) [] w0 := St.start w0
  obtain ⟨hrd, hro⟩ := hro
  obtain ⟨a, cap, rfl⟩ := hrd.len
  refine calls_W (n := 19) Try.func36 rfl Try.ntmps36 (by simp) ?_
  refine W_seq ?_
  -- region 0
  refine W_region (by decide +kernel) ?_
  refine sq_r r_assign rfl ?_
  refine sq_z ?_
  refine W_seq ?_
  refine W_seq ?_
  -- region 1
  refine W_region (by decide +kernel) ?_
  refine sq_r r_move rfl ?_
  refine sq_r (r_lenS Try.underlying27 rfl) rfl ?_
  refine sq_r r_move rfl ?_
  refine sq_z ?_
  refine W_block ?_ -- 0
  -- LOOP
  refine W_loop (fun (i : Nat) f w => ∃ g, f = ov [(0, .slice a xs.length cap), (1, .func (.func h) #[] caps.toArray), (7, .int .i64 xs.length), (8, .int .i64 i)] g ∧ i ≤ xs.length ∧ (∀ (j : Nat) y, j < i → xs[j]? = some y → p y = false) ∧ St w0 (ks []) [] w) (fun i => xs.length - i) 0 ?_ ?_
  · exact ⟨_, ov_self ⟨rfl, rfl, rfl, rfl, trivial⟩, Nat.zero_le _, fun j _ hj => absurd hj (Nat.not_lt_zero j), hs⟩
  clear hs
  rintro i f w ⟨g, rfl, hi, hall, hs⟩
  refine W_seq ?_
  -- region 2
  refine W_region (by decide +kernel) ?_
  refine sq_r (r_cmp rfl rfl rfl) rfl ?_
  refine sq_z ?_
  refine W_seq ?_
  refine W_cond rfl rfl (fun hd => ?_) (fun hd => ?_)
  · have hlt : i < xs.length := by have := of_decide_eq_true hd; omega
    obtain ⟨x, hx⟩ : ∃ x, xs[i]? = some x := ⟨_, List.getElem?_eq_getElem hlt⟩
    obtain ⟨b, off, rfl, _, _⟩ := hrd.get hx
    refine W_skip ?_
    refine W_seq ?_
    refine W_block ?_ -- 1
    refine W_seq ?_
    -- region 3
    refine W_region (by decide +kernel) ?_
    refine sq_r r_move rfl ?_
    refine sq_r r_assign rfl ?_
    refine sq_z ?_
    refine W_seq ?_
    -- region 4
    refine W_region (by decide +kernel) ?_
    refine sq_r r_move rfl ?_
    refine sq_r r_move rfl ?_
    refine sq_r r_move rfl ?_
    refine sq_r (r_index rfl rfl sl27 (by omega) (by omega)) rfl ?_
    refine sq_r (r_load1 rfl ty3 (((hrd.old iF_len (by decide) hs (by simp [ks])).get2 hx) 0 _ rfl)) rfl ?_
    refine sq_e rfl (o_callCN (cap := caps) (vs := .int .i64 x :: caps) hB rfl rfl (hc x) hs (hRO hro hs) ?_)
    rintro r w rfl hs
    refine sq_z ?_
    refine W_cond rfl rfl (fun hc => ?_) (fun hc => ?_)
    · refine W_seq ?_
      -- region 5
      refine W_region (by decide +kernel) ?_
      refine sq_r r_move rfl ?_
      refine sq_r r_assign rfl ?_
      refine sq_z ?_
      refine W_ret ?_
      repeat with_reducible first | refine thenQ_ret ?_ | refine blockQ_ret ?_
      exact ret1 (v := .int .i64 i) rfl (by decide) rfl (fin (c' := []) hs ⟨by rw [idxF_some hx hc hall], rfl⟩ (by simp))
    · refine W_skip ?_
      -- region 6
      refine W_region (by decide +kernel) ?_
      have hmax : 20000000000000 ≤ maxLen := by decide +kernel
      refine sq_r (r_add rfl rfl (wrap_small (by omega) (by omega))) rfl ?_
      refine sq_r r_move rfl ?_
      refine sq_z ?_
      refine ⟨i + 1, ⟨_, ov_self ⟨rfl, rfl, rfl, rfl, trivial⟩, by omega, fun j y hj hy => ?_, hs⟩, by omega⟩
      by_cases hji : j < i
      · exact hall j y hji hy
      · obtain rfl : j = i := by omega
        rw [hx] at hy
        cases hy
        exact hc
  · have hin : i = xs.length := by have := of_decide_eq_false hd; omega
    subst hin
    refine W_exit ?_ -- 0
    refine W_seq ?_
    -- region 7
    refine W_region (by decide +kernel) ?_
    refine sq_r r_assign rfl ?_
    refine sq_z ?_
    refine W_ret ?_
    refine ret1 (v := .int .i64 (-1)) rfl (by decide) rfl (fin (c' := []) hs ⟨?_, rfl⟩ (by simp))
    rw [idxF_none fun x hx => ?_]
    obtain ⟨j, hj⟩ := List.mem_iff_getElem?.1 hx
    exact hall j x (List.getElem?_eq_some_iff.1 hj).1 hj

/-! ### find -/
def keyOf (s : C15) (id : Int) : Ky := ((mget s.held.1 id).getD zLT).key
def hasKey (s : C15) (k : Ky) (id : Int) : Bool := decide (keyOf s id = k)
/-- The id of a key's trace; 0: there is none. -/
def findK (s : C15) (k : Ky) : Int := (s.order.find? (hasKey s k)).getD 0
theorem r_key {P : Program} {w : World} {f : Fm} {d : Option Nat} {ty : TypeId} {pos : String} {after : Array Edge} {g : Option (Nat × Bool)} {x : Operand} {y : LT} {z : List Value} (h : ev f x = evT y) (hf : fdOf P 33 0 = some (26, 0)) (ht : tyOf P 26 = some (true, 10, z)) :
    (execOp (ev f) ⟨d, .field 33 x 0, ty, pos, after, g⟩).run P w = .ok (.value (encV y.key)) w := by
  have h1 := r_fieldA (d := d) (ty := ty) (pos := pos) (after := after) (g := g) (w := w) h hf ht
  rw [trC_key] at h1
  exact h1
theorem guard26 : Try.prog.eqGuardType Try.prog.depth 26 = false := by kernel_rfl
/-- What find's closure looks at. -/
def RO37 (b2 b3 bb mh : Nat) (k : Ky) (s : C15) (w : World) : Prop :=
  w.cell? ⟨b2, 0, none⟩ = some (.pointer (some ⟨bb, 0, none⟩)) ∧ At w b3 0 (ic k.toList) ∧ w.cell? ⟨bb, 0 + 0, none⟩ = some (.map (some mh)) ∧ w.heap[mh]? = some (mo encI evT s.held.1 s.held.2)
theorem RO37.keep {b2 b3 bb mh : Nat} {k : Ky} {s : C15} {w0 w : World} {cs : List Ck} (h : RO37 b2 b3 bb mh k s w0) (hs : St w0 (ks []) cs w) : RO37 b2 b3 bb mh k s w :=
  ⟨keepC h.1 hs (by simp [ks]), at_keep hs (by simp [ks]) (by simp) h.2.1, keepC h.2.2.1 hs (by simp [ks]), keepH h.2.2.2 hs (by simp [ks])⟩

set_option maxRecDepth 20000 in
theorem f37_calls (b2 b3 bb mh : Nat) (k : Ky) (s : C15) (id : Int) : Ctr Try.prog 37 #[.int .i64 id, .pointer (some ⟨b2, 0, none⟩), .pointer (some ⟨b3, 0, none⟩)] [] (RO37 b2 b3 bb mh k s) (fun r c => r = .bool (hasKey s k id) ∧ c = []) := by
  intro w0 hp hro
  have hs : St w0 (ks []) [] w0 := St.start w0
  refine calls_W (n := 14) Try.func37 rfl Try.ntmps37 (by simp) ?_
  refine W_seq ?_
  -- region 0
  refine W_region (by decide +kernel) ?_
  refine sq_r r_assign rfl ?_
  refine sq_z ?_
  refine W_seq ?_
  -- region 1 DRAWS
  refine W_drawM hs Try.mixed [] [0, 1, 3, 7, 0, 31, 63, 0, 255, 511] [] [0, 1, 2, 3, 4, 5, 6, 7, 8, 9] (by decide +kernel) ?_
  intro w hs; have hR := hs.mask []
  refine dq_r hR rfl rfl rfl (fun _ w _ _ hR => r_load1 rfl ty36 (hro.keep hR).1) ?_
  refine dq_r hR rfl rfl rfl (fun _ w _ _ hR => r_nilCheck rfl) ?_
  refine dq_r hR rfl rfl rfl (fun _ w _ _ hR => r_field rfl fa65_0) ?_
  refine dq_r hR rfl rfl rfl (fun _ w _ _ hR => r_load1 rfl ty62 (hro.keep hR).2.2.1) ?_
  refine dq_r hR rfl rfl rfl (fun _ w _ _ hR => r_move) ?_
  refine dq_r hR rfl rfl rfl (fun _ w _ _ hR => r_lookup (a := id) (z := zLT) KT3 Try.underlying62 (zero33 _) rfl rfl (hro.keep hR).2.2.2) ?_
  refine dq_r hR rfl rfl rfl (fun _ w _ _ hR => r_key rfl fd33_0 ty26) ?_
  refine dq_r hR rfl rfl rfl (fun _ w _ _ hR => r_loadN rfl ty26 (by simp) (hro.keep hR).2.1) ?_
  refine dq_r hR rfl rfl rfl (fun _ w _ _ hR => r_eqS (a := keyOf s id) (b := k) Try.underlying26 flat26 (by decide) guard26 rfl rfl) ?_
  refine dq_r hR rfl rfl rfl (fun _ w _ _ hR => r_assign) ?_
  refine dq_z hR ?_
  refine W_ret ?_
  exact ret1 (v := .bool (hasKey s k id)) rfl (by decide) rfl (fin (c' := []) hs ⟨rfl, rfl⟩ (by simp))

set_option maxRecDepth 20000 in
theorem f24_calls (bb : Nat) (s : C15) (c : Ck) (hc : BK bb s c) (k : Ky) (hn : s.order.length ≤ 2000000) : Ctr Try.prog 24 #[.pointer (some ⟨bb, 0, none⟩), encV k] [] (Hp c) (fun r c => r = .int .i64 (findK s k) ∧ c = []) := by
  intro w0 hp hro
  have hs : St w0 (ks []) [] w0 := St.start w0
  obtain ⟨mh, mf, ml, ov', pv, oc, pc, dc, hk, hce⟩ := hc
  have hc0 := bk_st hro hce
  have hB : w0.heap[bb]? = some (cb (bx mh mf ml ov' pv s) 65) := hc0.own (i := 0) rfl
  have hH : w0.heap[mh]? = some (mo encI evT s.held.1 s.held.2) := hc0.own (i := 1) rfl
  have hor : RdG 1 iF (· ∈ ks oc) ov' s.order w0 := sl_rd iF_len (by decide) (by rw [← ic_flat]; exact hk.o) (hc0.at (i := 4) rfl)
  obtain ⟨oa, ocap, rfl⟩ := hor.len
  have hcm : ∀ {w : World} {cs : List Ck}, St w0 (ks []) cs w → w.heap[bb]? = some (cb (bx mh mf ml (.slice oa s.order.length ocap) pv s) 65) := fun hs => keepH hB hs (by simp [ks])
  refine calls_W (n := 21) Try.func24 rfl Try.ntmps24 (by simp) ?_
  refine W_seq ?_
  -- region 0
  refine W_region (by decide +kernel) ?_
  refine sq_e rfl (o_box (cs := [.pointer (some ⟨bb, 0, none⟩)]) hs rfl ?_); intro b2 w hs
  refine sq_e rfl (o_box (cs := ic k.toList) hs rfl ?_); intro b3 w hs
  refine sq_r r_assign rfl ?_
  refine sq_z ?_
  have hs : St w0 (ks []) [[(b2, cb [.pointer (some ⟨bb, 0, none⟩)] 36)], [(b3, cb (ic k.toList) 26)]] w := hs
  refine W_seq ?_
  -- region 1
  refine W_region (by decide +kernel) ?_
  refine sq_r (r_load1 rfl ty36 (At.one (hs.own (i := 0) rfl) rfl)) rfl ?_
  refine sq_r (r_nilCheck rfl) rfl ?_
  refine sq_r (r_field rfl fa65_1) rfl ?_
  refine sq_r (r_load1 rfl ty27 (At.one (hcm hs) rfl)) rfl ?_
  refine sq_r (r_makeFunc (first := []) (caps := [_, _]) (vs := []) (us := [.pointer (some ⟨b2, 0, none⟩), .pointer (some ⟨b3, 0, none⟩)]) rfl rfl) rfl ?_
  refine sq_e rfl (o_callN cb36 rfl rfl (Post := fun r _ => r = .int .i64 (idxF (hasKey s k) s.order)) (f36_calls 37 [.pointer (some ⟨b2, 0, none⟩), .pointer (some ⟨b3, 0, none⟩)] cb37 (hasKey s k) (RO37 b2 b3 bb mh k s) RO37.keep (f37_calls b2 b3 bb mh k s) (.slice oa s.order.length ocap) s.order (· ∈ ks oc) hn) hs
    ⟨hor.old iF_len (by decide) hs (by simp [ks]), At.one (hs.own (i := 0) rfl) rfl, At.of_block (hs.own (i := 1) rfl) (ic_all _), At.one (hcm hs) rfl, keepH hH hs (by simp [ks])⟩ ?_)
  rintro r w rfl hs
  refine sq_r r_assign rfl ?_
  refine sq_z ?_
  refine W_seq ?_
  refine W_seq ?_
  -- region 2
  refine W_region (by decide +kernel) ?_
  refine sq_r r_move rfl ?_
  refine sq_r (r_cmp rfl rfl rfl) rfl ?_
  refine sq_z ?_
  rcases idxF_cases (hasKey s k) s.order with ⟨h1, h2, _⟩ | ⟨i, x, h1, h2, h3, h4, _⟩
  · rw [h1]
    refine W_cond rfl rfl (fun hz => ?_) (fun hz => ?_)
    · refine W_seq ?_
      -- region 3
      refine W_region (by decide +kernel) ?_
      refine sq_r r_assign rfl ?_
      refine sq_z ?_
      refine W_ret ?_
      repeat with_reducible first | refine thenQ_ret ?_ | refine blockQ_ret ?_
      exact ret1 (v := .int .i64 0) rfl (by decide) rfl (fin (c' := []) hs ⟨by simp [findK, h2], rfl⟩ (by simp))
    · cases hz
  · rw [h1]
    have hil := (List.getElem?_eq_some_iff.1 h2).1
    obtain ⟨b, off, rfl, _, _⟩ := hor.get h2
    refine W_cond rfl rfl (fun hz => ?_) (fun hz => ?_)
    · exact absurd (of_decide_eq_true hz) (by omega)
    refine W_skip ?_
    refine W_seq ?_
    -- region 4
    refine W_region (by decide +kernel) ?_
    refine sq_r (r_load1 rfl ty36 (At.one (hs.own (i := 0) rfl) rfl)) rfl ?_
    refine sq_r (r_nilCheck rfl) rfl ?_
    refine sq_r (r_field rfl fa65_1) rfl ?_
    refine sq_r (r_load1 rfl ty27 (At.one (hcm hs) rfl)) rfl ?_
    refine sq_r r_move rfl ?_
    refine sq_r (r_index rfl rfl sl27 (by omega) (by omega)) rfl ?_
    refine sq_r (r_load1 rfl ty3 (((hor.old iF_len (by decide) hs (by simp [ks])).get2 h2) 0 _ rfl)) rfl ?_
    refine sq_r r_assign rfl ?_
    refine sq_z ?_
    refine W_ret ?_
    exact ret1 (v := .int .i64 x) rfl (by decide) rfl (fin (c' := []) hs ⟨by simp [findK, h4], rfl⟩ (by simp))

end Go.Proofs.Ytddhdoncjfgfnaa
