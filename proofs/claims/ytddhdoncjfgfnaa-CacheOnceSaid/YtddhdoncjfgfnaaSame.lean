/-
  Layer 15: the document's answer for traces that are alike (Same): of equal traces it is true; a trace's size (Size): it is told. Condition: they are not long.
-/
import Derived.Test.YtddhdoncjfgfnaaAwake
namespace Go.Proofs.Ytddhdoncjfgfnaa
open Go.Eng

section
variable {P : Program} {w : World} {f : Fm} {d : Option Nat} {ty : TypeId} {pos : String} {after : Array Edge} {g : Option (Nat × Bool)}
theorem r_neSf {x y : Operand} {K U : TypeId} {fs : Array Field} {dd n : Nat} {a b : Vector Int n} (hab : a = b) (hu : P.underlying K = some (.struct fs)) (hf : flat P dd K n = true) (hd : dd ≤ 10000) (hg : P.eqGuardType P.depth K = false)
    (hx : ev f x = encV a) (hy : ev f y = encV b) : (execOp (ev f) ⟨d, .binOp .neq K x y U, ty, pos, after, g⟩).run P w = .ok (.value (.bool false)) w := by
  have h := r_neS (d := d) (ty := ty) (pos := pos) (after := after) (g := g) (U := U) (w := w) hu hf hd hg hx hy
  rw [h, hab]
  simp
end
theorem guard93 : Try.prog.eqGuardType Try.prog.depth 93 = false := by kernel_rfl

set_option maxRecDepth 20000 in
theorem f28_calls (u v : Value) (xs : List Sc) (B : Nat → Prop) (hn : xs.length ≤ 4398046510976) : Ctr Try.prog 28 #[u, v] [] (fun w => RdG 4 scF B u xs w ∧ RdG 4 scF B v xs w) (fun r c => r = .bool true ∧ c = []) := by
  intro w0 hp hro
  have hs : St w0 (ks []) [] w0 := St.start w0
  obtain ⟨hu, hv⟩ := hro
  obtain ⟨ua, ucap, rfl⟩ := hu.len
  obtain ⟨va, vcap, rfl⟩ := hv.len
  have hmax : 20000000000000 ≤ maxLen := by decide +kernel
  refine calls_W (n := 26) Try.func28 rfl Try.ntmps28 (by simp) ?_
  refine W_seq ?_
  -- region 0
  refine W_region (by decide +kernel) ?_
  refine sq_r r_assign rfl ?_
  refine sq_z ?_
  refine W_seq ?_
  refine W_seq ?_
  -- region 1
  refine W_region (by decide +kernel) ?_
  refine sq_r r_move rfl ?_
  refine sq_r (r_lenS Try.underlying31 rfl) rfl ?_
  refine sq_r r_move rfl ?_
  refine sq_r (r_lenS Try.underlying31 rfl) rfl ?_
  refine sq_r (r_cmp (r := false) rfl rfl (by simp [cmpB])) rfl ?_
  refine sq_z ?_
  refine W_cond rfl rfl (fun hc => ?_) (fun hc => ?_)
  · cases hc
  refine W_skip ?_
  refine W_seq ?_
  refine W_seq ?_
  -- region 3
  refine W_region (by decide +kernel) ?_
  refine sq_r r_move rfl ?_
  refine sq_r (r_lenS Try.underlying31 rfl) rfl ?_
  refine sq_r r_move rfl ?_
  refine sq_z ?_
  refine W_block ?_
  refine W_loop (fun (i : Nat) f w => ∃ g, f = ov [(0, .slice ua xs.length ucap), (1, .slice va xs.length vcap), (12, .int .i64 xs.length), (13, .int .i64 i)] g ∧ i ≤ xs.length ∧ St w0 (ks []) [] w) (fun i => xs.length - i) 0 ?_ ?_
  · exact ⟨_, ov_self ⟨rfl, rfl, rfl, rfl, trivial⟩, Nat.zero_le _, hs⟩
  clear hs
  rintro i f w ⟨g, rfl, hi, hs⟩
  refine W_seq ?_
  -- region 4
  refine W_region (by decide +kernel) ?_
  refine sq_r (r_cmp rfl rfl rfl) rfl ?_
  refine sq_z ?_
  refine W_seq ?_
  refine W_cond rfl rfl (fun hd => ?_) (fun hd => ?_)
  · have hlt : i < xs.length := by have := of_decide_eq_true hd; omega
    obtain ⟨x, hx⟩ : ∃ x, xs[i]? = some x := ⟨_, List.getElem?_eq_getElem hlt⟩
    obtain ⟨b1, o1, rfl, _, _⟩ := hu.get hx
    obtain ⟨b2, o2, rfl, _, _⟩ := hv.get hx
    have h1 : ∀ {w : World} {cs : List Ck}, St w0 (ks []) cs w → At w b1 (o1 + ((i : Int).toNat) * 4) (scF x) := fun hs => (hu.old scF_len (by decide) hs (by simp [ks])).get2 hx
    have h2 : ∀ {w : World} {cs : List Ck}, St w0 (ks []) cs w → At w b2 (o2 + ((i : Int).toNat) * 4) (scF x) := fun hs => (hv.old scF_len (by decide) hs (by simp [ks])).get2 hx
    refine W_skip ?_
    refine W_seq ?_
    refine W_block ?_
    refine W_seq ?_
    -- region 5
    refine W_region (by decide +kernel) ?_
    refine sq_r r_move rfl ?_
    refine sq_r r_assign rfl ?_
    refine sq_z ?_
    refine W_seq ?_
    -- region 6 DRAWS
    refine W_drawM hs Try.mixed [] [0, 0, 3, 7, 0, 0, 48, 112, 255] [] [0, 1, 2, 3, 4, 5, 6, 7, 8] (by decide +kernel) ?_
    intro w hs; have hR := hs.mask []
    refine dq_r hR rfl rfl rfl (fun _ w _ _ hR => r_move) ?_
    refine dq_r hR rfl rfl rfl (fun _ w _ _ hR => r_move) ?_
    refine dq_r hR rfl rfl rfl (fun _ w _ _ hR => r_index rfl rfl sl31 (by omega) (by omega)) ?_
    refine dq_r hR rfl rfl rfl (fun _ w _ _ hR => r_loadN rfl ty93 (scF_len x) (h1 hR)) ?_
    refine dq_r hR rfl rfl rfl (fun _ w _ _ hR => r_move) ?_
    refine dq_r hR rfl rfl rfl (fun _ w _ _ hR => r_move) ?_
    refine dq_r hR rfl rfl rfl (fun _ w _ _ hR => r_index rfl rfl sl31 (by omega) (by omega)) ?_
    refine dq_r hR rfl rfl rfl (fun _ w _ _ hR => r_loadN rfl ty93 (scF_len x) (h2 hR)) ?_
    refine dq_r hR rfl rfl rfl (fun _ w _ _ hR => r_neSf (a := x) (b := x) rfl Try.underlying93 flat93 (by decide) guard93 rfl rfl) ?_
    refine dq_z hR ?_
    refine W_cond rfl rfl (fun hc => ?_) (fun hc => ?_)
    · cases hc
    refine W_skip ?_
    -- region 8
    refine W_region (by decide +kernel) ?_
    refine sq_r (r_add rfl rfl (wrap_small (by omega) (by omega))) rfl ?_
    refine sq_r r_move rfl ?_
    refine sq_z ?_
    exact ⟨i + 1, ⟨_, ov_self ⟨rfl, rfl, rfl, rfl, trivial⟩, by omega, hs⟩, by omega⟩
  · refine W_exit ?_
    refine W_seq ?_
    -- region 9
    refine W_region (by decide +kernel) ?_
    refine sq_r r_assign rfl ?_
    refine sq_z ?_
    refine W_ret ?_
    exact ret1 (v := .bool true) rfl (by decide) rfl (fin (c' := []) hs ⟨rfl, rfl⟩ (by simp))

theorem map_get {α : Type} {xs ys : List (α × Value)} (h : xs.map (·.1) = ys.map (·.1)) {i : Nat} {p q : α × Value} (hp : xs[i]? = some p) (hq : ys[i]? = some q) : p.1 = q.1 := by
  have h1 := congrArg (·[i]?) h
  simpa [hp, hq] using h1
theorem map_len {α : Type} {xs ys : List (α × Value)} (h : xs.map (·.1) = ys.map (·.1)) : ys.length = xs.length := by
  have := congrArg List.length h
  simpa using this.symm

set_option maxRecDepth 20000 in
set_option maxHeartbeats 4000000 in
theorem f12_calls (x y : LT) (B : Nat → Prop) (he : y.t = x.t) (hsm : x.small) : Ctr Try.prog 12 #[evT x, evT y] [] (fun w => RdT B x w ∧ RdT B y w) (fun r c => r = .bool true ∧ c = []) := by
  intro w0 hp hro
  have hs : St w0 (ks []) [] w0 := St.start w0
  have hmax : 20000000000000 ≤ maxLen := by decide +kernel
  obtain ⟨hx, hy⟩ := hro
  have hkB : ∀ b, B b → b ∉ ks [] := by simp [ks]
  obtain ⟨e1, e2, e3, e4, e5, e6, e7, e8⟩ := LT.t_eq he
  have l4 : y.ins.length = x.ins.length := by rw [e4]
  have l5 := map_len e5.symm
  have l6 := map_len e6.symm
  have l7 := map_len e7.symm
  have n4 := hsm.i
  have n5 := hsm.o
  have n6 := hsm.l
  have n7 := hsm.v
  obtain ⟨xia, xicap, x12⟩ := hx.i.len
  obtain ⟨xoa, xocap, x13⟩ := hx.o.len
  obtain ⟨xla, xlcap, x14⟩ := hx.l.len
  obtain ⟨xva, xvcap, x15⟩ := hx.v.len
  obtain ⟨yia, yicap, y12⟩ := hy.i.len
  obtain ⟨yoa, yocap, y13⟩ := hy.o.len
  obtain ⟨yla, ylcap, y14⟩ := hy.l.len
  obtain ⟨yva, yvcap, y15⟩ := hy.v.len
  rw [l4] at y12
  rw [l5] at y13
  rw [l6] at y14
  rw [l7] at y15
  have hxi := hx.i; have hxo := hx.o; have hxl := hx.l; have hxv := hx.v
  have hyi := hy.i; have hyo := hy.o; have hyl := hy.l; have hyv := hy.v
  rw [x12] at hxi
  rw [x13] at hxo
  rw [x14] at hxl
  rw [x15] at hxv
  rw [y12] at hyi
  rw [y13] at hyo
  rw [y14] at hyl
  rw [y15] at hyv
  have X12 := tr12 x; rw [x12] at X12
  have X13 := tr13 x; rw [x13] at X13
  have X14 := tr14 x; rw [x14] at X14
  have X15 := tr15 x; rw [x15] at X15
  have Y12 := tr12 y; rw [y12] at Y12
  have Y13 := tr13 y; rw [y13] at Y13
  have Y14 := tr14 y; rw [y14] at Y14
  have Y15 := tr15 y; rw [y15] at Y15
  refine calls_W (n := 232) Try.func12 rfl Try.ntmps12 (by simp) ?_
  refine W_seq ?_
  -- region 0
  refine W_region (by decide +kernel) ?_
  refine sq_e rfl (o_box (cs := trC x) hs rfl ?_); intro b2 w hs
  refine sq_e rfl (o_box (cs := trC y) hs rfl ?_); intro b3 w hs
  refine sq_r r_assign rfl ?_
  refine sq_z ?_
  have hs : St w0 (ks []) [[(b2, cb (trC x) 33)], [(b3, cb (trC y) 33)]] w := hs
  refine W_seq ?_
  refine W_seq ?_
  -- region 1
  refine W_region (by decide +kernel) ?_
  refine sq_r (r_field rfl fa33_0) rfl ?_
  refine sq_r (r_loadN (vs := ic x.key.toList) rfl ty26 (by simp) (At.of_block (hs.own (i := 0) rfl) (by simpa using trC_key x))) rfl ?_
  refine sq_r (r_field rfl fa33_0) rfl ?_
  refine sq_r (r_loadN (vs := ic y.key.toList) rfl ty26 (by simp) (At.of_block (hs.own (i := 1) rfl) (by simpa using trC_key y))) rfl ?_
  refine sq_r (r_neSf (a := x.key) (b := y.key) e1.symm Try.underlying26 flat26 (by decide) guard26 rfl rfl) rfl ?_
  refine sq_r r_move rfl ?_
  refine sq_r (r_field rfl fa33_1) rfl ?_
  refine sq_r (r_load1 rfl ty3 (At.one (hs.own (i := 0) rfl) (tr10 x))) rfl ?_
  refine sq_r (r_field rfl fa33_1) rfl ?_
  refine sq_r (r_load1 rfl ty3 (At.one (hs.own (i := 1) rfl) (tr10 y))) rfl ?_
  refine sq_r (r_cmp (r := false) rfl rfl (by simp [cmpB, e2])) rfl ?_
  refine sq_r (r_pick (b := false) rfl) rfl ?_
  refine sq_r r_move rfl ?_
  refine sq_r (r_field rfl fa33_2) rfl ?_
  refine sq_r (r_load1 rfl ty3 (At.one (hs.own (i := 0) rfl) (tr11 x))) rfl ?_
  refine sq_r (r_field rfl fa33_2) rfl ?_
  refine sq_r (r_load1 rfl ty3 (At.one (hs.own (i := 1) rfl) (tr11 y))) rfl ?_
  refine sq_r (r_cmp (r := false) rfl rfl (by simp [cmpB, e3])) rfl ?_
  refine sq_r (r_pick (b := false) rfl) rfl ?_
  refine sq_r r_move rfl ?_
  refine sq_r (r_field rfl fa33_3) rfl ?_
  refine sq_r (r_load1 rfl ty27 (At.one (hs.own (i := 0) rfl) X12)) rfl ?_
  refine sq_r (r_lenS Try.underlying27 rfl) rfl ?_
  refine sq_r (r_field rfl fa33_3) rfl ?_
  refine sq_r (r_load1 rfl ty27 (At.one (hs.own (i := 1) rfl) Y12)) rfl ?_
  refine sq_r (r_lenS Try.underlying27 rfl) rfl ?_
  refine sq_r (r_cmp (r := false) rfl rfl (by simp [cmpB])) rfl ?_
  refine sq_r (r_pick (b := false) rfl) rfl ?_
  refine sq_r r_move rfl ?_
  refine sq_r (r_field rfl fa33_4) rfl ?_
  refine sq_r (r_load1 rfl ty28 (At.one (hs.own (i := 0) rfl) X13)) rfl ?_
  refine sq_r (r_lenS Try.underlying28 rfl) rfl ?_
  refine sq_r (r_field rfl fa33_4) rfl ?_
  refine sq_r (r_load1 rfl ty28 (At.one (hs.own (i := 1) rfl) Y13)) rfl ?_
  refine sq_r (r_lenS Try.underlying28 rfl) rfl ?_
  refine sq_r (r_cmp (r := false) rfl rfl (by simp [cmpB])) rfl ?_
  refine sq_r (r_pick (b := false) rfl) rfl ?_
  refine sq_r r_move rfl ?_
  refine sq_r (r_field rfl fa33_5) rfl ?_
  refine sq_r (r_load1 rfl ty29 (At.one (hs.own (i := 0) rfl) X14)) rfl ?_
  refine sq_r (r_lenS Try.underlying29 rfl) rfl ?_
  refine sq_r (r_field rfl fa33_5) rfl ?_
  refine sq_r (r_load1 rfl ty29 (At.one (hs.own (i := 1) rfl) Y14)) rfl ?_
  refine sq_r (r_lenS Try.underlying29 rfl) rfl ?_
  refine sq_r (r_cmp (r := false) rfl rfl (by simp [cmpB])) rfl ?_
  refine sq_r (r_pick (b := false) rfl) rfl ?_
  refine sq_r r_move rfl ?_
  refine sq_r (r_field rfl fa33_6) rfl ?_
  refine sq_r (r_load1 rfl ty30 (At.one (hs.own (i := 0) rfl) X15)) rfl ?_
  refine sq_r (r_lenS Try.underlying30 rfl) rfl ?_
  refine sq_r (r_field rfl fa33_6) rfl ?_
  refine sq_r (r_load1 rfl ty30 (At.one (hs.own (i := 1) rfl) Y15)) rfl ?_
  refine sq_r (r_lenS Try.underlying30 rfl) rfl ?_
  refine sq_r (r_cmp (r := false) rfl rfl (by simp [cmpB])) rfl ?_
  refine sq_r (r_pick (b := false) rfl) rfl ?_
  refine sq_r r_move rfl ?_
  refine sq_r (r_field rfl fa33_7) rfl ?_
  refine sq_r (r_load1 rfl ty31 (At.one (hs.own (i := 0) rfl) (tr16 x))) rfl ?_
  refine sq_r (r_field rfl fa33_7) rfl ?_
  refine sq_r (r_load1 rfl ty31 (At.one (hs.own (i := 1) rfl) (tr16 y))) rfl ?_
  refine sq_e rfl (o_callN cb28 rfl rfl (Post := fun r _ => r = .bool true) (f28_calls x.vb y.vb x.back B hsm.b) hs ⟨hx.b.old scF_len (by decide) hs hkB, by have := hy.b.old scF_len (by decide) hs hkB; rwa [e8] at this⟩ ?_)
  rintro u w rfl hs
  refine sq_r (r_not rfl) rfl ?_
  refine sq_r (r_pick (b := false) rfl) rfl ?_
  refine sq_z ?_
  refine W_cond rfl rfl (fun hc => ?_) (fun hc => ?_)
  · cases hc
  refine W_skip ?_
  refine W_seq ?_
  refine W_seq ?_
  refine W_region (by decide +kernel) ?_
  refine sq_r (r_field rfl fa33_3) rfl ?_
  refine sq_r (r_load1 rfl ty27 (At.one (hs.own (i := 0) rfl) X12)) rfl ?_
  refine sq_r (r_lenS Try.underlying27 rfl) rfl ?_
  refine sq_r r_move rfl ?_
  refine sq_z ?_
  refine W_block ?_
  refine W_loop (fun (i : Nat) f w => ∃ g, f = ov [(2, .pointer (some ⟨b2, 0, none⟩)), (3, .pointer (some ⟨b3, 0, none⟩)), (78, .int .i64 x.ins.length), (79, .int .i64 i)] g ∧ i ≤ x.ins.length ∧ St w0 (ks []) [[(b2, cb (trC x) 33)], [(b3, cb (trC y) 33)]] w) (fun i => x.ins.length - i) 0 ?_ ?_
  · exact ⟨_, ov_self ⟨rfl, rfl, rfl, rfl, trivial⟩, Nat.zero_le _, hs⟩
  clear hs
  rintro i f w ⟨g, rfl, hi, hs⟩
  refine W_seq ?_
  refine W_region (by decide +kernel) ?_
  refine sq_r (r_cmp rfl rfl rfl) rfl ?_
  refine sq_z ?_
  refine W_seq ?_
  refine W_cond rfl rfl (fun hd => ?_) (fun hd => ?_)
  · have hlt : i < x.ins.length := by have := of_decide_eq_true hd; omega
    obtain ⟨p, hp⟩ : ∃ p, x.ins[i]? = some p := ⟨_, List.getElem?_eq_getElem hlt⟩
    obtain ⟨q, hq, hpq⟩ : ∃ q, y.ins[i]? = some q ∧ p = q := ⟨p, by rw [e4]; exact hp, rfl⟩
    obtain ⟨xb, xo, rfl, _, _⟩ := hxi.get hp
    obtain ⟨yb, yo, rfl, _, _⟩ := hyi.get hq
    have hax : ∀ {w : World} {cs : List Ck}, St w0 (ks []) cs w → At w xb (xo + ((i : Int).toNat) * 1) (iF p) := fun hs => (hxi.old iF_len (by decide) hs hkB).get2 hp
    have hay : ∀ {w : World} {cs : List Ck}, St w0 (ks []) cs w → At w yb (yo + ((i : Int).toNat) * 1) (iF q) := fun hs => (hyi.old iF_len (by decide) hs hkB).get2 hq
    refine W_skip ?_
    refine W_seq ?_
    refine W_block ?_
    refine W_seq ?_
    refine W_region (by decide +kernel) ?_
    refine sq_r r_move rfl ?_
    refine sq_r r_assign rfl ?_
    refine sq_z ?_
    refine W_seq ?_
    refine W_drawM hs Try.mixed [true, true] [0, 1, 0, 7, 15, 0, 32, 0, 224, 480, 1023] [] [0, 1, 2, 3, 4, 5, 6, 7, 8, 9, 10] (by decide +kernel) ?_
    intro w hs; have hR := hs.mask [true, true]
    refine dq_r hR rfl rfl rfl (fun _ w _ _ hR => r_field rfl fa33_3) ?_
    refine dq_r hR rfl rfl rfl (fun _ w _ _ hR => r_load1 rfl ty27 (At.one (hR.own (i := 0) rfl) X12)) ?_
    refine dq_r hR rfl rfl rfl (fun _ w _ _ hR => r_move) ?_
    refine dq_r hR rfl rfl rfl (fun _ w _ _ hR => r_index rfl rfl sl27 (by omega) (by omega)) ?_
    refine dq_r hR rfl rfl rfl (fun _ w _ _ hR => r_load1 rfl ty3 (hax hR 0 _ rfl)) ?_
    refine dq_r hR rfl rfl rfl (fun _ w _ _ hR => r_field rfl fa33_3) ?_
    refine dq_r hR rfl rfl rfl (fun _ w _ _ hR => r_load1 rfl ty27 (At.one (hR.own (i := 1) rfl) Y12)) ?_
    refine dq_r hR rfl rfl rfl (fun _ w _ _ hR => r_move) ?_
    refine dq_r hR rfl rfl rfl (fun _ w _ _ hR => r_index rfl rfl sl27 (by omega) (by omega)) ?_
    refine dq_r hR rfl rfl rfl (fun _ w _ _ hR => r_load1 rfl ty3 (hay hR 0 _ rfl)) ?_
    refine dq_r hR rfl rfl rfl (fun _ w _ _ hR => r_cmp (r := false) rfl rfl (by simp [cmpB, hpq])) ?_
    refine dq_z hR ?_
    refine W_cond rfl rfl (fun hc => ?_) (fun hc => ?_)
    · cases hc
    refine W_skip ?_
    refine W_region (by decide +kernel) ?_
    refine sq_r (r_add rfl rfl (wrap_small (by omega) (by omega))) rfl ?_
    refine sq_r r_move rfl ?_
    refine sq_z ?_
    exact ⟨i + 1, ⟨_, ov_self ⟨rfl, rfl, rfl, rfl, trivial⟩, by omega, hs.keep (by simp)⟩, by omega⟩
  refine W_exit ?_
  refine W_seq ?_
  refine W_seq ?_
  refine W_region (by decide +kernel) ?_
  refine sq_r (r_field rfl fa33_4) rfl ?_
  refine sq_r (r_load1 rfl ty28 (At.one (hs.own (i := 0) rfl) X13)) rfl ?_
  refine sq_r (r_lenS Try.underlying28 rfl) rfl ?_
  refine sq_r r_move rfl ?_
  refine sq_z ?_
  refine W_block ?_
  refine W_loop (fun (i : Nat) f w => ∃ g, f = ov [(2, .pointer (some ⟨b2, 0, none⟩)), (3, .pointer (some ⟨b3, 0, none⟩)), (96, .int .i64 x.ops.length), (97, .int .i64 i)] g ∧ i ≤ x.ops.length ∧ St w0 (ks []) [[(b2, cb (trC x) 33)], [(b3, cb (trC y) 33)]] w) (fun i => x.ops.length - i) 0 ?_ ?_
  · exact ⟨_, ov_self ⟨rfl, rfl, rfl, rfl, trivial⟩, Nat.zero_le _, hs⟩
  clear hs
  rintro i f w ⟨g, rfl, hi, hs⟩
  refine W_seq ?_
  refine W_region (by decide +kernel) ?_
  refine sq_r (r_cmp rfl rfl rfl) rfl ?_
  refine sq_z ?_
  refine W_seq ?_
  refine W_cond rfl rfl (fun hd => ?_) (fun hd => ?_)
  · have hlt : i < x.ops.length := by have := of_decide_eq_true hd; omega
    obtain ⟨p, hp⟩ : ∃ p, x.ops[i]? = some p := ⟨_, List.getElem?_eq_getElem hlt⟩
    obtain ⟨q, hq⟩ : ∃ q, y.ops[i]? = some q := ⟨_, List.getElem?_eq_getElem (by omega)⟩
    have hpq : p.1 = q.1 := map_get e5.symm hp hq
    have hpm := List.mem_of_getElem? hp
    have hqm := List.mem_of_getElem? hq
    obtain ⟨xb, xo, rfl, _, _⟩ := hxo.get hp
    obtain ⟨yb, yo, rfl, _, _⟩ := hyo.get hq
    have hax : ∀ {w : World} {cs : List Ck}, St w0 (ks []) cs w → At w xb (xo + ((i : Int).toNat) * 5) (opC p) := fun hs => (hxo.old opC_len (by decide) hs hkB).get2 hp
    have hay : ∀ {w : World} {cs : List Ck}, St w0 (ks []) cs w → At w yb (yo + ((i : Int).toNat) * 5) (opC q) := fun hs => (hyo.old opC_len (by decide) hs hkB).get2 hq
    refine W_skip ?_
    refine W_seq ?_
    refine W_block ?_
    refine W_seq ?_
    refine W_region (by decide +kernel) ?_
    refine sq_r r_move rfl ?_
    refine sq_r r_assign rfl ?_
    refine sq_z ?_
    refine W_mid (M := fun f w => ∃ g b7 b8, f = ov [(2, .pointer (some ⟨b2, 0, none⟩)), (3, .pointer (some ⟨b3, 0, none⟩)), (96, .int .i64 x.ops.length), (97, .int .i64 i), (7, .pointer (some ⟨b7, 0, none⟩)), (8, .pointer (some ⟨b8, 0, none⟩))] g ∧
      St w0 (ks []) [[(b2, cb (trC x) 33)], [(b3, cb (trC y) 33)], [(b7, cb (opC p) 39)], [(b8, cb (opC q) 39)]] w) ?_ (fun f w hM => ?_)
    · refine W_tree hs Try.mixed [true, true] [0, 1, 0, 7, 15, 0, 32, 0, 224, 480, 0, 0, 3103, 8191] [10, 11, 12, 13]
        (.rd 0 (.rd 1 (.rd 2 (.rd 3 (.rd 4 (.rd 5 (.rd 6 (.rd 7 (.rd 8 (.rd 9 (.alt 10 (.alt 11 (.alt 12 (.alt 13 .fin .no) .no) .no) (.alt 11 (.alt 10 (.alt 12 (.alt 13 .fin .no) .no) .no) .no)))))))))))) (by decide +kernel) ?_
      intro w hs; have hR := hs.mask [true, true]
      refine tq_r hR rfl rfl (fun w hR => r_field rfl fa33_4) ?_
      refine tq_r hR rfl rfl (fun w hR => r_load1 rfl ty28 (At.one (hR.own (i := 0) rfl) X13)) ?_
      refine tq_r hR rfl rfl (fun w hR => r_move) ?_
      refine tq_r hR rfl rfl (fun w hR => r_index rfl rfl sl28 (by omega) (by omega)) ?_
      refine tq_r hR rfl rfl (fun w hR => r_loadN rfl ty39 (opC_len p) (hax hR)) ?_
      refine tq_r hR rfl rfl (fun w hR => r_field rfl fa33_4) ?_
      refine tq_r hR rfl rfl (fun w hR => r_load1 rfl ty28 (At.one (hR.own (i := 1) rfl) Y13)) ?_
      refine tq_r hR rfl rfl (fun w hR => r_move) ?_
      refine tq_r hR rfl rfl (fun w hR => r_index rfl rfl sl28 (by omega) (by omega)) ?_
      refine tq_r hR rfl rfl (fun w hR => r_loadN rfl ty39 (opC_len q) (hay hR)) ?_
      have hp1 := opC_one ((hx.ao p hpm).shape.1)
      have hq1 := opC_one ((hy.ao q hqm).shape.1)
      refine tq_or hR rfl rfl ?_ ?_
      · refine o_alloc hs ty39 ?_; intro b7 w hs
        have hR := hs.mask [true, true]
        refine tq_e hR rfl rfl (o_alloc hs ty39 ?_); intro b8 w hs
        have hR := hs.mask [true, true]
        refine tq_e hR rfl rfl (o_store (i := 2) (vs := opC p) hs rfl rfl ty39 rfl hp1 (by simp [opC_len]) ?_); intro w hs
        have hR := hs.mask [true, true]
        refine tq_e hR rfl rfl (o_store (i := 3) (vs := opC q) hs rfl rfl ty39 rfl hq1 (by simp [opC_len]) ?_); intro w hs
        have hR := hs.mask [true, true]
        refine tq_z hR ?_
        exact ⟨_, b7, b8, ov_self ⟨rfl, rfl, rfl, rfl, rfl, rfl, trivial⟩, hs⟩
      · refine tq_e hR rfl rfl (o_alloc hs ty39 ?_); intro b8 w hs
        have hR := hs.mask [true, true]
        refine tq_e hR rfl rfl (o_alloc hs ty39 ?_); intro b7 w hs
        have hR := hs.mask [true, true]
        refine tq_e hR rfl rfl (o_store (i := 3) (vs := opC p) hs rfl rfl ty39 rfl hp1 (by simp [opC_len]) ?_); intro w hs
        have hR := hs.mask [true, true]
        refine tq_e hR rfl rfl (o_store (i := 2) (vs := opC q) hs rfl rfl ty39 rfl hq1 (by simp [opC_len]) ?_); intro w hs
        have hR := hs.mask [true, true]
        refine tq_z hR ?_
        refine ⟨_, b7, b8, ov_self ⟨rfl, rfl, rfl, rfl, rfl, rfl, trivial⟩, st_perm (ls := [[(b2, cb (trC x) 33)], [(b3, cb (trC y) 33)], [(b8, cb (opC q) 39)], [(b7, cb (opC p) 39)]]) hs ?_⟩
        simp only [List.flatten_cons, List.flatten_nil, List.append_nil, List.cons_append, List.nil_append]
        exact List.Perm.cons _ (List.Perm.cons _ (List.Perm.swap _ _ _))
    obtain ⟨g, b7, b8, rfl, hs⟩ := hM
    refine W_seq ?_
    refine W_region (by decide +kernel) ?_
    refine sq_r (r_field rfl fa39_0) rfl ?_
    refine sq_r (r_load1 rfl ty3 (At.one (hs.own (i := 2) rfl) rfl)) rfl ?_
    refine sq_r (r_field rfl fa39_0) rfl ?_
    refine sq_r (r_load1 rfl ty3 (At.one (hs.own (i := 3) rfl) rfl)) rfl ?_
    refine sq_r (r_cmp (r := false) rfl rfl (by simp [cmpB, hpq])) rfl ?_
    refine sq_r r_move rfl ?_
    refine sq_r (r_field rfl fa39_2) rfl ?_
    refine sq_r (r_load1 rfl ty2 (At.one (hs.own (i := 2) rfl) rfl)) rfl ?_
    refine sq_r (r_field rfl fa39_2) rfl ?_
    refine sq_r (r_load1 rfl ty2 (At.one (hs.own (i := 3) rfl) rfl)) rfl ?_
    refine sq_r (r_cmp (r := false) rfl rfl (by simp [cmpB, hpq])) rfl ?_
    refine sq_r (r_pick (b := false) rfl) rfl ?_
    refine sq_r r_move rfl ?_
    refine sq_r (r_field rfl fa39_3) rfl ?_
    refine sq_r (r_load1 rfl ty3 (At.one (hs.own (i := 2) rfl) rfl)) rfl ?_
    refine sq_r (r_field rfl fa39_3) rfl ?_
    refine sq_r (r_load1 rfl ty3 (At.one (hs.own (i := 3) rfl) rfl)) rfl ?_
    refine sq_r (r_cmp (r := false) rfl rfl (by simp [cmpB, hpq])) rfl ?_
    refine sq_r (r_pick (b := false) rfl) rfl ?_
    refine sq_r r_move rfl ?_
    refine sq_r (r_field rfl fa39_4) rfl ?_
    refine sq_r (r_load1 rfl ty3 (At.one (hs.own (i := 2) rfl) rfl)) rfl ?_
    refine sq_r (r_field rfl fa39_4) rfl ?_
    refine sq_r (r_load1 rfl ty3 (At.one (hs.own (i := 3) rfl) rfl)) rfl ?_
    refine sq_r (r_cmp (r := false) rfl rfl (by simp [cmpB, hpq])) rfl ?_
    refine sq_r (r_pick (b := false) rfl) rfl ?_
    refine sq_r r_move rfl ?_
    refine sq_r (r_field rfl fa39_1) rfl ?_
    refine sq_r (r_load1 rfl ty31 (At.one (v := p.2) (hs.own (i := 2) rfl) rfl)) rfl ?_
    refine sq_r (r_field rfl fa39_1) rfl ?_
    refine sq_r (r_load1 rfl ty31 (At.one (v := q.2) (hs.own (i := 3) rfl) rfl)) rfl ?_
    refine sq_e rfl (o_callN cb28 rfl rfl (Post := fun r _ => r = .bool true) (f28_calls p.2 q.2 p.1.args B (hsm.ao p hpm)) hs ⟨(hx.ao p hpm).old scF_len (by decide) hs hkB, by have := (hy.ao q hqm).old scF_len (by decide) hs hkB; rwa [← hpq] at this⟩ ?_)
    rintro u w rfl hs
    refine sq_r (r_not rfl) rfl ?_
    refine sq_r (r_pick (b := false) rfl) rfl ?_
    refine sq_z ?_
    refine W_cond rfl rfl (fun hc => ?_) (fun hc => ?_)
    · cases hc
    refine W_skip ?_
    refine W_region (by decide +kernel) ?_
    refine sq_r (r_add rfl rfl (wrap_small (by omega) (by omega))) rfl ?_
    refine sq_r r_move rfl ?_
    refine sq_z ?_
    exact ⟨i + 1, ⟨_, ov_self ⟨rfl, rfl, rfl, rfl, trivial⟩, by omega, hs.keep (by simp)⟩, by omega⟩
  refine W_exit ?_
  refine W_seq ?_
  refine W_seq ?_
  refine W_region (by decide +kernel) ?_
  refine sq_r (r_field rfl fa33_5) rfl ?_
  refine sq_r (r_load1 rfl ty29 (At.one (hs.own (i := 0) rfl) X14)) rfl ?_
  refine sq_r (r_lenS Try.underlying29 rfl) rfl ?_
  refine sq_r r_move rfl ?_
  refine sq_z ?_
  refine W_block ?_
  refine W_loop (fun (i : Nat) f w => ∃ g, f = ov [(2, .pointer (some ⟨b2, 0, none⟩)), (3, .pointer (some ⟨b3, 0, none⟩)), (147, .int .i64 x.links.length), (148, .int .i64 i)] g ∧ i ≤ x.links.length ∧ St w0 (ks []) [[(b2, cb (trC x) 33)], [(b3, cb (trC y) 33)]] w) (fun i => x.links.length - i) 0 ?_ ?_
  · exact ⟨_, ov_self ⟨rfl, rfl, rfl, rfl, trivial⟩, Nat.zero_le _, hs⟩
  clear hs
  rintro i f w ⟨g, rfl, hi, hs⟩
  refine W_seq ?_
  refine W_region (by decide +kernel) ?_
  refine sq_r (r_cmp rfl rfl rfl) rfl ?_
  refine sq_z ?_
  refine W_seq ?_
  refine W_cond rfl rfl (fun hd => ?_) (fun hd => ?_)
  · have hlt : i < x.links.length := by have := of_decide_eq_true hd; omega
    obtain ⟨p, hp⟩ : ∃ p, x.links[i]? = some p := ⟨_, List.getElem?_eq_getElem hlt⟩
    obtain ⟨q, hq⟩ : ∃ q, y.links[i]? = some q := ⟨_, List.getElem?_eq_getElem (by omega)⟩
    have hpq : p.1 = q.1 := map_get e6.symm hp hq
    have hpm := List.mem_of_getElem? hp
    have hqm := List.mem_of_getElem? hq
    obtain ⟨xb, xo, rfl, _, _⟩ := hxl.get hp
    obtain ⟨yb, yo, rfl, _, _⟩ := hyl.get hq
    have hax : ∀ {w : World} {cs : List Ck}, St w0 (ks []) cs w → At w xb (xo + ((i : Int).toNat) * 5) (lkC p) := fun hs => (hxl.old lkC_len (by decide) hs hkB).get2 hp
    have hay : ∀ {w : World} {cs : List Ck}, St w0 (ks []) cs w → At w yb (yo + ((i : Int).toNat) * 5) (lkC q) := fun hs => (hyl.old lkC_len (by decide) hs hkB).get2 hq
    refine W_skip ?_
    refine W_seq ?_
    refine W_block ?_
    refine W_seq ?_
    refine W_region (by decide +kernel) ?_
    refine sq_r r_move rfl ?_
    refine sq_r r_assign rfl ?_
    refine sq_z ?_
    refine W_mid (M := fun f w => ∃ g b7 b8, f = ov [(2, .pointer (some ⟨b2, 0, none⟩)), (3, .pointer (some ⟨b3, 0, none⟩)), (147, .int .i64 x.links.length), (148, .int .i64 i), (10, .pointer (some ⟨b7, 0, none⟩)), (11, .pointer (some ⟨b8, 0, none⟩))] g ∧
      St w0 (ks []) [[(b2, cb (trC x) 33)], [(b3, cb (trC y) 33)], [(b7, cb (lkC p) 76)], [(b8, cb (lkC q) 76)]] w) ?_ (fun f w hM => ?_)
    · refine W_tree hs Try.mixed [true, true] [0, 1, 0, 7, 15, 0, 32, 0, 224, 480, 0, 0, 3103, 8191] [10, 11, 12, 13]
        (.rd 0 (.rd 1 (.rd 2 (.rd 3 (.rd 4 (.rd 5 (.rd 6 (.rd 7 (.rd 8 (.rd 9 (.alt 10 (.alt 11 (.alt 12 (.alt 13 .fin .no) .no) .no) (.alt 11 (.alt 10 (.alt 12 (.alt 13 .fin .no) .no) .no) .no)))))))))))) (by decide +kernel) ?_
      intro w hs; have hR := hs.mask [true, true]
      refine tq_r hR rfl rfl (fun w hR => r_field rfl fa33_5) ?_
      refine tq_r hR rfl rfl (fun w hR => r_load1 rfl ty29 (At.one (hR.own (i := 0) rfl) X14)) ?_
      refine tq_r hR rfl rfl (fun w hR => r_move) ?_
      refine tq_r hR rfl rfl (fun w hR => r_index rfl rfl sl29 (by omega) (by omega)) ?_
      refine tq_r hR rfl rfl (fun w hR => r_loadN rfl ty76 (lkC_len p) (hax hR)) ?_
      refine tq_r hR rfl rfl (fun w hR => r_field rfl fa33_5) ?_
      refine tq_r hR rfl rfl (fun w hR => r_load1 rfl ty29 (At.one (hR.own (i := 1) rfl) Y14)) ?_
      refine tq_r hR rfl rfl (fun w hR => r_move) ?_
      refine tq_r hR rfl rfl (fun w hR => r_index rfl rfl sl29 (by omega) (by omega)) ?_
      refine tq_r hR rfl rfl (fun w hR => r_loadN rfl ty76 (lkC_len q) (hay hR)) ?_
      have hp1 := lkC_one ((hx.al p hpm).shape.1)
      have hq1 := lkC_one ((hy.al q hqm).shape.1)
      refine tq_or hR rfl rfl ?_ ?_
      · refine o_alloc hs ty76 ?_; intro b7 w hs
        have hR := hs.mask [true, true]
        refine tq_e hR rfl rfl (o_alloc hs ty76 ?_); intro b8 w hs
        have hR := hs.mask [true, true]
        refine tq_e hR rfl rfl (o_store (i := 2) (vs := lkC p) hs rfl rfl ty76 rfl hp1 (by simp [lkC_len]) ?_); intro w hs
        have hR := hs.mask [true, true]
        refine tq_e hR rfl rfl (o_store (i := 3) (vs := lkC q) hs rfl rfl ty76 rfl hq1 (by simp [lkC_len]) ?_); intro w hs
        have hR := hs.mask [true, true]
        refine tq_z hR ?_
        exact ⟨_, b7, b8, ov_self ⟨rfl, rfl, rfl, rfl, rfl, rfl, trivial⟩, hs⟩
      · refine tq_e hR rfl rfl (o_alloc hs ty76 ?_); intro b8 w hs
        have hR := hs.mask [true, true]
        refine tq_e hR rfl rfl (o_alloc hs ty76 ?_); intro b7 w hs
        have hR := hs.mask [true, true]
        refine tq_e hR rfl rfl (o_store (i := 3) (vs := lkC p) hs rfl rfl ty76 rfl hp1 (by simp [lkC_len]) ?_); intro w hs
        have hR := hs.mask [true, true]
        refine tq_e hR rfl rfl (o_store (i := 2) (vs := lkC q) hs rfl rfl ty76 rfl hq1 (by simp [lkC_len]) ?_); intro w hs
        have hR := hs.mask [true, true]
        refine tq_z hR ?_
        refine ⟨_, b7, b8, ov_self ⟨rfl, rfl, rfl, rfl, rfl, rfl, trivial⟩, st_perm (ls := [[(b2, cb (trC x) 33)], [(b3, cb (trC y) 33)], [(b8, cb (lkC q) 76)], [(b7, cb (lkC p) 76)]]) hs ?_⟩
        simp only [List.flatten_cons, List.flatten_nil, List.append_nil, List.cons_append, List.nil_append]
        exact List.Perm.cons _ (List.Perm.cons _ (List.Perm.swap _ _ _))
    obtain ⟨g, b7, b8, rfl, hs⟩ := hM
    refine W_seq ?_
    refine W_region (by decide +kernel) ?_
    refine sq_r (r_field rfl fa76_0) rfl ?_
    refine sq_r (r_load1 rfl ty3 (At.one (hs.own (i := 2) rfl) rfl)) rfl ?_
    refine sq_r (r_field rfl fa76_0) rfl ?_
    refine sq_r (r_load1 rfl ty3 (At.one (hs.own (i := 3) rfl) rfl)) rfl ?_
    refine sq_r (r_cmp (r := false) rfl rfl (by simp [cmpB, hpq])) rfl ?_
    refine sq_r r_move rfl ?_
    refine sq_r (r_field rfl fa76_1) rfl ?_
    refine sq_r (r_load1 rfl ty3 (At.one (hs.own (i := 2) rfl) rfl)) rfl ?_
    refine sq_r (r_field rfl fa76_1) rfl ?_
    refine sq_r (r_load1 rfl ty3 (At.one (hs.own (i := 3) rfl) rfl)) rfl ?_
    refine sq_r (r_cmp (r := false) rfl rfl (by simp [cmpB, hpq])) rfl ?_
    refine sq_r (r_pick (b := false) rfl) rfl ?_
    refine sq_r r_move rfl ?_
    refine sq_r (r_field rfl fa76_2) rfl ?_
    refine sq_r (r_load1 rfl ty3 (At.one (hs.own (i := 2) rfl) rfl)) rfl ?_
    refine sq_r (r_field rfl fa76_2) rfl ?_
    refine sq_r (r_load1 rfl ty3 (At.one (hs.own (i := 3) rfl) rfl)) rfl ?_
    refine sq_r (r_cmp (r := false) rfl rfl (by simp [cmpB, hpq])) rfl ?_
    refine sq_r (r_pick (b := false) rfl) rfl ?_
    refine sq_r r_move rfl ?_
    refine sq_r (r_field rfl fa76_3) rfl ?_
    refine sq_r (r_load1 rfl ty3 (At.one (hs.own (i := 2) rfl) rfl)) rfl ?_
    refine sq_r (r_field rfl fa76_3) rfl ?_
    refine sq_r (r_load1 rfl ty3 (At.one (hs.own (i := 3) rfl) rfl)) rfl ?_
    refine sq_r (r_cmp (r := false) rfl rfl (by simp [cmpB, hpq])) rfl ?_
    refine sq_r (r_pick (b := false) rfl) rfl ?_
    refine sq_r r_move rfl ?_
    refine sq_r (r_field rfl fa76_4) rfl ?_
    refine sq_r (r_load1 rfl ty31 (At.one (v := p.2) (hs.own (i := 2) rfl) rfl)) rfl ?_
    refine sq_r (r_field rfl fa76_4) rfl ?_
    refine sq_r (r_load1 rfl ty31 (At.one (v := q.2) (hs.own (i := 3) rfl) rfl)) rfl ?_
    refine sq_e rfl (o_callN cb28 rfl rfl (Post := fun r _ => r = .bool true) (f28_calls p.2 q.2 p.1.regs B (hsm.al p hpm)) hs ⟨(hx.al p hpm).old scF_len (by decide) hs hkB, by have := (hy.al q hqm).old scF_len (by decide) hs hkB; rwa [← hpq] at this⟩ ?_)
    rintro u w rfl hs
    refine sq_r (r_not rfl) rfl ?_
    refine sq_r (r_pick (b := false) rfl) rfl ?_
    refine sq_z ?_
    refine W_cond rfl rfl (fun hc => ?_) (fun hc => ?_)
    · cases hc
    refine W_skip ?_
    refine W_region (by decide +kernel) ?_
    refine sq_r (r_add rfl rfl (wrap_small (by omega) (by omega))) rfl ?_
    refine sq_r r_move rfl ?_
    refine sq_z ?_
    exact ⟨i + 1, ⟨_, ov_self ⟨rfl, rfl, rfl, rfl, trivial⟩, by omega, hs.keep (by simp)⟩, by omega⟩
  refine W_exit ?_
  refine W_seq ?_
  refine W_seq ?_
  refine W_region (by decide +kernel) ?_
  refine sq_r (r_field rfl fa33_6) rfl ?_
  refine sq_r (r_load1 rfl ty30 (At.one (hs.own (i := 0) rfl) X15)) rfl ?_
  refine sq_r (r_lenS Try.underlying30 rfl) rfl ?_
  refine sq_r r_move rfl ?_
  refine sq_z ?_
  refine W_block ?_
  refine W_loop (fun (i : Nat) f w => ∃ g, f = ov [(2, .pointer (some ⟨b2, 0, none⟩)), (3, .pointer (some ⟨b3, 0, none⟩)), (198, .int .i64 x.virts.length), (199, .int .i64 i)] g ∧ i ≤ x.virts.length ∧ St w0 (ks []) [[(b2, cb (trC x) 33)], [(b3, cb (trC y) 33)]] w) (fun i => x.virts.length - i) 0 ?_ ?_
  · exact ⟨_, ov_self ⟨rfl, rfl, rfl, rfl, trivial⟩, Nat.zero_le _, hs⟩
  clear hs
  rintro i f w ⟨g, rfl, hi, hs⟩
  refine W_seq ?_
  refine W_region (by decide +kernel) ?_
  refine sq_r (r_cmp rfl rfl rfl) rfl ?_
  refine sq_z ?_
  refine W_seq ?_
  refine W_cond rfl rfl (fun hd => ?_) (fun hd => ?_)
  · have hlt : i < x.virts.length := by have := of_decide_eq_true hd; omega
    obtain ⟨p, hp⟩ : ∃ p, x.virts[i]? = some p := ⟨_, List.getElem?_eq_getElem hlt⟩
    obtain ⟨q, hq⟩ : ∃ q, y.virts[i]? = some q := ⟨_, List.getElem?_eq_getElem (by omega)⟩
    have hpq : p.1 = q.1 := map_get e7.symm hp hq
    have hpm := List.mem_of_getElem? hp
    have hqm := List.mem_of_getElem? hq
    obtain ⟨xb, xo, rfl, _, _⟩ := hxv.get hp
    obtain ⟨yb, yo, rfl, _, _⟩ := hyv.get hq
    have hax : ∀ {w : World} {cs : List Ck}, St w0 (ks []) cs w → At w xb (xo + ((i : Int).toNat) * 2) (vtC p) := fun hs => (hxv.old vtC_len (by decide) hs hkB).get2 hp
    have hay : ∀ {w : World} {cs : List Ck}, St w0 (ks []) cs w → At w yb (yo + ((i : Int).toNat) * 2) (vtC q) := fun hs => (hyv.old vtC_len (by decide) hs hkB).get2 hq
    refine W_skip ?_
    refine W_seq ?_
    refine W_block ?_
    refine W_seq ?_
    refine W_region (by decide +kernel) ?_
    refine sq_r r_move rfl ?_
    refine sq_r r_assign rfl ?_
    refine sq_z ?_
    refine W_seq ?_
    refine W_drawM hs Try.mixed [true, true] [0, 1, 0, 7, 15, 31, 0, 64, 0, 448, 960, 1984, 4095, 8191, 16383, 32767, 16383, 131071, 262143, 524287, 16383, 1064959, 16383, 7356415, 15745023, 32522239, 67108863, 134217727, 268435455] [26] [0, 1, 2, 3, 4, 5, 6, 7, 8, 9, 10, 11, 12, 13, 14, 15, 16, 17, 18, 19, 20, 21, 22, 23, 24, 25, 26, 27, 28] (by decide +kernel) ?_
    intro w hs; have hR := hs.mask [true, true]
    refine dq_r hR rfl rfl rfl (fun _ w _ _ hR => r_field rfl fa33_6) ?_
    refine dq_r hR rfl rfl rfl (fun _ w _ _ hR => r_load1 rfl ty30 (At.one (hR.own (i := 0) rfl) X15)) ?_
    refine dq_r hR rfl rfl rfl (fun _ w _ _ hR => r_move) ?_
    refine dq_r hR rfl rfl rfl (fun _ w _ _ hR => r_index rfl rfl sl30 (by omega) (by omega)) ?_
    refine dq_r hR rfl rfl rfl (fun _ w _ _ hR => r_field rfl fa78_0) ?_
    refine dq_r hR rfl rfl rfl (fun _ w _ _ hR => r_load1 rfl ty3 (hax hR 0 _ rfl)) ?_
    refine dq_r hR rfl rfl rfl (fun _ w _ _ hR => r_field rfl fa33_6) ?_
    refine dq_r hR rfl rfl rfl (fun _ w _ _ hR => r_load1 rfl ty30 (At.one (hR.own (i := 1) rfl) Y15)) ?_
    refine dq_r hR rfl rfl rfl (fun _ w _ _ hR => r_move) ?_
    refine dq_r hR rfl rfl rfl (fun _ w _ _ hR => r_index rfl rfl sl30 (by omega) (by omega)) ?_
    refine dq_r hR rfl rfl rfl (fun _ w _ _ hR => r_field rfl fa78_0) ?_
    refine dq_r hR rfl rfl rfl (fun _ w _ _ hR => r_load1 rfl ty3 (hay hR 0 _ rfl)) ?_
    refine dq_r hR rfl rfl rfl (fun _ w _ _ hR => r_cmp (r := false) rfl rfl (by simp [cmpB, hpq])) ?_
    refine dq_r hR rfl rfl rfl (fun _ w _ _ hR => r_move) ?_
    refine dq_r hR rfl rfl rfl (fun _ w _ _ hR => r_field rfl fa33_6) ?_
    refine dq_r hR rfl rfl rfl (fun _ w _ _ hR => r_load1 rfl ty30 (At.one (hR.own (i := 0) rfl) X15)) ?_
    refine dq_r hR rfl rfl rfl (fun _ w _ _ hR => r_move) ?_
    refine dq_r hR rfl rfl rfl (fun _ w _ _ hR => r_index rfl rfl sl30 (by omega) (by omega)) ?_
    refine dq_r hR rfl rfl rfl (fun _ w _ _ hR => r_field rfl fa78_1) ?_
    refine dq_r hR rfl rfl rfl (fun _ w _ _ hR => r_load1 (v := p.2) rfl ty31 (hax hR 1 _ rfl)) ?_
    refine dq_r hR rfl rfl rfl (fun _ w _ _ hR => r_field rfl fa33_6) ?_
    refine dq_r hR rfl rfl rfl (fun _ w _ _ hR => r_load1 rfl ty30 (At.one (hR.own (i := 1) rfl) Y15)) ?_
    refine dq_r hR rfl rfl rfl (fun _ w _ _ hR => r_move) ?_
    refine dq_r hR rfl rfl rfl (fun _ w _ _ hR => r_index rfl rfl sl30 (by omega) (by omega)) ?_
    refine dq_r hR rfl rfl rfl (fun _ w _ _ hR => r_field rfl fa78_1) ?_
    refine dq_r hR rfl rfl rfl (fun _ w _ _ hR => r_load1 (v := q.2) rfl ty31 (hay hR 1 _ rfl)) ?_
    refine dq_e hR rfl rfl rfl (o_callN cb28 rfl rfl (Post := fun r _ => r = .bool true) (f28_calls p.2 q.2 p.1.cells B (hsm.av p hpm)) hs ⟨(hx.av p hpm).old scF_len (by decide) hs hkB, by have := (hy.av q hqm).old scF_len (by decide) hs hkB; rwa [← hpq] at this⟩ ?_)
    rintro u w rfl hs
    have hR := hs.mask [true, true]
    refine dq_r hR rfl rfl rfl (fun _ w _ _ hR => r_not rfl) ?_
    refine dq_r hR rfl rfl rfl (fun _ w _ _ hR => r_pick (b := false) rfl) ?_
    refine dq_z hR ?_
    refine W_cond rfl rfl (fun hc => ?_) (fun hc => ?_)
    · cases hc
    refine W_skip ?_
    refine W_region (by decide +kernel) ?_
    refine sq_r (r_add rfl rfl (wrap_small (by omega) (by omega))) rfl ?_
    refine sq_r r_move rfl ?_
    refine sq_z ?_
    exact ⟨i + 1, ⟨_, ov_self ⟨rfl, rfl, rfl, rfl, trivial⟩, by omega, hs.keep (by simp)⟩, by omega⟩
  refine W_exit ?_
  refine W_seq ?_
  -- region 29
  refine W_region (by decide +kernel) ?_
  refine sq_r r_assign rfl ?_
  refine sq_z ?_
  refine W_ret ?_
  exact ret1 (v := .bool true) rfl (by decide) rfl (fin (c' := []) hs ⟨rfl, rfl⟩ (by simp))

end Go.Proofs.Ytddhdoncjfgfnaa
