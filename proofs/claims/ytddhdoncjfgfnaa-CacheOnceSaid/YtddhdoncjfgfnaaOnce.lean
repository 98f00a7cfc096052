/-
  Layer 15: the law CacheOnce: never two traces of one key are held; the one that is told is the last that came. Condition: the traces are not long, and not many.
-/
import Derived.Test.YtddhdoncjfgfnaaPure
namespace Go.Proofs.Ytddhdoncjfgfnaa
open Go.Eng

section
variable {P : Program} {w : World} {f : Fm} {d : Option Nat} {ty : TypeId} {pos : String} {after : Array Edge} {g : Option (Nat × Bool)}
theorem r_eqSf {x y : Operand} {K U : TypeId} {fs : Array Field} {dd n : Nat} {a b : Vector Int n} (hab : a ≠ b) (hu : P.underlying K = some (.struct fs)) (hf : flat P dd K n = true) (hd : dd ≤ 10000) (hg : P.eqGuardType P.depth K = false)
    (hx : ev f x = encV a) (hy : ev f y = encV b) : (execOp (ev f) ⟨d, .binOp .eql K x y U, ty, pos, after, g⟩).run P w = .ok (.value (.bool false)) w := by
  have h := r_eqS (d := d) (ty := ty) (pos := pos) (after := after) (g := g) (U := U) (w := w) hu hf hd hg hx hy
  rw [h]
  simp [hab]
end
theorem spl_z (x : LT) : spl [Value.int .i64 0, .int .i64 0, .int .i64 0, .int .i64 0, .int .i64 0, .int .i64 0, .int .i64 0, .int .i64 0, .int .i64 0, .int .i64 0, .int .i64 0, .int .i64 0, .slice none 0 0, .slice none 0 0, .slice none 0 0, .slice none 0 0, .slice none 0 0] 0 (trC x) = trC x := spl_all (by simp [trC_len])

set_option maxRecDepth 40000 in
set_option maxHeartbeats 4000000 in
theorem f4_law (limit : Int) (v : Value) (ls : List LT) (hsm : ∀ x ∈ ls, x.small) (hn : ls.length ≤ 651562446070) : Ctr Try.prog 4 #[.int .i64 limit, v] [] (fun w => RdG 17 trC (· < w.heap.size) v ls w ∧ ∀ x ∈ ls, RdT (· < w.heap.size) x w) (fun v c => v = .bool true ∧ c = []) := by
  intro w0 hp hro
  have hs : St w0 (ks []) [] w0 := St.start w0
  have hmax : 20000000000000 ≤ maxLen := by decide +kernel
  have hkB : ∀ b, b < w0.heap.size → b ∉ ks [] := by simp [ks]
  obtain ⟨hrd, hrx⟩ := hro
  obtain ⟨a, cap, rfl⟩ := hrd.len
  refine calls_W (n := 102) Try.func4 rfl Try.ntmps4 (by simp) ?_
  refine W_seq ?_
  -- region 0
  refine W_region (by decide +kernel) ?_
  refine sq_r r_assign rfl ?_
  refine sq_z ?_
  refine W_seq ?_
  refine W_seq ?_
  -- region 1
  refine W_region (by decide +kernel) ?_
  refine sq_e rfl (o_callN cb7 rfl rfl (Post := fun v _ => v = .bool true) f7_calls hs trivial ?_)
  rintro v w rfl hs
  refine sq_r (r_not rfl) rfl ?_
  refine sq_z ?_
  refine W_cond rfl rfl (fun hc => ?_) (fun hc => ?_)
  · cases hc
  refine W_skip ?_
  refine W_seq ?_
  -- region 3
  refine W_region (by decide +kernel) ?_
  refine sq_r r_assign rfl ?_
  refine sq_z ?_
  refine W_seq ?_
  refine W_seq ?_
  -- region 4
  refine W_region (by decide +kernel) ?_
  refine sq_r r_move rfl ?_
  refine sq_r (r_lenS Try.underlying44 rfl) rfl ?_
  refine sq_r r_move rfl ?_
  refine sq_z ?_
  refine W_block ?_ -- 0
  refine W_loop (fun (i : Nat) f w => ∃ g z, f = ov [(0, .int .i64 limit), (1, .slice a ls.length cap), (5, .int .i64 z), (19, .slice a ls.length cap), (20, .int .i64 ls.length), (21, .int .i64 i)] g ∧ i ≤ ls.length ∧ St w0 (ks []) [] w) (fun i => ls.length - i) 0 ?_ ?_
  · exact ⟨_, _, ov_self ⟨rfl, rfl, rfl, rfl, rfl, rfl, trivial⟩, Nat.zero_le _, hs⟩
  clear hs
  rintro i f w ⟨g, z, rfl, hi, hs⟩
  refine W_seq ?_
  -- region 5
  refine W_region (by decide +kernel) ?_
  refine sq_r (r_cmp rfl rfl rfl) rfl ?_
  refine sq_z ?_
  refine W_seq ?_
  refine W_cond rfl rfl (fun hd => ?_) (fun hd => ?_)
  · have hlt : i < ls.length := by have := of_decide_eq_true hd; omega
    obtain ⟨x, hx⟩ : ∃ x, ls[i]? = some x := ⟨_, List.getElem?_eq_getElem hlt⟩
    have hxm := List.mem_of_getElem? hx
    obtain ⟨b, off, rfl, _, _⟩ := hrd.get hx
    refine W_skip ?_
    refine W_seq ?_
    refine W_block ?_ -- 1
    refine W_seq ?_
    -- region 6
    refine W_region (by decide +kernel) ?_
    refine sq_r (r_index rfl rfl sl44 (by omega) (by omega)) rfl ?_
    refine sq_r (r_loadN rfl ty33 (trC_len x) ((hrd.old trC_len (by decide) hs hkB).get2 hx)) rfl ?_
    refine sq_e rfl (o_alloc hs ty33 ?_); intro b7 w hs
    refine sq_e rfl (o_store (i := 0) (vs := trC x) hs rfl rfl (by rw [trC_len]; exact ty33) rfl (hrx x hxm).one (by simp [trC_len]) ?_); intro w hs
    refine sq_z ?_
    have hs : St w0 (ks []) [[(b7, cb (trC x) 33)]] w := by
      rw [← spl_z x]
      exact hs
    -- region 7
    refine W_region (by decide +kernel) ?_
    refine sq_r r_move rfl ?_
    refine sq_r (r_loadN rfl ty33 (trC_len x) (At.of_block (hs.own (i := 0) rfl) (by simp))) rfl ?_
    refine sq_e rfl (o_callN cb8 rfl rfl (Post := fun r _ => ∃ z, r = .int .i64 z) (f8_calls x (· < w0.heap.size) (hsm x hxm)) hs ((hrx x hxm).old hs hkB) ?_)
    rintro r w ⟨z', rfl⟩ hs
    refine sq_r (r_add rfl rfl rfl) rfl ?_
    refine sq_r (r_add rfl rfl rfl) rfl ?_
    refine sq_r r_assign rfl ?_
    refine sq_z ?_
    -- region 8
    refine W_region (by decide +kernel) ?_
    refine sq_r (r_add rfl rfl (wrap_small (by omega) (by omega))) rfl ?_
    refine sq_r r_move rfl ?_
    refine sq_z ?_
    exact ⟨i + 1, ⟨_, _, ov_self ⟨rfl, rfl, rfl, rfl, rfl, rfl, trivial⟩, by omega, hs.keep (by simp)⟩, by omega⟩
  refine W_exit ?_ -- 0
  refine W_seq ?_
  refine W_mid (M := fun f w => ∃ g b, f = ov [(0, .int .i64 limit), (1, .slice a ls.length cap), (36, .bool b)] g ∧ (b = false → 1 ≤ limit) ∧ St w0 (ks []) [] w) ?_ (fun f w hM => ?_)
  · -- region 9
    refine W_region (by decide +kernel) ?_
    refine sq_r r_move rfl ?_
    by_cases hl : limit < 1
    · refine sq_r (r_cmp (r := true) rfl rfl (by simp [cmpB, hl])) rfl ?_
      refine sq_r r_move rfl ?_
      refine sq_n rfl ?_
      refine sq_n rfl ?_
      refine sq_r (r_pick (b := true) rfl) rfl ?_
      refine sq_z ?_
      exact ⟨_, true, ov_self ⟨rfl, rfl, rfl, trivial⟩, (fun h => by cases h), hs⟩
    · refine sq_r (r_cmp (r := false) rfl rfl (by simp [cmpB]; omega)) rfl ?_
      refine sq_r r_move rfl ?_
      refine sq_r r_move rfl ?_
      refine sq_r (r_cmp rfl rfl rfl) rfl ?_
      refine sq_r (r_pick (b := false) rfl) rfl ?_
      refine sq_z ?_
      exact ⟨_, _, ov_self ⟨rfl, rfl, rfl, trivial⟩, (fun _ => by omega), hs⟩
  obtain ⟨g, b, rfl, hb, hs⟩ := hM
  refine W_cond rfl rfl (fun hc => ?_) (fun hc => ?_)
  · refine W_seq ?_
    -- region 10
    refine W_region (by decide +kernel) ?_
    refine sq_r r_assign rfl ?_
    refine sq_z ?_
    refine W_ret ?_
    repeat with_reducible first | refine thenQ_ret ?_ | refine blockQ_ret ?_
    exact ret1 (v := .bool true) rfl (by decide) rfl (fin (c' := []) hs ⟨rfl, rfl⟩ (by simp))
  have hlim := hb hc
  refine W_skip ?_
  refine W_seq ?_
  -- region 11
  refine W_region (by decide +kernel) ?_
  refine sq_r r_move rfl ?_
  refine sq_e rfl (o_call0 cb9 rfl rfl (f9_calls limit (.slice none 0 0) [] (fun _ => True) (by simp)) hs RdG.nil ?_)
  rintro v c w ⟨bb, c0, rfl, hcp, hb0⟩ hs
  have hs : St w0 (ks []) [c0] w := st_perm (ls := [c]) hs (by simpa using hcp)
  refine sq_r r_assign rfl ?_
  refine sq_z ?_
  refine W_seq ?_
  refine W_seq ?_
  -- region 12
  refine W_region (by decide +kernel) ?_
  refine sq_r r_move rfl ?_
  refine sq_r (r_eqnil Try.underlying36 rfl rfl) rfl ?_
  refine sq_z ?_
  refine W_cond rfl rfl (fun hc => ?_) (fun hc => ?_)
  · cases hc
  refine W_skip ?_
  refine W_seq ?_
  refine W_seq ?_
  -- region 14
  refine W_region (by decide +kernel) ?_
  refine sq_r r_move rfl ?_
  refine sq_r (r_lenS Try.underlying44 rfl) rfl ?_
  refine sq_r r_move rfl ?_
  refine sq_z ?_
  refine W_block ?_ -- 2
  have hI0 : Inv (newK limit []) := Inv.new limit [] (by simp)
  have hl0 : (newK limit []).limit ≠ 0 := by simp only [newK]; omega
  -- LOOP
  refine W_loop (fun (i : Nat) f w => ∃ g s c, f = ov [(8, .pointer (some ⟨bb, 0, none⟩)), (41, .slice a ls.length cap), (42, .int .i64 ls.length), (43, .int .i64 i)] g ∧ i ≤ ls.length ∧ Inv s ∧ s.limit ≠ 0 ∧ s.last = (i : Int) ∧ BK bb s c ∧ St w0 (ks []) [c] w) (fun i => ls.length - i) 0 ?_ ?_
  · exact ⟨_, _, c0, ov_self ⟨rfl, rfl, rfl, rfl, trivial⟩, Nat.zero_le _, hI0, hl0, rfl, hb0, hs⟩
  clear hs hb0
  rintro i f w ⟨g, s, c, rfl, hi, hI, hl, hla, hb, hs⟩
  refine W_seq ?_
  -- region 15
  refine W_region (by decide +kernel) ?_
  refine sq_r (r_cmp rfl rfl rfl) rfl ?_
  refine sq_z ?_
  refine W_seq ?_
  refine W_cond rfl rfl (fun hd => ?_) (fun hd => ?_)
  · have hlt : i < ls.length := by have := of_decide_eq_true hd; omega
    obtain ⟨x, hx⟩ : ∃ x, ls[i]? = some x := ⟨_, List.getElem?_eq_getElem hlt⟩
    have hxm := List.mem_of_getElem? hx
    have hxsm := hsm x hxm
    obtain ⟨b, off, rfl, _, _⟩ := hrd.get hx
    refine W_skip ?_
    refine W_seq ?_
    refine W_block ?_ -- 3
    refine W_seq ?_
    -- region 16
    refine W_region (by decide +kernel) ?_
    refine sq_r r_move rfl ?_
    refine sq_r (r_index rfl rfl sl44 (by omega) (by omega)) rfl ?_
    refine sq_r (r_loadN rfl ty33 (trC_len x) ((hrd.old trC_len (by decide) hs hkB).get2 hx)) rfl ?_
    refine sq_e rfl (o_alloc hs ty33 ?_); intro b10 w hs
    refine sq_r r_assign rfl ?_
    refine sq_e rfl (o_store (i := 1) (vs := trC x) hs rfl rfl (by rw [trC_len]; exact ty33) rfl (hrx x hxm).one (by simp [trC_len]) ?_); intro w hs
    refine sq_z ?_
    have hs : St w0 (ks []) [c, [(b10, cb (trC x) 33)]] w := by
      rw [← spl_z x]
      exact hs
    refine W_seq ?_
    refine W_seq ?_
    -- region 17
    refine W_region (by decide +kernel) ?_
    refine sq_r r_move rfl ?_
    refine sq_r (r_loadN rfl ty33 (trC_len x) (At.of_block (hs.own (i := 1) rfl) (by simp))) rfl ?_
    refine sq_e rfl (o_call (i := 0) cb10 rfl rfl (f10_calls bb s c hb hI.ok (by omega) x hxsm) hs rfl (((hrx x hxm).old hs hkB).mono fun b hb h => st_out0 hs hb (ks_mem (i := 0) rfl h)) ?_)
    rintro u c1 w ⟨y, hyt, rfl, hb1⟩ hs
    obtain ⟨hI1, hfind, hat1⟩ := put_inv hI hl y
    obtain ⟨hla1, hl1⟩ := put_last hl y
    have hyk : y.key = x.key := (LT.t_eq hyt).1
    have hpn : putN s = ((i + 1 : Nat) : Int) := by rw [putN, if_neg hl, hla]; omega
    rw [hyk] at hfind
    rw [hla] at hfind hla1 hat1
    obtain ⟨s1, es1⟩ : ∃ s', s' = putS s y := ⟨_, rfl⟩
    rw [← es1] at hI1 hfind hat1 hla1 hl1 hb1
    rw [hpn]
    refine sq_r r_move rfl ?_
    refine sq_r (r_add (c := ((i + 1 : Nat) : Int)) rfl rfl (by rw [wrap_small (by omega) (by omega)]; omega)) rfl ?_
    refine sq_r (r_cmp (r := false) rfl rfl (by simp [cmpB])) rfl ?_
    refine sq_z ?_
    refine W_cond rfl rfl (fun hc => ?_) (fun hc => ?_)
    · cases hc
    refine W_skip ?_
    refine W_seq ?_
    -- region 19
    have ho1 := hI1.ok.o
    have hlm1 := hI1.ok.lim
    have h11 := f11_calls bb s1 c1 hb1 x.key (by omega)
    rw [hfind] at h11
    refine W_region (by decide +kernel) ?_
    refine sq_r r_move rfl ?_
    refine sq_r (r_field rfl fa33_0) rfl ?_
    refine sq_r (r_loadN (vs := ic x.key.toList) rfl ty26 (by simp) (At.of_block (hs.own (i := 1) rfl) (by simpa using trC_key x))) rfl ?_
    refine sq_e rfl (o_call0 cb11 rfl rfl h11 hs (hs.at (i := 0) rfl) ?_)
    rintro u d w h11 hs
    obtain ⟨y1, ci1, cbk1, co1, cl1, cv1, dd1, rfl, hy1t, hown1, rfl⟩ : ∃ y ci cbk co cl cv dd, u = .tuple #[evT y, .int .i64 ((i : Int) + 1), .bool true] ∧ y.t = (at15 s1 ((i : Int) + 1)).t ∧ Own y ci co cl cv cbk dd ∧ d = ci ++ (cbk ++ (co ++ (cl ++ (cv ++ dd)))) := by
      rcases h11 with ⟨h, _⟩ | ⟨_, h⟩
      · omega
      · exact h
    rw [hat1] at hy1t
    have hy1x : y1.t = x.t := hy1t.trans hyt
    have hry1 : ∀ {w : World}, Hp (ci1 ++ (cbk1 ++ (co1 ++ (cl1 ++ (cv1 ++ dd1))))) w → RdT (fun _ => True) y1 w := fun h => (hown1.rd h).mono fun _ _ => trivial
    have hy11 := (hry1 (hs.at (i := 2) rfl)).one
    refine sq_r r_move rfl ?_
    refine sq_r (r_extract rfl rfl) rfl ?_
    refine sq_r (r_extract rfl rfl) rfl ?_
    refine sq_r (r_extract rfl rfl) rfl ?_
    refine sq_e rfl (o_alloc hs ty33 ?_); intro b11 w hs
    refine sq_e rfl (o_store (i := 3) (vs := trC y1) hs rfl rfl (by rw [trC_len]; exact ty33) rfl hy11 (by simp [trC_len]) ?_); intro w hs
    refine sq_r r_assign rfl ?_
    refine sq_r r_assign rfl ?_
    refine sq_z ?_
    have hs : St w0 (ks []) [c1, [(b10, cb (trC x) 33)], ci1 ++ (cbk1 ++ (co1 ++ (cl1 ++ (cv1 ++ dd1)))), [(b11, cb (trC y1) 33)]] w := by
      rw [← spl_z y1]
      exact hs
    refine W_seq ?_
    refine W_seq ?_
    -- region 20
    refine W_region (by decide +kernel) ?_
    refine sq_r r_move rfl ?_
    refine sq_r (r_not rfl) rfl ?_
    refine sq_r r_move rfl ?_
    refine sq_r r_move rfl ?_
    refine sq_r r_move rfl ?_
    refine sq_r (r_add (c := (i : Int) + 1) rfl rfl (wrap_small (by omega) (by omega))) rfl ?_
    refine sq_r (r_cmp (r := false) rfl rfl (by simp [cmpB])) rfl ?_
    refine sq_r (r_pick (b := false) rfl) rfl ?_
    refine sq_r r_move rfl ?_
    refine sq_r (r_loadN rfl ty33 (trC_len y1) (At.of_block (hs.own (i := 3) rfl) (by simp))) rfl ?_
    refine sq_r (r_loadN rfl ty33 (trC_len x) (At.of_block (hs.own (i := 1) rfl) (by simp))) rfl ?_
    refine sq_e rfl (o_callN cb12 rfl rfl (Post := fun r _ => r = .bool true) (f12_calls y1 x (fun _ => True) hy1x.symm (small_t hxsm hy1x)) hs ⟨hry1 (hs.at (i := 2) rfl), ((hrx x hxm).old hs hkB).mono fun _ _ => trivial⟩ ?_)
    rintro u w rfl hs
    refine sq_r (r_not rfl) rfl ?_
    refine sq_r (r_pick (b := false) rfl) rfl ?_
    refine sq_z ?_
    refine W_cond rfl rfl (fun hc => ?_) (fun hc => ?_)
    · cases hc
    have hs : St w0 (ks []) [c1] w := hs.keep (by simp)
    refine W_skip ?_
    refine W_seq ?_
    -- region 22
    have h13 := f13_calls bb s1 c1 hb1 (by omega)
    obtain ⟨K, hK⟩ : ∃ K, K = s1.order.map (keyOf s1) := ⟨_, rfl⟩
    have hKn : K.Nodup := by rw [hK]; exact hI1.keys
    have hKl : s1.order.length = K.length := by rw [hK, List.length_map]
    rw [← hK, hKl] at h13
    have hKb : K.length ≤ 1000 := by omega
    refine W_region (by decide +kernel) ?_
    refine sq_r r_move rfl ?_
    refine sq_e rfl (o_call0 cb13 rfl rfl h13 hs (hs.at (i := 0) rfl) ?_)
    rintro u d w hsl hs
    have hlx := Sl.len hsl
    obtain ⟨ka, hlx⟩ := hlx
    obtain ⟨kcap, hue⟩ := hlx
    subst hue
    have hkc : K.length ≤ kcap := by
      rcases hsl.2 with ⟨h1, h2, _, _⟩ | ⟨_, cap', _, h1, _, h3, _, _⟩
      · omega
      · simp only [Value.slice.injEq] at h1; omega
    refine sq_r r_assign rfl ?_
    refine sq_z ?_
    have hs : St w0 (ks []) [c1, d] w := hs
    refine W_seq ?_
    -- region 23
    refine W_region (by decide +kernel) ?_
    refine sq_r r_move rfl ?_
    refine sq_r (r_lenS Try.underlying45 rfl) rfl ?_
    refine sq_r r_move rfl ?_
    refine sq_z ?_
    refine W_block ?_ -- 4
    -- LOOP
    refine W_loop (fun (p : Nat) f w => ∃ g, f = ov [(8, .pointer (some ⟨bb, 0, none⟩)), (41, .slice (some ⟨b, off, none⟩) ls.length cap), (42, .int .i64 ls.length), (43, .int .i64 i), (14, .slice ka K.length kcap), (79, .int .i64 K.length), (80, .int .i64 p)] g ∧ p ≤ K.length ∧ St w0 (ks []) [c1, d] w) (fun p => K.length - p) 0 ?_ ?_
    · exact ⟨_, ov_self ⟨rfl, rfl, rfl, rfl, rfl, rfl, rfl, trivial⟩, Nat.zero_le _, hs⟩
    clear hs
    rintro p f w ⟨g, rfl, hpl, hs⟩
    refine W_seq ?_
    -- region 24
    refine W_region (by decide +kernel) ?_
    refine sq_r (r_cmp rfl rfl rfl) rfl ?_
    refine sq_z ?_
    refine W_seq ?_
    refine W_cond rfl rfl (fun hd2 => ?_) (fun hd2 => ?_)
    · have hplt : p < K.length := by have := of_decide_eq_true hd2; omega
      obtain ⟨kp, hkp⟩ : ∃ k, K[p]? = some k := ⟨_, List.getElem?_eq_getElem hplt⟩
      obtain ⟨kb, kcap', krest, hkv, hkd, hkcell, _⟩ := hsl.get kF_len hkp (by decide)
      simp only [Value.slice.injEq, true_and] at hkv
      obtain ⟨rfl, rfl⟩ := hkv
      refine W_skip ?_
      refine W_seq ?_
      refine W_block ?_ -- 5
      refine W_seq ?_
      -- region 25
      refine W_region (by decide +kernel) ?_
      refine sq_r r_move rfl ?_
      refine sq_r r_assign rfl ?_
      refine sq_z ?_
      refine W_seq ?_
      -- region 26
      refine W_region (by decide +kernel) ?_
      refine sq_r r_move rfl ?_
      refine sq_r r_move rfl ?_
      refine sq_r (r_sliceHi sl45 rfl rfl (by omega) (by omega)) rfl ?_
      refine sq_r (r_lenS Try.underlying45 rfl) rfl ?_
      refine sq_r r_move rfl ?_
      refine sq_z ?_
      refine W_block ?_ -- 6
      -- LOOP
      refine W_loop (fun (q : Nat) f w => ∃ g, f = ov [(8, .pointer (some ⟨bb, 0, none⟩)), (41, .slice (some ⟨b, off, none⟩) ls.length cap), (42, .int .i64 ls.length), (43, .int .i64 i), (14, .slice (some ⟨kb, 0, none⟩) K.length kcap), (79, .int .i64 K.length), (80, .int .i64 p), (15, .int .i64 p), (86, .int .i64 p), (87, .int .i64 q)] g ∧ q ≤ p ∧ St w0 (ks []) [c1, d] w) (fun q => p - q) 0 ?_ ?_
      · exact ⟨_, ov_self ⟨rfl, rfl, rfl, rfl, rfl, rfl, rfl, rfl, rfl, rfl, trivial⟩, Nat.zero_le _, hs⟩
      clear hs
      rintro q f w ⟨g, rfl, hql, hs⟩
      refine W_seq ?_
      -- region 27
      refine W_region (by decide +kernel) ?_
      refine sq_r (r_cmp rfl rfl rfl) rfl ?_
      refine sq_z ?_
      refine W_seq ?_
      refine W_cond rfl rfl (fun hd3 => ?_) (fun hd3 => ?_)
      · have hqlt : q < p := by have := of_decide_eq_true hd3; omega
        obtain ⟨kq, hkq⟩ : ∃ k, K[q]? = some k := ⟨_, List.getElem?_eq_getElem (by omega)⟩
        have hne : kp ≠ kq := by
          intro e
          have h1 := List.pairwise_iff_getElem.1 hKn q p (by omega) hplt hqlt
          obtain ⟨_, e1⟩ := List.getElem?_eq_some_iff.1 hkp
          obtain ⟨_, e2⟩ := List.getElem?_eq_some_iff.1 hkq
          exact h1 (by rw [e1, e2, e])
        have hrdk : ∀ {w : World}, Hp d w → RdG 10 kF (· ∈ ks d) (.slice (some ⟨kb, 0, none⟩) K.length kcap) K w := fun h => sl_rd kF_len (by decide) hsl h
        refine W_skip ?_
        refine W_seq ?_
        refine W_block ?_ -- 7
        refine W_seq ?_
        -- region 28
        refine W_region (by decide +kernel) ?_
        refine sq_r r_move rfl ?_
        refine sq_r r_assign rfl ?_
        refine sq_z ?_
        refine W_seq ?_
        -- region 29 DRAWS
        refine W_drawM hs Try.mixed [true, true] [0, 0, 3, 7, 0, 0, 48, 112, 255] [] [0, 1, 2, 3, 4, 5, 6, 7, 8] (by decide +kernel) ?_
        intro w hs; have hR := hs.mask [true, true]
        refine dq_r hR rfl rfl rfl (fun _ w _ _ hR => r_move) ?_
        refine dq_r hR rfl rfl rfl (fun _ w _ _ hR => r_move) ?_
        refine dq_r hR rfl rfl rfl (fun _ w _ _ hR => r_index rfl rfl sl45 (by omega) (by omega)) ?_
        refine dq_r hR rfl rfl rfl (fun _ w _ _ hR => r_loadN rfl ty26 (kF_len kp) ((hrdk (hR.at (i := 1) rfl)).get2 hkp)) ?_
        refine dq_r hR rfl rfl rfl (fun _ w _ _ hR => r_move) ?_
        refine dq_r hR rfl rfl rfl (fun _ w _ _ hR => r_move) ?_
        refine dq_r hR rfl rfl rfl (fun _ w _ _ hR => r_index rfl rfl sl45 (by omega) (by omega)) ?_
        refine dq_r hR rfl rfl rfl (fun _ w _ _ hR => r_loadN rfl ty26 (kF_len kq) ((hrdk (hR.at (i := 1) rfl)).get2 hkq)) ?_
        refine dq_r hR rfl rfl rfl (fun _ w _ _ hR => r_eqSf (a := kp) (b := kq) hne Try.underlying26 flat26 (by decide) guard26 rfl rfl) ?_
        refine dq_z hR ?_
        refine W_cond rfl rfl (fun hc => ?_) (fun hc => ?_)
        · cases hc
        refine W_skip ?_
        -- region 31
        refine W_region (by decide +kernel) ?_
        refine sq_r (r_add rfl rfl (wrap_small (by omega) (by omega))) rfl ?_
        refine sq_r r_move rfl ?_
        refine sq_z ?_
        exact ⟨q + 1, ⟨_, ov_self ⟨rfl, rfl, rfl, rfl, rfl, rfl, rfl, rfl, rfl, rfl, trivial⟩, by omega, hs⟩, by omega⟩
      · refine W_exit ?_ -- 6
        -- region 32
        refine W_region (by decide +kernel) ?_
        refine sq_r (r_add rfl rfl (wrap_small (by omega) (by omega))) rfl ?_
        refine sq_r r_move rfl ?_
        refine sq_z ?_
        exact ⟨p + 1, ⟨_, ov_self ⟨rfl, rfl, rfl, rfl, rfl, rfl, rfl, trivial⟩, by omega, hs⟩, by omega⟩
    · refine W_exit ?_ -- 4
      -- region 33
      refine W_region (by decide +kernel) ?_
      refine sq_r (r_add rfl rfl (wrap_small (by omega) (by omega))) rfl ?_
      refine sq_r r_move rfl ?_
      refine sq_z ?_
      exact ⟨i + 1, ⟨_, s1, c1, ov_self ⟨rfl, rfl, rfl, rfl, trivial⟩, by omega, hI1, by rw [hl1]; exact hl, by rw [hla1]; omega, hb1, hs.keep (by simp)⟩, by omega⟩
  · refine W_exit ?_ -- 2
    refine W_seq ?_
    -- region 34
    refine W_region (by decide +kernel) ?_
    refine sq_r r_assign rfl ?_
    refine sq_z ?_
    refine W_ret ?_
    exact ret1 (v := .bool true) rfl (by decide) rfl (fin (c' := []) hs ⟨rfl, rfl⟩ (by simp))

end Go.Proofs.Ytddhdoncjfgfnaa
