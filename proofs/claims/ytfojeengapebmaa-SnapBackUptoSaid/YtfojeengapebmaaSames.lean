/-
  Layer 17: the document's answer for lists of links that are alike: SameLinks. Conditions: there are few links and registers.
-/
import Derived.Test.YtfojeengapebmaaSame
namespace Go.Proofs.Ytfojeengapebmaa
open Go.Eng

theorem o_append_rd {α : Type} {P : Program} {w0 w : World} {F0 : List Nat} {ls : List Ck} {f : Fm} {K : Fm → World → Prop} {Qp : List PanicEntry → World → Prop} {d : Option Nat} {ty : TypeId} {pos : String} {after : Array Edge} {g : Option (Nat × Bool)}
    {T E s by_ : Nat} {a : Bool} {z : List Value} {x y : Operand} {i n : Nat} {v yv : Value} {zs : List Value} {xs : List α} {F : α → List Value} {B : Nat → Prop} {c : Ck} (hT : slOf P T = some (E, s, by_)) (hz : tyOf P E = some (a, s, z)) (hzl : z.length = s) (hF : ∀ x, (F x).length = s)
    (hs : St w0 F0 ls w) (hx : ev f x = v) (hy : ev f y = yv) (hrd : RdG s F B yv xs w) (hi : ls[i]? = some c) (hv : Sl E s v n zs c) (h1 : ∀ q ∈ xs.flatMap F, q.oneCell' = true) (h63 : n + xs.length ≤ maxLen) (hby : (n + xs.length) * by_ ≤ 140737488355328)
    (k : ∀ v' c' w', Sl E s v' (n + xs.length) (zs ++ xs.flatMap F) c' → St w0 F0 (ls.set i c') w' → K (put f d v') w') : opF P ⟨d, .call ⟨.builtin .append, #[x, y], #[T, T]⟩, ty, pos, after, g⟩ f w K Qp := by
  by_cases h0 : 0 < xs.length
  · obtain ⟨b, off, cap, rfl, hat⟩ := RdG.at hF hrd h0
    exact o_append (scap := cap) hT hz hzl hs hx hy hi hv (cat_len hF xs) hat h1 h63 hby k
  · have e : xs = [] := List.length_eq_zero_iff.1 (by omega)
    subst e
    obtain ⟨a, cap, rfl, _⟩ := hrd
    refine o_append_0 hT hx hy hv (k v c w (by simpa using hv) ?_)
    rw [list_set_same hi]; exact hs

set_option maxRecDepth 20000 in
theorem f12_calls (u v : Value) (xs ys : List Lk) (B : Nat → Prop) (hn : xs.length ≤ 1000000) (hr : ∀ l ∈ xs, l.regs.length ≤ 1000000) : Ctr Try.prog 12 #[u, v] [] (fun w => RdL B u xs w ∧ RdL B v ys w) (fun r c => (∃ b, r = .bool b ∧ (b = true ↔ xs = ys)) ∧ c = []) := by
  intro w0 hp hro
  have hs : St w0 (ks []) [] w0 := St.start w0
  obtain ⟨⟨ua, ucap, rfl, hu⟩, ⟨va, vcap, rfl, hv⟩⟩ := hro
  refine calls_W (n := 27) Try.func12 rfl Try.ntmps12 (by simp) ?_
  refine W_seq ?_
  -- region 0
  refine W_region (by decide +kernel) ?_
  refine sq_r r_assign rfl ?_
  refine sq_z ?_
  refine W_seq ?_
  refine W_seq ?_
  -- region 1
  refine W_region (by decide +kernel) ?_
  refine sq_r r_move rfl ?_
  refine sq_r (r_lenS Try.underlying28 rfl) rfl ?_
  refine sq_r r_move rfl ?_
  refine sq_r (r_lenS Try.underlying28 rfl) rfl ?_
  refine sq_r (r_cmp rfl rfl rfl) rfl ?_
  refine sq_z ?_
  refine W_cond rfl rfl (fun hd => ?_) (fun hd => ?_)
  · have hne : xs.length ≠ ys.length := by intro e; simp [e] at hd
    refine W_seq ?_
    -- region 2
    refine W_region (by decide +kernel) ?_
    refine sq_r r_assign rfl ?_
    refine sq_z ?_
    refine W_ret ?_
    repeat with_reducible first | refine thenQ_ret ?_ | refine blockQ_ret ?_
    exact ret1 (v := .bool false) rfl (by decide) rfl (fin (c' := []) hs ⟨⟨false, rfl, by simp; intro e; exact hne (by rw [e])⟩, rfl⟩ (by simp))
  have hlen : xs.length = ys.length := by
    have : ((xs.length : Int) != (ys.length : Int)) = false := hd
    have := by simpa using this
    omega
  refine W_skip ?_
  refine W_seq ?_
  refine W_seq ?_
  -- region 3
  refine W_region (by decide +kernel) ?_
  refine sq_r r_move rfl ?_
  refine sq_r (r_lenS Try.underlying28 rfl) rfl ?_
  refine sq_r r_move rfl ?_
  refine sq_z ?_
  refine W_block ?_ -- 0
  -- LOOP
  refine W_loop (fun (i : Nat) f w => ∃ g, f = ov [(0, .slice ua xs.length ucap), (1, .slice va ys.length vcap), (12, .int .i64 xs.length), (13, .int .i64 i)] g ∧ i ≤ xs.length ∧ (∀ j, j < i → xs[j]? = ys[j]?) ∧ St w0 (ks []) [] w) (fun i => xs.length - i) 0 ?_ ?_
  · exact ⟨_, ov_self ⟨rfl, rfl, rfl, rfl, trivial⟩, Nat.zero_le _, fun j hj => absurd hj (Nat.not_lt_zero j), hs⟩
  clear hs
  rintro i f w ⟨g, rfl, hi, hall, hs⟩
  refine W_seq ?_
  -- region 4
  refine W_region (by decide +kernel) ?_
  refine sq_r (r_cmp rfl rfl rfl) rfl ?_
  refine sq_z ?_
  refine W_seq ?_
  refine W_cond rfl rfl (fun hd => ?_) (fun hd => ?_)
  · have hlt : i < xs.length := by have := of_decide_eq_true hd; omega
    obtain ⟨p, hp⟩ : ∃ p, xs[i]? = some p := ⟨_, List.getElem?_eq_getElem hlt⟩
    obtain ⟨q, hq⟩ : ∃ q, ys[i]? = some q := ⟨_, List.getElem?_eq_getElem (by omega)⟩
    obtain ⟨bu, ou, ru, rfl, _, hatu, hru⟩ := hu i p hp
    obtain ⟨bv, ov', rv, rfl, _, hatv, hrv⟩ := hv i q hq
    have hau : ∀ {cs : List Ck} {w : World}, St w0 (ks []) cs w → At w bu (ou + i * 5) (lkC p ru) := fun hs => at_keep hs (by simp [ks]) (by simp [lkC]) hatu
    have hav : ∀ {cs : List Ck} {w : World}, St w0 (ks []) cs w → At w bv (ov' + i * 5) (lkC q rv) := fun hs => at_keep hs (by simp [ks]) (by simp [lkC]) hatv
    refine W_skip ?_
    refine W_seq ?_
    refine W_block ?_ -- 1
    refine W_seq ?_
    -- region 5
    refine W_region (by decide +kernel) ?_
    refine sq_r r_move rfl ?_
    refine sq_r r_assign rfl ?_
    refine sq_z ?_
    refine W_seq ?_
    -- region 6 DRAWS
    refine W_drawM hs Try.mixed [] [0, 0, 3, 7, 0, 0, 48, 112, 255, 511] [8] [0, 1, 2, 3, 4, 5, 6, 7, 8, 9] (by decide +kernel) ?_
    intro w hs; have hR := hs.mask []
    refine dq_r hR rfl rfl rfl (fun _ w _ _ hR => r_move) ?_
    refine dq_r hR rfl rfl rfl (fun _ w _ _ hR => r_move) ?_
    refine dq_r hR rfl rfl rfl (fun _ w _ _ hR => r_index rfl rfl sl28 (by omega) (by omega)) ?_
    refine dq_r hR rfl rfl rfl (fun _ w _ _ hR => r_loadN (vs := lkC p ru) rfl ty39 rfl (hau hR)) ?_
    refine dq_r hR rfl rfl rfl (fun _ w _ _ hR => r_move) ?_
    refine dq_r hR rfl rfl rfl (fun _ w _ _ hR => r_move) ?_
    refine dq_r hR rfl rfl rfl (fun _ w _ _ hR => r_index rfl rfl sl28 (by omega) (by omega)) ?_
    refine dq_r hR rfl rfl rfl (fun _ w _ _ hR => r_loadN (vs := lkC q rv) rfl ty39 rfl (hav hR)) ?_
    refine dq_e hR rfl rfl rfl (o_callN cb23 rfl rfl (Post := fun r _ => ∃ b, r = .bool b ∧ (b = true ↔ p = q)) (f23_calls p q ru rv B (hr p (List.mem_of_getElem? hp))) hs ⟨hru.keep hs (by simp [ks]), hrv.keep hs (by simp [ks])⟩ ?_)
    rintro r w ⟨b, rfl, hb⟩ hs
    have hR := hs.mask []
    refine dq_r hR rfl rfl rfl (fun _ w _ _ hR => r_not rfl) ?_
    refine dq_z hR ?_
    refine W_cond rfl rfl (fun he => ?_) (fun he => ?_)
    · have hpq : p ≠ q := fun e => by rw [hb.2 e] at he; cases he
      refine W_seq ?_
      -- region 7
      refine W_region (by decide +kernel) ?_
      refine sq_r r_assign rfl ?_
      refine sq_z ?_
      refine W_ret ?_
      repeat with_reducible first | refine thenQ_ret ?_ | refine blockQ_ret ?_
      refine ret1 (v := .bool false) rfl (by decide) rfl (fin (c' := []) hs ⟨⟨false, rfl, by simp; intro e; rw [e, hq] at hp; cases hp; exact hpq rfl⟩, rfl⟩ (by simp))
    · have hpq : p = q := hb.1 (by cases b <;> simp at he ⊢)
      refine W_skip ?_
      -- region 8
      refine W_region (by decide +kernel) ?_
      refine sq_r (r_add rfl rfl (wrap_small (by omega) (by omega))) rfl ?_
      refine sq_r r_move rfl ?_
      refine sq_z ?_
      refine ⟨i + 1, ⟨_, ov_self ⟨rfl, rfl, rfl, rfl, trivial⟩, by omega, fun j hj => ?_, hs⟩, by omega⟩
      by_cases hji : j < i
      · exact hall j hji
      · obtain rfl : j = i := by omega
        rw [hp, hq, hpq]
  · have hin : i = xs.length := by have := of_decide_eq_false hd; omega
    subst hin
    have hre : xs = ys := by
      apply List.ext_getElem?
      intro j
      by_cases hj : j < xs.length
      · exact hall j hj
      · rw [List.getElem?_eq_none (by omega), List.getElem?_eq_none (by omega)]
    refine W_exit ?_ -- 0
    refine W_seq ?_
    -- region 9
    refine W_region (by decide +kernel) ?_
    refine sq_r r_assign rfl ?_
    refine sq_z ?_
    refine W_ret ?_
    exact ret1 (v := .bool true) rfl (by decide) rfl (fin (c' := []) hs ⟨⟨true, rfl, by simp [hre]⟩, rfl⟩ (by simp))

end Go.Proofs.Ytfojeengapebmaa
