/-
  Layer 17: how much chains have in them (many). Condition: it is not very much.
-/
import Derived.Test.YtfojeengapebmaaSize
namespace Go.Proofs.Ytfojeengapebmaa
open Go.Eng

/-- A slice of chains that may be read. -/
def RdC (B : Nat → Prop) (v : Value) (cs : List (List Lk)) (w : World) : Prop :=
  ∃ a cap, v = .slice a cs.length cap ∧ ∀ i c, cs[i]? = some c → ∃ b off cv, a = some ⟨b, off, none⟩ ∧ B b ∧ At w b (off + i * 1) [cv] ∧ RdL B cv c w
theorem RdC.keep {B : Nat → Prop} {v : Value} {ls : List (List Lk)} {w0 w : World} {F0 : List Nat} {cs : List Ck} (h : RdC B v ls w0) (hs : St w0 F0 cs w) (hB : ∀ b, B b → b ∉ F0) : RdC B v ls w := by
  obtain ⟨a, cap, hv, hall⟩ := h
  refine ⟨a, cap, hv, fun i x hi => ?_⟩
  obtain ⟨b, off, cv, ha, hb, hat, hr⟩ := hall i x hi
  exact ⟨b, off, cv, ha, hb, at_keep hs (hB b hb) (by simp) hat, hr.keep hs hB⟩
def mny (cs : List (List Lk)) : Nat := (cs.map fun c => c.length + rgn c + 1).sum
theorem mny_take {l : List (List Lk)} {i : Nat} {x : List Lk} (hx : l[i]? = some x) : mny (l.take (i + 1)) = mny (l.take i) + (x.length + rgn x + 1) := by
  unfold mny
  rw [List.take_add_one, hx]
  simp
theorem mny_le (l : List (List Lk)) (i : Nat) : mny (l.take i) ≤ mny l := by
  unfold mny
  conv => rhs; rw [← List.take_append_drop i l]
  rw [List.map_append, List.sum_append]
  omega
theorem len_mny (l : List (List Lk)) : l.length ≤ mny l := by
  induction l with
  | nil => simp
  | cons x l ih => simp only [mny, List.map_cons, List.sum_cons, List.length_cons] at ih ⊢; omega
theorem build_tr (w : World) (a : Option Addr) (n c : Nat) : (Instr.build 51 #[(5, .slice a n c)]).run Try.prog w = .ok (.agg (trC (.slice a n c) (.slice none 0 0)).toArray) w := by kernel_rfl

set_option maxRecDepth 20000 in
theorem f8_calls (v : Value) (cs : List (List Lk)) (B : Nat → Prop) (hb : mny cs ≤ 4000000000000000000) : Ctr Try.prog 8 #[v] [] (RdC B v cs) (fun r c => r = .int .i64 (mny cs : Nat) ∧ c = []) := by
  intro w0 hp hro
  have hs : St w0 (ks []) [] w0 := St.start w0
  obtain ⟨a, cap, rfl, hall⟩ := hro
  have hlm := len_mny cs
  refine calls_W (n := 20) Try.func8 rfl Try.ntmps8 (by simp) ?_
  refine W_seq ?_
  -- region 0
  refine W_region (by decide +kernel) ?_
  refine sq_r r_assign rfl ?_
  refine sq_z ?_
  refine W_seq ?_
  -- region 1
  refine W_region (by decide +kernel) ?_
  refine sq_r r_assign rfl ?_
  refine sq_z ?_
  refine W_seq ?_
  refine W_seq ?_
  -- region 2
  refine W_region (by decide +kernel) ?_
  refine sq_r r_move rfl ?_
  refine sq_r (r_lenS Try.underlying22 rfl) rfl ?_
  refine sq_r r_move rfl ?_
  refine sq_z ?_
  refine W_block ?_ -- 0
  -- LOOP
  refine W_loop (fun (i : Nat) f w => ∃ g, f = ov [(3, .int .i64 (mny (cs.take i) : Nat)), (6, .slice a cs.length cap), (7, .int .i64 cs.length), (8, .int .i64 i)] g ∧ i ≤ cs.length ∧ St w0 (ks []) [] w) (fun i => cs.length - i) 0 ?_ ?_
  · exact ⟨_, ov_self ⟨rfl, rfl, rfl, rfl, trivial⟩, Nat.zero_le _, hs⟩
  clear hs
  rintro i f w ⟨g, rfl, hi, hs⟩
  refine W_seq ?_
  -- region 3
  refine W_region (by decide +kernel) ?_
  refine sq_r (r_cmp rfl rfl rfl) rfl ?_
  refine sq_z ?_
  refine W_seq ?_
  refine W_cond rfl rfl (fun hd => ?_) (fun hd => ?_)
  · have hlt : i < cs.length := by have := of_decide_eq_true hd; omega
    obtain ⟨x, hx⟩ : ∃ x, cs[i]? = some x := ⟨_, List.getElem?_eq_getElem hlt⟩
    obtain ⟨b, off, cv, rfl, _, hat0, hrd⟩ := hall i x hx
    obtain ⟨ca, ccap, hcv, _⟩ := id hrd
    subst hcv
    have hat : At w b (off + i * 1) [Value.slice ca x.length ccap] := at_keep hs (by simp [ks]) (by simp) hat0
    have hrt := mny_take hx
    have hrl := mny_le cs (i + 1)
    refine W_skip ?_
    refine W_seq ?_
    refine W_block ?_ -- 1
    refine W_seq ?_
    -- region 4
    refine W_region (by decide +kernel) ?_
    refine sq_r (r_index rfl rfl sl22 (by omega) (by omega)) rfl ?_
    refine sq_r (r_load1 rfl ty28 (hat 0 _ rfl)) rfl ?_
    refine sq_r r_assign rfl ?_
    refine sq_z ?_
    -- region 5
    refine W_region (by decide +kernel) ?_
    refine sq_r r_move rfl ?_
    refine sq_r r_move rfl ?_
    refine sq_r (r_buildL (ps := [(5, .slice ca x.length ccap)]) rfl (build_tr _ _ _ _)) rfl ?_
    refine sq_e rfl (o_callN cb16 rfl rfl (Post := fun r _ => r = .int .i64 ((x.length + 0 + rgn x + 0 : Nat) : Int)) (f16_calls (.slice ca x.length ccap) (.slice none 0 0) x [] B (by simp only [List.length_nil, cln, List.map_nil, List.sum_nil]; omega)) hs ⟨hrd.keep hs (by simp [ks]), none, 0, rfl, by simp⟩ ?_)
    rintro r w rfl hs
    refine sq_r (r_add (c := ((x.length + rgn x : Nat) : Int) + 1) rfl rfl (by rw [wrap_small (by omega) (by omega)]; omega)) rfl ?_
    refine sq_r (r_add (c := ((mny (cs.take (i + 1)) : Nat) : Int)) rfl rfl (by rw [wrap_small (by omega) (by omega)]; omega)) rfl ?_
    refine sq_r r_assign rfl ?_
    refine sq_z ?_
    -- region 6
    refine W_region (by decide +kernel) ?_
    refine sq_r (r_add rfl rfl (wrap_small (by omega) (by omega))) rfl ?_
    refine sq_r r_move rfl ?_
    refine sq_z ?_
    exact ⟨i + 1, ⟨_, ov_self ⟨rfl, rfl, rfl, rfl, trivial⟩, by omega, hs⟩, by omega⟩
  have hin : i = cs.length := by have := of_decide_eq_false hd; omega
  subst hin
  rw [List.take_length]
  refine W_exit ?_ -- 0
  refine W_seq ?_
  -- region 7
  refine W_region (by decide +kernel) ?_
  refine sq_r r_move rfl ?_
  refine sq_r r_assign rfl ?_
  refine sq_z ?_
  refine W_ret ?_
  exact ret1 (v := .int .i64 (mny cs : Nat)) rfl (by decide) rfl (fin (c' := []) hs ⟨rfl, rfl⟩ (by simp))

end Go.Proofs.Ytfojeengapebmaa
