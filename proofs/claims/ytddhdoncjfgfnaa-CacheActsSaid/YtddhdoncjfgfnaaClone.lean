/-
  Layer 15: slices.Clone, of ints, sources, operations, links and virtual things; 'is'. Conditions: the slices are not long.
-/
import Derived.Test.YtddhdoncjfgfnaaData
namespace Go.Proofs.Ytddhdoncjfgfnaa
open Go.Eng

theorem els_one {α : Type} {F : (α × Value) → List Value} (hF : ∀ p : α × Value, p.2.oneCell' = true → ∀ v ∈ F p, v.oneCell' = true) {xs : List (α × Value)} (h1 : ∀ p ∈ xs, p.2.oneCell' = true) : ∀ v ∈ xs.flatMap F, v.oneCell' = true := by
  intro v hv
  obtain ⟨p, hp, hv⟩ := List.mem_flatMap.1 hv
  exact hF p (h1 p hp) v hv
set_option maxRecDepth 20000 in
theorem f22_calls (v : Value) (xs : List Int) (B : Nat → Prop) (hn : xs.length ≤ 17592186043904) : Ctr Try.prog 22 #[v] [] (RdG 1 iF B v xs) (fun r c => Sl 3 1 r xs.length (xs.flatMap iF) c) := by
  intro w0 hp hrd
  have hs : St w0 (ks []) [] w0 := St.start w0
  obtain ⟨a, cap, hv, hall⟩ := id hrd
  subst hv
  have hmax : 20000000000000 ≤ maxLen := by decide +kernel
  refine calls_W (n := 8) Try.func22 rfl Try.ntmps22 (by simp) ?_
  refine W_seq ?_
  -- region 0
  refine W_region (by decide +kernel) ?_
  refine sq_r r_assign rfl ?_
  refine sq_z ?_
  refine W_seq ?_
  refine W_seq ?_
  -- region 1
  refine W_region (by decide +kernel) ?_
  refine sq_r r_move rfl ?_
  refine sq_r (r_eqnilS Try.underlying27 rfl rfl) rfl ?_
  refine sq_z ?_
  refine W_cond rfl rfl (fun hc => ?_) (fun hc => ?_)
  · have hx : xs = [] := by
      cases xs with
      | nil => rfl
      | cons x xs =>
        obtain ⟨b, off, rfl, _⟩ := hall 0 x rfl
        cases hc
    subst hx
    refine W_seq ?_
    -- region 2
    refine W_region (by decide +kernel) ?_
    refine sq_r r_assign rfl ?_
    refine sq_z ?_
    refine W_ret ?_
    repeat with_reducible first | refine thenQ_ret ?_ | refine blockQ_ret ?_
    exact ret1 (v := .slice none 0 0) rfl (by decide) rfl (fin (c' := []) hs (Sl.nil 3 1) (by simp))
  · refine W_skip ?_
    refine W_seq ?_
    -- region 3
    refine W_region (by decide +kernel) ?_
    refine sq_e rfl (o_build0 sl27 hs ?_)
    intro u ch w hu hs
    refine sq_r r_move rfl ?_
    by_cases h0 : 0 < xs.length
    · obtain ⟨b, off, cap', hv, hat⟩ := RdG.at (s := 1) (F := iF) (by intro x; exact iF_len x) (hrd.old (by intro x; exact iF_len x) (by decide) hs (by simp [ks])) h0
      simp only [Value.slice.injEq, true_and] at hv
      obtain ⟨rfl, rfl⟩ := hv
      refine sq_e rfl (o_append (i := 0) (m := xs.length) (scap := cap) sl27 ty3 rfl hs rfl rfl rfl hu (cat_len (by intro x; exact iF_len x) xs) hat (cat_one iF_one _) (by omega) (by omega) ?_)
      intro r c' w hr hs
      refine sq_r r_assign rfl ?_
      refine sq_z ?_
      refine W_ret ?_
      refine ret1 (v := r) rfl (by decide) rfl (fin (c' := c') hs ?_ (by simp))
      rw [Nat.zero_add, List.nil_append] at hr
      exact hr
    · have hx : xs = [] := List.length_eq_zero_iff.1 (by omega)
      subst hx
      refine sq_e rfl (o_append_0 sl27 rfl rfl hu ?_)
      refine sq_r r_assign rfl ?_
      refine sq_z ?_
      refine W_ret ?_
      exact ret1 (v := u) rfl (by decide) rfl (fin (c' := ch) hs hu (by simp))

set_option maxRecDepth 20000 in
theorem f40_calls (v : Value) (xs : List Sc) (B : Nat → Prop) (hn : xs.length ≤ 4398046510976) : Ctr Try.prog 40 #[v] [] (RdG 4 scF B v xs) (fun r c => Sl 93 4 r xs.length (xs.flatMap scF) c) := by
  intro w0 hp hrd
  have hs : St w0 (ks []) [] w0 := St.start w0
  obtain ⟨a, cap, hv, hall⟩ := id hrd
  subst hv
  have hmax : 20000000000000 ≤ maxLen := by decide +kernel
  refine calls_W (n := 8) Try.func40 rfl Try.ntmps40 (by simp) ?_
  refine W_seq ?_
  -- region 0
  refine W_region (by decide +kernel) ?_
  refine sq_r r_assign rfl ?_
  refine sq_z ?_
  refine W_seq ?_
  refine W_seq ?_
  -- region 1
  refine W_region (by decide +kernel) ?_
  refine sq_r r_move rfl ?_
  refine sq_r (r_eqnilS Try.underlying31 rfl rfl) rfl ?_
  refine sq_z ?_
  refine W_cond rfl rfl (fun hc => ?_) (fun hc => ?_)
  · have hx : xs = [] := by
      cases xs with
      | nil => rfl
      | cons x xs =>
        obtain ⟨b, off, rfl, _⟩ := hall 0 x rfl
        cases hc
    subst hx
    refine W_seq ?_
    -- region 2
    refine W_region (by decide +kernel) ?_
    refine sq_r r_assign rfl ?_
    refine sq_z ?_
    refine W_ret ?_
    repeat with_reducible first | refine thenQ_ret ?_ | refine blockQ_ret ?_
    exact ret1 (v := .slice none 0 0) rfl (by decide) rfl (fin (c' := []) hs (Sl.nil 93 4) (by simp))
  · refine W_skip ?_
    refine W_seq ?_
    -- region 3
    refine W_region (by decide +kernel) ?_
    refine sq_e rfl (o_build0 sl31 hs ?_)
    intro u ch w hu hs
    refine sq_r r_move rfl ?_
    by_cases h0 : 0 < xs.length
    · obtain ⟨b, off, cap', hv, hat⟩ := RdG.at (s := 4) (F := scF) (by intro x; exact scF_len x) (hrd.old (by intro x; exact scF_len x) (by decide) hs (by simp [ks])) h0
      simp only [Value.slice.injEq, true_and] at hv
      obtain ⟨rfl, rfl⟩ := hv
      refine sq_e rfl (o_append (i := 0) (m := xs.length) (scap := cap) sl31 ty93 rfl hs rfl rfl rfl hu (cat_len (by intro x; exact scF_len x) xs) hat (cat_one scF_one _) (by omega) (by omega) ?_)
      intro r c' w hr hs
      refine sq_r r_assign rfl ?_
      refine sq_z ?_
      refine W_ret ?_
      refine ret1 (v := r) rfl (by decide) rfl (fin (c' := c') hs ?_ (by simp))
      rw [Nat.zero_add, List.nil_append] at hr
      exact hr
    · have hx : xs = [] := List.length_eq_zero_iff.1 (by omega)
      subst hx
      refine sq_e rfl (o_append_0 sl31 rfl rfl hu ?_)
      refine sq_r r_assign rfl ?_
      refine sq_z ?_
      refine W_ret ?_
      exact ret1 (v := u) rfl (by decide) rfl (fin (c' := ch) hs hu (by simp))

set_option maxRecDepth 20000 in
theorem f41_calls (v : Value) (xs : List (OpD × Value)) (B : Nat → Prop) (hn : xs.length ≤ 2513169434843) (h1 : ∀ p ∈ xs, p.2.oneCell' = true) : Ctr Try.prog 41 #[v] [] (RdG 5 opC B v xs) (fun r c => Sl 39 5 r xs.length (xs.flatMap opC) c) := by
  intro w0 hp hrd
  have hs : St w0 (ks []) [] w0 := St.start w0
  obtain ⟨a, cap, hv, hall⟩ := id hrd
  subst hv
  have hmax : 20000000000000 ≤ maxLen := by decide +kernel
  refine calls_W (n := 8) Try.func41 rfl Try.ntmps41 (by simp) ?_
  refine W_seq ?_
  -- region 0
  refine W_region (by decide +kernel) ?_
  refine sq_r r_assign rfl ?_
  refine sq_z ?_
  refine W_seq ?_
  refine W_seq ?_
  -- region 1
  refine W_region (by decide +kernel) ?_
  refine sq_r r_move rfl ?_
  refine sq_r (r_eqnilS Try.underlying28 rfl rfl) rfl ?_
  refine sq_z ?_
  refine W_cond rfl rfl (fun hc => ?_) (fun hc => ?_)
  · have hx : xs = [] := by
      cases xs with
      | nil => rfl
      | cons x xs =>
        obtain ⟨b, off, rfl, _⟩ := hall 0 x rfl
        cases hc
    subst hx
    refine W_seq ?_
    -- region 2
    refine W_region (by decide +kernel) ?_
    refine sq_r r_assign rfl ?_
    refine sq_z ?_
    refine W_ret ?_
    repeat with_reducible first | refine thenQ_ret ?_ | refine blockQ_ret ?_
    exact ret1 (v := .slice none 0 0) rfl (by decide) rfl (fin (c' := []) hs (Sl.nil 39 5) (by simp))
  · refine W_skip ?_
    refine W_seq ?_
    -- region 3
    refine W_region (by decide +kernel) ?_
    refine sq_e rfl (o_build0 sl28 hs ?_)
    intro u ch w hu hs
    refine sq_r r_move rfl ?_
    by_cases h0 : 0 < xs.length
    · obtain ⟨b, off, cap', hv, hat⟩ := RdG.at (s := 5) (F := opC) (by intro x; exact opC_len x) (hrd.old (by intro x; exact opC_len x) (by decide) hs (by simp [ks])) h0
      simp only [Value.slice.injEq, true_and] at hv
      obtain ⟨rfl, rfl⟩ := hv
      refine sq_e rfl (o_append (i := 0) (m := xs.length) (scap := cap) sl28 ty39 rfl hs rfl rfl rfl hu (cat_len (by intro x; exact opC_len x) xs) hat (els_one (fun _ => opC_one) h1) (by omega) (by omega) ?_)
      intro r c' w hr hs
      refine sq_r r_assign rfl ?_
      refine sq_z ?_
      refine W_ret ?_
      refine ret1 (v := r) rfl (by decide) rfl (fin (c' := c') hs ?_ (by simp))
      rw [Nat.zero_add, List.nil_append] at hr
      exact hr
    · have hx : xs = [] := List.length_eq_zero_iff.1 (by omega)
      subst hx
      refine sq_e rfl (o_append_0 sl28 rfl rfl hu ?_)
      refine sq_r r_assign rfl ?_
      refine sq_z ?_
      refine W_ret ?_
      exact ret1 (v := u) rfl (by decide) rfl (fin (c' := ch) hs hu (by simp))

set_option maxRecDepth 20000 in
theorem f42_calls (v : Value) (xs : List (Lk × Value)) (B : Nat → Prop) (hn : xs.length ≤ 2513169434843) (h1 : ∀ p ∈ xs, p.2.oneCell' = true) : Ctr Try.prog 42 #[v] [] (RdG 5 lkC B v xs) (fun r c => Sl 76 5 r xs.length (xs.flatMap lkC) c) := by
  intro w0 hp hrd
  have hs : St w0 (ks []) [] w0 := St.start w0
  obtain ⟨a, cap, hv, hall⟩ := id hrd
  subst hv
  have hmax : 20000000000000 ≤ maxLen := by decide +kernel
  refine calls_W (n := 8) Try.func42 rfl Try.ntmps42 (by simp) ?_
  refine W_seq ?_
  -- region 0
  refine W_region (by decide +kernel) ?_
  refine sq_r r_assign rfl ?_
  refine sq_z ?_
  refine W_seq ?_
  refine W_seq ?_
  -- region 1
  refine W_region (by decide +kernel) ?_
  refine sq_r r_move rfl ?_
  refine sq_r (r_eqnilS Try.underlying29 rfl rfl) rfl ?_
  refine sq_z ?_
  refine W_cond rfl rfl (fun hc => ?_) (fun hc => ?_)
  · have hx : xs = [] := by
      cases xs with
      | nil => rfl
      | cons x xs =>
        obtain ⟨b, off, rfl, _⟩ := hall 0 x rfl
        cases hc
    subst hx
    refine W_seq ?_
    -- region 2
    refine W_region (by decide +kernel) ?_
    refine sq_r r_assign rfl ?_
    refine sq_z ?_
    refine W_ret ?_
    repeat with_reducible first | refine thenQ_ret ?_ | refine blockQ_ret ?_
    exact ret1 (v := .slice none 0 0) rfl (by decide) rfl (fin (c' := []) hs (Sl.nil 76 5) (by simp))
  · refine W_skip ?_
    refine W_seq ?_
    -- region 3
    refine W_region (by decide +kernel) ?_
    refine sq_e rfl (o_build0 sl29 hs ?_)
    intro u ch w hu hs
    refine sq_r r_move rfl ?_
    by_cases h0 : 0 < xs.length
    · obtain ⟨b, off, cap', hv, hat⟩ := RdG.at (s := 5) (F := lkC) (by intro x; exact lkC_len x) (hrd.old (by intro x; exact lkC_len x) (by decide) hs (by simp [ks])) h0
      simp only [Value.slice.injEq, true_and] at hv
      obtain ⟨rfl, rfl⟩ := hv
      refine sq_e rfl (o_append (i := 0) (m := xs.length) (scap := cap) sl29 ty76 rfl hs rfl rfl rfl hu (cat_len (by intro x; exact lkC_len x) xs) hat (els_one (fun _ => lkC_one) h1) (by omega) (by omega) ?_)
      intro r c' w hr hs
      refine sq_r r_assign rfl ?_
      refine sq_z ?_
      refine W_ret ?_
      refine ret1 (v := r) rfl (by decide) rfl (fin (c' := c') hs ?_ (by simp))
      rw [Nat.zero_add, List.nil_append] at hr
      exact hr
    · have hx : xs = [] := List.length_eq_zero_iff.1 (by omega)
      subst hx
      refine sq_e rfl (o_append_0 sl29 rfl rfl hu ?_)
      refine sq_r r_assign rfl ?_
      refine sq_z ?_
      refine W_ret ?_
      exact ret1 (v := u) rfl (by decide) rfl (fin (c' := ch) hs hu (by simp))

set_option maxRecDepth 20000 in
theorem f43_calls (v : Value) (xs : List (Vt × Value)) (B : Nat → Prop) (hn : xs.length ≤ 4398046510976) (h1 : ∀ p ∈ xs, p.2.oneCell' = true) : Ctr Try.prog 43 #[v] [] (RdG 2 vtC B v xs) (fun r c => Sl 78 2 r xs.length (xs.flatMap vtC) c) := by
  intro w0 hp hrd
  have hs : St w0 (ks []) [] w0 := St.start w0
  obtain ⟨a, cap, hv, hall⟩ := id hrd
  subst hv
  have hmax : 20000000000000 ≤ maxLen := by decide +kernel
  refine calls_W (n := 8) Try.func43 rfl Try.ntmps43 (by simp) ?_
  refine W_seq ?_
  -- region 0
  refine W_region (by decide +kernel) ?_
  refine sq_r r_assign rfl ?_
  refine sq_z ?_
  refine W_seq ?_
  refine W_seq ?_
  -- region 1
  refine W_region (by decide +kernel) ?_
  refine sq_r r_move rfl ?_
  refine sq_r (r_eqnilS Try.underlying30 rfl rfl) rfl ?_
  refine sq_z ?_
  refine W_cond rfl rfl (fun hc => ?_) (fun hc => ?_)
  · have hx : xs = [] := by
      cases xs with
      | nil => rfl
      | cons x xs =>
        obtain ⟨b, off, rfl, _⟩ := hall 0 x rfl
        cases hc
    subst hx
    refine W_seq ?_
    -- region 2
    refine W_region (by decide +kernel) ?_
    refine sq_r r_assign rfl ?_
    refine sq_z ?_
    refine W_ret ?_
    repeat with_reducible first | refine thenQ_ret ?_ | refine blockQ_ret ?_
    exact ret1 (v := .slice none 0 0) rfl (by decide) rfl (fin (c' := []) hs (Sl.nil 78 2) (by simp))
  · refine W_skip ?_
    refine W_seq ?_
    -- region 3
    refine W_region (by decide +kernel) ?_
    refine sq_e rfl (o_build0 sl30 hs ?_)
    intro u ch w hu hs
    refine sq_r r_move rfl ?_
    by_cases h0 : 0 < xs.length
    · obtain ⟨b, off, cap', hv, hat⟩ := RdG.at (s := 2) (F := vtC) (by intro x; exact vtC_len x) (hrd.old (by intro x; exact vtC_len x) (by decide) hs (by simp [ks])) h0
      simp only [Value.slice.injEq, true_and] at hv
      obtain ⟨rfl, rfl⟩ := hv
      refine sq_e rfl (o_append (i := 0) (m := xs.length) (scap := cap) sl30 ty78 rfl hs rfl rfl rfl hu (cat_len (by intro x; exact vtC_len x) xs) hat (els_one (fun _ => vtC_one) h1) (by omega) (by omega) ?_)
      intro r c' w hr hs
      refine sq_r r_assign rfl ?_
      refine sq_z ?_
      refine W_ret ?_
      refine ret1 (v := r) rfl (by decide) rfl (fin (c' := c') hs ?_ (by simp))
      rw [Nat.zero_add, List.nil_append] at hr
      exact hr
    · have hx : xs = [] := List.length_eq_zero_iff.1 (by omega)
      subst hx
      refine sq_e rfl (o_append_0 sl30 rfl rfl hu ?_)
      refine sq_r r_assign rfl ?_
      refine sq_z ?_
      refine W_ret ?_
      exact ret1 (v := u) rfl (by decide) rfl (fin (c' := ch) hs hu (by simp))

set_option maxRecDepth 20000 in
/-- 'is': there is a cache that New made. -/
theorem f23_calls (bb : Nat) (m : Option Nat) : Ctr Try.prog 23 #[.pointer (some ⟨bb, 0, none⟩)] [] (fun w => w.cell? ⟨bb, 0 + 0, none⟩ = some (.map m)) (fun v c => v = .bool m.isSome ∧ c = []) := by
  intro w0 hp hro
  have hs : St w0 (ks []) [] w0 := St.start w0
  refine calls_W (n := 12) Try.func23 rfl Try.ntmps23 (by simp) ?_
  refine W_seq ?_
  -- region 0
  refine W_region (by decide +kernel) ?_
  refine sq_r r_assign rfl ?_
  refine sq_z ?_
  refine W_seq ?_
  -- region 1
  refine W_region (by decide +kernel) ?_
  refine sq_r r_move rfl ?_
  refine sq_r (r_nenil Try.underlying36 rfl rfl) rfl ?_
  refine sq_r r_move rfl ?_
  refine sq_r r_move rfl ?_ /- GUARD 2 True -/
  refine sq_r (r_nilCheck rfl) rfl ?_ /- GUARD 2 True -/
  refine sq_r (r_field rfl fa65_0) rfl ?_ /- GUARD 2 True -/
  refine sq_r (r_load1 rfl ty62 hro) rfl ?_ /- GUARD 2 True -/
  refine sq_r (r_neMap Try.underlying62 rfl rfl) rfl ?_ /- GUARD 2 True -/
  refine sq_r (r_pick rfl) rfl ?_
  refine sq_r r_assign rfl ?_
  refine sq_z ?_
  refine W_ret ?_
  refine ret1 rfl (by decide) rfl (fin hs ⟨?_, rfl⟩ (by simp))
  cases m <;> rfl

set_option maxRecDepth 20000 in
/-- .. where there is none. -/
theorem f23_nil : Ctr Try.prog 23 #[.pointer none] [] (fun _ => True) (fun v c => v = .bool false ∧ c = []) := by
  intro w0 hp hro
  have hs : St w0 (ks []) [] w0 := St.start w0
  refine calls_W (n := 12) Try.func23 rfl Try.ntmps23 (by simp) ?_
  refine W_seq ?_
  -- region 0
  refine W_region (by decide +kernel) ?_
  refine sq_r r_assign rfl ?_
  refine sq_z ?_
  refine W_seq ?_
  -- region 1
  refine W_region (by decide +kernel) ?_
  refine sq_r r_move rfl ?_
  refine sq_r (r_nenil Try.underlying36 rfl rfl) rfl ?_
  refine sq_r r_move rfl ?_
  refine sq_n rfl ?_
  refine sq_n rfl ?_
  refine sq_n rfl ?_
  refine sq_n rfl ?_
  refine sq_n rfl ?_
  refine sq_r (r_pick rfl) rfl ?_
  refine sq_r r_assign rfl ?_
  refine sq_z ?_
  refine W_ret ?_
  exact ret1 (v := .bool false) rfl (by decide) rfl (fin hs ⟨rfl, rfl⟩ (by simp))

end Go.Proofs.Ytddhdoncjfgfnaa
