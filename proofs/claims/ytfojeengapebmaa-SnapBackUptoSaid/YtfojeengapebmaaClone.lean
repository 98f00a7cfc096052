/-
  Layer 17: slices.Clone, of sources and of links; the book's small functions: New, is. Conditions: the slices are not long.
-/
import Derived.Test.YtfojeengapebmaaChain
namespace Go.Proofs.Ytfojeengapebmaa
open Go.Eng

theorem eqlIn_slice {P : Program} {w : World} {T e : TypeId} {a : Option Addr} {n c : Nat} (hu : P.underlying T = some (.slice e)) (k : Nat) : (Op.equalIn (k + 1) T (.slice a n c) (.slice none 0 0)).run P w = .ok a.isNone w := by
  cases a <;> simp [Op.equalIn, run_underlying hu]
theorem r_eqnilS {P : Program} {w : World} {f : Fm} {d : Option Nat} {ty : TypeId} {pos : String} {after : Array Edge} {g : Option (Nat × Bool)} {x y : Operand} {T U e : TypeId} {a : Option Addr} {n c : Nat} (hu : P.underlying T = some (.slice e)) (hx : ev f x = .slice a n c) (hy : ev f y = .slice none 0 0) :
    (execOp (ev f) ⟨d, .binOp .eql T x y U, ty, pos, after, g⟩).run P w = .ok (.value (.bool a.isNone)) w := by
  have e1 : binOp .eql T (.slice a n c) (.slice none 0 0) = (do pure (.bool (← Op.equalIn (9999 + 1) T (.slice a n c) (.slice none 0 0)))) := by cases a <;> rfl
  have e2 : eqGuard .eql T x y (.slice a n c) (.slice none 0 0) = pure () := by cases a <;> rfl
  simp only [execOp, hx, hy, e1, e2, Sem.run_bind, Sem.run_pure, Result.andThen_ok, eqlIn_slice hu]
/-- 'T{}'. -/
theorem o_build0 {P : Program} {w0 w : World} {F0 : List Nat} {ls : List Ck} {f : Fm} {K : Fm → World → Prop} {Qp : List PanicEntry → World → Prop} {d : Option Nat} {ty : TypeId} {pos : String} {after : Array Edge} {g : Option (Nat × Bool)}
    {T E s by_ : Nat} (hT : slOf P T = some (E, s, by_)) (hs : St w0 F0 ls w) (k : ∀ v ch w', Sl E s v 0 [] ch → St w0 F0 (ls ++ [ch]) w' → K (put f d v) w') : opF P ⟨d, .buildSlice T 0 #[], ty, pos, after, g⟩ f w K Qp := by
  obtain ⟨inf, hu, hinf, rfl, rfl⟩ := slOf_parts hT
  refine o_buildSlice (E := E) (cs := []) hs ?_ ?_
  · have e : (#[] : Array (Nat × Operand)).map (fun (x : Nat × Operand) => match x with | (i, x) => (i, ev f x)) = #[] := by simp
    rw [e]
    have e2 : ∀ f : Nat → Value, (Array.range 0).map f = #[] := fun f => Array.eq_empty_of_size_eq_zero (by simp)
    simp [Instr.buildSlice, run_underlying hu, sizeOf, typeInfo, hinf, Instr.fill, newRow, e2]
    rfl
  · intro b w' hs'
    exact k _ _ w' ⟨by simp, .inr ⟨b, 0, [], rfl, rfl, Nat.le_refl _, Nat.zero_le _, by simp⟩⟩ hs'

theorem at_app {w : World} {b off : Nat} {u v : List Value} (h1 : At w b off u) (h2 : At w b (off + u.length) v) : At w b off (u ++ v) := by
  intro j x hj
  by_cases h : j < u.length
  · rw [List.getElem?_append_left h] at hj
    exact h1 j x hj
  · rw [List.getElem?_append_right (by omega)] at hj
    have := h2 (j - u.length) x hj
    rw [show off + u.length + (j - u.length) = off + j from by omega] at this
    exact this
theorem at_flat {α : Type} {F : α → List Value} {s : Nat} (hF : ∀ x, (F x).length = s) {w : World} {b : Nat} : ∀ (l : List α) (off : Nat), (∀ i x, l[i]? = some x → At w b (off + i * s) (F x)) → At w b off (l.flatMap F)
  | [], _, _ => fun j v hj => by simp at hj
  | x :: l, off, h => by
    rw [List.flatMap_cons]
    refine at_app (by simpa using h 0 x rfl) ?_
    rw [hF]
    refine at_flat hF l (off + s) fun i y hi => ?_
    have := h (i + 1) y (by simpa using hi)
    rw [Nat.succ_mul] at this
    rw [show off + s + i * s = off + (i * s + s) from by omega]
    exact this
/-- A slice that may be read, in blocks of B. -/
def RdG {α : Type} (s : Nat) (F : α → List Value) (B : Nat → Prop) (v : Value) (xs : List α) (w : World) : Prop :=
  ∃ a cap, v = .slice a xs.length cap ∧ ∀ i x, xs[i]? = some x → ∃ b off, a = some ⟨b, off, none⟩ ∧ B b ∧ At w b (off + i * s) (F x)
theorem RdG.old {α : Type} {s : Nat} {F : α → List Value} {B : Nat → Prop} {v : Value} {xs : List α} {w0 w : World} {F0 : List Nat} {cs : List Ck} (hF : ∀ x, (F x).length = s) (hs0 : 0 < s) (h : RdG s F B v xs w0) (hs : St w0 F0 cs w) (hB : ∀ b, B b → b ∉ F0) : RdG s F B v xs w := by
  obtain ⟨a, cap, hv, hall⟩ := h
  refine ⟨a, cap, hv, fun i x hi => ?_⟩
  obtain ⟨b, off, ha, hb, hat⟩ := hall i x hi
  exact ⟨b, off, ha, hb, at_keep hs (hB b hb) (by rw [hF]; exact hs0) hat⟩
theorem RdG.at {α : Type} {s : Nat} {F : α → List Value} {B : Nat → Prop} {v : Value} {xs : List α} {w : World} (hF : ∀ x, (F x).length = s) (h : RdG s F B v xs w) (h0 : 0 < xs.length) : ∃ b off cap, v = .slice (some ⟨b, off, none⟩) xs.length cap ∧ At w b off (xs.flatMap F) := by
  obtain ⟨a, cap, rfl, hall⟩ := h
  obtain ⟨b, off, rfl, _, _⟩ := hall 0 _ (List.getElem?_eq_getElem h0)
  refine ⟨b, off, cap, rfl, at_flat hF xs off fun i x hi => ?_⟩
  obtain ⟨b', off', e, _, hat⟩ := hall i x hi
  simp only [Option.some.injEq, Addr.mk.injEq] at e
  obtain ⟨rfl, rfl, _⟩ := e
  exact hat
abbrev scF (x : Sc) : List Value := ic x.toList
theorem scF_len (x : Sc) : (scF x).length = 4 := by simp [scF]
theorem scF_one (x : Sc) : ∀ v ∈ scF x, v.oneCell' = true := ic_one _
/-- A link with the value that its registers lie behind. -/
abbrev Pr := Lk × Value
def prC (p : Pr) : List Value := lkC p.1 p.2
theorem prC_len (p : Pr) : (prC p).length = 5 := rfl
/-- A slice that is held may be read. -/
theorem sl_rd {α : Type} {s E n : Nat} {F : α → List Value} {v : Value} {xs : List α} {c : Ck} (hF : ∀ x, (F x).length = s) (hs0 : 0 < s) (h : Sl E s v n (xs.flatMap F) c) {w : World} (hp : Hp c w) : RdG s F (· ∈ ks c) v xs w := by
  have hn := h.n_eq hF hs0
  obtain ⟨a, cap, rfl⟩ := h.len
  refine ⟨a, cap, by rw [hn], fun i x hi => ?_⟩
  obtain ⟨b, cap', rest, hv, rfl, hcell, _⟩ := h.get hF hi hs0
  simp only [Value.slice.injEq, true_and] at hv
  obtain ⟨rfl, _⟩ := hv
  refine ⟨b, 0, rfl, by simp [ks], At.of_block (hp.has (b, cb (xs.flatMap F ++ rest) E) (by simp)) ?_⟩
  rw [hF, Nat.zero_add]
  exact hcell
theorem RdG.shape {α : Type} {s : Nat} {F : α → List Value} {B : Nat → Prop} {v : Value} {xs : List α} {w : World} (h : RdG s F B v xs w) : v.oneCell' = true ∧ v.cells = #[v] := by
  obtain ⟨a, cap, rfl, _⟩ := h
  exact ⟨rfl, rfl⟩
theorem pr_one {xs : List Pr} (h1 : ∀ p ∈ xs, p.2.oneCell' = true) : ∀ v ∈ xs.flatMap prC, v.oneCell' = true := by
  intro v hv
  obtain ⟨p, hp, hv⟩ := List.mem_flatMap.1 hv
  simp only [prC, lkC, List.mem_cons, List.not_mem_nil, or_false] at hv
  rcases hv with rfl | rfl | rfl | rfl | rfl
  · rfl
  · rfl
  · rfl
  · rfl
  · exact h1 p hp

theorem f22_calls (v : Value) (xs : List Sc) (B : Nat → Prop) (hn : xs.length ≤ 2000000) : Ctr Try.prog 22 #[v] [] (RdG 4 scF B v xs) (fun r c => Sl 69 4 r xs.length (xs.flatMap scF) c) := by
  intro w0 hp hrd
  have hs : St w0 (ks []) [] w0 := St.start w0
  obtain ⟨a, cap, hv, hall⟩ := id hrd
  subst hv
  have hmax : 2000000 ≤ maxLen := by decide +kernel
  refine calls_W (n := 8) Try.func22 rfl Try.ntmps22 (by simp) ?_
  refine W_seq ?_
  -- region 0
  refine W_region (by decide +kernel) ?_
  refine sq_r r_assign rfl ?_
  refine sq_z ?_
  refine W_seq ?_
  refine W_seq ?_
  -- region 1
  refine W_region (by decide +kernel) ?_
  refine sq_r r_move rfl ?_
  refine sq_r (r_eqnilS Try.underlying37 rfl rfl) rfl ?_
  refine sq_z ?_
  refine W_cond rfl rfl (fun hc => ?_) (fun hc => ?_)
  · have hx : xs = [] := by
      cases xs with
      | nil => rfl
      | cons x xs =>
        obtain ⟨b, off, rfl, _⟩ := hall 0 x rfl
        cases hc
    subst hx
    refine W_seq ?_
    -- region 2
    refine W_region (by decide +kernel) ?_
    refine sq_r r_assign rfl ?_
    refine sq_z ?_
    refine W_ret ?_
    repeat with_reducible first | refine thenQ_ret ?_ | refine blockQ_ret ?_
    exact ret1 (v := .slice none 0 0) rfl (by decide) rfl (fin (c' := []) hs (Sl.nil 69 4) (by simp))
  · refine W_skip ?_
    refine W_seq ?_
    -- region 3
    refine W_region (by decide +kernel) ?_
    refine sq_e rfl (o_build0 sl37 hs ?_)
    intro u ch w hu hs
    refine sq_r r_move rfl ?_
    by_cases h0 : 0 < xs.length
    · obtain ⟨b, off, cap', hv, hat⟩ := RdG.at (s := 4) (F := scF) (by intro x; exact scF_len x) (hrd.old (by intro x; exact scF_len x) (by decide) hs (by simp [ks])) h0
      simp only [Value.slice.injEq, true_and] at hv
      obtain ⟨rfl, rfl⟩ := hv
      refine sq_e rfl (o_append (i := 0) (m := xs.length) (scap := cap) sl37 ty69 rfl hs rfl rfl rfl hu (cat_len (by intro x; exact scF_len x) xs) hat (cat_one scF_one _) (by omega) (by omega) ?_)
      intro r c' w hr hs
      refine sq_r r_assign rfl ?_
      refine sq_z ?_
      refine W_ret ?_
      refine ret1 (v := r) rfl (by decide) rfl (fin (c' := c') hs ?_ (by simp))
      rw [Nat.zero_add, List.nil_append] at hr
      exact hr
    · have hx : xs = [] := List.length_eq_zero_iff.1 (by omega)
      subst hx
      refine sq_e rfl (o_append_0 sl37 rfl rfl hu ?_)
      refine sq_r r_assign rfl ?_
      refine sq_z ?_
      refine W_ret ?_
      exact ret1 (v := u) rfl (by decide) rfl (fin (c' := ch) hs hu (by simp))

theorem f24_calls (v : Value) (xs : List Pr) (B : Nat → Prop) (hn : xs.length ≤ 2000000) (h1 : ∀ p ∈ xs, p.2.oneCell' = true) : Ctr Try.prog 24 #[v] [] (RdG 5 prC B v xs) (fun r c => Sl 39 5 r xs.length (xs.flatMap prC) c) := by
  intro w0 hp hrd
  have hs : St w0 (ks []) [] w0 := St.start w0
  obtain ⟨a, cap, hv, hall⟩ := id hrd
  subst hv
  have hmax : 2000000 ≤ maxLen := by decide +kernel
  refine calls_W (n := 8) Try.func24 rfl Try.ntmps24 (by simp) ?_
  refine W_seq ?_
  -- region 0
  refine W_region (by decide +kernel) ?_
  refine sq_r r_assign rfl ?_
  refine sq_z ?_
  refine W_seq ?_
  refine W_seq ?_
  -- region 1
  refine W_region (by decide +kernel) ?_
  refine sq_r r_move rfl ?_
  refine sq_r (r_eqnilS Try.underlying28 rfl rfl) rfl ?_
  refine sq_z ?_
  refine W_cond rfl rfl (fun hc => ?_) (fun hc => ?_)
  · have hx : xs = [] := by
      cases xs with
      | nil => rfl
      | cons x xs =>
        obtain ⟨b, off, rfl, _⟩ := hall 0 x rfl
        cases hc
    subst hx
    refine W_seq ?_
    -- region 2
    refine W_region (by decide +kernel) ?_
    refine sq_r r_assign rfl ?_
    refine sq_z ?_
    refine W_ret ?_
    repeat with_reducible first | refine thenQ_ret ?_ | refine blockQ_ret ?_
    exact ret1 (v := .slice none 0 0) rfl (by decide) rfl (fin (c' := []) hs (Sl.nil 39 5) (by simp))
  · refine W_skip ?_
    refine W_seq ?_
    -- region 3
    refine W_region (by decide +kernel) ?_
    refine sq_e rfl (o_build0 sl28 hs ?_)
    intro u ch w hu hs
    refine sq_r r_move rfl ?_
    by_cases h0 : 0 < xs.length
    · obtain ⟨b, off, cap', hv, hat⟩ := RdG.at (s := 5) (F := prC) (by intro x; exact prC_len x) (hrd.old (by intro x; exact prC_len x) (by decide) hs (by simp [ks])) h0
      simp only [Value.slice.injEq, true_and] at hv
      obtain ⟨rfl, rfl⟩ := hv
      refine sq_e rfl (o_append (i := 0) (m := xs.length) (scap := cap) sl28 ty39 rfl hs rfl rfl rfl hu (cat_len (by intro x; exact prC_len x) xs) hat (pr_one h1) (by omega) (by omega) ?_)
      intro r c' w hr hs
      refine sq_r r_assign rfl ?_
      refine sq_z ?_
      refine W_ret ?_
      refine ret1 (v := r) rfl (by decide) rfl (fin (c' := c') hs ?_ (by simp))
      rw [Nat.zero_add, List.nil_append] at hr
      exact hr
    · have hx : xs = [] := List.length_eq_zero_iff.1 (by omega)
      subst hx
      refine sq_e rfl (o_append_0 sl28 rfl rfl hu ?_)
      refine sq_r r_assign rfl ?_
      refine sq_z ?_
      refine W_ret ?_
      exact ret1 (v := u) rfl (by decide) rfl (fin (c' := ch) hs hu (by simp))

/-- 'is': there is a book that New made. -/
theorem f20_calls (bb : Nat) (m : Option Nat) : Ctr Try.prog 20 #[.pointer (some ⟨bb, 0, none⟩)] [] (fun w => w.cell? ⟨bb, 0 + 1, none⟩ = some (.map m)) (fun v c => v = .bool m.isSome ∧ c = []) := by
  intro w0 hp hro
  have hs : St w0 (ks []) [] w0 := St.start w0
  refine calls_W (n := 12) Try.func20 rfl Try.ntmps20 (by simp) ?_
  refine W_seq ?_
  -- region 0
  refine W_region (by decide +kernel) ?_
  refine sq_r r_assign rfl ?_
  refine sq_z ?_
  refine W_seq ?_
  -- region 1
  refine W_region (by decide +kernel) ?_
  refine sq_r r_move rfl ?_
  refine sq_r (r_nenil Try.underlying25 rfl rfl) rfl ?_
  refine sq_r r_move rfl ?_
  refine sq_r r_move rfl ?_ /- GUARD 2 True -/
  refine sq_r (r_nilCheck rfl) rfl ?_ /- GUARD 2 True -/
  refine sq_r (r_field rfl fa62_1) rfl ?_ /- GUARD 2 True -/
  refine sq_r (r_load1 rfl ty59 hro) rfl ?_ /- GUARD 2 True -/
  refine sq_r (r_neMap Try.underlying59 rfl rfl) rfl ?_ /- GUARD 2 True -/
  refine sq_r (r_pick rfl) rfl ?_
  refine sq_r r_assign rfl ?_
  refine sq_z ?_
  refine W_ret ?_
  refine ret1 rfl (by decide) rfl (fin hs ⟨?_, rfl⟩ (by simp))
  cases m <;> rfl

end Go.Proofs.Ytfojeengapebmaa
