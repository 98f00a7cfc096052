/-
  The engine: slices of structs that are held, element by element; '==' on types made of ints. No condition.
-/
import Derived.Test.YtddhdoncjfgfnaaActs
namespace Go.Eng

section
variable {P : Program} {w : World} {f : Fm} {d : Option Nat} {ty : TypeId} {pos : String} {after : Array Edge} {g : Option (Nat × Bool)}
theorem run_eqS {K : TypeId} {fs : Array Field} {dd n : Nat} (hu : P.underlying K = some (.struct fs)) (hf : flat P dd K n = true) (hd : dd ≤ 10000) (a b : Vector Int n) :
    (Op.equalIn 10000 K (encV a) (encV b)).run P w = .ok (decide (a = b)) w := eq_struct hu hf hd w a b
theorem r_eqS {x y : Operand} {K U : TypeId} {fs : Array Field} {dd n : Nat} {a b : Vector Int n} (hu : P.underlying K = some (.struct fs)) (hf : flat P dd K n = true) (hd : dd ≤ 10000) (hg : P.eqGuardType P.depth K = false)
    (hx : ev f x = encV a) (hy : ev f y = encV b) : (execOp (ev f) ⟨d, .binOp .eql K x y U, ty, pos, after, g⟩).run P w = .ok (.value (.bool (decide (a = b)))) w := by
  have h1 := run_eqGuard_agg (P := P) w .eql K x y (ic a.toList).toArray (ic b.toList).toArray hg
  have h2 := run_eql_struct (P := P) w K (ic a.toList).toArray (ic b.toList).toArray
  have h3 := run_eqS (w := w) hu hf hd a b
  unfold encV at hx hy h3
  simp only [execOp, hx, hy, Sem.run_bind, h1, h2, h3, Result.andThen_ok, Sem.run_pure]
theorem r_neS {x y : Operand} {K U : TypeId} {fs : Array Field} {dd n : Nat} {a b : Vector Int n} (hu : P.underlying K = some (.struct fs)) (hf : flat P dd K n = true) (hd : dd ≤ 10000) (hg : P.eqGuardType P.depth K = false)
    (hx : ev f x = encV a) (hy : ev f y = encV b) : (execOp (ev f) ⟨d, .binOp .neq K x y U, ty, pos, after, g⟩).run P w = .ok (.value (.bool (!decide (a = b)))) w := by
  have h1 := run_eqGuard_agg (P := P) w .neq K x y (ic a.toList).toArray (ic b.toList).toArray hg
  have h2 := run_neq_struct (P := P) w K (ic a.toList).toArray (ic b.toList).toArray
  have h3 := run_eqS (w := w) hu hf hd a b
  unfold encV at hx hy h3
  simp only [execOp, hx, hy, Sem.run_bind, h1, h2, h3, Result.andThen_ok, Sem.run_pure]
end

/-! ### Cells of many elements, one behind the other -/
section
variable {α : Type} {F : α → List Value} {s : Nat}
theorem cat_len (hF : ∀ x, (F x).length = s) : ∀ (l : List α), (l.flatMap F).length = l.length * s
  | [] => by simp
  | x :: l => by
    rw [List.flatMap_cons, List.length_append, hF, cat_len hF l, List.length_cons, Nat.succ_mul]
    omega
theorem cat_at (hF : ∀ x, (F x).length = s) (rest : List Value) : ∀ (l : List α) (i : Nat) (x : α), l[i]? = some x → ((l.flatMap F ++ rest).drop (i * s)).take s = F x
  | [], i, x, h => by simp at h
  | y :: l, 0, x, h => by
    simp at h; subst h
    simp [← hF y]
  | y :: l, i + 1, x, h => by
    have ih := cat_at hF rest l i x (by simpa using h)
    rw [List.flatMap_cons, List.append_assoc, Nat.succ_mul, Nat.add_comm, ← List.drop_drop]
    rw [show ((F y ++ (l.flatMap F ++ rest)).drop s) = l.flatMap F ++ rest from by rw [← hF y, List.drop_left]]
    exact ih
theorem cat_set (hF : ∀ x, (F x).length = s) (rest : List Value) {off : Nat} {vs : List Value} : ∀ (l : List α) (i : Nat) (x x' : α), l[i]? = some x → F x' = spl (F x) off vs → off + vs.length ≤ s →
    spl (l.flatMap F ++ rest) (i * s + off) vs = (l.set i x').flatMap F ++ rest
  | [], i, x, _, h, _, _ => by simp at h
  | y :: l, 0, x, x', h, hx, hfit => by
    simp at h; subst h
    have hl := hF y
    simp only [List.set_cons_zero, List.flatMap_cons, hx, spl, Nat.zero_mul, Nat.zero_add, List.append_assoc]
    rw [List.take_append_of_le_length (by omega), List.drop_append_of_le_length (by omega)]
  | y :: l, i + 1, x, x', h, hx, hfit => by
    have ih := cat_set hF rest l i x x' (by simpa using h) hx hfit
    have hl := hF y
    simp only [List.set_cons_succ, List.flatMap_cons, List.append_assoc]
    rw [← ih]
    unfold spl
    rw [show (i + 1) * s + off = (F y).length + (i * s + off) from by rw [hl, Nat.succ_mul]; omega, List.take_length_add_append, Nat.add_assoc (F y).length, List.drop_length_add_append, List.append_assoc, List.append_assoc]
    simp only [List.append_assoc]
theorem cat_one (h1 : ∀ x, ∀ v ∈ F x, v.oneCell' = true) (l : List α) : ∀ v ∈ l.flatMap F, v.oneCell' = true := by
  intro v hv
  obtain ⟨x, _, hx⟩ := List.mem_flatMap.1 hv
  exact h1 x v hx

/-- An element of a slice that is held. -/
theorem Sl.get {E : TypeId} {v : Value} {n i : Nat} {l : List α} {c : Ck} {x : α} (hF : ∀ x, (F x).length = s) (h : Sl E s v n (l.flatMap F) c) (hi : l[i]? = some x) (hs0 : 0 < s) :
    ∃ b cap rest, v = .slice (some ⟨b, 0, none⟩) n cap ∧ c = [(b, cb (l.flatMap F ++ rest) E)] ∧ ((l.flatMap F ++ rest).drop (i * s)).take s = F x ∧ n = l.length := by
  have hn : n = l.length := by
    have := h.1
    rw [cat_len hF] at this
    exact (Nat.eq_of_mul_eq_mul_right hs0 this).symm
  rcases h.2 with ⟨_, hn0, _, _⟩ | ⟨b, cap, rest, hv, hc, _, _, _⟩
  · have := (List.getElem?_eq_some_iff.1 hi).1
    omega
  · exact ⟨b, cap, rest, hv, hc, cat_at hF rest l i x hi, hn⟩
theorem Sl.n_eq {E : TypeId} {v : Value} {n : Nat} {l : List α} {c : Ck} (hF : ∀ x, (F x).length = s) (h : Sl E s v n (l.flatMap F) c) (hs0 : 0 < s) : n = l.length := by
  have := h.1
  rw [cat_len hF] at this
  exact (Nat.eq_of_mul_eq_mul_right hs0 this).symm
/-- Its shape: nil, or a block. -/
theorem Sl.len {E : TypeId} {v : Value} {n : Nat} {xs : List Value} {c : Ck} (h : Sl E s v n xs c) : ∃ a cap, v = .slice a n cap := by
  rcases h.2 with ⟨hv, hn, _, _⟩ | ⟨b, cap, rest, hv, _⟩
  · exact ⟨none, 0, by rw [hv, hn]⟩
  · exact ⟨_, cap, hv⟩
theorem Sl.set {E : TypeId} {v : Value} {n b cap : Nat} {l l' : List α} {rest : List Value} (hF : ∀ x, (F x).length = s) (h : Sl E s (.slice (some ⟨b, 0, none⟩) n cap) n (l.flatMap F) [(b, cb (l.flatMap F ++ rest) E)]) (hl : l'.length = l.length) (hv : v = .slice (some ⟨b, 0, none⟩) n cap) :
    Sl E s v n (l'.flatMap F) [(b, cb (l'.flatMap F ++ rest) E)] := by
  subst hv
  have e : (l'.flatMap F).length = (l.flatMap F).length := by rw [cat_len hF, cat_len hF, hl]
  refine ⟨by rw [e]; exact h.1, ?_⟩
  rcases h.2 with ⟨h1, _⟩ | ⟨b', cap', rest', h1, h2, h3, h4, h5⟩
  · cases h1
  · cases h1
    refine .inr ⟨b, cap, rest, rfl, rfl, h3, h4, ?_⟩
    have h6 : cb (l.flatMap F ++ rest) E = cb (l.flatMap F ++ rest') E := by
      injection h2 with h2 _
      exact (Prod.mk.inj h2).2
    unfold cb at h6
    injection h6 with h6
    have h7 := congrArg Array.size h6
    simp only [List.size_toArray, List.length_append] at h7 h5 ⊢
    omega
end

/-! ### Reslicing -/
section
variable {P : Program} {w : World} {f : Fm} {d : Option Nat} {ty : TypeId} {pos : String} {after : Array Edge} {g : Option (Nat × Bool)}
theorem r_sliceHi {x y : Operand} {T E s by_ b off len cap : Nat} {h : Int} (hT : slOf P T = some (E, s, by_)) (hx : ev f x = .slice (some ⟨b, off, none⟩) len cap) (hy : ev f y = .int .i64 h) (h0 : 0 ≤ h) (h1 : h ≤ cap) :
    (execOp (ev f) ⟨d, .slice T x none (some y) none, ty, pos, after, g⟩).run P w = .ok (.value (.slice (some ⟨b, off, none⟩) h.toNat cap)) w := by
  obtain ⟨inf, hu, hinf, rfl, rfl⟩ := slOf_parts hT
  have hb : (Instr.sliceBounds true len cap none (some (.int .i64 h)) none).run P w = .ok (0, h.toNat, cap) w := by
    simp [Instr.sliceBounds, Instr.sliceBound, asIntOf, h0, h1]
  simp only [execOp, hx, hy, Option.map_none, Option.map_some, Instr.sliceAt, Instr.slice, Sem.run_bind, run_underlying hu, Result.andThen_ok, hb, sizeOf, typeInfo, run_program, hinf, Sem.run_pure, Nat.sub_zero, Nat.zero_mul, add_eq, Nat.add_zero]
  split <;> rfl
theorem r_sliceLo {x y : Operand} {T E s by_ b off len cap : Nat} {l : Int} (hT : slOf P T = some (E, s, by_)) (hx : ev f x = .slice (some ⟨b, off, none⟩) len cap) (hy : ev f y = .int .i64 l) (h0 : 0 ≤ l) (h1 : l ≤ len) :
    (execOp (ev f) ⟨d, .slice T x (some y) none none, ty, pos, after, g⟩).run P w = .ok (.value (.slice (some ⟨b, if cap = l.toNat then off else off + l.toNat * s, none⟩) (len - l.toNat) (cap - l.toNat))) w := by
  obtain ⟨inf, hu, hinf, rfl, rfl⟩ := slOf_parts hT
  have hb : (Instr.sliceBounds true len cap (some (.int .i64 l)) none none).run P w = .ok (l.toNat, len, cap) w := by
    simp [Instr.sliceBounds, Instr.sliceBound, asIntOf, h0, h1]
  simp only [execOp, hx, hy, Option.map_none, Option.map_some, Instr.sliceAt, Instr.slice, Sem.run_bind, run_underlying hu, Result.andThen_ok, hb, sizeOf, typeInfo, run_program, hinf, Sem.run_pure, add_eq]
  split <;> rfl
end

/-! ### An order that is drawn, where a chunk that is read is written at the end -/
theorem W_drawT {P : Program} {n : Nat} {ds : List Deferred} {Q : Exit → Fm → World → Prop} {Qp : List PanicEntry → World → Prop} {id : Nat} {ops : Array Oper} {f : Fm} {w0 w : World} {F0 : List Nat} {ls : List Ck}
    (hs : St w0 F0 ls w) (hm : P.follows .mixedOrders = true) (m1 m2 : List Bool) (kl : Nat) (t effs plan : List Nat)
    (hc : (okOps n ops && Pl.ok ⟨ops, t, effs⟩ plan && effs.all fun x => decide (x < ops.size)) = true)
    (h : ∀ w, St w0 F0 ls w → dq P ⟨ops, t, effs⟩ (fun k w => St w0 F0 (zipMask (if k < kl then m1 else m2) ls) w) (Q .normal) Qp plan f w) : W P n ds (.region id ops true) Q Qp f w :=
  W_draw hm t effs plan _ hc (h _ hs.drew)
section
variable {P : Program} {p : Pl} {Qn : Fm → World → Prop} {Qp : List PanicEntry → World → Prop} {o : Oper} {f : Fm} {w w0 : World} {F0 : List Nat} {ls : List Ck} {v : Value} {i : Nat} {q : List Nat} {m1 m2 : List Bool} {kl : Nat}
theorem dq_r1 (hS : St w0 F0 (zipMask (if p.k (i :: q) < kl then m1 else m2) ls) w) (ho : p.ops[i]? = some o) (hE : p.E i = false) (hhi : p.hi i < kl) (hw : wantedF p.ops f o = true)
    (hrun : ∀ w, St w0 F0 (zipMask m1 ls) w → (execOp (ev f) o).run P w = .ok (.value v) w) (k : dq P p (fun k w => St w0 F0 (zipMask (if k < kl then m1 else m2) ls) w) Qn Qp q (put f o.dst v) w) :
    dq P p (fun k w => St w0 F0 (zipMask (if k < kl then m1 else m2) ls) w) Qn Qp (i :: q) f w :=
  dq_r hS ho hE hw (fun k w _ hk h => hrun w (by
    have e : (if k < kl then m1 else m2) = m1 := if_pos (by omega)
    rw [e] at h
    exact h)) k
end
theorem dq_rp {P : Program} {p : Pl} {S : Nat → World → Prop} {Qn : Fm → World → Prop} {Qp : List PanicEntry → World → Prop} {o : Oper} {f : Fm} {w : World} {v : Value} {i : Nat} {q : List Nat}
    (hS : S (p.k (i :: q)) w) (ho : p.ops[i]? = some o) (hE : p.E i = false) (hw : wantedF p.ops f o = true)
    (hrun : ∀ w, (execOp (ev f) o).run P w = .ok (.value v) w) (k : dq P p S Qn Qp q (put f o.dst v) w) : dq P p S Qn Qp (i :: q) f w :=
  dq_r hS ho hE hw (fun _ w _ _ _ => hrun w) k
/-! ### 'T{x, ..}' -/
def prt : Nat → List Value → List (Nat × Value)
  | _, [] => []
  | i, v :: r => (i, v) :: prt (i + 1) r
theorem fold_in : ∀ (l pre suf post : List Value), suf.length = l.length → ∀ k : Nat, ((l.zipIdx k).foldl (fun (acc : Array Value) (x : Value × Nat) => acc.setIfInBounds (pre.length - k + x.2) x.1) (pre ++ suf ++ post).toArray = (pre ++ l ++ post).toArray ∨ pre.length < k)
  | [], pre, suf, post, h, k => by
    have : suf = [] := List.length_eq_zero_iff.1 h
    subst this; exact .inl rfl
  | y :: l, pre, suf, post, h, k => by
    cases suf with
    | nil => simp at h
    | cons u suf =>
      by_cases hk : pre.length < k
      · exact .inr hk
      refine .inl ?_
      have ih := fold_in l (pre ++ [y]) suf post (by simpa using h) (k + 1)
      rcases ih with ih | ih
      · simp only [List.zipIdx_cons, List.foldl_cons]
        have e : (pre ++ u :: suf ++ post).toArray.setIfInBounds (pre.length - k + k) y = ((pre ++ [y]) ++ suf ++ post).toArray := by
          rw [Nat.sub_add_cancel (by omega)]
          simp
        rw [e]
        have e2 : (pre ++ [y]).length - (k + 1) = pre.length - k := by simp
        rw [e2] at ih
        rw [ih]
        simp
      · simp at ih; omega
theorem fill_prt {s : Nat} : ∀ (vs : List Value) (css : List (List Value)) (i : Nat) (pre suf : List Value), vs.map (·.cells) = css.map List.toArray → (∀ c ∈ css, c.length = s) → pre.length = i * s → suf.length = vs.length * s →
    Instr.fill (fun i => some (i * s, s)) (pre ++ suf).toArray (prt i vs) = some (pre ++ css.flatten).toArray
  | [], css, i, pre, suf, h, _, _, h3 => by
    have h4 : suf = [] := by simpa using h3
    subst h4
    cases css with
    | nil => simp [Instr.fill, prt]
    | cons c css => simp at h
  | v :: vs, [], i, pre, suf, h, _, _, h3 => by simp at h
  | v :: vs, c :: css, i, pre, suf, h, hl, h2, h3 => by
    simp only [List.map_cons, List.cons.injEq] at h
    have hc := hl c (by simp)
    have hle : s ≤ suf.length := by rw [h3, List.length_cons, Nat.succ_mul]; omega
    have ih := fill_prt vs css (i + 1) (pre ++ c) (suf.drop s) h.2 (fun c' hc' => hl c' (by simp [hc'])) (by rw [List.length_append, h2, hc, Nat.succ_mul]) (by rw [List.length_drop, h3, List.length_cons, Nat.succ_mul]; omega)
    simp only [prt, Instr.fill, h.1]
    have h4 : ¬ (c.toArray.size ≠ s || i * s + c.toArray.size > (pre ++ suf).toArray.size) = true := by
      simp [hc, h2, hle]
    rw [if_neg h4]
    have h5 := (fold_in c pre (suf.take s) (suf.drop s) (by rw [hc, List.length_take]; omega) 0).resolve_right (by omega)
    rw [Nat.sub_zero, List.append_assoc pre (suf.take s), List.take_append_drop] at h5
    have h6 : c.toArray.zipIdx.foldl (fun cs (x : Value × Nat) => cs.setIfInBounds (i * s + x.2) x.1) (pre ++ suf).toArray = (pre ++ c ++ suf.drop s).toArray := by
      rw [← h2, ← h5, ← Array.foldl_toList, Array.toList_zipIdx]
    have h7 := h6
    rw [show (c.toArray.zipIdx.foldl (fun cs (x : Value × Nat) => cs.setIfInBounds (i * s + x.2) x.1) (pre ++ suf).toArray) = c.toArray.zipIdx.foldl (fun cs (x : Value × Nat) => match x with | (c, j) => cs.setIfInBounds (i * s + j) c) (pre ++ suf).toArray from rfl] at h7
    rw [h7, ih]
    simp
theorem run_buildN {P : Program} {w : World} {T E s by_ : Nat} {a : Bool} {z : List Value} {vs : List Value} {css : List (List Value)} (hT : slOf P T = some (E, s, by_)) (hz : tyOf P E = some (a, s, z)) (hs0 : 0 < s) (hn : 0 < vs.length) (hsm : vs.length * s ≤ 2 ^ 24)
    (hv : vs.map (·.cells) = css.map List.toArray) (hcl : ∀ c ∈ css, c.length = s) :
    (Instr.buildSlice T vs.length (prt 0 vs).toArray).run P w = .ok (.slice (some ⟨w.heap.size, 0, none⟩) vs.length vs.length) (w.alloc (cb css.flatten E)) := by
  obtain ⟨inf, hu, hinf, rfl, rfl⟩ := slOf_parts hT
  obtain ⟨zv, hzv, hzc⟩ := tyOf_zero (w := w) hz
  have h1 : ¬ (vs.length * inf.size > 2 ^ 24) := by omega
  have h2 : ¬ (vs.length * inf.size = 0) := by
    have := Nat.mul_pos hn hs0
    omega
  have h3 := fill_prt vs css 0 [] ((Array.range (vs.length * inf.size)).map (zv.cells[· % zv.cells.size]!)).toList hv hcl (by simp) (by simp)
  simp only [List.nil_append, Array.toArray_toList] at h3
  simp only [Instr.buildSlice, Sem.run_bind, run_underlying hu, Result.andThen_ok, sizeOf, typeInfo, run_program, hinf, Sem.run_pure, h1, if_false, h2, hzv, h3, newRow, run_newObj]
  rfl
theorem o_buildN {P : Program} {w0 w : World} {F0 : List Nat} {ls : List Ck} {f : Fm} {K : Fm → World → Prop} {Qp : List PanicEntry → World → Prop} {d : Option Nat} {ty : TypeId} {pos : String} {after : Array Edge} {g : Option (Nat × Bool)}
    {T E s by_ len : Nat} {a : Bool} {z : List Value} {parts : List (Nat × Operand)} (vs : List Value) (css : List (List Value)) (hT : slOf P T = some (E, s, by_)) (hz : tyOf P E = some (a, s, z)) (hs : St w0 F0 ls w)
    (hp : (parts.map fun p => (p.1, ev f p.2)) = prt 0 vs) (hlen : len = vs.length) (hv : vs.map (·.cells) = css.map List.toArray) (hcl : ∀ c ∈ css, c.length = s) (hc : (0 < s ∧ 0 < vs.length) ∧ vs.length * s ≤ 2 ^ 24)
    (k : ∀ b w', St w0 F0 (ls ++ [[(b, cb css.flatten E)]]) w' → K (put f d (.slice (some ⟨b, 0, none⟩) len len)) w') : opF P ⟨d, .buildSlice T len parts.toArray, ty, pos, after, g⟩ f w K Qp := by
  subst hlen
  refine o_buildSlice hs ?_ k
  have e : (parts.toArray.map fun (x : Nat × Operand) => match x with | (i, x) => (i, ev f x)) = (prt 0 vs).toArray := by
    rw [List.map_toArray, ← hp]
  rw [e]
  exact run_buildN hT hz hc.1.1 hc.1.2 hc.2 hv hcl

end Go.Eng
