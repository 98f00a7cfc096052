/-
  The engine: appends of nothing, made slices, structs built of parts, slices of ints that came in. No condition.
-/
import Derived.Test.YtddhdoncjfgfnaaLaws
import Derived.Laws.MakeOwn
namespace Go.Eng

theorem list_set_same {α : Type} {l : List α} {i : Nat} {x : α} (h : l[i]? = some x) : l.set i x = l := by
  apply List.ext_getElem?
  intro j
  by_cases hij : i = j
  · subst hij
    rw [List.getElem?_set_self (List.getElem?_eq_some_iff.1 h).1, h]
  · rw [List.getElem?_set_ne hij]
section
variable {P : Program} {w0 w : World} {F0 : List Nat} {ls : List Ck} {f : Fm} {K : Fm → World → Prop} {Qp : List PanicEntry → World → Prop}
  {d : Option Nat} {ty : TypeId} {pos : String} {after : Array Edge} {g : Option (Nat × Bool)}
/-- 'append(x, y...)' where y holds nothing. -/
theorem o_append_0 {T E s by_ : Nat} {x y : Operand} {n cap : Nat} {a : Option Addr} {v : Value} {xs : List Value} {c : Ck}
    (hT : slOf P T = some (E, s, by_)) (hx : ev f x = v) (hy : ev f y = .slice a 0 cap) (hv : Sl E s v n xs c) (k : K (put f d v) w) :
    opF P ⟨d, .call ⟨.builtin .append, #[x, y], #[T, T]⟩, ty, pos, after, g⟩ f w K Qp := by
  obtain ⟨inf, hu, hinf, rfl, rfl⟩ := slOf_parts hT
  have hrun : (Builtin.append_ #[T, T] ty #[v, .slice a 0 cap]).run P w = .ok v w := by
    rcases hv.2 with ⟨rfl, _, _, _⟩ | ⟨b, cap', rest, rfl, _, hnc, _, _⟩
    · cases a
      · simp [Builtin.append_, run_underlying hu, sizeOf, typeInfo, hinf, Builtin.lenOf, Builtin.firstCells]
      · simp [Builtin.append_, run_underlying hu, sizeOf, typeInfo, hinf, Builtin.lenOf, Builtin.firstCells, loadCells, loadCellsFrom]
    · cases a
      · simp [Builtin.append_, run_underlying hu, sizeOf, typeInfo, hinf, Builtin.lenOf, Builtin.firstCells, hnc, storeCells]
      · simp [Builtin.append_, run_underlying hu, sizeOf, typeInfo, hinf, Builtin.lenOf, Builtin.firstCells, hnc, storeCells, loadCells, loadCellsFrom]
  have e : (execOp (ev f) ⟨d, .call ⟨.builtin .append, #[x, y], #[T, T]⟩, ty, pos, after, g⟩).run P w = .ok (.value v) w := by
    simp [execOp, resolve, invoke, builtin, hx, hy, hrun]
  unfold opF
  rw [e]
  exact k
/-- 'make([]T, 0, c)'. -/
theorem o_makeSlice0 {T E s by_ : Nat} {a : Bool} {z : List Value} {x y : Operand} {c : Nat} (hT : slOf P T = some (E, s, by_)) (hz : tyOf P E = some (a, s, z)) (hs : St w0 F0 ls w) (hx : ev f x = .int .i64 0) (hy : ev f y = .int .i64 c)
    (hcs : c * s ≤ 16777216) (hby : by_ * c ≤ 281474976710656) (h63 : c ≤ maxLen)
    (k : ∀ v ch w', Sl E s v 0 [] ch → St w0 F0 (ls ++ [ch]) w' → K (put f d v) w') : opF P ⟨d, .makeSlice T x y, ty, pos, after, g⟩ f w K Qp := by
  obtain ⟨inf, hu, hinf, rfl, rfl⟩ := slOf_parts hT
  obtain ⟨zv, hzv, hzc⟩ : ∃ zv, inf.zero = some zv ∧ zv.cells.toList = z := by
    unfold tyOf at hz
    split at hz
    · rename_i i' d' hi' _
      rw [hinf] at hi'
      cases hi'
      obtain ⟨zv, hzv, hz⟩ := Option.map_eq_some_iff.1 hz
      simp only [Prod.mk.injEq] at hz
      exact ⟨zv, hzv, hz.2.2⟩
    · cases hz
  have h1 := run_makeSlice (P := P) (w := w) T E inf zv hu hinf hzv .i64 .i64 0 c (Int.le_refl _) (Int.natCast_nonneg c) (by rw [Int.toNat_natCast]; exact hcs) (by rw [← Int.natCast_mul]; omega) (by
    have : maxLen ≤ 9223372036854775807 := by decide +kernel
    omega)
  rw [Int.toNat_natCast] at h1
  have e : (execOp (ev f) ⟨d, .makeSlice T x y, ty, pos, after, g⟩).run P w = .ok (.value (.slice (some ⟨w.heap.size, 0, none⟩) 0 c)) (w.alloc (cb (madeCells zv.cells (c * inf.size)).toList E)) := by
    simp only [execOp, hx, hy, Sem.run_bind, h1, Result.andThen_ok, Sem.run_pure]
    rfl
  unfold opF
  rw [e]
  refine k _ [(w.heap.size, cb (madeCells zv.cells (c * inf.size)).toList E)] _ ⟨by simp, .inr ⟨_, c, (madeCells zv.cells (c * inf.size)).toList, rfl, rfl, Nat.zero_le _, h63, by rw [List.nil_append, Array.length_toList, size_madeCells]⟩⟩ (hs.alloc _)
theorem r_buildL {T : TypeId} {parts : List (Nat × Operand)} {ps : List (Nat × Value)} {v : Value}
    (hp : (parts.map fun p => (p.1, ev f p.2)) = ps) (h : (Instr.build T ps.toArray).run P w = .ok v w) : (execOp (ev f) ⟨d, .build T parts.toArray, ty, pos, after, g⟩).run P w = .ok (.value v) w := by
  refine r_build ?_
  subst hp
  have e : (parts.toArray.map fun (x : Nat × Operand) => match x with | (i, x) => (i, ev f x)) = (parts.map fun p => (p.1, ev f p.2)).toArray := by
    rw [List.map_toArray]
  rw [e]
  exact h
theorem r_neBf {x y : Operand} {T U : TypeId} {a b : Bool} (hu : P.underlying T = some .bool) (hx : ev f x = .bool a) (hy : ev f y = .bool b) (h : a = b) :
    (execOp (ev f) ⟨d, .binOp .neq T x y U, ty, pos, after, g⟩).run P w = .ok (.value (.bool false)) w := by
  rw [r_neB hu hx hy, h]
  simp
theorem sl_one {v : Value} {n : Nat} {E s : Nat} {xs : List Value} {c : Ck} (h : Sl E s v n xs c) : v.oneCell' = true ∧ v.cells = #[v] := by
  obtain ⟨a, cap, rfl⟩ := h.len
  exact ⟨rfl, rfl⟩
/-- The ints of a slice that came in. -/
def ints (xs : List (Vector Int 1)) : List Int := xs.map fun x => x[0]
theorem vec1 (x : Vector Int 1) : x.toList = [x[0]] := by
  apply List.ext_getElem
  · simp
  · intro i h1 h2
    obtain rfl : i = 0 := by simpa using h1
    simp
theorem Arg.ints {v : Value} {xs : List (Vector Int 1)} (h : Arg 1 w v xs) (h0 : 0 < xs.length) : ∃ b off cap, v = .slice (some ⟨b, off, none⟩) xs.length cap ∧ b < w.heap.size ∧ At w b off (ic (Eng.ints xs)) := by
  obtain ⟨⟨a, cap, rfl, hall⟩, _, _⟩ := h
  obtain ⟨b, off, rfl, hb, _⟩ := hall 0 _ (List.getElem?_eq_getElem h0)
  refine ⟨b, off, cap, rfl, hb, fun j u hj => ?_⟩
  have hj' : (xs[j]?).map (fun x => Value.int .i64 x[0]) = some u := by simpa [ic, Eng.ints, Function.comp_def] using hj
  obtain ⟨x, hx, rfl⟩ := Option.map_eq_some_iff.1 hj'
  obtain ⟨b', off', e, _, hat⟩ := hall j x hx
  simp only [Option.some.injEq, Addr.mk.injEq] at e
  obtain ⟨rfl, rfl, _⟩ := e
  have := hat 0 (.int .i64 x[0]) (by rw [vec1]; rfl)
  simpa using this
/-- 'append(x, y...)', y a slice of ints that came in. -/
theorem o_append_arg {T E by_ : Nat} {a : Bool} {z : List Value} {x y : Operand} {i n : Nat} {v yv : Value} {zs : List Int} {xs : List (Vector Int 1)} {c : Ck} (hT : slOf P T = some (E, 1, by_)) (hz : tyOf P E = some (a, 1, z)) (hzl : z.length = 1)
    (harg : Arg 1 w yv xs) (hs : St w0 F0 ls w) (hx : ev f x = v) (hy : ev f y = yv) (hi : ls[i]? = some c) (hv : Sl E 1 v n (ic zs) c) (h63 : n + xs.length ≤ maxLen) (hby : (n + xs.length) * by_ ≤ 140737488355328)
    (k : ∀ v' c' w', Sl E 1 v' (n + xs.length) (ic (zs ++ Eng.ints xs)) c' → St w0 F0 (ls.set i c') w' → K (put f d v') w') : opF P ⟨d, .call ⟨.builtin .append, #[x, y], #[T, T]⟩, ty, pos, after, g⟩ f w K Qp := by
  by_cases h0 : 0 < xs.length
  · obtain ⟨b, off, cap, rfl, _, hat⟩ := harg.ints h0
    refine o_append (scap := cap) hT hz hzl hs hx hy hi hv (by simp [Eng.ints]) hat (ic_one _) h63 hby fun v' c' w' hv' hs' => k v' c' w' ?_ hs'
    rw [ic_app]
    exact hv'
  · have e : xs = [] := List.length_eq_zero_iff.1 (by omega)
    subst e
    obtain ⟨⟨a, cap, rfl, _⟩, _, _⟩ := harg
    refine o_append_0 hT hx hy hv (k v c w ?_ ?_)
    · simpa [Eng.ints] using hv
    · rw [list_set_same hi]; exact hs
theorem ic_flat (l : List Int) : ic l = l.flatMap fun x => [Value.int .i64 x] := by
  induction l with
  | nil => rfl
  | cons x l ih => simp [ic] at ih ⊢; exact ih
/-- An int of a slice that is held. -/
theorem Sl.int {E n i : Nat} {v : Value} {l : List Int} {c : Ck} {x : Int} (h : Sl E 1 v n (ic l) c) (hi : l[i]? = some x) (hp : Hp c w) : ∃ b cap, v = .slice (some ⟨b, 0, none⟩) n cap ∧ w.cell? ⟨b, 0 + i * 1, none⟩ = some (.int .i64 x) := by
  rw [ic_flat] at h
  obtain ⟨b, cap, rest, rfl, rfl, hc, _⟩ := h.get (F := fun x => [Value.int .i64 x]) (fun _ => rfl) hi (by decide)
  refine ⟨b, cap, rfl, ?_⟩
  have hb := hp.has (b, cb (l.flatMap (fun x => [Value.int .i64 x]) ++ rest) E) (by simp)
  have : At w b (0 + i * 1) [Value.int .i64 x] := At.of_block hb (by rw [Nat.zero_add]; exact hc)
  exact this 0 _ rfl
/-- 'append(x, y...)', both held. -/
theorem o_append_sl {T E s by_ : Nat} {a : Bool} {z : List Value} {x y : Operand} {i j n m : Nat} {v u : Value} {xs ys : List Value} {c c2 : Ck} (hT : slOf P T = some (E, s, by_)) (hz : tyOf P E = some (a, s, z)) (hzl : z.length = s)
    (hs : St w0 F0 ls w) (hx : ev f x = v) (hy : ev f y = u) (hi : ls[i]? = some c) (hj : ls[j]? = some c2) (hv : Sl E s v n xs c) (hu : Sl E s u m ys c2) (h1 : ∀ q ∈ ys, q.oneCell' = true) (h63 : n + m ≤ maxLen) (hby : (n + m) * by_ ≤ 140737488355328)
    (k : ∀ v' c' w', Sl E s v' (n + m) (xs ++ ys) c' → St w0 F0 (ls.set i c') w' → K (put f d v') w') : opF P ⟨d, .call ⟨.builtin .append, #[x, y], #[T, T]⟩, ty, pos, after, g⟩ f w K Qp := by
  rcases hu.2 with ⟨rfl, rfl, rfl, _⟩ | ⟨b, cap, rest, rfl, rfl, _, _, _⟩
  · refine o_append_0 hT hx hy hv (k v c w (by simpa using hv) ?_)
    rw [list_set_same hi]; exact hs
  · exact o_append (scap := cap) hT hz hzl hs hx hy hi hv hu.1 (At.of_block (hs.own hj) (by rw [List.drop_zero, List.take_left])) h1 h63 hby k
/-- An int is put into a block of ints. -/
theorem ic_set {m : List Int} {i : Nat} (rest : List Value) (x : Int) (hi : i < m.length) : spl (ic m ++ rest) (i * 1 + 0) [.int .i64 x] = ic (m.set i x) ++ rest := by
  rw [ic_flat, ic_flat]
  exact cat_set (F := fun x => [Value.int .i64 x]) (s := 1) (fun _ => rfl) rest m i m[i] x (List.getElem?_eq_getElem hi) rfl (by simp)
end
end Go.Eng
