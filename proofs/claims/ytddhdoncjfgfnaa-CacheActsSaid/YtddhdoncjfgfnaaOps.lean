/-
  The engine, the operations: the world as a list of chunks of blocks that the call holds; what each operation answers and leaves. No condition.
-/
import Derived.Test.YtddhdoncjfgfnaaDraw
import Derived.WalkKit
import Derived.Maps.RangeRun
namespace Go.Eng
open Go.ChangeMaps (setBlock)

/-! ### The world -/
abbrev Ck := List (Nat × Obj)
def cb (cs : List Value) (T : TypeId) : Obj := .cells cs.toArray T (0, 0)
def ks (c : Ck) : List Nat := c.map (·.1)

/-- Held: the chunks ls, of which each block stood in the world w0 under a number of F0, or is new; of w0 nothing else has turned. -/
structure St (w0 : World) (F0 : List Nat) (ls : List Ck) (w : World) : Prop where
  has : ∀ p ∈ ls.flatten, w.heap[p.1]? = some p.2
  nodup : (ks ls.flatten).Nodup
  fresh : ∀ b ∈ ks ls.flatten, b ∈ F0 ∨ w0.heap.size ≤ b
  os : w.os = w0.os
  tape : w.tape = w0.tape
  output : w.output = w0.output
  size : w0.heap.size ≤ w.heap.size
  old : ∀ k, k < w0.heap.size → k ∉ F0 → w.heap[k]? = w0.heap[k]?

/-- A chunk is there. -/
structure Hp (c : Ck) (w : World) : Prop where
  has : ∀ p ∈ c, w.heap[p.1]? = some p.2
  nodup : (ks c).Nodup

theorem Hp.lt {c : Ck} {w : World} (h : Hp c w) : ∀ b ∈ ks c, b < w.heap.size := fun b hb => by
  obtain ⟨p, hp, rfl⟩ := List.mem_map.1 hb
  exact (Array.getElem?_eq_some_iff.1 (h.has p hp)).1
theorem Hp.nil (w : World) : Hp [] w := ⟨by simp, by simp [ks]⟩
theorem Hp.st {c : Ck} {w : World} (h : Hp c w) : St w (ks c) [c] w :=
  ⟨by simpa using h.has, by simpa using h.nodup, fun b hb => .inl (by simpa using hb), rfl, rfl, rfl, Nat.le_refl _, fun _ _ _ => rfl⟩
theorem Hp.st2 {c d : Ck} {w : World} (h : Hp (c ++ d) w) : St w (ks (c ++ d)) [c, d] w :=
  ⟨by simpa using h.has, by simpa using h.nodup, fun b hb => .inl (by simpa using hb), rfl, rfl, rfl, Nat.le_refl _, fun _ _ _ => rfl⟩
theorem St.start (w : World) : St w [] [] w := ⟨by simp, by simp [ks], by simp [ks], rfl, rfl, rfl, Nat.le_refl _, fun _ _ _ => rfl⟩

section
variable {w0 w : World} {F0 : List Nat} {ls : List Ck}

theorem St.cast {ls' : List Ck} (h : St w0 F0 ls w) (e : ls.flatten = ls'.flatten) : St w0 F0 ls' w := by
  obtain ⟨h1, h2, h3, h4, h5, h6, h7, h8⟩ := h
  rw [e] at h1 h2 h3
  exact ⟨h1, h2, h3, h4, h5, h6, h7, h8⟩
theorem St.hp (h : St w0 F0 ls w) : Hp ls.flatten w := ⟨h.has, h.nodup⟩
theorem St.sub {c : Ck} (h : St w0 F0 ls w) (hc : c.Sublist ls.flatten) : Hp c w :=
  ⟨fun p hp => h.has p (hc.subset hp), h.nodup.sublist (hc.map _)⟩
theorem mem_sub {c : Ck} {i : Nat} (hi : ls[i]? = some c) : c.Sublist ls.flatten := by
  have := List.mem_of_getElem? hi
  exact List.sublist_flatten_of_mem this
theorem St.at {i : Nat} {c : Ck} (h : St w0 F0 ls w) (hi : ls[i]? = some c) : Hp c w := h.sub (mem_sub hi)
theorem St.own {i : Nat} {b : Nat} {o : Obj} (h : St w0 F0 ls w) (hi : ls[i]? = some [(b, o)]) : w.heap[b]? = some o :=
  (h.at hi).has (b, o) (by simp)
theorem St.lt (h : St w0 F0 ls w) : ∀ b ∈ ks ls.flatten, b < w.heap.size := h.hp.lt
theorem St.drew (h : St w0 F0 ls w) : St w0 F0 ls { w with drawn := w.drawn + 1 } := ⟨h.has, h.nodup, h.fresh, h.os, h.tape, h.output, h.size, h.old⟩
/-- What is still told at the end. -/
theorem St.keep {ls' : List Ck} (h : St w0 F0 ls w) (hc : ls'.flatten.Sublist ls.flatten) : St w0 F0 ls' w :=
  ⟨fun p hp => h.has p (hc.subset hp), h.nodup.sublist (hc.map _), fun b hb => h.fresh b ((hc.map _).subset hb), h.os, h.tape, h.output, h.size, h.old⟩
theorem St.perm {c c' : Ck} (h : St w0 F0 [c] w) (hp : c.Perm c') : St w0 F0 [c'] w := by
  obtain ⟨h1, h2, h3, h4, h5, h6, h7, h8⟩ := h
  simp only [List.flatten_cons, List.flatten_nil, List.append_nil] at h1 h2 h3
  have hm : (ks c).Perm (ks c') := List.Perm.map (fun p : Nat × Obj => p.1) hp
  refine ⟨fun p hp' => h1 p (hp.mem_iff.2 (by simpa using hp')), ?_, fun b hb => h3 b ?_, h4, h5, h6, h7, h8⟩
  · simpa using hm.nodup_iff.1 h2
  · have : b ∈ ks c' := by simpa using hb
    exact hm.mem_iff.2 this

theorem heap_new (w : World) (o : Obj) : (w.alloc o).heap[w.heap.size]? = some o := by
  show (w.heap.push o)[w.heap.size]? = _
  simp
theorem heap_old (w : World) (o : Obj) {k : Nat} (h : k < w.heap.size) : (w.alloc o).heap[k]? = w.heap[k]? := by
  show (w.heap.push o)[k]? = _
  rw [Array.getElem?_push_lt h, Array.getElem?_eq_getElem h]
/-- A block more. -/
theorem St.alloc (h : St w0 F0 ls w) (o : Obj) : St w0 F0 (ls ++ [[(w.heap.size, o)]]) (w.alloc o) := by
  have hlt := h.lt
  refine ⟨?_, ?_, ?_, h.os, h.tape, h.output, ?_, ?_⟩
  · intro p hp
    simp only [List.flatten_append, List.flatten_cons, List.flatten_nil, List.append_nil, List.mem_append, List.mem_singleton] at hp
    rcases hp with hp | rfl
    · have h1 := h.has p hp
      have h2 := (Array.getElem?_eq_some_iff.1 h1).1
      rw [heap_old w o h2]; exact h1
    · exact heap_new w o
  · simp only [ks, List.flatten_append, List.flatten_cons, List.flatten_nil, List.append_nil, List.map_append, List.map_cons, List.map_nil]
    rw [List.nodup_append]
    refine ⟨h.nodup, by simp, fun a ha b hb => ?_⟩
    have := hlt a ha
    simp at hb
    omega
  · intro b hb
    simp only [ks, List.flatten_append, List.flatten_cons, List.flatten_nil, List.append_nil, List.map_append, List.map_cons, List.map_nil, List.mem_append, List.mem_singleton] at hb
    rcases hb with hb | rfl
    · exact h.fresh b hb
    · exact .inr h.size
  · simp; have := h.size; omega
  · intro k hk hF
    have := h.size
    rw [heap_old w o (k := k) (by omega)]
    exact h.old k hk hF

theorem heap_set (w : World) (b : Nat) (o : Obj) (k : Nat) : ({ w with heap := w.heap.setIfInBounds b o } : World).heap[k]? = if b = k then (w.heap[k]?).map (fun _ => o) else w.heap[k]? := by
  simp only [Array.getElem?_setIfInBounds]
  split
  · rename_i e; subst e
    split
    · rename_i h; rw [Array.getElem?_eq_getElem h]; rfl
    · rename_i h; rw [Array.getElem?_eq_none (Nat.not_lt.1 h)]; rfl
  · rfl

/-- In a list of chunks one chunk is exchanged for another: what is left of the numbers. -/
theorem flatten_split {i : Nat} {c : Ck} (hi : ls[i]? = some c) : ∃ a b, ls = a ++ c :: b ∧ ∀ c', ls.set i c' = a ++ c' :: b := by
  have hlt := (List.getElem?_eq_some_iff.1 hi).1
  refine ⟨ls.take i, ls.drop (i + 1), ?_, fun c' => ?_⟩
  · have h2 := (List.getElem?_eq_some_iff.1 hi).2
    rw [← h2, List.getElem_cons_drop, List.take_append_drop]
  · rw [List.set_eq_take_append_cons_drop, if_pos hlt]

/-- The world w' is w but for the blocks of c; its chunk there is c'. -/
theorem St.change {i : Nat} {c c' : Ck} {w' : World} (h : St w0 F0 ls w) (hi : ls[i]? = some c) (h' : St w (ks c) [c'] w') : St w0 F0 (ls.set i c') w' := by
  obtain ⟨a, b, e, hset⟩ := flatten_split hi
  rw [hset]
  subst e
  have hnd := h.nodup
  simp only [ks, List.flatten_append, List.flatten_cons, List.map_append] at hnd
  have hlt : ∀ x, x ∈ ks a.flatten ∨ x ∈ ks b.flatten → x < w.heap.size := fun x hx => h.lt x (by
    simp only [ks, List.flatten_append, List.flatten_cons, List.map_append, List.mem_append]
    rcases hx with hx | hx
    · exact .inl hx
    · exact .inr (.inr hx))
  have hnc : ∀ x, x ∈ ks a.flatten ∨ x ∈ ks b.flatten → x ∉ ks c := fun x hx hc => by
    rw [List.nodup_append] at hnd
    obtain ⟨_, h2, h3⟩ := hnd
    rw [List.nodup_append] at h2
    rcases hx with hx | hx
    · exact h3 x hx x (by simp only [List.mem_append]; exact .inl hc) rfl
    · exact h2.2.2 x hc x hx rfl
  have hnew : ∀ x ∈ ks c', x ∈ ks c ∨ w.heap.size ≤ x := fun x hx => h'.fresh x (by simpa using hx)
  have hkeep : ∀ p, p ∈ a.flatten ∨ p ∈ b.flatten → w'.heap[p.1]? = some p.2 := fun p hp => by
    have hx : p.1 ∈ ks a.flatten ∨ p.1 ∈ ks b.flatten := by
      rcases hp with hp | hp
      · exact .inl (List.mem_map.2 ⟨p, hp, rfl⟩)
      · exact .inr (List.mem_map.2 ⟨p, hp, rfl⟩)
    rw [h'.old p.1 (hlt _ hx) (hnc _ hx)]
    refine h.has p ?_
    simp only [List.flatten_append, List.flatten_cons, List.mem_append]
    rcases hp with hp | hp
    · exact .inl hp
    · exact .inr (.inr hp)
  refine ⟨?_, ?_, ?_, h'.os.trans h.os, h'.tape.trans h.tape, h'.output.trans h.output, Nat.le_trans h.size h'.size, ?_⟩
  · intro p hp
    simp only [List.flatten_append, List.flatten_cons, List.mem_append] at hp
    rcases hp with hp | hp | hp
    · exact hkeep p (.inl hp)
    · exact h'.has p (by simpa using hp)
    · exact hkeep p (.inr hp)
  · simp only [ks, List.flatten_append, List.flatten_cons, List.map_append]
    have n' : (ks c').Nodup := by simpa using h'.nodup
    rw [List.nodup_append] at hnd ⊢
    obtain ⟨n1, n2, n3⟩ := hnd
    rw [List.nodup_append] at n2 ⊢
    obtain ⟨_, n4, n5⟩ := n2
    refine ⟨n1, ⟨n', n4, fun x hx y hy e => ?_⟩, fun x hx y hy e => ?_⟩
    · subst e
      rcases hnew x hx with h1 | h1
      · exact n5 x h1 x hy rfl
      · have := hlt x (.inr hy); omega
    · subst e
      rcases List.mem_append.1 hy with hy | hy
      · rcases hnew x hy with h1 | h1
        · exact n3 x hx x (by simp only [List.mem_append]; exact .inl h1) rfl
        · have := hlt x (.inl hx); omega
      · exact n3 x hx x (by simp only [List.mem_append]; exact .inr hy) rfl
  · intro x hx
    simp only [ks, List.flatten_append, List.flatten_cons, List.map_append, List.mem_append] at hx
    rcases hx with hx | hx | hx
    · exact h.fresh x (by simp only [ks, List.flatten_append, List.flatten_cons, List.map_append, List.mem_append]; exact .inl hx)
    · rcases hnew x hx with h1 | h1
      · exact h.fresh x (by simp only [ks, List.flatten_append, List.flatten_cons, List.map_append, List.mem_append]; exact .inr (.inl h1))
      · have := h.size; exact .inr (by omega)
    · exact h.fresh x (by simp only [ks, List.flatten_append, List.flatten_cons, List.map_append, List.mem_append]; exact .inr (.inr hx))
  · intro k hk hF
    have hs := h.size
    have hkc : k ∉ ks c := fun hc => by
      rcases h.fresh k (by simp only [ks, List.flatten_append, List.flatten_cons, List.map_append, List.mem_append]; exact .inr (.inl hc)) with h1 | h1
      · exact hF h1
      · omega
    rw [h'.old k (by omega) hkc]
    exact h.old k hk hF

/-- One block is set anew. -/
theorem St.set1 {i : Nat} {b : Nat} {o o' : Obj} (h : St w0 F0 ls w) (hi : ls[i]? = some [(b, o)]) : St w0 F0 (ls.set i [(b, o')]) { w with heap := w.heap.setIfInBounds b o' } := by
  have hb := h.own hi
  have hlt : b < w.heap.size := (Array.getElem?_eq_some_iff.1 hb).1
  refine h.change hi ⟨?_, by simp [ks], by simp [ks], rfl, rfl, rfl, by simp, ?_⟩
  · intro p hp
    simp at hp; subst hp
    rw [heap_set, if_pos rfl, hb]; rfl
  · intro k _ hk
    simp [ks] at hk
    rw [heap_set, if_neg (fun e => hk e.symm)]
/-- Something new comes to a chunk that was empty, or a chunk more. -/
theorem St.more {c : Ck} {w' : World} (h : St w0 F0 ls w) (h' : St w [] [c] w') : St w0 F0 (ls ++ [c]) w' := by
  have h1 : St w0 F0 (ls ++ [[]]) w := h.cast (by simp)
  have h2 := h1.change (i := ls.length) (c := []) (c' := c) (by simp) h'
  have e : (ls ++ [[]]).set ls.length c = ls ++ [c] := by simp
  rw [e] at h2
  exact h2
theorem St.oldcell (h : St w0 F0 ls w) {b : Nat} (hb : b < w0.heap.size) (hF : b ∉ F0) (off : Nat) : w.cell? ⟨b, off, none⟩ = w0.cell? ⟨b, off, none⟩ :=
  World.cell?_of_block (a := ⟨b, off, none⟩) (h.old b hb hF)
end

/-! ### Types -/
def aggB : TypeDesc → Bool
  | .struct _ | .array _ _ => true
  | _ => false
/-- Is it made of cells; how many; its zero. -/
def tyOf (P : Program) (T : TypeId) : Option (Bool × Nat × List Value) :=
  match P.info? T, P.underlying T with
  | some i, some d => i.zero.map fun z => (aggB d, i.size, z.cells.toList)
  | _, _ => none
/-- A field's place. -/
def faOf (P : Program) (T : TypeId) (i : Nat) : Option Nat :=
  match P.underlying T with
  | some (.struct fs) => match fs[i]? with
    | some f => if ((P.info? f.type).map (·.size)).getD 0 = 0 then none else some f.offset
    | none => none
  | _ => none
/-- A field's place and type. -/
def fdOf (P : Program) (T : TypeId) (i : Nat) : Option (TypeId × Nat) :=
  match P.underlying T with
  | some (.struct fs) => (fs[i]?).map fun f => (f.type, f.offset)
  | _ => none
/-- A slice's element: its type, its cells, its bytes. -/
def slOf (P : Program) (T : TypeId) : Option (TypeId × Nat × Nat) :=
  match P.underlying T with
  | some (.slice e) => (P.info? e).map fun i => (e, i.size, i.bytes)
  | _ => none
/-- An array's length, its element's cells. -/
def arOf (P : Program) (T : TypeId) : Option (Nat × Nat) :=
  match P.underlying T with
  | some (.array n e) => (P.info? e).map fun i => (n, i.size)
  | _ => none

section
variable {P : Program} {w : World}
theorem tyOf_agg {T : TypeId} {a : Bool} {n : Nat} {z : List Value} (h : tyOf P T = some (a, n, z)) : (isAgg T).run P w = .ok a w ∧ (sizeOf T).run P w = .ok n w := by
  unfold tyOf at h
  split at h
  · rename_i i d hi hd
    obtain ⟨z', hz, h⟩ := Option.map_eq_some_iff.1 h
    simp only [Prod.mk.injEq] at h
    obtain ⟨rfl, rfl, _⟩ := h
    constructor
    · simp only [isAgg, Sem.run_bind, run_underlying hd, Result.andThen_ok]
      cases d <;> rfl
    · simp [sizeOf, typeInfo, hi]
  · cases h
theorem tyOf_zero {T : TypeId} {a : Bool} {n : Nat} {z : List Value} (h : tyOf P T = some (a, n, z)) : ∃ v, (zeroValue T).run P w = .ok v w ∧ v.cells.toList = z := by
  unfold tyOf at h
  split at h
  · rename_i i d hi hd
    obtain ⟨z', hz, h⟩ := Option.map_eq_some_iff.1 h
    simp only [Prod.mk.injEq] at h
    refine ⟨z', ?_, h.2.2⟩
    simp [zeroValue, typeInfo, hi, hz]
  · cases h

theorem add_eq (b off k : Nat) : (⟨b, off, none⟩ : Addr).add k = ⟨b, off + k, none⟩ := by
  unfold Addr.add
  split
  · rename_i h; subst h; rfl
  · rfl

/-- The cells vs lie there. -/
def At (w : World) (b off : Nat) (vs : List Value) : Prop := ∀ (j : Nat) (v : Value), vs[j]? = some v → w.cell? ⟨b, off + j, none⟩ = some v

theorem At.of_block {b off : Nat} {cs vs : List Value} {T : TypeId} (h : w.heap[b]? = some (cb cs T)) (hv : (cs.drop off).take vs.length = vs) : At w b off vs := by
  intro j v hj
  rw [cell_of_row w b (off + j) cs.toArray T (0, 0) h]
  rw [← hv] at hj
  rw [List.getElem?_take] at hj
  split at hj
  · rw [List.getElem?_drop] at hj
    simpa using hj
  · cases hj
theorem At.one {b off : Nat} {cs : List Value} {v : Value} {T : TypeId} (h : w.heap[b]? = some (cb cs T)) (hv : cs[off]? = some v) : w.cell? ⟨b, off, none⟩ = some v := by
  rw [cell_of_row w b off cs.toArray T (0, 0) h]
  simpa using hv
theorem At.sub {b off : Nat} {vs us : List Value} (h : At w b off vs) (k : Nat) (hu : (vs.drop k).take us.length = us) : At w b (off + k) us := by
  intro j v hj
  rw [Nat.add_assoc]
  refine h (k + j) v ?_
  rw [← hu, List.getElem?_take] at hj
  split at hj
  · rw [List.getElem?_drop] at hj; exact hj
  · cases hj

theorem run_load1 {T : TypeId} {z : List Value} {n b off : Nat} {v : Value} (ht : tyOf P T = some (false, n, z)) (hc : w.cell? ⟨b, off, none⟩ = some v) :
    (Instr.loadAt T (.pointer (some ⟨b, off, none⟩))).run P w = .ok v w := by
  simp [Instr.loadAt, Instr.sureAddr, loadVar, Sem.run_bind, (tyOf_agg (w := w) ht).1, hc]
theorem run_loadN {T : TypeId} {z vs : List Value} {b off : Nat} (ht : tyOf P T = some (true, vs.length, z)) (hc : At w b off vs) :
    (Instr.loadAt T (.pointer (some ⟨b, off, none⟩))).run P w = .ok (.agg vs.toArray) w := by
  have hl := run_loadCells_list (P := P) w ⟨b, off, none⟩ vs (fun j v hv => by rw [add_eq]; exact hc j v hv)
  simp [Instr.loadAt, Instr.sureAddr, loadVar, Sem.run_bind, (tyOf_agg (w := w) ht).1, (tyOf_agg (w := w) ht).2, hl]

theorem faOf_run {T : TypeId} {i k b off : Nat} (h : faOf P T i = some k) : (Instr.fieldAt T (.pointer (some ⟨b, off, none⟩)) i).run P w = .ok (.pointer (some ⟨b, off + k, none⟩)) w := by
  unfold faOf at h
  split at h
  · rename_i fs hfs
    split at h
    · rename_i f hf
      split at h
      · cases h
      · rename_i hne
        cases h
        cases hi : P.info? f.type with
        | none => simp [hi] at hne
        | some info =>
          have hz : ¬ info.size = 0 := by simpa [hi] using hne
          simp [Instr.fieldAt, run_underlying hfs, hf, Instr.sureAddr, fieldPlace, sizeOf, typeInfo, hi, hz, add_eq]
    · cases h
  · cases h
end

/-! ### Operations that only read -/
section
variable {P : Program} {w : World} {f : Fm} {d : Option Nat} {ty : TypeId} {pos : String} {after : Array Edge} {g : Option (Nat × Bool)}

theorem r_move {x : Operand} : (execOp (ev f) ⟨d, .move x, ty, pos, after, g⟩).run P w = .ok (.value (ev f x)) w := rfl
theorem r_assign {x : Operand} : (execOp (ev f) ⟨d, .assign x, ty, pos, after, g⟩).run P w = .ok (.value (ev f x)) w := rfl
theorem r_pick {c x y : Operand} {b : Bool} (h : ev f c = .bool b) : (execOp (ev f) ⟨d, .pick c x y, ty, pos, after, g⟩).run P w = .ok (.value (cond b (ev f x) (ev f y))) w := by
  cases b <;> simp [execOp, h, asBool]
theorem r_nilCheck {x : Operand} {a : Addr} (h : ev f x = .pointer (some a)) : (execOp (ev f) ⟨d, .nilCheck x, ty, pos, after, g⟩).run P w = .ok (.value (.pointer (some a))) w := by
  simp [execOp, h]
theorem r_extract {x : Operand} {i : Nat} {vs : Array Value} {v : Value} (h : ev f x = .tuple vs) (hv : vs[i]? = some v) : (execOp (ev f) ⟨d, .extract x i, ty, pos, after, g⟩).run P w = .ok (.value v) w := by
  simp [execOp, h, Instr.extract, hv]
theorem r_not {x : Operand} {t : TypeId} {b : Bool} (h : ev f x = .bool b) : (execOp (ev f) ⟨d, .unOp .not t x, ty, pos, after, g⟩).run P w = .ok (.value (.bool (!b))) w := by
  simp [execOp, h, Op.unary]
theorem r_field {x : Operand} {T i k b off : Nat} (h : ev f x = .pointer (some ⟨b, off, none⟩)) (hf : faOf P T i = some k) :
    (execOp (ev f) ⟨d, .fieldAddr T x i, ty, pos, after, g⟩).run P w = .ok (.value (.pointer (some ⟨b, off + k, none⟩))) w := by
  simp [execOp, h, faOf_run hf]
theorem r_load1 {x : Operand} {T n b off : Nat} {z : List Value} {v : Value} (h : ev f x = .pointer (some ⟨b, off, none⟩)) (ht : tyOf P T = some (false, n, z)) (hc : w.cell? ⟨b, off, none⟩ = some v) :
    (execOp (ev f) ⟨d, .load T x, ty, pos, after, g⟩).run P w = .ok (.value v) w := by
  simp [execOp, h, run_load1 ht hc]
theorem r_loadN {x : Operand} {T b off n : Nat} {z vs : List Value} (h : ev f x = .pointer (some ⟨b, off, none⟩)) (ht : tyOf P T = some (true, n, z)) (hn : vs.length = n) (hc : At w b off vs) :
    (execOp (ev f) ⟨d, .load T x, ty, pos, after, g⟩).run P w = .ok (.value (.agg vs.toArray)) w := by
  subst hn
  simp [execOp, h, run_loadN ht hc]
theorem r_fieldV {x : Operand} {T U i off n : Nat} {z cs : List Value} {v : Value} (h : ev f x = .agg cs.toArray) (hf : fdOf P T i = some (U, off)) (ht : tyOf P U = some (false, n, z)) (hv : cs[off]? = some v) :
    (execOp (ev f) ⟨d, .field T x i, ty, pos, after, g⟩).run P w = .ok (.value v) w := by
  unfold fdOf at hf
  split at hf
  · rename_i fs hfs
    obtain ⟨fl, hfl, hf⟩ := Option.map_eq_some_iff.1 hf
    simp only [Prod.mk.injEq] at hf
    obtain ⟨rfl, rfl⟩ := hf
    simp [execOp, h, Instr.field, run_underlying hfs, hfl, asAgg, part, (tyOf_agg (w := w) ht).1, hv]
  · cases hf
theorem r_build {T : TypeId} {parts : Array (Nat × Operand)} {v : Value} (h : (Instr.build T (parts.map fun (i, x) => (i, ev f x))).run P w = .ok v w) :
    (execOp (ev f) ⟨d, .build T parts, ty, pos, after, g⟩).run P w = .ok (.value v) w := by
  simp only [execOp, Sem.run_bind, h, Result.andThen_ok, Sem.run_pure]
theorem r_index {x y : Operand} {T e s by_ b off len cap : Nat} {n : Int} (h : ev f x = .slice (some ⟨b, off, none⟩) len cap) (hy : ev f y = .int .i64 n) (hT : slOf P T = some (e, s, by_)) (h0 : 0 ≤ n) (h1 : n < (len : Int)) :
    (execOp (ev f) ⟨d, .indexAddr T x y, ty, pos, after, g⟩).run P w = .ok (.value (.pointer (some ⟨b, off + n.toNat * s, none⟩))) w := by
  unfold slOf at hT
  split at hT
  · rename_i e' hu
    obtain ⟨i, hi, hT⟩ := Option.map_eq_some_iff.1 hT
    simp only [Prod.mk.injEq] at hT
    obtain ⟨rfl, rfl, _⟩ := hT
    simp [execOp, h, hy, Instr.indexAt, asIntOf, run_underlying hu, h0, h1, sizeOf, typeInfo, hi, add_eq]
  · cases hT
theorem r_indexA {x y : Operand} {T s b off len : Nat} {n : Int} (h : ev f x = .pointer (some ⟨b, off, none⟩)) (hy : ev f y = .int .i64 n) (hT : arOf P T = some (len, s)) (h0 : 0 ≤ n) (h1 : n < (len : Int)) :
    (execOp (ev f) ⟨d, .indexAddr T x y, ty, pos, after, g⟩).run P w = .ok (.value (.pointer (some ⟨b, off + n.toNat * s, none⟩))) w := by
  unfold arOf at hT
  split at hT
  · rename_i m e' hu
    obtain ⟨i, hi, hT⟩ := Option.map_eq_some_iff.1 hT
    simp only [Prod.mk.injEq] at hT
    obtain ⟨rfl, rfl⟩ := hT
    simp [execOp, h, hy, Instr.indexAt, asIntOf, run_underlying hu, Instr.sureAddr, h0, h1, sizeOf, typeInfo, hi, add_eq]
  · cases hT
theorem r_lenS {x : Operand} {T e len cap : Nat} {a : Option Addr} (hu : P.underlying T = some (.slice e)) (h : ev f x = .slice a len cap) :
    (execOp (ev f) ⟨d, .call ⟨.builtin .len, #[x], #[T]⟩, ty, pos, after, g⟩).run P w = .ok (.value (.int .i64 len)) w := by
  simp [execOp, resolve, invoke, builtin, Builtin.len_, h, run_underlying hu, goInt]
theorem r_lenM {x : Operand} {T k e b c : Nat} {es : Array MapEntry} (hu : P.underlying T = some (.map k e)) (h : ev f x = .map (some b)) (hb : w.heap[b]? = some (.map es c)) :
    (execOp (ev f) ⟨d, .call ⟨.builtin .len, #[x], #[T]⟩, ty, pos, after, g⟩).run P w = .ok (.value (.int .i64 es.size)) w := by
  simp [execOp, resolve, invoke, builtin, Builtin.len_, h, run_underlying hu, goInt, MapKept.run_getObj_map hb]
theorem r_max {x y : Operand} {T U : TypeId} {a b : Int} (hx : ev f x = .int .i64 a) (hy : ev f y = .int .i64 b) :
    (execOp (ev f) ⟨d, .call ⟨.builtin .max, #[x, y], #[T, U]⟩, ty, pos, after, g⟩).run P w = .ok (.value (.int .i64 (max a b))) w := by
  have : (if b > a then b else a) = max a b := by rw [Int.max_def]; split <;> split <;> omega
  simp [execOp, resolve, invoke, builtin, Builtin.max_, Builtin.max2, hx, hy, ← this]
theorem r_min {x y : Operand} {T U : TypeId} {a b : Int} (hx : ev f x = .int .i64 a) (hy : ev f y = .int .i64 b) :
    (execOp (ev f) ⟨d, .call ⟨.builtin .min, #[x, y], #[T, U]⟩, ty, pos, after, g⟩).run P w = .ok (.value (.int .i64 (min a b))) w := by
  have : (if b < a then b else a) = min a b := by rw [Int.min_def]; split <;> split <;> omega
  simp [execOp, resolve, invoke, builtin, Builtin.min_, Builtin.min2, hx, hy, ← this]

/-- Two numbers compared. -/
def cmpB : BinOp → Int → Int → Option Bool
  | .eql, a, b => some (a == b)
  | .neq, a, b => some (a != b)
  | .lss, a, b => some (decide (a < b))
  | .leq, a, b => some (decide (a ≤ b))
  | .gtr, a, b => some (decide (b < a))
  | .geq, a, b => some (decide (b ≤ a))
  | _, _, _ => none
theorem r_cmp {op : BinOp} {x y : Operand} {T U : TypeId} {k : IntKind} {a b : Int} {r : Bool} (hx : ev f x = .int k a) (hy : ev f y = .int k b) (h : cmpB op a b = some r) :
    (execOp (ev f) ⟨d, .binOp op T x y U, ty, pos, after, g⟩).run P w = .ok (.value (.bool r)) w := by
  cases op <;> simp only [cmpB, Option.some.injEq] at h <;> first | (cases h; done) | (subst h; simp [execOp, hx, hy, eqGuard, binOp, Op.intCmp])
theorem r_add {x y : Operand} {T U : TypeId} {k : IntKind} {a b c : Int} (hx : ev f x = .int k a) (hy : ev f y = .int k b) (h : k.wrap (a + b) = c) :
    (execOp (ev f) ⟨d, .binOp .add T x y U, ty, pos, after, g⟩).run P w = .ok (.value (.int k c)) w := by
  subst h; simp [execOp, hx, hy, eqGuard, binOp, Op.intArith]
theorem r_sub {x y : Operand} {T U : TypeId} {k : IntKind} {a b c : Int} (hx : ev f x = .int k a) (hy : ev f y = .int k b) (h : k.wrap (a - b) = c) :
    (execOp (ev f) ⟨d, .binOp .sub T x y U, ty, pos, after, g⟩).run P w = .ok (.value (.int k c)) w := by
  subst h; simp [execOp, hx, hy, eqGuard, binOp, Op.intArith]
theorem r_mul {x y : Operand} {T U : TypeId} {k : IntKind} {a b c : Int} (hx : ev f x = .int k a) (hy : ev f y = .int k b) (h : k.wrap (a * b) = c) :
    (execOp (ev f) ⟨d, .binOp .mul T x y U, ty, pos, after, g⟩).run P w = .ok (.value (.int k c)) w := by
  subst h; simp [execOp, hx, hy, eqGuard, binOp, Op.intArith]
theorem r_rem {x y : Operand} {T U : TypeId} {k : IntKind} {a b : Int} (hx : ev f x = .int k a) (hy : ev f y = .int k b) (h : b ≠ 0) :
    (execOp (ev f) ⟨d, .binOp .rem T x y U, ty, pos, after, g⟩).run P w = .ok (.value (.int k (a.tmod b))) w := by
  simp [execOp, hx, hy, eqGuard, binOp, Op.intDiv, h]
/-- A pointer against nil. -/
theorem eqlIn_ptr {T e : TypeId} {a : Option Addr} (hu : P.underlying T = some (.pointer e)) (n : Nat) : (Op.equalIn (n + 1) T (.pointer a) (.pointer none)).run P w = .ok a.isNone w := by
  cases a <;> simp [Op.equalIn, run_underlying hu]
theorem eqlIn_map {T k e : TypeId} {a : Option Nat} (hu : P.underlying T = some (.map k e)) (n : Nat) : (Op.equalIn (n + 1) T (.map a) (.map none)).run P w = .ok a.isNone w := by
  cases a <;> simp [Op.equalIn, run_underlying hu]
theorem eqlIn_bool {T : TypeId} {a b : Bool} (hu : P.underlying T = some .bool) (n : Nat) : (Op.equalIn (n + 1) T (.bool a) (.bool b)).run P w = .ok (a == b) w := by
  simp [Op.equalIn, run_underlying hu]
theorem r_eqnil {x y : Operand} {T U e : TypeId} {a : Option Addr} (hu : P.underlying T = some (.pointer e)) (hx : ev f x = .pointer a) (hy : ev f y = .pointer none) :
    (execOp (ev f) ⟨d, .binOp .eql T x y U, ty, pos, after, g⟩).run P w = .ok (.value (.bool a.isNone)) w := by
  have e1 : binOp .eql T (.pointer a) (.pointer none) = (do pure (.bool (← Op.equalIn (9999 + 1) T (.pointer a) (.pointer none)))) := by cases a <;> rfl
  have e2 : eqGuard .eql T x y (.pointer a) (.pointer none) = pure () := by cases a <;> rfl
  simp only [execOp, hx, hy, e1, e2, Sem.run_bind, Sem.run_pure, Result.andThen_ok, eqlIn_ptr hu]
theorem r_nenil {x y : Operand} {T U e : TypeId} {a : Option Addr} (hu : P.underlying T = some (.pointer e)) (hx : ev f x = .pointer a) (hy : ev f y = .pointer none) :
    (execOp (ev f) ⟨d, .binOp .neq T x y U, ty, pos, after, g⟩).run P w = .ok (.value (.bool (!a.isNone))) w := by
  have e1 : binOp .neq T (.pointer a) (.pointer none) = (do pure (.bool (!(← Op.equalIn (9999 + 1) T (.pointer a) (.pointer none))))) := by cases a <;> rfl
  have e2 : eqGuard .neq T x y (.pointer a) (.pointer none) = pure () := by cases a <;> rfl
  simp only [execOp, hx, hy, e1, e2, Sem.run_bind, Sem.run_pure, Result.andThen_ok, eqlIn_ptr hu]
/-- A map against nil. -/
theorem r_neMap {x y : Operand} {T U k e : TypeId} {a : Option Nat} (hu : P.underlying T = some (.map k e)) (hx : ev f x = .map a) (hy : ev f y = .map none) :
    (execOp (ev f) ⟨d, .binOp .neq T x y U, ty, pos, after, g⟩).run P w = .ok (.value (.bool (!a.isNone))) w := by
  have e1 : binOp .neq T (.map a) (.map none) = (do pure (.bool (!(← Op.equalIn (9999 + 1) T (.map a) (.map none))))) := by cases a <;> rfl
  have e2 : eqGuard .neq T x y (.map a) (.map none) = pure () := by cases a <;> rfl
  simp only [execOp, hx, hy, e1, e2, Sem.run_bind, Sem.run_pure, Result.andThen_ok, eqlIn_map hu]
/-- Two bools. -/
theorem r_eqB {x y : Operand} {T U : TypeId} {a b : Bool} (hu : P.underlying T = some .bool) (hx : ev f x = .bool a) (hy : ev f y = .bool b) :
    (execOp (ev f) ⟨d, .binOp .eql T x y U, ty, pos, after, g⟩).run P w = .ok (.value (.bool (a == b))) w := by
  have e1 : binOp .eql T (.bool a) (.bool b) = (do pure (.bool (← Op.equalIn (9999 + 1) T (.bool a) (.bool b)))) := rfl
  have e2 : eqGuard .eql T x y (.bool a) (.bool b) = pure () := rfl
  simp only [execOp, hx, hy, e1, e2, Sem.run_bind, Sem.run_pure, Result.andThen_ok, eqlIn_bool hu]
theorem r_neB {x y : Operand} {T U : TypeId} {a b : Bool} (hu : P.underlying T = some .bool) (hx : ev f x = .bool a) (hy : ev f y = .bool b) :
    (execOp (ev f) ⟨d, .binOp .neq T x y U, ty, pos, after, g⟩).run P w = .ok (.value (.bool (a != b))) w := by
  have e1 : binOp .neq T (.bool a) (.bool b) = (do pure (.bool (!(← Op.equalIn (9999 + 1) T (.bool a) (.bool b))))) := rfl
  have e2 : eqGuard .neq T x y (.bool a) (.bool b) = pure () := rfl
  simp only [execOp, hx, hy, e1, e2, Sem.run_bind, Sem.run_pure, Result.andThen_ok, eqlIn_bool hu]
  rfl
end
end Go.Eng
