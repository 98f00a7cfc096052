/-
  Layer 15: traces in memory: what may be read, what is held; small steps that the cache needs. No condition.
-/
import Derived.Test.YtddhdoncjfgfnaaFacts
namespace Go.Proofs.Ytddhdoncjfgfnaa
open Go.Eng

theorem thenQ_exit {K : Fm → World → Prop} {Q : Exit → Fm → World → Prop} {id : Nat} {f : Fm} {w : World} (h : Q (.exit id) f w) : thenQ K Q (.exit id) f w := h
theorem blockQ_exit {Q : Exit → Fm → World → Prop} {id : Nat} {f : Fm} {w : World} (h : Q .normal f w) : blockQ id Q (.exit id) f w := by
  simpa [blockQ] using h
theorem at_keep {w0 w : World} {F0 : List Nat} {cs : List Ck} {b off : Nat} {vs : List Value} (hs : St w0 F0 cs w) (hF : b ∉ F0) (h0 : 0 < vs.length) (ha : At w0 b off vs) : At w b off vs :=
  hs.oldAt (by have := ha 0 _ (List.getElem?_eq_getElem h0); exact cells_lt this) hF ha
end Go.Proofs.Ytddhdoncjfgfnaa
namespace Go.Eng
theorem Hp.left {c d : Ck} {w : World} (h : Hp (c ++ d) w) : Hp c w := ⟨fun p hp => h.has p (by simp [hp]), by
  have := h.nodup
  simp only [ks, List.map_append] at this
  exact (List.nodup_append.1 this).1⟩
theorem Hp.right {c d : Ck} {w : World} (h : Hp (c ++ d) w) : Hp d w := ⟨fun p hp => h.has p (by simp [hp]), by
  have := h.nodup
  simp only [ks, List.map_append] at this
  exact (List.nodup_append.1 this).2.1⟩
theorem Hp.old {c : Ck} {w0 w : World} {F0 : List Nat} {ls : List Ck} (h : Hp c w0) (hs : St w0 F0 ls w) (hF : ∀ b ∈ ks c, b ∉ F0) : Hp c w :=
  ⟨fun p hp => by
    have hb : p.1 ∈ ks c := List.mem_map.2 ⟨p, hp, rfl⟩
    rw [hs.old p.1 (h.lt p.1 hb) (hF p.1 hb)]
    exact h.has p hp, h.nodup⟩
end Go.Eng
namespace Go.Proofs.Ytddhdoncjfgfnaa
open Go.Eng
theorem eqlIn_slice {P : Program} {w : World} {T e : TypeId} {a : Option Addr} {n c : Nat} (hu : P.underlying T = some (.slice e)) (k : Nat) : (Op.equalIn (k + 1) T (.slice a n c) (.slice none 0 0)).run P w = .ok a.isNone w := by
  cases a <;> simp [Op.equalIn, run_underlying hu]
theorem r_eqnilS {P : Program} {w : World} {f : Fm} {d : Option Nat} {ty : TypeId} {pos : String} {after : Array Edge} {g : Option (Nat × Bool)} {x y : Operand} {T U e : TypeId} {a : Option Addr} {n c : Nat} (hu : P.underlying T = some (.slice e)) (hx : ev f x = .slice a n c) (hy : ev f y = .slice none 0 0) :
    (execOp (ev f) ⟨d, .binOp .eql T x y U, ty, pos, after, g⟩).run P w = .ok (.value (.bool a.isNone)) w := by
  have e1 : binOp .eql T (.slice a n c) (.slice none 0 0) = (do pure (.bool (← Op.equalIn (9999 + 1) T (.slice a n c) (.slice none 0 0)))) := by cases a <;> rfl
  have e2 : eqGuard .eql T x y (.slice a n c) (.slice none 0 0) = pure () := by cases a <;> rfl
  simp only [execOp, hx, hy, e1, e2, Sem.run_bind, Sem.run_pure, Result.andThen_ok, eqlIn_slice hu]
/-- 'T{}'. -/
theorem o_build0 {P : Program} {w0 w : World} {F0 : List Nat} {ls : List Ck} {f : Fm} {K : Fm → World → Prop} {Qp : List PanicEntry → World → Prop} {d : Option Nat} {ty : TypeId} {pos : String} {after : Array Edge} {g : Option (Nat × Bool)}
    {T E s by_ : Nat} (hT : slOf P T = some (E, s, by_)) (hs : St w0 F0 ls w) (k : ∀ v ch w', Sl E s v 0 [] ch → St w0 F0 (ls ++ [ch]) w' → K (put f d v) w') : opF P ⟨d, .buildSlice T 0 #[], ty, pos, after, g⟩ f w K Qp := by
  obtain ⟨inf, hu, hinf, rfl, rfl⟩ := slOf_parts hT
  refine o_buildSlice (E := E) (cs := []) hs ?_ ?_
  · have e : (#[] : Array (Nat × Operand)).map (fun (x : Nat × Operand) => match x with | (i, x) => (i, ev f x)) = #[] := by simp
    rw [e]
    have e2 : ∀ f : Nat → Value, (Array.range 0).map f = #[] := fun f => Array.eq_empty_of_size_eq_zero (by simp)
    simp [Instr.buildSlice, run_underlying hu, sizeOf, typeInfo, hinf, Instr.fill, newRow, e2]
    rfl
  · intro b w' hs'
    exact k _ _ w' ⟨by simp, .inr ⟨b, 0, [], rfl, rfl, Nat.le_refl _, Nat.zero_le _, by simp⟩⟩ hs'

theorem at_app {w : World} {b off : Nat} {u v : List Value} (h1 : At w b off u) (h2 : At w b (off + u.length) v) : At w b off (u ++ v) := by
  intro j x hj
  by_cases h : j < u.length
  · rw [List.getElem?_append_left h] at hj
    exact h1 j x hj
  · rw [List.getElem?_append_right (by omega)] at hj
    have := h2 (j - u.length) x hj
    rw [show off + u.length + (j - u.length) = off + j from by omega] at this
    exact this
theorem at_flat {α : Type} {F : α → List Value} {s : Nat} (hF : ∀ x, (F x).length = s) {w : World} {b : Nat} : ∀ (l : List α) (off : Nat), (∀ i x, l[i]? = some x → At w b (off + i * s) (F x)) → At w b off (l.flatMap F)
  | [], _, _ => fun j v hj => by simp at hj
  | x :: l, off, h => by
    rw [List.flatMap_cons]
    refine at_app (by simpa using h 0 x rfl) ?_
    rw [hF]
    refine at_flat hF l (off + s) fun i y hi => ?_
    have := h (i + 1) y (by simpa using hi)
    rw [Nat.succ_mul] at this
    rw [show off + s + i * s = off + (i * s + s) from by omega]
    exact this
/-- A slice that may be read, in blocks of B. -/
def RdG {α : Type} (s : Nat) (F : α → List Value) (B : Nat → Prop) (v : Value) (xs : List α) (w : World) : Prop :=
  ∃ a cap, v = .slice a xs.length cap ∧ ∀ i x, xs[i]? = some x → ∃ b off, a = some ⟨b, off, none⟩ ∧ B b ∧ At w b (off + i * s) (F x)
theorem RdG.old {α : Type} {s : Nat} {F : α → List Value} {B : Nat → Prop} {v : Value} {xs : List α} {w0 w : World} {F0 : List Nat} {cs : List Ck} (hF : ∀ x, (F x).length = s) (hs0 : 0 < s) (h : RdG s F B v xs w0) (hs : St w0 F0 cs w) (hB : ∀ b, B b → b ∉ F0) : RdG s F B v xs w := by
  obtain ⟨a, cap, hv, hall⟩ := h
  refine ⟨a, cap, hv, fun i x hi => ?_⟩
  obtain ⟨b, off, ha, hb, hat⟩ := hall i x hi
  exact ⟨b, off, ha, hb, at_keep hs (hB b hb) (by rw [hF]; exact hs0) hat⟩
theorem RdG.at {α : Type} {s : Nat} {F : α → List Value} {B : Nat → Prop} {v : Value} {xs : List α} {w : World} (hF : ∀ x, (F x).length = s) (h : RdG s F B v xs w) (h0 : 0 < xs.length) : ∃ b off cap, v = .slice (some ⟨b, off, none⟩) xs.length cap ∧ At w b off (xs.flatMap F) := by
  obtain ⟨a, cap, rfl, hall⟩ := h
  obtain ⟨b, off, rfl, _, _⟩ := hall 0 _ (List.getElem?_eq_getElem h0)
  refine ⟨b, off, cap, rfl, at_flat hF xs off fun i x hi => ?_⟩
  obtain ⟨b', off', e, _, hat⟩ := hall i x hi
  simp only [Option.some.injEq, Addr.mk.injEq] at e
  obtain ⟨rfl, rfl, _⟩ := e
  exact hat
/-- A slice that is held may be read. -/
theorem sl_rd {α : Type} {s E n : Nat} {F : α → List Value} {v : Value} {xs : List α} {c : Ck} (hF : ∀ x, (F x).length = s) (hs0 : 0 < s) (h : Sl E s v n (xs.flatMap F) c) {w : World} (hp : Hp c w) : RdG s F (· ∈ ks c) v xs w := by
  have hn := h.n_eq hF hs0
  obtain ⟨a, cap, rfl⟩ := h.len
  refine ⟨a, cap, by rw [hn], fun i x hi => ?_⟩
  obtain ⟨b, cap', rest, hv, rfl, hcell, _⟩ := h.get hF hi hs0
  simp only [Value.slice.injEq, true_and] at hv
  obtain ⟨rfl, _⟩ := hv
  refine ⟨b, 0, rfl, by simp [ks], At.of_block (hp.has (b, cb (xs.flatMap F ++ rest) E) (by simp)) ?_⟩
  rw [hF, Nat.zero_add]
  exact hcell
theorem RdG.shape {α : Type} {s : Nat} {F : α → List Value} {B : Nat → Prop} {v : Value} {xs : List α} {w : World} (h : RdG s F B v xs w) : v.oneCell' = true ∧ v.cells = #[v] := by
  obtain ⟨a, cap, rfl, _⟩ := h
  exact ⟨rfl, rfl⟩
theorem RdG.mono {α : Type} {s : Nat} {F : α → List Value} {B B' : Nat → Prop} {v : Value} {xs : List α} {w : World} (h : RdG s F B v xs w) (hB : ∀ b, B b → B' b) : RdG s F B' v xs w := by
  obtain ⟨a, cap, hv, hall⟩ := h
  refine ⟨a, cap, hv, fun i x hi => ?_⟩
  obtain ⟨b, off, ha, hb, hat⟩ := hall i x hi
  exact ⟨b, off, ha, hB b hb, hat⟩
theorem RdG.len {α : Type} {s : Nat} {F : α → List Value} {B : Nat → Prop} {v : Value} {xs : List α} {w : World} (h : RdG s F B v xs w) : ∃ a cap, v = .slice a xs.length cap := by
  obtain ⟨a, cap, hv, _⟩ := h
  exact ⟨a, cap, hv⟩
theorem RdG.nil {α : Type} {s : Nat} {F : α → List Value} {B : Nat → Prop} {w : World} : RdG s F B (.slice none 0 0) ([] : List α) w := ⟨none, 0, rfl, by simp⟩
/-- An element. -/
theorem RdG.get {α : Type} {s : Nat} {F : α → List Value} {B : Nat → Prop} {a : Option Addr} {n cap : Nat} {xs : List α} {w : World} (h : RdG s F B (.slice a n cap) xs w) {i : Nat} {x : α} (hi : xs[i]? = some x) : ∃ b off, a = some ⟨b, off, none⟩ ∧ B b ∧ At w b (off + i * s) (F x) := by
  obtain ⟨a', cap', hv, hall⟩ := h
  simp only [Value.slice.injEq] at hv
  obtain ⟨rfl, _, _⟩ := hv
  exact hall i x hi
theorem RdG.get2 {α : Type} {s : Nat} {F : α → List Value} {B : Nat → Prop} {b off n cap : Nat} {xs : List α} {w : World} (h : RdG s F B (.slice (some ⟨b, off, none⟩) n cap) xs w) {i : Nat} {x : α} (hi : xs[i]? = some x) : At w b (off + i * s) (F x) := by
  obtain ⟨b', off', e, _, hat⟩ := h.get hi
  simp only [Option.some.injEq, Addr.mk.injEq] at e
  obtain ⟨rfl, rfl, _⟩ := e
  exact hat

/-! ### Traces -/
abbrev scF (x : Sc) : List Value := ic x.toList
theorem scF_len (x : Sc) : (scF x).length = 4 := by simp [scF]
theorem scF_one (x : Sc) : ∀ v ∈ scF x, v.oneCell' = true := ic_one _
abbrev iF (x : Int) : List Value := [.int .i64 x]
theorem iF_len (x : Int) : (iF x).length = 1 := rfl
theorem iF_one (x : Int) : ∀ v ∈ iF x, v.oneCell' = true := by simp [Value.oneCell']
structure OpD where
  op : Int
  args : List Sc
  k : Int
  c : Int
  snap : Int
structure Lk where
  up : Int
  fn : Int
  pc : Int
  into : Int
  regs : List Sc
structure Vt where
  num : Int
  cells : List Sc
def opC (p : OpD × Value) : List Value := [.int .i64 p.1.op, p.2, .int .i64 p.1.k, .int .i64 p.1.c, .int .i64 p.1.snap]
def lkC (p : Lk × Value) : List Value := [.int .i64 p.1.up, .int .i64 p.1.fn, .int .i64 p.1.pc, .int .i64 p.1.into, p.2]
def vtC (p : Vt × Value) : List Value := [.int .i64 p.1.num, p.2]
theorem opC_len (p : OpD × Value) : (opC p).length = 5 := rfl
theorem lkC_len (p : Lk × Value) : (lkC p).length = 5 := rfl
theorem vtC_len (p : Vt × Value) : (vtC p).length = 2 := rfl
theorem opC_set (p : OpD × Value) (v : Value) : opC (p.1, v) = spl (opC p) 1 [v] := by simp [opC, spl]
theorem lkC_set (p : Lk × Value) (v : Value) : lkC (p.1, v) = spl (lkC p) 4 [v] := by simp [lkC, spl]
theorem vtC_set (p : Vt × Value) (v : Value) : vtC (p.1, v) = spl (vtC p) 1 [v] := by simp [vtC, spl]
theorem opC_one {p : OpD × Value} (h : p.2.oneCell' = true) : ∀ v ∈ opC p, v.oneCell' = true := by
  intro v hv
  simp only [opC, List.mem_cons, List.not_mem_nil, or_false] at hv
  rcases hv with rfl | rfl | rfl | rfl | rfl <;> first | rfl | exact h
theorem lkC_one {p : Lk × Value} (h : p.2.oneCell' = true) : ∀ v ∈ lkC p, v.oneCell' = true := by
  intro v hv
  simp only [lkC, List.mem_cons, List.not_mem_nil, or_false] at hv
  rcases hv with rfl | rfl | rfl | rfl | rfl <;> first | rfl | exact h
theorem vtC_one {p : Vt × Value} (h : p.2.oneCell' = true) : ∀ v ∈ vtC p, v.oneCell' = true := by
  intro v hv
  simp only [vtC, List.mem_cons, List.not_mem_nil, or_false] at hv
  rcases hv with rfl | rfl <;> first | rfl | exact h
/-- A trace as it lies: with the values that its parts lie behind. -/
structure LT where
  key : Ky
  fn : Int
  pc : Int
  vi : Value
  vo : Value
  vl : Value
  vv : Value
  vb : Value
  ins : List Int
  ops : List (OpD × Value)
  links : List (Lk × Value)
  virts : List (Vt × Value)
  back : List Sc
abbrev Tr := Ky × Int × Int × List Int × List OpD × List Lk × List Vt × List Sc
/-- What it says. -/
def LT.t (x : LT) : Tr := (x.key, x.fn, x.pc, x.ins, x.ops.map (·.1), x.links.map (·.1), x.virts.map (·.1), x.back)
theorem LT.t_eq {x y : LT} (h : x.t = y.t) : x.key = y.key ∧ x.fn = y.fn ∧ x.pc = y.pc ∧ x.ins = y.ins ∧ x.ops.map (·.1) = y.ops.map (·.1) ∧ x.links.map (·.1) = y.links.map (·.1) ∧ x.virts.map (·.1) = y.virts.map (·.1) ∧ x.back = y.back := by
  simpa [LT.t] using h
def trC (x : LT) : List Value := ic x.key.toList ++ [.int .i64 x.fn, .int .i64 x.pc, x.vi, x.vo, x.vl, x.vv, x.vb]
theorem trC_len (x : LT) : (trC x).length = 17 := by simp [trC]
def zLT : LT := ⟨⟨#[0, 0, 0, 0, 0, 0, 0, 0, 0, 0], rfl⟩, 0, 0, .slice none 0 0, .slice none 0 0, .slice none 0 0, .slice none 0 0, .slice none 0 0, [], [], [], [], []⟩
def evT (x : LT) : Value := .agg (trC x).toArray
theorem zero33 (w : World) : (zeroValue 33).run Try.prog w = .ok (evT zLT) w := by kernel_rfl
theorem trC_key (x : LT) : ((trC x).drop 0).take 10 = ic x.key.toList := by
  rw [List.drop_zero, trC, List.take_append_of_le_length (by simp), List.take_of_length_le (by simp)]
theorem trC_get (x : LT) (j : Nat) : (trC x)[10 + j]? = [Value.int .i64 x.fn, .int .i64 x.pc, x.vi, x.vo, x.vl, x.vv, x.vb][j]? := by
  rw [trC, List.getElem?_append_right (by simp)]
  simp
theorem tr10 (x : LT) : (trC x)[10]? = some (.int .i64 x.fn) := trC_get x 0
theorem tr11 (x : LT) : (trC x)[11]? = some (.int .i64 x.pc) := trC_get x 1
theorem tr12 (x : LT) : (trC x)[12]? = some x.vi := trC_get x 2
theorem tr13 (x : LT) : (trC x)[13]? = some x.vo := trC_get x 3
theorem tr14 (x : LT) : (trC x)[14]? = some x.vl := trC_get x 4
theorem tr15 (x : LT) : (trC x)[15]? = some x.vv := trC_get x 5
theorem tr16 (x : LT) : (trC x)[16]? = some x.vb := trC_get x 6
theorem spl_app {a b vs : List Value} (j : Nat) : spl (a ++ b) (a.length + j) vs = a ++ spl b j vs := by
  simp [spl, List.take_length_add_append, Nat.add_assoc, List.drop_length_add_append]
theorem trC_spl (x : LT) (j : Nat) (vs : List Value) : spl (trC x) (10 + j) vs = ic x.key.toList ++ spl [.int .i64 x.fn, .int .i64 x.pc, x.vi, x.vo, x.vl, x.vv, x.vb] j vs := by
  have := spl_app (a := ic x.key.toList) (b := [.int .i64 x.fn, .int .i64 x.pc, x.vi, x.vo, x.vl, x.vv, x.vb]) (vs := vs) j
  rwa [show (ic x.key.toList).length = 10 from by simp] at this
theorem st12 (x : LT) (v : Value) : spl (trC x) 12 [v] = trC { x with vi := v } := by rw [trC_spl x 2]; rfl
theorem st13 (x : LT) (v : Value) : spl (trC x) 13 [v] = trC { x with vo := v } := by rw [trC_spl x 3]; rfl
theorem st14 (x : LT) (v : Value) : spl (trC x) 14 [v] = trC { x with vl := v } := by rw [trC_spl x 4]; rfl
theorem st15 (x : LT) (v : Value) : spl (trC x) 15 [v] = trC { x with vv := v } := by rw [trC_spl x 5]; rfl
theorem st16 (x : LT) (v : Value) : spl (trC x) 16 [v] = trC { x with vb := v } := by rw [trC_spl x 6]; rfl

/-- A trace that may be read, in blocks of B. -/
structure RdT (B : Nat → Prop) (x : LT) (w : World) : Prop where
  i : RdG 1 iF B x.vi x.ins w
  o : RdG 5 opC B x.vo x.ops w
  l : RdG 5 lkC B x.vl x.links w
  v : RdG 2 vtC B x.vv x.virts w
  b : RdG 4 scF B x.vb x.back w
  ao : ∀ p ∈ x.ops, RdG 4 scF B p.2 p.1.args w
  al : ∀ p ∈ x.links, RdG 4 scF B p.2 p.1.regs w
  av : ∀ p ∈ x.virts, RdG 4 scF B p.2 p.1.cells w
theorem RdT.old {B : Nat → Prop} {x : LT} {w0 w : World} {F0 : List Nat} {cs : List Ck} (h : RdT B x w0) (hs : St w0 F0 cs w) (hB : ∀ b, B b → b ∉ F0) : RdT B x w :=
  ⟨h.i.old (fun _ => rfl) (by decide) hs hB, h.o.old opC_len (by decide) hs hB, h.l.old lkC_len (by decide) hs hB, h.v.old vtC_len (by decide) hs hB, h.b.old scF_len (by decide) hs hB,
    fun p hp => (h.ao p hp).old scF_len (by decide) hs hB, fun p hp => (h.al p hp).old scF_len (by decide) hs hB, fun p hp => (h.av p hp).old scF_len (by decide) hs hB⟩
theorem RdT.mono {B B' : Nat → Prop} {x : LT} {w : World} (h : RdT B x w) (hB : ∀ b, B b → B' b) : RdT B' x w :=
  ⟨h.i.mono hB, h.o.mono hB, h.l.mono hB, h.v.mono hB, h.b.mono hB, fun p hp => (h.ao p hp).mono hB, fun p hp => (h.al p hp).mono hB, fun p hp => (h.av p hp).mono hB⟩
theorem RdT.z {B : Nat → Prop} {w : World} : RdT B zLT w := ⟨RdG.nil, RdG.nil, RdG.nil, RdG.nil, RdG.nil, by simp [zLT], by simp [zLT], by simp [zLT]⟩
theorem RdT.one {B : Nat → Prop} {x : LT} {w : World} (h : RdT B x w) : ∀ v ∈ trC x, v.oneCell' = true := by
  intro v hv
  simp only [trC, List.mem_append, List.mem_cons, List.not_mem_nil, or_false] at hv
  rcases hv with hv | rfl | rfl | rfl | rfl | rfl | rfl | rfl
  · exact ic_one _ v hv
  · rfl
  · rfl
  · exact h.i.shape.1
  · exact h.o.shape.1
  · exact h.l.shape.1
  · exact h.v.shape.1
  · exact h.b.shape.1
/-- It is not long. -/
structure LT.small (x : LT) : Prop where
  i : x.ins.length ≤ 17592186043904
  o : x.ops.length ≤ 2513169434843
  l : x.links.length ≤ 2513169434843
  v : x.virts.length ≤ 4398046510976
  b : x.back.length ≤ 4398046510976
  ao : ∀ p ∈ x.ops, p.1.args.length ≤ 4398046510976
  al : ∀ p ∈ x.links, p.1.regs.length ≤ 4398046510976
  av : ∀ p ∈ x.virts, p.1.cells.length ≤ 4398046510976
theorem small_z : zLT.small := ⟨by simp [zLT], by simp [zLT], by simp [zLT], by simp [zLT], by simp [zLT], by simp [zLT], by simp [zLT], by simp [zLT]⟩
theorem small_t {x y : LT} (h : x.small) (e : y.t = x.t) : y.small := by
  obtain ⟨_, _, _, h4, h5, h6, h7, h8⟩ := LT.t_eq e
  have l5 := congrArg List.length h5
  have l6 := congrArg List.length h6
  have l7 := congrArg List.length h7
  simp only [List.length_map] at l5 l6 l7
  have hi := h.i; have ho := h.o; have hl := h.l; have hv := h.v; have hb := h.b
  refine ⟨by rw [h4]; exact hi, by omega, by omega, by omega, by rw [h8]; exact hb, fun p hp => ?_, fun p hp => ?_, fun p hp => ?_⟩
  · have : p.1 ∈ x.ops.map (·.1) := by rw [← h5]; exact List.mem_map.2 ⟨p, hp, rfl⟩
    obtain ⟨q, hq, e⟩ := List.mem_map.1 this
    rw [← e]; exact h.ao q hq
  · have : p.1 ∈ x.links.map (·.1) := by rw [← h6]; exact List.mem_map.2 ⟨p, hp, rfl⟩
    obtain ⟨q, hq, e⟩ := List.mem_map.1 this
    rw [← e]; exact h.al q hq
  · have : p.1 ∈ x.virts.map (·.1) := by rw [← h7]; exact List.mem_map.2 ⟨p, hp, rfl⟩
    obtain ⟨q, hq, e⟩ := List.mem_map.1 this
    rw [← e]; exact h.av q hq
/-- A trace that is held: chunk by chunk. -/
structure Own (y : LT) (ci co cl cv cb' dd : Ck) : Prop where
  i : Sl 3 1 y.vi y.ins.length (ic y.ins) ci
  o : Sl 39 5 y.vo y.ops.length (y.ops.flatMap opC) co
  l : Sl 76 5 y.vl y.links.length (y.links.flatMap lkC) cl
  v : Sl 78 2 y.vv y.virts.length (y.virts.flatMap vtC) cv
  b : Sl 93 4 y.vb y.back.length (y.back.flatMap scF) cb'
  ao : ∀ p ∈ y.ops, ∀ w, Hp dd w → RdG 4 scF (· ∈ ks dd) p.2 p.1.args w
  al : ∀ p ∈ y.links, ∀ w, Hp dd w → RdG 4 scF (· ∈ ks dd) p.2 p.1.regs w
  av : ∀ p ∈ y.virts, ∀ w, Hp dd w → RdG 4 scF (· ∈ ks dd) p.2 p.1.cells w
theorem Own.rd {y : LT} {ci co cl cv cb' dd : Ck} (h : Own y ci co cl cv cb' dd) {w : World} (hp : Hp (ci ++ (cb' ++ (co ++ (cl ++ (cv ++ dd))))) w) : RdT (· ∈ ks (ci ++ (cb' ++ (co ++ (cl ++ (cv ++ dd)))))) y w := by
  have h1 := hp.left
  have h5 := hp.right.left
  have h2 := hp.right.right.left
  have h3 := hp.right.right.right.left
  have h4 := hp.right.right.right.right.left
  have h6 := hp.right.right.right.right.right
  have hi := h.i
  rw [ic_flat] at hi
  refine ⟨(sl_rd iF_len (by decide) hi h1).mono ?_, (sl_rd opC_len (by decide) h.o h2).mono ?_, (sl_rd lkC_len (by decide) h.l h3).mono ?_, (sl_rd vtC_len (by decide) h.v h4).mono ?_, (sl_rd scF_len (by decide) h.b h5).mono ?_,
    fun p hp' => (h.ao p hp' w h6).mono ?_, fun p hp' => (h.al p hp' w h6).mono ?_, fun p hp' => (h.av p hp' w h6).mono ?_⟩ <;> (intro b hb; simp only [ks, List.map_append, List.mem_append] at hb ⊢; simp [hb])
/-- 'held by d': readable wherever d lies. -/
def Held (y : LT) (d : Ck) : Prop := ∀ w, Hp d w → RdT (· ∈ ks d) y w
theorem Held.left {y : LT} {d : Ck} (h : Held y d) (e : Ck) : Held y (d ++ e) := fun w hw => (h w hw.left).mono fun b hb => by simp [ks] at hb ⊢; exact .inl hb
theorem Held.right {y : LT} {d : Ck} (h : Held y d) (e : Ck) : Held y (e ++ d) := fun w hw => (h w hw.right).mono fun b hb => by simp [ks] at hb ⊢; exact .inr hb
theorem Held.z (d : Ck) : Held zLT d := fun _ _ => RdT.z

/-! ### Small steps -/
section
variable {P : Program} {w w0 : World} {f : Fm} {d : Option Nat} {ty : TypeId} {pos : String} {after : Array Edge} {g : Option (Nat × Bool)} {F0 : List Nat} {ls : List Ck} {K : Fm → World → Prop} {Qp : List PanicEntry → World → Prop}
theorem r_fieldA {x : Operand} {T U i off n : Nat} {z cs : List Value} (h : ev f x = .agg cs.toArray) (hf : fdOf P T i = some (U, off)) (ht : tyOf P U = some (true, n, z)) :
    (execOp (ev f) ⟨d, .field T x i, ty, pos, after, g⟩).run P w = .ok (.value (.agg ((cs.drop off).take n).toArray)) w := by
  unfold fdOf at hf
  split at hf
  · rename_i fs hfs
    obtain ⟨fl, hfl, hf⟩ := Option.map_eq_some_iff.1 hf
    simp only [Prod.mk.injEq] at hf
    obtain ⟨rfl, rfl⟩ := hf
    simp [execOp, h, Instr.field, run_underlying hfs, hfl, asAgg, part, (tyOf_agg (w := w) ht).1, (tyOf_agg (w := w) ht).2, List.extract_toArray, List.extract_eq_take_drop]
  · cases hf
theorem r_makeFunc {h : Fn} {first caps : List Operand} {vs us : List Value} (hv : first.map (ev f) = vs) (hu : caps.map (ev f) = us) : (execOp (ev f) ⟨d, .makeFunc h first.toArray caps.toArray, ty, pos, after, g⟩).run P w = .ok (.value (.func h vs.toArray us.toArray)) w := by
  subst hv; subst hu
  simp [execOp, Instr.makeFunc]
/-- A closure is called that leaves nothing. -/
theorem o_callCN {h : FuncId} {x : Operand} {args : List Operand} {ats : Array TypeId} {cap vs : List Value} {RO : World → Prop} {Post : Value → Ck → Prop}
    (hB : callB P h = true) (hx : ev f x = .func (.func h) #[] cap.toArray) (ha : args.map (ev f) ++ cap = vs) (hc : Ctr P h vs.toArray [] RO fun v c => Post v c ∧ c = []) (hs : St w0 F0 ls w) (hR : RO w)
    (k : ∀ v w', Post v [] → St w0 F0 ls w' → K (put f d v) w') : opF P ⟨d, .call ⟨.value x, args.toArray, ats⟩, ty, pos, after, g⟩ f w K Qp := by
  unfold opF
  rw [exec_callC (fst := []) (cap := cap) hB hx (by simpa using ha)]
  refine (hc w (Hp.nil w) hR).mono ?_
  rintro e w' ⟨v, c', rfl, ⟨hp, rfl⟩, hs'⟩
  exact k v w' hp ((hs.more hs').cast (by simp))
/-- 'clear(s)', a slice of ints in one block. -/
theorem o_clear {x : Operand} {T E by_ i b off m cap U : Nat} {cs : List Value} {v : Value} (hT : slOf P T = some (E, 1, by_)) (hz : tyOf P E = some (false, 1, [v])) (hv : v.oneCell' = true) (hs : St w0 F0 ls w) (hx : ev f x = .slice (some ⟨b, off, none⟩) m cap) (hi : ls[i]? = some [(b, cb cs U)])
    (hfit : off + m ≤ cs.length) (k : ∀ w', St w0 F0 (ls.set i [(b, cb (spl cs off (List.replicate m v)) U)]) w' → K (put f d (.tuple #[])) w') : opF P ⟨d, .call ⟨.builtin .clear, #[x], #[T]⟩, ty, pos, after, g⟩ f w K Qp := by
  obtain ⟨inf, hu, hinf, _, rfl⟩ := slOf_parts hT
  obtain ⟨zv, hzv, hzc⟩ := tyOf_zero (w := w) hz
  have hb := hs.own hi
  cases m with
  | zero =>
    have e : (execOp (ev f) ⟨d, .call ⟨.builtin .clear, #[x], #[T]⟩, ty, pos, after, g⟩).run P w = .ok (.value (.tuple #[])) w := by
      simp [execOp, resolve, invoke, builtin, hx, Builtin.clear_, run_underlying hu]
    unfold opF
    rw [e]
    refine k w ?_
    rw [show spl cs off (List.replicate 0 v) = cs from by simp [spl], list_set_same hi]
    exact hs
  | succ m =>
    have hzz : (Builtin.zeroCells zv.cells (m + 1)).toList = List.replicate (m + 1) v := by
      have hc : zv.cells = #[v] := by rw [← Array.toList_inj, hzc]
      rw [hc]
      apply List.ext_getElem
      · simp [Builtin.zeroCells]
      · intro i h1 h2
        have hm : i % 1 = 0 := Nat.mod_one i
        simp [Builtin.zeroCells, hm]
    have hst := run_storeCells_at P b off U (List.replicate (m + 1) v) 0 cs.toArray w hb (by simpa using hfit) (fun u hu => by rw [List.mem_replicate] at hu; rw [hu.2]; exact hv)
    have e : (execOp (ev f) ⟨d, .call ⟨.builtin .clear, #[x], #[T]⟩, ty, pos, after, g⟩).run P w = .ok (.value (.tuple #[])) { w with heap := w.heap.setIfInBounds b (cb (spl cs off (List.replicate (m + 1) v)) U) } := by
      rw [← setRow_cb hb]
      simp only [execOp, resolve, invoke, builtin, List.map_toArray, List.map_cons, List.map_nil, hx, Sem.run_bind, Sem.run_pure, Result.andThen_ok, Builtin.clear_, List.getElem?_toArray, List.getElem?_cons_zero, run_underlying hu, hzv, hzz, hst]
      simp only [Nat.add_zero]
      rfl
    unfold opF
    rw [e]
    exact k _ (hs.set1 hi)
variable {fn : Func} {R : Ending → World → Prop}
theorem retC2 {t T b u u2 : Nat} {cs z : List Value} {U : TypeId} {v v2 : Value} (hr : fn.results = #[.cell t T, .tmp u, .tmp u2]) (ht : t < fn.ntmps) (hu : u < fn.ntmps) (hu2 : u2 < fn.ntmps) (hv : f t = .pointer (some ⟨b, 0, none⟩)) (hb : w.heap[b]? = some (cb cs U)) (hT : tyOf P T = some (true, cs.length, z)) (hv' : f u = v) (hv2 : f u2 = v2)
    (hR : R (.returned (.tuple #[.agg cs.toArray, v, v2])) w) : bodyQ fn P R .ret f w := by
  refine ⟨.tuple #[.agg cs.toArray, v, v2], ?_, hR⟩
  obtain ⟨h1, h2⟩ := run_resultCell (P := P) ht hv hb hT
  subst hv'
  subst hv2
  have e : (fr fn.ntmps f []).tmps[u]?.getD undef = f u := by simp [fr, hu]
  have e2 : (fr fn.ntmps f []).tmps[u2]?.getD undef = f u2 := by simp [fr, hu2]
  simp [results, hr, h1, h2, asAddr, e, e2]
theorem ret2 {t u : Nat} {v v2 : Value} (hr : fn.results = #[.tmp t, .tmp u]) (ht : t < fn.ntmps) (hu : u < fn.ntmps) (hv : f t = v) (hv2 : f u = v2) (hR : R (.returned (.tuple #[v, v2])) w) : bodyQ fn P R .ret f w := by
  subst hv; subst hv2
  refine ⟨_, ?_, hR⟩
  have e : (fr fn.ntmps f []).tmps[u]?.getD undef = f u := by simp [fr, hu]
  have e2 : (fr fn.ntmps f []).tmps[t]?.getD undef = f t := by simp [fr, ht]
  simp [results, hr, e, e2]
end

end Go.Proofs.Ytddhdoncjfgfnaa
