/-
  The engine, the operations that act: new blocks, stores, appends, maps, calls; the steps over a region. No condition.
-/
import Derived.Test.YtddhdoncjfgfnaaFlat
namespace Go.Eng

/-! ### The steps over a region -/
section
variable {P : Program} {ops : Array Oper} {Qn : Fm → World → Prop} {Qp : List PanicEntry → World → Prop} {o : Oper} {r : List Oper} {f : Fm} {w : World} {v : Value}

/-- In the text's order: what only reads. -/
theorem sq_r (hrun : (execOp (ev f) o).run P w = .ok (.value v) w) (hw : wantedF ops f o = true) (k : sq P ops Qn Qp r (put f o.dst v) w) : sq P ops Qn Qp (o :: r) f w := by
  unfold sq opG
  rw [if_pos hw]
  unfold opF
  rw [hrun]
  exact k
theorem sq_n (hw : wantedF ops f o = false) (k : sq P ops Qn Qp r (put f o.dst undef) w) : sq P ops Qn Qp (o :: r) f w := by
  unfold sq opG
  rw [if_neg (by rw [hw]; decide)]
  exact k
/-- .. what acts. -/
theorem sq_e (hw : wantedF ops f o = true) (k : opF P o f w (sq P ops Qn Qp r) Qp) : sq P ops Qn Qp (o :: r) f w := by
  unfold sq opG
  rw [if_pos hw]
  exact k

variable {p : Pl} {S : Nat → World → Prop} {i : Nat} {q : List Nat}
/-- In an order that is drawn: what only reads. -/
theorem dq_r (hS : S (p.k (i :: q)) w) (ho : p.ops[i]? = some o) (hE : p.E i = false) (hw : wantedF p.ops f o = true)
    (hrun : ∀ k w, p.lo i ≤ k → k ≤ p.hi i → S k w → (execOp (ev f) o).run P w = .ok (.value v) w) (k : dq P p S Qn Qp q (put f o.dst v) w) : dq P p S Qn Qp (i :: q) f w :=
  ⟨hS, o, ho, by rw [if_neg (by rw [hE]; decide)]; exact ⟨v, .inl ⟨hw, hrun⟩, k⟩⟩
theorem dq_n (hS : S (p.k (i :: q)) w) (ho : p.ops[i]? = some o) (hw : wantedF p.ops f o = false) (k : dq P p S Qn Qp q (put f o.dst undef) w) : dq P p S Qn Qp (i :: q) f w :=
  ⟨hS, o, ho, by
    by_cases hE : p.E i = true
    · rw [if_pos hE]; unfold opG; rw [if_neg (by rw [hw]; decide)]; exact k
    · rw [if_neg hE]; exact ⟨undef, .inr ⟨hw, rfl⟩, k⟩⟩
theorem dq_e (hS : S (p.k (i :: q)) w) (ho : p.ops[i]? = some o) (hE : p.E i = true) (hw : wantedF p.ops f o = true) (k : opF P o f w (dq P p S Qn Qp q) Qp) : dq P p S Qn Qp (i :: q) f w :=
  ⟨hS, o, ho, by rw [if_pos hE]; unfold opG; rw [if_pos hw]; exact k⟩
theorem sq_z (k : Qn f w) : sq P ops Qn Qp [] f w := k
theorem dq_z (hS : S (p.k []) w) (k : Qn f w) : dq P p S Qn Qp [] f w := ⟨hS, k⟩
end

/-- Chunks struck out. -/
def zipMask : List Bool → List Ck → List Ck
  | true :: m, c :: l => c :: zipMask m l
  | false :: m, _ :: l => [] :: zipMask m l
  | _, _ => []
theorem zipMask_sub : ∀ (m : List Bool) (l : List Ck), (zipMask m l).flatten.Sublist l.flatten
  | [], l => by simp [zipMask]
  | true :: m, [] => by simp [zipMask]
  | false :: m, [] => by simp [zipMask]
  | true :: m, c :: l => by simp only [zipMask, List.flatten_cons]; exact (List.Sublist.refl c).append (zipMask_sub m l)
  | false :: m, c :: l => by simp only [zipMask, List.flatten_cons, List.nil_append]; exact (zipMask_sub m l).trans (List.sublist_append_right _ _)
theorem St.mask {w0 w : World} {F0 : List Nat} {ls : List Ck} (h : St w0 F0 ls w) (m : List Bool) : St w0 F0 (zipMask m ls) w := h.keep (zipMask_sub m ls)

/-- A region that draws its order, where the chunks that the mask lets stay are written by nobody in it. -/
theorem W_drawM {P : Program} {n : Nat} {ds : List Deferred} {Q : Exit → Fm → World → Prop} {Qp : List PanicEntry → World → Prop} {id : Nat} {ops : Array Oper} {f : Fm} {w0 w : World} {F0 : List Nat} {ls : List Ck}
    (hs : St w0 F0 ls w) (hm : P.follows .mixedOrders = true) (mask : List Bool) (t effs plan : List Nat)
    (hc : (okOps n ops && Pl.ok ⟨ops, t, effs⟩ plan && effs.all fun x => decide (x < ops.size)) = true)
    (h : ∀ w, St w0 F0 ls w → dq P ⟨ops, t, effs⟩ (fun _ w => St w0 F0 (zipMask mask ls) w) (Q .normal) Qp plan f w) : W P n ds (.region id ops true) Q Qp f w :=
  W_draw hm t effs plan _ hc (h _ hs.drew)
/-- What is known where two ways meet. -/
theorem W_mid {P : Program} {n : Nat} {ds : List Deferred} {Q : Exit → Fm → World → Prop} {Qp : List PanicEntry → World → Prop} {x y : Code} {f : Fm} {w : World} (M : Fm → World → Prop)
    (h : W P n ds x (thenQ M Q) Qp f w) (h2 : ∀ f w, M f w → W P n ds y Q Qp f w) : W P n ds (.seq x y) Q Qp f w :=
  W_seq (W_mono h (fun e f w hq => by
    cases e with
    | normal => exact h2 _ _ hq
    | exit id => exact hq
    | goto l => exact hq
    | ret => exact hq
    | panic c => exact hq
    | outgrown => exact hq) (fun _ _ h => h))

/-! ### New blocks, stores -/
section
variable {P : Program} {w0 w : World} {F0 : List Nat} {ls : List Ck} {f : Fm} {K : Fm → World → Prop} {Qp : List PanicEntry → World → Prop}
  {d : Option Nat} {ty : TypeId} {pos : String} {after : Array Edge} {g : Option (Nat × Bool)}

theorem o_alloc {T : TypeId} {a : Bool} {n : Nat} {z : List Value} (hs : St w0 F0 ls w) (ht : tyOf P T = some (a, n, z))
    (k : ∀ b w', St w0 F0 (ls ++ [[(b, cb z T)]]) w' → K (put f d (.pointer (some ⟨b, 0, none⟩))) w') : opF P ⟨d, .alloc T, ty, pos, after, g⟩ f w K Qp := by
  obtain ⟨v, hv, hz⟩ := tyOf_zero (w := w) ht
  have h1 : (Instr.alloc T true (.tuple #[])).run P w = .ok (.pointer (some ⟨w.heap.size, 0, none⟩)) (w.alloc (cb z T)) := by
    have : v.cells = z.toArray := by rw [← hz]
    simp only [Instr.alloc, Sem.run_bind, hv, Result.andThen_ok, newVar, newRow, run_newObj, Sem.run_pure, this]
    rfl
  simp only [opF, execOp, Sem.run_bind, h1, Result.andThen_ok, Sem.run_pure, aft]
  exact k _ _ (hs.alloc _)
theorem o_box {T : TypeId} {x : Operand} {cs : List Value} (hs : St w0 F0 ls w) (hv : (ev f x).cells = cs.toArray)
    (k : ∀ b w', St w0 F0 (ls ++ [[(b, cb cs T)]]) w' → K (put f d (.pointer (some ⟨b, 0, none⟩))) w') : opF P ⟨d, .box T x, ty, pos, after, g⟩ f w K Qp := by
  simp only [opF, execOp, Instr.box, newVar, newRow, hv, Sem.run_bind, Result.andThen_ok, Sem.run_pure, run_newObj, aft]
  exact k _ _ (hs.alloc _)
theorem setRow_cb {b : Nat} {cs : List Value} {T : TypeId} (h : w.heap[b]? = some (cb cs T)) (cs' : List Value) : w.setRow b cs'.toArray = { w with heap := w.heap.setIfInBounds b (cb cs' T) } := by
  have hlt : b < w.heap.size := (Array.getElem?_eq_some_iff.1 h).1
  have hv : w.heap[b] = cb cs T := (Array.getElem?_eq_some_iff.1 h).2
  unfold World.setRow
  congr 1
  apply Array.ext
  · simp
  · intro j h1 h2
    rw [← Option.some_inj, ← Array.getElem?_eq_getElem, ← Array.getElem?_eq_getElem, Array.getElem?_modify, Array.getElem?_setIfInBounds]
    by_cases e : b = j
    · subst e
      rw [if_pos rfl, if_pos rfl, if_pos hlt, Array.getElem?_eq_getElem hlt, hv]
      rfl
    · rw [if_neg e, if_neg e]
/-- A list with others laid over it from a place on. -/
def spl (cs : List Value) (off : Nat) (vs : List Value) : List Value := cs.take off ++ vs ++ cs.drop (off + vs.length)
theorem run_storeAt {T U : TypeId} {a : Bool} {z cs vs : List Value} {b off : Nat} {v : Value} (ht : tyOf P T = some (a, vs.length, z)) (hb : w.heap[b]? = some (cb cs U)) (hv : v.cells = vs.toArray)
    (h1 : ∀ u ∈ vs, u.oneCell' = true) (hfit : off + vs.length ≤ cs.length) :
    (Instr.storeAt T (.pointer (some ⟨b, off, none⟩)) v).run P w = .ok () { w with heap := w.heap.setIfInBounds b (cb (spl cs off vs) U) } := by
  have hst := run_storeCells_at P b off U vs 0 cs.toArray w hb (by simpa using hfit) h1
  simp only [Instr.storeAt, Instr.sureAddr, storeVar, Sem.run_bind, Sem.run_pure, Result.andThen_ok, (tyOf_agg (w := w) ht).2, hv, List.size_toArray, ne_eq, not_true_eq_false, if_false, List.toList_toArray, hst]
  simp only [Nat.add_zero]
  congr 1
  rw [← setRow_cb hb]
  rfl
theorem o_store {T U : TypeId} {x y : Operand} {a : Bool} {z cs vs : List Value} {i b off : Nat} (hs : St w0 F0 ls w) (hx : ev f x = .pointer (some ⟨b, off, none⟩)) (hv : (ev f y).cells = vs.toArray)
    (ht : tyOf P T = some (a, vs.length, z)) (hi : ls[i]? = some [(b, cb cs U)]) (h1 : ∀ u ∈ vs, u.oneCell' = true) (hfit : off + vs.length ≤ cs.length)
    (k : ∀ w', St w0 F0 (ls.set i [(b, cb (spl cs off vs) U)]) w' → K (put f d undef) w') : opF P ⟨d, .store T x y, ty, pos, after, g⟩ f w K Qp := by
  simp only [opF, execOp, hx, Sem.run_bind, run_storeAt ht (hs.own hi) hv h1 hfit, Result.andThen_ok, Sem.run_pure, aft]
  exact k _ (hs.set1 hi)
/-- A store through a chunk of several blocks. -/
theorem o_storeIn {T U : TypeId} {x y : Operand} {a : Bool} {z cs vs : List Value} {i b off : Nat} {c1 c2 : Ck} (hs : St w0 F0 ls w) (hx : ev f x = .pointer (some ⟨b, off, none⟩)) (hv : (ev f y).cells = vs.toArray)
    (ht : tyOf P T = some (a, vs.length, z)) (hi : ls[i]? = some (c1 ++ (b, cb cs U) :: c2)) (h1 : ∀ u ∈ vs, u.oneCell' = true) (hfit : off + vs.length ≤ cs.length)
    (k : ∀ w', St w0 F0 (ls.set i (c1 ++ (b, cb (spl cs off vs) U) :: c2)) w' → K (put f d undef) w') : opF P ⟨d, .store T x y, ty, pos, after, g⟩ f w K Qp := by
  have hc := hs.at hi
  have hb : w.heap[b]? = some (cb cs U) := hc.has (b, cb cs U) (by simp)
  simp only [opF, execOp, hx, Sem.run_bind, run_storeAt ht hb hv h1 hfit, Result.andThen_ok, Sem.run_pure, aft]
  refine k _ (hs.change hi ?_)
  have h3 : St w (ks (c1 ++ (b, cb cs U) :: c2)) [c1, [(b, cb cs U)], c2] w := (hc.st).cast (by simp)
  exact (h3.set1 (i := 1) (o' := cb (spl cs off vs) U) rfl).cast (by simp)
theorem o_makeMap {T : TypeId} (hs : St w0 F0 ls w) (k : ∀ b w', St w0 F0 (ls ++ [[(b, .map #[] 0)]]) w' → K (put f d (.map (some b))) w') : opF P ⟨d, .makeMap T none, ty, pos, after, g⟩ f w K Qp := by
  have h1 : (Instr.makeMap T none).run P w = .ok (.map (some w.heap.size)) (w.alloc (.map #[] 0)) := by
    simp [Instr.makeMap]
  simp only [opF, execOp, Option.map_none, Sem.run_bind, h1, Result.andThen_ok, Sem.run_pure, aft]
  exact k _ _ (hs.alloc _)
/-- 'T{..}' over a slice type: the run is told. -/
theorem o_buildSlice {T E : TypeId} {len : Nat} {parts : Array (Nat × Operand)} {cs : List Value} (hs : St w0 F0 ls w)
    (hrun : (Instr.buildSlice T len (parts.map fun (i, x) => (i, ev f x))).run P w = .ok (.slice (some ⟨w.heap.size, 0, none⟩) len len) (w.alloc (cb cs E)))
    (k : ∀ b w', St w0 F0 (ls ++ [[(b, cb cs E)]]) w' → K (put f d (.slice (some ⟨b, 0, none⟩) len len)) w') : opF P ⟨d, .buildSlice T len parts, ty, pos, after, g⟩ f w K Qp := by
  simp only [opF, execOp, Sem.run_bind, hrun, Result.andThen_ok, Sem.run_pure, aft]
  exact k _ _ (hs.alloc _)

/-! ### Calls -/
def callB (P : Program) (g : FuncId) : Bool := match P.funcs[g]? with | some fn => fn.name != "runtime.NumGoroutine" && fn.body.isSome | none => false
theorem run_callFunc {h : FuncId} (hB : callB P h = true) (as : Array Value) : (callFunc h as).run P w = .ok (.enter h as) w := by
  unfold callB at hB
  split at hB
  · rename_i fn hfn
    simp only [Bool.and_eq_true, bne_iff_ne, ne_eq] at hB
    obtain ⟨c, hc⟩ := Option.isSome_iff_exists.1 hB.2
    simp [callFunc, hfn, hB.1, hc]
  · cases hB
theorem exec_call {h : FuncId} {x : Operand} {args : List Operand} {ats : Array TypeId} {as : List Value} (hB : callB P h = true) (hx : ev f x = .func (.func h) #[] #[]) (ha : args.map (ev f) = as) :
    (execOp (ev f) ⟨d, .call ⟨.value x, args.toArray, ats⟩, ty, pos, after, g⟩).run P w = .ok (.enter h as.toArray) w := by
  simp only [execOp, resolve, hx, Deferred.ofValue, List.map_toArray, ha, Sem.run_bind, Sem.run_pure, Result.andThen_ok, invoke, Array.empty_append, Array.append_empty]
  exact run_callFunc hB as.toArray
theorem exec_callC {h : FuncId} {x : Operand} {args : List Operand} {ats : Array TypeId} {as fst cap : List Value} (hB : callB P h = true) (hx : ev f x = .func (.func h) fst.toArray cap.toArray) (ha : fst ++ args.map (ev f) ++ cap = as) :
    (execOp (ev f) ⟨d, .call ⟨.value x, args.toArray, ats⟩, ty, pos, after, g⟩).run P w = .ok (.enter h as.toArray) w := by
  simp only [execOp, resolve, hx, Deferred.ofValue, List.map_toArray, Sem.run_bind, Sem.run_pure, Result.andThen_ok, invoke, List.append_toArray, ha]
  exact run_callFunc hB as.toArray

/-- A CONTRACT: called with 'as' where chunk c lies (and RO holds), it returns v and leaves chunk c'; nothing else that was there has turned. -/
def Ctr (P : Program) (h : FuncId) (as : Array Value) (c : Ck) (RO : World → Prop) (Post : Value → Ck → Prop) : Prop :=
  ∀ w, Hp c w → RO w → Calls P h as w fun e w' => ∃ v c', e = .returned v ∧ Post v c' ∧ St w (ks c) [c'] w'

theorem o_call {h : FuncId} {x : Operand} {args : List Operand} {ats : Array TypeId} {as : List Value} {i : Nat} {c : Ck} {RO : World → Prop} {Post : Value → Ck → Prop}
    (hB : callB P h = true) (hx : ev f x = .func (.func h) #[] #[]) (ha : args.map (ev f) = as) (hc : Ctr P h as.toArray c RO Post) (hs : St w0 F0 ls w) (hi : ls[i]? = some c) (hR : RO w)
    (k : ∀ v c' w', Post v c' → St w0 F0 (ls.set i c') w' → K (put f d v) w') : opF P ⟨d, .call ⟨.value x, args.toArray, ats⟩, ty, pos, after, g⟩ f w K Qp := by
  unfold opF
  rw [exec_call hB hx ha]
  refine (hc w (hs.at hi) hR).mono ?_
  rintro e w' ⟨v, c', rfl, hp, hs'⟩
  exact k v c' w' hp (hs.change hi hs')
/-- .. where it asks for no chunk. -/
theorem o_call0 {h : FuncId} {x : Operand} {args : List Operand} {ats : Array TypeId} {as : List Value} {RO : World → Prop} {Post : Value → Ck → Prop}
    (hB : callB P h = true) (hx : ev f x = .func (.func h) #[] #[]) (ha : args.map (ev f) = as) (hc : Ctr P h as.toArray [] RO Post) (hs : St w0 F0 ls w) (hR : RO w)
    (k : ∀ v c' w', Post v c' → St w0 F0 (ls ++ [c']) w' → K (put f d v) w') : opF P ⟨d, .call ⟨.value x, args.toArray, ats⟩, ty, pos, after, g⟩ f w K Qp := by
  unfold opF
  rw [exec_call hB hx ha]
  refine (hc w (Hp.nil w) hR).mono ?_
  rintro e w' ⟨v, c', rfl, hp, hs'⟩
  exact k v c' w' hp (hs.more hs')
/-- .. and leaves none. -/
theorem St.less {w' : World} (h : St w0 F0 ls w) (h' : St w [] [[]] w') : St w0 F0 ls w' := (h.more h').cast (by simp)
theorem o_callN {h : FuncId} {x : Operand} {args : List Operand} {ats : Array TypeId} {as : List Value} {RO : World → Prop} {Post : Value → Ck → Prop}
    (hB : callB P h = true) (hx : ev f x = .func (.func h) #[] #[]) (ha : args.map (ev f) = as) (hc : Ctr P h as.toArray [] RO fun v c => Post v c ∧ c = []) (hs : St w0 F0 ls w) (hR : RO w)
    (k : ∀ v w', Post v [] → St w0 F0 ls w' → K (put f d v) w') : opF P ⟨d, .call ⟨.value x, args.toArray, ats⟩, ty, pos, after, g⟩ f w K Qp := by
  refine o_call0 hB hx ha hc hs hR ?_
  rintro v c' w' ⟨hp, rfl⟩ hs'
  exact k v w' hp (hs'.cast (by simp))

/-- The end of a body: of what is held, these. -/
theorem fin {h : Ck} {c' : Ck} {v : Value} {Post : Value → Ck → Prop} (hs : St w0 (ks h) ls w) (hp : Post v c') (hc : c'.Sublist ls.flatten) :
    ∃ v' c'', Ending.returned v = .returned v' ∧ Post v' c'' ∧ St w0 (ks h) [c''] w :=
  ⟨v, c', rfl, hp, hs.keep (by simpa using hc)⟩

/-! ### A slice that is held -/
/-- The slice value v, of n elements of s cells each, holds the cells xs: it is nil, or begins a block of its own. -/
def Sl (E : TypeId) (s : Nat) (v : Value) (n : Nat) (xs : List Value) (c : Ck) : Prop :=
  xs.length = n * s ∧ ((v = .slice none 0 0 ∧ n = 0 ∧ xs = [] ∧ c = []) ∨
    ∃ b cap rest, v = .slice (some ⟨b, 0, none⟩) n cap ∧ c = [(b, cb (xs ++ rest) E)] ∧ n ≤ cap ∧ cap ≤ maxLen ∧ (xs ++ rest).length = cap * s)
theorem Sl.nil (E s : Nat) : Sl E s (.slice none 0 0) 0 [] [] := ⟨by simp, .inl ⟨rfl, rfl, rfl, rfl⟩⟩

theorem slOf_parts {T E s by_ : Nat} (h : slOf P T = some (E, s, by_)) : ∃ i, P.underlying T = some (.slice E) ∧ P.info? E = some i ∧ i.size = s ∧ i.bytes = by_ := by
  unfold slOf at h
  split at h
  · rename_i e hu
    obtain ⟨i, hi, h⟩ := Option.map_eq_some_iff.1 h
    simp only [Prod.mk.injEq] at h
    obtain ⟨rfl, h2, h3⟩ := h
    exact ⟨i, hu, hi, h2, h3⟩
  · cases h

theorem run_append {T E s by_ : Nat} {a : Bool} {z : List Value} (hT : slOf P T = some (E, s, by_)) (hz : tyOf P E = some (a, s, z)) (hzl : z.length = s) (ty : TypeId) {i n m sb soff scap : Nat} {v : Value} {xs news : List Value} {c : Ck}
    (hs : St w0 F0 ls w) (hi : ls[i]? = some c) (hv : Sl E s v n xs c) (hl : news.length = m * s) (hnews : At w sb soff news) (h1 : ∀ u ∈ news, u.oneCell' = true) (h63 : n + m ≤ maxLen) (hby : (n + m) * by_ ≤ 140737488355328) :
    ∃ v' c' w', (Builtin.append_ #[T, T] ty #[v, .slice (some ⟨sb, soff, none⟩) m scap]).run P w = .ok v' w' ∧ Sl E s v' (n + m) (xs ++ news) c' ∧ St w0 F0 (ls.set i c') w' := by
  obtain ⟨inf, hu, hinf, rfl, rfl⟩ := slOf_parts hT
  obtain ⟨zv, hzv, hzc⟩ : ∃ zv, inf.zero = some zv ∧ zv.cells.toList = z := by
    unfold tyOf at hz
    split at hz
    · rename_i i' d' hi' _
      rw [hinf] at hi'
      cases hi'
      obtain ⟨z', hz', hz⟩ := Option.map_eq_some_iff.1 hz
      simp only [Prod.mk.injEq] at hz
      exact ⟨z', hz', hz.2.2⟩
    · cases hz
  have hnews' : ∀ j u, news[j]? = some u → w.cell? ((⟨sb, soff, none⟩ : Addr).add j) = some u := fun j u hj => by rw [add_eq]; exact hnews j u hj
  have hzs : zv.cells.size = inf.size := by rw [← Array.length_toList, hzc, hzl]
  obtain ⟨hxl, hv⟩ := hv
  have hlen2 : (xs ++ news).length = (n + m) * inf.size := by rw [List.length_append, hxl, hl, Nat.add_mul]
  have hfr : St w (ks c) [c] w := (hs.at hi).st
  rcases hv with ⟨rfl, rfl, rfl, rfl⟩ | ⟨b, cap, rest, rfl, rfl, hnc, hcm, hcap⟩
  · rw [Nat.zero_add] at h63 hby hlen2 ⊢
    by_cases hm : m = 0
    · subst hm
      have : news = [] := List.length_eq_zero_iff.1 (by simpa using hl)
      subst this
      have hf := run_firstCells_some (P := P) w inf.size 0 ⟨sb, soff, none⟩ 0 scap [] (by simp) (by simp)
      refine ⟨.slice none 0 0, [], w, ?_, ⟨hlen2, .inl ⟨rfl, rfl, rfl, rfl⟩⟩, hs.change hi hfr⟩
      simp [Builtin.append_, run_underlying hu, sizeOf, typeInfo, hinf, Builtin.lenOf, hf]
    · have hn0 : 0 < m := by omega
      have hrun := run_append_nil (P := P) w T ty E inf zv hu hinf hzv ⟨sb, soff, none⟩ m scap news hl hnews' hn0 (by unfold maxLen at h63; omega) (by omega)
      have hge := grownCap_ge w m 0 E
      have hcm := grownCap_le_maxLen w m 0 E h63
      refine ⟨_, [(w.heap.size, cb (news ++ (Builtin.zeroCells zv.cells (grownCap w m 0 E - m)).toList) E)], _, hrun, ⟨hlen2, .inr ⟨w.heap.size, grownCap w m 0 E, (Builtin.zeroCells zv.cells (grownCap w m 0 E - m)).toList, rfl, by simp, hge, hcm, ?_⟩⟩, ?_⟩
      · rw [List.nil_append, List.length_append, hl, Array.length_toList, size_zeroCells, hzs, ← Nat.add_mul]
        congr 1; omega
      · refine hs.change hi ?_
        have h3 := ((hfr.drew).alloc (cb (news ++ (Builtin.zeroCells zv.cells (grownCap w m 0 E - m)).toList) E)).cast (ls' := [[(w.heap.size, cb (news ++ (Builtin.zeroCells zv.cells (grownCap w m 0 E - m)).toList) E)]]) (by simp)
        have e : cb (news ++ (Builtin.zeroCells zv.cells (grownCap w m 0 E - m)).toList) E = .cells (news.toArray ++ Builtin.zeroCells zv.cells (grownCap w m 0 E - m)) E := by
          unfold cb; congr 1; apply Array.ext'; simp
        rw [e] at h3 ⊢
        exact h3
  · have hb : w.heap[b]? = some (cb (xs ++ rest) E) := hs.own hi
    by_cases hroom : n + m ≤ cap
    · have hmc : (n + m) * inf.size ≤ cap * inf.size := Nat.mul_le_mul_right _ hroom
      have hfit : n * inf.size + news.length ≤ (xs ++ rest).length := by rw [hl, ← Nat.add_mul, hcap]; exact hmc
      have hrun := run_append_room (P := P) w T ty E inf hu hinf b n cap (xs ++ rest).toArray hb ⟨sb, soff, none⟩ m scap news hl hnews' h1 hroom (by simpa using hfit)
      have e1 : ((xs ++ rest).toArray.toList.take (n * inf.size) ++ news ++ (xs ++ rest).toArray.toList.drop (n * inf.size + news.length)) = (xs ++ news) ++ rest.drop news.length := by
        show (xs ++ rest).take (n * inf.size) ++ news ++ (xs ++ rest).drop (n * inf.size + news.length) = _
        rw [← hxl, List.take_left, ← List.drop_drop, List.drop_left]
      rw [e1] at hrun
      refine ⟨_, [(b, cb ((xs ++ news) ++ rest.drop news.length) E)], _, hrun, ⟨hlen2, .inr ⟨b, cap, rest.drop news.length, rfl, rfl, hroom, hcm, ?_⟩⟩, ?_⟩
      · simp only [List.length_append, List.length_drop] at hcap hfit ⊢
        omega
      · rw [setRow_cb hb]
        exact hs.set1 hi
    · have hg : cap < n + m := by omega
      have hold : ∀ j u, xs[j]? = some u → w.cell? ((⟨b, 0, none⟩ : Addr).add j) = some u := fun j u hj => by
        rw [add_eq, Nat.zero_add]
        exact At.one hb (by rw [List.getElem?_append_left (List.getElem?_eq_some_iff.1 hj).1]; exact hj)
      have hrun := run_append_grow (P := P) w T ty E inf zv hu hinf hzv ⟨b, 0, none⟩ n cap xs hxl hold ⟨sb, soff, none⟩ m scap news hl hnews' hg (by unfold maxLen at h63; omega) (growslice_fits hg hby)
      have hge := grownCap_ge w (n + m) cap E
      have hcm' := grownCap_le_maxLen w (n + m) cap E h63
      refine ⟨_, [(w.heap.size, cb ((xs ++ news) ++ (Builtin.zeroCells zv.cells (grownCap w (n + m) cap E - (n + m))).toList) E)], _, hrun, ⟨hlen2, .inr ⟨w.heap.size, grownCap w (n + m) cap E, (Builtin.zeroCells zv.cells (grownCap w (n + m) cap E - (n + m))).toList, rfl, rfl, hge, hcm', ?_⟩⟩, ?_⟩
      · rw [List.length_append, hlen2, Array.length_toList, size_zeroCells, hzs, ← Nat.add_mul]
        congr 1; omega
      · refine hs.change hi ?_
        have h3 := ((hfr.drew).alloc (cb ((xs ++ news) ++ (Builtin.zeroCells zv.cells (grownCap w (n + m) cap E - (n + m))).toList) E)).keep (ls' := [[(w.heap.size, cb ((xs ++ news) ++ (Builtin.zeroCells zv.cells (grownCap w (n + m) cap E - (n + m))).toList) E)]]) (by simp)
        have e : cb ((xs ++ news) ++ (Builtin.zeroCells zv.cells (grownCap w (n + m) cap E - (n + m))).toList) E = .cells (xs.toArray ++ news.toArray ++ Builtin.zeroCells zv.cells (grownCap w (n + m) cap E - (n + m))) E := by
          unfold cb; congr 1; apply Array.ext'; simp
        rw [e] at h3 ⊢
        exact h3

theorem o_append {T E s by_ : Nat} {a : Bool} {z : List Value} {x y : Operand} {i n m sb soff scap : Nat} {v : Value} {xs news : List Value} {c : Ck}
    (hT : slOf P T = some (E, s, by_)) (hz : tyOf P E = some (a, s, z)) (hzl : z.length = s) (hs : St w0 F0 ls w) (hx : ev f x = v) (hy : ev f y = .slice (some ⟨sb, soff, none⟩) m scap)
    (hi : ls[i]? = some c) (hv : Sl E s v n xs c) (hl : news.length = m * s) (hnews : At w sb soff news) (h1 : ∀ u ∈ news, u.oneCell' = true) (h63 : n + m ≤ maxLen) (hby : (n + m) * by_ ≤ 140737488355328)
    (k : ∀ v' c' w', Sl E s v' (n + m) (xs ++ news) c' → St w0 F0 (ls.set i c') w' → K (put f d v') w') : opF P ⟨d, .call ⟨.builtin .append, #[x, y], #[T, T]⟩, ty, pos, after, g⟩ f w K Qp := by
  obtain ⟨v', c', w', hrun, hv', hs'⟩ := run_append (scap := scap) hT hz hzl ty hs hi hv hl hnews h1 h63 hby
  have e : (execOp (ev f) ⟨d, .call ⟨.builtin .append, #[x, y], #[T, T]⟩, ty, pos, after, g⟩).run P w = .ok (.value v') w' := by
    simp [execOp, resolve, invoke, builtin, hx, hy, hrun]
  unfold opF
  rw [e]
  exact k v' c' w' hv' hs'
/-- 'append(x, nil...)': nothing comes to it. -/
theorem o_append_nil {T E s by_ : Nat} {x y : Operand} {n : Nat} {v : Value} {xs : List Value} {c : Ck}
    (hT : slOf P T = some (E, s, by_)) (hx : ev f x = v) (hy : ev f y = .slice none 0 0) (hv : Sl E s v n xs c) (k : K (put f d v) w) :
    opF P ⟨d, .call ⟨.builtin .append, #[x, y], #[T, T]⟩, ty, pos, after, g⟩ f w K Qp := by
  obtain ⟨inf, hu, hinf, rfl, rfl⟩ := slOf_parts hT
  have hrun : (Builtin.append_ #[T, T] ty #[v, .slice none 0 0]).run P w = .ok v w := by
    rcases hv.2 with ⟨rfl, _, _, _⟩ | ⟨b, cap, rest, rfl, _, hnc, _, _⟩
    · simp [Builtin.append_, run_underlying hu, sizeOf, typeInfo, hinf, Builtin.lenOf, Builtin.firstCells]
    · simp [Builtin.append_, run_underlying hu, sizeOf, typeInfo, hinf, Builtin.lenOf, Builtin.firstCells, hnc, storeCells]
  have e : (execOp (ev f) ⟨d, .call ⟨.builtin .append, #[x, y], #[T, T]⟩, ty, pos, after, g⟩).run P w = .ok (.value v) w := by
    simp [execOp, resolve, invoke, builtin, hx, hy, hrun]
  unfold opF
  rw [e]
  exact k
end

/-! ### Maps -/
/-- A key's type: how a key is written, and what the model does with it. -/
structure KT (P : Program) (K : TypeId) {α : Type} (enc : α → Value) : Prop where
  check : ∀ (w : World) (em : Bool) (a : α), (Instr.checkKey em 10000 K (enc a)).run P w = .ok () w
  find : ∀ (w : World) (a : α) (l : List (α × Value × Nat)), ((∀ r ∈ l, r.1 ≠ a) ∧ (Instr.findKey K (enc a) (l.map fun r => ⟨enc r.1, r.2.1, r.2.2⟩)).run P w = .ok none w) ∨
    ∃ i r, l[i]? = some r ∧ r.1 = a ∧ (∀ j r', j < i → l[j]? = some r' → r'.1 ≠ a) ∧ (Instr.findKey K (enc a) (l.map fun r => ⟨enc r.1, r.2.1, r.2.2⟩)).run P w = .ok (some (i, r.2.1)) w
  stays : ∀ (w : World) (a : α), (Instr.keyThatStays (enc a) (enc a)).run P w = .ok (enc a) w

theorem find_asking {P : Program} {K : TypeId} {α : Type} {enc : α → Value} [DecidableEq α] (w : World) (a : α) (heq : ∀ b, (Op.equal K (enc a) (enc b)).run P w = .ok (decide (a = b)) w) :
    ∀ (l : List (α × Value × Nat)) (k : Nat), ((∀ r ∈ l, r.1 ≠ a) ∧ (Instr.findAsking K (enc a) (l.map fun r => ⟨enc r.1, r.2.1, r.2.2⟩) k).run P w = .ok none w) ∨
      ∃ i r, l[i]? = some r ∧ r.1 = a ∧ (∀ j r', j < i → l[j]? = some r' → r'.1 ≠ a) ∧ (Instr.findAsking K (enc a) (l.map fun r => ⟨enc r.1, r.2.1, r.2.2⟩) k).run P w = .ok (some (k + i, r.2.1)) w
  | [], k => .inl ⟨by simp, by simp [Instr.findAsking]⟩
  | r :: l, k => by
    by_cases h : a = r.1
    · subst h
      refine .inr ⟨0, r, rfl, rfl, fun j r' hj => by omega, ?_⟩
      simp [Instr.findAsking, heq]
    · rcases find_asking w a heq l (k + 1) with ⟨h1, h2⟩ | ⟨i, r', h1, h2, h3, h4⟩
      · refine .inl ⟨fun y hy => ?_, ?_⟩
        · rcases List.mem_cons.1 hy with rfl | hy
          · exact fun e => h e.symm
          · exact h1 y hy
        · simp [Instr.findAsking, heq, h, h2]
      · refine .inr ⟨i + 1, r', by simpa using h1, h2, fun j y hj hy => ?_, ?_⟩
        · cases j with
          | zero => simp at hy; subst hy; exact fun e => h e.symm
          | succ j => exact h3 j y (by omega) (by simpa using hy)
        · simp [Instr.findAsking, heq, h, h4, Nat.add_assoc, Nat.add_comm 1 i]
theorem find_now {α : Type} {enc : α → Value} [DecidableEq α] {D : TypeDesc} (a : α) (heq : ∀ b, Instr.sameNow D (enc a) (enc b) = some (decide (a = b))) :
    ∀ (l : List (α × Value × Nat)) (k : Nat), ((∀ r ∈ l, r.1 ≠ a) ∧ Instr.findNow D (enc a) (l.map fun r => ⟨enc r.1, r.2.1, r.2.2⟩) k = some none) ∨
      ∃ i r, l[i]? = some r ∧ r.1 = a ∧ (∀ j r', j < i → l[j]? = some r' → r'.1 ≠ a) ∧ Instr.findNow D (enc a) (l.map fun r => ⟨enc r.1, r.2.1, r.2.2⟩) k = some (some (k + i, r.2.1))
  | [], k => .inl ⟨by simp, by simp [Instr.findNow]⟩
  | r :: l, k => by
    by_cases h : a = r.1
    · subst h
      refine .inr ⟨0, r, rfl, rfl, fun j r' hj => by omega, ?_⟩
      simp [Instr.findNow, heq]
    · rcases find_now a heq l (k + 1) with ⟨h1, h2⟩ | ⟨i, r', h1, h2, h3, h4⟩
      · refine .inl ⟨fun y hy => ?_, ?_⟩
        · rcases List.mem_cons.1 hy with rfl | hy
          · exact fun e => h e.symm
          · exact h1 y hy
        · simp [Instr.findNow, heq, h, h2]
      · refine .inr ⟨i + 1, r', by simpa using h1, h2, fun j y hj hy => ?_, ?_⟩
        · cases j with
          | zero => simp at hy; subst hy; exact fun e => h e.symm
          | succ j => exact h3 j y (by omega) (by simpa using hy)
        · simp [Instr.findNow, heq, h, h4, Nat.add_assoc, Nat.add_comm 1 i]

/-- Keys made of n ints. -/
def encV {n : Nat} (v : Vector Int n) : Value := .agg (ic v.toList).toArray
theorem encV_inj {n : Nat} {a b : Vector Int n} (h : encV a = encV b) : a = b := by
  unfold encV at h
  injection h with h1
  have h2 := ic_inj (List.toArray_inj h1)
  exact Vector.toList_inj.1 h2
theorem fv_struct {P : Program} {K : TypeId} {fs : Array Field} (hu : P.underlying K = some (.struct fs)) (xs : List Int) : fv P K xs = .agg (ic xs).toArray := by simp [fv, hu]
theorem eq_struct {P : Program} {K : TypeId} {fs : Array Field} {d n : Nat} (hu : P.underlying K = some (.struct fs)) (hf : flat P d K n = true) (hd : d ≤ 10000) (w : World) (a b : Vector Int n) :
    (Op.equal K (encV a) (encV b)).run P w = .ok (decide (a = b)) w := by
  have h := eq_flat (10000 - d) d K n hf w a.toList b.toList (by simp) (by simp)
  rw [Nat.sub_add_cancel hd, fv_struct hu, fv_struct hu] at h
  unfold encV Op.equal Op.maxDepth
  rw [h]
  congr 1
  rw [decide_eq_decide]
  exact Vector.toList_inj
theorem KT.struct {P : Program} {K : TypeId} {fs : Array Field} {d n : Nat} (hu : P.underlying K = some (.struct fs)) (hf : flat P d K n = true) (hd : d ≤ 10000) : KT P K (encV (n := n)) where
  check w em a := by
    have h := check_flat (P := P) em (10000 - d) d K n hf w a.toList (by simp)
    rw [Nat.sub_add_cancel hd, fv_struct hu] at h
    exact h
  find w a l := by
    have hnow : Instr.findNow (.struct fs) (encV a) (l.map fun r => ⟨encV r.1, r.2.1, r.2.2⟩) 0 = if l = [] then some none else none := by
      cases l with
      | nil => simp [Instr.findNow]
      | cons r l => simp [Instr.findNow, encV, Instr.sameNow]
    have hfk : (Instr.findKey K (encV a) (l.map fun r => ⟨encV r.1, r.2.1, r.2.2⟩)).run P w = (Instr.findAsking K (encV a) (l.map fun r => ⟨encV r.1, r.2.1, r.2.2⟩) 0).run P w := by
      simp only [Instr.findKey, Sem.run_bind, run_underlying hu, Result.andThen_ok, hnow]
      by_cases hl : l = []
      · subst hl; simp [Instr.findAsking]
      · simp [hl]
    rw [hfk]
    have := find_asking w a (fun b => eq_struct hu hf hd w a b) l 0
    simpa using this
  stays w a := by simp [Instr.keyThatStays, encV, bits_ic]
def encI (n : Int) : Value := .int .i64 n
theorem KT.int {P : Program} {K : TypeId} (hu : P.underlying K = some (.int .i64)) : KT P K encI where
  check w em a := by
    rw [show (10000 : Nat) = 9999 + 1 from rfl, Instr.checkKey]
    simp [run_underlying hu, encI]
  find w a l := by
    have := find_now (enc := encI) (D := .int .i64) a (fun b => by simp [Instr.sameNow, encI, Bool.beq_eq_decide_eq]) l 0
    rcases this with ⟨h1, h2⟩ | ⟨i, r, h1, h2, h3, h4⟩
    · exact .inl ⟨h1, by simp only [Instr.findKey, Sem.run_bind, run_underlying hu, Result.andThen_ok, h2, Sem.run_pure]⟩
    · refine .inr ⟨i, r, h1, h2, h3, ?_⟩
      simp only [Instr.findKey, Sem.run_bind, run_underlying hu, Result.andThen_ok, h4, Sem.run_pure, Nat.zero_add]
  stays w a := by simp [Instr.keyThatStays, encI, Instr.sameBits]

/-- A map's block. -/
def mo {α β : Type} (enc : α → Value) (ev' : β → Value) (m : List (α × β × Nat)) (c : Nat) : Obj := .map (m.map fun r => (⟨enc r.1, ev' r.2.1, r.2.2⟩ : MapEntry)).toArray c
def mget {α β : Type} [DecidableEq α] (m : List (α × β × Nat)) (a : α) : Option β := (m.find? (fun r => r.1 = a)).map (·.2.1)
def mput {α β : Type} [DecidableEq α] (m : List (α × β × Nat)) (c : Nat) (a : α) (v : β) : List (α × β × Nat) :=
  if m.any (fun r => r.1 = a) then m.map fun r => if r.1 = a then (r.1, v, r.2.2) else r else m ++ [(a, v, c)]
def mclk {α β : Type} [DecidableEq α] (m : List (α × β × Nat)) (c : Nat) (a : α) : Nat := if m.any (fun r => r.1 = a) then c else c + 1
def mdel {α β : Type} [DecidableEq α] (m : List (α × β × Nat)) (a : α) : List (α × β × Nat) := m.filter (fun r => r.1 ≠ a)
def mkeys {α β : Type} (m : List (α × β × Nat)) : List α := m.map (·.1)

theorem kt_find {P : Program} {α β : Type} {enc : α → Value} {ev' : β → Value} {K : TypeId} (kt : KT P K enc) (w : World) (a : α) (m : List (α × β × Nat)) :
    ((∀ r ∈ m, r.1 ≠ a) ∧ (Instr.findKey K (enc a) (m.map fun r => ⟨enc r.1, ev' r.2.1, r.2.2⟩)).run P w = .ok none w) ∨
    ∃ i r, m[i]? = some r ∧ r.1 = a ∧ (∀ j r', j < i → m[j]? = some r' → r'.1 ≠ a) ∧ (Instr.findKey K (enc a) (m.map fun r => ⟨enc r.1, ev' r.2.1, r.2.2⟩)).run P w = .ok (some (i, ev' r.2.1)) w := by
  have h := kt.find w a (m.map fun r => (r.1, ev' r.2.1, r.2.2))
  simp only [List.map_map] at h
  rcases h with ⟨h1, h2⟩ | ⟨i, r, h1, h2, h3, h4⟩
  · refine .inl ⟨fun r hr => h1 (r.1, ev' r.2.1, r.2.2) (List.mem_map.2 ⟨r, hr, rfl⟩), h2⟩
  · rw [List.getElem?_map] at h1
    obtain ⟨r0, hr0, rfl⟩ := Option.map_eq_some_iff.1 h1
    exact .inr ⟨i, r0, hr0, h2, fun j r' hj hr' => h3 j (r'.1, ev' r'.2.1, r'.2.2) hj (by simp [hr']), h4⟩

section
variable {P : Program} {α β : Type} [DecidableEq α] {enc : α → Value} {ev' : β → Value} {K E T : TypeId} {w : World} {b : Nat} {m : List (α × β × Nat)} {c : Nat}

theorem mget_none {a : α} (h : ∀ r ∈ m, r.1 ≠ a) : mget m a = none := by
  unfold mget
  rw [List.find?_eq_none.2 (fun r hr => by simpa using h r hr)]
  rfl
theorem mget_some {a : α} {i : Nat} {r : α × β × Nat} (hi : m[i]? = some r) (hr : r.1 = a) (hbefore : ∀ j r', j < i → m[j]? = some r' → r'.1 ≠ a) : mget m a = some r.2.1 := by
  unfold mget
  have : m.find? (fun r => r.1 = a) = some r := by
    rw [List.find?_eq_some_iff_getElem]
    refine ⟨by simpa using hr, i, (List.getElem?_eq_some_iff.1 hi).1, (List.getElem?_eq_some_iff.1 hi).2, fun j hj => ?_⟩
    have hil := (List.getElem?_eq_some_iff.1 hi).1
    have := hbefore j _ hj (List.getElem?_eq_getElem (by omega))
    simpa using this
  rw [this]; rfl

theorem run_lookup (kt : KT P K enc) (hT : P.underlying T = some (.map K E)) {z : Value} (hz : (zeroValue E).run P w = .ok z w) (hb : w.heap[b]? = some (mo enc ev' m c)) (a : α) (ok : Bool) :
    (Instr.lookup T (.map (some b)) (enc a) ok).run P w = .ok (if ok then .tuple #[((mget m a).map ev').getD z, .bool (mget m a).isSome] else ((mget m a).map ev').getD z) w := by
  have hg := MapKept.run_getObj_map (P := P) hb
  rcases kt_find (ev' := ev') kt w a m with ⟨h1, h2⟩ | ⟨i, r, h1, h2, h3, h4⟩
  · rw [mget_none h1]
    simp only [Instr.lookup, Sem.run_bind, run_underlying hT, Result.andThen_ok, hg, kt.check, h2, hz, Sem.run_pure]
    cases ok <;> rfl
  · rw [mget_some h1 h2 h3]
    simp only [Instr.lookup, Sem.run_bind, run_underlying hT, Result.andThen_ok, hg, kt.check, h4, Sem.run_pure]
    cases ok <;> rfl

theorem any_none {a : α} (h : ∀ r ∈ m, r.1 ≠ a) : m.any (fun r => r.1 = a) = false := by
  rw [List.any_eq_false]; intro r hr; simpa using h r hr
theorem any_some {a : α} {i : Nat} {r : α × β × Nat} (hi : m[i]? = some r) (hr : r.1 = a) : m.any (fun r => r.1 = a) = true :=
  List.any_eq_true.2 ⟨r, List.mem_of_getElem? hi, by simpa using hr⟩

theorem modify_at {a : α} {v : β} (hnd : (mkeys m).Nodup) {i : Nat} {r : α × β × Nat} (hi : m[i]? = some r) (hr : r.1 = a) :
    ((m.map fun r => (⟨enc r.1, ev' r.2.1, r.2.2⟩ : MapEntry)).toArray.modify i fun e => { e with key := enc a, val := ev' v }) = ((m.map fun r => if r.1 = a then (r.1, v, r.2.2) else r).map fun r => (⟨enc r.1, ev' r.2.1, r.2.2⟩ : MapEntry)).toArray := by
  apply Array.ext
  · simp
  · intro j h1 h2
    rw [← Option.some_inj, ← Array.getElem?_eq_getElem, ← Array.getElem?_eq_getElem, Array.getElem?_modify]
    simp only [List.getElem?_toArray, List.getElem?_map]
    have hj : j < m.length := by simpa using h2
    rw [List.getElem?_eq_getElem hj]
    simp only [Option.map_some]
    by_cases e : i = j
    · subst e
      have : m[i] = r := (List.getElem?_eq_some_iff.1 hi).2
      simp [this, hr]
    · have hne : ¬ m[j].1 = a := fun h => by
        apply e
        have hil := (List.getElem?_eq_some_iff.1 hi).1
        have : m[i] = r := (List.getElem?_eq_some_iff.1 hi).2
        have h5 : (mkeys m)[i]'(by simpa [mkeys] using hil) = (mkeys m)[j]'(by simpa [mkeys] using hj) := by simp [mkeys, this, hr, h]
        exact (List.getElem_inj hnd).1 h5
      rw [if_neg e, if_neg hne]

theorem run_mapUpdate (kt : KT P K enc) (hT : P.underlying T = some (.map K E)) (hb : w.heap[b]? = some (mo enc ev' m c)) (hnd : (mkeys m).Nodup) (a : α) (v : β) :
    (Instr.mapUpdate T (.map (some b)) (enc a) (ev' v)).run P w = .ok () { w with heap := w.heap.setIfInBounds b (mo enc ev' (mput m c a v) (mclk m c a)) } := by
  have hg := MapKept.run_getObj_map (P := P) hb
  rcases kt_find (ev' := ev') kt w a m with ⟨h1, h2⟩ | ⟨i, r, h1, h2, h3, h4⟩
  · have e : mo enc ev' (mput m c a v) (mclk m c a) = .map ((m.map fun r => (⟨enc r.1, ev' r.2.1, r.2.2⟩ : MapEntry)).toArray.push { key := enc a, val := ev' v, born := c }) (c + 1) := by
      unfold mo mput mclk
      rw [any_none h1]
      simp
    simp only [Instr.mapUpdate, Sem.run_bind, run_underlying hT, Result.andThen_ok, hg, kt.check, h2, MapKept.run_setObj_map _ hb, e]
  · have e : mo enc ev' (mput m c a v) (mclk m c a) = .map ((m.map fun r => (⟨enc r.1, ev' r.2.1, r.2.2⟩ : MapEntry)).toArray.modify i fun e => { e with key := enc a, val := ev' v }) c := by
      unfold mo mput mclk
      rw [any_some h1 h2, modify_at hnd h1 h2]
      simp
    have hk : (((m.map fun r => (⟨enc r.1, ev' r.2.1, r.2.2⟩ : MapEntry)).toArray[i]?).map (·.key)).getD (enc a) = enc a := by
      simp [h1, h2]
    simp only [Instr.mapUpdate, Sem.run_bind, run_underlying hT, Result.andThen_ok, hg, kt.check, h4, hk, kt.stays, MapKept.run_setObj_map _ hb, e]

theorem erase_filter {a : α} (hnd : (mkeys m).Nodup) {i : Nat} {r : α × β × Nat} (hi : m[i]? = some r) (hr : r.1 = a) : m.eraseIdx i = mdel m a := by
  induction m generalizing i with
  | nil => simp at hi
  | cons x m ih =>
    simp only [mkeys, List.map_cons, List.nodup_cons] at hnd
    cases i with
    | zero =>
      simp at hi; subst hi
      have : ∀ y ∈ m, y.1 ≠ a := fun y hy e => hnd.1 (by rw [hr, ← e]; exact List.mem_map.2 ⟨y, hy, rfl⟩)
      simp only [List.eraseIdx_cons_zero, mdel, List.filter_cons, hr, ne_eq, not_true_eq_false, decide_false, Bool.false_eq_true, if_false]
      symm
      rw [List.filter_eq_self]
      intro y hy
      simpa using this y hy
    | succ i =>
      simp at hi
      have hne : ¬ x.1 = a := fun e => hnd.1 (by rw [e, ← hr]; exact List.mem_map.2 ⟨r, List.mem_of_getElem? hi, rfl⟩)
      have := ih hnd.2 hi
      simp only [List.eraseIdx_cons_succ, mdel, List.filter_cons, ne_eq, hne, not_false_eq_true, decide_true, if_true]
      rw [this]; rfl
theorem mdel_none {a : α} (h : ∀ r ∈ m, r.1 ≠ a) : mdel m a = m := by
  unfold mdel
  rw [List.filter_eq_self]
  intro r hr
  simpa using h r hr

theorem map_erase {α β : Type} (f : α → β) : ∀ (l : List α) (i : Nat), (l.eraseIdx i).map f = (l.map f).eraseIdx i
  | [], _ => rfl
  | _ :: _, 0 => rfl
  | x :: l, i + 1 => by simp [map_erase f l i]
theorem run_delete (kt : KT P K enc) (hT : P.underlying T = some (.map K E)) (hb : w.heap[b]? = some (mo enc ev' m c)) (hnd : (mkeys m).Nodup) (a : α) (U ty : TypeId) :
    (Builtin.delete_ #[T, U] ty #[.map (some b), enc a]).run P w = .ok (.tuple #[]) { w with heap := w.heap.setIfInBounds b (mo enc ev' (mdel m a) c) } := by
  have hg := MapKept.run_getObj_map (P := P) hb
  rcases kt_find (ev' := ev') kt w a m with ⟨h1, h2⟩ | ⟨i, r, h1, h2, h3, h4⟩
  · have e : mo enc ev' (mdel m a) c = .map (m.map fun r => (⟨enc r.1, ev' r.2.1, r.2.2⟩ : MapEntry)).toArray c := by
      rw [mdel_none h1]; rfl
    simp [Builtin.delete_, Sem.run_bind, run_underlying hT, hg, kt.check, h2, MapKept.run_setObj_map _ hb, e]
  · have hil := (List.getElem?_eq_some_iff.1 h1).1
    have e : mo enc ev' (mdel m a) c = .map ((m.map fun r => (⟨enc r.1, ev' r.2.1, r.2.2⟩ : MapEntry)).toArray.eraseIdxIfInBounds i) c := by
      rw [← erase_filter hnd h1 h2]
      unfold mo Array.eraseIdxIfInBounds
      rw [dif_pos (by simpa using hil)]
      simp [List.eraseIdx_toArray, map_erase]
    simp only [Builtin.delete_, Sem.run_bind, List.getElem?_toArray, List.getElem?_cons_zero, List.getElem?_cons_succ, run_underlying hT, Result.andThen_ok, hg, kt.check, h4, MapKept.run_setObj_map _ hb, e, Sem.run_pure]
end

theorem r_lenMo {P : Program} {α β : Type} {enc : α → Value} {ev' : β → Value} {T : TypeId} {w : World} {f : Fm} {d : Option Nat} {ty : TypeId} {pos : String} {after : Array Edge} {g : Option (Nat × Bool)} {m : List (α × β × Nat)} {c b : Nat} {x : Operand} {k e : TypeId} (hu : P.underlying T = some (.map k e)) (h : ev f x = .map (some b)) (hb : w.heap[b]? = some (mo enc ev' m c)) :
    (execOp (ev f) ⟨d, .call ⟨.builtin .len, #[x], #[T]⟩, ty, pos, after, g⟩).run P w = .ok (.value (.int .i64 m.length)) w := by
  rw [r_lenM hu h hb]; simp
section
variable {P : Program} {α β : Type} [DecidableEq α] {enc : α → Value} {ev' : β → Value} {KK E T : TypeId} {w0 w : World} {F0 : List Nat} {ls : List Ck} {f : Fm} {K : Fm → World → Prop} {Qp : List PanicEntry → World → Prop}
  {d : Option Nat} {ty : TypeId} {pos : String} {after : Array Edge} {g : Option (Nat × Bool)} {m : List (α × β × Nat)} {c b : Nat}

theorem getD_map {α β : Type} (o : Option α) (f : α → β) (z : α) : (o.map f).getD (f z) = f (o.getD z) := by cases o <;> rfl
theorem r_lookup {x y : Operand} {a : α} {z : β} (kt : KT P KK enc) (hT : P.underlying T = some (.map KK E)) (hz : (zeroValue E).run P w = .ok (ev' z) w) (hx : ev f x = .map (some b)) (hy : ev f y = enc a)
    (hb : w.heap[b]? = some (mo enc ev' m c)) : (execOp (ev f) ⟨d, .lookup T x y false, ty, pos, after, g⟩).run P w = .ok (.value (ev' ((mget m a).getD z))) w := by
  simp only [execOp, hx, hy, Sem.run_bind, run_lookup kt hT hz hb a false, Result.andThen_ok, Sem.run_pure, Bool.false_eq_true, if_false, getD_map]
theorem r_lookup2 {x y : Operand} {a : α} {z : β} (kt : KT P KK enc) (hT : P.underlying T = some (.map KK E)) (hz : (zeroValue E).run P w = .ok (ev' z) w) (hx : ev f x = .map (some b)) (hy : ev f y = enc a)
    (hb : w.heap[b]? = some (mo enc ev' m c)) : (execOp (ev f) ⟨d, .lookup T x y true, ty, pos, after, g⟩).run P w = .ok (.value (.tuple #[ev' ((mget m a).getD z), .bool (mget m a).isSome])) w := by
  simp only [execOp, hx, hy, Sem.run_bind, run_lookup kt hT hz hb a true, Result.andThen_ok, Sem.run_pure, if_true, getD_map]
theorem o_mapUpdate {x y u : Operand} {a : α} {v : β} {i : Nat} (kt : KT P KK enc) (hT : P.underlying T = some (.map KK E)) (hs : St w0 F0 ls w) (hx : ev f x = .map (some b)) (hy : ev f y = enc a) (hu : ev f u = ev' v)
    (hi : ls[i]? = some [(b, mo enc ev' m c)]) (hnd : (mkeys m).Nodup) (k : ∀ w', St w0 F0 (ls.set i [(b, mo enc ev' (mput m c a v) (mclk m c a))]) w' → K (put f d undef) w') :
    opF P ⟨d, .mapUpdate T x y u, ty, pos, after, g⟩ f w K Qp := by
  simp only [opF, execOp, hx, hy, hu, Sem.run_bind, run_mapUpdate kt hT (hs.own hi) hnd a v, Result.andThen_ok, Sem.run_pure, aft]
  exact k _ (hs.set1 hi)
theorem o_delete {x y : Operand} {U : TypeId} {a : α} {i : Nat} (kt : KT P KK enc) (hT : P.underlying T = some (.map KK E)) (hs : St w0 F0 ls w) (hx : ev f x = .map (some b)) (hy : ev f y = enc a)
    (hi : ls[i]? = some [(b, mo enc ev' m c)]) (hnd : (mkeys m).Nodup) (k : ∀ w', St w0 F0 (ls.set i [(b, mo enc ev' (mdel m a) c)]) w' → K (put f d (.tuple #[])) w') :
    opF P ⟨d, .call ⟨.builtin .delete, #[x, y], #[T, U]⟩, ty, pos, after, g⟩ f w K Qp := by
  have e : (execOp (ev f) ⟨d, .call ⟨.builtin .delete, #[x, y], #[T, U]⟩, ty, pos, after, g⟩).run P w = .ok (.value (.tuple #[])) { w with heap := w.heap.setIfInBounds b (mo enc ev' (mdel m a) c) } := by
    simp [execOp, resolve, invoke, builtin, hx, hy, run_delete kt hT (hs.own hi) hnd a U ty]
  unfold opF
  rw [e]
  exact k _ (hs.set1 hi)
theorem mkeys_mput {m : List (α × β × Nat)} {c : Nat} {a : α} {v : β} (hnd : (mkeys m).Nodup) : (mkeys (mput m c a v)).Nodup := by
  unfold mput
  split
  · have e : mkeys (m.map fun r => if r.1 = a then (r.1, v, r.2.2) else r) = mkeys m := by
      simp only [mkeys, List.map_map]
      apply List.map_congr_left
      intro r _
      simp only [Function.comp]
      split <;> rfl
    rw [e]; exact hnd
  · rename_i h
    simp only [mkeys, List.map_append, List.map_cons, List.map_nil]
    rw [List.nodup_append]
    refine ⟨hnd, by simp, fun x hx y hy e => ?_⟩
    simp at hy
    subst hy; subst e
    obtain ⟨r, hr, hr'⟩ := List.mem_map.1 hx
    exact h (List.any_eq_true.2 ⟨r, hr, by simpa using hr'⟩)
theorem mkeys_mdel {m : List (α × β × Nat)} {a : α} (hnd : (mkeys m).Nodup) : (mkeys (mdel m a)).Nodup :=
  hnd.sublist (List.filter_sublist.map _)
end

/-! ### A map that is whole; ranging over it -/
structure Mwf {α β : Type} (m : List (α × β × Nat)) (c : Nat) : Prop where
  keys : (mkeys m).Nodup
  born : (m.map (·.2.2)).Nodup
  lt : ∀ r ∈ m, r.2.2 < c
theorem Mwf.nil {α β : Type} (c : Nat) : Mwf ([] : List (α × β × Nat)) c := ⟨by simp [mkeys], by simp, by simp⟩
theorem Mwf.put {α β : Type} [DecidableEq α] {m : List (α × β × Nat)} {c : Nat} (h : Mwf m c) (a : α) (v : β) : Mwf (mput m c a v) (mclk m c a) := by
  refine ⟨mkeys_mput h.keys, ?_, ?_⟩
  · unfold mput
    split
    · have e : (m.map fun r => if r.1 = a then (r.1, v, r.2.2) else r).map (·.2.2) = m.map (·.2.2) := by
        simp only [List.map_map]
        apply List.map_congr_left
        intro r _
        simp only [Function.comp]
        split <;> rfl
      rw [e]; exact h.born
    · simp only [List.map_append, List.map_cons, List.map_nil]
      rw [List.nodup_append]
      refine ⟨h.born, by simp, fun x hx y hy e => ?_⟩
      simp at hy
      obtain ⟨r, hr, rfl⟩ := List.mem_map.1 hx
      have := h.lt r hr
      omega
  · intro r hr
    unfold mput at hr
    unfold mclk
    split at hr
    · rename_i hc
      rw [if_pos hc]
      obtain ⟨r', hr', rfl⟩ := List.mem_map.1 hr
      have := h.lt r' hr'
      split <;> exact this
    · rename_i hc
      rw [if_neg hc]
      rcases List.mem_append.1 hr with hr | hr
      · have := h.lt r hr; omega
      · simp at hr; subst hr; simp
theorem Mwf.del {α β : Type} [DecidableEq α] {m : List (α × β × Nat)} {c : Nat} (h : Mwf m c) (a : α) : Mwf (mdel m a) c :=
  ⟨mkeys_mdel h.keys, h.born.sublist (List.filter_sublist.map _), fun r hr => h.lt r (List.mem_filter.1 hr).1⟩

section
variable {P : Program} {α β : Type} {enc : α → Value} {ev' : β → Value} {T : TypeId} {w0 w : World} {F0 : List Nat} {ls : List Ck} {f : Fm} {K : Fm → World → Prop} {Qp : List PanicEntry → World → Prop}
  {d : Option Nat} {ty : TypeId} {pos : String} {after : Array Edge} {g : Option (Nat × Bool)} {m : List (α × β × Nat)} {c b : Nat}

theorem o_range {x : Operand} {k e : TypeId} (hu : P.underlying T = some (.map k e)) (hs : St w0 F0 ls w) (hx : ev f x = .map (some b)) (hb : w.heap[b]? = some (mo enc ev' m c))
    (k' : ∀ it w', St w0 F0 (ls ++ [[(it, .mapIter (some b) c #[] c)]]) w' → K (put f d (.pointer (some ⟨it, 0, none⟩))) w') : opF P ⟨d, .range T x, ty, pos, after, g⟩ f w K Qp := by
  have h1 := run_range_map (P := P) w T k e b _ c hu hb
  simp only [opF, execOp, hx, Sem.run_bind, h1, Result.andThen_ok, Sem.run_pure, aft]
  exact k' _ _ (hs.alloc _)
theorem o_next {x : Operand} {i it since c0 : Nat} {seen : Array Nat} (hs : St w0 F0 ls w) (hx : ev f x = .pointer (some ⟨it, 0, none⟩)) (hi : ls[i]? = some [(it, .mapIter (some b) since seen c0)])
    (hb : w.heap[b]? = some (mo enc ev' m c)) (hold : ∀ r ∈ m, r.2.2 < since) (hsc : since ≤ c0)
    (kEnd : (∀ r ∈ m, seen.contains r.2.2 = true) → K (put f d (.tuple #[.bool false])) w)
    (kNext : ∀ r ∈ m, seen.contains r.2.2 = false → ∀ w', St w0 F0 (ls.set i [(it, .mapIter (some b) since (seen.push r.2.2) c)]) w' → K (put f d (.tuple #[.bool true, enc r.1, ev' r.2.1])) w') :
    opF P ⟨d, .next x false, ty, pos, after, g⟩ f w K Qp := by
  have hr := hs.own hi
  rcases run_next_at (P := P) w ty it b since c0 seen _ c hr hb (fun y hy => by
    simp only [List.mem_map] at hy
    obtain ⟨r, hr', rfl⟩ := hy
    exact hold r hr') hsc with ⟨h0, h1⟩ | ⟨e, he, w1, hw1, h1⟩
  · simp only [opF, execOp, hx, Sem.run_bind, h1, Result.andThen_ok, Sem.run_pure, aft]
    refine kEnd fun r hr' => ?_
    have := all_seen _ _ h0 ⟨enc r.1, ev' r.2.1, r.2.2⟩ (by exact List.mem_map.2 ⟨r, hr', rfl⟩)
    exact this
  · obtain ⟨hm1, hm2⟩ := mem_left he
    simp only [List.mem_map] at hm1
    obtain ⟨r, hr', rfl⟩ := hm1
    simp only [opF, execOp, hx, Sem.run_bind, h1, Result.andThen_ok, Sem.run_pure, aft]
    have hs1 : St w0 F0 ls w1 := by
      rcases hw1 with rfl | rfl
      · exact hs
      · exact hs.drew
    exact kNext r hr' hm2 _ (hs1.set1 hi)
theorem r_entry {x : Operand} {it since : Nat} {seen : Array Nat} {r : α × β × Nat} (hx : ev f x = .pointer (some ⟨it, 0, none⟩)) (hi : w.heap[it]? = some (.mapIter (some b) since (seen.push r.2.2) c))
    (hb : w.heap[b]? = some (mo enc ev' m c)) (hm : r ∈ m) (hn : (m.map (·.2.2)).Nodup) : (execOp (ev f) ⟨d, .entry x, ty, pos, after, g⟩).run P w = .ok (.value (.tuple #[enc r.1, ev' r.2.1])) w := by
  have h1 := run_entry_at (P := P) w it b since seen _ c ⟨enc r.1, ev' r.2.1, r.2.2⟩ hi hb (by exact List.mem_map.2 ⟨r, hm, rfl⟩) (by simpa [List.map_map, Function.comp_def] using hn)
  simp only [execOp, hx, Sem.run_bind, h1, Result.andThen_ok, Sem.run_pure]
end

/-! ### A result that lies in a cell -/
section
variable {P : Program} {n : Nat} {f : Fm} {w : World} {fn : Func} {R : Ending → World → Prop}
theorem run_resultCell {t T b : Nat} {cs z : List Value} {U : TypeId} (ht : t < fn.ntmps) (hv : f t = .pointer (some ⟨b, 0, none⟩)) (hb : w.heap[b]? = some (cb cs U)) (hT : tyOf P T = some (true, cs.length, z)) :
    (fr fn.ntmps f []).tmps[t]?.getD undef = .pointer (some ⟨b, 0, none⟩) ∧ (loadVar T ⟨b, 0, none⟩).run P w = .ok (.agg cs.toArray) w := by
  refine ⟨by simp [fr, ht, hv], ?_⟩
  have h := run_loadN (P := P) (w := w) (T := T) (b := b) (off := 0) hT (At.of_block hb (by simp))
  simpa only [Instr.loadAt, Instr.sureAddr, Sem.run_bind, Sem.run_pure, Result.andThen_ok] using h
theorem retC {t T b : Nat} {cs z : List Value} {U : TypeId} (hr : fn.results = #[.cell t T]) (ht : t < fn.ntmps) (hv : f t = .pointer (some ⟨b, 0, none⟩)) (hb : w.heap[b]? = some (cb cs U)) (hT : tyOf P T = some (true, cs.length, z))
    (hR : R (.returned (.agg cs.toArray)) w) : bodyQ fn P R .ret f w := by
  refine ⟨.agg cs.toArray, ?_, hR⟩
  obtain ⟨h1, h2⟩ := run_resultCell (P := P) ht hv hb hT
  simp [results, hr, h1, h2, asAddr]
theorem retC1 {t T b u : Nat} {cs z : List Value} {U : TypeId} {v : Value} (hr : fn.results = #[.cell t T, .tmp u]) (ht : t < fn.ntmps) (hu : u < fn.ntmps) (hv : f t = .pointer (some ⟨b, 0, none⟩)) (hb : w.heap[b]? = some (cb cs U)) (hT : tyOf P T = some (true, cs.length, z)) (hv' : f u = v)
    (hR : R (.returned (.tuple #[.agg cs.toArray, v])) w) : bodyQ fn P R .ret f w := by
  refine ⟨.tuple #[.agg cs.toArray, v], ?_, hR⟩
  obtain ⟨h1, h2⟩ := run_resultCell (P := P) ht hv hb hT
  subst hv'
  have e : (fr fn.ntmps f []).tmps[u]?.getD undef = f u := by simp [fr, hu]
  simp [results, hr, h1, h2, asAddr, e]
end
end Go.Eng
