/-
  The engine, what throws: a contract with two ways out; a deferred closure that recovers; a frame that has deferred calls. No condition.
-/
import Derived.Test.YtfojeengapebmaaMaps
import Derived.Recover
namespace Go.Eng

/-! ### A body that is entered as a deferred call -/
section
variable {P : Program} {Q : Exit → Act → List Frame → World → Prop} {ops : Array Oper} {n i : Nat} {rest : List Nat} {o : Oper} {f : Fm} {ds : List Deferred} {cs cs' : List Frame} {w : World} {v : Value}
theorem s_rec (hok : okOps n ops = true) (ho : ops[i]? = some o) (hw : wantedF ops f o = true) (hr : (execOp (ev f) o).run P w = .ok .recover w) (hrec : recoverD cs = some (v, cs'))
    (k : wpOpsS P ops Q rest (fr n (put f o.dst v) ds) cs' w) : wpOpsS P ops Q (i :: rest) (fr n f ds) cs w := by
  have h := okOps_get hok ho
  unfold wpOpsS
  simp only [ho, wanted_fr hok, hw, if_true, exec_fr h, hr, hrec]
  rw [fr_put (okO_parts h).2.1]
  exact k
theorem s_rec0 (hok : okOps n ops = true) (ho : ops[i]? = some o) (hw : wantedF ops f o = true) (hr : (execOp (ev f) o).run P w = .ok .recover w) (hrec : recoverD cs = none)
    (k : wpOpsS P ops Q rest (fr n (put f o.dst .nilIface) ds) cs w) : wpOpsS P ops Q (i :: rest) (fr n f ds) cs w := by
  have h := okOps_get hok ho
  unfold wpOpsS
  simp only [ho, wanted_fr hok, hw, if_true, exec_fr h, hr, hrec]
  rw [fr_put (okO_parts h).2.1]
  exact k
theorem s_val (hok : okOps n ops = true) (ho : ops[i]? = some o) (hw : wantedF ops f o = true) (hr : (execOp (ev f) o).run P w = .ok (.value v) w)
    (k : wpOpsS P ops Q rest (fr n (put f o.dst v) ds) cs w) : wpOpsS P ops Q (i :: rest) (fr n f ds) cs w := by
  have h := okOps_get hok ho
  unfold wpOpsS
  simp only [ho, wanted_fr hok, hw, if_true, exec_fr h, hr, Oper.upon]
  rw [fr_put (okO_parts h).2.1]
  exact k
theorem S_of_W {fn : Func} {c : Code} {c₀ : Frame} {R : Ending → FrameMode → World → Prop} {u : FrameMode} (hn : fn.ntmps = n) (hcs : cs' = { c₀ with mode := u } :: cs)
    (h : W P n [] c (bodyQ fn P fun e w => R e u w) (fun ch w => R (.panicked ch) u w) f w) : c.wpS P (bodyPostS P fn c₀ cs R) (fr n f []) cs' w := by
  subst hn
  refine wpS_of_wp (wp_mono h ?_)
  intro e a w hq
  cases e with
  | normal => obtain ⟨f, rfl, v, hv, hR⟩ := hq; exact ⟨rfl, u, hcs, v, hv, hR⟩
  | ret => obtain ⟨f, rfl, v, hv, hR⟩ := hq; exact ⟨rfl, u, hcs, v, hv, hR⟩
  | panic c => exact ⟨hq.1, u, hcs, hq.2⟩
  | exit id => obtain ⟨f, rfl, hq⟩ := hq; exact hq.elim
  | goto l => obtain ⟨f, rfl, hq⟩ := hq; exact hq.elim
  | outgrown => exact hq.elim
end

/-! ### A body that has deferred calls: operation by operation -/
section
variable {P : Program} {Q : Exit → Act → World → Prop} {ops : Array Oper} {n : Nat} {rest : List Oper} {o : Oper} {f : Fm} {ds : List Deferred} {w : World} {v : Value}
theorem l_val (ho : okO n o = true) (hg : o.guard = none) (hr : (execOp (ev f) o).run P w = .ok (.value v) w) (k : wpList P ops Q rest (fr n (put f o.dst v) ds) w) : wpList P ops Q (o :: rest) (fr n f ds) w := by
  unfold wpList
  rw [if_pos (by simp [Region.wanted, hg])]
  refine .inl ?_
  unfold Oper.wp
  rw [exec_fr ho, hr]
  simp only [Oper.upon]
  rw [fr_put (okO_parts ho).2.1]
  exact k
theorem l_defer {d : Deferred} (hx : ∀ x ∈ o.op.operands, okX n x = true) (hs : ∀ cs b, o.op ≠ .select cs b) (hg : o.guard = none) (hd : o.dst = none) (hr : (execOp (ev f) o).run P w = .ok (.defer d) w)
    (k : wpList P ops Q rest (fr n f (d :: ds)) w) : wpList P ops Q (o :: rest) (fr n f ds) w := by
  unfold wpList
  rw [if_pos (by simp [Region.wanted, hg])]
  refine .inl ?_
  unfold Oper.wp
  rw [execOp_congr o hs fun x h => fr_eval (hx x h), hr]
  simp only [Oper.upon, hd]
  exact k
theorem l_call {g : FuncId} {args : Array Value} (ho : okO n o = true) (hg : o.guard = none) (hr : (execOp (ev f) o).run P w = .ok (.enter g args) w)
    (k : Calls P g args w fun
      | .returned v, w' => wpList P ops Q rest (fr n (put f o.dst v) ds) w'
      | .panicked c, w' => Q (.panic c) (fr n f ds) w'
      | .outgrown, _ => False) : wpList P ops Q (o :: rest) (fr n f ds) w := by
  unfold wpList
  rw [if_pos (by simp [Region.wanted, hg])]
  refine .inl ?_
  unfold Oper.wp
  rw [exec_fr ho, hr]
  simp only [Oper.upon]
  refine k.mono fun e w' he => ?_
  cases e with
  | returned v => simp only at he ⊢; rw [fr_put (okO_parts ho).2.1]; exact he
  | panicked c => exact he
  | outgrown => exact he.elim
end

/-! ### A block that is left at a body's end -/
theorem thenQ_exit {K : Fm → World → Prop} {Q : Exit → Fm → World → Prop} {id : Nat} {f : Fm} {w : World} (h : Q (.exit id) f w) : thenQ K Q (.exit id) f w := h
theorem blockQ_exit {Q : Exit → Fm → World → Prop} {id : Nat} {f : Fm} {w : World} (h : Q .normal f w) : blockQ id Q (.exit id) f w := by
  show (if id = id then Q .normal f w else Q (.exit id) f w)
  rw [if_pos rfl]
  exact h

/-! ### A contract with two ways out -/
/-- Called with 'as' where chunk c lies (and RO holds) it returns, as Ctr says; or throws one of the values 'thr k' (k is not 0), which comes only where Bad holds, and leaves nothing of the chunk that is to be counted on. -/
def CtrT (P : Program) (thr : Int → Value) (h : FuncId) (as : Array Value) (c : Ck) (RO : World → Prop) (Post : Value → Ck → Prop) (Bad : Prop) : Prop :=
  ∀ w, Hp c w → RO w → Calls P h as w fun e w' => (∃ v c', e = .returned v ∧ Post v c' ∧ St w (ks c) [c'] w') ∨ ∃ k : Int, k ≠ 0 ∧ e = .panicked [{ v := thr k, recovered := false }] ∧ Bad ∧ St w (ks c) [] w'
section
variable {P : Program} {thr : Int → Value} {w0 w : World} {F0 : List Nat} {ls : List Ck} {f : Fm} {K : Fm → World → Prop} {Qp : List PanicEntry → World → Prop}
  {d : Option Nat} {ty : TypeId} {pos : String} {after : Array Edge} {g : Option (Nat × Bool)}
theorem St.none {w' : World} {i : Nat} {c : Ck} (h : St w0 F0 ls w) (hi : ls[i]? = some c) (h' : St w (ks c) [] w') : St w0 F0 [] w' :=
  (h.change (c' := []) hi (h'.cast (by simp))).keep (by simp)
theorem o_callT {h : FuncId} {x : Operand} {args : List Operand} {ats : Array TypeId} {as : List Value} {i : Nat} {c : Ck} {RO : World → Prop} {Post : Value → Ck → Prop} {Bad : Prop}
    (hB : callB P h = true) (hx : ev f x = .func (.func h) #[] #[]) (ha : args.map (ev f) = as) (hc : CtrT P thr h as.toArray c RO Post Bad) (hs : St w0 F0 ls w) (hi : ls[i]? = some c) (hR : RO w)
    (kp : ∀ (k : Int) w', k ≠ 0 → Bad → St w0 F0 [] w' → Qp [{ v := thr k, recovered := false }] w')
    (k : ∀ v c' w', Post v c' → St w0 F0 (ls.set i c') w' → K (put f d v) w') : opF P ⟨d, .call ⟨.value x, args.toArray, ats⟩, ty, pos, after, g⟩ f w K Qp := by
  unfold opF
  rw [exec_call hB hx ha]
  refine (hc w (hs.at hi) hR).mono ?_
  rintro e w' (⟨v, c', rfl, hp, hs'⟩ | ⟨j, hj, rfl, hb, hs'⟩)
  · exact k v c' w' hp (hs.change hi hs')
  · exact kp j w' hj hb (hs.none hi hs')
/-- .. where it asks for no chunk and leaves none. -/
theorem o_callT0 {h : FuncId} {x : Operand} {args : List Operand} {ats : Array TypeId} {as : List Value} {RO : World → Prop} {Post : Value → Prop} {Bad : Prop}
    (hB : callB P h = true) (hx : ev f x = .func (.func h) #[] #[]) (ha : args.map (ev f) = as) (hc : CtrT P thr h as.toArray [] RO (fun v c => Post v ∧ c = []) Bad) (hs : St w0 F0 ls w) (hR : RO w)
    (kp : ∀ (k : Int) w', k ≠ 0 → Bad → St w0 F0 [] w' → Qp [{ v := thr k, recovered := false }] w')
    (k : ∀ v w', Post v → St w0 F0 ls w' → K (put f d v) w') : opF P ⟨d, .call ⟨.value x, args.toArray, ats⟩, ty, pos, after, g⟩ f w K Qp := by
  unfold opF
  rw [exec_call hB hx ha]
  refine (hc w (Hp.nil w) hR).mono ?_
  rintro e w' (⟨v, c', rfl, ⟨hp, rfl⟩, hs'⟩ | ⟨j, hj, rfl, hb, hs'⟩)
  · exact k v w' hp ((hs.more hs').cast (by simp))
  · exact kp j w' hj hb ((hs.more (c := []) (hs'.cast (by simp))).keep (by simp))
/-- .. a closure. -/
theorem o_callTC {h : FuncId} {x : Operand} {args : List Operand} {ats : Array TypeId} {as fst cap : List Value} {i : Nat} {c : Ck} {RO : World → Prop} {Post : Value → Ck → Prop} {Bad : Prop}
    (hB : callB P h = true) (hx : ev f x = .func (.func h) fst.toArray cap.toArray) (ha : fst ++ args.map (ev f) ++ cap = as) (hc : CtrT P thr h as.toArray c RO Post Bad) (hs : St w0 F0 ls w) (hi : ls[i]? = some c) (hR : RO w)
    (kp : ∀ (k : Int) w', k ≠ 0 → Bad → St w0 F0 [] w' → Qp [{ v := thr k, recovered := false }] w')
    (k : ∀ v c' w', Post v c' → St w0 F0 (ls.set i c') w' → K (put f d v) w') : opF P ⟨d, .call ⟨.value x, args.toArray, ats⟩, ty, pos, after, g⟩ f w K Qp := by
  unfold opF
  rw [exec_callC hB hx ha]
  refine (hc w (hs.at hi) hR).mono ?_
  rintro e w' (⟨v, c', rfl, hp, hs'⟩ | ⟨j, hj, rfl, hb, hs'⟩)
  · exact k v c' w' hp (hs.change hi hs')
  · exact kp j w' hj hb (hs.none hi hs')
theorem finT {h : Ck} {c' : Ck} {v : Value} {Post : Value → Ck → Prop} {Bad : Prop} (hs : St w0 (ks h) ls w) (hp : Post v c') (hc : c'.Sublist ls.flatten) :
    (∃ v' c'', Ending.returned v = .returned v' ∧ Post v' c'' ∧ St w0 (ks h) [c''] w) ∨ ∃ k : Int, k ≠ 0 ∧ Ending.returned v = .panicked [{ v := thr k, recovered := false }] ∧ Bad ∧ St w0 (ks h) [] w :=
  .inl ⟨v, c', rfl, hp, hs.keep (by simpa using hc)⟩
end
end Go.Eng
