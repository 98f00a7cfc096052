/-
  An engine for walks: a frame is a function from slots to values; a region is stepped through operation by operation, in the text's order or, where it draws its order, in one order that stands for all. No condition.
-/
import Derived.Orders
import Derived.LoopN
import Derived.Tactics
namespace Go.Eng

abbrev Fm := Nat → Value

def fr (n : Nat) (f : Fm) (ds : List Deferred) : Act := ⟨Array.ofFn (n := n) fun i => f i.1, ds⟩
def upd (f : Fm) (d : Nat) (v : Value) : Fm := fun t => if t = d then v else f t
def put (f : Fm) (d : Option Nat) (v : Value) : Fm := match d with | some d => upd f d v | none => f
def ev (f : Fm) : Operand → Value
  | .tmp t => f t
  | .const v => v
  | .global g => .pointer (some ⟨g, 0, none⟩)
  | .func g => .func (.func g) #[] #[]
/-- Slots laid over others. -/
def ov : List (Nat × Value) → Fm → Fm
  | [], f => f
  | (k, v) :: r, f => fun t => if t = k then v else ov r f t
def okv : List (Nat × Value) → Fm → Prop
  | [], _ => True
  | (k, v) :: r, f => f k = v ∧ okv r f
theorem ov_self : ∀ {kvs : List (Nat × Value)} {f : Fm}, okv kvs f → f = ov kvs f
  | [], _, _ => rfl
  | (k, v) :: r, f, h => by
    funext t
    simp only [ov]
    split
    · rename_i e; subst e; exact h.1
    · exact congrFun (ov_self h.2) t

def okX (n : Nat) : Operand → Bool
  | .tmp t => decide (t < n)
  | _ => true
def okO (n : Nat) (o : Oper) : Bool :=
  o.op.operands.all (okX n) && (match o.dst with | some d => decide (d < n) | none => true) && (match o.op with | .select .. => false | .defer .. => false | _ => true)

theorem fr_eval {n : Nat} {f : Fm} {ds : List Deferred} {x : Operand} (h : okX n x = true) : (fr n f ds).eval x = ev f x := by
  cases x with
  | tmp t =>
    have ht : t < n := by simpa [okX] using h
    simp [Act.eval, fr, ev, ht]
  | const v => rfl
  | global g => rfl
  | func g => rfl

theorem fr_put {n : Nat} {f : Fm} {ds : List Deferred} {d : Option Nat} {v : Value} (h : (match d with | some d => decide (d < n) | none => true) = true) :
    (fr n f ds).put d v = fr n (put f d v) ds := by
  cases d with
  | none => rfl
  | some d =>
    have hd : d < n := by simpa using h
    simp only [Act.put, fr, put, Act.mk.injEq, and_true]
    apply Array.ext
    · simp
    · intro i h1 h2
      have hi : i < n := by simpa using h2
      by_cases e : i = d
      · subst e; simp [upd]
      · have e' : ¬ d = i := fun h => e h.symm
        rw [← Option.some_inj, ← Array.getElem?_eq_getElem, ← Array.getElem?_eq_getElem, Array.getElem?_setIfInBounds_ne e']
        simp [upd, e, hi]

theorem okO_parts {n : Nat} {o : Oper} (h : okO n o = true) :
    (∀ x ∈ o.op.operands, okX n x = true) ∧ (match o.dst with | some d => decide (d < n) | none => true) = true ∧ (∀ cs b, o.op ≠ .select cs b) ∧ ∀ c, o.op ≠ .defer c := by
  unfold okO at h
  simp only [Bool.and_eq_true] at h
  obtain ⟨⟨h1, h2⟩, h3⟩ := h
  refine ⟨fun x hx => ?_, h2, fun cs b e => ?_, fun c e => ?_⟩
  · exact (Array.all_eq_true_iff_forall_mem.1 h1) x hx
  · rw [e] at h3; cases h3
  · rw [e] at h3; cases h3

theorem exec_fr {n : Nat} {f : Fm} {ds : List Deferred} {o : Oper} (h : okO n o = true) : execOp (fr n f ds).eval o = execOp (ev f) o := by
  obtain ⟨h1, _, h3, _⟩ := okO_parts h
  exact execOp_congr o h3 fun x hx => fr_eval (h1 x hx)

/-- What the operation with number j answered, a bool. -/
def yF (ops : Array Oper) (f : Fm) (j : Nat) : Option Bool :=
  match (ops[j]?).bind (·.dst) with
  | some d => (match f d with | .bool b => some b | _ => none)
  | none => none
def wantedF (ops : Array Oper) (f : Fm) (o : Oper) : Bool :=
  match o.guard with
  | none => true
  | some (j, want) => yF ops f j == some want

def okOps (n : Nat) (ops : Array Oper) : Bool := ops.all (okO n)
theorem okOps_get {n : Nat} {ops : Array Oper} (h : okOps n ops = true) {i : Nat} {o : Oper} (hi : ops[i]? = some o) : okO n o = true :=
  (Array.all_eq_true_iff_forall_mem.1 h) o (Array.mem_of_getElem? hi)

theorem yielded_fr {n : Nat} {f : Fm} {ds : List Deferred} {ops : Array Oper} (h : okOps n ops = true) (j : Nat) : yielded ops (fr n f ds).tmps j = yF ops f j := by
  unfold yielded yF
  cases hj : ops[j]? with
  | none => rfl
  | some o =>
    simp only [Option.bind_some]
    cases hd : o.dst with
    | none => rfl
    | some d =>
      have hok := (okO_parts (okOps_get h hj)).2.1
      rw [hd] at hok
      have hdn : d < n := by simpa using hok
      simp only [Option.bind_some, fr]
      rw [Array.getElem?_eq_getElem (by simpa using hdn)]
      simp only [Array.getElem_ofFn]
      cases f d <;> rfl

theorem wanted_fr {n : Nat} {f : Fm} {ds : List Deferred} {ops : Array Oper} (h : okOps n ops = true) (o : Oper) :
    Region.wanted o (yielded ops (fr n f ds).tmps) = wantedF ops f o := by
  unfold Region.wanted wantedF
  cases o.guard with
  | none => rfl
  | some g => obtain ⟨j, want⟩ := g; simp only [yielded_fr h]

/-- Behind an operation. -/
def aft (P : Program) (o : Oper) (f : Fm) (K : Fm → World → Prop) (Qp : List PanicEntry → World → Prop) : Result Next → Prop
  | .ok (.value v) w => K (put f o.dst v) w
  | .ok .skip w => K (put f o.dst undef) w
  | .ok (.enter g args) w => Calls P g args w fun
      | .returned v, w' => K (put f o.dst v) w'
      | .panicked c, w' => Qp c w'
      | .outgrown, _ => False
  | .halt (.panic v) w => Qp [{ v, recovered := false }] w
  | _ => False
def opF (P : Program) (o : Oper) (f : Fm) (w : World) (K : Fm → World → Prop) (Qp : List PanicEntry → World → Prop) : Prop :=
  aft P o f K Qp ((execOp (ev f) o).run P w)
def opG (P : Program) (ops : Array Oper) (o : Oper) (f : Fm) (w : World) (K : Fm → World → Prop) (Qp : List PanicEntry → World → Prop) : Prop :=
  if wantedF ops f o = true then opF P o f w K Qp else K (put f o.dst undef) w

theorem aft_mono {P : Program} {o : Oper} {f : Fm} {K K' : Fm → World → Prop} {Qp : List PanicEntry → World → Prop} (h : ∀ f w, K f w → K' f w) {r : Result Next}
    (hr : aft P o f K Qp r) : aft P o f K' Qp r := by
  cases r with
  | ok n w =>
    cases n <;> simp only [aft] at hr ⊢
    case value v => exact h _ _ hr
    case skip => exact h _ _ hr
    case enter g args =>
      refine hr.mono fun e w' he => ?_
      cases e with
      | returned v => exact h _ _ he
      | panicked c => exact he
      | outgrown => exact he
  | halt x w => cases x <;> exact hr
theorem opG_mono {P : Program} {ops : Array Oper} {o : Oper} {f : Fm} {w : World} {K K' : Fm → World → Prop} {Qp : List PanicEntry → World → Prop} (h : ∀ f w, K f w → K' f w)
    (hr : opG P ops o f w K Qp) : opG P ops o f w K' Qp := by
  unfold opG at *
  split
  · rename_i hw; rw [if_pos hw] at hr; exact aft_mono h hr
  · rename_i hw; rw [if_neg hw] at hr; exact h _ _ hr

/-- A post over frames, as one over states. -/
def lift (n : Nat) (ds : List Deferred) (Q : Exit → Fm → World → Prop) (Qp : List PanicEntry → World → Prop) : Exit → Act → World → Prop
  | .panic c, a, w => a.defers = ds ∧ Qp c w
  | .outgrown, _, _ => False
  | e, a, w => ∃ f, a = fr n f ds ∧ Q e f w

def W (P : Program) (n : Nat) (ds : List Deferred) (c : Code) (Q : Exit → Fm → World → Prop) (Qp : List PanicEntry → World → Prop) (f : Fm) (w : World) : Prop :=
  c.wp P (lift n ds Q Qp) (fr n f ds) w

section
variable {P : Program} {n : Nat} {ds : List Deferred} {Q : Exit → Fm → World → Prop} {Qp : List PanicEntry → World → Prop} {f : Fm} {w : World}

/-- An operation, over frames. -/
theorem upon_of_aft {o : Oper} (ho : okO n o = true) {K : Fm → World → Prop} {K' : Act → World → Prop} (hK : ∀ f w, K f w → K' (fr n f ds) w) {r : Result Next}
    {Q' : Exit → Act → World → Prop} (hQ : ∀ c a w, a.defers = ds → Qp c w → Q' (.panic c) a w)
    (h : aft P o f K Qp r) : o.upon P (fr n f ds) K' Q' r := by
  have hd := (okO_parts ho).2.1
  cases r with
  | ok x w =>
    cases x <;> simp only [aft] at h <;> simp only [Oper.upon]
    case value v => rw [fr_put hd]; exact hK _ _ h
    case skip => rw [fr_put hd]; exact hK _ _ h
    case enter g args =>
      refine h.mono fun e w' he => ?_
      cases e with
      | returned v => simp only; rw [fr_put hd]; exact hK _ _ he
      | panicked c => exact hQ _ _ _ rfl he
      | outgrown => exact he.elim
  | halt x w => cases x <;> simp only [aft] at h <;> first | exact h.elim | exact hQ _ _ _ rfl h

/-! ### Text order -/
def sq (P : Program) (ops : Array Oper) (Qn : Fm → World → Prop) (Qp : List PanicEntry → World → Prop) : List Oper → Fm → World → Prop
  | [], f, w => Qn f w
  | o :: r, f, w => opG P ops o f w (sq P ops Qn Qp r) Qp

theorem wpList_of_sq {ops : Array Oper} (hok : okOps n ops = true) : ∀ (l : List Oper), (∀ o ∈ l, okO n o = true) → ∀ (f : Fm) (w : World), sq P ops (Q .normal) Qp l f w → wpList P ops (lift n ds Q Qp) l (fr n f ds) w
  | [], _, f, w, h => ⟨f, rfl, h⟩
  | o :: r, hl, f, w, h => by
    have ho := hl o (by simp)
    have ih := wpList_of_sq hok r (fun x hx => hl x (by simp [hx]))
    unfold wpList
    rw [wanted_fr hok]
    simp only [sq, opG] at h
    split
    · rename_i hw
      rw [if_pos hw] at h
      refine .inl ?_
      unfold Oper.wp
      rw [exec_fr ho]
      exact upon_of_aft ho ih (fun c a w hd hc => ⟨hd, hc⟩) h
    · rename_i hw
      rw [if_neg hw] at h
      rw [fr_put (okO_parts ho).2.1]
      exact ih _ _ h

theorem W_region {id : Nat} {l : List Oper} (hok : okOps n l.toArray = true) (h : sq P l.toArray (Q .normal) Qp l f w) : W P n ds (.region id l.toArray false) Q Qp f w := by
  unfold W
  refine wp_region_lit (wpList_of_sq hok l ?_ f w h)
  intro o ho
  exact (Array.all_eq_true_iff_forall_mem.1 hok) o (by simpa using ho)

/-! ### Code -/
def thenQ (K : Fm → World → Prop) (Q : Exit → Fm → World → Prop) : Exit → Fm → World → Prop
  | .normal, f, w => K f w
  | e, f, w => Q e f w
def blockQ (id : Nat) (Q : Exit → Fm → World → Prop) : Exit → Fm → World → Prop
  | .exit id', f, w => if id' = id then Q .normal f w else Q (.exit id') f w
  | e, f, w => Q e f w

theorem thenQ_ret {K : Fm → World → Prop} (h : Q .ret f w) : thenQ K Q .ret f w := h
theorem blockQ_ret {id : Nat} (h : Q .ret f w) : blockQ id Q .ret f w := h
theorem W_seq {x y : Code} (h : W P n ds x (thenQ (fun f w => W P n ds y Q Qp f w) Q) Qp f w) : W P n ds (.seq x y) Q Qp f w := by
  unfold W
  refine wp_seq (wp_mono h ?_)
  intro e a w hq
  cases e with
  | normal => obtain ⟨g, rfl, hg⟩ := hq; exact hg
  | exit id => exact hq
  | goto l => exact hq
  | ret => exact hq
  | panic c => exact hq
  | outgrown => exact hq
theorem W_skip (h : Q .normal f w) : W P n ds .skip Q Qp f w := wp_skip ⟨f, rfl, h⟩
theorem W_ret (h : Q .ret f w) : W P n ds .ret Q Qp f w := wp_ret ⟨f, rfl, h⟩
theorem W_exit {id : Nat} (h : Q (.exit id) f w) : W P n ds (.exit id) Q Qp f w := wp_exit ⟨f, rfl, h⟩
theorem W_block {id : Nat} {c : Code} (h : W P n ds c (blockQ id Q) Qp f w) : W P n ds (.block id c) Q Qp f w := by
  unfold W
  refine wp_block (wp_mono h ?_)
  intro e a w hq
  cases e with
  | normal => exact hq
  | exit id' =>
    obtain ⟨g, rfl, hg⟩ := hq
    simp only [blockQ] at hg
    simp only [Exit.inBlock]
    split
    · rename_i e; rw [if_pos e] at hg; exact ⟨g, rfl, hg⟩
    · rename_i e; rw [if_neg e] at hg; exact ⟨g, rfl, hg⟩
  | goto l => exact hq
  | ret => exact hq
  | panic c => exact hq
  | outgrown => exact hq
theorem W_mono {c : Code} {Q' : Exit → Fm → World → Prop} {Qp' : List PanicEntry → World → Prop} (h : W P n ds c Q Qp f w) (hq : ∀ e f w, Q e f w → Q' e f w) (hp : ∀ c w, Qp c w → Qp' c w) : W P n ds c Q' Qp' f w := by
  unfold W at *
  refine wp_mono h ?_
  intro e a w h
  cases e with
  | panic c => exact ⟨h.1, hp _ _ h.2⟩
  | outgrown => exact h
  | normal => obtain ⟨g, rfl, hg⟩ := h; exact ⟨g, rfl, hq _ _ _ hg⟩
  | exit id => obtain ⟨g, rfl, hg⟩ := h; exact ⟨g, rfl, hq _ _ _ hg⟩
  | goto l => obtain ⟨g, rfl, hg⟩ := h; exact ⟨g, rfl, hq _ _ _ hg⟩
  | ret => obtain ⟨g, rfl, hg⟩ := h; exact ⟨g, rfl, hq _ _ _ hg⟩

theorem W_cond {x : Operand} {c d : Code} {b : Bool} (hx : okX n x = true) (hb : ev f x = .bool b) (ht : b = true → W P n ds c Q Qp f w) (hf : b = false → W P n ds d Q Qp f w) :
    W P n ds (.cond x c d) Q Qp f w := by
  unfold W
  refine wp_cond_split (t := b) (by rw [fr_eval hx]; exact hb) ht hf

/-- A loop: what holds at each round's head, of something that is told beside it, and a measure of that. -/
theorem W_loop {G : Type} (I : G → Fm → World → Prop) (μ : G → Nat) (g : G) {c : Code} (h0 : I g f w)
    (round : ∀ g f w, I g f w → W P n ds c (thenQ (fun f' w' => ∃ g', I g' f' w' ∧ μ g' < μ g) Q) Qp f w) : W P n ds (.loop c) Q Qp f w := by
  have key : ∀ m g f w, μ g < m → I g f w → Code.rounds P c (lift n ds Q Qp) m (fr n f ds) w := by
    intro m
    induction m with
    | zero => intro g f w h; omega
    | succ m ih =>
      intro g f w hm hI
      rw [rounds_succ]
      refine wp_mono (round g f w hI) ?_
      intro e a w' hq
      cases e with
      | normal =>
        obtain ⟨f', rfl, g', hI', hlt⟩ := hq
        exact ih g' f' w' (by omega) hI'
      | exit id => exact hq
      | goto l => exact hq
      | ret => exact hq
      | panic c => exact hq
      | outgrown => exact hq
  exact wp_loop_rounds _ (key _ g f w (Nat.lt_succ_self _) h0)

/-! ### A call -/
def args0 (args : Array Value) : Fm := fun t => args.getD t undef
theorem fr_args {m : Nat} (args : Array Value) (h : args.size ≤ m) : (⟨args ++ Array.replicate (m - args.size) undef, []⟩ : Act) = fr m (args0 args) [] := by
  simp only [fr, Act.mk.injEq, and_true]
  apply Array.ext
  · simp; omega
  · intro i h1 h2
    simp only [Array.getElem_ofFn, args0, Array.getElem_append]
    split
    · simp
    · simp

/-- What a body must come to: one result in a slot. -/
def bodyQ (fn : Func) (P : Program) (R : Ending → World → Prop) : Exit → Fm → World → Prop
  | .normal, f, w | .ret, f, w => ∃ v, (results fn (fr fn.ntmps f []).tmps).run P w = .ok v w ∧ R (.returned v) w
  | _, _, _ => False

theorem calls_W {g : FuncId} {fn : Func} {c : Code} {args : Array Value} {R : Ending → World → Prop} (hf : P.funcs[g]? = some fn) (hb : fn.body = some c) (hn : fn.ntmps = n) (hs : args.size ≤ n)
    (h : W P n [] c (bodyQ fn P R) (fun ch w => R (.panicked ch) w) (args0 args) w) : Calls P g args w R := by
  subst hn
  refine calls_of_wp hf hb ?_
  rw [fr_args args hs]
  refine wp_mono h ?_
  intro e a w hq
  cases e with
  | normal => obtain ⟨f, rfl, v, hv, hR⟩ := hq; exact ⟨rfl, v, hv, hR⟩
  | ret => obtain ⟨f, rfl, v, hv, hR⟩ := hq; exact ⟨rfl, v, hv, hR⟩
  | panic c => exact ⟨hq.1, hq.2⟩
  | exit id => obtain ⟨f, rfl, hq⟩ := hq; exact hq.elim
  | goto l => obtain ⟨f, rfl, hq⟩ := hq; exact hq.elim
  | outgrown => exact hq.elim

theorem ret1 {fn : Func} {R : Ending → World → Prop} {t : Nat} {v : Value} (hr : fn.results = #[.tmp t]) (ht : t < fn.ntmps) (hv : f t = v) (hR : R (.returned v) w) : bodyQ fn P R .ret f w := by
  subst hv
  refine ⟨f t, ?_, hR⟩
  rw [results_tmp hr]
  simp [fr, ht]
theorem ret0 {fn : Func} {R : Ending → World → Prop} (hr : fn.results = #[]) (hR : R (.returned (.tuple #[])) w) : bodyQ fn P R .normal f w :=
  ⟨.tuple #[], results_none hr _ _ _, hR⟩
theorem ret0' {fn : Func} {R : Ending → World → Prop} (hr : fn.results = #[]) (hR : R (.returned (.tuple #[])) w) : bodyQ fn P R .ret f w :=
  ⟨.tuple #[], results_none hr _ _ _, hR⟩
theorem ret2 {fn : Func} {R : Ending → World → Prop} {t u : Nat} {v v' : Value} (hr : fn.results = #[.tmp t, .tmp u]) (ht : t < fn.ntmps) (hu : u < fn.ntmps) (hv : f t = v) (hv' : f u = v') (hR : R (.returned (.tuple #[v, v'])) w) : bodyQ fn P R .ret f w := by
  subst hv hv'
  refine ⟨.tuple #[f t, f u], ?_, hR⟩
  rw [results_tmp2 hr]
  simp [fr, ht, hu]
end
end Go.Eng
