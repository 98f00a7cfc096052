/-
  Layer 17: must, which throws, and guarded, which catches. No condition.
-/
import Derived.Test.YtfojeengapebmaaFacts2
import Derived.Test.YtfojeengapebmaaThrow
namespace Go.Proofs.Ytfojeengapebmaa
open Go.Eng

/-- What must throws. -/
def thr (k : Int) : Value := .iface 91 (.agg #[.int .i64 k])
theorem run_ta (k : Int) (w : World) : (Instr.typeAssert (thr k) 20 91 true).run Try.prog w = .ok (.tuple #[.agg #[.int .i64 k], .bool true]) w := by kernel_rfl
theorem run_mi (k : Int) (w : World) : (Instr.makeInterface 91 (.agg #[.int .i64 k])).run Try.prog w = .ok (thr k) w := by kernel_rfl
theorem run_pn (k : Int) (w : World) : (Instr.panic (thr k)).run Try.prog w = .halt (.panic (thr k)) w := by kernel_rfl
theorem build91 (w : World) (k : Int) : (Instr.build 91 #[(0, .int .i64 k)]).run Try.prog w = .ok (.agg #[.int .i64 k]) w := by kernel_rfl

section
variable {P : Program} {w0 w : World} {F0 : List Nat} {ls : List Ck} {f : Fm} {K : Fm → World → Prop} {Qp : List PanicEntry → World → Prop}
  {d : Option Nat} {ty : TypeId} {pos : String} {after : Array Edge} {g : Option (Nat × Bool)}
theorem o_panic {x : Operand} {v : Value} (hx : ev f x = v) (hv : (Instr.panic v).run P w = .halt (.panic v) w) (k : Qp [{ v := v, recovered := false }] w) : opF P ⟨d, .panic x, ty, pos, after, g⟩ f w K Qp := by
  subst hx
  simp only [opF, execOp, Sem.run_bind, hv]
  exact k
theorem r_mi {x : Operand} {T : TypeId} {v u : Value} (hx : ev f x = v) (hv : (Instr.makeInterface T v).run P w = .ok u w) : (execOp (ev f) ⟨d, .makeInterface T x, ty, pos, after, g⟩).run P w = .ok (.value u) w := by
  subst hx
  simp only [execOp, Sem.run_bind, hv, Result.andThen_ok, Sem.run_pure]
theorem r_ta {x : Operand} {T U : TypeId} {v u : Value} {ok : Bool} (hx : ev f x = v) (hv : (Instr.typeAssert v T U ok).run P w = .ok u w) : (execOp (ev f) ⟨d, .typeAssert x T U ok, ty, pos, after, g⟩).run P w = .ok (.value u) w := by
  subst hx
  simp only [execOp, Sem.run_bind, hv, Result.andThen_ok, Sem.run_pure]
theorem r_mf {fn : Fn} {cap : List Operand} : (execOp (ev f) ⟨d, .makeFunc fn #[] cap.toArray, ty, pos, after, g⟩).run P w = .ok (.value (.func fn #[] (cap.map (ev f)).toArray)) w := by
  simp only [execOp, Sem.run_bind, List.map_toArray]
  rfl
theorem run_rec {ats : Array TypeId} : (execOp (ev f) ⟨d, .call ⟨.builtin .recover, #[], ats⟩, ty, pos, after, g⟩).run P w = .ok .recover w := by
  simp [execOp, resolve, invoke, builtin]
end

set_option maxRecDepth 20000 in
theorem f30_calls (b : Bool) (k : Int) (hk : k ≠ 0) : CtrT Try.prog thr 30 #[.bool b, .int .i64 k] [] (fun _ => True) (fun v c => (v = .tuple #[] ∧ b = true) ∧ c = []) (b = false) := by
  intro w0 hp _
  have hs : St w0 (ks []) [] w0 := St.start w0
  refine calls_W (n := 9) Try.func30 rfl Try.ntmps30 (by simp) ?_
  refine W_seq ?_
  -- region 0
  refine W_region (by decide +kernel) ?_
  refine sq_r r_move rfl ?_
  refine sq_r (r_not rfl) rfl ?_
  refine sq_z ?_
  cases b
  · refine W_cond rfl rfl (fun hc => ?_) (fun hc => ?_)
    · -- region 1
      refine W_region (by decide +kernel) ?_
      refine sq_r r_move rfl ?_
      refine sq_r (r_buildL (ps := [(0, .int .i64 k)]) rfl (build91 _ k)) rfl ?_
      refine sq_r (r_mi rfl (run_mi k _)) rfl ?_
      exact sq_e rfl (o_panic rfl (run_pn k _) (.inr ⟨k, hk, rfl, rfl, hs.keep (by simp)⟩))
    · cases hc
  · refine W_cond rfl rfl (fun hc => ?_) (fun hc => ?_)
    · cases hc
    refine W_skip ?_
    exact ret0 rfl (finT (c' := []) hs ⟨⟨rfl, rfl⟩, rfl⟩ (by simp))

theorem r_neIf {k : Int} {w : World} {f : Fm} {d : Option Nat} {ty : TypeId} {pos : String} {after : Array Edge} {g : Option (Nat × Bool)} {x : Operand} (hx : ev f x = thr k) :
    (execOp (ev f) ⟨d, .binOp .neq 20 x (.const .nilIface) 20, ty, pos, after, g⟩).run Try.prog w = .ok (.value (.bool true)) w := by
  have e1 : (Go.binOp .neq 20 (thr k) .nilIface).run Try.prog w = .ok (.bool true) w := by kernel_rfl
  have e2 : eqGuard .neq 20 x (.const .nilIface) (thr k) .nilIface = pure () := rfl
  have hy : ev f (.const .nilIface) = .nilIface := rfl
  simp only [execOp, Sem.run_bind, hx, hy, e2, Sem.run_pure, Result.andThen_ok, e1]
theorem r_neIf0 {w : World} {f : Fm} {d : Option Nat} {ty : TypeId} {pos : String} {after : Array Edge} {g : Option (Nat × Bool)} {x : Operand} (hx : ev f x = .nilIface) :
    (execOp (ev f) ⟨d, .binOp .neq 20 x (.const .nilIface) 20, ty, pos, after, g⟩).run Try.prog w = .ok (.value (.bool false)) w := by
  have e1 : (Go.binOp .neq 20 .nilIface .nilIface).run Try.prog w = .ok (.bool false) w := by kernel_rfl
  have e2 : eqGuard .neq 20 x (.const .nilIface) .nilIface .nilIface = pure () := by cases x <;> rfl
  have hy : ev f (.const .nilIface) = .nilIface := rfl
  simp only [execOp, Sem.run_bind, hx, hy, e2, Sem.run_pure, Result.andThen_ok, e1]

/-- The closure that is deferred, where something was thrown. -/
theorem f34_thrown (eb : Nat) (k : Int) (w0 : World) (h : w0.heap[eb]? = some (cb [.int .i64 0] 52)) :
    CallsD Try.prog 34 #[.pointer (some ⟨eb, 0, none⟩)] (.panicking [{ v := thr k, recovered := false }]) w0 fun e u' w' =>
      e = .returned (.tuple #[]) ∧ u' = .panicking [{ v := thr k, recovered := true }] ∧ St w0 [eb] [[(eb, cb [.int .i64 k] 52)]] w' := by
  have hs : St w0 [eb] [[(eb, cb [.int .i64 0] 52)]] w0 := (show Hp [(eb, cb [.int .i64 0] 52)] w0 from ⟨by simpa using h, by simp [ks]⟩).st
  refine callsD_of_wpS Try.func34 rfl fun c₀ cs hu => ?_
  rw [Try.ntmps34, fr_args _ (by simp)]
  refine wpS_seq ?_
  refine wpS_region ?_
  refine s_rec (n := 17) (rest := [1]) (v := thr k) (cs' := { c₀ with mode := .panicking [{ v := thr k, recovered := true }] } :: cs) (by decide +kernel) rfl rfl run_rec (by simp [recoverD, hu]) ?_
  refine s_val (rest := []) (by decide +kernel) rfl rfl r_assign ?_
  refine S_of_W (u := .panicking [{ v := thr k, recovered := true }]) Try.ntmps34 rfl ?_
  refine W_seq ?_
  -- region 1
  refine W_region (by decide +kernel) ?_
  refine sq_r r_move rfl ?_
  refine sq_r (r_neIf rfl) rfl ?_
  refine sq_z ?_
  refine W_cond rfl rfl (fun hc => ?_) (fun hc => ?_)
  · refine W_seq ?_
    -- region 2
    refine W_region (by decide +kernel) ?_
    refine sq_r r_move rfl ?_
    refine sq_r (r_ta rfl (run_ta k _)) rfl ?_
    refine sq_r r_move rfl ?_
    refine sq_r (r_extract rfl rfl) rfl ?_
    refine sq_r (r_extract rfl rfl) rfl ?_
    refine sq_e rfl (o_alloc hs ty91 ?_); intro b2 w hs
    refine sq_e rfl (o_store (i := 1) (vs := [.int .i64 k]) hs rfl rfl ty91 rfl (by simp [Value.oneCell']) (by simp) ?_); intro w hs
    refine sq_r r_assign rfl ?_
    refine sq_z ?_
    refine W_seq ?_
    refine W_seq ?_
    -- region 3
    refine W_region (by decide +kernel) ?_
    refine sq_r r_move rfl ?_
    refine sq_r (r_not rfl) rfl ?_
    refine sq_z ?_
    refine W_cond rfl rfl (fun hc => ?_) (fun hc => ?_)
    · cases hc
    refine W_skip ?_
    -- region 5
    refine W_region (by decide +kernel) ?_
    refine sq_r (r_field rfl fa91_0) rfl ?_
    refine sq_r (r_load1 rfl ty52 (At.one (v := .int .i64 k) (hs.own (i := 1) rfl) rfl)) rfl ?_
    refine sq_e rfl (o_store (i := 0) (vs := [.int .i64 k]) hs rfl rfl ty52 rfl (by simp [Value.oneCell']) (by simp) ?_); intro w hs
    refine sq_z ?_
    exact ret0 rfl ⟨rfl, rfl, hs.keep (by simp [spl])⟩
  · cases hc
/-- .. where nothing was thrown. -/
theorem f34_calm (eb : Nat) (w0 : World) : CallsD Try.prog 34 #[.pointer (some ⟨eb, 0, none⟩)] .returning w0 fun e u' w' => e = .returned (.tuple #[]) ∧ u' = .returning ∧ w' = w0 := by
  refine callsD_of_wpS Try.func34 rfl fun c₀ cs hu => ?_
  rw [Try.ntmps34, fr_args _ (by simp)]
  refine wpS_seq ?_
  refine wpS_region ?_
  refine s_rec0 (n := 17) (rest := [1]) (by decide +kernel) rfl rfl run_rec (by simp [recoverD, hu]) ?_
  refine s_val (rest := []) (by decide +kernel) rfl rfl r_assign ?_
  refine S_of_W (u := .returning) Try.ntmps34 (by cases c₀; simp_all) ?_
  refine W_seq ?_
  -- region 1
  refine W_region (by decide +kernel) ?_
  refine sq_r r_move rfl ?_
  refine sq_r (r_neIf0 rfl) rfl ?_
  refine sq_z ?_
  refine W_cond rfl rfl (fun hc => ?_) (fun hc => ?_)
  · cases hc
  refine W_skip ?_
  exact ret0 rfl ⟨rfl, rfl, rfl⟩

end Go.Proofs.Ytfojeengapebmaa
