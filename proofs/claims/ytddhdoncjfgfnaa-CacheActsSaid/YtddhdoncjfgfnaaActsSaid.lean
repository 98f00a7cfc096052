/-
  The row of the law CacheActs, call by call the cache and its own reference answer alike: the form Said. No condition.
-/
import Derived.Test.YtddhdoncjfgfnaaRows
import Derived.Test.YtddhdoncjfgfnaaActsLaw
import Derived.Test.YtddhdoncjfgfnaaTakenW
namespace Go.Proofs.Ytddhdoncjfgfnaa.cacheActs
open Go.Eng Go.ChangeShapes Go.WideShapes Go.ChangeAt Go.RowKit

theorem own : ownKnob Try.prog.godebug = none := by kernel_rfl
theorem laidOut : laidOutB Try.prog = true := by kernel_rfl

set_option maxRecDepth 100000 in
theorem lifted (os : Os) (started : os.Started) (H : Type) (enc : TypeId × Value → H) :
    ReturnsInHanded {} Try.checked os 5 .any (Rows.cacheActsSpec.pre6 enc Try.prog Try.f5 Rows.cacheActsRow.domain false) (Rows.cacheActsSpec.post enc Try.prog Try.f5 false true false false) := by
  refine returnsInHanded_of_change_sized (C := Try.checked) own started (by kernel_rfl) Try.func5
    (ChangeSpec.witness6 (enc := enc) (C := Try.checked) false ⟨#[], #[.int .i64 0, .slice none 0 0, .slice none 0 0], []⟩ 8 (by kernel_rfl) (by kernel_rfl) (by kernel_rfl) (by kernel_rfl)) ?_
  intro W base args ds gs before hval0 hW _ hz _
  have hval : ∀ (j : Nat) t v, Try.f5.params[j]? = some t → args[j]? = some v → Value.okWide Try.prog W .any base t v := hval0
  have hz : (DataW.weightsEach Try.prog (Try.f5.params.toList ++ Rows.cacheActsSpec.plain.varTypes Try.prog) (ds ++ gs)).all (· ≤ reachBytes) = true := hz
  have hW' := hW
  obtain ⟨p, q, hA0, hV, rfl, _, _⟩ := hW
  have hA : DataW.TrodAll enc Try.prog W 0 (fun _ => true) true Try.f5.params.toList args.toList ds p := hA0
  rw [Try.params5] at hA hval hz
  obtain ⟨v0, vs0, d0, ds0, p0, q0, hargs, rfl, rfl, h0, r0⟩ := trodAll_cons hA
  obtain ⟨v1, vs1, d1, ds1, p1, q1, rfl, rfl, rfl, h1, r1⟩ := trodAll_cons r0
  obtain ⟨v2, vs2, d2, ds2, p2, q2, rfl, rfl, rfl, h2, r2⟩ := trodAll_cons r1
  obtain ⟨rfl, rfl, rfl⟩ := trodAll_nil r2
  obtain rfl : args = #[v0, v1, v2] := by cases args; simp_all
  clear hA0 hval0
  obtain ⟨a0, rfl, _, _, w0⟩ := open_int Try.underlying3 (hval 0 3 v0 rfl rfl) h0
  have w0 := bounds_i64 w0
  have z1 : Wt 27 d1 := Wt.arg hz (j := 1) rfl rfl
  obtain ⟨a1, w1, m1⟩ := open_isW (hval 1 27 v1 rfl rfl) h1 z1
  have z2 : Wt 48 d2 := Wt.arg hz (j := 2) rfl rfl
  obtain ⟨a2, w2, m2⟩ := open_actsW (hval 2 48 v2 rfl rfl) h2 z2
  refine (f5_law a0 v1 a1 v2 a2 m1 m2.1 m2.2 W (Hp.nil W) ⟨w1, w2.1, w2.2⟩).mono ?_
  rintro e W' ⟨v, c', rfl, ⟨rfl, rfl⟩, hst⟩
  exact ⟨_, rfl, law_post laidOut (by kernel_rfl) (by kernel_rfl) Try.underlying4 rfl hW' rfl hst⟩

theorem over : Rows.cacheActsRow.holds Try.pinned (OpenSpec.ofChange Rows.cacheActsSpec) :=
  OpenClaim.holds_of_wide 5 Try.f5 rfl rfl rfl rfl rfl rfl rfl ⟨rfl, rfl, rfl, rfl, rfl⟩ rfl rfl rfl rfl rfl (by kernel_rfl) Try.func5 (by kernel_rfl)
    (of_decide_eq_true (by kernel_rfl)) (by unfold Func.isWrapper; first | (rw [if_pos (by decide +kernel)]; kernel_rfl) | (rw [if_neg (by decide +kernel)]; exact ⟨rfl, rfl⟩))
    (fun os started H enc _ => lifted os started H enc)

/-- The statement. -/
theorem proved : Rows.CacheActsSaid :=
  over

end Go.Proofs.Ytddhdoncjfgfnaa.cacheActs
