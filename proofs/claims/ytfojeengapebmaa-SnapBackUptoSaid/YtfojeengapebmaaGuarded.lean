/-
  Layer 17: guarded: it does what it is given, and tells what was thrown. No condition.
-/
import Derived.Test.YtfojeengapebmaaCatch
namespace Go.Proofs.Ytfojeengapebmaa
open Go.Eng

theorem res26 {w : World} {f : Fm} {ds : List Deferred} {eb : Nat} {k : Int} (hf : f 2 = .pointer (some ⟨eb, 0, none⟩)) (hc : w.cell? ⟨eb, 0, none⟩ = some (.int .i64 k)) :
    (results Try.f26 (fr 6 f ds).tmps).run Try.prog w = .ok (.int .i64 k) w := by
  have h2 : (fr 6 f ds).tmps[2]?.getD undef = .pointer (some ⟨eb, 0, none⟩) := by simp [fr, hf]
  simp [results, h2, asAddr, loadVar, (tyOf_agg (w := w) ty52).1, hc]
theorem run_df {w : World} {f : Fm} {d : Option Nat} {ty : TypeId} {pos : String} {after : Array Edge} {x : Operand} {fn : Fn} {cap : Array Value} (hx : ev f x = .func fn #[] cap) :
    (execOp (ev f) ⟨d, .defer ⟨.value x, #[], #[]⟩, ty, pos, after, none⟩).run Try.prog w = .ok (.defer ⟨.fn fn cap, #[]⟩) w := by
  simp [execOp, resolve, Deferred.ofValue, hx]

set_option maxRecDepth 20000 in
theorem f26_calls {g : FuncId} {cap : List Value} {c : Ck} {RO : World → Prop} {Post : Value → Ck → Prop} {Bad : Prop} (hB : callB Try.prog g = true) (hc : CtrT Try.prog thr g cap.toArray c RO Post Bad) (hRO : ∀ (w w' : World) (ls : List Ck), RO w → St w [] ls w' → RO w') :
    Ctr Try.prog 26 #[.func (.func g) #[] cap.toArray] c RO (fun r c' => (r = .int .i64 0 ∧ ∃ v, Post v c') ∨ ∃ k : Int, k ≠ 0 ∧ r = .int .i64 k ∧ Bad ∧ c' = []) := by
  intro w0 hp hro
  refine calls_of_wp_defers Try.func26 rfl ?_
  rw [Try.ntmps26, fr_args _ (by simp)]
  refine wp_seq ?_
  -- region 0
  refine wp_mono (show W Try.prog 6 [] _ (fun e f w => e = .normal ∧ ∃ g1 eb, f = ov [(0, .func (.func g) #[] cap.toArray), (2, .pointer (some ⟨eb, 0, none⟩))] g1 ∧ RO w ∧ St w0 (ks c) [c, [(eb, cb [.int .i64 0] 52)]] w) (fun _ _ => False) _ _ from ?_) ?_
  · refine W_region (by decide +kernel) ?_
    refine sq_e rfl (o_alloc (St.start w0) ty52 ?_); intro eb w hs1
    refine sq_z ?_
    exact ⟨rfl, _, eb, ov_self ⟨rfl, rfl, trivial⟩, hRO _ _ _ hro hs1, hp.st.more hs1⟩
  intro e a w hq
  cases e with
  | panic ch => exact hq.2.elim
  | outgrown => exact hq.elim
  | exit id => obtain ⟨f, _, h, _⟩ := hq; cases h
  | goto l => obtain ⟨f, _, h, _⟩ := hq; cases h
  | ret => obtain ⟨f, _, h, _⟩ := hq; cases h
  | normal =>
  obtain ⟨_, rfl, _, g1, eb, rfl, hro, hs⟩ := hq
  refine wp_seq ?_
  -- region 1
  refine wp_region_lit ?_
  refine l_val (by decide +kernel) rfl r_mf ?_
  refine l_defer (d := ⟨.fn (.func 34) #[.pointer (some ⟨eb, 0, none⟩)], #[]⟩) (by decide) (fun _ _ h => by cases h) rfl rfl (run_df rfl) ?_
  refine wp_seq ?_
  -- region 2
  refine wp_region_lit ?_
  refine l_val (by decide +kernel) rfl r_move ?_
  refine l_call (by decide +kernel) rfl (exec_callC (h := g) (fst := []) (cap := cap) hB rfl rfl) ?_
  refine (hc w (hs.at (i := 0) rfl) hro).mono ?_
  rintro e w1 (⟨v, c1, rfl, hpost, hs1⟩ | ⟨k, hk, rfl, hbad, hs1⟩)
  · have hs : St w0 (ks c) [c1, [(eb, cb [.int .i64 0] 52)]] w1 := hs.change (i := 0) rfl hs1
    refine wp_seq ?_
    -- region 3
    refine wp_mono (show W Try.prog 6 _ _ (fun e f w => e = .normal ∧ f 2 = .pointer (some ⟨eb, 0, none⟩) ∧ St w0 (ks c) [c1, [(eb, cb [.int .i64 0] 52)]] w) (fun _ _ => False) _ _ from ?_) ?_
    · refine W_region (by decide +kernel) ?_
      refine sq_e rfl (o_store (i := 1) (vs := [.int .i64 0]) hs rfl rfl ty52 rfl (by simp [Value.oneCell']) (by simp) ?_); intro w hs
      refine sq_z ?_
      exact ⟨rfl, rfl, hs⟩
    intro e a w hq
    cases e with
    | panic ch => exact hq.2.elim
    | outgrown => exact hq.elim
    | exit id => obtain ⟨f, _, h, _⟩ := hq; cases h
    | goto l => obtain ⟨f, _, h, _⟩ := hq; cases h
    | ret => obtain ⟨f, _, h, _⟩ := hq; cases h
    | normal =>
    obtain ⟨f, rfl, _, hf2, hs⟩ := hq
    refine wp_ret ?_
    refine leaves_cons (f := 34) (args := #[.pointer (some ⟨eb, 0, none⟩)]) (by simp) (run_callFunc cb34 _) ?_
    refine (f34_calm eb w).mono ?_
    rintro e u' w' ⟨rfl, rfl, rfl⟩
    refine ⟨_, res26 hf2 (At.one (hs.own (i := 1) rfl) rfl), ?_⟩
    exact ⟨_, c1, rfl, .inl ⟨rfl, v, hpost⟩, hs.keep (by simp)⟩
  · have hs : St w0 (ks c) [[], [(eb, cb [.int .i64 0] 52)]] w1 := hs.change (i := 0) rfl (hs1.cast (by simp))
    refine leaves_cons (f := 34) (args := #[.pointer (some ⟨eb, 0, none⟩)]) (by simp) (run_callFunc cb34 _) ?_
    refine (f34_thrown eb k w1 (hs.own (i := 1) rfl)).mono ?_
    rintro e u' w' ⟨rfl, rfl, hs2⟩
    have hs : St w0 (ks c) [[], [(eb, cb [.int .i64 k] 52)]] w' := hs.change (i := 1) rfl hs2
    refine ⟨_, res26 rfl (At.one (hs.own (i := 1) rfl) rfl), ?_⟩
    exact ⟨_, [], rfl, .inr ⟨k, hk, rfl, hbad, rfl⟩, hs.keep (by simp)⟩

end Go.Proofs.Ytfojeengapebmaa
