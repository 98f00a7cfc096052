/-
  Layer 14: the program's book (profile): what its small methods answer and leave. No condition.
-/
import Derived.Test.YtcdlbgmmogccaaaFacts
namespace Go.Proofs.Ytcdlbgmmogccaaa
open Go.Eng

/-- A book: what is counted, what is banned, the threshold, the clock. -/
structure BS where
  m : List (Ky × (Int × Int) × Nat)
  c : Nat
  bn : List (Ky × Int × Nat)
  cb : Nat
  thr : Int
  clk : Int
def bookC (bb mc mb : Nat) (s : BS) : Ck :=
  [(bb, cb [.map (some mc), .map (some mb), .int .i64 s.thr, .int .i64 s.clk] 54), (mc, mo encV ctV s.m s.c), (mb, mo encV encI s.bn s.cb)]
theorem book_st {bb mc mb : Nat} {s : BS} {w : World} (hp : Hp (bookC bb mc mb s) w) :
    St w (ks (bookC bb mc mb s)) [[(bb, cb [.map (some mc), .map (some mb), .int .i64 s.thr, .int .i64 s.clk] 54)], [(mc, mo encV ctV s.m s.c)], [(mb, mo encV encI s.bn s.cb)]] w := hp.st.cast rfl

/-- 'is': there is a book that New made. -/
theorem f23_calls (bb : Nat) (m : Option Nat) : Ctr Try.prog 23 #[.pointer (some ⟨bb, 0, none⟩)] [] (fun w => w.cell? ⟨bb, 0, none⟩ = some (.map m)) (fun v c => v = .bool m.isSome ∧ c = []) := by
  intro w0 hp hro
  have hs := hp.st
  refine calls_W (n := 12) Try.func23 rfl Try.ntmps23 (by simp) ?_
  refine W_seq ?_
  -- region 0
  refine W_region (by decide +kernel) ?_
  refine sq_r r_assign rfl ?_
  refine sq_z ?_
  refine W_seq ?_
  -- region 1
  refine W_region (by decide +kernel) ?_
  refine sq_r r_move rfl ?_
  refine sq_r (r_nenil Try.underlying33 rfl rfl) rfl ?_
  refine sq_r r_move rfl ?_
  refine sq_r r_move rfl ?_ /- GUARD 2 True -/
  refine sq_r (r_nilCheck rfl) rfl ?_ /- GUARD 2 True -/
  refine sq_r (r_field rfl fa54_0) rfl ?_ /- GUARD 2 True -/
  refine sq_r (r_load1 rfl ty51 hro) rfl ?_ /- GUARD 2 True -/
  refine sq_r (r_neMap Try.underlying51 rfl rfl) rfl ?_ /- GUARD 2 True -/
  refine sq_r (r_pick rfl) rfl ?_
  refine sq_r r_assign rfl ?_
  refine sq_z ?_
  refine W_ret ?_
  refine ret1 rfl (by decide) rfl (fin hs ⟨?_, rfl⟩ (by simp))
  cases m <;> rfl
/-- .. no book at all. -/
theorem f23_nil : Ctr Try.prog 23 #[.pointer none] [] (fun _ => True) (fun v c => v = .bool false ∧ c = []) := by
  intro w0 hp hro
  have hs := hp.st
  refine calls_W (n := 12) Try.func23 rfl Try.ntmps23 (by simp) ?_
  refine W_seq ?_
  refine W_region (by decide +kernel) ?_
  refine sq_r r_assign rfl ?_
  refine sq_z ?_
  refine W_seq ?_
  refine W_region (by decide +kernel) ?_
  refine sq_r r_move rfl ?_
  refine sq_r (r_nenil Try.underlying33 rfl rfl) rfl ?_
  refine sq_r r_move rfl ?_
  refine sq_n rfl ?_
  refine sq_n rfl ?_
  refine sq_n rfl ?_
  refine sq_n rfl ?_
  refine sq_n rfl ?_
  refine sq_r (r_pick rfl) rfl ?_
  refine sq_r r_assign rfl ?_
  refine sq_z ?_
  refine W_ret ?_
  exact ret1 rfl (by decide) rfl (fin hs ⟨rfl, rfl⟩ (by simp))

/-- New: P14.2. -/
theorem f12_calls (t : Int) : Ctr Try.prog 12 #[.int .i64 t] [] (fun _ => True) (fun v c => ∃ bb mc mb, v = .pointer (some ⟨bb, 0, none⟩) ∧ c.Perm (bookC bb mc mb ⟨[], 0, [], 0, max t 1, 0⟩)) := by
  intro w0 hp hro
  have hs := hp.st
  refine calls_W (n := 9) Try.func12 rfl Try.ntmps12 (by simp) ?_
  refine W_seq ?_
  -- region 0
  refine W_region (by decide +kernel) ?_
  refine sq_r r_assign rfl ?_
  refine sq_z ?_
  refine W_seq ?_
  -- region 1
  refine W_region (by decide +kernel) ?_
  refine sq_e rfl (o_makeMap hs ?_); intro b0 w hs
  refine sq_e rfl (o_makeMap hs ?_); intro b1 w hs
  refine sq_r r_move rfl ?_
  refine sq_r (r_max rfl rfl) rfl ?_
  refine sq_r (r_build (v := .agg #[.map (some b0), .map (some b1), .int .i64 (max t 1), .int .i64 0]) (by kernel_rfl)) rfl ?_
  refine sq_e rfl (o_box (cs := [.map (some b0), .map (some b1), .int .i64 (max t 1), .int .i64 0]) hs rfl ?_); intro b2 w hs
  refine sq_r r_assign rfl ?_
  refine sq_z ?_
  refine W_ret ?_
  refine ret1 rfl (by decide) rfl (fin hs ⟨b2, b0, b1, rfl, ?_⟩ (List.Sublist.refl _))
  exact (List.perm_append_comm (l₁ := [(b0, Obj.map #[] 0), (b1, Obj.map #[] 0)]) (l₂ := [(b2, cb [.map (some b0), .map (some b1), .int .i64 (max t 1), .int .i64 0] 54)]))

/-- Count: P14.4. -/
def cnt (s : BS) (k : Ky) : Int := ((mget s.m k).getD (0, 0)).1
theorem f16_calls (bb mc mb : Nat) (s : BS) (k : Ky) : Ctr Try.prog 16 #[.pointer (some ⟨bb, 0, none⟩), .agg (kc k).toArray] (bookC bb mc mb s) (fun _ => True) (fun v c => v = .int .i64 (cnt s k) ∧ c = bookC bb mc mb s) := by
  intro w0 hp hro
  have hs := book_st hp
  refine calls_W (n := 15) Try.func16 rfl Try.ntmps16 (by simp) ?_
  refine W_seq ?_
  -- region 0
  refine W_region (by decide +kernel) ?_
  refine sq_e rfl (o_box (cs := kc k) hs rfl ?_); intro b3 w hs
  refine sq_r r_assign rfl ?_
  refine sq_z ?_
  refine W_seq ?_
  refine W_seq ?_
  -- region 1
  refine W_region (by decide +kernel) ?_
  refine sq_r r_move rfl ?_
  refine sq_e rfl (o_call0 cb23 rfl rfl (f23_calls bb (some mc)) hs (At.one (hs.own (i := 0) rfl) rfl) ?_)
  rintro v c w ⟨rfl, rfl⟩ hs
  refine sq_r (r_not rfl) rfl ?_
  refine sq_z ?_
  -- IF ('tmp', 7)
  refine W_cond rfl rfl (fun hc => ?_) (fun hc => ?_)
  · cases hc
  · refine W_skip ?_
    refine W_seq ?_
    -- region 3 DRAWS
    refine W_drawM hs Try.mixed [true, true, true, true] [0, 1, 3, 7, 0, 31, 63, 127] [] [0, 1, 2, 3, 4, 5, 6, 7] (by decide +kernel) ?_
    intro w hs; have hR := hs.mask [true, true, true, true]
    refine dq_r hR rfl rfl rfl (fun _ w _ _ hR => r_move) ?_
    refine dq_r hR rfl rfl rfl (fun _ w _ _ hR => r_nilCheck rfl) ?_
    refine dq_r hR rfl rfl rfl (fun _ w _ _ hR => r_field rfl fa54_0) ?_
    refine dq_r hR rfl rfl rfl (fun _ w _ _ hR => r_load1 rfl ty51 (At.one (hR.own (i := 0) rfl) rfl)) ?_
    refine dq_r hR rfl rfl rfl (fun _ w _ _ hR => r_loadN rfl ty28 (kc_len k) (At.of_block (hR.own (i := 3) rfl) (kc_all k))) ?_
    refine dq_r hR rfl rfl rfl (fun _ w _ _ hR => r_lookup KT28 Try.underlying51 (zero58 w) rfl rfl (hR.own (i := 1) rfl)) ?_
    refine dq_r hR rfl rfl rfl (fun _ w _ _ hR => r_fieldV (cs := [.int .i64 (cnt s k), .int .i64 ((mget s.m k).getD (0, 0)).2]) rfl fd58_0 ty3 rfl) ?_
    refine dq_r hR rfl rfl rfl (fun _ w _ _ hR => r_assign) ?_
    refine dq_z hR ?_
    refine W_ret ?_
    exact ret1 rfl (by decide) rfl (fin hs ⟨rfl, rfl⟩ (by simp [bookC]))

end Go.Proofs.Ytcdlbgmmogccaaa
