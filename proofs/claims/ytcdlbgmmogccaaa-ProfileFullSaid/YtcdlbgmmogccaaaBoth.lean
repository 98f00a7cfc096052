/-
  Layer 14: both books behind j calls: alike, and small. No condition.
-/
import Derived.Test.YtcdlbgmmogccaaaPlain
namespace Go.Proofs.Ytcdlbgmmogccaaa
open Go.Eng

theorem mdel_len {m : List (Ky × (Int × Int) × Nat)} {k : Ky} : (mdel m k).length ≤ m.length := List.length_filter_le _ _
theorem Sm.put {i : Nat} {s : BS} {m1 : List (Ky × (Int × Int) × Nat)} {k : Ky} {n t clk : Int} (h : Sm i s) (hm : Mwf m1 s.c) (hl : m1.length ≤ i) (hc : ∀ r ∈ m1, 0 ≤ r.2.1.1 ∧ r.2.1.1 ≤ i) (hn : 0 ≤ n ∧ n ≤ i) (hk : s.clk ≤ clk ∧ clk ≤ s.clk + 1) :
    Sm (i + 1) { s with m := mput m1 s.c k (if s.thr ≤ n + 1 then 0 else n + 1, t), c := mclk m1 s.c k, clk := clk } := by
  refine ⟨hm.put _ _, ?_, ?_, fun r hr => ?_⟩
  · show (mput _ _ _ _).length ≤ _
    rw [len_mput]
    split <;> omega
  · show 0 ≤ clk ∧ clk ≤ _
    have := h.clk
    omega
  · rcases mem_mput hr with ⟨hr, _⟩ | ⟨_, hr⟩
    · have := hc r hr
      omega
    · rw [hr]
      split <;> simp only <;> omega
theorem Sm.hitR {i : Nat} {s s' : BS} {k : Ky} {v : Bool} (h : Sm i s) (hh : HitR s k v s') : Sm (i + 1) s' := by
  rcases hh with ⟨_, _, rfl⟩ | ⟨_, m1, ct, clk, hm, _, rfl⟩
  · exact h.mono (by omega)
  · rcases hm with ⟨hg, rfl, rfl⟩ | ⟨_, hroom, rfl, rfl⟩
    · obtain ⟨n, hn⟩ := mget_mem hg
      exact h.put h.wf h.len h.cts (h.cts _ hn) (by omega)
    · have hwf := room_wf h.wf hroom
      rcases hroom with ⟨_, rfl⟩ | ⟨_, r0, _, _, rfl⟩
      · exact h.put h.wf h.len h.cts (by simp only; omega) (by omega)
      · refine h.put hwf ?_ (fun r hr => h.cts r (List.mem_filter.1 hr).1) (by simp only; omega) (by omega)
        have := mdel_len (m := s.m) (k := r0.1)
        have := h.len
        omega
theorem Sm.banS {i : Nat} {s : BS} (h : Sm i s) (k : Ky) : Sm (i + 1) (Proofs.Ytcdlbgmmogccaaa.banS s k) := by
  refine ⟨h.wf.del k, ?_, ?_, fun r hr => ?_⟩
  · show (mdel s.m k).length ≤ _
    have := mdel_len (m := s.m) (k := k)
    have := h.len
    omega
  · have := h.clk
    show 0 ≤ s.clk ∧ s.clk ≤ _
    omega
  · have := h.cts r (List.mem_filter.1 hr).1
    omega

def Both (j : Nat) (s : BS) (r : RS) : Prop := ∃ es, Rel s r es ∧ Sm j s ∧ r.out.length ≤ j
section
variable {j : Nat} {s : BS} {r : RS}
theorem Both.new (t : Int) : Both 0 (new0 t) ⟨[], [], t⟩ := ⟨[], Rel.new t, Sm.new t, Nat.le_refl _⟩
theorem Both.hit (h : Both j s r) {k : Ky} {v v' : Bool} {s' : BS} {r' : RS} (hh : HitR s k v s') (hr : RHitR r k v' r') : v = v' ∧ Both (j + 1) s' r' := by
  obtain ⟨es, h1, h2, h3⟩ := h
  obtain ⟨e, es', h4⟩ := h1.hit hh hr
  refine ⟨e, es', h4, h2.hitR hh, ?_⟩
  rcases hr with ⟨_, _, rfl⟩ | ⟨_, _, _, _, _, _, rfl⟩
  · omega
  · show r.out.length ≤ _
    omega
theorem Both.ban (h : Both j s r) {k : Ky} {z : Int} (hz : Fnd r.rows k z) : Both (j + 1) (banS s k) (rBan r k z) := by
  obtain ⟨es, h1, h2, h3⟩ := h
  obtain ⟨es', h4⟩ := h1.banned hz
  refine ⟨es', h4, h2.banS k, ?_⟩
  unfold rBan
  simp only
  split
  · omega
  · simp; omega
theorem Both.wf (h : Both j s r) : Mwf s.m s.c := by obtain ⟨_, h, _⟩ := h; exact h.wf
theorem Both.wb (h : Both j s r) : Mwf s.bn s.cb := by obtain ⟨_, h, _⟩ := h; exact h.wb
theorem Both.clk (h : Both j s r) (hj : j ≤ 2900) : 0 ≤ s.clk ∧ s.clk < 4611686018427387904 := by obtain ⟨_, _, h, _⟩ := h; exact h.hclk (by omega)
theorem Both.cts (h : Both j s r) (hj : j ≤ 2900) : ∀ x ∈ s.m, 0 ≤ x.2.1.1 ∧ x.2.1.1 < 4611686018427387904 := by obtain ⟨_, _, h, _⟩ := h; exact h.hct (by omega)
theorem Both.rows (h : Both j s r) (hj : j ≤ 2900) : r.rows.length ≤ 3000 := by
  obtain ⟨_, h1, h, _⟩ := h
  have := h.len
  have := h1.lens
  omega
theorem Both.out (h : Both j s r) (hj : j ≤ 2900) : r.out.length ≤ 3000 := by obtain ⟨_, _, _, h⟩ := h; omega
theorem Both.rcts (h : Both j s r) (hj : j ≤ 2900) : ∀ x ∈ r.rows, 0 ≤ x.2 ∧ x.2 < 4611686018427387904 := by
  obtain ⟨es, h1, h2, _⟩ := h
  intro x hx
  obtain ⟨i, hi⟩ := List.mem_iff_getElem?.1 hx
  obtain ⟨t, ht⟩ := h1.row (k := x.1) (n := x.2) hi
  obtain ⟨n, hn⟩ := mget_mem ((h1.get _ _).2 (List.mem_of_getElem? ht))
  have := h2.cts _ hn
  simp only at this
  omega
theorem Both.cnt (h : Both j s r) (k : Ky) : Proofs.Ytcdlbgmmogccaaa.cnt s k = rcnt r.rows k := by obtain ⟨_, h, _⟩ := h; exact h.cnt k
theorem Both.isBan (h : Both j s r) (k : Ky) : Proofs.Ytcdlbgmmogccaaa.isBan s k = decide (k ∈ r.out) := by obtain ⟨_, h, _⟩ := h; exact h.ban k
theorem Both.lens (h : Both j s r) : s.m.length = r.rows.length := by obtain ⟨_, h, _⟩ := h; exact h.lens
end

end Go.Proofs.Ytcdlbgmmogccaaa
