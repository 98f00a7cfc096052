/-
  Layer 14, the plain law: the program's book and the document's answer alike behind the same calls. No condition.
-/
import Derived.Test.YtcdlbgmmogccaaaRefHit
namespace Go.Proofs.Ytcdlbgmmogccaaa
open Go.Eng

abbrev En := Ky × (Int × Int)
def rowE (e : En) : Ky × Int := (e.1, e.2.1)
/-- The entries of the program's map, those that have been there longest first, are the document's rows. -/
structure Rel (s : BS) (r : RS) (es : List En) : Prop where
  wf : Mwf s.m s.c
  wb : Mwf s.bn s.cb
  thr : s.thr = r.thr
  rows : r.rows = es.map rowE
  srt : (es.map fun e => e.2.2).Pairwise (· < ·)
  old : ∀ e ∈ es, e.2.2 ≤ s.clk
  keys : (es.map fun e => e.1).Nodup
  get : ∀ k ct, mget s.m k = some ct ↔ (k, ct) ∈ es
  len : s.m.length = es.length
  ban : ∀ k, isBan s k = decide (k ∈ r.out)

theorem nodup_at {es : List En} (h : (es.map fun e => e.1).Nodup) {i j : Nat} {x y : En} (hi : es[i]? = some x) (hj : es[j]? = some y) (he : x.1 = y.1) : i = j := by
  have h1 : (es.map fun e => e.1)[i]? = some x.1 := by rw [List.getElem?_map, hi]; rfl
  have h2 : (es.map fun e => e.1)[j]? = some x.1 := by rw [List.getElem?_map, hj, he]; rfl
  obtain ⟨l1, e1⟩ := List.getElem?_eq_some_iff.1 h1
  obtain ⟨l2, e2⟩ := List.getElem?_eq_some_iff.1 h2
  exact (List.getElem_inj h).1 (e1.trans e2.symm)
theorem mem_set_iff {es : List En} (h : (es.map fun e => e.1).Nodup) {i : Nat} {x x' y : En} (hi : es[i]? = some x) : y ∈ es.set i x' ↔ y = x' ∨ (y ∈ es ∧ y.1 ≠ x.1) := by
  have hil := (List.getElem?_eq_some_iff.1 hi).1
  constructor
  · intro hy
    obtain ⟨j, hj⟩ := List.mem_iff_getElem?.1 hy
    by_cases hji : i = j
    · subst hji
      rw [List.getElem?_set_self hil] at hj
      cases hj
      exact .inl rfl
    · rw [List.getElem?_set_ne hji] at hj
      exact .inr ⟨List.mem_of_getElem? hj, fun e => hji (nodup_at h hi hj e.symm)⟩
  · rintro (rfl | ⟨hy, hne⟩)
    · exact List.mem_iff_getElem?.2 ⟨i, by rw [List.getElem?_set_self hil]⟩
    · obtain ⟨j, hj⟩ := List.mem_iff_getElem?.1 hy
      have hji : i ≠ j := fun e => by subst e; rw [hi] at hj; cases hj; exact hne rfl
      exact List.mem_iff_getElem?.2 ⟨j, by rw [List.getElem?_set_ne hji]; exact hj⟩
theorem mem_erase_iff {es : List En} (h : (es.map fun e => e.1).Nodup) {i : Nat} {x y : En} (hi : es[i]? = some x) : y ∈ es.eraseIdx i ↔ y ∈ es ∧ y.1 ≠ x.1 := by
  rw [List.mem_eraseIdx_iff_getElem?]
  constructor
  · rintro ⟨j, hji, hj⟩
    exact ⟨List.mem_of_getElem? hj, fun e => hji (nodup_at h hj hi e)⟩
  · rintro ⟨hy, hne⟩
    obtain ⟨j, hj⟩ := List.mem_iff_getElem?.1 hy
    exact ⟨j, fun e => by subst e; rw [hi] at hj; cases hj; exact hne rfl, hj⟩
theorem set_same {α : Type} {l : List α} {i : Nat} {x : α} (h : l[i]? = some x) : l.set i x = l := by
  apply List.ext_getElem?
  intro j
  by_cases hij : i = j
  · subst hij
    rw [List.getElem?_set_self (List.getElem?_eq_some_iff.1 h).1, h]
  · rw [List.getElem?_set_ne hij]
theorem srt_at {es : List En} (h : (es.map fun e => e.2.2).Pairwise (· < ·)) {i j : Nat} {x y : En} (hi : es[i]? = some x) (hj : es[j]? = some y) (hij : i < j) : x.2.2 < y.2.2 := by
  rw [List.pairwise_iff_getElem] at h
  obtain ⟨l1, e1⟩ := List.getElem?_eq_some_iff.1 hi
  obtain ⟨l2, e2⟩ := List.getElem?_eq_some_iff.1 hj
  have := h i j (by simpa using l1) (by simpa using l2) hij
  simpa [e1, e2] using this

section
variable {s : BS} {r : RS} {es : List En}
theorem Rel.row (h : Rel s r es) {i : Nat} {k : Ky} {n : Int} (hi : r.rows[i]? = some (k, n)) : ∃ t, es[i]? = some (k, (n, t)) := by
  rw [h.rows, List.getElem?_map] at hi
  obtain ⟨e, he, hr⟩ := Option.map_eq_some_iff.1 hi
  obtain ⟨k', n', t⟩ := e
  simp only [rowE, Prod.mk.injEq] at hr
  obtain ⟨rfl, rfl⟩ := hr
  exact ⟨t, he⟩
theorem Rel.at (h : Rel s r es) {i : Nat} {e : En} (hi : es[i]? = some e) : r.rows[i]? = some (e.1, e.2.1) := by
  rw [h.rows, List.getElem?_map, hi]; rfl
theorem Rel.none_iff (h : Rel s r es) (k : Ky) : mget s.m k = none ↔ ∀ x ∈ r.rows, x.1 ≠ k := by
  constructor
  · intro hn x hx e
    obtain ⟨i, hi⟩ := List.mem_iff_getElem?.1 hx
    obtain ⟨t, ht⟩ := h.row (k := x.1) (n := x.2) hi
    have := (h.get x.1 (x.2, t)).2 (List.mem_of_getElem? ht)
    rw [e, hn] at this
    cases this
  · intro hall
    cases hg : mget s.m k with
    | none => rfl
    | some ct =>
      obtain ⟨i, hi⟩ := List.mem_iff_getElem?.1 ((h.get k ct).1 hg)
      exact absurd rfl (hall _ (List.mem_of_getElem? (h.at hi)))
theorem Rel.lens (h : Rel s r es) : s.m.length = r.rows.length := by rw [h.len, h.rows, List.length_map]
theorem Rel.cnt (h : Rel s r es) (k : Ky) : Proofs.Ytcdlbgmmogccaaa.cnt s k = rcnt r.rows k := by
  cases hg : mget s.m k with
  | none =>
    rw [rcnt_no ((h.none_iff k).1 hg), Proofs.Ytcdlbgmmogccaaa.cnt, hg]
    rfl
  | some ct =>
    obtain ⟨i, hi⟩ := List.mem_iff_getElem?.1 ((h.get k ct).1 hg)
    rw [rcnt_at (h.at hi) rfl (fun j r' hj hr' e => ?_), Proofs.Ytcdlbgmmogccaaa.cnt, hg]
    · rfl
    · obtain ⟨t, ht⟩ := h.row (k := r'.1) (n := r'.2) hr'
      have := nodup_at h.keys ht hi e
      omega

/-- An entry turns its count. -/
theorem Rel.set (h : Rel s r es) {i : Nat} {k : Ky} {n t n' : Int} (hi : es[i]? = some (k, (n, t))) :
    Rel { s with m := mput s.m s.c k (n', t), c := mclk s.m s.c k } { r with rows := r.rows.set i (k, n') } (es.set i (k, (n', t))) := by
  have hil := (List.getElem?_eq_some_iff.1 hi).1
  have hget := (h.get k (n, t)).2 (List.mem_of_getElem? hi)
  have hm1 : ((es.set i (k, (n', t))).map fun e => e.2.2) = es.map fun e => e.2.2 := by
    rw [List.map_set]
    exact set_same (by rw [List.getElem?_map, hi]; rfl)
  have hm2 : ((es.set i (k, (n', t))).map fun e => e.1) = es.map fun e => e.1 := by
    rw [List.map_set]
    exact set_same (by rw [List.getElem?_map, hi]; rfl)
  refine ⟨h.wf.put _ _, h.wb, h.thr, ?_, by rw [hm1]; exact h.srt, fun e he => ?_, by rw [hm2]; exact h.keys, fun k' ct => ?_, ?_, h.ban⟩
  · show r.rows.set i (k, n') = _
    rw [List.map_set, h.rows]
    rfl
  · rcases (mem_set_iff h.keys hi).1 he with rfl | ⟨he, _⟩
    · exact h.old (k, (n, t)) (List.mem_of_getElem? hi)
    · exact h.old e he
  · show mget (mput s.m s.c k (n', t)) k' = some ct ↔ _
    rw [mem_set_iff h.keys hi]
    by_cases hk : k' = k
    · subst hk
      rw [mget_mput_self h.wf.keys]
      constructor
      · intro e; cases e; exact .inl rfl
      · rintro (e | ⟨_, e⟩)
        · cases e; rfl
        · exact absurd rfl e
    · rw [mget_mput_ne hk, h.get]
      constructor
      · intro e; exact .inr ⟨e, hk⟩
      · rintro (e | ⟨e, _⟩)
        · cases e; exact absurd rfl hk
        · exact e
  · show (mput s.m s.c k (n', t)).length = _
    rw [len_mput, hget, List.length_set]
    exact h.len
/-- An entry goes. -/
theorem Rel.del (h : Rel s r es) {i : Nat} {e : En} (hi : es[i]? = some e) :
    Rel { s with m := mdel s.m e.1 } { r with rows := r.rows.eraseIdx i } (es.eraseIdx i) := by
  have hil := (List.getElem?_eq_some_iff.1 hi).1
  have hget := (h.get e.1 e.2).2 (List.mem_of_getElem? hi)
  have hsub : ∀ {β : Type} (f : En → β), ((es.eraseIdx i).map f).Sublist (es.map f) := fun f => (List.eraseIdx_sublist es i).map f
  refine ⟨h.wf.del _, h.wb, h.thr, ?_, h.srt.sublist (hsub _), fun e' he => h.old e' ((List.eraseIdx_sublist es i).subset he), h.keys.sublist (hsub _), fun k' ct => ?_, ?_, h.ban⟩
  · show r.rows.eraseIdx i = _
    rw [h.rows, map_erase]
  · show mget (mdel s.m e.1) k' = some ct ↔ _
    rw [mem_erase_iff h.keys hi]
    by_cases hk : k' = e.1
    · subst hk
      rw [mget_mdel_self]
      constructor
      · intro e; cases e
      · rintro ⟨_, e⟩; exact absurd rfl e
    · rw [mget_mdel_ne hk, h.get]
      exact ⟨fun e => ⟨e, hk⟩, fun e => e.1⟩
  · show (mdel s.m e.1).length = _
    obtain ⟨n, hn⟩ := mget_mem hget
    obtain ⟨j, hj⟩ := List.mem_iff_getElem?.1 hn
    rw [← erase_filter h.wf.keys hj rfl, List.length_eraseIdx, List.length_eraseIdx, if_pos hil, if_pos (List.getElem?_eq_some_iff.1 hj).1, h.len]
/-- A new entry, behind all others. -/
theorem Rel.add (h : Rel s r es) {k : Ky} {n' : Int} (hk : mget s.m k = none) :
    Rel { s with m := mput s.m s.c k (n', s.clk + 1), c := mclk s.m s.c k, clk := s.clk + 1 } { r with rows := r.rows ++ [(k, n')] } (es ++ [(k, (n', s.clk + 1))]) := by
  have hno : ∀ e ∈ es, e.1 ≠ k := fun e he hek => by
    have := (h.get e.1 e.2).2 he
    rw [hek, hk] at this
    cases this
  refine ⟨h.wf.put _ _, h.wb, h.thr, ?_, ?_, fun e he => ?_, ?_, fun k' ct => ?_, ?_, h.ban⟩
  · show r.rows ++ [(k, n')] = _
    rw [h.rows, List.map_append]
    rfl
  · rw [List.map_append, List.pairwise_append]
    refine ⟨h.srt, by simp, fun a ha b hb => ?_⟩
    obtain ⟨e, he, rfl⟩ := List.mem_map.1 ha
    simp at hb
    subst hb
    have := h.old e he
    omega
  · show e.2.2 ≤ s.clk + 1
    rcases List.mem_append.1 he with he | he
    · have := h.old e he; omega
    · simp at he; subst he; exact Int.le_refl _
  · rw [List.map_append, List.nodup_append]
    refine ⟨h.keys, by simp, fun a ha b hb e => ?_⟩
    obtain ⟨e', he, rfl⟩ := List.mem_map.1 ha
    simp at hb
    exact hno e' he (by rw [e, hb])
  · show mget (mput s.m s.c k (n', s.clk + 1)) k' = some ct ↔ _
    rw [List.mem_append, List.mem_singleton]
    by_cases hkk : k' = k
    · subst hkk
      rw [mget_mput_self h.wf.keys]
      constructor
      · intro e; cases e; exact .inr rfl
      · rintro (e | e)
        · exact absurd rfl (hno _ e)
        · cases e; rfl
    · rw [mget_mput_ne hkk, h.get]
      constructor
      · exact .inl
      · rintro (e | e)
        · exact e
        · cases e; exact absurd rfl hkk
  · show (mput s.m s.c k (n', s.clk + 1)).length = _
    rw [len_mput, hk, List.length_append, ← h.len]
    rfl

/-- The one that goes is the same. -/
theorem Rel.least (h : Rel s r es) {r0 : Ky × (Int × Int) × Nat} (hr0 : r0 ∈ s.m) (hle : ∀ r' ∈ s.m, ¬ ahead r'.2.1 r0.2.1) {l : Nat} {x : Ky × Int} (hl : r.rows[l]? = some x)
    (hmin : ∀ (j : Nat) (r' : Ky × Int), r.rows[j]? = some r' → x.2 ≤ r'.2 ∧ (j < l → x.2 < r'.2)) : ∃ e, es[l]? = some e ∧ e.1 = r0.1 := by
  obtain ⟨t, ht⟩ := h.row (k := x.1) (n := x.2) hl
  refine ⟨_, ht, ?_⟩
  have h0 := (h.get r0.1 r0.2.1).1 ((mget_mem_iff h.wf.keys).2 ⟨r0.2.2, hr0⟩)
  obtain ⟨j, hj⟩ := List.mem_iff_getElem?.1 h0
  have h1 := hmin j _ (h.at hj)
  obtain ⟨n, hn⟩ := (mget_mem_iff h.wf.keys).1 ((h.get x.1 (x.2, t)).2 (List.mem_of_getElem? ht))
  have h2 := hle _ hn
  unfold ahead at h2
  simp only at h1 h2
  have h3 : ¬ j < l := fun hjl => by have := h1.2 hjl; omega
  have h4 : ¬ l < j := fun hlj => by
    have := srt_at h.srt ht hj hlj
    simp only at this
    omega
  obtain rfl : j = l := by omega
  rw [ht] at hj
  exact congrArg Prod.fst (Option.some.inj hj)

theorem Rel.ext {s' : BS} {r' : RS} {es' : List En} (h : Rel s r es) (e1 : s = s') (e2 : r = r') (e3 : es = es') : Rel s' r' es' := by subst e1 e2 e3; exact h

/-- A meeting. -/
theorem Rel.hit (h : Rel s r es) {k : Ky} {v v' : Bool} {s' : BS} {r' : RS} (hh : HitR s k v s') (hr : RHitR r k v' r') : v = v' ∧ ∃ es', Rel s' r' es' := by
  have hb := h.ban k
  rcases hh with ⟨h1, rfl, rfl⟩ | ⟨h1, m1, ct, clk, hm, rfl, rfl⟩
  · rcases hr with ⟨_, rfl, rfl⟩ | ⟨h2, _⟩
    · exact ⟨rfl, es, h⟩
    · rw [h1] at hb; exact absurd (of_decide_eq_true hb.symm) h2
  · rcases hr with ⟨h2, _⟩ | ⟨h2, rows1, i, n, hrm, rfl, rfl⟩
    · rw [h1] at hb; exact absurd h2 (of_decide_eq_false hb.symm)
    rcases hm with ⟨hg, rfl, rfl⟩ | ⟨hg, hroom, rfl, rfl⟩
    · rcases hrm with ⟨rfl, _, hi⟩ | ⟨hno, _⟩
      · obtain ⟨t, ht⟩ := h.row hi
        have := (h.get k (n, t)).2 (List.mem_of_getElem? ht)
        rw [hg] at this
        cases this
        rw [← h.thr]
        exact ⟨rfl, _, (h.set (n' := if s.thr ≤ n + 1 then 0 else n + 1) ht).ext rfl (by simp only [rhitS, h.thr]) rfl⟩
      · rw [(h.none_iff k).2 hno] at hg; cases hg
    · rcases hrm with ⟨rfl, _, hi⟩ | ⟨hno, rows', hrr, rfl, rfl, rfl⟩
      · have := (h.none_iff k).1 hg _ (List.mem_of_getElem? hi)
        exact absurd rfl this
      · have hmid : ∃ es1, Rel { s with m := m1 } { r with rows := rows' } es1 := by
          rcases hroom with ⟨hl, rfl⟩ | ⟨hl, r0, hr0, hle, rfl⟩
          · rcases hrr with ⟨_, rfl⟩ | ⟨hl2, _⟩
            · exact ⟨es, h⟩
            · rw [← h.lens] at hl2; omega
          · rcases hrr with ⟨hl2, _⟩ | ⟨_, l, x, hlx, hmin, rfl⟩
            · rw [← h.lens] at hl2; omega
            · obtain ⟨e, he, hek⟩ := h.least hr0 hle hlx hmin
              exact ⟨_, hek ▸ h.del he⟩
        obtain ⟨es1, h3⟩ := hmid
        have hg1 : mget m1 k = none := by
          rcases hroom with ⟨_, rfl⟩ | ⟨_, r0, _, _, rfl⟩
          · exact hg
          · rw [mget_eq_none] at hg ⊢
            exact fun x hx => hg x (List.mem_filter.1 hx).1
        rw [← h.thr]
        refine ⟨rfl, _, (h3.add (n' := if s.thr ≤ (0 : Int) + 1 then 0 else (0 : Int) + 1) (k := k) hg1).ext rfl ?_ rfl⟩
        simp only [rhitS, h.thr]
        congr 1
        simp

/-- A ban. -/
theorem Rel.banned (h : Rel s r es) {k : Ky} {z : Int} (hz : Fnd r.rows k z) : ∃ es', Rel (banS s k) (rBan r k z) es' := by
  have h1 : ∃ es', Rel { s with m := mdel s.m k } { r with rows := rGo r.rows z } es' := by
    rcases hz with ⟨i, x, rfl, hi, hxk, _⟩ | ⟨rfl, hno⟩
    · obtain ⟨t, ht⟩ := h.row (k := x.1) (n := x.2) hi
      refine ⟨_, (h.del ht).ext (by rw [hxk]) ?_ rfl⟩
      simp [rGo]
    · have hg := (h.none_iff k).2 hno
      refine ⟨es, h.ext ?_ ?_ rfl⟩
      · rw [mdel_none (mget_eq_none.1 hg)]
      · simp [rGo]
  obtain ⟨es', h2⟩ := h1
  refine ⟨es', h2.wf, h.wb.put _ _, h2.thr, h2.rows, h2.srt, h2.old, h2.keys, h2.get, h2.len, fun k' => ?_⟩
  have hb := h.ban k'
  unfold isBan at hb ⊢
  show decide (0 < (mget (mput s.bn s.cb k 1) k').getD 0) = decide (k' ∈ (rBan r k z).out)
  by_cases hk : k' = k
  · subst hk
    rw [mget_mput_self h.wb.keys]
    have : k' ∈ (rBan r k' z).out := by
      unfold rBan
      simp only
      split
      · assumption
      · simp
    simp [this]
  · rw [mget_mput_ne hk, hb, decide_eq_decide]
    unfold rBan
    simp only
    split
    · rfl
    · simp [hk]
end
theorem Rel.new (t : Int) : Rel (new0 t) ⟨[], [], t⟩ [] :=
  ⟨Mwf.nil 0, Mwf.nil 0, rfl, rfl, by simp, by simp, by simp, by simp [new0, mget], rfl, by simp [isBan, new0, mget]⟩

end Go.Proofs.Ytcdlbgmmogccaaa
