/-
  Layer 17, the plain law: the program's book of links and the document's are alike behind the same calls. No condition.
-/
import Derived.Test.YtfojeengapebmaaRadd
import Derived.Test.YtfojeengapebmaaMaps
namespace Go.Proofs.Ytfojeengapebmaa
open Go.Eng

abbrev Rm := List (V5 × Int × Nat)
/-- Registers' number, where it is kept. -/
def num (r : Rm) (n : Int) : List Sc → Option Int
  | [] => some n
  | s :: l => match mget r (ck n s) with
    | some v => num r v l
    | none => none
def Ext (r r' : Rm) : Prop := ∀ k v, mget r k = some v → mget r' k = some v
/-- Each number stands for one register behind others. -/
structure Nums (r : Mp) : Prop where
  wf : Mwf r.1 r.2
  pos : ∀ k v, mget r.1 k = some v → 1 ≤ v ∧ v ≤ r.1.length
  inj : ∀ k k' v, mget r.1 k = some v → mget r.1 k' = some v → k = k'
theorem num_ext {r r' : Rm} (h : Ext r r') : ∀ (l : List Sc) (n z : Int), num r n l = some z → num r' n l = some z
  | [], _, _, e => e
  | s :: l, n, z, e => by
    unfold num at e ⊢
    cases hg : mget r (ck n s) with
    | none => rw [hg] at e; cases e
    | some v =>
      rw [hg] at e
      rw [h _ _ hg]
      exact num_ext h l v z e
theorem num_snoc (r : Rm) : ∀ (l : List Sc) (n : Int) (s : Sc), num r n (l ++ [s]) = (num r n l).bind fun v => mget r (ck v s)
  | [], n, s => by
    simp only [List.nil_append, num, Option.bind_some]
    cases mget r (ck n s) <;> rfl
  | x :: l, n, s => by
    simp only [List.cons_append, num]
    cases mget r (ck n x) with
    | none => rfl
    | some v => exact num_snoc r l v s
theorem ck_inj {n m : Int} {s t : Sc} (h : ck n s = ck m t) : n = m ∧ s = t := by
  have h1 := congrArg Vector.toList h
  rw [ck_list, ck_list] at h1
  simp only [List.cons.injEq] at h1
  exact ⟨h1.1, Vector.toList_inj.1 h1.2⟩
theorem num_inj {r : Mp} (h : Nums r) : ∀ (n : Nat) (l l' : List Sc) (z : Int), l.length = n → num r.1 0 l = some z → num r.1 0 l' = some z → l = l'
  | 0, l, l', z, hn, h1, h2 => by
    have e : l = [] := List.length_eq_zero_iff.1 hn
    subst e
    simp only [num, Option.some.injEq] at h1
    subst h1
    rcases List.eq_nil_or_concat l' with rfl | ⟨l2, s, rfl⟩
    · rfl
    · rw [List.concat_eq_append, num_snoc] at h2
      obtain ⟨v, _, hv⟩ := Option.bind_eq_some_iff.1 h2
      have := (h.pos _ _ hv).1
      omega
  | n + 1, l, l', z, hn, h1, h2 => by
    rcases List.eq_nil_or_concat l with rfl | ⟨l1, s1, rfl⟩
    · simp at hn
    rw [List.concat_eq_append] at h1 hn ⊢
    rw [num_snoc] at h1
    obtain ⟨v1, hv1, hg1⟩ := Option.bind_eq_some_iff.1 h1
    rcases List.eq_nil_or_concat l' with rfl | ⟨l2, s2, rfl⟩
    · simp only [num, Option.some.injEq] at h2
      subst h2
      have := (h.pos _ _ hg1).1
      omega
    rw [List.concat_eq_append] at h2 ⊢
    rw [num_snoc] at h2
    obtain ⟨v2, hv2, hg2⟩ := Option.bind_eq_some_iff.1 h2
    obtain ⟨rfl, rfl⟩ := ck_inj (h.inj _ _ _ hg1 hg2)
    rw [num_inj h n l1 l2 v1 (by simpa using hn) hv1 hv2]
theorem lk1_ok {r : Mp} (h : Nums r) (n : Int) (s : Sc) : Nums (lk1 r n s) ∧ Ext r.1 (lk1 r n s).1 ∧ mget (lk1 r n s).1 (ck n s) = some (lkN r n s) := by
  unfold lkN
  by_cases hz : (mget r.1 (ck n s)).getD 0 = 0
  · have hnone : mget r.1 (ck n s) = none := by
      cases hg : mget r.1 (ck n s) with
      | none => rfl
      | some v => rw [hg] at hz; have := (h.pos _ _ hg).1; simp at hz; omega
    have e : lk1 r n s = (mput r.1 r.2 (ck n s) ((r.1.length : Int) + 1), mclk r.1 r.2 (ck n s)) := by simp [lk1, hz]
    have hl : (mput r.1 r.2 (ck n s) ((r.1.length : Int) + 1)).length = r.1.length + 1 := by rw [len_mput, hnone]; rfl
    have hself : mget (mput r.1 r.2 (ck n s) ((r.1.length : Int) + 1)) (ck n s) = some ((r.1.length : Int) + 1) := mget_mput_self h.wf.keys
    have hget : ∀ k v, mget (mput r.1 r.2 (ck n s) ((r.1.length : Int) + 1)) k = some v → (k = ck n s ∧ v = (r.1.length : Int) + 1) ∨ (k ≠ ck n s ∧ mget r.1 k = some v) := fun k v hv => by
      by_cases hk : k = ck n s
      · subst hk
        rw [hself] at hv
        exact .inl ⟨rfl, (Option.some.inj hv).symm⟩
      · rw [mget_mput_ne hk] at hv
        exact .inr ⟨hk, hv⟩
    rw [e]
    refine ⟨⟨h.wf.put _ _, fun k v hv => ?_, fun k k' v hv hv' => ?_⟩, fun k v hv => ?_, by rw [hself]; rfl⟩
    · rcases hget k v hv with ⟨_, rfl⟩ | ⟨_, hv⟩
      · simp only [hl]; omega
      · have := h.pos k v hv
        simp only [hl]; omega
    · rcases hget k v hv with ⟨rfl, rfl⟩ | ⟨hk, hv1⟩ <;> rcases hget k' _ hv' with ⟨rfl, h2⟩ | ⟨hk', hv2⟩
      · rfl
      · have := (h.pos _ _ hv2).2; omega
      · have := (h.pos _ _ hv1).2; omega
      · exact h.inj k k' v hv1 hv2
    · have hk : k ≠ ck n s := fun e => by rw [e, hnone] at hv; cases hv
      show mget (mput _ _ _ _) k = some v
      rw [mget_mput_ne hk]
      exact hv
  · have e : lk1 r n s = r := by simp [lk1, hz]
    rw [e]
    refine ⟨h, fun k v hv => hv, ?_⟩
    cases hg : mget r.1 (ck n s) with
    | none => rw [hg] at hz; exact absurd rfl hz
    | some v => rfl
theorem lst_ok : ∀ (xs : List Sc) (r : Mp) (n : Int), Nums r → Nums (lst r n xs).2 ∧ Ext r.1 (lst r n xs).2.1 ∧ num (lst r n xs).2.1 n xs = some (lst r n xs).1
  | [], r, n, h => ⟨h, fun _ _ hv => hv, rfl⟩
  | x :: xs, r, n, h => by
    obtain ⟨h1, h2, h3⟩ := lk1_ok h n x
    obtain ⟨h4, h5, h6⟩ := lst_ok xs (lk1 r n x) (lkN r n x) h1
    refine ⟨h4, fun k v hv => h5 k v (h2 k v hv), ?_⟩
    show num (lst (lk1 r n x) (lkN r n x) xs).2.1 n (x :: xs) = _
    unfold num
    rw [h5 _ _ h3]
    exact h6
theorem nkey_inj {u u' : Int} {x x' : Lk} {z z' : Int} (h : nkey u x z = nkey u' x' z') : u = u' ∧ x.fn = x'.fn ∧ x.pc = x'.pc ∧ x.into = x'.into ∧ z = z' := by
  have h1 := congrArg Vector.toList h
  simp only [nkey, Vector.toList, List.cons.injEq, and_true] at h1
  exact h1

/-- The program's book and the document's links. -/
structure RelS (s : B7) (L : List Lk) : Prop where
  eq : s.links = L
  nm : Mwf s.nm.1 s.nm.2
  rg : Nums s.rg
  fwd : ∀ (i : Nat) l, L[i]? = some l → ∃ z, num s.rg.1 0 l.regs = some z ∧ mget s.nm.1 (nkey l.up l z) = some (i : Int)
  bwd : ∀ k v, mget s.nm.1 k = some v → ∃ (i : Nat) (l : Lk) (z : Int), v = i ∧ L[i]? = some l ∧ num s.rg.1 0 l.regs = some z ∧ k = nkey l.up l z
theorem RelS.new : RelS s0 [] :=
  ⟨rfl, Mwf.nil 0, ⟨Mwf.nil 0, by simp [s0, mget], by simp [s0, mget]⟩, by simp, by simp [s0, mget]⟩
theorem RelS.add {s : B7} {L L' : List Lk} {up z' : Int} {x : Lk} (h : RelS s L) (hr : RA L up x L' z') : (add1 s up x).2 = z' ∧ RelS (add1 s up x).1 L' := by
  obtain ⟨h1, h2, h3⟩ := lst_ok x.regs s.rg 0 h.rg
  have same : ∀ {l : Lk} {zl : Int}, num s.rg.1 0 l.regs = some zl → l.regs = x.regs → zl = (lst s.rg 0 x.regs).1 := fun h4 h5 => by
    have := num_ext h2 _ _ _ h4
    rw [h5, h3] at this
    exact (Option.some.inj this).symm
  cases hg : mget s.nm.1 (nkey up x (lst s.rg 0 x.regs).1) with
  | some w =>
    have e : add1 s up x = ({ s with rg := (lst s.rg 0 x.regs).2 }, w) := by unfold add1; rw [hg]
    rw [e]
    obtain ⟨i, l, zl, rfl, hi, hn, hk⟩ := h.bwd _ _ hg
    obtain ⟨e1, e2, e3, e4, e5⟩ := nkey_inj hk
    have hre : l.regs = x.regs := num_inj h1 _ _ _ _ rfl (num_ext h2 _ _ _ (e5 ▸ hn)) h3
    have hl : l = { x with up := up } := lk_ext e1.symm e2.symm e3.symm e4.symm hre
    have hrel : RelS { s with rg := (lst s.rg 0 x.regs).2 } L := by
      refine ⟨h.eq, h.nm, h1, fun j l' hj => ?_, fun k v hv => ?_⟩
      · obtain ⟨z, hz1, hz2⟩ := h.fwd j l' hj
        exact ⟨z, num_ext h2 _ _ _ hz1, hz2⟩
      · obtain ⟨j, l', z, a1, a2, a3, a4⟩ := h.bwd k v hv
        exact ⟨j, l', z, a1, a2, num_ext h2 _ _ _ a3, a4⟩
    rcases hr with ⟨j, hj, rfl, rfl⟩ | ⟨hno, _⟩
    · refine And.intro ?_ hrel
      obtain ⟨z, hz1, hz2⟩ := h.fwd j _ hj
      have hzz := same hz1 rfl
      subst hzz
      have hz2 : mget s.nm.1 (nkey up x (lst s.rg 0 x.regs).1) = some (j : Int) := hz2
      rw [hg] at hz2
      exact Option.some.inj hz2
    · exact absurd hl (hno l (List.mem_of_getElem? hi))
  | none =>
    have e : add1 s up x = ((⟨s.links ++ [{ x with up := up }], (mput s.nm.1 s.nm.2 (nkey up x (lst s.rg 0 x.regs).1) s.links.length, mclk s.nm.1 s.nm.2 (nkey up x (lst s.rg 0 x.regs).1)), (lst s.rg 0 x.regs).2⟩ : B7), (s.links.length : Int)) := by unfold add1; rw [hg]
    rw [e]
    rcases hr with ⟨j, hj, rfl, rfl⟩ | ⟨hno, rfl, rfl⟩
    · obtain ⟨z, hz1, hz2⟩ := h.fwd j _ hj
      have hzz := same hz1 rfl
      subst hzz
      have hz2 : mget s.nm.1 (nkey up x (lst s.rg 0 x.regs).1) = some (j : Int) := hz2
      rw [hg] at hz2
      cases hz2
    · have hlen : s.links.length = L.length := by rw [h.eq]
      refine ⟨by rw [hlen], ⟨by simp only [h.eq], h.nm.put _ _, h1, fun j l' hj => ?_, fun k v hv => ?_⟩⟩
      · show ∃ z, num (lst s.rg 0 x.regs).2.1 0 l'.regs = some z ∧ mget (mput _ _ _ _) (nkey l'.up l' z) = some (j : Int)
        by_cases hjl : j < L.length
        · rw [List.getElem?_append_left hjl] at hj
          obtain ⟨z, hz1, hz2⟩ := h.fwd j l' hj
          refine ⟨z, num_ext h2 _ _ _ hz1, ?_⟩
          rw [mget_mput_ne (fun e => by rw [e, hg] at hz2; cases hz2)]
          exact hz2
        · have hjl2 := (List.getElem?_eq_some_iff.1 hj).1
          simp only [List.length_append, List.length_cons, List.length_nil] at hjl2
          obtain rfl : j = L.length := by omega
          rw [List.getElem?_append_right (Nat.le_refl _)] at hj
          simp at hj
          subst hj
          refine ⟨(lst s.rg 0 x.regs).1, h3, ?_⟩
          show mget (mput _ _ (nkey up x (lst s.rg 0 x.regs).1) _) (nkey up x (lst s.rg 0 x.regs).1) = _
          rw [mget_mput_self h.nm.keys, hlen]
      · by_cases hk : k = nkey up x (lst s.rg 0 x.regs).1
        · subst hk
          have hv : mget (mput s.nm.1 s.nm.2 (nkey up x (lst s.rg 0 x.regs).1) (s.links.length : Int)) (nkey up x (lst s.rg 0 x.regs).1) = some v := hv
          rw [mget_mput_self h.nm.keys] at hv
          refine ⟨L.length, { x with up := up }, (lst s.rg 0 x.regs).1, by rw [← hlen]; exact (Option.some.inj hv).symm, by simp, h3, rfl⟩
        · have hv : mget (mput s.nm.1 s.nm.2 (nkey up x (lst s.rg 0 x.regs).1) (s.links.length : Int)) k = some v := hv
          rw [mget_mput_ne hk] at hv
          obtain ⟨j, l', z, a1, a2, a3, a4⟩ := h.bwd k v hv
          exact ⟨j, l', z, a1, by rw [List.getElem?_append_left (List.getElem?_eq_some_iff.1 a2).1]; exact a2, num_ext h2 _ _ _ a3, a4⟩
theorem RelS.adds : ∀ {l : List Lk} {s : B7} {L L' : List Lk} {up z' : Int}, RelS s L → RAs L up l L' z' → (addF s up l).2 = z' ∧ RelS (addF s up l).1 L'
  | [], _, _, _, _, _, h, ⟨rfl, rfl⟩ => ⟨rfl, h⟩
  | x :: l, s, L, L', up, z', h, ⟨L1, z1, h1, h2⟩ => by
    obtain ⟨e, hr⟩ := h.add h1
    subst e
    exact RelS.adds (l := l) (s := (add1 s up x).1) (up := (add1 s up x).2) hr h2

end Go.Proofs.Ytfojeengapebmaa
