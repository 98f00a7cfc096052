/-
  Layer 17, the plain law of SnapShared: a chain that is added twice adds nothing; its links, from the outermost one, are what was added. No condition.
-/
import Derived.Test.YtfojeengapebmaaBooks
namespace Go.Proofs.Ytfojeengapebmaa
open Go.Eng

/-- A chain's links stand in L at the places 'is', each above the next. -/
def IdxP (L : List Lk) : Int → List Lk → List Int → Prop
  | _, [], is => is = []
  | up, x :: c, is => ∃ (n : Nat) (is' : List Int), is = (n : Int) :: is' ∧ L[n]? = some { x with up := up } ∧ up < n ∧ IdxP L n c is'
def lastI (up : Int) : List Int → Int
  | [] => up
  | i :: is => lastI i is
theorem IdxP.mono {L M : List Lk} : ∀ {c : List Lk} {up : Int} {is : List Int}, IdxP L up c is → IdxP (L ++ M) up c is
  | [], _, _, h => h
  | _ :: _, _, _, ⟨n, is', h1, h2, h3, h4⟩ => ⟨n, is', h1, by rw [List.getElem?_append_left (List.getElem?_eq_some_iff.1 h2).1]; exact h2, h3, h4.mono⟩
theorem IdxP.len {L : List Lk} : ∀ {c : List Lk} {up : Int} {is : List Int}, IdxP L up c is → is.length = c.length
  | [], _, _, h => by rw [show _ = [] from h]; rfl
  | _ :: _, _, _, ⟨n, is', h1, _, _, h4⟩ => by rw [h1, List.length_cons, List.length_cons, h4.len]
theorem lk1_same {r : Mp} (h : Nums r) {n v : Int} {s : Sc} (hg : mget r.1 (ck n s) = some v) : lk1 r n s = r ∧ lkN r n s = v := by
  have hv := (h.pos _ _ hg).1
  have e : lk1 r n s = r := by
    unfold lk1
    rw [hg, if_neg (by simp; omega)]
  unfold lkN
  rw [e, hg]
  exact ⟨rfl, rfl⟩
theorem lst_same {r : Mp} (h : Nums r) : ∀ (xs : List Sc) (n z : Int), num r.1 n xs = some z → lst r n xs = (z, r)
  | [], n, z, e => by
    simp only [num, Option.some.injEq] at e
    subst e; rfl
  | x :: xs, n, z, e => by
    unfold num at e
    cases hg : mget r.1 (ck n x) with
    | none => rw [hg] at e; cases e
    | some v =>
      rw [hg] at e
      obtain ⟨e1, e2⟩ := lk1_same h hg
      show lst (lk1 r n x) (lkN r n x) xs = _
      rw [e1, e2]
      exact lst_same h xs v z e
/-- What stands is found again. -/
theorem addF_again {s : B7} {L : List Lk} (h : RelS s L) : ∀ {c : List Lk} {up : Int} {is : List Int}, IdxP L up c is → addF s up c = (s, lastI up is)
  | [], up, is, hp => by rw [show is = [] from hp]; rfl
  | x :: c, up, is, ⟨n, is', h1, h2, _, h4⟩ => by
    subst h1
    obtain ⟨z, hz1, hz2⟩ := h.fwd n _ h2
    have hl := lst_same h.rg _ _ _ hz1
    have e : add1 s up x = (s, (n : Int)) := by
      unfold add1
      have hl : lst s.rg 0 x.regs = (z, s.rg) := hl
      have hz2 : mget s.nm.1 (nkey up x z) = some (n : Int) := hz2
      rw [hl]
      simp only [hz2]
    show addF (add1 s up x).1 (add1 s up x).2 c = _
    rw [e]
    exact addF_again h h4
/-- The ups are below. -/
def Ups (L : List Lk) : Prop := ∀ (i : Nat) l, L[i]? = some l → l.up < i
/-- A chain that is added stands. -/
theorem add_idx : ∀ {c : List Lk} {L : List Lk} {up : Int} {L' : List Lk} {z : Int}, RAs L up c L' z → Ups L → up < L.length → ∃ is M, L' = L ++ M ∧ IdxP L' up c is ∧ z = lastI up is ∧ Ups L' ∧ z < L'.length
  | [], L, up, _, _, ⟨rfl, rfl⟩, hu, hup => ⟨[], [], by simp, rfl, rfl, hu, hup⟩
  | x :: c, L, up, L', z, ⟨L1, z1, h1, h2⟩, hu, hup => by
    rcases h1 with ⟨i, hi, rfl, rfl⟩ | ⟨_, rfl, rfl⟩
    · have hlt := (List.getElem?_eq_some_iff.1 hi).1
      obtain ⟨is, M, e, hp, hz, hu', hl⟩ := add_idx h2 hu (by omega)
      refine ⟨(i : Int) :: is, M, e, ⟨i, is, rfl, ?_, hu i _ hi, hp⟩, hz, hu', hl⟩
      rw [e, List.getElem?_append_left hlt]
      exact hi
    · have hu1 : Ups (L ++ [{ x with up := up }]) := fun j l hj => by
        by_cases hjl : j < L.length
        · rw [List.getElem?_append_left hjl] at hj
          exact hu j l hj
        · have hj2 := (List.getElem?_eq_some_iff.1 hj).1
          simp only [List.length_append, List.length_cons, List.length_nil] at hj2
          obtain rfl : j = L.length := by omega
          rw [List.getElem?_append_right (Nat.le_refl _)] at hj
          simp at hj
          subst hj
          exact hup
      obtain ⟨is, M, e, hp, hz, hu', hl⟩ := add_idx h2 hu1 (by simp; omega)
      refine ⟨(L.length : Int) :: is, [{ x with up := up }] ++ M, by rw [e, List.append_assoc], ⟨L.length, is, rfl, ?_, hup, hp⟩, hz, hu', hl⟩
      rw [e, List.getElem?_append_left (by simp), List.getElem?_append_right (Nat.le_refl _)]
      simp
/-- The chain of such links. -/
theorem chn_idx {L : List Lk} : ∀ {c : List Lk} {up : Int} {is : List Int} (k : Nat), -1 ≤ up → IdxP L up c is → lastI up is + 1 ≤ k → ∃ k' : Nat, up + 1 ≤ k' ∧ chn (L.map (·.up)) k (lastI up is) = (chn (L.map (·.up)) k' up).map (is.reverse ++ ·)
  | [], up, is, k, _, hp, hk => by
    have e : is = [] := hp
    subst e
    refine ⟨k, hk, ?_⟩
    show chn _ k up = _
    cases chn (L.map (·.up)) k up <;> simp
  | x :: c, up, is, k, hup, ⟨n, is', h1, h2, h3, h4⟩, hk => by
    subst h1
    obtain ⟨k1, hk1, e1⟩ := chn_idx (up := n) k (by omega) h4 hk
    have hlt := (List.getElem?_eq_some_iff.1 h2).1
    obtain ⟨k2, rfl⟩ : ∃ k2, k1 = k2 + 1 := ⟨k1 - 1, by omega⟩
    have hu : (L.map (·.up)).getD (n : Int).toNat 0 = up := by simp [List.getD, h2]
    refine ⟨k2, by omega, ?_⟩
    show chn _ k (lastI n is') = _
    rw [e1, chn_step (by omega) (by rw [hu]; simp; omega), hu]
    cases chn (L.map (·.up)) k2 up <;> simp
theorem chO_idx {L : List Lk} {c : List Lk} {is : List Int} (hp : IdxP L (-1) c is) (hl : -1 ≤ lastI (-1) is) : chO L (lastI (-1) is) = is := by
  obtain ⟨k', _, e⟩ := chn_idx (lastI (-1) is + 1).toNat (Int.le_refl _) hp (by omega)
  unfold chO
  rw [e, chn_end]
  simp

theorem ra_ex (L : List Lk) (up : Int) (x : Lk) : ∃ L' z, RA L up x L' z := by
  by_cases h : ∃ i : Nat, L[i]? = some { x with up := up }
  · obtain ⟨i, hi⟩ := h
    exact ⟨L, i, .inl ⟨i, hi, rfl, rfl⟩⟩
  · refine ⟨_, _, .inr ⟨fun l hl e => h ?_, rfl, rfl⟩⟩
    obtain ⟨i, hi⟩ := List.mem_iff_getElem?.1 hl
    exact ⟨i, by rw [hi, e]⟩
theorem ras_ex : ∀ (c : List Lk) (L : List Lk) (up : Int), ∃ L' z, RAs L up c L' z
  | [], L, up => ⟨L, up, rfl, rfl⟩
  | x :: c, L, up => by
    obtain ⟨L1, z1, h1⟩ := ra_ex L up x
    obtain ⟨L', z, h2⟩ := ras_ex c L1 z1
    exact ⟨L', z, L1, z1, h1, h2⟩
theorem lastI_ge {L : List Lk} : ∀ {c : List Lk} {up : Int} {is : List Int}, IdxP L up c is → -1 ≤ up → -1 ≤ lastI up is
  | [], _, is, hp, h => by rw [show is = [] from hp]; exact h
  | _ :: _, _, _, ⟨n, is', h1, _, _, h4⟩, _ => by
    subst h1
    exact lastI_ge (up := n) (is := is') h4 (by omega)
/-- The k-th of such links. -/
theorem IdxP.get {L : List Lk} : ∀ {c : List Lk} {up : Int} {is : List Int}, IdxP L up c is → ∀ (k : Nat) (x : Lk), c[k]? = some x → ∃ (n : Nat) (u : Int), is[k]? = some (n : Int) ∧ L[n]? = some { x with up := u }
  | [], _, _, _, k, x, hk => by simp at hk
  | y :: c, up, _, ⟨n, is', h1, h2, _, h4⟩, k, x, hk => by
    subst h1
    cases k with
    | zero =>
      simp at hk
      subst hk
      exact ⟨n, up, rfl, h2⟩
    | succ k =>
      obtain ⟨m, u, e1, e2⟩ := h4.get k x (by simpa using hk)
      exact ⟨m, u, by simpa using e1, e2⟩
/-- The chunks may be told in another order. -/
theorem st_perm {w0 w : World} {F0 : List Nat} {ls ls' : List Ck} (h : St w0 F0 ls w) (hp : ls.flatten.Perm ls'.flatten) : St w0 F0 ls' w :=
  ⟨fun p hp' => h.has p (hp.mem_iff.2 hp'), (hp.map _).nodup_iff.1 h.nodup, fun b hb => h.fresh b ((hp.map _).mem_iff.2 hb), h.os, h.tape, h.output, h.size, h.old⟩

end Go.Proofs.Ytfojeengapebmaa
