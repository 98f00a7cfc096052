/-
  Layer 17: the program's book of links: New, Add. Conditions: it holds few links and registers.
-/
import Derived.Test.YtfojeengapebmaaList
namespace Go.Proofs.Ytfojeengapebmaa
open Go.Eng

structure B7 where
  links : List Lk
  nm : Mp
  rg : Mp
/-- The registers that the links lie with may be read. -/
def Rgs (ps : List Pr) (dc : Ck) : Prop := ∀ p ∈ ps, ∀ w, Hp dc w → RdS (· ∈ ks dc) p.2 p.1.regs w
def BK (bb : Nat) (s : B7) (c : Ck) : Prop :=
  ∃ mn mr v ps lc dc, s.links = ps.map (·.1) ∧ Sl 39 5 v ps.length (ps.flatMap prC) lc ∧ Rgs ps dc ∧ c = rlC bb mr v (.map (some mn)) s.rg ++ ([(mn, mo encV encI s.nm.1 s.nm.2)] ++ (lc ++ dc))
theorem bk_st {bb mn mr : Nat} {v : Value} {nm rg : Mp} {lc dc : Ck} {w : World} (hp : Hp (rlC bb mr v (.map (some mn)) rg ++ ([(mn, mo encV encI nm.1 nm.2)] ++ (lc ++ dc))) w) :
    St w (ks (rlC bb mr v (.map (some mn)) rg ++ ([(mn, mo encV encI nm.1 nm.2)] ++ (lc ++ dc)))) [rlC bb mr v (.map (some mn)) rg, [(mn, mo encV encI nm.1 nm.2)], lc, dc] w := hp.st.cast (by simp)
theorem rl_cell {bb mr : Nat} {lv mnv u : Value} {r : Mp} {w : World} {k : Nat} (hp : Hp (rlC bb mr lv mnv r) w) (h : [lv, mnv, Value.map (some mr)][k]? = some u) : w.cell? ⟨bb, k, none⟩ = some u :=
  At.one (hp.has (bb, cb [lv, mnv, .map (some mr)] 62) (by simp [rlC])) h
theorem Hp.left {c d : Ck} {w : World} (h : Hp (c ++ d) w) : Hp c w := ⟨fun p hp => h.has p (by simp [hp]), by
  have := h.nodup
  simp only [ks, List.map_append] at this
  exact (List.nodup_append.1 this).1⟩
theorem Hp.right {c d : Ck} {w : World} (h : Hp (c ++ d) w) : Hp d w := ⟨fun p hp => h.has p (by simp [hp]), by
  have := h.nodup
  simp only [ks, List.map_append] at this
  exact (List.nodup_append.1 this).2.1⟩
theorem Rgs.more {ps : List Pr} {dc : Ck} (h : Rgs ps dc) (d : Ck) : Rgs ps (dc ++ d) := fun p hp w hw => (h p hp w (Hp.left hw)).mono fun b hb => by simp [ks] at hb ⊢; exact .inl hb
theorem Rgs.add {ps : List Pr} {dc d : Ck} (h : Rgs ps dc) {l : Lk} {v : Value} (hv : Sl 69 4 v l.regs.length (l.regs.flatMap scF) d) : Rgs (ps ++ [(l, v)]) (dc ++ d) := by
  intro p hp w hw
  rcases List.mem_append.1 hp with hp | hp
  · exact h.more d p hp w hw
  · simp at hp
    subst hp
    have := sl_rd scF_len (by decide) hv (Hp.right hw)
    exact RdS.mono this fun b hb => by simp [ks] at hb ⊢; exact .inr hb
theorem Rgs.one {ps : List Pr} {dc : Ck} (h : Rgs ps dc) {w : World} (hp : Hp dc w) : ∀ p ∈ ps, p.2.oneCell' = true := fun p hpp => by
  obtain ⟨a, cap, e, _⟩ := h p hpp w hp
  rw [e]; rfl

set_option maxRecDepth 10000 in
/-- New. -/
theorem f9_calls : Ctr Try.prog 9 #[] [] (fun _ => True) (fun v c => ∃ bb c0, v = .pointer (some ⟨bb, 0, none⟩) ∧ c.Perm c0 ∧ BK bb ⟨[], ([], 0), ([], 0)⟩ c0) := by
  intro w0 hp hro
  have hs : St w0 (ks []) [] w0 := St.start w0
  refine calls_W (n := 5) Try.func9 rfl Try.ntmps9 (by simp) ?_
  refine W_seq ?_
  refine W_region (by decide +kernel) ?_
  refine sq_r r_assign rfl ?_
  refine sq_z ?_
  refine W_seq ?_
  refine W_region (by decide +kernel) ?_
  refine sq_e rfl (o_makeMap hs ?_); intro b0 w hs
  refine sq_e rfl (o_makeMap hs ?_); intro b1 w hs
  refine sq_r (r_build (v := .agg #[.slice none 0 0, .map (some b0), .map (some b1)]) (by kernel_rfl)) rfl ?_
  refine sq_e rfl (o_box (cs := [.slice none 0 0, .map (some b0), .map (some b1)]) hs rfl ?_); intro b2 w hs
  refine sq_r r_assign rfl ?_
  refine sq_z ?_
  refine W_ret ?_
  refine ret1 rfl (by decide) rfl (fin hs ⟨b2, _, rfl, ?_, b0, b1, .slice none 0 0, [], [], [], rfl, Sl.nil 39 5, fun p hp => by simp at hp, rfl⟩ (List.Sublist.refl _))
  have e : ([] ++ [[(b0, Obj.map #[] 0)]] ++ [[(b1, Obj.map #[] 0)]] ++ [[(b2, cb [.slice none 0 0, .map (some b0), .map (some b1)] 62)]] : List Ck).flatten = [(b0, Obj.map #[] 0), (b1, Obj.map #[] 0), (b2, cb [.slice none 0 0, .map (some b0), .map (some b1)] 62)] := by simp
  rw [e]
  show List.Perm [(b0, Obj.map #[] 0), (b1, Obj.map #[] 0), (b2, cb [.slice none 0 0, .map (some b0), .map (some b1)] 62)] [(b2, cb [.slice none 0 0, .map (some b0), .map (some b1)] 62), (b1, Obj.map #[] 0), (b0, Obj.map #[] 0)]
  exact (List.reverse_perm [(b2, cb [.slice none 0 0, .map (some b0), .map (some b1)] 62), (b1, Obj.map #[] 0), (b0, Obj.map #[] 0)])

/-! ### Add -/
def nkey (up : Int) (x : Lk) (z : Int) : V5 := ⟨#[up, x.fn, x.pc, x.into, z], rfl⟩
/-- One link more. -/
def add1 (s : B7) (up : Int) (x : Lk) : B7 × Int :=
  match mget s.nm.1 (nkey up x (lst s.rg 0 x.regs).1) with
  | some z => ({ s with rg := (lst s.rg 0 x.regs).2 }, z)
  | none => (⟨s.links ++ [{ x with up := up }], (mput s.nm.1 s.nm.2 (nkey up x (lst s.rg 0 x.regs).1) s.links.length, mclk s.nm.1 s.nm.2 (nkey up x (lst s.rg 0 x.regs).1)), (lst s.rg 0 x.regs).2⟩, s.links.length)
def addF (s : B7) (up : Int) : List Lk → B7 × Int
  | [] => (s, up)
  | x :: l => addF (add1 s up x).1 (add1 s up x).2 l
/-- How many registers. -/
def rgn (l : List Lk) : Nat := (l.map fun x => x.regs.length).sum
theorem lst_wf : ∀ (xs : List Sc) (r : Mp) (n : Int), Mwf r.1 r.2 → Mwf (lst r n xs).2.1 (lst r n xs).2.2
  | [], _, _, h => h
  | x :: xs, _, n, h => lst_wf xs _ _ (lk1_wf h n x)
theorem lst_len : ∀ (xs : List Sc) (r : Mp) (n : Int), (lst r n xs).2.1.length ≤ r.1.length + xs.length
  | [], _, _ => Nat.le_refl _
  | x :: xs, r, n => by
    have h1 := lst_len xs (lk1 r n x) (lkN r n x)
    have h2 := lk1_len r n x
    simp only [lst, List.length_cons]
    omega
structure Ok7 (s : B7) (m k : Nat) : Prop where
  nm : Mwf s.nm.1 s.nm.2
  rg : Mwf s.rg.1 s.rg.2
  links : s.links.length ≤ m
  regs : s.rg.1.length ≤ k
theorem Ok7.add1 {s : B7} {m k : Nat} (h : Ok7 s m k) (up : Int) (x : Lk) : Ok7 (add1 s up x).1 (m + 1) (k + x.regs.length) := by
  have h1 := lst_wf x.regs s.rg 0 h.rg
  have h2 := lst_len x.regs s.rg 0
  have h3 := h.regs
  have h4 := h.links
  unfold Proofs.Ytfojeengapebmaa.add1
  split
  · exact ⟨h.nm, h1, by simp only; omega, by simp only; omega⟩
  · exact ⟨h.nm.put _ _, h1, by simp; omega, by simp only; omega⟩
theorem build_name (w : World) (a b c d e : Int) : (Instr.build 65 #[(0, .int .i64 a), (1, .int .i64 b), (2, .int .i64 c), (3, .int .i64 d), (4, .int .i64 e)]).run Try.prog w = .ok (.agg (ic [a, b, c, d, e]).toArray) w := by kernel_rfl
theorem build_link (w : World) (a b c d : Int) (sa : Option Addr) (sn sc : Nat) : (Instr.build 39 #[(0, .int .i64 a), (1, .int .i64 b), (2, .int .i64 c), (3, .int .i64 d), (4, .slice sa sn sc)]).run Try.prog w = .ok (.agg #[.int .i64 a, .int .i64 b, .int .i64 c, .int .i64 d, .slice sa sn sc]) w := by kernel_rfl

end Go.Proofs.Ytfojeengapebmaa
