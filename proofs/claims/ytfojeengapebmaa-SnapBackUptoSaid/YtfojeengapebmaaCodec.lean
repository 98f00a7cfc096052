/-
  Layer 17, plain: links and virtual things as bytes, and back. No condition.
-/
import Derived.Test.YtfojeengapebmaaCode
namespace Go.Proofs.Ytfojeengapebmaa
open Go.Eng

def eNum (n least : Int) : Option (List Int) := if least ≤ n ∧ n ≤ 1099511627776 + least then some (encB (n - least).toNat) else none
def dNum (l : List Int) : Option (Int × List Int) := (dB 0 l).bind fun p => if p.1 ≤ 1099511627776 then some ((p.1 : Int), p.2) else none
def dSig (l : List Int) : Option (Int × List Int) := (dB 0 l).map fun p => (zag p.1, p.2)
def sc (a b c d : Int) : Sc := ⟨#[a, b, c, d], rfl⟩
theorem sc_ex (x : Sc) : ∃ a b c d, x = sc a b c d := ⟨x[0], x[1], x[2], x[3], by
  apply Vector.ext
  intro i hi
  match i, hi with
  | 0, _ => rfl
  | 1, _ => rfl
  | 2, _ => rfl
  | 3, _ => rfl⟩
def eSrc (x : Sc) : Option (List Int) := (eNum x[0] 0).bind fun a =>
  if x[0] = 0 then (if x[3] = 0 then some (a ++ (encB (zig x[1]) ++ encB (zig x[2]))) else none)
  else if x[0] ≤ 2 ∧ x[1] = 0 ∧ x[2] = 0 then (eNum x[3] 0).map (a ++ ·) else none
def dSrc (l : List Int) : Option (Sc × List Int) := (dNum l).bind fun k =>
  if k.1 ≤ 2 then (if k.1 = 0 then (dSig k.2).bind fun a => (dSig a.2).map fun b => (sc 0 a.1 b.1 0, b.2) else (dNum k.2).map fun n => (sc k.1 0 0 n.1, n.2)) else none
section
variable {α : Type}
def eL (e : α → Option (List Int)) : List α → Option (List Int)
  | [] => some []
  | x :: r => (e x).bind fun a => (eL e r).map (a ++ ·)
def dL (d : List Int → Option (α × List Int)) : Nat → List Int → Option (List α × List Int)
  | 0, l => some ([], l)
  | n + 1, l => (d l).bind fun x => (dL d n x.2).map fun p => (x.1 :: p.1, p.2)
/-- What e writes, d reads, where p holds. -/
def Fw (p : α → Prop) (e : α → Option (List Int)) (d : List Int → Option (α × List Int)) : Prop := ∀ x o r, p x → e x = some o → d (o ++ r) = some (x, r)
/-- What d reads, e writes. -/
def Bw (e : α → Option (List Int)) (d : List Int → Option (α × List Int)) : Prop := ∀ l x r, isB l → d l = some (x, r) → ∃ o, e x = some o ∧ l = o ++ r
theorem Fw.list {p : α → Prop} {e : α → Option (List Int)} {d : List Int → Option (α × List Int)} (h : Fw p e d) : ∀ (xs : List α) (o r : List Int), (∀ x ∈ xs, p x) → eL e xs = some o → dL d xs.length (o ++ r) = some (xs, r)
  | [], o, r, _, he => by simp only [eL, Option.some.injEq] at he; subst he; rfl
  | x :: xs, o, r, hp, he => by
    simp only [eL] at he
    obtain ⟨a, ha, he⟩ := Option.bind_eq_some_iff.1 he
    obtain ⟨b, hb, rfl⟩ := Option.map_eq_some_iff.1 he
    simp only [List.length_cons, dL, List.append_assoc]
    rw [h x a (b ++ r) (hp x (by simp)) ha]
    simp only [Option.bind_some]
    rw [Fw.list h xs b r (fun y hy => hp y (by simp [hy])) hb]
    rfl
theorem isB.right {a b : List Int} (h : isB (a ++ b)) : isB b := fun c hc => h c (by simp [hc])
theorem Bw.list {e : α → Option (List Int)} {d : List Int → Option (α × List Int)} (h : Bw e d) : ∀ (n : Nat) (l : List Int) (xs : List α) (r : List Int), isB l → dL d n l = some (xs, r) → xs.length = n ∧ ∃ o, eL e xs = some o ∧ l = o ++ r
  | 0, l, xs, r, _, hd => by
    simp only [dL, Option.some.injEq, Prod.mk.injEq] at hd
    obtain ⟨rfl, rfl⟩ := hd
    exact ⟨rfl, [], rfl, rfl⟩
  | n + 1, l, xs, r, hl, hd => by
    simp only [dL] at hd
    obtain ⟨⟨x, r1⟩, hx, hd⟩ := Option.bind_eq_some_iff.1 hd
    obtain ⟨⟨ys, r2⟩, hys, he⟩ := Option.map_eq_some_iff.1 hd
    simp only [Prod.mk.injEq] at he
    obtain ⟨rfl, rfl⟩ := he
    obtain ⟨a, ha, rfl⟩ := h l x r1 hl hx
    obtain ⟨hlen, b, hb, rfl⟩ := Bw.list h n r1 ys r2 hl.right hys
    exact ⟨by simp [hlen], a ++ b, by simp [eL, ha, hb], by simp⟩
end
theorem num_fw {n least : Int} {o : List Int} (h : eNum n least = some o) (r : List Int) : dNum (o ++ r) = some (n - least, r) := by
  unfold eNum at h
  split at h
  · rename_i hn
    simp only [Option.some.injEq] at h
    subst h
    unfold dNum
    rw [dB_enc (by omega)]
    simp only [Option.bind_some]
    rw [if_pos (by omega)]
    simp only [Option.some.injEq, Prod.mk.injEq, and_true]
    omega
  · cases h
theorem num_bw {l r : List Int} {n : Int} (hl : isB l) (h : dNum l = some (n, r)) (least : Int) : ∃ o, eNum (n + least) least = some o ∧ l = o ++ r := by
  obtain ⟨⟨m, r1⟩, hm, h⟩ := Option.bind_eq_some_iff.1 h
  split at h
  · rename_i hle
    simp only [Option.some.injEq, Prod.mk.injEq] at h
    obtain ⟨rfl, rfl⟩ := h
    obtain ⟨e, _⟩ := enc_dB l 0 m r1 hl hm
    refine ⟨encB m, ?_, e⟩
    unfold eNum
    have : m ≤ 1099511627776 := hle
    rw [if_pos (by omega)]
    congr 2
    omega
  · cases h
theorem num_ge {l r : List Int} {n : Int} (h : dNum l = some (n, r)) : 0 ≤ n ∧ n ≤ 1099511627776 := by
  obtain ⟨⟨m, r1⟩, hm, h⟩ := Option.bind_eq_some_iff.1 h
  split at h
  · rename_i hle
    simp only [Option.some.injEq, Prod.mk.injEq] at h
    obtain ⟨rfl, rfl⟩ := h
    have : m ≤ 1099511627776 := hle
    omega
  · cases h
theorem sig_fw {n : Int} (h : In64 n) (r : List Int) : dSig (encB (zig n) ++ r) = some (n, r) := by
  unfold dSig
  rw [dB_enc (zig_lt h)]
  simp [zag_zig]
theorem sig_bw {l r : List Int} {n : Int} (hl : isB l) (h : dSig l = some (n, r)) : l = encB (zig n) ++ r := by
  obtain ⟨⟨m, r1⟩, hm, h⟩ := Option.map_eq_some_iff.1 h
  simp only [Prod.mk.injEq] at h
  obtain ⟨rfl, rfl⟩ := h
  rw [zig_zag]
  exact (enc_dB l 0 m r1 hl hm).1
/-- A source's numbers are of the size of an int. -/
def okS (x : Sc) : Prop := In64 x[1] ∧ In64 x[2]
theorem eSrc_sc (a b c d : Int) : eSrc (sc a b c d) = (eNum a 0).bind fun o => if a = 0 then (if d = 0 then some (o ++ (encB (zig b) ++ encB (zig c))) else none) else if a ≤ 2 ∧ b = 0 ∧ c = 0 then (eNum d 0).map (o ++ ·) else none := rfl
theorem src_fw : Fw okS eSrc dSrc := by
  intro x o r hp h
  obtain ⟨a, b, c, d, rfl⟩ := sc_ex x
  obtain ⟨hb, hc⟩ : In64 b ∧ In64 c := hp
  rw [eSrc_sc] at h
  obtain ⟨u, hu, h2⟩ := Option.bind_eq_some_iff.1 h
  clear h
  have hu' := fun r => num_fw hu r
  simp only [Int.sub_zero] at hu'
  unfold dSrc
  split at h2
  · rename_i ha
    split at h2
    · rename_i hd
      simp only [Option.some.injEq] at h2
      subst h2 ha hd
      rw [List.append_assoc, hu']
      simp only [Option.bind_some]
      rw [if_pos (by decide), if_pos trivial, List.append_assoc, sig_fw hb]
      simp only [Option.bind_some]
      rw [sig_fw hc]
      rfl
    · cases h2
  · rename_i ha
    split at h2
    · rename_i hd
      obtain ⟨v, hv, hvo⟩ := Option.map_eq_some_iff.1 h2
      clear h2
      obtain ⟨h2, hb0, hc0⟩ := hd
      subst hvo hb0 hc0
      rw [List.append_assoc, hu']
      simp only [Option.bind_some]
      rw [if_pos h2, if_neg ha, num_fw hv]
      simp
    · cases h2
theorem src_bw : Bw eSrc dSrc := by
  intro l x r hl h
  obtain ⟨⟨k, r1⟩, hk, g1⟩ := Option.bind_eq_some_iff.1 h
  clear h
  obtain ⟨u, hu, rfl⟩ := num_bw hl hk 0
  simp only [Int.add_zero] at hu
  simp only at g1
  split at g1
  · rename_i h2
    split at g1
    · rename_i h0
      subst h0
      obtain ⟨⟨a, r2⟩, ha, g2⟩ := Option.bind_eq_some_iff.1 g1
      clear g1
      obtain ⟨⟨b, r3⟩, hb, g3⟩ := Option.map_eq_some_iff.1 g2
      clear g2
      simp only [Prod.mk.injEq] at g3
      obtain ⟨rfl, rfl⟩ := g3
      obtain rfl := sig_bw hl.right ha
      obtain rfl := sig_bw hl.right.right hb
      refine ⟨u ++ (encB (zig a) ++ encB (zig b)), ?_, by simp⟩
      rw [eSrc_sc, hu]
      simp
    · rename_i h0
      obtain ⟨⟨n, r2⟩, hn, g4⟩ := Option.map_eq_some_iff.1 g1
      clear g1
      simp only [Prod.mk.injEq] at g4
      obtain ⟨rfl, rfl⟩ := g4
      obtain ⟨v, hv, rfl⟩ := num_bw hl.right hn 0
      simp only [Int.add_zero] at hv
      refine ⟨u ++ v, ?_, by simp⟩
      rw [eSrc_sc, hu]
      simp only [Option.bind_some]
      rw [if_neg h0, if_pos ⟨h2, trivial, trivial⟩, hv]
      rfl
  · cases g1
def eSrcs (xs : List Sc) : Option (List Int) := (eNum xs.length 0).bind fun a => (eL eSrc xs).map (a ++ ·)
def dSrcs (l : List Int) : Option (List Sc × List Int) := (dNum l).bind fun n => dL dSrc n.1.toNat n.2
theorem lst_fw {α : Type} {p : α → Prop} {e : α → Option (List Int)} {d : List Int → Option (α × List Int)} (h : Fw p e d) : Fw (fun xs => ∀ x ∈ xs, p x) (fun xs => (eNum xs.length 0).bind fun a => (eL e xs).map (a ++ ·)) (fun l => (dNum l).bind fun n => dL d n.1.toNat n.2) := by
  intro xs o r hp he
  obtain ⟨a, ha, he⟩ := Option.bind_eq_some_iff.1 he
  obtain ⟨b, hb, rfl⟩ := Option.map_eq_some_iff.1 he
  simp only [List.append_assoc]
  rw [num_fw ha]
  simp only [Option.bind_some, Int.sub_zero, Int.toNat_natCast]
  exact h.list xs b r hp hb
theorem lst_bw {α : Type} {e : α → Option (List Int)} {d : List Int → Option (α × List Int)} (h : Bw e d) : Bw (fun xs => (eNum (xs.length : Int) 0).bind fun a => (eL e xs).map (a ++ ·)) (fun l => (dNum l).bind fun n => dL d n.1.toNat n.2) := by
  intro l xs r hl hd
  obtain ⟨⟨n, r1⟩, hn, hd1⟩ := Option.bind_eq_some_iff.1 hd
  clear hd
  have hg := num_ge hn
  obtain ⟨u, hu, rfl⟩ := num_bw hl hn 0
  obtain ⟨hlen, v, hv, rfl⟩ := h.list n.toNat r1 xs r hl.right hd1
  refine ⟨u ++ v, ?_, by simp⟩
  show ((eNum (xs.length : Int) 0).bind fun a => (eL e xs).map (a ++ ·)) = _
  rw [show (xs.length : Int) = n from by omega]
  simp only [Int.add_zero] at hu
  rw [hu]
  simp only [Option.bind_some]
  rw [hv]
  rfl
theorem srcs_fw : Fw (fun xs => ∀ x ∈ xs, okS x) eSrcs dSrcs := lst_fw src_fw
theorem srcs_bw : Bw eSrcs dSrcs := lst_bw src_bw

def eLk (x : Lk) : Option (List Int) := (eNum x.up (-1)).bind fun a => (eNum x.fn 0).bind fun b => (eNum x.pc 0).bind fun c => (eNum x.into (-1)).bind fun d => (eSrcs x.regs).map fun s => a ++ (b ++ (c ++ (d ++ s)))
def dLk (l : List Int) : Option (Lk × List Int) := (dNum l).bind fun a => (dNum a.2).bind fun b => (dNum b.2).bind fun c => (dNum c.2).bind fun d => (dSrcs d.2).map fun s => (⟨a.1 - 1, b.1, c.1, d.1 - 1, s.1⟩, s.2)
theorem lk_fw : Fw (fun x => ∀ s ∈ x.regs, okS s) eLk dLk := by
  intro x o r hp h
  obtain ⟨a, ha, g1⟩ := Option.bind_eq_some_iff.1 h
  clear h
  obtain ⟨b, hb, g2⟩ := Option.bind_eq_some_iff.1 g1
  clear g1
  obtain ⟨c, hc, g3⟩ := Option.bind_eq_some_iff.1 g2
  clear g2
  obtain ⟨d, hd, g4⟩ := Option.bind_eq_some_iff.1 g3
  clear g3
  obtain ⟨s, hs, rfl⟩ := Option.map_eq_some_iff.1 g4
  unfold dLk
  simp only [List.append_assoc]
  simp only [num_fw ha, num_fw hb, num_fw hc, num_fw hd, srcs_fw x.regs s r hp hs, Option.bind_some, Option.map_some, Int.sub_zero]
  simp only [Option.some.injEq, Prod.mk.injEq, and_true]
  obtain ⟨x1, x2, x3, x4, x5⟩ := x
  simp only [Lk.mk.injEq, and_true, true_and]
  omega
theorem lk_bw : Bw eLk dLk := by
  intro l x r hl h
  obtain ⟨⟨a, r1⟩, ha, g1⟩ := Option.bind_eq_some_iff.1 h
  clear h
  obtain ⟨⟨b, r2⟩, hb, g2⟩ := Option.bind_eq_some_iff.1 g1
  clear g1
  obtain ⟨⟨c, r3⟩, hc, g3⟩ := Option.bind_eq_some_iff.1 g2
  clear g2
  obtain ⟨⟨d, r4⟩, hd, g4⟩ := Option.bind_eq_some_iff.1 g3
  clear g3
  obtain ⟨⟨s, r5⟩, hs, g5⟩ := Option.map_eq_some_iff.1 g4
  clear g4
  simp only [Prod.mk.injEq] at g5
  obtain ⟨rfl, rfl⟩ := g5
  obtain ⟨oa, ka, rfl⟩ := num_bw hl ha (-1)
  obtain ⟨ob, kb, rfl⟩ := num_bw hl.right hb 0
  obtain ⟨oc, kc, rfl⟩ := num_bw hl.right.right hc 0
  obtain ⟨od, kd, rfl⟩ := num_bw hl.right.right.right hd (-1)
  obtain ⟨os, ke, rfl⟩ := srcs_bw _ _ _ hl.right.right.right.right hs
  simp only [Int.add_zero] at kb kc
  refine ⟨oa ++ (ob ++ (oc ++ (od ++ os))), ?_, by simp⟩
  unfold eLk
  simp only [show a - 1 = a + -1 from rfl, show d - 1 = d + -1 from rfl, ka, kb, kc, kd, ke, Option.bind_some, Option.map_some]
def eVt (x : Vt) : Option (List Int) := (eNum x.rc 0).bind fun a => (eSrcs x.cells).map (a ++ ·)
def dVt (l : List Int) : Option (Vt × List Int) := (dNum l).bind fun a => (dSrcs a.2).map fun s => (⟨a.1, s.1⟩, s.2)
theorem vt_fw : Fw (fun x => ∀ s ∈ x.cells, okS s) eVt dVt := by
  intro x o r hp h
  obtain ⟨a, ha, g1⟩ := Option.bind_eq_some_iff.1 h
  clear h
  obtain ⟨s, hs, rfl⟩ := Option.map_eq_some_iff.1 g1
  unfold dVt
  simp only [List.append_assoc]
  simp only [num_fw ha, srcs_fw x.cells s r hp hs, Option.bind_some, Option.map_some, Int.sub_zero]
theorem vt_bw : Bw eVt dVt := by
  intro l x r hl h
  obtain ⟨⟨a, r1⟩, ha, g1⟩ := Option.bind_eq_some_iff.1 h
  clear h
  obtain ⟨⟨s, r5⟩, hs, g2⟩ := Option.map_eq_some_iff.1 g1
  clear g1
  simp only [Prod.mk.injEq] at g2
  obtain ⟨rfl, rfl⟩ := g2
  obtain ⟨oa, ka, rfl⟩ := num_bw hl ha 0
  obtain ⟨os, ke, rfl⟩ := srcs_bw _ _ _ hl.right hs
  simp only [Int.add_zero] at ka
  refine ⟨oa ++ os, ?_, by simp⟩
  unfold eVt
  simp only [ka, ke, Option.bind_some, Option.map_some]
def eLks (xs : List Lk) : Option (List Int) := (eNum xs.length 0).bind fun a => (eL eLk xs).map (a ++ ·)
def dLks (l : List Int) : Option (List Lk × List Int) := (dNum l).bind fun n => dL dLk n.1.toNat n.2
def eVts (xs : List Vt) : Option (List Int) := (eNum xs.length 0).bind fun a => (eL eVt xs).map (a ++ ·)
def dVts (l : List Int) : Option (List Vt × List Int) := (dNum l).bind fun n => dL dVt n.1.toNat n.2
/-- All of it. -/
def eAll (ls : List Lk) (vs : List Vt) : Option (List Int) := (eLks ls).bind fun a => (eVts vs).map (a ++ ·)
def dAll (l : List Int) : Option (List Lk × List Vt) := (dLks l).bind fun a => (dVts a.2).bind fun b => if b.2 = [] then some (a.1, b.1) else none
theorem all_fw {ls : List Lk} {vs : List Vt} {o : List Int} (hl : ∀ x ∈ ls, ∀ s ∈ x.regs, okS s) (hv : ∀ x ∈ vs, ∀ s ∈ x.cells, okS s) (h : eAll ls vs = some o) : dAll o = some (ls, vs) := by
  obtain ⟨a, ha, g1⟩ := Option.bind_eq_some_iff.1 h
  clear h
  obtain ⟨b, hb, rfl⟩ := Option.map_eq_some_iff.1 g1
  have h1 : dLks (a ++ b) = some (ls, b) := (lst_fw lk_fw) ls a b hl ha
  have h2 : dVts (b ++ []) = some (vs, []) := (lst_fw vt_fw) vs b [] hv hb
  rw [List.append_nil] at h2
  unfold dAll
  rw [h1]
  simp only [Option.bind_some]
  rw [h2]
  rfl
theorem all_bw {ls : List Lk} {vs : List Vt} {l : List Int} (hl : isB l) (h : dAll l = some (ls, vs)) : eAll ls vs = some l := by
  obtain ⟨⟨xs, r⟩, h1, g1⟩ := Option.bind_eq_some_iff.1 h
  clear h
  obtain ⟨⟨ys, r2⟩, h2, g2⟩ := Option.bind_eq_some_iff.1 g1
  clear g1
  split at g2
  · rename_i hr
    simp only [Option.some.injEq, Prod.mk.injEq] at g2
    obtain ⟨rfl, rfl⟩ := g2
    simp only at hr
    subst hr
    obtain ⟨a, ha, rfl⟩ := (lst_bw lk_bw) _ _ _ hl h1
    obtain ⟨b, hb, rfl⟩ := (lst_bw vt_bw) _ _ _ hl.right h2
    have ha : eLks xs = some a := ha
    have hb : eVts ys = some b := hb
    unfold eAll
    rw [ha]
    simp only [Option.bind_some]
    rw [hb]
    simp
  · cases g2

end Go.Proofs.Ytfojeengapebmaa
