/-
  The engine, types made of ints alone: what '==' and a map's key come to on them. No condition.
-/
import Derived.Test.YtddhdoncjfgfnaaOps
import Derived.ChangeKeysEq
namespace Go.Eng

def ic (l : List Int) : List Value := l.map (Value.int .i64)
@[simp] theorem ic_length (l : List Int) : (ic l).length = l.length := by simp [ic]
theorem ic_get {l : List Int} {i : Nat} {x : Int} (h : l[i]? = some x) : (ic l)[i]? = some (.int .i64 x) := by simp [ic, h]
theorem ic_drop (l : List Int) (k : Nat) : (ic l).drop k = ic (l.drop k) := by simp [ic]
theorem ic_take (l : List Int) (k : Nat) : (ic l).take k = ic (l.take k) := by simp [ic]
theorem ic_app (l r : List Int) : ic (l ++ r) = ic l ++ ic r := by simp [ic]
theorem ic_inj {l r : List Int} (h : ic l = ic r) : l = r := by
  unfold ic at h
  exact (List.map_inj_right (fun a b e => by cases e; rfl)).1 h
theorem ic_one (l : List Int) : ∀ v ∈ ic l, v.oneCell' = true := by
  intro v hv
  simp only [ic, List.mem_map] at hv
  obtain ⟨x, _, rfl⟩ := hv
  rfl

/-- Its fields follow one another, from 'off' on to n. -/
def flatF (F : TypeId → Nat → Bool) (P : Program) (n : Nat) : List Field → Nat → Bool
  | [], off => off == n
  | f :: r, off => f.name != "_" && f.offset == off && (P.info? f.type).isSome && F f.type (P.cellsOf f.type) && flatF F P n r (off + P.cellsOf f.type)
/-- A type of n ints, and nothing else. -/
def flat (P : Program) : Nat → TypeId → Nat → Bool
  | 0, _, _ => false
  | d + 1, T, n => match P.underlying T with
    | some (.int .i64) => n == 1
    | some (.struct fs) => !P.stoodInHeld T && flatF (flat P d) P n fs.toList 0
    | some (.array len e) => (P.info? e).isSome && n == len * P.cellsOf e && flat P d e (P.cellsOf e)
    | _ => false
/-- Such a value. -/
def fv (P : Program) (T : TypeId) (xs : List Int) : Value :=
  match P.underlying T with
  | some (.int _) => .int .i64 (xs.headD 0)
  | _ => .agg (ic xs).toArray

section
variable {P : Program}

theorem info_size {T : TypeId} (h : (P.info? T).isSome = true) (w : World) : (sizeOf T).run P w = .ok (P.cellsOf T) w := by
  obtain ⟨i, hi⟩ := Option.isSome_iff_exists.1 h
  simp [sizeOf, typeInfo, hi, Program.cellsOf]

theorem part_flat {d : Nat} {T : TypeId} {n : Nat} (h : flat P d T n = true) (hi : (P.info? T).isSome = true) (hn : P.cellsOf T = n) (w : World) (xs : List Int) (off : Nat) (hfit : off + n ≤ xs.length) :
    (part T (ic xs).toArray off).run P w = .ok (fv P T ((xs.drop off).take n)) w := by
  cases d with
  | zero => simp [flat] at h
  | succ d =>
    unfold flat at h
    split at h
    · rename_i hu
      have h1 : n = 1 := by simpa using h
      subst h1
      have hlt : off < xs.length := by omega
      have hg : (ic xs)[off]? = some (.int .i64 xs[off]) := ic_get (List.getElem?_eq_getElem hlt)
      have e : ((xs.drop off).take 1).headD 0 = xs[off] := by
        rw [List.drop_eq_getElem_cons hlt]; rfl
      simp only [part, isAgg, Sem.run_bind, run_underlying hu, Result.andThen_ok, Sem.run_pure, Bool.false_eq_true, if_false, List.getElem?_toArray, hg, fv, hu, e]
    · rename_i fs hu
      have e : ((ic xs).toArray.extract off (off + n)) = (ic ((xs.drop off).take n)).toArray := by
        rw [List.extract_toArray, List.extract_eq_take_drop]; simp [ic_drop, ic_take]
      simp only [part, isAgg, Sem.run_bind, run_underlying hu, Result.andThen_ok, Sem.run_pure, if_true, info_size hi, hn, fv, hu, e]
    · rename_i len e' hu
      have e : ((ic xs).toArray.extract off (off + n)) = (ic ((xs.drop off).take n)).toArray := by
        rw [List.extract_toArray, List.extract_eq_take_drop]; simp [ic_drop, ic_take]
      simp only [part, isAgg, Sem.run_bind, run_underlying hu, Result.andThen_ok, Sem.run_pure, if_true, info_size hi, hn, fv, hu, e]
    · cases h

theorem take_add' {α : Type} (l : List α) (a b : Nat) : l.take (a + b) = l.take a ++ (l.drop a).take b := by
  rw [List.take_add]

theorem eq_split {xs ys : List Int} {k : Nat} : xs = ys ↔ xs.take k = ys.take k ∧ xs.drop k = ys.drop k := by
  constructor
  · rintro rfl; exact ⟨rfl, rfl⟩
  · rintro ⟨h1, h2⟩
    rw [← List.take_append_drop k xs, ← List.take_append_drop k ys, h1, h2]

theorem eq_flat (m : Nat) : ∀ (d : Nat) (T : TypeId) (n : Nat), flat P d T n = true → ∀ (w : World) (xs ys : List Int), xs.length = n → ys.length = n →
    (Op.equalIn (m + d) T (fv P T xs) (fv P T ys)).run P w = .ok (decide (xs = ys)) w
  | 0, _, _, h, _, _, _, _, _ => by simp [flat] at h
  | d + 1, T, n, h, w, xs, ys, hx, hy => by
    unfold flat at h
    split at h
    · rename_i hu
      have h1 : n = 1 := by simpa using h
      subst h1
      obtain ⟨x, rfl⟩ := List.length_eq_one_iff.1 hx
      obtain ⟨y, rfl⟩ := List.length_eq_one_iff.1 hy
      simp only [fv, hu, List.headD_cons]
      rw [show m + (d + 1) = (m + d) + 1 from rfl, run_equalIn_int w (m + d) T .i64 .i64 x y hu]
      simp [Bool.beq_eq_decide_eq]
    · rename_i fs hu
      simp only [Bool.and_eq_true, Bool.not_eq_true'] at h
      obtain ⟨hst, hf⟩ := h
      have hfs : P.fieldsOf T = fs := by simp [Program.fieldsOf, hu]
      have ht : P.underlying T = some (.struct (P.fieldsOf T)) := by rw [hfs, hu]
      simp only [fv, hu]
      rw [show m + (d + 1) = (m + d) + 1 from rfl, run_equalIn_struct w (m + d) T _ _ ht hst, hfs]
      have key : ∀ (l : List Field) (off : Nat), flatF (flat P d) P n l off = true → off ≤ n →
          (Op.eqFields (m + d) (ic xs).toArray (ic ys).toArray l).run P w = .ok (decide (xs.drop off = ys.drop off)) w := by
        intro l
        induction l with
        | nil =>
          intro off h _
          have : off = n := by simpa [flatF] using h
          subst this
          rw [List.drop_eq_nil_of_le (by omega), List.drop_eq_nil_of_le (by omega)]
          simp [Op.eqFields]
        | cons f r ih =>
          intro off h hle
          simp only [flatF, Bool.and_eq_true, bne_iff_ne, beq_iff_eq] at h
          obtain ⟨⟨⟨⟨hname, hoff⟩, hinfo⟩, hflat⟩, hrest⟩ := h
          have hle' : off + P.cellsOf f.type ≤ n := by
            have : ∀ (l : List Field) (o : Nat), flatF (flat P d) P n l o = true → o ≤ n := by
              intro l
              induction l with
              | nil => intro o h; have : o = n := by simpa [flatF] using h
                       omega
              | cons f r ih => intro o h; simp only [flatF, Bool.and_eq_true] at h; have := ih _ h.2; omega
            exact this r _ hrest
          have p1 := part_flat hflat hinfo rfl w xs off (by omega)
          have p2 := part_flat hflat hinfo rfl w ys off (by omega)
          have p3 := eq_flat m d f.type _ hflat w ((xs.drop off).take (P.cellsOf f.type)) ((ys.drop off).take (P.cellsOf f.type)) (by simp; omega) (by simp; omega)
          have p4 := ih (off + P.cellsOf f.type) hrest hle'
          simp only [Op.eqFields, hname, ne_eq, not_false_eq_true, if_true, Sem.run_bind, hoff, p1, p2, p3, Result.andThen_ok]
          have es : (xs.drop off = ys.drop off) ↔ ((xs.drop off).take (P.cellsOf f.type) = (ys.drop off).take (P.cellsOf f.type) ∧ xs.drop (off + P.cellsOf f.type) = ys.drop (off + P.cellsOf f.type)) := by
            rw [eq_split (k := P.cellsOf f.type), List.drop_drop, List.drop_drop]
          by_cases hh : (xs.drop off).take (P.cellsOf f.type) = (ys.drop off).take (P.cellsOf f.type)
          · simp only [hh, decide_true, Bool.not_true, Bool.false_eq_true, if_false, p4]
            congr 1
            rw [decide_eq_decide, es]
            simp [hh]
          · simp only [hh, decide_false, Bool.not_false, if_true, Sem.run_pure]
            congr 1
            symm
            rw [decide_eq_false_iff_not, es]
            exact fun c => hh c.1
      have := key fs.toList 0 hf (Nat.zero_le _)
      simpa using this
    · rename_i len e hu
      simp only [Bool.and_eq_true, beq_iff_eq] at h
      obtain ⟨⟨hinfo, hn⟩, hflat⟩ := h
      obtain ⟨i, hi⟩ := Option.isSome_iff_exists.1 hinfo
      simp only [fv, hu]
      rw [show m + (d + 1) = (m + d) + 1 from rfl, run_equalIn_array w (m + d) _ _ hu hi]
      have key : ∀ (k : Nat), k ≤ len → (Op.eqItems (m + d) e (P.cellsOf e) (ic xs).toArray (ic ys).toArray (List.range' (len - k) k)).run P w = .ok (decide (xs.drop ((len - k) * P.cellsOf e) = ys.drop ((len - k) * P.cellsOf e))) w := by
        intro k
        induction k with
        | zero =>
          intro _
          have e1 : xs.drop ((len - 0) * P.cellsOf e) = [] := List.drop_eq_nil_of_le (by simp; omega)
          have e2 : ys.drop ((len - 0) * P.cellsOf e) = [] := List.drop_eq_nil_of_le (by simp; omega)
          simp only [List.range'_zero, Op.eqItems, Sem.run_pure, e1, e2, decide_true]
        | succ k ih =>
          intro hk
          have hpos : (len - (k + 1)) * P.cellsOf e + P.cellsOf e = (len - k) * P.cellsOf e := by
            rw [← Nat.succ_mul]; congr 1; omega
          have hle : (len - k) * P.cellsOf e ≤ len * P.cellsOf e := Nat.mul_le_mul_right _ (by omega)
          have p1 := part_flat hflat hinfo rfl w xs ((len - (k + 1)) * P.cellsOf e) (by omega)
          have p2 := part_flat hflat hinfo rfl w ys ((len - (k + 1)) * P.cellsOf e) (by omega)
          have p3 := eq_flat m d e _ hflat w ((xs.drop ((len - (k + 1)) * P.cellsOf e)).take (P.cellsOf e)) ((ys.drop ((len - (k + 1)) * P.cellsOf e)).take (P.cellsOf e)) (by simp; omega) (by simp; omega)
          have p4 := ih (by omega)
          rw [List.range'_succ, show len - (k + 1) + 1 = len - k from by omega]
          simp only [Op.eqItems, Sem.run_bind, p1, p2, p3, Result.andThen_ok]
          have es : (xs.drop ((len - (k + 1)) * P.cellsOf e) = ys.drop ((len - (k + 1)) * P.cellsOf e)) ↔ ((xs.drop ((len - (k + 1)) * P.cellsOf e)).take (P.cellsOf e) = (ys.drop ((len - (k + 1)) * P.cellsOf e)).take (P.cellsOf e) ∧ xs.drop ((len - k) * P.cellsOf e) = ys.drop ((len - k) * P.cellsOf e)) := by
            rw [eq_split (k := P.cellsOf e), List.drop_drop, List.drop_drop, hpos]
          by_cases hh : (xs.drop ((len - (k + 1)) * P.cellsOf e)).take (P.cellsOf e) = (ys.drop ((len - (k + 1)) * P.cellsOf e)).take (P.cellsOf e)
          · simp only [hh, decide_true, Bool.not_true, Bool.false_eq_true, if_false, p4]
            congr 1
            rw [decide_eq_decide, es]
            simp [hh]
          · simp only [hh, decide_false, Bool.not_false, if_true, Sem.run_pure]
            congr 1
            symm
            rw [decide_eq_false_iff_not, es]
            exact fun c => hh c.1
      have := key len (Nat.le_refl _)
      simpa [List.range_eq_range'] using this
    · cases h

theorem check_flat (em : Bool) (m : Nat) : ∀ (d : Nat) (T : TypeId) (n : Nat), flat P d T n = true → ∀ (w : World) (xs : List Int), xs.length = n →
    (Instr.checkKey em (m + d) T (fv P T xs)).run P w = .ok () w
  | 0, _, _, h, _, _, _ => by simp [flat] at h
  | d + 1, T, n, h, w, xs, hx => by
    unfold flat at h
    split at h
    · rename_i hu
      rw [show m + (d + 1) = (m + d) + 1 from rfl, Instr.checkKey]
      simp only [Sem.run_bind, run_underlying hu, Result.andThen_ok, fv, hu, Sem.run_pure]
    · rename_i fs hu
      simp only [Bool.and_eq_true, Bool.not_eq_true'] at h
      obtain ⟨_, hf⟩ := h
      rw [show m + (d + 1) = (m + d) + 1 from rfl, Instr.checkKey]
      simp only [Sem.run_bind, run_underlying hu, Result.andThen_ok, fv, hu]
      rw [← Array.forIn_toList]
      have hf' : ∃ off, flatF (flat P d) P n fs.toList off = true := ⟨0, hf⟩
      clear hf hu
      generalize fs.toList = L at hf' ⊢
      induction L with
      | nil => simp
      | cons f r ih =>
        obtain ⟨off, h⟩ := hf'
        simp only [flatF, Bool.and_eq_true, bne_iff_ne, beq_iff_eq] at h
        obtain ⟨⟨⟨⟨hname, hoff⟩, hinfo⟩, hflat⟩, hrest⟩ := h
        have hle' : off + P.cellsOf f.type ≤ n := by
          have : ∀ (l : List Field) (o : Nat), flatF (flat P d) P n l o = true → o ≤ n := by
            intro l
            induction l with
            | nil => intro o h; have : o = n := by simpa [flatF] using h
                     omega
            | cons f r ih => intro o h; simp only [flatF, Bool.and_eq_true] at h; have := ih _ h.2; omega
          exact this r _ hrest
        have p1 := part_flat hflat hinfo rfl w xs off (by omega)
        have p2 := check_flat em m d f.type _ hflat w ((xs.drop off).take (P.cellsOf f.type)) (by simp; omega)
        simp only [List.forIn_cons, Sem.run_bind, hname, ne_eq, not_false_eq_true, if_true, hoff, p1, p2, Result.andThen_ok, Sem.run_pure]
        exact ih ⟨_, hrest⟩
    · rename_i len e hu
      simp only [Bool.and_eq_true, beq_iff_eq] at h
      obtain ⟨⟨hinfo, hn⟩, hflat⟩ := h
      rw [show m + (d + 1) = (m + d) + 1 from rfl, Instr.checkKey]
      simp only [Sem.run_bind, run_underlying hu, Result.andThen_ok, fv, hu]
      simp only [Std.Legacy.Range.forIn_eq_forIn_range', Std.Legacy.Range.size, Nat.sub_zero, Nat.add_one_sub_one, Nat.div_one]
      have hj : ∀ j ∈ List.range' 0 len, j < len := fun j hj => by simp [List.mem_range'] at hj; omega
      generalize List.range' 0 len = is at hj ⊢
      induction is with
      | nil => simp
      | cons j is ih =>
        have hlt := hj j (by simp)
        have hle : j * P.cellsOf e + P.cellsOf e ≤ n := by
          rw [hn, ← Nat.succ_mul]; exact Nat.mul_le_mul_right _ hlt
        have p1 := part_flat hflat hinfo rfl w xs (j * P.cellsOf e) (by omega)
        have p2 := check_flat em m d e _ hflat w ((xs.drop (j * P.cellsOf e)).take (P.cellsOf e)) (by simp; omega)
        simp only [List.forIn_cons, Sem.run_bind, info_size hinfo, p1, p2, Result.andThen_ok, Sem.run_pure]
        exact ih fun y hy => hj y (by simp [hy])
    · cases h

theorem bits_ic (xs : List Int) : Instr.sameBits 10000 (.agg (ic xs).toArray) (.agg (ic xs).toArray) = true := by
  rw [show (10000 : Nat) = 9999 + 1 from rfl, Instr.sameBits]
  simp only [beq_self_eq_true, Bool.true_and]
  induction xs with
  | nil => rfl
  | cons x xs ih =>
    simp only [ic, List.map_cons, List.zip_cons_cons, List.all_cons, Bool.and_eq_true] at ih ⊢
    exact ⟨by simp [Instr.sameBits], ih⟩
end
end Go.Eng
