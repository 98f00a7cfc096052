/-
  Layer 15: the document's cache: its rows and notes in memory; New, find, Held, Linked. Conditions: they are few.
-/
import Derived.Test.YtddhdoncjfgfnaaDoings
namespace Go.Proofs.Ytddhdoncjfgfnaa
open Go.Eng

structure Nt where
  id : Int
  op : Int
  fails : Int
  to : Int
structure R15 where
  rows : List (Int × LT)
  notes : List Nt
  limit : Int
  picks : List Int
  used : Nat
  last : Int
  top : Int
def rowC (p : Int × LT) : List Value := .int .i64 p.1 :: trC p.2
theorem rowC_len (p : Int × LT) : (rowC p).length = 18 := by simp [rowC, trC_len]
def ntC (n : Nt) : List Value := [.int .i64 n.id, .int .i64 n.op, .int .i64 n.fails, .int .i64 n.to]
theorem ntC_len (n : Nt) : (ntC n).length = 4 := rfl
theorem ntC_one (n : Nt) : ∀ u ∈ ntC n, u.oneCell' = true := by simp [ntC, Value.oneCell']
theorem rowC_key (p : Int × LT) : ((rowC p).drop 1).take 10 = ic p.2.key.toList := by
  have := trC_key p.2
  rw [List.drop_zero] at this
  simpa [rowC] using this
theorem rowC_one {p : Int × LT} (h : ∀ u ∈ trC p.2, u.oneCell' = true) : ∀ u ∈ rowC p, u.oneCell' = true := by
  intro u hu
  rcases List.mem_cons.1 hu with rfl | hu
  · rfl
  · exact h u hu
def rbx (rv nv pv : Value) (r : R15) : List Value := [rv, nv, .int .i64 r.limit, pv, .int .i64 r.used, .int .i64 r.last, .int .i64 r.top]
def RK (rb : Nat) (pv : Value) (r : R15) (c : Ck) : Prop :=
  ∃ rv nv rc nc, c = [(rb, cb (rbx rv nv pv r) 58)] ++ (rc ++ nc) ∧ Sl 60 18 rv r.rows.length (r.rows.flatMap rowC) rc ∧ Sl 100 4 nv r.notes.length (r.notes.flatMap ntC) nc ∧ ∀ p ∈ r.rows, ∀ u ∈ trC p.2, u.oneCell' = true
def newR (limit : Int) (picks : List Int) : R15 := ⟨[], [], min (max limit 0) 1000, picks, 0, 0, 0⟩
theorem build_ref (w : World) (l : Int) (pa : Option Addr) (n cap : Nat) : (Instr.build 58 #[(2, .int .i64 l), (3, .slice pa n cap)]).run Try.prog w = .ok (.agg #[.slice none 0 0, .slice none 0 0, .int .i64 l, .slice pa n cap, .int .i64 0, .int .i64 0, .int .i64 0]) w := by kernel_rfl

set_option maxRecDepth 20000 in
theorem f14_calls (limit : Int) (pa : Option Addr) (n cap : Nat) (picks : List Int) : Ctr Try.prog 14 #[.int .i64 limit, .slice pa n cap] [] (fun _ => True) (fun v c => ∃ rb, v = .pointer (some ⟨rb, 0, none⟩) ∧ RK rb (.slice pa n cap) (newR limit picks) c) := by
  intro w0 hp hro
  have hs : St w0 (ks []) [] w0 := St.start w0
  refine calls_W (n := 11) Try.func14 rfl Try.ntmps14 (by simp) ?_
  refine W_seq ?_
  -- region 0
  refine W_region (by decide +kernel) ?_
  refine sq_r r_assign rfl ?_
  refine sq_z ?_
  refine W_seq ?_
  -- region 1
  refine W_region (by decide +kernel) ?_
  refine sq_r r_move rfl ?_
  refine sq_r (r_max rfl rfl) rfl ?_
  refine sq_r (r_min rfl rfl) rfl ?_
  refine sq_r r_move rfl ?_
  refine sq_r (r_buildL (ps := [(2, .int .i64 (min (max limit 0) 1000)), (3, .slice pa n cap)]) rfl (build_ref _ _ _ _ _)) rfl ?_
  refine sq_e rfl (o_box (cs := rbx (.slice none 0 0) (.slice none 0 0) (.slice pa n cap) (newR limit picks)) hs rfl ?_); intro rb w hs
  refine sq_r r_assign rfl ?_
  refine sq_z ?_
  refine W_ret ?_
  exact ret1 rfl (by decide) rfl (fin (c' := [(rb, cb (rbx (.slice none 0 0) (.slice none 0 0) (.slice pa n cap) (newR limit picks)) 58)] ++ ([] ++ [])) hs ⟨rb, rfl, .slice none 0 0, .slice none 0 0, [], [], rfl, Sl.nil 60 18, Sl.nil 100 4, by simp [newR]⟩ (by simp))

/-- A key's place; -1: none. -/
def rowP (k : Ky) (p : Int × LT) : Bool := decide (p.2.key = k)
def rfind (r : R15) (k : Ky) : Int := match r.rows.findIdx? (rowP k) with | some i => (i : Int) | none => -1
theorem fidx_none {α : Type} {p : α → Bool} {xs : List α} (h : ∀ (j : Nat) y, xs[j]? = some y → p y = false) : xs.findIdx? p = none := by
  rw [List.findIdx?_eq_none_iff]
  intro x hx
  obtain ⟨j, hj⟩ := List.mem_iff_getElem?.1 hx
  exact h j x hj
theorem fidx_some {α : Type} {p : α → Bool} {xs : List α} {i : Nat} {x : α} (hx : xs[i]? = some x) (hp : p x = true) (hj : ∀ (j : Nat) y, j < i → xs[j]? = some y → p y = false) : xs.findIdx? p = some i := by
  have hi := (List.getElem?_eq_some_iff.1 hx).1
  rw [List.findIdx?_eq_some_iff_getElem]
  exact ⟨hi, by rw [(List.getElem?_eq_some_iff.1 hx).2]; exact hp, fun j hji => by rw [hj j _ hji (List.getElem?_eq_getElem (by omega))]; decide⟩

set_option maxRecDepth 20000 in
set_option maxHeartbeats 1000000 in
theorem f44_calls (rb : Nat) (pv : Value) (r : R15) (c : Ck) (hc : RK rb pv r c) (k : Ky) (hn : r.rows.length ≤ 2000000) : Ctr Try.prog 44 #[.pointer (some ⟨rb, 0, none⟩), encV k] [] (Hp c) (fun v d => v = .int .i64 (rfind r k) ∧ d = []) := by
  intro w0 hp hro
  have hs : St w0 (ks []) [] w0 := St.start w0
  have hC : ∀ {w : World} {cs : List Ck}, St w0 (ks []) cs w → Hp c w := fun hs => hro.old hs (by simp [ks])
  have hmax : 20000000000000 ≤ maxLen := by decide +kernel
  have hc0 := hc
  obtain ⟨rv, nv, rc, nc, hce, hrs, hns, hr1⟩ := hc0
  obtain ⟨ra, rcap, rfl⟩ := hrs.len
  obtain ⟨na, ncap, rfl⟩ := hns.len
  have hB : ∀ {w : World}, Hp c w → w.heap[rb]? = some (cb (rbx (.slice ra r.rows.length rcap) (.slice na r.notes.length ncap) pv r) 58) := fun h => h.has (rb, cb (rbx (.slice ra r.rows.length rcap) (.slice na r.notes.length ncap) pv r) 58) (by rw [hce]; simp)
  have hRr : ∀ {w : World}, Hp c w → RdG 18 rowC (· ∈ ks rc) (.slice ra r.rows.length rcap) r.rows w := fun h => sl_rd rowC_len (by decide) hrs (by rw [hce] at h; exact h.right.left)
  have hRn : ∀ {w : World}, Hp c w → RdG 4 ntC (· ∈ ks nc) (.slice na r.notes.length ncap) r.notes w := fun h => sl_rd ntC_len (by decide) hns (by rw [hce] at h; exact h.right.right)
  refine calls_W (n := 24) Try.func44 rfl Try.ntmps44 (by simp) ?_
  refine W_seq ?_
  -- region 0
  refine W_region (by decide +kernel) ?_
  refine sq_e rfl (o_box (cs := ic k.toList) hs rfl ?_); intro b3 w hs
  refine sq_r r_assign rfl ?_
  refine sq_z ?_
  have hs : St w0 (ks []) [[(b3, cb (ic k.toList) 26)]] w := hs
  refine W_seq ?_
  refine W_seq ?_
  -- region 1
  refine W_region (by decide +kernel) ?_
  refine sq_r r_move rfl ?_
  refine sq_r (r_nilCheck rfl) rfl ?_
  refine sq_r (r_field rfl fa58_0) rfl ?_
  refine sq_r (r_load1 rfl ty55 (At.one (hB (hC hs)) rfl)) rfl ?_
  refine sq_r (r_lenS Try.underlying55 rfl) rfl ?_
  refine sq_r r_move rfl ?_
  refine sq_z ?_
  refine W_block ?_
  refine W_loop (fun (i : Nat) f w => ∃ g, f = ov [(3, .pointer (some ⟨b3, 0, none⟩)), (10, .slice ra r.rows.length rcap), (11, .int .i64 r.rows.length), (12, .int .i64 i)] g ∧ i ≤ r.rows.length ∧ (∀ (j : Nat) y, j < i → r.rows[j]? = some y → rowP k y = false) ∧ St w0 (ks []) [[(b3, cb (ic k.toList) 26)]] w) (fun i => r.rows.length - i) 0 ?_ ?_
  · exact ⟨_, ov_self ⟨rfl, rfl, rfl, rfl, trivial⟩, Nat.zero_le _, fun j _ hj => absurd hj (Nat.not_lt_zero j), hs⟩
  clear hs
  rintro i f w ⟨g, rfl, hi, hall, hs⟩
  refine W_seq ?_
  refine W_region (by decide +kernel) ?_
  refine sq_r (r_cmp rfl rfl rfl) rfl ?_
  refine sq_z ?_
  refine W_seq ?_
  refine W_cond rfl rfl (fun hd => ?_) (fun hd => ?_)
  · have hlt : i < r.rows.length := by have := of_decide_eq_true hd; omega
    obtain ⟨p, hp⟩ : ∃ p, r.rows[i]? = some p := ⟨_, List.getElem?_eq_getElem hlt⟩
    obtain ⟨b, off, rfl, _, _⟩ := (hRr (hC hs)).get hp
    have h1 := rowC_one (hr1 p (List.mem_of_getElem? hp))
    refine W_skip ?_
    refine W_seq ?_
    refine W_block ?_
    refine W_seq ?_
    -- region 3
    refine W_region (by decide +kernel) ?_
    refine sq_r r_move rfl ?_
    refine sq_r (r_index rfl rfl sl55 (by omega) (by omega)) rfl ?_
    refine sq_r (r_loadN rfl ty60 (rowC_len p) ((hRr (hC hs)).get2 hp)) rfl ?_
    refine sq_e rfl (o_alloc hs ty60 ?_); intro b6 w hs
    refine sq_r r_assign rfl ?_
    refine sq_e rfl (o_store (i := 1) (vs := rowC p) hs rfl rfl (by rw [rowC_len]; exact ty60) rfl h1 (by simp [rowC_len]) ?_); intro w hs
    refine sq_z ?_
    have hs : St w0 (ks []) [[(b3, cb (ic k.toList) 26)], [(b6, cb (rowC p) 60)]] w := by
      rw [← spl_all (cs := [Value.int .i64 0, .int .i64 0, .int .i64 0, .int .i64 0, .int .i64 0, .int .i64 0, .int .i64 0, .int .i64 0, .int .i64 0, .int .i64 0, .int .i64 0, .int .i64 0, .int .i64 0, .slice none 0 0, .slice none 0 0, .slice none 0 0, .slice none 0 0, .slice none 0 0]) (vs := rowC p) (by simp [rowC_len])]
      exact hs
    refine W_seq ?_
    -- region 4
    refine W_region (by decide +kernel) ?_
    refine sq_r (r_field rfl fa60_1) rfl ?_
    refine sq_r (r_field rfl fa33_0) rfl ?_
    refine sq_r (r_loadN (vs := ic p.2.key.toList) rfl ty26 (by simp) (At.of_block (hs.own (i := 1) rfl) (by simpa using rowC_key p))) rfl ?_
    refine sq_r (r_loadN (vs := ic k.toList) rfl ty26 (by simp) (At.of_block (hs.own (i := 0) rfl) (ic_all _))) rfl ?_
    refine sq_r (r_eqS (a := p.2.key) (b := k) Try.underlying26 flat26 (by decide) guard26 rfl rfl) rfl ?_
    refine sq_z ?_
    refine W_cond rfl rfl (fun hc => ?_) (fun hc => ?_)
    · refine W_seq ?_
      -- region 5
      refine W_region (by decide +kernel) ?_
      refine sq_r r_move rfl ?_
      refine sq_r r_assign rfl ?_
      refine sq_z ?_
      refine W_ret ?_
      repeat with_reducible first | refine thenQ_ret ?_ | refine blockQ_ret ?_
      exact ret1 (v := .int .i64 i) rfl (by decide) rfl (fin (c' := []) hs ⟨by rw [rfind, fidx_some hp hc hall], rfl⟩ (by simp))
    · refine W_skip ?_
      -- region 6
      refine W_region (by decide +kernel) ?_
      refine sq_r (r_add rfl rfl (wrap_small (by omega) (by omega))) rfl ?_
      refine sq_r r_move rfl ?_
      refine sq_z ?_
      refine ⟨i + 1, ⟨_, ov_self ⟨rfl, rfl, rfl, rfl, trivial⟩, by omega, fun j y hj hy => ?_, hs.keep (by simp)⟩, by omega⟩
      by_cases hji : j < i
      · exact hall j y hji hy
      · obtain rfl : j = i := by omega
        rw [hp] at hy
        cases hy
        exact hc
  · have hin : i = r.rows.length := by have := of_decide_eq_false hd; omega
    subst hin
    refine W_exit ?_
    refine W_seq ?_
    -- region 7
    refine W_region (by decide +kernel) ?_
    refine sq_r r_assign rfl ?_
    refine sq_z ?_
    refine W_ret ?_
    exact ret1 (v := .int .i64 (-1)) rfl (by decide) rfl (fin (c' := []) hs ⟨by rw [rfind, fidx_none fun j y hy => hall j y (List.getElem?_eq_some_iff.1 hy).1 hy], rfl⟩ (by simp))

/-- Whether a row has the id. -/
def rheld (r : R15) (id : Int) : Bool := r.rows.any fun p => p.1 == id
set_option maxRecDepth 20000 in
set_option maxHeartbeats 1000000 in
theorem f46_calls (rb : Nat) (pv : Value) (r : R15) (c : Ck) (hc : RK rb pv r c) (id : Int) (hn : r.rows.length ≤ 2000000) : Ctr Try.prog 46 #[.pointer (some ⟨rb, 0, none⟩), .int .i64 id] [] (Hp c) (fun v d => v = .bool (rheld r id) ∧ d = []) := by
  intro w0 hp hro
  have hs : St w0 (ks []) [] w0 := St.start w0
  have hC : ∀ {w : World} {cs : List Ck}, St w0 (ks []) cs w → Hp c w := fun hs => hro.old hs (by simp [ks])
  have hmax : 20000000000000 ≤ maxLen := by decide +kernel
  have hc0 := hc
  obtain ⟨rv, nv, rc, nc, hce, hrs, hns, hr1⟩ := hc0
  obtain ⟨ra, rcap, rfl⟩ := hrs.len
  obtain ⟨na, ncap, rfl⟩ := hns.len
  have hB : ∀ {w : World}, Hp c w → w.heap[rb]? = some (cb (rbx (.slice ra r.rows.length rcap) (.slice na r.notes.length ncap) pv r) 58) := fun h => h.has (rb, cb (rbx (.slice ra r.rows.length rcap) (.slice na r.notes.length ncap) pv r) 58) (by rw [hce]; simp)
  have hRr : ∀ {w : World}, Hp c w → RdG 18 rowC (· ∈ ks rc) (.slice ra r.rows.length rcap) r.rows w := fun h => sl_rd rowC_len (by decide) hrs (by rw [hce] at h; exact h.right.left)
  have hRn : ∀ {w : World}, Hp c w → RdG 4 ntC (· ∈ ks nc) (.slice na r.notes.length ncap) r.notes w := fun h => sl_rd ntC_len (by decide) hns (by rw [hce] at h; exact h.right.right)
  refine calls_W (n := 21) Try.func46 rfl Try.ntmps46 (by simp) ?_
  refine W_seq ?_
  -- region 0
  refine W_region (by decide +kernel) ?_
  refine sq_r r_assign rfl ?_
  refine sq_z ?_
  refine W_seq ?_
  refine W_seq ?_
  -- region 1
  refine W_region (by decide +kernel) ?_
  refine sq_r r_move rfl ?_
  refine sq_r (r_nilCheck rfl) rfl ?_
  refine sq_r (r_field rfl fa58_0) rfl ?_
  refine sq_r (r_load1 rfl ty55 (At.one (hB (hC hs)) rfl)) rfl ?_
  refine sq_r (r_lenS Try.underlying55 rfl) rfl ?_
  refine sq_r r_move rfl ?_
  refine sq_z ?_
  refine W_block ?_
  refine W_loop (fun (i : Nat) f w => ∃ g, f = ov [(1, .int .i64 id), (10, .slice ra r.rows.length rcap), (11, .int .i64 r.rows.length), (12, .int .i64 i)] g ∧ i ≤ r.rows.length ∧ (∀ (j : Nat) y, j < i → r.rows[j]? = some y → (y.1 == id) = false) ∧ St w0 (ks []) [] w) (fun i => r.rows.length - i) 0 ?_ ?_
  · exact ⟨_, ov_self ⟨rfl, rfl, rfl, rfl, trivial⟩, Nat.zero_le _, fun j _ hj => absurd hj (Nat.not_lt_zero j), hs⟩
  clear hs
  rintro i f w ⟨g, rfl, hi, hall, hs⟩
  refine W_seq ?_
  refine W_region (by decide +kernel) ?_
  refine sq_r (r_cmp rfl rfl rfl) rfl ?_
  refine sq_z ?_
  refine W_seq ?_
  refine W_cond rfl rfl (fun hd => ?_) (fun hd => ?_)
  · have hlt : i < r.rows.length := by have := of_decide_eq_true hd; omega
    obtain ⟨p, hp⟩ : ∃ p, r.rows[i]? = some p := ⟨_, List.getElem?_eq_getElem hlt⟩
    obtain ⟨b, off, rfl, _, _⟩ := (hRr (hC hs)).get hp
    have h1 := rowC_one (hr1 p (List.mem_of_getElem? hp))
    refine W_skip ?_
    refine W_seq ?_
    refine W_block ?_
    refine W_seq ?_
    -- region 3
    refine W_region (by decide +kernel) ?_
    refine sq_r (r_index rfl rfl sl55 (by omega) (by omega)) rfl ?_
    refine sq_r (r_loadN rfl ty60 (rowC_len p) ((hRr (hC hs)).get2 hp)) rfl ?_
    refine sq_e rfl (o_alloc hs ty60 ?_); intro b6 w hs
    refine sq_e rfl (o_store (i := 0) (vs := rowC p) hs rfl rfl (by rw [rowC_len]; exact ty60) rfl h1 (by simp [rowC_len]) ?_); intro w hs
    refine sq_z ?_
    have hs : St w0 (ks []) [[(b6, cb (rowC p) 60)]] w := by
      rw [← spl_all (cs := [Value.int .i64 0, .int .i64 0, .int .i64 0, .int .i64 0, .int .i64 0, .int .i64 0, .int .i64 0, .int .i64 0, .int .i64 0, .int .i64 0, .int .i64 0, .int .i64 0, .int .i64 0, .slice none 0 0, .slice none 0 0, .slice none 0 0, .slice none 0 0, .slice none 0 0]) (vs := rowC p) (by simp [rowC_len])]
      exact hs
    refine W_seq ?_
    -- region 4
    refine W_region (by decide +kernel) ?_
    refine sq_r (r_field rfl fa60_0) rfl ?_
    refine sq_r (r_load1 rfl ty3 (At.one (v := .int .i64 p.1) (hs.own (i := 0) rfl) rfl)) rfl ?_
    refine sq_r r_move rfl ?_
    refine sq_r (r_cmp rfl rfl rfl) rfl ?_
    refine sq_z ?_
    refine W_cond rfl rfl (fun hc => ?_) (fun hc => ?_)
    · refine W_seq ?_
      -- region 5
      refine W_region (by decide +kernel) ?_
      refine sq_r r_assign rfl ?_
      refine sq_z ?_
      refine W_ret ?_
      repeat with_reducible first | refine thenQ_ret ?_ | refine blockQ_ret ?_
      exact ret1 (v := .bool true) rfl (by decide) rfl (fin (c' := []) hs ⟨by rw [rheld, List.any_eq_true.2 ⟨p, List.mem_of_getElem? hp, hc⟩], rfl⟩ (by simp))
    · refine W_skip ?_
      -- region 6
      refine W_region (by decide +kernel) ?_
      refine sq_r (r_add rfl rfl (wrap_small (by omega) (by omega))) rfl ?_
      refine sq_r r_move rfl ?_
      refine sq_z ?_
      refine ⟨i + 1, ⟨_, ov_self ⟨rfl, rfl, rfl, rfl, trivial⟩, by omega, fun j y hj hy => ?_, hs.keep (by simp)⟩, by omega⟩
      by_cases hji : j < i
      · exact hall j y hji hy
      · obtain rfl : j = i := by omega
        rw [hp] at hy
        cases hy
        exact hc
  · have hin : i = r.rows.length := by have := of_decide_eq_false hd; omega
    subst hin
    refine W_exit ?_
    refine W_seq ?_
    -- region 7
    refine W_region (by decide +kernel) ?_
    refine sq_r r_assign rfl ?_
    refine sq_z ?_
    refine W_ret ?_
    refine ret1 (v := .bool false) rfl (by decide) rfl (fin (c' := []) hs ⟨?_, rfl⟩ (by simp))
    rw [rheld, List.any_eq_false.2 fun x hx => by
      obtain ⟨j, hj⟩ := List.mem_iff_getElem?.1 hx
      simp [hall j x (List.getElem?_eq_some_iff.1 hj).1 hj]]

/-- Where a place leads on to. -/
def ntL (id op : Int) (n : Nt) : Bool := n.id == id && n.op == op && n.to != 0
def rlinked (r : R15) (id op : Int) : Option Int := (r.notes.find? (ntL id op)).map (·.to)
set_option maxRecDepth 20000 in
set_option maxHeartbeats 1000000 in
theorem f33_calls (rb : Nat) (pv : Value) (r : R15) (c : Ck) (hc : RK rb pv r c) (id op : Int) (hn : r.notes.length ≤ 4000000000000) : Ctr Try.prog 33 #[.pointer (some ⟨rb, 0, none⟩), .int .i64 id, .int .i64 op] [] (Hp c) (fun v d => v = .tuple #[.int .i64 ((rlinked r id op).getD 0), .bool (rlinked r id op).isSome] ∧ d = []) := by
  intro w0 hp hro
  have hs : St w0 (ks []) [] w0 := St.start w0
  have hC : ∀ {w : World} {cs : List Ck}, St w0 (ks []) cs w → Hp c w := fun hs => hro.old hs (by simp [ks])
  have hmax : 20000000000000 ≤ maxLen := by decide +kernel
  have hc0 := hc
  obtain ⟨rv, nv, rc, nc, hce, hrs, hns, hr1⟩ := hc0
  obtain ⟨ra, rcap, rfl⟩ := hrs.len
  obtain ⟨na, ncap, rfl⟩ := hns.len
  have hB : ∀ {w : World}, Hp c w → w.heap[rb]? = some (cb (rbx (.slice ra r.rows.length rcap) (.slice na r.notes.length ncap) pv r) 58) := fun h => h.has (rb, cb (rbx (.slice ra r.rows.length rcap) (.slice na r.notes.length ncap) pv r) 58) (by rw [hce]; simp)
  have hRr : ∀ {w : World}, Hp c w → RdG 18 rowC (· ∈ ks rc) (.slice ra r.rows.length rcap) r.rows w := fun h => sl_rd rowC_len (by decide) hrs (by rw [hce] at h; exact h.right.left)
  have hRn : ∀ {w : World}, Hp c w → RdG 4 ntC (· ∈ ks nc) (.slice na r.notes.length ncap) r.notes w := fun h => sl_rd ntC_len (by decide) hns (by rw [hce] at h; exact h.right.right)
  refine calls_W (n := 37) Try.func33 rfl Try.ntmps33 (by simp) ?_
  refine W_seq ?_
  -- region 0
  refine W_region (by decide +kernel) ?_
  refine sq_r r_assign rfl ?_
  refine sq_r r_assign rfl ?_
  refine sq_z ?_
  refine W_seq ?_
  refine W_seq ?_
  -- region 1
  refine W_region (by decide +kernel) ?_
  refine sq_r r_move rfl ?_
  refine sq_r (r_nilCheck rfl) rfl ?_
  refine sq_r (r_field rfl fa58_1) rfl ?_
  refine sq_r (r_load1 rfl ty56 (At.one (hB (hC hs)) rfl)) rfl ?_
  refine sq_r (r_lenS Try.underlying56 rfl) rfl ?_
  refine sq_r r_move rfl ?_
  refine sq_z ?_
  refine W_block ?_
  refine W_loop (fun (i : Nat) f w => ∃ g, f = ov [(1, .int .i64 id), (2, .int .i64 op), (13, .slice na r.notes.length ncap), (14, .int .i64 r.notes.length), (15, .int .i64 i)] g ∧ i ≤ r.notes.length ∧ (∀ (j : Nat) y, j < i → r.notes[j]? = some y → ntL id op y = false) ∧ St w0 (ks []) [] w) (fun i => r.notes.length - i) 0 ?_ ?_
  · exact ⟨_, ov_self ⟨rfl, rfl, rfl, rfl, rfl, trivial⟩, Nat.zero_le _, fun j _ hj => absurd hj (Nat.not_lt_zero j), hs⟩
  clear hs
  rintro i f w ⟨g, rfl, hi, hall, hs⟩
  refine W_seq ?_
  refine W_region (by decide +kernel) ?_
  refine sq_r (r_cmp rfl rfl rfl) rfl ?_
  refine sq_z ?_
  refine W_seq ?_
  refine W_cond rfl rfl (fun hd => ?_) (fun hd => ?_)
  · have hlt : i < r.notes.length := by have := of_decide_eq_true hd; omega
    obtain ⟨p, hp⟩ : ∃ p, r.notes[i]? = some p := ⟨_, List.getElem?_eq_getElem hlt⟩
    obtain ⟨b, off, rfl, _, _⟩ := (hRn (hC hs)).get hp
    refine W_skip ?_
    refine W_seq ?_
    refine W_block ?_
    refine W_seq ?_
    -- region 3
    refine W_region (by decide +kernel) ?_
    refine sq_r (r_index rfl rfl sl56 (by omega) (by omega)) rfl ?_
    refine sq_r (r_loadN rfl ty100 (ntC_len p) ((hRn (hC hs)).get2 hp)) rfl ?_
    refine sq_e rfl (o_alloc hs ty100 ?_); intro b6 w hs
    refine sq_e rfl (o_store (i := 0) (vs := ntC p) hs rfl rfl ty100 rfl (ntC_one p) (by simp [ntC_len]) ?_); intro w hs
    refine sq_z ?_
    have hs : St w0 (ks []) [[(b6, cb (ntC p) 100)]] w := hs
    refine W_mid (M := fun f w => ∃ g, f = ov [(1, .int .i64 id), (2, .int .i64 op), (9, .pointer (some ⟨b6, 0, none⟩)), (13, .slice (some ⟨b, off, none⟩) r.notes.length ncap), (14, .int .i64 r.notes.length), (15, .int .i64 i), (33, .bool (ntL id op p))] g ∧ St w0 (ks []) [[(b6, cb (ntC p) 100)]] w) ?_ (fun f w hM => ?_)
    · -- region 4
      refine W_region (by decide +kernel) ?_
      refine sq_r (r_field rfl fa100_0) rfl ?_
      refine sq_r (r_load1 rfl ty3 (At.one (v := .int .i64 p.id) (hs.own (i := 0) rfl) rfl)) rfl ?_
      refine sq_r r_move rfl ?_
      refine sq_r (r_cmp rfl rfl rfl) rfl ?_
      cases h1 : (p.id == id)
      · refine sq_r r_move rfl ?_
        refine sq_n rfl ?_
        refine sq_n rfl ?_
        refine sq_n rfl ?_
        refine sq_n rfl ?_
        refine sq_r (r_pick (b := false) rfl) rfl ?_
        refine sq_r r_move rfl ?_
        refine sq_n rfl ?_
        refine sq_n rfl ?_
        refine sq_n rfl ?_
        refine sq_r (r_pick (b := false) rfl) rfl ?_
        refine sq_z ?_
        exact ⟨_, ov_self ⟨rfl, rfl, rfl, rfl, rfl, rfl, by simp [ntL, h1]; rfl, trivial⟩, hs⟩
      · refine sq_r r_move rfl ?_
        refine sq_r (r_field rfl fa100_1) rfl ?_
        refine sq_r (r_load1 rfl ty3 (At.one (v := .int .i64 p.op) (hs.own (i := 0) rfl) rfl)) rfl ?_
        refine sq_r r_move rfl ?_
        refine sq_r (r_cmp rfl rfl rfl) rfl ?_
        refine sq_r (r_pick (b := true) rfl) rfl ?_
        cases h2 : (p.op == op)
        · refine sq_r r_move rfl ?_
          refine sq_n rfl ?_
          refine sq_n rfl ?_
          refine sq_n rfl ?_
          refine sq_r (r_pick (b := false) rfl) rfl ?_
          refine sq_z ?_
          exact ⟨_, ov_self ⟨rfl, rfl, rfl, rfl, rfl, rfl, by simp [ntL, h1, h2]; rfl, trivial⟩, hs⟩
        · refine sq_r r_move rfl ?_
          refine sq_r (r_field rfl fa100_3) rfl ?_
          refine sq_r (r_load1 rfl ty3 (At.one (v := .int .i64 p.to) (hs.own (i := 0) rfl) rfl)) rfl ?_
          refine sq_r (r_cmp rfl rfl rfl) rfl ?_
          refine sq_r (r_pick (b := true) rfl) rfl ?_
          refine sq_z ?_
          exact ⟨_, ov_self ⟨rfl, rfl, rfl, rfl, rfl, rfl, by simp [ntL, h1, h2]; rfl, trivial⟩, hs⟩
    obtain ⟨g, rfl, hs⟩ := hM
    refine W_cond rfl rfl (fun hc => ?_) (fun hc => ?_)
    · have hf : rlinked r id op = some p.to := by
        rw [rlinked, show r.notes.find? (ntL id op) = some p from ?_]
        · rfl
        · rw [List.find?_eq_some_iff_getElem]
          refine ⟨hc, i, hlt, (List.getElem?_eq_some_iff.1 hp).2, fun j hj => by rw [hall j _ hj (List.getElem?_eq_getElem (by omega))]; rfl⟩
      refine W_seq ?_
      -- region 5
      refine W_region (by decide +kernel) ?_
      refine sq_r (r_field rfl fa100_3) rfl ?_
      refine sq_r (r_load1 rfl ty3 (At.one (v := .int .i64 p.to) (hs.own (i := 0) rfl) rfl)) rfl ?_
      refine sq_r r_assign rfl ?_
      refine sq_r r_assign rfl ?_
      refine sq_z ?_
      refine W_ret ?_
      repeat with_reducible first | refine thenQ_ret ?_ | refine blockQ_ret ?_
      exact ret2 (v := .int .i64 p.to) (v2 := .bool true) rfl (by decide) (by decide) rfl rfl (fin (c' := []) hs ⟨by rw [hf]; rfl, rfl⟩ (by simp))
    · refine W_skip ?_
      -- region 6
      refine W_region (by decide +kernel) ?_
      refine sq_r (r_add rfl rfl (wrap_small (by omega) (by omega))) rfl ?_
      refine sq_r r_move rfl ?_
      refine sq_z ?_
      refine ⟨i + 1, ⟨_, ov_self ⟨rfl, rfl, rfl, rfl, rfl, trivial⟩, by omega, fun j y hj hy => ?_, hs.keep (by simp)⟩, by omega⟩
      by_cases hji : j < i
      · exact hall j y hji hy
      · obtain rfl : j = i := by omega
        rw [hp] at hy
        cases hy
        exact hc
  · have hin : i = r.notes.length := by have := of_decide_eq_false hd; omega
    subst hin
    have hf : rlinked r id op = none := by
      rw [rlinked, List.find?_eq_none.2 fun x hx => by
        obtain ⟨j, hj⟩ := List.mem_iff_getElem?.1 hx
        rw [hall j x (List.getElem?_eq_some_iff.1 hj).1 hj]
        decide]
      rfl
    refine W_exit ?_
    refine W_seq ?_
    -- region 7
    refine W_region (by decide +kernel) ?_
    refine sq_r r_assign rfl ?_
    refine sq_r r_assign rfl ?_
    refine sq_z ?_
    refine W_ret ?_
    exact ret2 (v := .int .i64 0) (v2 := .bool false) rfl (by decide) (by decide) rfl rfl (fin (c' := []) hs ⟨by rw [hf]; rfl, rfl⟩ (by simp))

end Go.Proofs.Ytddhdoncjfgfnaa
