/-
  Layer 15: New, the next number of picks (pick). Conditions: the cache is whole.
-/
import Derived.Test.YtddhdoncjfgfnaaGone
namespace Go.Proofs.Ytddhdoncjfgfnaa
open Go.Eng

def pickN (s : C15) (n : Int) : Int :=
  match s.picks with
  | [] => 0
  | p :: _ => if p.tmod n < 0 then p.tmod n + n else p.tmod n
def pickS (s : C15) : C15 := { s with picks := s.picks.tail }
theorem pickN_rng {s : C15} {n : Int} (hn : 0 < n) : 0 ≤ pickN s n ∧ pickN s n < n := by
  unfold pickN
  split
  · omega
  · rename_i p _ _
    have h1 := Int.tmod_lt_of_pos p hn
    have h2 := Int.lt_tmod_of_pos p hn
    split <;> omega

set_option maxRecDepth 20000 in
set_option maxHeartbeats 1000000 in
theorem f26_calls (bb mh mf ml : Nat) (ov pv : Value) (s : C15) (pc : Ck) (n : Int) (hn : 0 < n) (hn2 : n ≤ 1000000) (hp' : ∀ w, Hp pc w → RdG 1 iF (· ∈ ks pc) pv s.picks w) (hq : ∃ a cap, pv = .slice a s.picks.length cap ∧ s.picks.length ≤ cap) (hbp : bb ∉ ks pc) (h63 : s.picks.length ≤ 17592186043904) :
    Ctr Try.prog 26 #[.pointer (some ⟨bb, 0, none⟩), .int .i64 n] [(bb, cb (bx mh mf ml ov pv s) 65)] (Hp pc) (fun r c => r = .int .i64 (pickN s n) ∧ ∃ pv', (∀ w, Hp pc w → RdG 1 iF (· ∈ ks pc) pv' (pickS s).picks w) ∧ (∃ a cap, pv' = .slice a (pickS s).picks.length cap ∧ (pickS s).picks.length ≤ cap) ∧ c = [(bb, cb (bx mh mf ml ov pv' (pickS s)) 65)]) := by
  intro w0 hp hro
  have hs : St w0 (ks [(bb, cb (bx mh mf ml ov pv s) 65)]) [[(bb, cb (bx mh mf ml ov pv s) 65)]] w0 := hp.st
  obtain ⟨a, cap, rfl, hcap⟩ := hq
  refine calls_W (n := 34) Try.func26 rfl Try.ntmps26 (by simp) ?_
  refine W_seq ?_
  -- region 0
  refine W_region (by decide +kernel) ?_
  refine sq_r r_assign rfl ?_
  refine sq_z ?_
  refine W_seq ?_
  refine W_seq ?_
  -- region 1
  refine W_region (by decide +kernel) ?_
  refine sq_r r_move rfl ?_
  refine sq_r (r_nilCheck rfl) rfl ?_
  refine sq_r (r_field rfl fa65_5) rfl ?_
  refine sq_r (r_load1 rfl ty27 (At.one (hs.own (i := 0) rfl) rfl)) rfl ?_
  refine sq_r (r_lenS Try.underlying27 rfl) rfl ?_
  refine sq_r (r_cmp rfl rfl rfl) rfl ?_
  refine sq_z ?_
  refine W_cond rfl rfl (fun hc => ?_) (fun hc => ?_)
  · have hpe : s.picks = [] := by
      have : (s.picks.length : Int) = 0 := by simpa using hc
      exact List.length_eq_zero_iff.1 (by omega)
    refine W_seq ?_
    -- region 2
    refine W_region (by decide +kernel) ?_
    refine sq_r r_assign rfl ?_
    refine sq_z ?_
    refine W_ret ?_
    repeat with_reducible first | refine thenQ_ret ?_ | refine blockQ_ret ?_
    have e : (pickS s).picks = s.picks := by simp [pickS, hpe]
    exact ret1 (v := .int .i64 0) rfl (by decide) rfl (fin (c' := [(bb, cb (bx mh mf ml ov (.slice a s.picks.length cap) (pickS s)) 65)]) hs ⟨by simp [pickN, hpe], .slice a s.picks.length cap, by rw [e]; exact hp', ⟨a, cap, by rw [e], by rw [e]; exact hcap⟩, rfl⟩ (by simp [bx, pickS]))
  · obtain ⟨p, ps, hpe⟩ : ∃ p ps, s.picks = p :: ps := by
      cases h : s.picks with
      | nil => rw [h] at hc; cases hc
      | cons p ps => exact ⟨p, ps, rfl⟩
    have h0 : s.picks[0]? = some p := by rw [hpe]; rfl
    have hl0 : 0 < s.picks.length := (List.getElem?_eq_some_iff.1 h0).1
    obtain ⟨b, off, rfl, _, _⟩ := (hp' w0 hro).get h0
    have hpN : pickN s n = if p.tmod n < 0 then p.tmod n + n else p.tmod n := by simp only [pickN, hpe]
    have hcell : ∀ {w : World} {cs : List Ck}, St w0 (ks [(bb, cb (bx mh mf ml ov (.slice (some ⟨b, off, none⟩) s.picks.length cap) s) 65)]) cs w → w.cell? ⟨b, off + ((0 : Int)).toNat * 1, none⟩ = some (.int .i64 p) := fun hs =>
      ((hp' _ (hro.old hs (by simp only [ks, List.map_cons, List.map_nil, List.mem_singleton]; intro b hb e; exact hbp (by rw [← e]; exact hb)))).get2 h0) 0 _ rfl
    refine W_skip ?_
    refine W_seq ?_
    -- region 3
    refine W_region (by decide +kernel) ?_
    refine sq_r r_move rfl ?_
    refine sq_r (r_nilCheck rfl) rfl ?_
    refine sq_r (r_field rfl fa65_5) rfl ?_
    refine sq_r (r_load1 rfl ty27 (At.one (hs.own (i := 0) rfl) rfl)) rfl ?_
    refine sq_r (r_index (n := 0) rfl rfl sl27 (by omega) (by omega)) rfl ?_
    refine sq_r (r_load1 rfl ty3 (hcell hs)) rfl ?_
    refine sq_r r_move rfl ?_
    refine sq_r (r_rem rfl rfl (by omega)) rfl ?_
    refine sq_r r_assign rfl ?_
    refine sq_z ?_
    refine W_seq ?_
    -- region 4
    refine W_region (by decide +kernel) ?_
    refine sq_r r_move rfl ?_
    refine sq_r r_move rfl ?_
    refine sq_r (r_nilCheck rfl) rfl ?_
    refine sq_r (r_field rfl fa65_5) rfl ?_
    refine sq_r (r_load1 rfl ty27 (At.one (hs.own (i := 0) rfl) rfl)) rfl ?_
    refine sq_r (r_sliceLo (l := 1) sl27 rfl rfl (by omega) (by omega)) rfl ?_
    refine sq_r (r_nilCheck rfl) rfl ?_
    refine sq_r (r_field rfl fa65_5) rfl ?_
    refine sq_e rfl (o_store (i := 0) (vs := [.slice (some ⟨b, if cap = (1 : Int).toNat then off else off + (1 : Int).toNat * 1, none⟩) (s.picks.length - (1 : Int).toNat) (cap - (1 : Int).toNat)]) hs rfl rfl ty27 rfl (by simp [Value.oneCell']) (by simp [bx]) ?_); intro w hs
    refine sq_z ?_
    have e1 : (pickS s).picks.length = s.picks.length - 1 := by simp [pickS]
    have hs : St w0 (ks [(bb, cb (bx mh mf ml ov (.slice (some ⟨b, off, none⟩) s.picks.length cap) s) 65)]) [[(bb, cb (bx mh mf ml ov (.slice (some ⟨b, if cap = 1 then off else off + 1, none⟩) (pickS s).picks.length (cap - 1)) (pickS s)) 65)]] w := by
      rw [e1]
      exact hs
    have hrd : ∀ w, Hp pc w → RdG 1 iF (· ∈ ks pc) (.slice (some ⟨b, if cap = 1 then off else off + 1, none⟩) (pickS s).picks.length (cap - 1)) (pickS s).picks w := fun w hw => by
      refine ⟨_, _, rfl, fun i x hi => ?_⟩
      have hi' : s.picks[i + 1]? = some x := by rw [hpe]; simpa [pickS, hpe] using hi
      have hil := (List.getElem?_eq_some_iff.1 hi').1
      obtain ⟨b', off', e, hb, hat⟩ := (hp' w hw).get hi'
      simp only [Option.some.injEq, Addr.mk.injEq, and_true] at e
      obtain ⟨rfl, rfl⟩ := e
      refine ⟨b, _, rfl, hb, ?_⟩
      rw [if_neg (by omega), show off + 1 + i * 1 = off + (i + 1) * 1 from by omega]
      exact hat
    have hcc : (pickS s).picks.length ≤ cap - 1 := by rw [e1]; omega
    refine W_seq ?_
    refine W_seq ?_
    -- region 5
    refine W_region (by decide +kernel) ?_
    refine sq_r r_move rfl ?_
    refine sq_r (r_cmp rfl rfl rfl) rfl ?_
    refine sq_z ?_
    have ht1 := Int.tmod_lt_of_pos p hn
    have ht2 := Int.lt_tmod_of_pos p hn
    refine W_cond rfl rfl (fun hc => ?_) (fun hc => ?_)
    · -- region 6
      refine W_region (by decide +kernel) ?_
      refine sq_r r_move rfl ?_
      refine sq_r r_move rfl ?_
      refine sq_r (r_add rfl rfl (wrap_small (by omega) (by omega))) rfl ?_
      refine sq_r r_assign rfl ?_
      refine sq_z ?_
      refine W_seq ?_
      -- region 7
      refine W_region (by decide +kernel) ?_
      refine sq_r r_move rfl ?_
      refine sq_r r_assign rfl ?_
      refine sq_z ?_
      refine W_ret ?_
      exact ret1 (v := .int .i64 (p.tmod n + n)) rfl (by decide) rfl (fin (c' := _) hs ⟨by rw [hpN, if_pos (of_decide_eq_true hc)], _, hrd, ⟨_, _, rfl, hcc⟩, rfl⟩ (by simp))
    · refine W_skip ?_
      refine W_seq ?_
      -- region 7
      refine W_region (by decide +kernel) ?_
      refine sq_r r_move rfl ?_
      refine sq_r r_assign rfl ?_
      refine sq_z ?_
      refine W_ret ?_
      exact ret1 (v := .int .i64 (p.tmod n)) rfl (by decide) rfl (fin (c' := _) hs ⟨by rw [hpN, if_neg (of_decide_eq_false hc)], _, hrd, ⟨_, _, rfl, hcc⟩, rfl⟩ (by simp))

def newK (limit : Int) (picks : List Int) : C15 := ⟨([], 0), [], ([], 0), ([], 0), min (max limit 0) 1000, picks, 0, 0⟩
theorem Ok.new (limit : Int) (picks : List Int) (hp : picks.length ≤ 17592186043904) : Ok (newK limit picks) := ⟨Mwf.nil 0, Mwf.nil 0, Mwf.nil 0, by simp only [newK]; omega, by simp only [newK, List.length_nil]; omega, by simp [newK], hp, by simp [newK], by simp [newK]⟩
theorem build_cache (w : World) (a b c : Nat) (l : Int) (pa : Option Addr) (n cap : Nat) : (Instr.build 65 #[(0, .map (some a)), (2, .map (some b)), (3, .map (some c)), (4, .int .i64 l), (5, .slice pa n cap)]).run Try.prog w = .ok (.agg #[.map (some a), .slice none 0 0, .map (some b), .map (some c), .int .i64 l, .slice pa n cap, .int .i64 0, .int .i64 0]) w := by kernel_rfl

set_option maxRecDepth 20000 in
theorem f9_calls (limit : Int) (v : Value) (picks : List Int) (B : Nat → Prop) (hn : picks.length ≤ 17592186043904) : Ctr Try.prog 9 #[.int .i64 limit, v] [] (RdG 1 iF B v picks) (fun r c => ∃ bb c0, r = .pointer (some ⟨bb, 0, none⟩) ∧ c.Perm c0 ∧ BK bb (newK limit picks) c0) := by
  intro w0 hp hro
  have hs : St w0 (ks []) [] w0 := St.start w0
  refine calls_W (n := 15) Try.func9 rfl Try.ntmps9 (by simp) ?_
  refine W_seq ?_
  -- region 0
  refine W_region (by decide +kernel) ?_
  refine sq_r r_assign rfl ?_
  refine sq_z ?_
  refine W_seq ?_
  -- region 1
  refine W_region (by decide +kernel) ?_
  refine sq_e rfl (o_makeMap hs ?_); intro b0 w hs
  refine sq_e rfl (o_makeMap hs ?_); intro b1 w hs
  refine sq_e rfl (o_makeMap hs ?_); intro b2 w hs
  refine sq_r r_move rfl ?_
  refine sq_r (r_max rfl rfl) rfl ?_
  refine sq_r (r_min rfl rfl) rfl ?_
  refine sq_r r_move rfl ?_
  refine sq_e rfl (o_call0 cb22 rfl rfl (f22_calls v picks B hn) hs (hro.old iF_len (by decide) hs (by simp [ks])) ?_); intro pv pc w hsl hs
  obtain ⟨pa, pcap, rfl⟩ := hsl.len
  refine sq_r (r_buildL (ps := [(0, .map (some b0)), (2, .map (some b1)), (3, .map (some b2)), (4, .int .i64 (min (max limit 0) 1000)), (5, .slice pa picks.length pcap)]) rfl (build_cache _ _ _ _ _ _ _ _)) rfl ?_
  refine sq_e rfl (o_box (cs := bx b0 b1 b2 (.slice none 0 0) (.slice pa picks.length pcap) (newK limit picks)) hs rfl ?_); intro b3 w hs
  refine sq_r r_assign rfl ?_
  refine sq_z ?_
  refine W_ret ?_
  have hcap : picks.length ≤ pcap := by
    rcases hsl.2 with ⟨h1, h2, _, _⟩ | ⟨_, cap', _, h1, _, h3, _, _⟩
    · simp only [Value.slice.injEq] at h1; omega
    · simp only [Value.slice.injEq] at h1; omega
  refine ret1 rfl (by decide) rfl (fin (c' := [(b0, mo encI evT [] 0)] ++ ([(b1, mo encV encI ([] : List (V2 × Int × Nat)) 0)] ++ ([(b2, mo encV encI ([] : List (V2 × Int × Nat)) 0)] ++ (pc ++ [(b3, cb (bx b0 b1 b2 (.slice none 0 0) (.slice pa picks.length pcap) (newK limit picks)) 65)])))) hs
    ⟨b3, _, rfl, ?_, b0, b1, b2, .slice none 0 0, .slice pa picks.length pcap, [], pc, [], ⟨Sl.nil 3 1, fun w hw => sl_rd iF_len (by decide) hsl hw, ⟨pa, pcap, rfl, hcap⟩, by simp [newK]⟩, rfl⟩ (by simp [mo]))
  have h : ∀ (u v x b : Nat × Obj) (p : Ck), List.Perm ([u] ++ ([v] ++ ([x] ++ (p ++ [b])))) ([b] ++ ([u] ++ ([v] ++ ([x] ++ ([] ++ (p ++ [])))))) := fun u v x b p => by
    simp only [List.nil_append, List.append_nil, List.singleton_append]
    have := (List.perm_append_singleton b (u :: v :: x :: p))
    simpa using this
  exact h _ _ _ _ _

end Go.Proofs.Ytddhdoncjfgfnaa
