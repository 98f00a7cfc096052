/-
  Layer 17: bytes as text, and texts alike. No condition.
-/
import Derived.Test.YtfojeengapebmaaRSrcs
import Derived.Laws.BytesString
namespace Go.Proofs.Ytfojeengapebmaa
open Go.Eng

/-- Bytes as text. -/
def txt (l : List Int) : ByteArray := l.foldl (fun r n => r.push (UInt8.ofNat n.toNat)) ByteArray.empty
section
variable {w : World} {f : Fm} {d : Option Nat} {ty : TypeId} {pos : String} {after : Array Edge} {g : Option (Nat × Bool)}
theorem r_text {B : Nat → Prop} {x : Operand} {v : Value} {l : List Int} (hx : ev f x = v) (h : RB B v l w) : (execOp (ev f) ⟨d, .convert 42 9 x, ty, pos, after, g⟩).run Try.prog w = .ok (.value (.string (txt l))) w := by
  obtain ⟨a, cap, rfl, hl, hall⟩ := h
  have h1 := run_convert_bytes_string (P := Try.prog) w 42 9 5 a l.length cap Try.underlying42 Try.underlying5 Try.underlying9
  have h2 : (Conv.bytesToString (.slice a l.length cap)).run Try.prog w = .ok (.string (txt l)) w := by
    cases a with
    | none =>
      have : l = [] := by
        cases l with
        | nil => rfl
        | cons c r => obtain ⟨b, off, e, _⟩ := hall 0 c rfl; cases e
      subst this
      simp [Conv.bytesToString, txt]
    | some a =>
      refine run_bytesToString w a l.length cap l ?_
      have h3 := run_loadCells_list (P := Try.prog) w a (l.map (Value.int .u8)) (fun j v hj => by
        rw [List.getElem?_map] at hj
        obtain ⟨c, hc, rfl⟩ := Option.map_eq_some_iff.1 hj
        obtain ⟨b, off, e, _, hcell⟩ := hall j c hc
        simp only [Option.some.injEq] at e
        subst e
        rw [add_eq]
        exact hcell)
      simpa using h3
  simp only [execOp, hx, Sem.run_bind, h1, h2, Result.andThen_ok, Sem.run_pure]
theorem r_eqText {x y : Operand} {U : TypeId} {s : ByteArray} (hx : ev f x = .string s) (hy : ev f y = .string s) : (execOp (ev f) ⟨d, .binOp .eql 9 x y U, ty, pos, after, g⟩).run Try.prog w = .ok (.value (.bool true)) w := by
  simp [execOp, hx, hy, eqGuard, Go.binOp, Op.stringOp]
end

end Go.Proofs.Ytfojeengapebmaa
