/-
  No cell of these rows narrows 'for every input' (looked for: loops, veiled, ifaces, maps, wideKeys, modest, calm, conditions, laid).
  DERIVED. THE GIVEN ROWS OF THIS SEAT. 4 by the template 'for every input the law returns true; each argument reads behind the call as it read before'; 0 by the template 'total and deterministic' (their statements: YtfojeengapebmaaTotals.lean).
  GIVEN WITH THE SEED: the statements are not yours to turn. If you find one false, say at which input.
  Laid BY PROGRAM, IN A SANDBOX (cutbox-rows.mjs): the forced cells as the released guide's own fill.sh prints them over the translation c27dbeb1a0423764… (all of the seat's roots in one cut). By AI agents, Wed Nov 11 2026. No macro, syntax, notation, axiom, sorry.
-/
import Derived.Test.YtfojeengapebmaaChecked
import GoSem.Claim
import GoSem.ClaimJoined
import GoSem.ClaimMapViews
import Derived.JoinedTies
import Derived.KernelRfl
namespace Go.Proofs.Ytfojeengapebmaa
/- THE CELL 'sum', in the pinned program and in every row, IS THE sha256 OF THE DUMP (.gsa) THAT YtfojeengapebmaaProg.lean LOADS. Nothing in Lean hashes anything: it is a label: what it is worth is what the hold of that sum in a sandbox is worth. -/
noncomputable def Try.pinned : Pinned := { name := "ytfojeengapebmaa", sum := "c27dbeb1a04237644b94830134043fb1604c5cfc8cfe312a22fc25a1b8cf1985", checked := Try.checked }
namespace Rows
def none {H : Type} : Left H := { results := [], args := [] }

/-- 'swathlaw17.SnapBooks': WHATEVER THE INPUT: true; the input reads as it did. -/
def snapBooksSpec : ChangeSpec := { name := "snapBooks", fn := fun _ => fun
  | [d] => { results := [.lit (.bool true)], args := [d] }
  | _ => none }
def snapBooksRow : OpenClaim := { program := "ytfojeengapebmaa", sum := "c27dbeb1a04237644b94830134043fb1604c5cfc8cfe312a22fc25a1b8cf1985", func := "swath/swathlaw17.SnapBooks", spec := "snapBooks", plainKeys := false, apart := false }
def SnapBooksSaid : Prop := snapBooksRow.holds Try.pinned (OpenSpec.ofChange snapBooksSpec)

/-- ITS FALSE NEIGHBOUR: 'it returns false'. Refute it at one input. -/
def snapBooksWrong : ChangeSpec := { name := "snapBooks", fn := fun _ => fun
  | [d] => { results := [.lit (.bool false)], args := [d] }
  | _ => none }
def SnapBooksWrongFalsely : Prop := snapBooksRow.holds Try.pinned (OpenSpec.ofChange snapBooksWrong)

/-- 'swathlaw17.SnapShared': WHATEVER THE INPUT: true; the input reads as it did. -/
def snapSharedSpec : ChangeSpec := { name := "snapShared", fn := fun _ => fun
  | [d] => { results := [.lit (.bool true)], args := [d] }
  | _ => none }
def snapSharedRow : OpenClaim := { program := "ytfojeengapebmaa", sum := "c27dbeb1a04237644b94830134043fb1604c5cfc8cfe312a22fc25a1b8cf1985", func := "swath/swathlaw17.SnapShared", spec := "snapShared", plainKeys := false, apart := false }
def SnapSharedSaid : Prop := snapSharedRow.holds Try.pinned (OpenSpec.ofChange snapSharedSpec)

/-- ITS FALSE NEIGHBOUR: 'it returns false'. Refute it at one input. -/
def snapSharedWrong : ChangeSpec := { name := "snapShared", fn := fun _ => fun
  | [d] => { results := [.lit (.bool false)], args := [d] }
  | _ => none }
def SnapSharedWrongFalsely : Prop := snapSharedRow.holds Try.pinned (OpenSpec.ofChange snapSharedWrong)

/-- 'swathlaw17.SnapChains': WHATEVER THE INPUT: true; the input reads as it did. -/
def snapChainsSpec : ChangeSpec := { name := "snapChains", fn := fun _ => fun
  | [d1, d2] => { results := [.lit (.bool true)], args := [d1, d2] }
  | _ => none }
def snapChainsRow : OpenClaim := { program := "ytfojeengapebmaa", sum := "c27dbeb1a04237644b94830134043fb1604c5cfc8cfe312a22fc25a1b8cf1985", func := "swath/swathlaw17.SnapChains", spec := "snapChains", plainKeys := false, apart := false }
def SnapChainsSaid : Prop := snapChainsRow.holds Try.pinned (OpenSpec.ofChange snapChainsSpec)

/-- ITS FALSE NEIGHBOUR: 'it returns false'. Refute it at one input. -/
def snapChainsWrong : ChangeSpec := { name := "snapChains", fn := fun _ => fun
  | [d1, d2] => { results := [.lit (.bool false)], args := [d1, d2] }
  | _ => none }
def SnapChainsWrongFalsely : Prop := snapChainsRow.holds Try.pinned (OpenSpec.ofChange snapChainsWrong)

/-- 'swathlaw17.SnapBack': WHATEVER THE INPUT: true; the input reads as it did. -/
def snapBackSpec : ChangeSpec := { name := "snapBack", fn := fun _ => fun
  | [d1, d2, d3] => { results := [.lit (.bool true)], args := [d1, d2, d3] }
  | _ => none }
def snapBackRow : OpenClaim := { program := "ytfojeengapebmaa", sum := "c27dbeb1a04237644b94830134043fb1604c5cfc8cfe312a22fc25a1b8cf1985", func := "swath/swathlaw17.SnapBack", spec := "snapBack", unfollowed := true, recurses := true, plainKeys := false, apart := false }
def SnapBackSaid : Prop := snapBackRow.holds Try.pinned (OpenSpec.ofChange snapBackSpec)

/-- ITS FALSE NEIGHBOUR: 'it returns false'. Refute it at one input. -/
def snapBackWrong : ChangeSpec := { name := "snapBack", fn := fun _ => fun
  | [d1, d2, d3] => { results := [.lit (.bool false)], args := [d1, d2, d3] }
  | _ => none }
def SnapBackWrongFalsely : Prop := snapBackRow.holds Try.pinned (OpenSpec.ofChange snapBackWrong)

/- THE SECOND FORM. 'bulk': how many values and letters a reading holds, each counted each time it is reached (what is shared counts as often as it is met; a slice's spare places count too). A statement '..UptoSaid' is the law's where the arguments, and the package variables that the reading takes, are together of bulk at most 1048576: NARROWER than '..Said'. Prove '..Said' where nothing that the law and all that it calls make is longer than what came in: it says more and counts as full. Else prove '..UptoSaid'. A law counts once. -/
mutual
def uptoBulk {H : Type} : DataW H → Nat
  | .lit (.string bytes) => bytes.length + 1
  | .lit _ => 1
  | .nil => 1
  | .ptr d => uptoBulk d + 1
  | .slice elems spare => uptoBulkAll elems + uptoBulkAll spare + 1
  | .agg parts => uptoBulkAll parts + 1
  | .iface _ d => uptoBulk d + 1
  | .map entries => uptoBulkEntries entries + 1
  | .held _ => 1
def uptoBulkAll {H : Type} : List (DataW H) → Nat
  | [] => 0
  | d :: r => uptoBulk d + uptoBulkAll r
def uptoBulkEntries {H : Type} : List (Lit × DataW H) → Nat
  | [] => 0
  | x :: r => uptoBulkEntry x + uptoBulkEntries r
def uptoBulkEntry {H : Type} : Lit × DataW H → Nat
  | (.string bytes, d) => bytes.length + uptoBulk d + 1
  | (_, d) => uptoBulk d + 1
 end
def uptoSmall : (H : Type) → List (DataW H) → Bool := fun _ ds => decide (uptoBulkAll ds ≤ 1048576)
def OpenSpec.upto (s : _root_.Go.ChangeSpec) : _root_.Go.OpenSpec := { _root_.Go.OpenSpec.ofChange s with cond := some uptoSmall }

/-- 'swathlaw17.SnapBooks', WHERE WHAT IT READS IS OF BULK AT MOST 1048576: true; the input reads as it did. -/
def snapBooksUptoRow : OpenClaim := { program := "ytfojeengapebmaa", sum := "c27dbeb1a04237644b94830134043fb1604c5cfc8cfe312a22fc25a1b8cf1985", func := "swath/swathlaw17.SnapBooks", spec := "snapBooks", plainKeys := false, apart := false, narrowed := true }
def SnapBooksUptoSaid : Prop := snapBooksUptoRow.holds Try.pinned (OpenSpec.upto snapBooksSpec)

/-- 'swathlaw17.SnapShared', WHERE WHAT IT READS IS OF BULK AT MOST 1048576: true; the input reads as it did. -/
def snapSharedUptoRow : OpenClaim := { program := "ytfojeengapebmaa", sum := "c27dbeb1a04237644b94830134043fb1604c5cfc8cfe312a22fc25a1b8cf1985", func := "swath/swathlaw17.SnapShared", spec := "snapShared", plainKeys := false, apart := false, narrowed := true }
def SnapSharedUptoSaid : Prop := snapSharedUptoRow.holds Try.pinned (OpenSpec.upto snapSharedSpec)

/-- 'swathlaw17.SnapChains', WHERE WHAT IT READS IS OF BULK AT MOST 1048576: true; the input reads as it did. -/
def snapChainsUptoRow : OpenClaim := { program := "ytfojeengapebmaa", sum := "c27dbeb1a04237644b94830134043fb1604c5cfc8cfe312a22fc25a1b8cf1985", func := "swath/swathlaw17.SnapChains", spec := "snapChains", plainKeys := false, apart := false, narrowed := true }
def SnapChainsUptoSaid : Prop := snapChainsUptoRow.holds Try.pinned (OpenSpec.upto snapChainsSpec)

/-- 'swathlaw17.SnapBack', WHERE WHAT IT READS IS OF BULK AT MOST 1048576: true; the input reads as it did. -/
def snapBackUptoRow : OpenClaim := { program := "ytfojeengapebmaa", sum := "c27dbeb1a04237644b94830134043fb1604c5cfc8cfe312a22fc25a1b8cf1985", func := "swath/swathlaw17.SnapBack", spec := "snapBack", unfollowed := true, recurses := true, plainKeys := false, apart := false, narrowed := true }
def SnapBackUptoSaid : Prop := snapBackUptoRow.holds Try.pinned (OpenSpec.upto snapBackSpec)

end Rows
end Go.Proofs.Ytfojeengapebmaa
