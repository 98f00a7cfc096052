/-
  No cell of these rows narrows 'for every input' (looked for: loops, veiled, ifaces, maps, wideKeys, modest, calm, conditions, laid).
  DERIVED. THE GIVEN ROWS OF THIS SEAT. 6 by the template 'for every input the law returns true; each argument reads behind the call as it read before'; 0 by the template 'total and deterministic' (their statements: YtcdlbgmmogccaaaTotals.lean).
  GIVEN WITH THE SEED: the statements are not yours to turn. If you find one false, say at which input.
  Laid BY PROGRAM, IN A SANDBOX (cutbox-rows.mjs): the forced cells as the released guide's own fill.sh prints them over the translation 70635c1fec6a0234… (all of the seat's roots in one cut). By AI agents, Wed Nov 11 2026. No macro, syntax, notation, axiom, sorry.
-/
import Derived.Test.YtcdlbgmmogccaaaChecked
import GoSem.Claim
import GoSem.ClaimJoined
import GoSem.ClaimMapViews
import Derived.JoinedTies
import Derived.KernelRfl
namespace Go.Proofs.Ytcdlbgmmogccaaa
/- THE CELL 'sum', in the pinned program and in every row, IS THE sha256 OF THE DUMP (.gsa) THAT YtcdlbgmmogccaaaProg.lean LOADS. Nothing in Lean hashes anything: it is a label: what it is worth is what the hold of that sum in a sandbox is worth. -/
noncomputable def Try.pinned : Pinned := { name := "ytcdlbgmmogccaaa", sum := "70635c1fec6a0234508ff9c50eed15df3eaeafec36e567c32a2e475385235b08", checked := Try.checked }
namespace Rows
def none {H : Type} : Left H := { results := [], args := [] }

/-- 'swathlaw14.ProfileKeys': WHATEVER THE INPUT: true; the input reads as it did. -/
def profileKeysSpec : ChangeSpec := { name := "profileKeys", fn := fun _ => fun
  | [d1, d2] => { results := [.lit (.bool true)], args := [d1, d2] }
  | _ => none }
def profileKeysRow : OpenClaim := { program := "ytcdlbgmmogccaaa", sum := "70635c1fec6a0234508ff9c50eed15df3eaeafec36e567c32a2e475385235b08", func := "swath/swathlaw14.ProfileKeys", spec := "profileKeys", unfollowed := true, recurses := true, plainKeys := false, apart := false }
def ProfileKeysSaid : Prop := profileKeysRow.holds Try.pinned (OpenSpec.ofChange profileKeysSpec)

/-- ITS FALSE NEIGHBOUR: 'it returns false'. Refute it at one input. -/
def profileKeysWrong : ChangeSpec := { name := "profileKeys", fn := fun _ => fun
  | [d1, d2] => { results := [.lit (.bool false)], args := [d1, d2] }
  | _ => none }
def ProfileKeysWrongFalsely : Prop := profileKeysRow.holds Try.pinned (OpenSpec.ofChange profileKeysWrong)

/-- 'swathlaw14.ProfileFull': WHATEVER THE INPUT: true; the input reads as it did. -/
def profileFullSpec : ChangeSpec := { name := "profileFull", fn := fun _ => fun
  | [d1, d2] => { results := [.lit (.bool true)], args := [d1, d2] }
  | _ => none }
def profileFullRow : OpenClaim := { program := "ytcdlbgmmogccaaa", sum := "70635c1fec6a0234508ff9c50eed15df3eaeafec36e567c32a2e475385235b08", func := "swath/swathlaw14.ProfileFull", spec := "profileFull", unfollowed := true, recurses := true, plainKeys := false, apart := false }
def ProfileFullSaid : Prop := profileFullRow.holds Try.pinned (OpenSpec.ofChange profileFullSpec)

/-- ITS FALSE NEIGHBOUR: 'it returns false'. Refute it at one input. -/
def profileFullWrong : ChangeSpec := { name := "profileFull", fn := fun _ => fun
  | [d1, d2] => { results := [.lit (.bool false)], args := [d1, d2] }
  | _ => none }
def ProfileFullWrongFalsely : Prop := profileFullRow.holds Try.pinned (OpenSpec.ofChange profileFullWrong)

/-- 'swathlaw14.ProfileEach': WHATEVER THE INPUT: true; the input reads as it did. -/
def profileEachSpec : ChangeSpec := { name := "profileEach", fn := fun _ => fun
  | [d1, d2, d3] => { results := [.lit (.bool true)], args := [d1, d2, d3] }
  | _ => none }
def profileEachRow : OpenClaim := { program := "ytcdlbgmmogccaaa", sum := "70635c1fec6a0234508ff9c50eed15df3eaeafec36e567c32a2e475385235b08", func := "swath/swathlaw14.ProfileEach", spec := "profileEach", unfollowed := true, recurses := true, plainKeys := false, apart := false }
def ProfileEachSaid : Prop := profileEachRow.holds Try.pinned (OpenSpec.ofChange profileEachSpec)

/-- ITS FALSE NEIGHBOUR: 'it returns false'. Refute it at one input. -/
def profileEachWrong : ChangeSpec := { name := "profileEach", fn := fun _ => fun
  | [d1, d2, d3] => { results := [.lit (.bool false)], args := [d1, d2, d3] }
  | _ => none }
def ProfileEachWrongFalsely : Prop := profileEachRow.holds Try.pinned (OpenSpec.ofChange profileEachWrong)

/-- 'swathlaw14.ProfileCounts': WHATEVER THE INPUT: true; the input reads as it did. -/
def profileCountsSpec : ChangeSpec := { name := "profileCounts", fn := fun _ => fun
  | [d1, d2] => { results := [.lit (.bool true)], args := [d1, d2] }
  | _ => none }
def profileCountsRow : OpenClaim := { program := "ytcdlbgmmogccaaa", sum := "70635c1fec6a0234508ff9c50eed15df3eaeafec36e567c32a2e475385235b08", func := "swath/swathlaw14.ProfileCounts", spec := "profileCounts", unfollowed := true, recurses := true, plainKeys := false, apart := false }
def ProfileCountsSaid : Prop := profileCountsRow.holds Try.pinned (OpenSpec.ofChange profileCountsSpec)

/-- ITS FALSE NEIGHBOUR: 'it returns false'. Refute it at one input. -/
def profileCountsWrong : ChangeSpec := { name := "profileCounts", fn := fun _ => fun
  | [d1, d2] => { results := [.lit (.bool false)], args := [d1, d2] }
  | _ => none }
def ProfileCountsWrongFalsely : Prop := profileCountsRow.holds Try.pinned (OpenSpec.ofChange profileCountsWrong)

/-- 'swathlaw14.ProfileNone': WHATEVER THE INPUT: true; the input reads as it did. -/
def profileNoneSpec : ChangeSpec := { name := "profileNone", fn := fun _ => fun
  | [d] => { results := [.lit (.bool true)], args := [d] }
  | _ => none }
def profileNoneRow : OpenClaim := { program := "ytcdlbgmmogccaaa", sum := "70635c1fec6a0234508ff9c50eed15df3eaeafec36e567c32a2e475385235b08", func := "swath/swathlaw14.ProfileNone", spec := "profileNone", unfollowed := true, recurses := true, plainKeys := false, apart := false }
def ProfileNoneSaid : Prop := profileNoneRow.holds Try.pinned (OpenSpec.ofChange profileNoneSpec)

/-- ITS FALSE NEIGHBOUR: 'it returns false'. Refute it at one input. -/
def profileNoneWrong : ChangeSpec := { name := "profileNone", fn := fun _ => fun
  | [d] => { results := [.lit (.bool false)], args := [d] }
  | _ => none }
def ProfileNoneWrongFalsely : Prop := profileNoneRow.holds Try.pinned (OpenSpec.ofChange profileNoneWrong)

/-- 'swathlaw14.ProfileBans': WHATEVER THE INPUT: true; the input reads as it did. -/
def profileBansSpec : ChangeSpec := { name := "profileBans", fn := fun _ => fun
  | [d1, d2, d3] => { results := [.lit (.bool true)], args := [d1, d2, d3] }
  | _ => none }
def profileBansRow : OpenClaim := { program := "ytcdlbgmmogccaaa", sum := "70635c1fec6a0234508ff9c50eed15df3eaeafec36e567c32a2e475385235b08", func := "swath/swathlaw14.ProfileBans", spec := "profileBans", unfollowed := true, recurses := true, plainKeys := false, apart := false }
def ProfileBansSaid : Prop := profileBansRow.holds Try.pinned (OpenSpec.ofChange profileBansSpec)

/-- ITS FALSE NEIGHBOUR: 'it returns false'. Refute it at one input. -/
def profileBansWrong : ChangeSpec := { name := "profileBans", fn := fun _ => fun
  | [d1, d2, d3] => { results := [.lit (.bool false)], args := [d1, d2, d3] }
  | _ => none }
def ProfileBansWrongFalsely : Prop := profileBansRow.holds Try.pinned (OpenSpec.ofChange profileBansWrong)

/- THE SECOND FORM. 'bulk': how many values and letters a reading holds, each counted each time it is reached (what is shared counts as often as it is met; a slice's spare places count too). A statement '..UptoSaid' is the law's where the arguments, and the package variables that the reading takes, are together of bulk at most 1048576: NARROWER than '..Said'. Prove '..Said' where nothing that the law and all that it calls make is longer than what came in: it says more and counts as full. Else prove '..UptoSaid'. A law counts once. -/
mutual
def uptoBulk {H : Type} : DataW H → Nat
  | .lit (.string bytes) => bytes.length + 1
  | .lit _ => 1
  | .nil => 1
  | .ptr d => uptoBulk d + 1
  | .slice elems spare => uptoBulkAll elems + uptoBulkAll spare + 1
  | .agg parts => uptoBulkAll parts + 1
  | .iface _ d => uptoBulk d + 1
  | .map entries => uptoBulkEntries entries + 1
  | .held _ => 1
def uptoBulkAll {H : Type} : List (DataW H) → Nat
  | [] => 0
  | d :: r => uptoBulk d + uptoBulkAll r
def uptoBulkEntries {H : Type} : List (Lit × DataW H) → Nat
  | [] => 0
  | x :: r => uptoBulkEntry x + uptoBulkEntries r
def uptoBulkEntry {H : Type} : Lit × DataW H → Nat
  | (.string bytes, d) => bytes.length + uptoBulk d + 1
  | (_, d) => uptoBulk d + 1
 end
def uptoSmall : (H : Type) → List (DataW H) → Bool := fun _ ds => decide (uptoBulkAll ds ≤ 1048576)
def OpenSpec.upto (s : _root_.Go.ChangeSpec) : _root_.Go.OpenSpec := { _root_.Go.OpenSpec.ofChange s with cond := some uptoSmall }

/-- 'swathlaw14.ProfileKeys', WHERE WHAT IT READS IS OF BULK AT MOST 1048576: true; the input reads as it did. -/
def profileKeysUptoRow : OpenClaim := { program := "ytcdlbgmmogccaaa", sum := "70635c1fec6a0234508ff9c50eed15df3eaeafec36e567c32a2e475385235b08", func := "swath/swathlaw14.ProfileKeys", spec := "profileKeys", unfollowed := true, recurses := true, plainKeys := false, apart := false, narrowed := true }
def ProfileKeysUptoSaid : Prop := profileKeysUptoRow.holds Try.pinned (OpenSpec.upto profileKeysSpec)

/-- 'swathlaw14.ProfileFull', WHERE WHAT IT READS IS OF BULK AT MOST 1048576: true; the input reads as it did. -/
def profileFullUptoRow : OpenClaim := { program := "ytcdlbgmmogccaaa", sum := "70635c1fec6a0234508ff9c50eed15df3eaeafec36e567c32a2e475385235b08", func := "swath/swathlaw14.ProfileFull", spec := "profileFull", unfollowed := true, recurses := true, plainKeys := false, apart := false, narrowed := true }
def ProfileFullUptoSaid : Prop := profileFullUptoRow.holds Try.pinned (OpenSpec.upto profileFullSpec)

/-- 'swathlaw14.ProfileEach', WHERE WHAT IT READS IS OF BULK AT MOST 1048576: true; the input reads as it did. -/
def profileEachUptoRow : OpenClaim := { program := "ytcdlbgmmogccaaa", sum := "70635c1fec6a0234508ff9c50eed15df3eaeafec36e567c32a2e475385235b08", func := "swath/swathlaw14.ProfileEach", spec := "profileEach", unfollowed := true, recurses := true, plainKeys := false, apart := false, narrowed := true }
def ProfileEachUptoSaid : Prop := profileEachUptoRow.holds Try.pinned (OpenSpec.upto profileEachSpec)

/-- 'swathlaw14.ProfileCounts', WHERE WHAT IT READS IS OF BULK AT MOST 1048576: true; the input reads as it did. -/
def profileCountsUptoRow : OpenClaim := { program := "ytcdlbgmmogccaaa", sum := "70635c1fec6a0234508ff9c50eed15df3eaeafec36e567c32a2e475385235b08", func := "swath/swathlaw14.ProfileCounts", spec := "profileCounts", unfollowed := true, recurses := true, plainKeys := false, apart := false, narrowed := true }
def ProfileCountsUptoSaid : Prop := profileCountsUptoRow.holds Try.pinned (OpenSpec.upto profileCountsSpec)

/-- 'swathlaw14.ProfileNone', WHERE WHAT IT READS IS OF BULK AT MOST 1048576: true; the input reads as it did. -/
def profileNoneUptoRow : OpenClaim := { program := "ytcdlbgmmogccaaa", sum := "70635c1fec6a0234508ff9c50eed15df3eaeafec36e567c32a2e475385235b08", func := "swath/swathlaw14.ProfileNone", spec := "profileNone", unfollowed := true, recurses := true, plainKeys := false, apart := false, narrowed := true }
def ProfileNoneUptoSaid : Prop := profileNoneUptoRow.holds Try.pinned (OpenSpec.upto profileNoneSpec)

/-- 'swathlaw14.ProfileBans', WHERE WHAT IT READS IS OF BULK AT MOST 1048576: true; the input reads as it did. -/
def profileBansUptoRow : OpenClaim := { program := "ytcdlbgmmogccaaa", sum := "70635c1fec6a0234508ff9c50eed15df3eaeafec36e567c32a2e475385235b08", func := "swath/swathlaw14.ProfileBans", spec := "profileBans", unfollowed := true, recurses := true, plainKeys := false, apart := false, narrowed := true }
def ProfileBansUptoSaid : Prop := profileBansUptoRow.holds Try.pinned (OpenSpec.upto profileBansSpec)

end Rows
end Go.Proofs.Ytcdlbgmmogccaaa
