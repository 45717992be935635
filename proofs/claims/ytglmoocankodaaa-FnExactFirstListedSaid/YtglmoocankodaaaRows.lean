/-
  No cell of these rows narrows 'for every input' (looked for: loops, veiled, ifaces, maps, wideKeys, modest, calm, conditions, laid).
  DERIVED. THE GIVEN ROWS OF THIS SEAT. 8 by the template 'for every input the law returns true; each argument reads behind the call as it read before'; 0 by the template 'total and deterministic' (their statements: YtglmoocankodaaaTotals.lean).
  GIVEN WITH THE SEED: the statements are not yours to turn. If you find one false, say at which input.
  Laid BY PROGRAM, IN A SANDBOX (cutbox-rows.mjs): the forced cells as the released guide's own fill.sh prints them over the translation e0444794423a9371… (all of the seat's roots in one cut). By AI agents, Wed Nov 11 2026. No macro, syntax, notation, axiom, sorry.
-/
import Derived.Test.YtglmoocankodaaaChecked
import GoSem.Claim
import GoSem.ClaimJoined
import GoSem.ClaimMapViews
import Derived.JoinedTies
import Derived.KernelRfl
namespace Go.Proofs.Ytglmoocankodaaa
/- THE CELL 'sum', in the pinned program and in every row, IS THE sha256 OF THE DUMP (.gsa) THAT YtglmoocankodaaaProg.lean LOADS. Nothing in Lean hashes anything: it is a label: what it is worth is what the hold of that sum in a sandbox is worth. -/
noncomputable def Try.pinned : Pinned := { name := "ytglmoocankodaaa", sum := "e0444794423a937116b19980cfbbf2d4070b234a5a2496e8e2d4e475bd388ff5", checked := Try.checked }
namespace Rows
def none {H : Type} : Left H := { results := [], args := [] }

/-- 'laws.FnExactRankOfProper': WHATEVER THE INPUT: true; the input reads as it did. -/
def fnExactRankOfProperSpec : ChangeSpec := { name := "fnExactRankOfProper", fn := fun _ => fun
  | [d1, d2, d3] => { results := [.lit (.bool true)], args := [d1, d2, d3] }
  | _ => none }
def fnExactRankOfProperRow : OpenClaim := { program := "ytglmoocankodaaa", sum := "e0444794423a937116b19980cfbbf2d4070b234a5a2496e8e2d4e475bd388ff5", func := "loop.example/g01373/laws.FnExactRankOfProper", spec := "fnExactRankOfProper", inPlace := ["internal/bytealg.IndexByteString"], unfollowed := true, recurses := true, apart := false }
def FnExactRankOfProperSaid : Prop := fnExactRankOfProperRow.holds Try.pinned (OpenSpec.ofChange fnExactRankOfProperSpec)

/-- ITS FALSE NEIGHBOUR: 'it returns false'. Refute it at one input. -/
def fnExactRankOfProperWrong : ChangeSpec := { name := "fnExactRankOfProper", fn := fun _ => fun
  | [d1, d2, d3] => { results := [.lit (.bool false)], args := [d1, d2, d3] }
  | _ => none }
def FnExactRankOfProperWrongFalsely : Prop := fnExactRankOfProperRow.holds Try.pinned (OpenSpec.ofChange fnExactRankOfProperWrong)

/-- 'laws.FnExactNextProper': WHATEVER THE INPUT: true; the input reads as it did. -/
def fnExactNextProperSpec : ChangeSpec := { name := "fnExactNextProper", fn := fun _ => fun
  | [d1, d2, d3] => { results := [.lit (.bool true)], args := [d1, d2, d3] }
  | _ => none }
def fnExactNextProperRow : OpenClaim := { program := "ytglmoocankodaaa", sum := "e0444794423a937116b19980cfbbf2d4070b234a5a2496e8e2d4e475bd388ff5", func := "loop.example/g01373/laws.FnExactNextProper", spec := "fnExactNextProper", inPlace := ["internal/bytealg.IndexByteString"], unfollowed := true, recurses := true, apart := false }
def FnExactNextProperSaid : Prop := fnExactNextProperRow.holds Try.pinned (OpenSpec.ofChange fnExactNextProperSpec)

/-- ITS FALSE NEIGHBOUR: 'it returns false'. Refute it at one input. -/
def fnExactNextProperWrong : ChangeSpec := { name := "fnExactNextProper", fn := fun _ => fun
  | [d1, d2, d3] => { results := [.lit (.bool false)], args := [d1, d2, d3] }
  | _ => none }
def FnExactNextProperWrongFalsely : Prop := fnExactNextProperRow.holds Try.pinned (OpenSpec.ofChange fnExactNextProperWrong)

/-- 'laws.FnExactFirstCheapest': WHATEVER THE INPUT: true; the input reads as it did. -/
def fnExactFirstCheapestSpec : ChangeSpec := { name := "fnExactFirstCheapest", fn := fun _ => fun
  | [d] => { results := [.lit (.bool true)], args := [d] }
  | _ => none }
def fnExactFirstCheapestRow : OpenClaim := { program := "ytglmoocankodaaa", sum := "e0444794423a937116b19980cfbbf2d4070b234a5a2496e8e2d4e475bd388ff5", func := "loop.example/g01373/laws.FnExactFirstCheapest", spec := "fnExactFirstCheapest", unfollowed := true, recurses := true, apart := false }
def FnExactFirstCheapestSaid : Prop := fnExactFirstCheapestRow.holds Try.pinned (OpenSpec.ofChange fnExactFirstCheapestSpec)

/-- ITS FALSE NEIGHBOUR: 'it returns false'. Refute it at one input. -/
def fnExactFirstCheapestWrong : ChangeSpec := { name := "fnExactFirstCheapest", fn := fun _ => fun
  | [d] => { results := [.lit (.bool false)], args := [d] }
  | _ => none }
def FnExactFirstCheapestWrongFalsely : Prop := fnExactFirstCheapestRow.holds Try.pinned (OpenSpec.ofChange fnExactFirstCheapestWrong)

/-- 'laws.FnExactCountListed': WHATEVER THE INPUT: true; the input reads as it did. -/
def fnExactCountListedSpec : ChangeSpec := { name := "fnExactCountListed", fn := fun _ => fun
  | [d] => { results := [.lit (.bool true)], args := [d] }
  | _ => none }
def fnExactCountListedRow : OpenClaim := { program := "ytglmoocankodaaa", sum := "e0444794423a937116b19980cfbbf2d4070b234a5a2496e8e2d4e475bd388ff5", func := "loop.example/g01373/laws.FnExactCountListed", spec := "fnExactCountListed", inPlace := ["internal/bytealg.IndexByteString", "internal/bytealg.IndexString"], named := ["internal/bytealg.MaxLen"], apart := false }
def FnExactCountListedSaid : Prop := fnExactCountListedRow.holds Try.pinned (OpenSpec.ofChange fnExactCountListedSpec)

/-- ITS FALSE NEIGHBOUR: 'it returns false'. Refute it at one input. -/
def fnExactCountListedWrong : ChangeSpec := { name := "fnExactCountListed", fn := fun _ => fun
  | [d] => { results := [.lit (.bool false)], args := [d] }
  | _ => none }
def FnExactCountListedWrongFalsely : Prop := fnExactCountListedRow.holds Try.pinned (OpenSpec.ofChange fnExactCountListedWrong)

/-- 'laws.FnExactFirstListed': WHATEVER THE INPUT: true; the input reads as it did. -/
def fnExactFirstListedSpec : ChangeSpec := { name := "fnExactFirstListed", fn := fun _ => fun
  | [d] => { results := [.lit (.bool true)], args := [d] }
  | _ => none }
def fnExactFirstListedRow : OpenClaim := { program := "ytglmoocankodaaa", sum := "e0444794423a937116b19980cfbbf2d4070b234a5a2496e8e2d4e475bd388ff5", func := "loop.example/g01373/laws.FnExactFirstListed", spec := "fnExactFirstListed", inPlace := ["internal/bytealg.IndexByteString", "internal/bytealg.IndexString"], named := ["internal/bytealg.MaxLen"], apart := false }
def FnExactFirstListedSaid : Prop := fnExactFirstListedRow.holds Try.pinned (OpenSpec.ofChange fnExactFirstListedSpec)

/-- ITS FALSE NEIGHBOUR: 'it returns false'. Refute it at one input. -/
def fnExactFirstListedWrong : ChangeSpec := { name := "fnExactFirstListed", fn := fun _ => fun
  | [d] => { results := [.lit (.bool false)], args := [d] }
  | _ => none }
def FnExactFirstListedWrongFalsely : Prop := fnExactFirstListedRow.holds Try.pinned (OpenSpec.ofChange fnExactFirstListedWrong)

/-- 'laws.FnColoursProper': WHATEVER THE INPUT: true; the input reads as it did. -/
def fnColoursProperSpec : ChangeSpec := { name := "fnColoursProper", fn := fun _ => fun
  | [d1, d2] => { results := [.lit (.bool true)], args := [d1, d2] }
  | _ => none }
def fnColoursProperRow : OpenClaim := { program := "ytglmoocankodaaa", sum := "e0444794423a937116b19980cfbbf2d4070b234a5a2496e8e2d4e475bd388ff5", func := "loop.example/g01373/laws.FnColoursProper", spec := "fnColoursProper", inPlace := ["internal/bytealg.IndexByteString"], unfollowed := true, recurses := true, apart := false }
def FnColoursProperSaid : Prop := fnColoursProperRow.holds Try.pinned (OpenSpec.ofChange fnColoursProperSpec)

/-- ITS FALSE NEIGHBOUR: 'it returns false'. Refute it at one input. -/
def fnColoursProperWrong : ChangeSpec := { name := "fnColoursProper", fn := fun _ => fun
  | [d1, d2] => { results := [.lit (.bool false)], args := [d1, d2] }
  | _ => none }
def FnColoursProperWrongFalsely : Prop := fnColoursProperRow.holds Try.pinned (OpenSpec.ofChange fnColoursProperWrong)

/-- 'laws.FnPostsPlaced': WHATEVER THE INPUT: true; the input reads as it did. -/
def fnPostsPlacedSpec : ChangeSpec := { name := "fnPostsPlaced", fn := fun _ => fun
  | [d1, d2] => { results := [.lit (.bool true)], args := [d1, d2] }
  | _ => none }
def fnPostsPlacedRow : OpenClaim := { program := "ytglmoocankodaaa", sum := "e0444794423a937116b19980cfbbf2d4070b234a5a2496e8e2d4e475bd388ff5", func := "loop.example/g01373/laws.FnPostsPlaced", spec := "fnPostsPlaced", unfollowed := true, recurses := true, apart := false }
def FnPostsPlacedSaid : Prop := fnPostsPlacedRow.holds Try.pinned (OpenSpec.ofChange fnPostsPlacedSpec)

/-- ITS FALSE NEIGHBOUR: 'it returns false'. Refute it at one input. -/
def fnPostsPlacedWrong : ChangeSpec := { name := "fnPostsPlaced", fn := fun _ => fun
  | [d1, d2] => { results := [.lit (.bool false)], args := [d1, d2] }
  | _ => none }
def FnPostsPlacedWrongFalsely : Prop := fnPostsPlacedRow.holds Try.pinned (OpenSpec.ofChange fnPostsPlacedWrong)

/-- 'laws.FnFieldsMeasured': WHATEVER THE INPUT: true; the input reads as it did. -/
def fnFieldsMeasuredSpec : ChangeSpec := { name := "fnFieldsMeasured", fn := fun _ => fun
  | [d1, d2] => { results := [.lit (.bool true)], args := [d1, d2] }
  | _ => none }
def fnFieldsMeasuredRow : OpenClaim := { program := "ytglmoocankodaaa", sum := "e0444794423a937116b19980cfbbf2d4070b234a5a2496e8e2d4e475bd388ff5", func := "loop.example/g01373/laws.FnFieldsMeasured", spec := "fnFieldsMeasured", unfollowed := true, recurses := true, apart := false }
def FnFieldsMeasuredSaid : Prop := fnFieldsMeasuredRow.holds Try.pinned (OpenSpec.ofChange fnFieldsMeasuredSpec)

/-- ITS FALSE NEIGHBOUR: 'it returns false'. Refute it at one input. -/
def fnFieldsMeasuredWrong : ChangeSpec := { name := "fnFieldsMeasured", fn := fun _ => fun
  | [d1, d2] => { results := [.lit (.bool false)], args := [d1, d2] }
  | _ => none }
def FnFieldsMeasuredWrongFalsely : Prop := fnFieldsMeasuredRow.holds Try.pinned (OpenSpec.ofChange fnFieldsMeasuredWrong)

/- THE SECOND FORM. 'bulk': how many values and letters a reading holds, each counted each time it is reached (what is shared counts as often as it is met; a slice's spare places count too). A statement '..UptoSaid' is the law's where the arguments, and the package variables that the reading takes, are together of bulk at most 1048576: NARROWER than '..Said'. Prove '..Said' where nothing that the law and all that it calls make is longer than what came in: it says more and counts as full. Else prove '..UptoSaid'. A law counts once. -/
mutual
def uptoBulk {H : Type} : DataW H → Nat
  | .lit (.string bytes) => bytes.length + 1
  | .lit _ => 1
  | .nil => 1
  | .ptr d => uptoBulk d + 1
  | .slice elems spare => uptoBulkAll elems + uptoBulkAll spare + 1
  | .agg parts => uptoBulkAll parts + 1
  | .iface _ d => uptoBulk d + 1
  | .map entries => uptoBulkEntries entries + 1
  | .held _ => 1
def uptoBulkAll {H : Type} : List (DataW H) → Nat
  | [] => 0
  | d :: r => uptoBulk d + uptoBulkAll r
def uptoBulkEntries {H : Type} : List (Lit × DataW H) → Nat
  | [] => 0
  | x :: r => uptoBulkEntry x + uptoBulkEntries r
def uptoBulkEntry {H : Type} : Lit × DataW H → Nat
  | (.string bytes, d) => bytes.length + uptoBulk d + 1
  | (_, d) => uptoBulk d + 1
 end
def uptoSmall : (H : Type) → List (DataW H) → Bool := fun _ ds => decide (uptoBulkAll ds ≤ 1048576)
def OpenSpec.upto (s : _root_.Go.ChangeSpec) : _root_.Go.OpenSpec := { _root_.Go.OpenSpec.ofChange s with cond := some uptoSmall }

/-- 'laws.FnExactRankOfProper', WHERE WHAT IT READS IS OF BULK AT MOST 1048576: true; the input reads as it did. -/
def fnExactRankOfProperUptoRow : OpenClaim := { program := "ytglmoocankodaaa", sum := "e0444794423a937116b19980cfbbf2d4070b234a5a2496e8e2d4e475bd388ff5", func := "loop.example/g01373/laws.FnExactRankOfProper", spec := "fnExactRankOfProper", inPlace := ["internal/bytealg.IndexByteString"], unfollowed := true, recurses := true, apart := false, narrowed := true }
def FnExactRankOfProperUptoSaid : Prop := fnExactRankOfProperUptoRow.holds Try.pinned (OpenSpec.upto fnExactRankOfProperSpec)

/-- 'laws.FnExactNextProper', WHERE WHAT IT READS IS OF BULK AT MOST 1048576: true; the input reads as it did. -/
def fnExactNextProperUptoRow : OpenClaim := { program := "ytglmoocankodaaa", sum := "e0444794423a937116b19980cfbbf2d4070b234a5a2496e8e2d4e475bd388ff5", func := "loop.example/g01373/laws.FnExactNextProper", spec := "fnExactNextProper", inPlace := ["internal/bytealg.IndexByteString"], unfollowed := true, recurses := true, apart := false, narrowed := true }
def FnExactNextProperUptoSaid : Prop := fnExactNextProperUptoRow.holds Try.pinned (OpenSpec.upto fnExactNextProperSpec)

/-- 'laws.FnExactFirstCheapest', WHERE WHAT IT READS IS OF BULK AT MOST 1048576: true; the input reads as it did. -/
def fnExactFirstCheapestUptoRow : OpenClaim := { program := "ytglmoocankodaaa", sum := "e0444794423a937116b19980cfbbf2d4070b234a5a2496e8e2d4e475bd388ff5", func := "loop.example/g01373/laws.FnExactFirstCheapest", spec := "fnExactFirstCheapest", unfollowed := true, recurses := true, apart := false, narrowed := true }
def FnExactFirstCheapestUptoSaid : Prop := fnExactFirstCheapestUptoRow.holds Try.pinned (OpenSpec.upto fnExactFirstCheapestSpec)

/-- 'laws.FnExactCountListed', WHERE WHAT IT READS IS OF BULK AT MOST 1048576: true; the input reads as it did. -/
def fnExactCountListedUptoRow : OpenClaim := { program := "ytglmoocankodaaa", sum := "e0444794423a937116b19980cfbbf2d4070b234a5a2496e8e2d4e475bd388ff5", func := "loop.example/g01373/laws.FnExactCountListed", spec := "fnExactCountListed", inPlace := ["internal/bytealg.IndexByteString", "internal/bytealg.IndexString"], named := ["internal/bytealg.MaxLen"], apart := false, narrowed := true }
def FnExactCountListedUptoSaid : Prop := fnExactCountListedUptoRow.holds Try.pinned (OpenSpec.upto fnExactCountListedSpec)

/-- 'laws.FnExactFirstListed', WHERE WHAT IT READS IS OF BULK AT MOST 1048576: true; the input reads as it did. -/
def fnExactFirstListedUptoRow : OpenClaim := { program := "ytglmoocankodaaa", sum := "e0444794423a937116b19980cfbbf2d4070b234a5a2496e8e2d4e475bd388ff5", func := "loop.example/g01373/laws.FnExactFirstListed", spec := "fnExactFirstListed", inPlace := ["internal/bytealg.IndexByteString", "internal/bytealg.IndexString"], named := ["internal/bytealg.MaxLen"], apart := false, narrowed := true }
def FnExactFirstListedUptoSaid : Prop := fnExactFirstListedUptoRow.holds Try.pinned (OpenSpec.upto fnExactFirstListedSpec)

/-- 'laws.FnColoursProper', WHERE WHAT IT READS IS OF BULK AT MOST 1048576: true; the input reads as it did. -/
def fnColoursProperUptoRow : OpenClaim := { program := "ytglmoocankodaaa", sum := "e0444794423a937116b19980cfbbf2d4070b234a5a2496e8e2d4e475bd388ff5", func := "loop.example/g01373/laws.FnColoursProper", spec := "fnColoursProper", inPlace := ["internal/bytealg.IndexByteString"], unfollowed := true, recurses := true, apart := false, narrowed := true }
def FnColoursProperUptoSaid : Prop := fnColoursProperUptoRow.holds Try.pinned (OpenSpec.upto fnColoursProperSpec)

/-- 'laws.FnPostsPlaced', WHERE WHAT IT READS IS OF BULK AT MOST 1048576: true; the input reads as it did. -/
def fnPostsPlacedUptoRow : OpenClaim := { program := "ytglmoocankodaaa", sum := "e0444794423a937116b19980cfbbf2d4070b234a5a2496e8e2d4e475bd388ff5", func := "loop.example/g01373/laws.FnPostsPlaced", spec := "fnPostsPlaced", unfollowed := true, recurses := true, apart := false, narrowed := true }
def FnPostsPlacedUptoSaid : Prop := fnPostsPlacedUptoRow.holds Try.pinned (OpenSpec.upto fnPostsPlacedSpec)

/-- 'laws.FnFieldsMeasured', WHERE WHAT IT READS IS OF BULK AT MOST 1048576: true; the input reads as it did. -/
def fnFieldsMeasuredUptoRow : OpenClaim := { program := "ytglmoocankodaaa", sum := "e0444794423a937116b19980cfbbf2d4070b234a5a2496e8e2d4e475bd388ff5", func := "loop.example/g01373/laws.FnFieldsMeasured", spec := "fnFieldsMeasured", unfollowed := true, recurses := true, apart := false, narrowed := true }
def FnFieldsMeasuredUptoSaid : Prop := fnFieldsMeasuredUptoRow.holds Try.pinned (OpenSpec.upto fnFieldsMeasuredSpec)

end Rows
end Go.Proofs.Ytglmoocankodaaa
