/-
  No cell of these rows narrows 'for every input' (looked for: loops, veiled, ifaces, maps, wideKeys, modest, calm, conditions, laid).
  DERIVED. THE GIVEN ROWS OF THIS SEAT. 12 by the template 'for every input the law returns true; each argument reads behind the call as it read before'; 0 by the template 'total and deterministic' (their statements: YtaamjlckaakenaaTotals.lean).
  GIVEN WITH THE SEED: the statements are not yours to turn. If you find one false, say at which input.
  Laid BY PROGRAM, IN A SANDBOX (cutbox-rows.mjs): the forced cells as the released guide's own fill.sh prints them over the translation ceba0843c765bb18… (all of the seat's roots in one cut). By AI agents, Wed Nov 11 2026. No macro, syntax, notation, axiom, sorry.
-/
import Derived.Test.YtaamjlckaakenaaChecked
import GoSem.Claim
import GoSem.ClaimJoined
import GoSem.ClaimMapViews
import Derived.JoinedTies
import Derived.KernelRfl
namespace Go.Proofs.Ytaamjlckaakenaa
/- THE CELL 'sum', in the pinned program and in every row, IS THE sha256 OF THE DUMP (.gsa) THAT YtaamjlckaakenaaProg.lean LOADS. Nothing in Lean hashes anything: it is a label: what it is worth is what the hold of that sum in a sandbox is worth. -/
noncomputable def Try.pinned : Pinned := { name := "ytaamjlckaakenaa", sum := "ceba0843c765bb18bd646ea553d7fa3f1d671c044c514d53550678b8c325973a", checked := Try.checked }
namespace Rows
def none {H : Type} : Left H := { results := [], args := [] }

/-- 'laws.FnExactFirstDesk': WHATEVER THE INPUT: true; the input reads as it did. -/
def fnExactFirstDeskSpec : ChangeSpec := { name := "fnExactFirstDesk", fn := fun _ => fun
  | [] => { results := [.lit (.bool true)], args := [] }
  | _ => none }
def fnExactFirstDeskRow : OpenClaim := { program := "ytaamjlckaakenaa", sum := "ceba0843c765bb18bd646ea553d7fa3f1d671c044c514d53550678b8c325973a", func := "loop.example/g01373/laws.FnExactFirstDesk", spec := "fnExactFirstDesk", apart := false }
def FnExactFirstDeskSaid : Prop := fnExactFirstDeskRow.holds Try.pinned (OpenSpec.ofChange fnExactFirstDeskSpec)

/-- ITS FALSE NEIGHBOUR: 'it returns false'. Refute it at one input. -/
def fnExactFirstDeskWrong : ChangeSpec := { name := "fnExactFirstDesk", fn := fun _ => fun
  | [] => { results := [.lit (.bool false)], args := [] }
  | _ => none }
def FnExactFirstDeskWrongFalsely : Prop := fnExactFirstDeskRow.holds Try.pinned (OpenSpec.ofChange fnExactFirstDeskWrong)

/-- 'laws.FnExactCountProper': WHATEVER THE INPUT: true; the input reads as it did. -/
def fnExactCountProperSpec : ChangeSpec := { name := "fnExactCountProper", fn := fun _ => fun
  | [d1, d2, d3] => { results := [.lit (.bool true)], args := [d1, d2, d3] }
  | _ => none }
def fnExactCountProperRow : OpenClaim := { program := "ytaamjlckaakenaa", sum := "ceba0843c765bb18bd646ea553d7fa3f1d671c044c514d53550678b8c325973a", func := "loop.example/g01373/laws.FnExactCountProper", spec := "fnExactCountProper", apart := false }
def FnExactCountProperSaid : Prop := fnExactCountProperRow.holds Try.pinned (OpenSpec.ofChange fnExactCountProperSpec)

/-- ITS FALSE NEIGHBOUR: 'it returns false'. Refute it at one input. -/
def fnExactCountProperWrong : ChangeSpec := { name := "fnExactCountProper", fn := fun _ => fun
  | [d1, d2, d3] => { results := [.lit (.bool false)], args := [d1, d2, d3] }
  | _ => none }
def FnExactCountProperWrongFalsely : Prop := fnExactCountProperRow.holds Try.pinned (OpenSpec.ofChange fnExactCountProperWrong)

/-- 'laws.FnExactCountMirrored': WHATEVER THE INPUT: true; the input reads as it did. -/
def fnExactCountMirroredSpec : ChangeSpec := { name := "fnExactCountMirrored", fn := fun _ => fun
  | [d1, d2] => { results := [.lit (.bool true)], args := [d1, d2] }
  | _ => none }
def fnExactCountMirroredRow : OpenClaim := { program := "ytaamjlckaakenaa", sum := "ceba0843c765bb18bd646ea553d7fa3f1d671c044c514d53550678b8c325973a", func := "loop.example/g01373/laws.FnExactCountMirrored", spec := "fnExactCountMirrored", apart := false }
def FnExactCountMirroredSaid : Prop := fnExactCountMirroredRow.holds Try.pinned (OpenSpec.ofChange fnExactCountMirroredSpec)

/-- ITS FALSE NEIGHBOUR: 'it returns false'. Refute it at one input. -/
def fnExactCountMirroredWrong : ChangeSpec := { name := "fnExactCountMirrored", fn := fun _ => fun
  | [d1, d2] => { results := [.lit (.bool false)], args := [d1, d2] }
  | _ => none }
def FnExactCountMirroredWrongFalsely : Prop := fnExactCountMirroredRow.holds Try.pinned (OpenSpec.ofChange fnExactCountMirroredWrong)

/-- 'laws.FnExactIsDesk': WHATEVER THE INPUT: true; the input reads as it did. -/
def fnExactIsDeskSpec : ChangeSpec := { name := "fnExactIsDesk", fn := fun _ => fun
  | [d] => { results := [.lit (.bool true)], args := [d] }
  | _ => none }
def fnExactIsDeskRow : OpenClaim := { program := "ytaamjlckaakenaa", sum := "ceba0843c765bb18bd646ea553d7fa3f1d671c044c514d53550678b8c325973a", func := "loop.example/g01373/laws.FnExactIsDesk", spec := "fnExactIsDesk", inPlace := ["internal/bytealg.IndexByteString"], unfollowed := true, recurses := true, apart := false }
def FnExactIsDeskSaid : Prop := fnExactIsDeskRow.holds Try.pinned (OpenSpec.ofChange fnExactIsDeskSpec)

/-- ITS FALSE NEIGHBOUR: 'it returns false'. Refute it at one input. -/
def fnExactIsDeskWrong : ChangeSpec := { name := "fnExactIsDesk", fn := fun _ => fun
  | [d] => { results := [.lit (.bool false)], args := [d] }
  | _ => none }
def FnExactIsDeskWrongFalsely : Prop := fnExactIsDeskRow.holds Try.pinned (OpenSpec.ofChange fnExactIsDeskWrong)

/-- 'laws.FnExactCountAllTints': WHATEVER THE INPUT: true; the input reads as it did. -/
def fnExactCountAllTintsSpec : ChangeSpec := { name := "fnExactCountAllTints", fn := fun _ => fun
  | [d1, d2] => { results := [.lit (.bool true)], args := [d1, d2] }
  | _ => none }
def fnExactCountAllTintsRow : OpenClaim := { program := "ytaamjlckaakenaa", sum := "ceba0843c765bb18bd646ea553d7fa3f1d671c044c514d53550678b8c325973a", func := "loop.example/g01373/laws.FnExactCountAllTints", spec := "fnExactCountAllTints", apart := false }
def FnExactCountAllTintsSaid : Prop := fnExactCountAllTintsRow.holds Try.pinned (OpenSpec.ofChange fnExactCountAllTintsSpec)

/-- ITS FALSE NEIGHBOUR: 'it returns false'. Refute it at one input. -/
def fnExactCountAllTintsWrong : ChangeSpec := { name := "fnExactCountAllTints", fn := fun _ => fun
  | [d1, d2] => { results := [.lit (.bool false)], args := [d1, d2] }
  | _ => none }
def FnExactCountAllTintsWrongFalsely : Prop := fnExactCountAllTintsRow.holds Try.pinned (OpenSpec.ofChange fnExactCountAllTintsWrong)

/-- 'laws.FnExactFirstProper': WHATEVER THE INPUT: true; the input reads as it did. -/
def fnExactFirstProperSpec : ChangeSpec := { name := "fnExactFirstProper", fn := fun _ => fun
  | [d1, d2, d3] => { results := [.lit (.bool true)], args := [d1, d2, d3] }
  | _ => none }
def fnExactFirstProperRow : OpenClaim := { program := "ytaamjlckaakenaa", sum := "ceba0843c765bb18bd646ea553d7fa3f1d671c044c514d53550678b8c325973a", func := "loop.example/g01373/laws.FnExactFirstProper", spec := "fnExactFirstProper", apart := false }
def FnExactFirstProperSaid : Prop := fnExactFirstProperRow.holds Try.pinned (OpenSpec.ofChange fnExactFirstProperSpec)

/-- ITS FALSE NEIGHBOUR: 'it returns false'. Refute it at one input. -/
def fnExactFirstProperWrong : ChangeSpec := { name := "fnExactFirstProper", fn := fun _ => fun
  | [d1, d2, d3] => { results := [.lit (.bool false)], args := [d1, d2, d3] }
  | _ => none }
def FnExactFirstProperWrongFalsely : Prop := fnExactFirstProperRow.holds Try.pinned (OpenSpec.ofChange fnExactFirstProperWrong)

/-- 'laws.FnExactProperOfRank': WHATEVER THE INPUT: true; the input reads as it did. -/
def fnExactProperOfRankSpec : ChangeSpec := { name := "fnExactProperOfRank", fn := fun _ => fun
  | [d1, d2, d3, d4] => { results := [.lit (.bool true)], args := [d1, d2, d3, d4] }
  | _ => none }
def fnExactProperOfRankRow : OpenClaim := { program := "ytaamjlckaakenaa", sum := "ceba0843c765bb18bd646ea553d7fa3f1d671c044c514d53550678b8c325973a", func := "loop.example/g01373/laws.FnExactProperOfRank", spec := "fnExactProperOfRank", apart := false }
def FnExactProperOfRankSaid : Prop := fnExactProperOfRankRow.holds Try.pinned (OpenSpec.ofChange fnExactProperOfRankSpec)

/-- ITS FALSE NEIGHBOUR: 'it returns false'. Refute it at one input. -/
def fnExactProperOfRankWrong : ChangeSpec := { name := "fnExactProperOfRank", fn := fun _ => fun
  | [d1, d2, d3, d4] => { results := [.lit (.bool false)], args := [d1, d2, d3, d4] }
  | _ => none }
def FnExactProperOfRankWrongFalsely : Prop := fnExactProperOfRankRow.holds Try.pinned (OpenSpec.ofChange fnExactProperOfRankWrong)

/-- 'laws.FnExactFewestRepaints': WHATEVER THE INPUT: true; the input reads as it did. -/
def fnExactFewestRepaintsSpec : ChangeSpec := { name := "fnExactFewestRepaints", fn := fun _ => fun
  | [d1, d2, d3] => { results := [.lit (.bool true)], args := [d1, d2, d3] }
  | _ => none }
def fnExactFewestRepaintsRow : OpenClaim := { program := "ytaamjlckaakenaa", sum := "ceba0843c765bb18bd646ea553d7fa3f1d671c044c514d53550678b8c325973a", func := "loop.example/g01373/laws.FnExactFewestRepaints", spec := "fnExactFewestRepaints", inPlace := ["internal/bytealg.IndexByteString"], unfollowed := true, recurses := true, apart := false }
def FnExactFewestRepaintsSaid : Prop := fnExactFewestRepaintsRow.holds Try.pinned (OpenSpec.ofChange fnExactFewestRepaintsSpec)

/-- ITS FALSE NEIGHBOUR: 'it returns false'. Refute it at one input. -/
def fnExactFewestRepaintsWrong : ChangeSpec := { name := "fnExactFewestRepaints", fn := fun _ => fun
  | [d1, d2, d3] => { results := [.lit (.bool false)], args := [d1, d2, d3] }
  | _ => none }
def FnExactFewestRepaintsWrongFalsely : Prop := fnExactFewestRepaintsRow.holds Try.pinned (OpenSpec.ofChange fnExactFewestRepaintsWrong)

/-- 'laws.FnExactCountFills': WHATEVER THE INPUT: true; the input reads as it did. -/
def fnExactCountFillsSpec : ChangeSpec := { name := "fnExactCountFills", fn := fun _ => fun
  | [d1, d2, d3] => { results := [.lit (.bool true)], args := [d1, d2, d3] }
  | _ => none }
def fnExactCountFillsRow : OpenClaim := { program := "ytaamjlckaakenaa", sum := "ceba0843c765bb18bd646ea553d7fa3f1d671c044c514d53550678b8c325973a", func := "loop.example/g01373/laws.FnExactCountFills", spec := "fnExactCountFills", inPlace := ["internal/bytealg.IndexByteString"], unfollowed := true, recurses := true, apart := false }
def FnExactCountFillsSaid : Prop := fnExactCountFillsRow.holds Try.pinned (OpenSpec.ofChange fnExactCountFillsSpec)

/-- ITS FALSE NEIGHBOUR: 'it returns false'. Refute it at one input. -/
def fnExactCountFillsWrong : ChangeSpec := { name := "fnExactCountFills", fn := fun _ => fun
  | [d1, d2, d3] => { results := [.lit (.bool false)], args := [d1, d2, d3] }
  | _ => none }
def FnExactCountFillsWrongFalsely : Prop := fnExactCountFillsRow.holds Try.pinned (OpenSpec.ofChange fnExactCountFillsWrong)

/-- 'laws.FnExactLeastCost': WHATEVER THE INPUT: true; the input reads as it did. -/
def fnExactLeastCostSpec : ChangeSpec := { name := "fnExactLeastCost", fn := fun _ => fun
  | [d] => { results := [.lit (.bool true)], args := [d] }
  | _ => none }
def fnExactLeastCostRow : OpenClaim := { program := "ytaamjlckaakenaa", sum := "ceba0843c765bb18bd646ea553d7fa3f1d671c044c514d53550678b8c325973a", func := "loop.example/g01373/laws.FnExactLeastCost", spec := "fnExactLeastCost", unfollowed := true, recurses := true, apart := false }
def FnExactLeastCostSaid : Prop := fnExactLeastCostRow.holds Try.pinned (OpenSpec.ofChange fnExactLeastCostSpec)

/-- ITS FALSE NEIGHBOUR: 'it returns false'. Refute it at one input. -/
def fnExactLeastCostWrong : ChangeSpec := { name := "fnExactLeastCost", fn := fun _ => fun
  | [d] => { results := [.lit (.bool false)], args := [d] }
  | _ => none }
def FnExactLeastCostWrongFalsely : Prop := fnExactLeastCostRow.holds Try.pinned (OpenSpec.ofChange fnExactLeastCostWrong)

/-- 'laws.FnExactFirstRepainted': WHATEVER THE INPUT: true; the input reads as it did. -/
def fnExactFirstRepaintedSpec : ChangeSpec := { name := "fnExactFirstRepainted", fn := fun _ => fun
  | [d1, d2, d3] => { results := [.lit (.bool true)], args := [d1, d2, d3] }
  | _ => none }
def fnExactFirstRepaintedRow : OpenClaim := { program := "ytaamjlckaakenaa", sum := "ceba0843c765bb18bd646ea553d7fa3f1d671c044c514d53550678b8c325973a", func := "loop.example/g01373/laws.FnExactFirstRepainted", spec := "fnExactFirstRepainted", inPlace := ["internal/bytealg.IndexByteString"], unfollowed := true, recurses := true, apart := false }
def FnExactFirstRepaintedSaid : Prop := fnExactFirstRepaintedRow.holds Try.pinned (OpenSpec.ofChange fnExactFirstRepaintedSpec)

/-- ITS FALSE NEIGHBOUR: 'it returns false'. Refute it at one input. -/
def fnExactFirstRepaintedWrong : ChangeSpec := { name := "fnExactFirstRepainted", fn := fun _ => fun
  | [d1, d2, d3] => { results := [.lit (.bool false)], args := [d1, d2, d3] }
  | _ => none }
def FnExactFirstRepaintedWrongFalsely : Prop := fnExactFirstRepaintedRow.holds Try.pinned (OpenSpec.ofChange fnExactFirstRepaintedWrong)

/-- 'laws.FnExactFillProper': WHATEVER THE INPUT: true; the input reads as it did. -/
def fnExactFillProperSpec : ChangeSpec := { name := "fnExactFillProper", fn := fun _ => fun
  | [d1, d2, d3] => { results := [.lit (.bool true)], args := [d1, d2, d3] }
  | _ => none }
def fnExactFillProperRow : OpenClaim := { program := "ytaamjlckaakenaa", sum := "ceba0843c765bb18bd646ea553d7fa3f1d671c044c514d53550678b8c325973a", func := "loop.example/g01373/laws.FnExactFillProper", spec := "fnExactFillProper", inPlace := ["internal/bytealg.IndexByteString"], unfollowed := true, recurses := true, apart := false }
def FnExactFillProperSaid : Prop := fnExactFillProperRow.holds Try.pinned (OpenSpec.ofChange fnExactFillProperSpec)

/-- ITS FALSE NEIGHBOUR: 'it returns false'. Refute it at one input. -/
def fnExactFillProperWrong : ChangeSpec := { name := "fnExactFillProper", fn := fun _ => fun
  | [d1, d2, d3] => { results := [.lit (.bool false)], args := [d1, d2, d3] }
  | _ => none }
def FnExactFillProperWrongFalsely : Prop := fnExactFillProperRow.holds Try.pinned (OpenSpec.ofChange fnExactFillProperWrong)

/- THE SECOND FORM. 'bulk': how many values and letters a reading holds, each counted each time it is reached (what is shared counts as often as it is met; a slice's spare places count too). A statement '..UptoSaid' is the law's where the arguments, and the package variables that the reading takes, are together of bulk at most 1048576: NARROWER than '..Said'. Prove '..Said' where nothing that the law and all that it calls make is longer than what came in: it says more and counts as full. Else prove '..UptoSaid'. A law counts once. -/
mutual
def uptoBulk {H : Type} : DataW H → Nat
  | .lit (.string bytes) => bytes.length + 1
  | .lit _ => 1
  | .nil => 1
  | .ptr d => uptoBulk d + 1
  | .slice elems spare => uptoBulkAll elems + uptoBulkAll spare + 1
  | .agg parts => uptoBulkAll parts + 1
  | .iface _ d => uptoBulk d + 1
  | .map entries => uptoBulkEntries entries + 1
  | .held _ => 1
def uptoBulkAll {H : Type} : List (DataW H) → Nat
  | [] => 0
  | d :: r => uptoBulk d + uptoBulkAll r
def uptoBulkEntries {H : Type} : List (Lit × DataW H) → Nat
  | [] => 0
  | x :: r => uptoBulkEntry x + uptoBulkEntries r
def uptoBulkEntry {H : Type} : Lit × DataW H → Nat
  | (.string bytes, d) => bytes.length + uptoBulk d + 1
  | (_, d) => uptoBulk d + 1
 end
def uptoSmall : (H : Type) → List (DataW H) → Bool := fun _ ds => decide (uptoBulkAll ds ≤ 1048576)
def OpenSpec.upto (s : _root_.Go.ChangeSpec) : _root_.Go.OpenSpec := { _root_.Go.OpenSpec.ofChange s with cond := some uptoSmall }

/-- 'laws.FnExactFirstDesk', WHERE WHAT IT READS IS OF BULK AT MOST 1048576: true; the input reads as it did. -/
def fnExactFirstDeskUptoRow : OpenClaim := { program := "ytaamjlckaakenaa", sum := "ceba0843c765bb18bd646ea553d7fa3f1d671c044c514d53550678b8c325973a", func := "loop.example/g01373/laws.FnExactFirstDesk", spec := "fnExactFirstDesk", apart := false, narrowed := true }
def FnExactFirstDeskUptoSaid : Prop := fnExactFirstDeskUptoRow.holds Try.pinned (OpenSpec.upto fnExactFirstDeskSpec)

/-- 'laws.FnExactCountProper', WHERE WHAT IT READS IS OF BULK AT MOST 1048576: true; the input reads as it did. -/
def fnExactCountProperUptoRow : OpenClaim := { program := "ytaamjlckaakenaa", sum := "ceba0843c765bb18bd646ea553d7fa3f1d671c044c514d53550678b8c325973a", func := "loop.example/g01373/laws.FnExactCountProper", spec := "fnExactCountProper", apart := false, narrowed := true }
def FnExactCountProperUptoSaid : Prop := fnExactCountProperUptoRow.holds Try.pinned (OpenSpec.upto fnExactCountProperSpec)

/-- 'laws.FnExactCountMirrored', WHERE WHAT IT READS IS OF BULK AT MOST 1048576: true; the input reads as it did. -/
def fnExactCountMirroredUptoRow : OpenClaim := { program := "ytaamjlckaakenaa", sum := "ceba0843c765bb18bd646ea553d7fa3f1d671c044c514d53550678b8c325973a", func := "loop.example/g01373/laws.FnExactCountMirrored", spec := "fnExactCountMirrored", apart := false, narrowed := true }
def FnExactCountMirroredUptoSaid : Prop := fnExactCountMirroredUptoRow.holds Try.pinned (OpenSpec.upto fnExactCountMirroredSpec)

/-- 'laws.FnExactIsDesk', WHERE WHAT IT READS IS OF BULK AT MOST 1048576: true; the input reads as it did. -/
def fnExactIsDeskUptoRow : OpenClaim := { program := "ytaamjlckaakenaa", sum := "ceba0843c765bb18bd646ea553d7fa3f1d671c044c514d53550678b8c325973a", func := "loop.example/g01373/laws.FnExactIsDesk", spec := "fnExactIsDesk", inPlace := ["internal/bytealg.IndexByteString"], unfollowed := true, recurses := true, apart := false, narrowed := true }
def FnExactIsDeskUptoSaid : Prop := fnExactIsDeskUptoRow.holds Try.pinned (OpenSpec.upto fnExactIsDeskSpec)

/-- 'laws.FnExactCountAllTints', WHERE WHAT IT READS IS OF BULK AT MOST 1048576: true; the input reads as it did. -/
def fnExactCountAllTintsUptoRow : OpenClaim := { program := "ytaamjlckaakenaa", sum := "ceba0843c765bb18bd646ea553d7fa3f1d671c044c514d53550678b8c325973a", func := "loop.example/g01373/laws.FnExactCountAllTints", spec := "fnExactCountAllTints", apart := false, narrowed := true }
def FnExactCountAllTintsUptoSaid : Prop := fnExactCountAllTintsUptoRow.holds Try.pinned (OpenSpec.upto fnExactCountAllTintsSpec)

/-- 'laws.FnExactFirstProper', WHERE WHAT IT READS IS OF BULK AT MOST 1048576: true; the input reads as it did. -/
def fnExactFirstProperUptoRow : OpenClaim := { program := "ytaamjlckaakenaa", sum := "ceba0843c765bb18bd646ea553d7fa3f1d671c044c514d53550678b8c325973a", func := "loop.example/g01373/laws.FnExactFirstProper", spec := "fnExactFirstProper", apart := false, narrowed := true }
def FnExactFirstProperUptoSaid : Prop := fnExactFirstProperUptoRow.holds Try.pinned (OpenSpec.upto fnExactFirstProperSpec)

/-- 'laws.FnExactProperOfRank', WHERE WHAT IT READS IS OF BULK AT MOST 1048576: true; the input reads as it did. -/
def fnExactProperOfRankUptoRow : OpenClaim := { program := "ytaamjlckaakenaa", sum := "ceba0843c765bb18bd646ea553d7fa3f1d671c044c514d53550678b8c325973a", func := "loop.example/g01373/laws.FnExactProperOfRank", spec := "fnExactProperOfRank", apart := false, narrowed := true }
def FnExactProperOfRankUptoSaid : Prop := fnExactProperOfRankUptoRow.holds Try.pinned (OpenSpec.upto fnExactProperOfRankSpec)

/-- 'laws.FnExactFewestRepaints', WHERE WHAT IT READS IS OF BULK AT MOST 1048576: true; the input reads as it did. -/
def fnExactFewestRepaintsUptoRow : OpenClaim := { program := "ytaamjlckaakenaa", sum := "ceba0843c765bb18bd646ea553d7fa3f1d671c044c514d53550678b8c325973a", func := "loop.example/g01373/laws.FnExactFewestRepaints", spec := "fnExactFewestRepaints", inPlace := ["internal/bytealg.IndexByteString"], unfollowed := true, recurses := true, apart := false, narrowed := true }
def FnExactFewestRepaintsUptoSaid : Prop := fnExactFewestRepaintsUptoRow.holds Try.pinned (OpenSpec.upto fnExactFewestRepaintsSpec)

/-- 'laws.FnExactCountFills', WHERE WHAT IT READS IS OF BULK AT MOST 1048576: true; the input reads as it did. -/
def fnExactCountFillsUptoRow : OpenClaim := { program := "ytaamjlckaakenaa", sum := "ceba0843c765bb18bd646ea553d7fa3f1d671c044c514d53550678b8c325973a", func := "loop.example/g01373/laws.FnExactCountFills", spec := "fnExactCountFills", inPlace := ["internal/bytealg.IndexByteString"], unfollowed := true, recurses := true, apart := false, narrowed := true }
def FnExactCountFillsUptoSaid : Prop := fnExactCountFillsUptoRow.holds Try.pinned (OpenSpec.upto fnExactCountFillsSpec)

/-- 'laws.FnExactLeastCost', WHERE WHAT IT READS IS OF BULK AT MOST 1048576: true; the input reads as it did. -/
def fnExactLeastCostUptoRow : OpenClaim := { program := "ytaamjlckaakenaa", sum := "ceba0843c765bb18bd646ea553d7fa3f1d671c044c514d53550678b8c325973a", func := "loop.example/g01373/laws.FnExactLeastCost", spec := "fnExactLeastCost", unfollowed := true, recurses := true, apart := false, narrowed := true }
def FnExactLeastCostUptoSaid : Prop := fnExactLeastCostUptoRow.holds Try.pinned (OpenSpec.upto fnExactLeastCostSpec)

/-- 'laws.FnExactFirstRepainted', WHERE WHAT IT READS IS OF BULK AT MOST 1048576: true; the input reads as it did. -/
def fnExactFirstRepaintedUptoRow : OpenClaim := { program := "ytaamjlckaakenaa", sum := "ceba0843c765bb18bd646ea553d7fa3f1d671c044c514d53550678b8c325973a", func := "loop.example/g01373/laws.FnExactFirstRepainted", spec := "fnExactFirstRepainted", inPlace := ["internal/bytealg.IndexByteString"], unfollowed := true, recurses := true, apart := false, narrowed := true }
def FnExactFirstRepaintedUptoSaid : Prop := fnExactFirstRepaintedUptoRow.holds Try.pinned (OpenSpec.upto fnExactFirstRepaintedSpec)

/-- 'laws.FnExactFillProper', WHERE WHAT IT READS IS OF BULK AT MOST 1048576: true; the input reads as it did. -/
def fnExactFillProperUptoRow : OpenClaim := { program := "ytaamjlckaakenaa", sum := "ceba0843c765bb18bd646ea553d7fa3f1d671c044c514d53550678b8c325973a", func := "loop.example/g01373/laws.FnExactFillProper", spec := "fnExactFillProper", inPlace := ["internal/bytealg.IndexByteString"], unfollowed := true, recurses := true, apart := false, narrowed := true }
def FnExactFillProperUptoSaid : Prop := fnExactFillProperUptoRow.holds Try.pinned (OpenSpec.upto fnExactFillProperSpec)

end Rows
end Go.Proofs.Ytaamjlckaakenaa
