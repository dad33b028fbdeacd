/-
  No cell of these rows narrows 'for every input' (looked for: loops, veiled, ifaces, maps, wideKeys, modest, calm, conditions, laid).
  DERIVED. THE GIVEN ROWS OF THIS SEAT. 7 by the template 'for every input the law returns true; each argument reads behind the call as it read before'; 0 by the template 'total and deterministic' (their statements: YthedpnnfkmbdpaaTotals.lean).
  GIVEN WITH THE SEED: the statements are not yours to turn. If you find one false, say at which input.
  Laid BY PROGRAM, IN A SANDBOX (cutbox-rows.mjs): the forced cells as the released guide's own fill.sh prints them over the translation 5d54eb8069b8f799… (all of the seat's roots in one cut). By AI agents, Wed Nov 11 2026. No macro, syntax, notation, axiom, sorry.
-/
import Derived.Test.YthedpnnfkmbdpaaChecked
import GoSem.Claim
import GoSem.ClaimJoined
import GoSem.ClaimMapViews
import Derived.JoinedTies
import Derived.KernelRfl
namespace Go.Proofs.Ythedpnnfkmbdpaa
/- THE CELL 'sum', in the pinned program and in every row, IS THE sha256 OF THE DUMP (.gsa) THAT YthedpnnfkmbdpaaProg.lean LOADS. Nothing in Lean hashes anything: it is a label: what it is worth is what the hold of that sum in a sandbox is worth. -/
noncomputable def Try.pinned : Pinned := { name := "ythedpnnfkmbdpaa", sum := "5d54eb8069b8f799f64cca1f3b3d1e0299b2b598917016eaee7aa417ea5d84eb", checked := Try.checked }
namespace Rows
def none {H : Type} : Left H := { results := [], args := [] }

/-- 'tabulariumlaw25.LinesLongest': WHATEVER THE INPUT: true; the input reads as it did. -/
def linesLongestSpec : ChangeSpec := { name := "linesLongest", fn := fun _ => fun
  | [d1, d2, d3] => { results := [.lit (.bool true)], args := [d1, d2, d3] }
  | _ => none }
def linesLongestRow : OpenClaim := { program := "ythedpnnfkmbdpaa", sum := "5d54eb8069b8f799f64cca1f3b3d1e0299b2b598917016eaee7aa417ea5d84eb", func := "tabularium/tabulariumlaw25.LinesLongest", spec := "linesLongest", apart := false }
def LinesLongestSaid : Prop := linesLongestRow.holds Try.pinned (OpenSpec.ofChange linesLongestSpec)

/-- ITS FALSE NEIGHBOUR: 'it returns false'. Refute it at one input. -/
def linesLongestWrong : ChangeSpec := { name := "linesLongest", fn := fun _ => fun
  | [d1, d2, d3] => { results := [.lit (.bool false)], args := [d1, d2, d3] }
  | _ => none }
def LinesLongestWrongFalsely : Prop := linesLongestRow.holds Try.pinned (OpenSpec.ofChange linesLongestWrong)

/-- 'tabulariumlaw25.LinesCommon': WHATEVER THE INPUT: true; the input reads as it did. -/
def linesCommonSpec : ChangeSpec := { name := "linesCommon", fn := fun _ => fun
  | [d1, d2] => { results := [.lit (.bool true)], args := [d1, d2] }
  | _ => none }
def linesCommonRow : OpenClaim := { program := "ythedpnnfkmbdpaa", sum := "5d54eb8069b8f799f64cca1f3b3d1e0299b2b598917016eaee7aa417ea5d84eb", func := "tabularium/tabulariumlaw25.LinesCommon", spec := "linesCommon", apart := false }
def LinesCommonSaid : Prop := linesCommonRow.holds Try.pinned (OpenSpec.ofChange linesCommonSpec)

/-- ITS FALSE NEIGHBOUR: 'it returns false'. Refute it at one input. -/
def linesCommonWrong : ChangeSpec := { name := "linesCommon", fn := fun _ => fun
  | [d1, d2] => { results := [.lit (.bool false)], args := [d1, d2] }
  | _ => none }
def LinesCommonWrongFalsely : Prop := linesCommonRow.holds Try.pinned (OpenSpec.ofChange linesCommonWrong)

/-- 'tabulariumlaw25.LinesSame': WHATEVER THE INPUT: true; the input reads as it did. -/
def linesSameSpec : ChangeSpec := { name := "linesSame", fn := fun _ => fun
  | [d] => { results := [.lit (.bool true)], args := [d] }
  | _ => none }
def linesSameRow : OpenClaim := { program := "ythedpnnfkmbdpaa", sum := "5d54eb8069b8f799f64cca1f3b3d1e0299b2b598917016eaee7aa417ea5d84eb", func := "tabularium/tabulariumlaw25.LinesSame", spec := "linesSame", apart := false }
def LinesSameSaid : Prop := linesSameRow.holds Try.pinned (OpenSpec.ofChange linesSameSpec)

/-- ITS FALSE NEIGHBOUR: 'it returns false'. Refute it at one input. -/
def linesSameWrong : ChangeSpec := { name := "linesSame", fn := fun _ => fun
  | [d] => { results := [.lit (.bool false)], args := [d] }
  | _ => none }
def LinesSameWrongFalsely : Prop := linesSameRow.holds Try.pinned (OpenSpec.ofChange linesSameWrong)

/-- 'tabulariumlaw25.LinesSplits': WHATEVER THE INPUT: true; the input reads as it did. -/
def linesSplitsSpec : ChangeSpec := { name := "linesSplits", fn := fun _ => fun
  | [d1, d2, d3] => { results := [.lit (.bool true)], args := [d1, d2, d3] }
  | _ => none }
def linesSplitsRow : OpenClaim := { program := "ythedpnnfkmbdpaa", sum := "5d54eb8069b8f799f64cca1f3b3d1e0299b2b598917016eaee7aa417ea5d84eb", func := "tabularium/tabulariumlaw25.LinesSplits", spec := "linesSplits", unfollowed := true, recurses := true, apart := false }
def LinesSplitsSaid : Prop := linesSplitsRow.holds Try.pinned (OpenSpec.ofChange linesSplitsSpec)

/-- ITS FALSE NEIGHBOUR: 'it returns false'. Refute it at one input. -/
def linesSplitsWrong : ChangeSpec := { name := "linesSplits", fn := fun _ => fun
  | [d1, d2, d3] => { results := [.lit (.bool false)], args := [d1, d2, d3] }
  | _ => none }
def LinesSplitsWrongFalsely : Prop := linesSplitsRow.holds Try.pinned (OpenSpec.ofChange linesSplitsWrong)

/-- 'tabulariumlaw26.Diff3Mutual': WHATEVER THE INPUT: true; the input reads as it did. -/
def diff3MutualSpec : ChangeSpec := { name := "diff3Mutual", fn := fun _ => fun
  | [d1, d2, d3] => { results := [.lit (.bool true)], args := [d1, d2, d3] }
  | _ => none }
def diff3MutualRow : OpenClaim := { program := "ythedpnnfkmbdpaa", sum := "5d54eb8069b8f799f64cca1f3b3d1e0299b2b598917016eaee7aa417ea5d84eb", func := "tabularium/tabulariumlaw26.Diff3Mutual", spec := "diff3Mutual", unfollowed := true, recurses := true, apart := false }
def Diff3MutualSaid : Prop := diff3MutualRow.holds Try.pinned (OpenSpec.ofChange diff3MutualSpec)

/-- ITS FALSE NEIGHBOUR: 'it returns false'. Refute it at one input. -/
def diff3MutualWrong : ChangeSpec := { name := "diff3Mutual", fn := fun _ => fun
  | [d1, d2, d3] => { results := [.lit (.bool false)], args := [d1, d2, d3] }
  | _ => none }
def Diff3MutualWrongFalsely : Prop := diff3MutualRow.holds Try.pinned (OpenSpec.ofChange diff3MutualWrong)

/-- 'tabulariumlaw26.Diff3Sides': WHATEVER THE INPUT: true; the input reads as it did. -/
def diff3SidesSpec : ChangeSpec := { name := "diff3Sides", fn := fun _ => fun
  | [d1, d2, d3] => { results := [.lit (.bool true)], args := [d1, d2, d3] }
  | _ => none }
def diff3SidesRow : OpenClaim := { program := "ythedpnnfkmbdpaa", sum := "5d54eb8069b8f799f64cca1f3b3d1e0299b2b598917016eaee7aa417ea5d84eb", func := "tabularium/tabulariumlaw26.Diff3Sides", spec := "diff3Sides", unfollowed := true, recurses := true, apart := false }
def Diff3SidesSaid : Prop := diff3SidesRow.holds Try.pinned (OpenSpec.ofChange diff3SidesSpec)

/-- ITS FALSE NEIGHBOUR: 'it returns false'. Refute it at one input. -/
def diff3SidesWrong : ChangeSpec := { name := "diff3Sides", fn := fun _ => fun
  | [d1, d2, d3] => { results := [.lit (.bool false)], args := [d1, d2, d3] }
  | _ => none }
def Diff3SidesWrongFalsely : Prop := diff3SidesRow.holds Try.pinned (OpenSpec.ofChange diff3SidesWrong)

/-- 'tabulariumlaw26.Diff3One': WHATEVER THE INPUT: true; the input reads as it did. -/
def diff3OneSpec : ChangeSpec := { name := "diff3One", fn := fun _ => fun
  | [d1, d2] => { results := [.lit (.bool true)], args := [d1, d2] }
  | _ => none }
def diff3OneRow : OpenClaim := { program := "ythedpnnfkmbdpaa", sum := "5d54eb8069b8f799f64cca1f3b3d1e0299b2b598917016eaee7aa417ea5d84eb", func := "tabularium/tabulariumlaw26.Diff3One", spec := "diff3One", unfollowed := true, recurses := true, apart := false }
def Diff3OneSaid : Prop := diff3OneRow.holds Try.pinned (OpenSpec.ofChange diff3OneSpec)

/-- ITS FALSE NEIGHBOUR: 'it returns false'. Refute it at one input. -/
def diff3OneWrong : ChangeSpec := { name := "diff3One", fn := fun _ => fun
  | [d1, d2] => { results := [.lit (.bool false)], args := [d1, d2] }
  | _ => none }
def Diff3OneWrongFalsely : Prop := diff3OneRow.holds Try.pinned (OpenSpec.ofChange diff3OneWrong)

/- THE SECOND FORM. 'bulk': how many values and letters a reading holds, each counted each time it is reached (what is shared counts as often as it is met; a slice's spare places count too). A statement '..UptoSaid' is the law's where the arguments, and the package variables that the reading takes, are together of bulk at most 1048576: NARROWER than '..Said'. Prove '..Said' where nothing that the law and all that it calls make is longer than what came in: it says more and counts as full. Else prove '..UptoSaid'. A law counts once. -/
mutual
def uptoBulk {H : Type} : DataW H → Nat
  | .lit (.string bytes) => bytes.length + 1
  | .lit _ => 1
  | .nil => 1
  | .ptr d => uptoBulk d + 1
  | .slice elems spare => uptoBulkAll elems + uptoBulkAll spare + 1
  | .agg parts => uptoBulkAll parts + 1
  | .iface _ d => uptoBulk d + 1
  | .map entries => uptoBulkEntries entries + 1
  | .held _ => 1
def uptoBulkAll {H : Type} : List (DataW H) → Nat
  | [] => 0
  | d :: r => uptoBulk d + uptoBulkAll r
def uptoBulkEntries {H : Type} : List (Lit × DataW H) → Nat
  | [] => 0
  | x :: r => uptoBulkEntry x + uptoBulkEntries r
def uptoBulkEntry {H : Type} : Lit × DataW H → Nat
  | (.string bytes, d) => bytes.length + uptoBulk d + 1
  | (_, d) => uptoBulk d + 1
 end
def uptoSmall : (H : Type) → List (DataW H) → Bool := fun _ ds => decide (uptoBulkAll ds ≤ 1048576)
def OpenSpec.upto (s : _root_.Go.ChangeSpec) : _root_.Go.OpenSpec := { _root_.Go.OpenSpec.ofChange s with cond := some uptoSmall }

/-- 'tabulariumlaw25.LinesLongest', WHERE WHAT IT READS IS OF BULK AT MOST 1048576: true; the input reads as it did. -/
def linesLongestUptoRow : OpenClaim := { program := "ythedpnnfkmbdpaa", sum := "5d54eb8069b8f799f64cca1f3b3d1e0299b2b598917016eaee7aa417ea5d84eb", func := "tabularium/tabulariumlaw25.LinesLongest", spec := "linesLongest", apart := false, narrowed := true }
def LinesLongestUptoSaid : Prop := linesLongestUptoRow.holds Try.pinned (OpenSpec.upto linesLongestSpec)

/-- 'tabulariumlaw25.LinesCommon', WHERE WHAT IT READS IS OF BULK AT MOST 1048576: true; the input reads as it did. -/
def linesCommonUptoRow : OpenClaim := { program := "ythedpnnfkmbdpaa", sum := "5d54eb8069b8f799f64cca1f3b3d1e0299b2b598917016eaee7aa417ea5d84eb", func := "tabularium/tabulariumlaw25.LinesCommon", spec := "linesCommon", apart := false, narrowed := true }
def LinesCommonUptoSaid : Prop := linesCommonUptoRow.holds Try.pinned (OpenSpec.upto linesCommonSpec)

/-- 'tabulariumlaw25.LinesSame', WHERE WHAT IT READS IS OF BULK AT MOST 1048576: true; the input reads as it did. -/
def linesSameUptoRow : OpenClaim := { program := "ythedpnnfkmbdpaa", sum := "5d54eb8069b8f799f64cca1f3b3d1e0299b2b598917016eaee7aa417ea5d84eb", func := "tabularium/tabulariumlaw25.LinesSame", spec := "linesSame", apart := false, narrowed := true }
def LinesSameUptoSaid : Prop := linesSameUptoRow.holds Try.pinned (OpenSpec.upto linesSameSpec)

/-- 'tabulariumlaw25.LinesSplits', WHERE WHAT IT READS IS OF BULK AT MOST 1048576: true; the input reads as it did. -/
def linesSplitsUptoRow : OpenClaim := { program := "ythedpnnfkmbdpaa", sum := "5d54eb8069b8f799f64cca1f3b3d1e0299b2b598917016eaee7aa417ea5d84eb", func := "tabularium/tabulariumlaw25.LinesSplits", spec := "linesSplits", unfollowed := true, recurses := true, apart := false, narrowed := true }
def LinesSplitsUptoSaid : Prop := linesSplitsUptoRow.holds Try.pinned (OpenSpec.upto linesSplitsSpec)

/-- 'tabulariumlaw26.Diff3Mutual', WHERE WHAT IT READS IS OF BULK AT MOST 1048576: true; the input reads as it did. -/
def diff3MutualUptoRow : OpenClaim := { program := "ythedpnnfkmbdpaa", sum := "5d54eb8069b8f799f64cca1f3b3d1e0299b2b598917016eaee7aa417ea5d84eb", func := "tabularium/tabulariumlaw26.Diff3Mutual", spec := "diff3Mutual", unfollowed := true, recurses := true, apart := false, narrowed := true }
def Diff3MutualUptoSaid : Prop := diff3MutualUptoRow.holds Try.pinned (OpenSpec.upto diff3MutualSpec)

/-- 'tabulariumlaw26.Diff3Sides', WHERE WHAT IT READS IS OF BULK AT MOST 1048576: true; the input reads as it did. -/
def diff3SidesUptoRow : OpenClaim := { program := "ythedpnnfkmbdpaa", sum := "5d54eb8069b8f799f64cca1f3b3d1e0299b2b598917016eaee7aa417ea5d84eb", func := "tabularium/tabulariumlaw26.Diff3Sides", spec := "diff3Sides", unfollowed := true, recurses := true, apart := false, narrowed := true }
def Diff3SidesUptoSaid : Prop := diff3SidesUptoRow.holds Try.pinned (OpenSpec.upto diff3SidesSpec)

/-- 'tabulariumlaw26.Diff3One', WHERE WHAT IT READS IS OF BULK AT MOST 1048576: true; the input reads as it did. -/
def diff3OneUptoRow : OpenClaim := { program := "ythedpnnfkmbdpaa", sum := "5d54eb8069b8f799f64cca1f3b3d1e0299b2b598917016eaee7aa417ea5d84eb", func := "tabularium/tabulariumlaw26.Diff3One", spec := "diff3One", unfollowed := true, recurses := true, apart := false, narrowed := true }
def Diff3OneUptoSaid : Prop := diff3OneUptoRow.holds Try.pinned (OpenSpec.upto diff3OneSpec)

end Rows
end Go.Proofs.Ythedpnnfkmbdpaa
