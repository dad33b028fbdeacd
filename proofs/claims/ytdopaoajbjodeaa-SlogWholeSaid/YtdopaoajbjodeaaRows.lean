/-
  No cell of these rows narrows 'for every input' (looked for: loops, veiled, ifaces, maps, wideKeys, modest, calm, conditions, laid).
  DERIVED. THE GIVEN ROWS OF THIS SEAT. 5 by the template 'for every input the law returns true; each argument reads behind the call as it read before'; 0 by the template 'total and deterministic' (their statements: YtdopaoajbjodeaaTotals.lean).
  GIVEN WITH THE SEED: the statements are not yours to turn. If you find one false, say at which input.
  Laid BY PROGRAM, IN A SANDBOX (cutbox-rows.mjs): the forced cells as the released guide's own fill.sh prints them over the translation 077a4bacbce6695f… (all of the seat's roots in one cut). By AI agents, Wed Nov 11 2026. No macro, syntax, notation, axiom, sorry.
-/
import Derived.Test.YtdopaoajbjodeaaChecked
import GoSem.Claim
import GoSem.ClaimJoined
import GoSem.ClaimMapViews
import Derived.JoinedTies
import Derived.KernelRfl
namespace Go.Proofs.Ytdopaoajbjodeaa
/- THE CELL 'sum', in the pinned program and in every row, IS THE sha256 OF THE DUMP (.gsa) THAT YtdopaoajbjodeaaProg.lean LOADS. Nothing in Lean hashes anything: it is a label: what it is worth is what the hold of that sum in a sandbox is worth. -/
noncomputable def Try.pinned : Pinned := { name := "ytdopaoajbjodeaa", sum := "077a4bacbce6695ffde1af922cfb00a254536eeef4a382483889d10564639342", checked := Try.checked }
namespace Rows
def none {H : Type} : Left H := { results := [], args := [] }

/-- 'tabulariumlaw14.SlogSpans': WHATEVER THE INPUT: true; the input reads as it did. -/
def slogSpansSpec : ChangeSpec := { name := "slogSpans", fn := fun _ => fun
  | [d] => { results := [.lit (.bool true)], args := [d] }
  | _ => none }
def slogSpansRow : OpenClaim := { program := "ytdopaoajbjodeaa", sum := "077a4bacbce6695ffde1af922cfb00a254536eeef4a382483889d10564639342", func := "tabularium/tabulariumlaw14.SlogSpans", spec := "slogSpans", unfollowed := true, recurses := true, apart := false }
def SlogSpansSaid : Prop := slogSpansRow.holds Try.pinned (OpenSpec.ofChange slogSpansSpec)

/-- ITS FALSE NEIGHBOUR: 'it returns false'. Refute it at one input. -/
def slogSpansWrong : ChangeSpec := { name := "slogSpans", fn := fun _ => fun
  | [d] => { results := [.lit (.bool false)], args := [d] }
  | _ => none }
def SlogSpansWrongFalsely : Prop := slogSpansRow.holds Try.pinned (OpenSpec.ofChange slogSpansWrong)

/-- 'tabulariumlaw14.SlogNone': WHATEVER THE INPUT: true; the input reads as it did. -/
def slogNoneSpec : ChangeSpec := { name := "slogNone", fn := fun _ => fun
  | [d1, d2] => { results := [.lit (.bool true)], args := [d1, d2] }
  | _ => none }
def slogNoneRow : OpenClaim := { program := "ytdopaoajbjodeaa", sum := "077a4bacbce6695ffde1af922cfb00a254536eeef4a382483889d10564639342", func := "tabularium/tabulariumlaw14.SlogNone", spec := "slogNone", unfollowed := true, recurses := true, apart := false }
def SlogNoneSaid : Prop := slogNoneRow.holds Try.pinned (OpenSpec.ofChange slogNoneSpec)

/-- ITS FALSE NEIGHBOUR: 'it returns false'. Refute it at one input. -/
def slogNoneWrong : ChangeSpec := { name := "slogNone", fn := fun _ => fun
  | [d1, d2] => { results := [.lit (.bool false)], args := [d1, d2] }
  | _ => none }
def SlogNoneWrongFalsely : Prop := slogNoneRow.holds Try.pinned (OpenSpec.ofChange slogNoneWrong)

/-- 'tabulariumlaw14.SlogOpens': WHATEVER THE INPUT: true; the input reads as it did. -/
def slogOpensSpec : ChangeSpec := { name := "slogOpens", fn := fun _ => fun
  | [d1, d2, d3, d4, d5] => { results := [.lit (.bool true)], args := [d1, d2, d3, d4, d5] }
  | _ => none }
def slogOpensRow : OpenClaim := { program := "ytdopaoajbjodeaa", sum := "077a4bacbce6695ffde1af922cfb00a254536eeef4a382483889d10564639342", func := "tabularium/tabulariumlaw14.SlogOpens", spec := "slogOpens", unfollowed := true, recurses := true, apart := false }
def SlogOpensSaid : Prop := slogOpensRow.holds Try.pinned (OpenSpec.ofChange slogOpensSpec)

/-- ITS FALSE NEIGHBOUR: 'it returns false'. Refute it at one input. -/
def slogOpensWrong : ChangeSpec := { name := "slogOpens", fn := fun _ => fun
  | [d1, d2, d3, d4, d5] => { results := [.lit (.bool false)], args := [d1, d2, d3, d4, d5] }
  | _ => none }
def SlogOpensWrongFalsely : Prop := slogOpensRow.holds Try.pinned (OpenSpec.ofChange slogOpensWrong)

/-- 'tabulariumlaw14.SlogAppends': WHATEVER THE INPUT: true; the input reads as it did. -/
def slogAppendsSpec : ChangeSpec := { name := "slogAppends", fn := fun _ => fun
  | [d1, d2, d3, d4, d5] => { results := [.lit (.bool true)], args := [d1, d2, d3, d4, d5] }
  | _ => none }
def slogAppendsRow : OpenClaim := { program := "ytdopaoajbjodeaa", sum := "077a4bacbce6695ffde1af922cfb00a254536eeef4a382483889d10564639342", func := "tabularium/tabulariumlaw14.SlogAppends", spec := "slogAppends", unfollowed := true, recurses := true, apart := false }
def SlogAppendsSaid : Prop := slogAppendsRow.holds Try.pinned (OpenSpec.ofChange slogAppendsSpec)

/-- ITS FALSE NEIGHBOUR: 'it returns false'. Refute it at one input. -/
def slogAppendsWrong : ChangeSpec := { name := "slogAppends", fn := fun _ => fun
  | [d1, d2, d3, d4, d5] => { results := [.lit (.bool false)], args := [d1, d2, d3, d4, d5] }
  | _ => none }
def SlogAppendsWrongFalsely : Prop := slogAppendsRow.holds Try.pinned (OpenSpec.ofChange slogAppendsWrong)

/-- 'tabulariumlaw14.SlogWhole': WHATEVER THE INPUT: true; the input reads as it did. -/
def slogWholeSpec : ChangeSpec := { name := "slogWhole", fn := fun _ => fun
  | [d1, d2, d3, d4] => { results := [.lit (.bool true)], args := [d1, d2, d3, d4] }
  | _ => none }
def slogWholeRow : OpenClaim := { program := "ytdopaoajbjodeaa", sum := "077a4bacbce6695ffde1af922cfb00a254536eeef4a382483889d10564639342", func := "tabularium/tabulariumlaw14.SlogWhole", spec := "slogWhole", unfollowed := true, recurses := true, apart := false }
def SlogWholeSaid : Prop := slogWholeRow.holds Try.pinned (OpenSpec.ofChange slogWholeSpec)

/-- ITS FALSE NEIGHBOUR: 'it returns false'. Refute it at one input. -/
def slogWholeWrong : ChangeSpec := { name := "slogWhole", fn := fun _ => fun
  | [d1, d2, d3, d4] => { results := [.lit (.bool false)], args := [d1, d2, d3, d4] }
  | _ => none }
def SlogWholeWrongFalsely : Prop := slogWholeRow.holds Try.pinned (OpenSpec.ofChange slogWholeWrong)

/- THE SECOND FORM. 'bulk': how many values and letters a reading holds, each counted each time it is reached (what is shared counts as often as it is met; a slice's spare places count too). A statement '..UptoSaid' is the law's where the arguments, and the package variables that the reading takes, are together of bulk at most 1048576: NARROWER than '..Said'. Prove '..Said' where nothing that the law and all that it calls make is longer than what came in: it says more and counts as full. Else prove '..UptoSaid'. A law counts once. -/
mutual
def uptoBulk {H : Type} : DataW H → Nat
  | .lit (.string bytes) => bytes.length + 1
  | .lit _ => 1
  | .nil => 1
  | .ptr d => uptoBulk d + 1
  | .slice elems spare => uptoBulkAll elems + uptoBulkAll spare + 1
  | .agg parts => uptoBulkAll parts + 1
  | .iface _ d => uptoBulk d + 1
  | .map entries => uptoBulkEntries entries + 1
  | .held _ => 1
def uptoBulkAll {H : Type} : List (DataW H) → Nat
  | [] => 0
  | d :: r => uptoBulk d + uptoBulkAll r
def uptoBulkEntries {H : Type} : List (Lit × DataW H) → Nat
  | [] => 0
  | x :: r => uptoBulkEntry x + uptoBulkEntries r
def uptoBulkEntry {H : Type} : Lit × DataW H → Nat
  | (.string bytes, d) => bytes.length + uptoBulk d + 1
  | (_, d) => uptoBulk d + 1
 end
def uptoSmall : (H : Type) → List (DataW H) → Bool := fun _ ds => decide (uptoBulkAll ds ≤ 1048576)
def OpenSpec.upto (s : _root_.Go.ChangeSpec) : _root_.Go.OpenSpec := { _root_.Go.OpenSpec.ofChange s with cond := some uptoSmall }

/-- 'tabulariumlaw14.SlogSpans', WHERE WHAT IT READS IS OF BULK AT MOST 1048576: true; the input reads as it did. -/
def slogSpansUptoRow : OpenClaim := { program := "ytdopaoajbjodeaa", sum := "077a4bacbce6695ffde1af922cfb00a254536eeef4a382483889d10564639342", func := "tabularium/tabulariumlaw14.SlogSpans", spec := "slogSpans", unfollowed := true, recurses := true, apart := false, narrowed := true }
def SlogSpansUptoSaid : Prop := slogSpansUptoRow.holds Try.pinned (OpenSpec.upto slogSpansSpec)

/-- 'tabulariumlaw14.SlogNone', WHERE WHAT IT READS IS OF BULK AT MOST 1048576: true; the input reads as it did. -/
def slogNoneUptoRow : OpenClaim := { program := "ytdopaoajbjodeaa", sum := "077a4bacbce6695ffde1af922cfb00a254536eeef4a382483889d10564639342", func := "tabularium/tabulariumlaw14.SlogNone", spec := "slogNone", unfollowed := true, recurses := true, apart := false, narrowed := true }
def SlogNoneUptoSaid : Prop := slogNoneUptoRow.holds Try.pinned (OpenSpec.upto slogNoneSpec)

/-- 'tabulariumlaw14.SlogOpens', WHERE WHAT IT READS IS OF BULK AT MOST 1048576: true; the input reads as it did. -/
def slogOpensUptoRow : OpenClaim := { program := "ytdopaoajbjodeaa", sum := "077a4bacbce6695ffde1af922cfb00a254536eeef4a382483889d10564639342", func := "tabularium/tabulariumlaw14.SlogOpens", spec := "slogOpens", unfollowed := true, recurses := true, apart := false, narrowed := true }
def SlogOpensUptoSaid : Prop := slogOpensUptoRow.holds Try.pinned (OpenSpec.upto slogOpensSpec)

/-- 'tabulariumlaw14.SlogAppends', WHERE WHAT IT READS IS OF BULK AT MOST 1048576: true; the input reads as it did. -/
def slogAppendsUptoRow : OpenClaim := { program := "ytdopaoajbjodeaa", sum := "077a4bacbce6695ffde1af922cfb00a254536eeef4a382483889d10564639342", func := "tabularium/tabulariumlaw14.SlogAppends", spec := "slogAppends", unfollowed := true, recurses := true, apart := false, narrowed := true }
def SlogAppendsUptoSaid : Prop := slogAppendsUptoRow.holds Try.pinned (OpenSpec.upto slogAppendsSpec)

/-- 'tabulariumlaw14.SlogWhole', WHERE WHAT IT READS IS OF BULK AT MOST 1048576: true; the input reads as it did. -/
def slogWholeUptoRow : OpenClaim := { program := "ytdopaoajbjodeaa", sum := "077a4bacbce6695ffde1af922cfb00a254536eeef4a382483889d10564639342", func := "tabularium/tabulariumlaw14.SlogWhole", spec := "slogWhole", unfollowed := true, recurses := true, apart := false, narrowed := true }
def SlogWholeUptoSaid : Prop := slogWholeUptoRow.holds Try.pinned (OpenSpec.upto slogWholeSpec)

end Rows
end Go.Proofs.Ytdopaoajbjodeaa
