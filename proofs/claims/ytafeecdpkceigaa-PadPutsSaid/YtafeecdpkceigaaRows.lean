/-
  No cell of these rows narrows 'for every input' (looked for: loops, veiled, ifaces, maps, wideKeys, modest, calm, conditions, laid).
  DERIVED. THE GIVEN ROWS OF THIS SEAT. 8 by the template 'for every input the law returns true; each argument reads behind the call as it read before'; 0 by the template 'total and deterministic' (their statements: YtafeecdpkceigaaTotals.lean).
  GIVEN WITH THE SEED: the statements are not yours to turn. If you find one false, say at which input.
  Laid BY PROGRAM, IN A SANDBOX (cutbox-rows.mjs): the forced cells as the released guide's own fill.sh prints them over the translation dd7b451169e416f1… (all of the seat's roots in one cut). By AI agents, Wed Nov 11 2026. No macro, syntax, notation, axiom, sorry.
-/
import Derived.Test.YtafeecdpkceigaaChecked
import GoSem.Claim
import GoSem.ClaimJoined
import GoSem.ClaimMapViews
import Derived.JoinedTies
import Derived.KernelRfl
namespace Go.Proofs.Ytafeecdpkceigaa
/- THE CELL 'sum', in the pinned program and in every row, IS THE sha256 OF THE DUMP (.gsa) THAT YtafeecdpkceigaaProg.lean LOADS. Nothing in Lean hashes anything: it is a label: what it is worth is what the hold of that sum in a sandbox is worth. -/
noncomputable def Try.pinned : Pinned := { name := "ytafeecdpkceigaa", sum := "dd7b451169e416f127f4ccfb7d271d77ec74f4a5fa260aa7edf6acd9c0d0d6ca", checked := Try.checked }
namespace Rows
def none {H : Type} : Left H := { results := [], args := [] }

/-- 'tabulariumlaw05.PadBuckets': WHATEVER THE INPUT: true; the input reads as it did. -/
def padBucketsSpec : ChangeSpec := { name := "padBuckets", fn := fun _ => fun
  | [d] => { results := [.lit (.bool true)], args := [d] }
  | _ => none }
def padBucketsRow : OpenClaim := { program := "ytafeecdpkceigaa", sum := "dd7b451169e416f127f4ccfb7d271d77ec74f4a5fa260aa7edf6acd9c0d0d6ca", func := "tabularium/tabulariumlaw05.PadBuckets", spec := "padBuckets", unfollowed := true, recurses := true, apart := false }
def PadBucketsSaid : Prop := padBucketsRow.holds Try.pinned (OpenSpec.ofChange padBucketsSpec)

/-- ITS FALSE NEIGHBOUR: 'it returns false'. Refute it at one input. -/
def padBucketsWrong : ChangeSpec := { name := "padBuckets", fn := fun _ => fun
  | [d] => { results := [.lit (.bool false)], args := [d] }
  | _ => none }
def PadBucketsWrongFalsely : Prop := padBucketsRow.holds Try.pinned (OpenSpec.ofChange padBucketsWrong)

/-- 'tabulariumlaw01.VecRols': WHATEVER THE INPUT: true; the input reads as it did. -/
def vecRolsSpec : ChangeSpec := { name := "vecRols", fn := fun _ => fun
  | [d1, d2] => { results := [.lit (.bool true)], args := [d1, d2] }
  | _ => none }
def vecRolsRow : OpenClaim := { program := "ytafeecdpkceigaa", sum := "dd7b451169e416f127f4ccfb7d271d77ec74f4a5fa260aa7edf6acd9c0d0d6ca", func := "tabularium/tabulariumlaw01.VecRols", spec := "vecRols", unfollowed := true, recurses := true, apart := false }
def VecRolsSaid : Prop := vecRolsRow.holds Try.pinned (OpenSpec.ofChange vecRolsSpec)

/-- ITS FALSE NEIGHBOUR: 'it returns false'. Refute it at one input. -/
def vecRolsWrong : ChangeSpec := { name := "vecRols", fn := fun _ => fun
  | [d1, d2] => { results := [.lit (.bool false)], args := [d1, d2] }
  | _ => none }
def VecRolsWrongFalsely : Prop := vecRolsRow.holds Try.pinned (OpenSpec.ofChange vecRolsWrong)

/-- 'tabulariumlaw01.VecChunks': WHATEVER THE INPUT: true; the input reads as it did. -/
def vecChunksSpec : ChangeSpec := { name := "vecChunks", fn := fun _ => fun
  | [d1, d2, d3] => { results := [.lit (.bool true)], args := [d1, d2, d3] }
  | _ => none }
def vecChunksRow : OpenClaim := { program := "ytafeecdpkceigaa", sum := "dd7b451169e416f127f4ccfb7d271d77ec74f4a5fa260aa7edf6acd9c0d0d6ca", func := "tabularium/tabulariumlaw01.VecChunks", spec := "vecChunks", unfollowed := true, recurses := true, apart := false }
def VecChunksSaid : Prop := vecChunksRow.holds Try.pinned (OpenSpec.ofChange vecChunksSpec)

/-- ITS FALSE NEIGHBOUR: 'it returns false'. Refute it at one input. -/
def vecChunksWrong : ChangeSpec := { name := "vecChunks", fn := fun _ => fun
  | [d1, d2, d3] => { results := [.lit (.bool false)], args := [d1, d2, d3] }
  | _ => none }
def VecChunksWrongFalsely : Prop := vecChunksRow.holds Try.pinned (OpenSpec.ofChange vecChunksWrong)

/-- 'tabulariumlaw01.VecWords': WHATEVER THE INPUT: true; the input reads as it did. -/
def vecWordsSpec : ChangeSpec := { name := "vecWords", fn := fun _ => fun
  | [d1, d2] => { results := [.lit (.bool true)], args := [d1, d2] }
  | _ => none }
def vecWordsRow : OpenClaim := { program := "ytafeecdpkceigaa", sum := "dd7b451169e416f127f4ccfb7d271d77ec74f4a5fa260aa7edf6acd9c0d0d6ca", func := "tabularium/tabulariumlaw01.VecWords", spec := "vecWords", unfollowed := true, recurses := true, apart := false }
def VecWordsSaid : Prop := vecWordsRow.holds Try.pinned (OpenSpec.ofChange vecWordsSpec)

/-- ITS FALSE NEIGHBOUR: 'it returns false'. Refute it at one input. -/
def vecWordsWrong : ChangeSpec := { name := "vecWords", fn := fun _ => fun
  | [d1, d2] => { results := [.lit (.bool false)], args := [d1, d2] }
  | _ => none }
def VecWordsWrongFalsely : Prop := vecWordsRow.holds Try.pinned (OpenSpec.ofChange vecWordsWrong)

/-- 'tabulariumlaw05.PadLong': WHATEVER THE INPUT: true; the input reads as it did. -/
def padLongSpec : ChangeSpec := { name := "padLong", fn := fun _ => fun
  | [d] => { results := [.lit (.bool true)], args := [d] }
  | _ => none }
def padLongRow : OpenClaim := { program := "ytafeecdpkceigaa", sum := "dd7b451169e416f127f4ccfb7d271d77ec74f4a5fa260aa7edf6acd9c0d0d6ca", func := "tabularium/tabulariumlaw05.PadLong", spec := "padLong", unfollowed := true, recurses := true, apart := false }
def PadLongSaid : Prop := padLongRow.holds Try.pinned (OpenSpec.ofChange padLongSpec)

/-- ITS FALSE NEIGHBOUR: 'it returns false'. Refute it at one input. -/
def padLongWrong : ChangeSpec := { name := "padLong", fn := fun _ => fun
  | [d] => { results := [.lit (.bool false)], args := [d] }
  | _ => none }
def PadLongWrongFalsely : Prop := padLongRow.holds Try.pinned (OpenSpec.ofChange padLongWrong)

/-- 'tabulariumlaw01.VecXors': WHATEVER THE INPUT: true; the input reads as it did. -/
def vecXorsSpec : ChangeSpec := { name := "vecXors", fn := fun _ => fun
  | [d1, d2] => { results := [.lit (.bool true)], args := [d1, d2] }
  | _ => none }
def vecXorsRow : OpenClaim := { program := "ytafeecdpkceigaa", sum := "dd7b451169e416f127f4ccfb7d271d77ec74f4a5fa260aa7edf6acd9c0d0d6ca", func := "tabularium/tabulariumlaw01.VecXors", spec := "vecXors", unfollowed := true, recurses := true, apart := false }
def VecXorsSaid : Prop := vecXorsRow.holds Try.pinned (OpenSpec.ofChange vecXorsSpec)

/-- ITS FALSE NEIGHBOUR: 'it returns false'. Refute it at one input. -/
def vecXorsWrong : ChangeSpec := { name := "vecXors", fn := fun _ => fun
  | [d1, d2] => { results := [.lit (.bool false)], args := [d1, d2] }
  | _ => none }
def VecXorsWrongFalsely : Prop := vecXorsRow.holds Try.pinned (OpenSpec.ofChange vecXorsWrong)

/-- 'tabulariumlaw05.PadPuts': WHATEVER THE INPUT: true; the input reads as it did. -/
def padPutsSpec : ChangeSpec := { name := "padPuts", fn := fun _ => fun
  | [d1, d2] => { results := [.lit (.bool true)], args := [d1, d2] }
  | _ => none }
def padPutsRow : OpenClaim := { program := "ytafeecdpkceigaa", sum := "dd7b451169e416f127f4ccfb7d271d77ec74f4a5fa260aa7edf6acd9c0d0d6ca", func := "tabularium/tabulariumlaw05.PadPuts", spec := "padPuts", unfollowed := true, recurses := true, apart := false }
def PadPutsSaid : Prop := padPutsRow.holds Try.pinned (OpenSpec.ofChange padPutsSpec)

/-- ITS FALSE NEIGHBOUR: 'it returns false'. Refute it at one input. -/
def padPutsWrong : ChangeSpec := { name := "padPuts", fn := fun _ => fun
  | [d1, d2] => { results := [.lit (.bool false)], args := [d1, d2] }
  | _ => none }
def PadPutsWrongFalsely : Prop := padPutsRow.holds Try.pinned (OpenSpec.ofChange padPutsWrong)

/-- 'tabulariumlaw05.PadBack': WHATEVER THE INPUT: true; the input reads as it did. -/
def padBackSpec : ChangeSpec := { name := "padBack", fn := fun _ => fun
  | [d] => { results := [.lit (.bool true)], args := [d] }
  | _ => none }
def padBackRow : OpenClaim := { program := "ytafeecdpkceigaa", sum := "dd7b451169e416f127f4ccfb7d271d77ec74f4a5fa260aa7edf6acd9c0d0d6ca", func := "tabularium/tabulariumlaw05.PadBack", spec := "padBack", unfollowed := true, recurses := true, apart := false }
def PadBackSaid : Prop := padBackRow.holds Try.pinned (OpenSpec.ofChange padBackSpec)

/-- ITS FALSE NEIGHBOUR: 'it returns false'. Refute it at one input. -/
def padBackWrong : ChangeSpec := { name := "padBack", fn := fun _ => fun
  | [d] => { results := [.lit (.bool false)], args := [d] }
  | _ => none }
def PadBackWrongFalsely : Prop := padBackRow.holds Try.pinned (OpenSpec.ofChange padBackWrong)

/- THE SECOND FORM. 'bulk': how many values and letters a reading holds, each counted each time it is reached (what is shared counts as often as it is met; a slice's spare places count too). A statement '..UptoSaid' is the law's where the arguments, and the package variables that the reading takes, are together of bulk at most 1048576: NARROWER than '..Said'. Prove '..Said' where nothing that the law and all that it calls make is longer than what came in: it says more and counts as full. Else prove '..UptoSaid'. A law counts once. -/
mutual
def uptoBulk {H : Type} : DataW H → Nat
  | .lit (.string bytes) => bytes.length + 1
  | .lit _ => 1
  | .nil => 1
  | .ptr d => uptoBulk d + 1
  | .slice elems spare => uptoBulkAll elems + uptoBulkAll spare + 1
  | .agg parts => uptoBulkAll parts + 1
  | .iface _ d => uptoBulk d + 1
  | .map entries => uptoBulkEntries entries + 1
  | .held _ => 1
def uptoBulkAll {H : Type} : List (DataW H) → Nat
  | [] => 0
  | d :: r => uptoBulk d + uptoBulkAll r
def uptoBulkEntries {H : Type} : List (Lit × DataW H) → Nat
  | [] => 0
  | x :: r => uptoBulkEntry x + uptoBulkEntries r
def uptoBulkEntry {H : Type} : Lit × DataW H → Nat
  | (.string bytes, d) => bytes.length + uptoBulk d + 1
  | (_, d) => uptoBulk d + 1
 end
def uptoSmall : (H : Type) → List (DataW H) → Bool := fun _ ds => decide (uptoBulkAll ds ≤ 1048576)
def OpenSpec.upto (s : _root_.Go.ChangeSpec) : _root_.Go.OpenSpec := { _root_.Go.OpenSpec.ofChange s with cond := some uptoSmall }

/-- 'tabulariumlaw05.PadBuckets', WHERE WHAT IT READS IS OF BULK AT MOST 1048576: true; the input reads as it did. -/
def padBucketsUptoRow : OpenClaim := { program := "ytafeecdpkceigaa", sum := "dd7b451169e416f127f4ccfb7d271d77ec74f4a5fa260aa7edf6acd9c0d0d6ca", func := "tabularium/tabulariumlaw05.PadBuckets", spec := "padBuckets", unfollowed := true, recurses := true, apart := false, narrowed := true }
def PadBucketsUptoSaid : Prop := padBucketsUptoRow.holds Try.pinned (OpenSpec.upto padBucketsSpec)

/-- 'tabulariumlaw01.VecRols', WHERE WHAT IT READS IS OF BULK AT MOST 1048576: true; the input reads as it did. -/
def vecRolsUptoRow : OpenClaim := { program := "ytafeecdpkceigaa", sum := "dd7b451169e416f127f4ccfb7d271d77ec74f4a5fa260aa7edf6acd9c0d0d6ca", func := "tabularium/tabulariumlaw01.VecRols", spec := "vecRols", unfollowed := true, recurses := true, apart := false, narrowed := true }
def VecRolsUptoSaid : Prop := vecRolsUptoRow.holds Try.pinned (OpenSpec.upto vecRolsSpec)

/-- 'tabulariumlaw01.VecChunks', WHERE WHAT IT READS IS OF BULK AT MOST 1048576: true; the input reads as it did. -/
def vecChunksUptoRow : OpenClaim := { program := "ytafeecdpkceigaa", sum := "dd7b451169e416f127f4ccfb7d271d77ec74f4a5fa260aa7edf6acd9c0d0d6ca", func := "tabularium/tabulariumlaw01.VecChunks", spec := "vecChunks", unfollowed := true, recurses := true, apart := false, narrowed := true }
def VecChunksUptoSaid : Prop := vecChunksUptoRow.holds Try.pinned (OpenSpec.upto vecChunksSpec)

/-- 'tabulariumlaw01.VecWords', WHERE WHAT IT READS IS OF BULK AT MOST 1048576: true; the input reads as it did. -/
def vecWordsUptoRow : OpenClaim := { program := "ytafeecdpkceigaa", sum := "dd7b451169e416f127f4ccfb7d271d77ec74f4a5fa260aa7edf6acd9c0d0d6ca", func := "tabularium/tabulariumlaw01.VecWords", spec := "vecWords", unfollowed := true, recurses := true, apart := false, narrowed := true }
def VecWordsUptoSaid : Prop := vecWordsUptoRow.holds Try.pinned (OpenSpec.upto vecWordsSpec)

/-- 'tabulariumlaw05.PadLong', WHERE WHAT IT READS IS OF BULK AT MOST 1048576: true; the input reads as it did. -/
def padLongUptoRow : OpenClaim := { program := "ytafeecdpkceigaa", sum := "dd7b451169e416f127f4ccfb7d271d77ec74f4a5fa260aa7edf6acd9c0d0d6ca", func := "tabularium/tabulariumlaw05.PadLong", spec := "padLong", unfollowed := true, recurses := true, apart := false, narrowed := true }
def PadLongUptoSaid : Prop := padLongUptoRow.holds Try.pinned (OpenSpec.upto padLongSpec)

/-- 'tabulariumlaw01.VecXors', WHERE WHAT IT READS IS OF BULK AT MOST 1048576: true; the input reads as it did. -/
def vecXorsUptoRow : OpenClaim := { program := "ytafeecdpkceigaa", sum := "dd7b451169e416f127f4ccfb7d271d77ec74f4a5fa260aa7edf6acd9c0d0d6ca", func := "tabularium/tabulariumlaw01.VecXors", spec := "vecXors", unfollowed := true, recurses := true, apart := false, narrowed := true }
def VecXorsUptoSaid : Prop := vecXorsUptoRow.holds Try.pinned (OpenSpec.upto vecXorsSpec)

/-- 'tabulariumlaw05.PadPuts', WHERE WHAT IT READS IS OF BULK AT MOST 1048576: true; the input reads as it did. -/
def padPutsUptoRow : OpenClaim := { program := "ytafeecdpkceigaa", sum := "dd7b451169e416f127f4ccfb7d271d77ec74f4a5fa260aa7edf6acd9c0d0d6ca", func := "tabularium/tabulariumlaw05.PadPuts", spec := "padPuts", unfollowed := true, recurses := true, apart := false, narrowed := true }
def PadPutsUptoSaid : Prop := padPutsUptoRow.holds Try.pinned (OpenSpec.upto padPutsSpec)

/-- 'tabulariumlaw05.PadBack', WHERE WHAT IT READS IS OF BULK AT MOST 1048576: true; the input reads as it did. -/
def padBackUptoRow : OpenClaim := { program := "ytafeecdpkceigaa", sum := "dd7b451169e416f127f4ccfb7d271d77ec74f4a5fa260aa7edf6acd9c0d0d6ca", func := "tabularium/tabulariumlaw05.PadBack", spec := "padBack", unfollowed := true, recurses := true, apart := false, narrowed := true }
def PadBackUptoSaid : Prop := padBackUptoRow.holds Try.pinned (OpenSpec.upto padBackSpec)

end Rows
end Go.Proofs.Ytafeecdpkceigaa
