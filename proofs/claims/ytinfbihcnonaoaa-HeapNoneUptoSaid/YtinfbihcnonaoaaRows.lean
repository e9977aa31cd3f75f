/-
  NARROWER THAN 'FOR EVERY INPUT', by the rows' own cells (each row's printed sentence says how): HeapBack: loops · HeapParts: loops · HeapRaw: loops · HeapNone: loops · HeapDoes: loops.
  DERIVED. THE GIVEN ROWS OF THIS SEAT. 5 by the template 'for every input the law returns true; each argument reads behind the call as it read before'; 0 by the template 'total and deterministic' (their statements: YtinfbihcnonaoaaTotals.lean).
  GIVEN WITH THE SEED: the statements are not yours to turn. If you find one false, say at which input.
  Laid BY PROGRAM, IN A SANDBOX (cutbox-rows.mjs): the forced cells as the released guide's own fill.sh prints them over the translation 25f332ba9c53d1c6… (all of the seat's roots in one cut). By AI agents, Wed Nov 11 2026. No macro, syntax, notation, axiom, sorry.
-/
import Derived.Test.YtinfbihcnonaoaaChecked
import GoSem.Claim
import GoSem.ClaimJoined
import GoSem.ClaimMapViews
import Derived.JoinedTies
import Derived.KernelRfl
namespace Go.Proofs.Ytinfbihcnonaoaa
/- THE CELL 'sum', in the pinned program and in every row, IS THE sha256 OF THE DUMP (.gsa) THAT YtinfbihcnonaoaaProg.lean LOADS. Nothing in Lean hashes anything: it is a label: what it is worth is what the hold of that sum in a sandbox is worth. -/
noncomputable def Try.pinned : Pinned := { name := "ytinfbihcnonaoaa", sum := "25f332ba9c53d1c6d1069a74bff08b58c027fffd4afeffb03576ea3dbc60b420", checked := Try.checked }
namespace Rows
def none {H : Type} : Left H := { results := [], args := [] }

/-- 'pigeonholelaw24.HeapBack': WHATEVER THE INPUT: true; the input reads as it did. -/
def heapBackSpec : ChangeSpec := { name := "heapBack", fn := fun _ => fun
  | [d] => { results := [.lit (.bool true)], args := [d] }
  | _ => none }
def heapBackRow : OpenClaim := { program := "ytinfbihcnonaoaa", sum := "25f332ba9c53d1c6d1069a74bff08b58c027fffd4afeffb03576ea3dbc60b420", func := "pigeonhole/pigeonholelaw24.HeapBack", spec := "heapBack", unfollowed := true, recurses := true, loops := true, apart := false }
def HeapBackSaid : Prop := heapBackRow.holds Try.pinned (OpenSpec.ofChange heapBackSpec)

/-- ITS FALSE NEIGHBOUR: 'it returns false'. Refute it at one input. -/
def heapBackWrong : ChangeSpec := { name := "heapBack", fn := fun _ => fun
  | [d] => { results := [.lit (.bool false)], args := [d] }
  | _ => none }
def HeapBackWrongFalsely : Prop := heapBackRow.holds Try.pinned (OpenSpec.ofChange heapBackWrong)

/-- 'pigeonholelaw24.HeapParts': WHATEVER THE INPUT: true; the input reads as it did. -/
def heapPartsSpec : ChangeSpec := { name := "heapParts", fn := fun _ => fun
  | [d1, d2, d3] => { results := [.lit (.bool true)], args := [d1, d2, d3] }
  | _ => none }
def heapPartsRow : OpenClaim := { program := "ytinfbihcnonaoaa", sum := "25f332ba9c53d1c6d1069a74bff08b58c027fffd4afeffb03576ea3dbc60b420", func := "pigeonhole/pigeonholelaw24.HeapParts", spec := "heapParts", unfollowed := true, recurses := true, loops := true, apart := false }
def HeapPartsSaid : Prop := heapPartsRow.holds Try.pinned (OpenSpec.ofChange heapPartsSpec)

/-- ITS FALSE NEIGHBOUR: 'it returns false'. Refute it at one input. -/
def heapPartsWrong : ChangeSpec := { name := "heapParts", fn := fun _ => fun
  | [d1, d2, d3] => { results := [.lit (.bool false)], args := [d1, d2, d3] }
  | _ => none }
def HeapPartsWrongFalsely : Prop := heapPartsRow.holds Try.pinned (OpenSpec.ofChange heapPartsWrong)

/-- 'pigeonholelaw24.HeapRaw': WHATEVER THE INPUT: true; the input reads as it did. -/
def heapRawSpec : ChangeSpec := { name := "heapRaw", fn := fun _ => fun
  | [d1, d2] => { results := [.lit (.bool true)], args := [d1, d2] }
  | _ => none }
def heapRawRow : OpenClaim := { program := "ytinfbihcnonaoaa", sum := "25f332ba9c53d1c6d1069a74bff08b58c027fffd4afeffb03576ea3dbc60b420", func := "pigeonhole/pigeonholelaw24.HeapRaw", spec := "heapRaw", unfollowed := true, recurses := true, loops := true, apart := false }
def HeapRawSaid : Prop := heapRawRow.holds Try.pinned (OpenSpec.ofChange heapRawSpec)

/-- ITS FALSE NEIGHBOUR: 'it returns false'. Refute it at one input. -/
def heapRawWrong : ChangeSpec := { name := "heapRaw", fn := fun _ => fun
  | [d1, d2] => { results := [.lit (.bool false)], args := [d1, d2] }
  | _ => none }
def HeapRawWrongFalsely : Prop := heapRawRow.holds Try.pinned (OpenSpec.ofChange heapRawWrong)

/-- 'pigeonholelaw24.HeapNone': WHATEVER THE INPUT: true; the input reads as it did. -/
def heapNoneSpec : ChangeSpec := { name := "heapNone", fn := fun _ => fun
  | [d1, d2] => { results := [.lit (.bool true)], args := [d1, d2] }
  | _ => none }
def heapNoneRow : OpenClaim := { program := "ytinfbihcnonaoaa", sum := "25f332ba9c53d1c6d1069a74bff08b58c027fffd4afeffb03576ea3dbc60b420", func := "pigeonhole/pigeonholelaw24.HeapNone", spec := "heapNone", unfollowed := true, recurses := true, loops := true, apart := false }
def HeapNoneSaid : Prop := heapNoneRow.holds Try.pinned (OpenSpec.ofChange heapNoneSpec)

/-- ITS FALSE NEIGHBOUR: 'it returns false'. Refute it at one input. -/
def heapNoneWrong : ChangeSpec := { name := "heapNone", fn := fun _ => fun
  | [d1, d2] => { results := [.lit (.bool false)], args := [d1, d2] }
  | _ => none }
def HeapNoneWrongFalsely : Prop := heapNoneRow.holds Try.pinned (OpenSpec.ofChange heapNoneWrong)

/-- 'pigeonholelaw24.HeapDoes': WHATEVER THE INPUT: true; the input reads as it did. -/
def heapDoesSpec : ChangeSpec := { name := "heapDoes", fn := fun _ => fun
  | [d1, d2] => { results := [.lit (.bool true)], args := [d1, d2] }
  | _ => none }
def heapDoesRow : OpenClaim := { program := "ytinfbihcnonaoaa", sum := "25f332ba9c53d1c6d1069a74bff08b58c027fffd4afeffb03576ea3dbc60b420", func := "pigeonhole/pigeonholelaw24.HeapDoes", spec := "heapDoes", unfollowed := true, recurses := true, loops := true, apart := false }
def HeapDoesSaid : Prop := heapDoesRow.holds Try.pinned (OpenSpec.ofChange heapDoesSpec)

/-- ITS FALSE NEIGHBOUR: 'it returns false'. Refute it at one input. -/
def heapDoesWrong : ChangeSpec := { name := "heapDoes", fn := fun _ => fun
  | [d1, d2] => { results := [.lit (.bool false)], args := [d1, d2] }
  | _ => none }
def HeapDoesWrongFalsely : Prop := heapDoesRow.holds Try.pinned (OpenSpec.ofChange heapDoesWrong)

/- THE SECOND FORM. 'bulk': how many values and letters a reading holds, each counted each time it is reached (what is shared counts as often as it is met; a slice's spare places count too). A statement '..UptoSaid' is the law's where the arguments, and the package variables that the reading takes, are together of bulk at most 1048576: NARROWER than '..Said'. Prove '..Said' where nothing that the law and all that it calls make is longer than what came in: it says more and counts as full. Else prove '..UptoSaid'. A law counts once. -/
mutual
def uptoBulk {H : Type} : DataW H → Nat
  | .lit (.string bytes) => bytes.length + 1
  | .lit _ => 1
  | .nil => 1
  | .ptr d => uptoBulk d + 1
  | .slice elems spare => uptoBulkAll elems + uptoBulkAll spare + 1
  | .agg parts => uptoBulkAll parts + 1
  | .iface _ d => uptoBulk d + 1
  | .map entries => uptoBulkEntries entries + 1
  | .held _ => 1
def uptoBulkAll {H : Type} : List (DataW H) → Nat
  | [] => 0
  | d :: r => uptoBulk d + uptoBulkAll r
def uptoBulkEntries {H : Type} : List (Lit × DataW H) → Nat
  | [] => 0
  | x :: r => uptoBulkEntry x + uptoBulkEntries r
def uptoBulkEntry {H : Type} : Lit × DataW H → Nat
  | (.string bytes, d) => bytes.length + uptoBulk d + 1
  | (_, d) => uptoBulk d + 1
 end
def uptoSmall : (H : Type) → List (DataW H) → Bool := fun _ ds => decide (uptoBulkAll ds ≤ 1048576)
def OpenSpec.upto (s : _root_.Go.ChangeSpec) : _root_.Go.OpenSpec := { _root_.Go.OpenSpec.ofChange s with cond := some uptoSmall }

/-- 'pigeonholelaw24.HeapBack', WHERE WHAT IT READS IS OF BULK AT MOST 1048576: true; the input reads as it did. -/
def heapBackUptoRow : OpenClaim := { program := "ytinfbihcnonaoaa", sum := "25f332ba9c53d1c6d1069a74bff08b58c027fffd4afeffb03576ea3dbc60b420", func := "pigeonhole/pigeonholelaw24.HeapBack", spec := "heapBack", unfollowed := true, recurses := true, loops := true, apart := false, narrowed := true }
def HeapBackUptoSaid : Prop := heapBackUptoRow.holds Try.pinned (OpenSpec.upto heapBackSpec)

/-- 'pigeonholelaw24.HeapParts', WHERE WHAT IT READS IS OF BULK AT MOST 1048576: true; the input reads as it did. -/
def heapPartsUptoRow : OpenClaim := { program := "ytinfbihcnonaoaa", sum := "25f332ba9c53d1c6d1069a74bff08b58c027fffd4afeffb03576ea3dbc60b420", func := "pigeonhole/pigeonholelaw24.HeapParts", spec := "heapParts", unfollowed := true, recurses := true, loops := true, apart := false, narrowed := true }
def HeapPartsUptoSaid : Prop := heapPartsUptoRow.holds Try.pinned (OpenSpec.upto heapPartsSpec)

/-- 'pigeonholelaw24.HeapRaw', WHERE WHAT IT READS IS OF BULK AT MOST 1048576: true; the input reads as it did. -/
def heapRawUptoRow : OpenClaim := { program := "ytinfbihcnonaoaa", sum := "25f332ba9c53d1c6d1069a74bff08b58c027fffd4afeffb03576ea3dbc60b420", func := "pigeonhole/pigeonholelaw24.HeapRaw", spec := "heapRaw", unfollowed := true, recurses := true, loops := true, apart := false, narrowed := true }
def HeapRawUptoSaid : Prop := heapRawUptoRow.holds Try.pinned (OpenSpec.upto heapRawSpec)

/-- 'pigeonholelaw24.HeapNone', WHERE WHAT IT READS IS OF BULK AT MOST 1048576: true; the input reads as it did. -/
def heapNoneUptoRow : OpenClaim := { program := "ytinfbihcnonaoaa", sum := "25f332ba9c53d1c6d1069a74bff08b58c027fffd4afeffb03576ea3dbc60b420", func := "pigeonhole/pigeonholelaw24.HeapNone", spec := "heapNone", unfollowed := true, recurses := true, loops := true, apart := false, narrowed := true }
def HeapNoneUptoSaid : Prop := heapNoneUptoRow.holds Try.pinned (OpenSpec.upto heapNoneSpec)

/-- 'pigeonholelaw24.HeapDoes', WHERE WHAT IT READS IS OF BULK AT MOST 1048576: true; the input reads as it did. -/
def heapDoesUptoRow : OpenClaim := { program := "ytinfbihcnonaoaa", sum := "25f332ba9c53d1c6d1069a74bff08b58c027fffd4afeffb03576ea3dbc60b420", func := "pigeonhole/pigeonholelaw24.HeapDoes", spec := "heapDoes", unfollowed := true, recurses := true, loops := true, apart := false, narrowed := true }
def HeapDoesUptoSaid : Prop := heapDoesUptoRow.holds Try.pinned (OpenSpec.upto heapDoesSpec)

end Rows
end Go.Proofs.Ytinfbihcnonaoaa
