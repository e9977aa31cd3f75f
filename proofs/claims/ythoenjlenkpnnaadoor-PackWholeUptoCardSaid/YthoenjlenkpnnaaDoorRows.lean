/-
  NARROWER THAN 'FOR EVERY INPUT', by the rows' own cells (each row's printed sentence says how): PackBack: loops, laid · PackWhole: laid.
  DERIVED. THE GIVEN ROWS OF THIS SEAT. 2 by the template 'for every input the law returns true; each argument reads behind the call as it read before'; 0 by the template 'total and deterministic' (their statements: YthoenjlenkpnnaaDoorTotals.lean).
  GIVEN WITH THE SEED: the statements are not yours to turn. If you find one false, say at which input.
  Laid BY PROGRAM, IN A SANDBOX (cutbox-rows.mjs): the forced cells as the released guide's own fill.sh prints them over the translation 44d9470950334819… (all of the seat's roots in one cut). By AI agents, Wed Nov 11 2026. No macro, syntax, notation, axiom, sorry.
-/
import Derived.Test.YthoenjlenkpnnaaDoorChecked
import GoSem.Claim
import GoSem.ClaimJoined
import GoSem.ClaimMapViews
import Derived.JoinedTies
import Derived.KernelRfl
namespace Go.Proofs.YthoenjlenkpnnaaDoor
/- THE CELL 'sum', in the pinned program and in every row, IS THE sha256 OF THE DUMP (.gsa) THAT YthoenjlenkpnnaaDoorProg.lean LOADS. Nothing in Lean hashes anything: it is a label: what it is worth is what the hold of that sum in a sandbox is worth. -/
noncomputable def Tryd.pinned : Pinned := { name := "ythoenjlenkpnnaadoor", sum := "44d947095033481967afe3bd9c4bd019514360bc0030ccf1ed93d498bef0950a", checked := Tryd.checked }
namespace Rows
def none {H : Type} : Left H := { results := [], args := [] }

/- WHAT THE LISTED PACKAGE-LEVEL VARIABLES READ AS WHEN THE CALL BEGINS. Each datum BY PROGRAM (the guide's laid-datum.mjs) off the statement by which the dump's own 'gosem.cut.vars' lays the variable. In a bare row this is a premise. The card (YthoenjlenkpnnaaDoorCards.lean) ties it to the program's text. -/
def laid_bytes_ErrTooLarge {H : Type} : DataW H := .iface "*errors.errorString" (.ptr (.agg [.lit (.string [98, 121, 116, 101, 115, 46, 66, 117, 102, 102, 101, 114, 58, 32, 116, 111, 111, 32, 108, 97, 114, 103, 101])]))
def laid_pigeonhole_lint_builtin {H : Type} : DataW H := .agg [.agg [.lit (.string []), .lit (.string []), .lit (.string []), .lit (.string [])], .agg [.lit (.string []), .lit (.string [116, 117, 112, 108, 101, 95, 116, 111, 95, 108, 105, 115, 116, 32, 108, 105, 115, 116, 95, 116, 111, 95, 116, 117, 112, 108, 101, 32, 97, 116, 111, 109, 95, 116, 111, 95, 108, 105, 115, 116, 32, 108, 105, 115, 116, 95, 116, 111, 95, 97, 116, 111, 109, 32, 105, 110, 116, 101, 103, 101, 114, 95, 116, 111, 95, 108, 105, 115, 116, 32, 108, 105, 115, 116, 95, 116, 111, 95, 105, 110, 116, 101, 103, 101, 114, 32, 114, 101, 118, 101, 114, 115, 101, 32, 115, 117, 109, 32, 115, 111, 114, 116, 32, 117, 115, 111, 114, 116, 32, 108, 97, 115, 116, 32, 116, 104, 114, 111, 119, 32, 101, 114, 114, 111, 114, 32, 101, 120, 105, 116]), .lit (.string [43, 43, 32, 45, 45, 32, 109, 97, 120, 32, 109, 105, 110, 32, 110, 116, 104, 32, 110, 116, 104, 116, 97, 105, 108, 32, 109, 101, 109, 98, 101, 114, 32, 115, 101, 113]), .lit (.string [115, 101, 116, 101, 108, 101, 109, 101, 110, 116])], .agg [.lit (.string []), .lit (.string [43, 32, 45, 32, 110, 111, 116, 32, 97, 98, 115, 32, 104, 100, 32, 116, 108, 32, 108, 101, 110, 103, 116, 104, 32, 116, 117, 112, 108, 101, 95, 115, 105, 122, 101, 32, 105, 115, 95, 105, 110, 116, 101, 103, 101, 114, 32, 105, 115, 95, 97, 116, 111, 109, 32, 105, 115, 95, 116, 117, 112, 108, 101, 32, 105, 115, 95, 108, 105, 115, 116, 32, 105, 115, 95, 112, 105, 100, 32, 105, 115, 95, 114, 101, 102, 101, 114, 101, 110, 99, 101, 32, 105, 115, 95, 102, 117, 110, 99, 116, 105, 111, 110, 32, 105, 115, 95, 98, 111, 111, 108, 101, 97, 110]), .lit (.string [43, 32, 45, 32, 42, 32, 100, 105, 118, 32, 114, 101, 109, 32, 61, 61, 32, 47, 61, 32, 61, 58, 61, 32, 61, 47, 61, 32, 60, 32, 61, 60, 32, 62, 32, 62, 61, 32, 97, 110, 100, 32, 111, 114, 32, 120, 111, 114, 32, 101, 108, 101, 109, 101, 110, 116, 32, 105, 115, 95, 102, 117, 110, 99, 116, 105, 111, 110]), .lit (.string [])], .agg [.lit (.string [115, 101, 108, 102, 32, 109, 97, 107, 101, 95, 114, 101, 102, 32, 110, 111, 119]), .lit (.string [115, 112, 97, 119, 110, 32, 115, 112, 97, 119, 110, 95, 108, 105, 110, 107, 32, 115, 112, 97, 119, 110, 95, 109, 111, 110, 105, 116, 111, 114, 32, 108, 105, 110, 107, 32, 117, 110, 108, 105, 110, 107, 32, 109, 111, 110, 105, 116, 111, 114, 32, 100, 101, 109, 111, 110, 105, 116, 111, 114, 32, 116, 114, 97, 112, 95, 101, 120, 105, 116, 32, 117, 110, 114, 101, 103, 105, 115, 116, 101, 114, 32, 119, 104, 101, 114, 101, 105, 115, 32, 112, 114, 105, 110, 116]), .lit (.string [33, 32, 101, 120, 105, 116, 32, 114, 101, 103, 105, 115, 116, 101, 114]), .lit (.string [])]]
def laid_pigeonhole_code_shapes {H : Type} : DataW H := .agg [.agg [.lit (.string []), .lit (.string []), .lit (.bool false)], .agg [.lit (.string [99, 111, 110, 115, 116]), .lit (.string [97, 107]), .lit (.bool true)], .agg [.lit (.string [109, 111, 118, 101]), .lit (.string [97, 98]), .lit (.bool true)], .agg [.lit (.string [116, 117, 112, 108, 101]), .lit (.string [97, 115]), .lit (.bool true)], .agg [.lit (.string [99, 111, 110, 115]), .lit (.string [97, 98, 99]), .lit (.bool true)], .agg [.lit (.string [102, 117, 110]), .lit (.string [97, 102, 115]), .lit (.bool true)], .agg [.lit (.string [99, 97, 108, 108]), .lit (.string [97, 102, 115]), .lit (.bool true)], .agg [.lit (.string [116, 97, 105, 108]), .lit (.string [102, 115]), .lit (.bool false)], .agg [.lit (.string [97, 112, 112, 108, 121]), .lit (.string [97, 98, 115]), .lit (.bool true)], .agg [.lit (.string [116, 97, 105, 108, 102, 117, 110]), .lit (.string [98, 115]), .lit (.bool false)], .agg [.lit (.string [98, 105, 102]), .lit (.string [97, 116, 115]), .lit (.bool true)], .agg [.lit (.string [114, 101, 116, 117, 114, 110]), .lit (.string [98]), .lit (.bool false)], .agg [.lit (.string [106, 117, 109, 112]), .lit (.string [108]), .lit (.bool false)], .agg [.lit (.string [105, 115, 116, 117, 112, 108, 101]), .lit (.string [98, 110, 108]), .lit (.bool true)], .agg [.lit (.string [105, 115, 99, 111, 110, 115]), .lit (.string [98, 108]), .lit (.bool true)], .agg [.lit (.string [105, 115, 99, 111, 110, 115, 116]), .lit (.string [98, 107, 108]), .lit (.bool true)], .agg [.lit (.string [105, 115, 115, 97, 109, 101]), .lit (.string [98, 99, 108]), .lit (.bool true)], .agg [.lit (.string [101, 108, 101, 109]), .lit (.string [97, 98, 110]), .lit (.bool true)], .agg [.lit (.string [104, 101, 97, 100]), .lit (.string [97, 98]), .lit (.bool true)], .agg [.lit (.string [114, 101, 115, 116]), .lit (.string [97, 98]), .lit (.bool true)], .agg [.lit (.string [103, 117, 97, 114, 100]), .lit (.string [97, 116, 115, 108]), .lit (.bool true)], .agg [.lit (.string [114, 101, 99, 101, 105, 118, 101]), .lit (.string [110]), .lit (.bool true)], .agg [.lit (.string [110, 101, 120, 116]), .lit (.string [97, 108]), .lit (.bool true)], .agg [.lit (.string [116, 97, 107, 101]), .lit (.string []), .lit (.bool true)], .agg [.lit (.string [115, 107, 105, 112]), .lit (.string [108]), .lit (.bool false)], .agg [.lit (.string [116, 105, 109, 101]), .lit (.string [98]), .lit (.bool true)], .agg [.lit (.string [116, 114, 121]), .lit (.string [97, 108]), .lit (.bool true)], .agg [.lit (.string [117, 110, 116, 114, 121]), .lit (.string []), .lit (.bool true)], .agg [.lit (.string [102, 97, 105, 108]), .lit (.string [98]), .lit (.bool false)], .agg [.lit (.string [114, 97, 105, 115, 101]), .lit (.string [98]), .lit (.bool false)]]
def laid_pigeonhole_pack_fields {H : Type} : DataW H := .agg [.lit (.string []), .lit (.string [65, 78]), .lit (.string [65, 66]), .lit (.string [65, 83]), .lit (.string [65, 66, 67]), .lit (.string [65, 78, 83]), .lit (.string [65, 78, 83]), .lit (.string [78, 83]), .lit (.string [65, 66, 83]), .lit (.string [66, 83]), .lit (.string [65, 84, 83]), .lit (.string [66]), .lit (.string [76]), .lit (.string [66, 78, 76]), .lit (.string [66, 76]), .lit (.string [66, 78, 76]), .lit (.string [66, 67, 76]), .lit (.string [65, 66, 78]), .lit (.string [65, 66]), .lit (.string [65, 66]), .lit (.string [65, 84, 83, 76]), .lit (.string [78]), .lit (.string [65, 76]), .lit (.string [45]), .lit (.string [76]), .lit (.string [66]), .lit (.string [65, 76]), .lit (.string [45]), .lit (.string [66]), .lit (.string [66])]

/-- 'pigeonholelaw21.PackBack': WHATEVER THE INPUT: true; the input reads as it did. -/
def packBackSpec : ChangeSpec := { name := "packBack", fn := fun _ => fun
  | [d1, d2, d3] => { results := [.lit (.bool true)], args := [d1, d2, d3] }
  | _ => none }
def packBackRow : OpenClaim := { program := "ythoenjlenkpnnaadoor", sum := "44d947095033481967afe3bd9c4bd019514360bc0030ccf1ed93d498bef0950a", func := "pigeonhole/pigeonholelaw21.PackBack", spec := "packBack", inPlace := ["internal/bytealg.IndexByteString", "internal/bytealg.IndexString"], unfollowed := true, recurses := true, named := ["pigeonhole/code.shapes", "pigeonhole/lint.builtin", "internal/bytealg.MaxLen", "bytes.ErrTooLarge", "pigeonhole/pack.fields"], loops := true, apart := false, laid := [("bytes.ErrTooLarge", laid_bytes_ErrTooLarge), ("pigeonhole/lint.builtin", laid_pigeonhole_lint_builtin), ("pigeonhole/code.shapes", laid_pigeonhole_code_shapes), ("pigeonhole/pack.fields", laid_pigeonhole_pack_fields)] }
def PackBackSaid : Prop := packBackRow.holds Tryd.pinned (OpenSpec.ofChange packBackSpec)

/-- ITS FALSE NEIGHBOUR: 'it returns false'. Refute it at one input. -/
def packBackWrong : ChangeSpec := { name := "packBack", fn := fun _ => fun
  | [d1, d2, d3] => { results := [.lit (.bool false)], args := [d1, d2, d3] }
  | _ => none }
def PackBackWrongFalsely : Prop := packBackRow.holds Tryd.pinned (OpenSpec.ofChange packBackWrong)

/-- 'pigeonholelaw21.PackWhole': WHATEVER THE INPUT: true; the input reads as it did. -/
def packWholeSpec : ChangeSpec := { name := "packWhole", fn := fun _ => fun
  | [d] => { results := [.lit (.bool true)], args := [d] }
  | _ => none }
def packWholeRow : OpenClaim := { program := "ythoenjlenkpnnaadoor", sum := "44d947095033481967afe3bd9c4bd019514360bc0030ccf1ed93d498bef0950a", func := "pigeonhole/pigeonholelaw21.PackWhole", spec := "packWhole", inPlace := ["internal/bytealg.IndexByteString", "internal/bytealg.IndexString"], unfollowed := true, recurses := true, named := ["pigeonhole/code.shapes", "pigeonhole/lint.builtin", "internal/bytealg.MaxLen", "bytes.ErrTooLarge", "pigeonhole/pack.fields"], apart := false, laid := [("bytes.ErrTooLarge", laid_bytes_ErrTooLarge), ("pigeonhole/lint.builtin", laid_pigeonhole_lint_builtin), ("pigeonhole/code.shapes", laid_pigeonhole_code_shapes), ("pigeonhole/pack.fields", laid_pigeonhole_pack_fields)] }
def PackWholeSaid : Prop := packWholeRow.holds Tryd.pinned (OpenSpec.ofChange packWholeSpec)

/-- ITS FALSE NEIGHBOUR: 'it returns false'. Refute it at one input. -/
def packWholeWrong : ChangeSpec := { name := "packWhole", fn := fun _ => fun
  | [d] => { results := [.lit (.bool false)], args := [d] }
  | _ => none }
def PackWholeWrongFalsely : Prop := packWholeRow.holds Tryd.pinned (OpenSpec.ofChange packWholeWrong)

/- THE SECOND FORM. 'bulk': how many values and letters a reading holds, each counted each time it is reached (what is shared counts as often as it is met; a slice's spare places count too). A statement '..UptoSaid' is the law's where the arguments, and the package variables that the reading takes, are together of bulk at most 1048576: NARROWER than '..Said'. Prove '..Said' where nothing that the law and all that it calls make is longer than what came in: it says more and counts as full. Else prove '..UptoSaid'. A law counts once. -/
mutual
def uptoBulk {H : Type} : DataW H → Nat
  | .lit (.string bytes) => bytes.length + 1
  | .lit _ => 1
  | .nil => 1
  | .ptr d => uptoBulk d + 1
  | .slice elems spare => uptoBulkAll elems + uptoBulkAll spare + 1
  | .agg parts => uptoBulkAll parts + 1
  | .iface _ d => uptoBulk d + 1
  | .map entries => uptoBulkEntries entries + 1
  | .held _ => 1
def uptoBulkAll {H : Type} : List (DataW H) → Nat
  | [] => 0
  | d :: r => uptoBulk d + uptoBulkAll r
def uptoBulkEntries {H : Type} : List (Lit × DataW H) → Nat
  | [] => 0
  | x :: r => uptoBulkEntry x + uptoBulkEntries r
def uptoBulkEntry {H : Type} : Lit × DataW H → Nat
  | (.string bytes, d) => bytes.length + uptoBulk d + 1
  | (_, d) => uptoBulk d + 1
 end
def uptoSmall : (H : Type) → List (DataW H) → Bool := fun _ ds => decide (uptoBulkAll ds ≤ 1048576)
def OpenSpec.upto (s : _root_.Go.ChangeSpec) : _root_.Go.OpenSpec := { _root_.Go.OpenSpec.ofChange s with cond := some uptoSmall }

/-- 'pigeonholelaw21.PackBack', WHERE WHAT IT READS IS OF BULK AT MOST 1048576: true; the input reads as it did. -/
def packBackUptoRow : OpenClaim := { program := "ythoenjlenkpnnaadoor", sum := "44d947095033481967afe3bd9c4bd019514360bc0030ccf1ed93d498bef0950a", func := "pigeonhole/pigeonholelaw21.PackBack", spec := "packBack", inPlace := ["internal/bytealg.IndexByteString", "internal/bytealg.IndexString"], unfollowed := true, recurses := true, named := ["pigeonhole/code.shapes", "pigeonhole/lint.builtin", "internal/bytealg.MaxLen", "bytes.ErrTooLarge", "pigeonhole/pack.fields"], loops := true, apart := false, laid := [("bytes.ErrTooLarge", laid_bytes_ErrTooLarge), ("pigeonhole/lint.builtin", laid_pigeonhole_lint_builtin), ("pigeonhole/code.shapes", laid_pigeonhole_code_shapes), ("pigeonhole/pack.fields", laid_pigeonhole_pack_fields)], narrowed := true }
def PackBackUptoSaid : Prop := packBackUptoRow.holds Tryd.pinned (OpenSpec.upto packBackSpec)

/-- 'pigeonholelaw21.PackWhole', WHERE WHAT IT READS IS OF BULK AT MOST 1048576: true; the input reads as it did. -/
def packWholeUptoRow : OpenClaim := { program := "ythoenjlenkpnnaadoor", sum := "44d947095033481967afe3bd9c4bd019514360bc0030ccf1ed93d498bef0950a", func := "pigeonhole/pigeonholelaw21.PackWhole", spec := "packWhole", inPlace := ["internal/bytealg.IndexByteString", "internal/bytealg.IndexString"], unfollowed := true, recurses := true, named := ["pigeonhole/code.shapes", "pigeonhole/lint.builtin", "internal/bytealg.MaxLen", "bytes.ErrTooLarge", "pigeonhole/pack.fields"], apart := false, laid := [("bytes.ErrTooLarge", laid_bytes_ErrTooLarge), ("pigeonhole/lint.builtin", laid_pigeonhole_lint_builtin), ("pigeonhole/code.shapes", laid_pigeonhole_code_shapes), ("pigeonhole/pack.fields", laid_pigeonhole_pack_fields)], narrowed := true }
def PackWholeUptoSaid : Prop := packWholeUptoRow.holds Tryd.pinned (OpenSpec.upto packWholeSpec)

end Rows
end Go.Proofs.YthoenjlenkpnnaaDoor
