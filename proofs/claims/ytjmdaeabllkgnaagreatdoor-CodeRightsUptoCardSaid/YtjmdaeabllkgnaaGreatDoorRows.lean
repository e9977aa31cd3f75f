/-
  NARROWER THAN 'FOR EVERY INPUT', by the rows' own cells (each row's printed sentence says how): CodeRights: loops, laid · CodeTells: laid · CodeNumbers: laid · CodeGoes: loops, laid · CodeTexts: loops, laid.
  DERIVED. THE GIVEN ROWS OF THIS SEAT. 5 by the template 'for every input the law returns true; each argument reads behind the call as it read before'; 0 by the template 'total and deterministic' (their statements: YtjmdaeabllkgnaaGreatDoorTotals.lean).
  GIVEN WITH THE SEED: the statements are not yours to turn. If you find one false, say at which input.
  Laid BY PROGRAM, IN A SANDBOX (cutbox-rows.mjs): the forced cells as the released guide's own fill.sh prints them over the translation 1f8f9962a84c75d4… (all of the seat's roots in one cut). By AI agents, Wed Nov 11 2026. No macro, syntax, notation, axiom, sorry.
-/
import Derived.Test.YtjmdaeabllkgnaaGreatDoorChecked
import GoSem.Claim
import GoSem.ClaimJoined
import GoSem.ClaimMapViews
import Derived.JoinedTies
import Derived.KernelRfl
namespace Go.Proofs.YtjmdaeabllkgnaaGreatDoor
/- THE CELL 'sum', in the pinned program and in every row, IS THE sha256 OF THE DUMP (.gsa) THAT YtjmdaeabllkgnaaGreatDoorProg.lean LOADS. Nothing in Lean hashes anything: it is a label: what it is worth is what the hold of that sum in a sandbox is worth. -/
noncomputable def Tryz.pinned : Pinned := { name := "ytjmdaeabllkgnaagreatdoor", sum := "1f8f9962a84c75d43977c7b39d08cd239649aafe52826cce7607af544759334c", checked := Tryz.checked }
namespace Rows
def none {H : Type} : Left H := { results := [], args := [] }

/- WHAT THE LISTED PACKAGE-LEVEL VARIABLES READ AS WHEN THE CALL BEGINS. Each datum BY PROGRAM (the guide's laid-datum.mjs) off the statement by which the dump's own 'gosem.cut.vars' lays the variable. In a bare row this is a premise. The card (YtjmdaeabllkgnaaGreatDoorCards.lean) ties it to the program's text. -/
def laid_math_bits_deBruijn32tab {H : Type} : DataW H := .agg [.lit (.int .u8 0), .lit (.int .u8 1), .lit (.int .u8 28), .lit (.int .u8 2), .lit (.int .u8 29), .lit (.int .u8 14), .lit (.int .u8 24), .lit (.int .u8 3), .lit (.int .u8 30), .lit (.int .u8 22), .lit (.int .u8 20), .lit (.int .u8 15), .lit (.int .u8 25), .lit (.int .u8 17), .lit (.int .u8 4), .lit (.int .u8 8), .lit (.int .u8 31), .lit (.int .u8 27), .lit (.int .u8 13), .lit (.int .u8 23), .lit (.int .u8 21), .lit (.int .u8 19), .lit (.int .u8 16), .lit (.int .u8 7), .lit (.int .u8 26), .lit (.int .u8 12), .lit (.int .u8 18), .lit (.int .u8 6), .lit (.int .u8 11), .lit (.int .u8 5), .lit (.int .u8 10), .lit (.int .u8 9)]
def laid_math_bits_deBruijn64tab {H : Type} : DataW H := .agg [.lit (.int .u8 0), .lit (.int .u8 1), .lit (.int .u8 56), .lit (.int .u8 2), .lit (.int .u8 57), .lit (.int .u8 49), .lit (.int .u8 28), .lit (.int .u8 3), .lit (.int .u8 61), .lit (.int .u8 58), .lit (.int .u8 42), .lit (.int .u8 50), .lit (.int .u8 38), .lit (.int .u8 29), .lit (.int .u8 17), .lit (.int .u8 4), .lit (.int .u8 62), .lit (.int .u8 47), .lit (.int .u8 59), .lit (.int .u8 36), .lit (.int .u8 45), .lit (.int .u8 43), .lit (.int .u8 51), .lit (.int .u8 22), .lit (.int .u8 53), .lit (.int .u8 39), .lit (.int .u8 33), .lit (.int .u8 30), .lit (.int .u8 24), .lit (.int .u8 18), .lit (.int .u8 12), .lit (.int .u8 5), .lit (.int .u8 63), .lit (.int .u8 55), .lit (.int .u8 48), .lit (.int .u8 27), .lit (.int .u8 60), .lit (.int .u8 41), .lit (.int .u8 37), .lit (.int .u8 16), .lit (.int .u8 46), .lit (.int .u8 35), .lit (.int .u8 44), .lit (.int .u8 21), .lit (.int .u8 52), .lit (.int .u8 32), .lit (.int .u8 23), .lit (.int .u8 11), .lit (.int .u8 54), .lit (.int .u8 26), .lit (.int .u8 40), .lit (.int .u8 15), .lit (.int .u8 34), .lit (.int .u8 20), .lit (.int .u8 31), .lit (.int .u8 10), .lit (.int .u8 25), .lit (.int .u8 14), .lit (.int .u8 19), .lit (.int .u8 9), .lit (.int .u8 13), .lit (.int .u8 8), .lit (.int .u8 7), .lit (.int .u8 6)]
def laid_internal_strconv_uint64pow10 {H : Type} : DataW H := .agg [.lit (.int .u64 1), .lit (.int .u64 10), .lit (.int .u64 100), .lit (.int .u64 1000), .lit (.int .u64 10000), .lit (.int .u64 100000), .lit (.int .u64 1000000), .lit (.int .u64 10000000), .lit (.int .u64 100000000), .lit (.int .u64 1000000000), .lit (.int .u64 10000000000), .lit (.int .u64 100000000000), .lit (.int .u64 1000000000000), .lit (.int .u64 10000000000000), .lit (.int .u64 100000000000000), .lit (.int .u64 1000000000000000), .lit (.int .u64 10000000000000000), .lit (.int .u64 100000000000000000), .lit (.int .u64 1000000000000000000), .lit (.int .u64 10000000000000000000)]
def laid_pigeonhole_lint_builtin {H : Type} : DataW H := .agg [.agg [.lit (.string []), .lit (.string []), .lit (.string []), .lit (.string [])], .agg [.lit (.string []), .lit (.string [116, 117, 112, 108, 101, 95, 116, 111, 95, 108, 105, 115, 116, 32, 108, 105, 115, 116, 95, 116, 111, 95, 116, 117, 112, 108, 101, 32, 97, 116, 111, 109, 95, 116, 111, 95, 108, 105, 115, 116, 32, 108, 105, 115, 116, 95, 116, 111, 95, 97, 116, 111, 109, 32, 105, 110, 116, 101, 103, 101, 114, 95, 116, 111, 95, 108, 105, 115, 116, 32, 108, 105, 115, 116, 95, 116, 111, 95, 105, 110, 116, 101, 103, 101, 114, 32, 114, 101, 118, 101, 114, 115, 101, 32, 115, 117, 109, 32, 115, 111, 114, 116, 32, 117, 115, 111, 114, 116, 32, 108, 97, 115, 116, 32, 116, 104, 114, 111, 119, 32, 101, 114, 114, 111, 114, 32, 101, 120, 105, 116]), .lit (.string [43, 43, 32, 45, 45, 32, 109, 97, 120, 32, 109, 105, 110, 32, 110, 116, 104, 32, 110, 116, 104, 116, 97, 105, 108, 32, 109, 101, 109, 98, 101, 114, 32, 115, 101, 113]), .lit (.string [115, 101, 116, 101, 108, 101, 109, 101, 110, 116])], .agg [.lit (.string []), .lit (.string [43, 32, 45, 32, 110, 111, 116, 32, 97, 98, 115, 32, 104, 100, 32, 116, 108, 32, 108, 101, 110, 103, 116, 104, 32, 116, 117, 112, 108, 101, 95, 115, 105, 122, 101, 32, 105, 115, 95, 105, 110, 116, 101, 103, 101, 114, 32, 105, 115, 95, 97, 116, 111, 109, 32, 105, 115, 95, 116, 117, 112, 108, 101, 32, 105, 115, 95, 108, 105, 115, 116, 32, 105, 115, 95, 112, 105, 100, 32, 105, 115, 95, 114, 101, 102, 101, 114, 101, 110, 99, 101, 32, 105, 115, 95, 102, 117, 110, 99, 116, 105, 111, 110, 32, 105, 115, 95, 98, 111, 111, 108, 101, 97, 110]), .lit (.string [43, 32, 45, 32, 42, 32, 100, 105, 118, 32, 114, 101, 109, 32, 61, 61, 32, 47, 61, 32, 61, 58, 61, 32, 61, 47, 61, 32, 60, 32, 61, 60, 32, 62, 32, 62, 61, 32, 97, 110, 100, 32, 111, 114, 32, 120, 111, 114, 32, 101, 108, 101, 109, 101, 110, 116, 32, 105, 115, 95, 102, 117, 110, 99, 116, 105, 111, 110]), .lit (.string [])], .agg [.lit (.string [115, 101, 108, 102, 32, 109, 97, 107, 101, 95, 114, 101, 102, 32, 110, 111, 119]), .lit (.string [115, 112, 97, 119, 110, 32, 115, 112, 97, 119, 110, 95, 108, 105, 110, 107, 32, 115, 112, 97, 119, 110, 95, 109, 111, 110, 105, 116, 111, 114, 32, 108, 105, 110, 107, 32, 117, 110, 108, 105, 110, 107, 32, 109, 111, 110, 105, 116, 111, 114, 32, 100, 101, 109, 111, 110, 105, 116, 111, 114, 32, 116, 114, 97, 112, 95, 101, 120, 105, 116, 32, 117, 110, 114, 101, 103, 105, 115, 116, 101, 114, 32, 119, 104, 101, 114, 101, 105, 115, 32, 112, 114, 105, 110, 116]), .lit (.string [33, 32, 101, 120, 105, 116, 32, 114, 101, 103, 105, 115, 116, 101, 114]), .lit (.string [])]]
def laid_pigeonhole_term_words {H : Type} : DataW H := .agg [.lit (.string [97, 102, 116, 101, 114]), .lit (.string [97, 110, 100]), .lit (.string [97, 110, 100, 97, 108, 115, 111]), .lit (.string [98, 101, 103, 105, 110]), .lit (.string [99, 97, 115, 101]), .lit (.string [100, 105, 118]), .lit (.string [101, 110, 100]), .lit (.string [102, 117, 110]), .lit (.string [105, 102]), .lit (.string [110, 111, 116]), .lit (.string [111, 102]), .lit (.string [111, 114]), .lit (.string [111, 114, 101, 108, 115, 101]), .lit (.string [114, 101, 99, 101, 105, 118, 101]), .lit (.string [114, 101, 109]), .lit (.string [116, 114, 121]), .lit (.string [99, 97, 116, 99, 104]), .lit (.string [119, 104, 101, 110]), .lit (.string [120, 111, 114])]
def laid_pigeonhole_code_shapes {H : Type} : DataW H := .agg [.agg [.lit (.string []), .lit (.string []), .lit (.bool false)], .agg [.lit (.string [99, 111, 110, 115, 116]), .lit (.string [97, 107]), .lit (.bool true)], .agg [.lit (.string [109, 111, 118, 101]), .lit (.string [97, 98]), .lit (.bool true)], .agg [.lit (.string [116, 117, 112, 108, 101]), .lit (.string [97, 115]), .lit (.bool true)], .agg [.lit (.string [99, 111, 110, 115]), .lit (.string [97, 98, 99]), .lit (.bool true)], .agg [.lit (.string [102, 117, 110]), .lit (.string [97, 102, 115]), .lit (.bool true)], .agg [.lit (.string [99, 97, 108, 108]), .lit (.string [97, 102, 115]), .lit (.bool true)], .agg [.lit (.string [116, 97, 105, 108]), .lit (.string [102, 115]), .lit (.bool false)], .agg [.lit (.string [97, 112, 112, 108, 121]), .lit (.string [97, 98, 115]), .lit (.bool true)], .agg [.lit (.string [116, 97, 105, 108, 102, 117, 110]), .lit (.string [98, 115]), .lit (.bool false)], .agg [.lit (.string [98, 105, 102]), .lit (.string [97, 116, 115]), .lit (.bool true)], .agg [.lit (.string [114, 101, 116, 117, 114, 110]), .lit (.string [98]), .lit (.bool false)], .agg [.lit (.string [106, 117, 109, 112]), .lit (.string [108]), .lit (.bool false)], .agg [.lit (.string [105, 115, 116, 117, 112, 108, 101]), .lit (.string [98, 110, 108]), .lit (.bool true)], .agg [.lit (.string [105, 115, 99, 111, 110, 115]), .lit (.string [98, 108]), .lit (.bool true)], .agg [.lit (.string [105, 115, 99, 111, 110, 115, 116]), .lit (.string [98, 107, 108]), .lit (.bool true)], .agg [.lit (.string [105, 115, 115, 97, 109, 101]), .lit (.string [98, 99, 108]), .lit (.bool true)], .agg [.lit (.string [101, 108, 101, 109]), .lit (.string [97, 98, 110]), .lit (.bool true)], .agg [.lit (.string [104, 101, 97, 100]), .lit (.string [97, 98]), .lit (.bool true)], .agg [.lit (.string [114, 101, 115, 116]), .lit (.string [97, 98]), .lit (.bool true)], .agg [.lit (.string [103, 117, 97, 114, 100]), .lit (.string [97, 116, 115, 108]), .lit (.bool true)], .agg [.lit (.string [114, 101, 99, 101, 105, 118, 101]), .lit (.string [110]), .lit (.bool true)], .agg [.lit (.string [110, 101, 120, 116]), .lit (.string [97, 108]), .lit (.bool true)], .agg [.lit (.string [116, 97, 107, 101]), .lit (.string []), .lit (.bool true)], .agg [.lit (.string [115, 107, 105, 112]), .lit (.string [108]), .lit (.bool false)], .agg [.lit (.string [116, 105, 109, 101]), .lit (.string [98]), .lit (.bool true)], .agg [.lit (.string [116, 114, 121]), .lit (.string [97, 108]), .lit (.bool true)], .agg [.lit (.string [117, 110, 116, 114, 121]), .lit (.string []), .lit (.bool true)], .agg [.lit (.string [102, 97, 105, 108]), .lit (.string [98]), .lit (.bool false)], .agg [.lit (.string [114, 97, 105, 115, 101]), .lit (.string [98]), .lit (.bool false)]]

/-- 'pigeonholelaw18.CodeRights': WHATEVER THE INPUT: true; the input reads as it did. -/
def codeRightsSpec : ChangeSpec := { name := "codeRights", fn := fun _ => fun
  | [d1, d2] => { results := [.lit (.bool true)], args := [d1, d2] }
  | _ => none }
def codeRightsRow : OpenClaim := { program := "ytjmdaeabllkgnaagreatdoor", sum := "1f8f9962a84c75d43977c7b39d08cd239649aafe52826cce7607af544759334c", func := "pigeonhole/pigeonholelaw18.CodeRights", spec := "codeRights", inPlace := ["internal/abi.NoEscape", "internal/bytealg.IndexByteString", "internal/bytealg.IndexString"], unfollowed := true, recurses := true, named := ["pigeonhole/code.shapes", "internal/strconv.uint64pow10", "math/bits.deBruijn32tab", "math/bits.deBruijn64tab", "math/bits.overflowError", "pigeonhole/term.words", "internal/bytealg.MaxLen", "pigeonhole/lint.builtin"], loops := true, apart := false, laid := [("math/bits.deBruijn32tab", laid_math_bits_deBruijn32tab), ("math/bits.deBruijn64tab", laid_math_bits_deBruijn64tab), ("internal/strconv.uint64pow10", laid_internal_strconv_uint64pow10), ("pigeonhole/lint.builtin", laid_pigeonhole_lint_builtin), ("pigeonhole/term.words", laid_pigeonhole_term_words), ("pigeonhole/code.shapes", laid_pigeonhole_code_shapes)] }
def CodeRightsSaid : Prop := codeRightsRow.holds Tryz.pinned (OpenSpec.ofChange codeRightsSpec)

/-- ITS FALSE NEIGHBOUR: 'it returns false'. Refute it at one input. -/
def codeRightsWrong : ChangeSpec := { name := "codeRights", fn := fun _ => fun
  | [d1, d2] => { results := [.lit (.bool false)], args := [d1, d2] }
  | _ => none }
def CodeRightsWrongFalsely : Prop := codeRightsRow.holds Tryz.pinned (OpenSpec.ofChange codeRightsWrong)

/-- 'pigeonholelaw18.CodeTells': WHATEVER THE INPUT: true; the input reads as it did. -/
def codeTellsSpec : ChangeSpec := { name := "codeTells", fn := fun _ => fun
  | [d] => { results := [.lit (.bool true)], args := [d] }
  | _ => none }
def codeTellsRow : OpenClaim := { program := "ytjmdaeabllkgnaagreatdoor", sum := "1f8f9962a84c75d43977c7b39d08cd239649aafe52826cce7607af544759334c", func := "pigeonhole/pigeonholelaw18.CodeTells", spec := "codeTells", inPlace := ["internal/abi.NoEscape", "internal/bytealg.IndexByteString", "internal/bytealg.IndexString"], unfollowed := true, recurses := true, named := ["pigeonhole/code.shapes", "internal/strconv.uint64pow10", "math/bits.deBruijn32tab", "math/bits.deBruijn64tab", "math/bits.overflowError", "pigeonhole/term.words", "internal/bytealg.MaxLen", "pigeonhole/lint.builtin"], apart := false, laid := [("math/bits.deBruijn32tab", laid_math_bits_deBruijn32tab), ("math/bits.deBruijn64tab", laid_math_bits_deBruijn64tab), ("internal/strconv.uint64pow10", laid_internal_strconv_uint64pow10), ("pigeonhole/lint.builtin", laid_pigeonhole_lint_builtin), ("pigeonhole/term.words", laid_pigeonhole_term_words), ("pigeonhole/code.shapes", laid_pigeonhole_code_shapes)] }
def CodeTellsSaid : Prop := codeTellsRow.holds Tryz.pinned (OpenSpec.ofChange codeTellsSpec)

/-- ITS FALSE NEIGHBOUR: 'it returns false'. Refute it at one input. -/
def codeTellsWrong : ChangeSpec := { name := "codeTells", fn := fun _ => fun
  | [d] => { results := [.lit (.bool false)], args := [d] }
  | _ => none }
def CodeTellsWrongFalsely : Prop := codeTellsRow.holds Tryz.pinned (OpenSpec.ofChange codeTellsWrong)

/-- 'pigeonholelaw18.CodeNumbers': WHATEVER THE INPUT: true; the input reads as it did. -/
def codeNumbersSpec : ChangeSpec := { name := "codeNumbers", fn := fun _ => fun
  | [] => { results := [.lit (.bool true)], args := [] }
  | _ => none }
def codeNumbersRow : OpenClaim := { program := "ytjmdaeabllkgnaagreatdoor", sum := "1f8f9962a84c75d43977c7b39d08cd239649aafe52826cce7607af544759334c", func := "pigeonhole/pigeonholelaw18.CodeNumbers", spec := "codeNumbers", inPlace := ["internal/bytealg.IndexByteString", "internal/bytealg.IndexString", "internal/abi.NoEscape"], unfollowed := true, recurses := true, named := ["pigeonhole/code.shapes", "pigeonhole/lint.builtin", "internal/bytealg.MaxLen", "internal/strconv.uint64pow10", "math/bits.deBruijn32tab", "math/bits.deBruijn64tab", "math/bits.overflowError", "pigeonhole/term.words"], apart := false, laid := [("math/bits.deBruijn32tab", laid_math_bits_deBruijn32tab), ("math/bits.deBruijn64tab", laid_math_bits_deBruijn64tab), ("internal/strconv.uint64pow10", laid_internal_strconv_uint64pow10), ("pigeonhole/lint.builtin", laid_pigeonhole_lint_builtin), ("pigeonhole/term.words", laid_pigeonhole_term_words), ("pigeonhole/code.shapes", laid_pigeonhole_code_shapes)] }
def CodeNumbersSaid : Prop := codeNumbersRow.holds Tryz.pinned (OpenSpec.ofChange codeNumbersSpec)

/-- ITS FALSE NEIGHBOUR: 'it returns false'. Refute it at one input. -/
def codeNumbersWrong : ChangeSpec := { name := "codeNumbers", fn := fun _ => fun
  | [] => { results := [.lit (.bool false)], args := [] }
  | _ => none }
def CodeNumbersWrongFalsely : Prop := codeNumbersRow.holds Tryz.pinned (OpenSpec.ofChange codeNumbersWrong)

/-- 'pigeonholelaw18.CodeGoes': WHATEVER THE INPUT: true; the input reads as it did. -/
def codeGoesSpec : ChangeSpec := { name := "codeGoes", fn := fun _ => fun
  | [d] => { results := [.lit (.bool true)], args := [d] }
  | _ => none }
def codeGoesRow : OpenClaim := { program := "ytjmdaeabllkgnaagreatdoor", sum := "1f8f9962a84c75d43977c7b39d08cd239649aafe52826cce7607af544759334c", func := "pigeonhole/pigeonholelaw18.CodeGoes", spec := "codeGoes", inPlace := ["internal/abi.NoEscape", "internal/bytealg.IndexByteString", "internal/bytealg.IndexString"], unfollowed := true, recurses := true, named := ["pigeonhole/code.shapes", "internal/strconv.uint64pow10", "math/bits.deBruijn32tab", "math/bits.deBruijn64tab", "math/bits.overflowError", "pigeonhole/term.words", "internal/bytealg.MaxLen", "pigeonhole/lint.builtin"], loops := true, apart := false, laid := [("math/bits.deBruijn32tab", laid_math_bits_deBruijn32tab), ("math/bits.deBruijn64tab", laid_math_bits_deBruijn64tab), ("internal/strconv.uint64pow10", laid_internal_strconv_uint64pow10), ("pigeonhole/lint.builtin", laid_pigeonhole_lint_builtin), ("pigeonhole/term.words", laid_pigeonhole_term_words), ("pigeonhole/code.shapes", laid_pigeonhole_code_shapes)] }
def CodeGoesSaid : Prop := codeGoesRow.holds Tryz.pinned (OpenSpec.ofChange codeGoesSpec)

/-- ITS FALSE NEIGHBOUR: 'it returns false'. Refute it at one input. -/
def codeGoesWrong : ChangeSpec := { name := "codeGoes", fn := fun _ => fun
  | [d] => { results := [.lit (.bool false)], args := [d] }
  | _ => none }
def CodeGoesWrongFalsely : Prop := codeGoesRow.holds Tryz.pinned (OpenSpec.ofChange codeGoesWrong)

/-- 'pigeonholelaw18.CodeTexts': WHATEVER THE INPUT: true; the input reads as it did. -/
def codeTextsSpec : ChangeSpec := { name := "codeTexts", fn := fun _ => fun
  | [d1, d2, d3] => { results := [.lit (.bool true)], args := [d1, d2, d3] }
  | _ => none }
def codeTextsRow : OpenClaim := { program := "ytjmdaeabllkgnaagreatdoor", sum := "1f8f9962a84c75d43977c7b39d08cd239649aafe52826cce7607af544759334c", func := "pigeonhole/pigeonholelaw18.CodeTexts", spec := "codeTexts", inPlace := ["internal/abi.NoEscape", "internal/bytealg.IndexByteString", "internal/bytealg.IndexString"], unfollowed := true, recurses := true, named := ["pigeonhole/code.shapes", "internal/strconv.uint64pow10", "math/bits.deBruijn32tab", "math/bits.deBruijn64tab", "math/bits.overflowError", "pigeonhole/term.words", "internal/bytealg.MaxLen", "pigeonhole/lint.builtin"], loops := true, apart := false, laid := [("math/bits.deBruijn32tab", laid_math_bits_deBruijn32tab), ("math/bits.deBruijn64tab", laid_math_bits_deBruijn64tab), ("internal/strconv.uint64pow10", laid_internal_strconv_uint64pow10), ("pigeonhole/lint.builtin", laid_pigeonhole_lint_builtin), ("pigeonhole/term.words", laid_pigeonhole_term_words), ("pigeonhole/code.shapes", laid_pigeonhole_code_shapes)] }
def CodeTextsSaid : Prop := codeTextsRow.holds Tryz.pinned (OpenSpec.ofChange codeTextsSpec)

/-- ITS FALSE NEIGHBOUR: 'it returns false'. Refute it at one input. -/
def codeTextsWrong : ChangeSpec := { name := "codeTexts", fn := fun _ => fun
  | [d1, d2, d3] => { results := [.lit (.bool false)], args := [d1, d2, d3] }
  | _ => none }
def CodeTextsWrongFalsely : Prop := codeTextsRow.holds Tryz.pinned (OpenSpec.ofChange codeTextsWrong)

/- THE SECOND FORM. 'bulk': how many values and letters a reading holds, each counted each time it is reached (what is shared counts as often as it is met; a slice's spare places count too). A statement '..UptoSaid' is the law's where the arguments, and the package variables that the reading takes, are together of bulk at most 1048576: NARROWER than '..Said'. Prove '..Said' where nothing that the law and all that it calls make is longer than what came in: it says more and counts as full. Else prove '..UptoSaid'. A law counts once. -/
mutual
def uptoBulk {H : Type} : DataW H → Nat
  | .lit (.string bytes) => bytes.length + 1
  | .lit _ => 1
  | .nil => 1
  | .ptr d => uptoBulk d + 1
  | .slice elems spare => uptoBulkAll elems + uptoBulkAll spare + 1
  | .agg parts => uptoBulkAll parts + 1
  | .iface _ d => uptoBulk d + 1
  | .map entries => uptoBulkEntries entries + 1
  | .held _ => 1
def uptoBulkAll {H : Type} : List (DataW H) → Nat
  | [] => 0
  | d :: r => uptoBulk d + uptoBulkAll r
def uptoBulkEntries {H : Type} : List (Lit × DataW H) → Nat
  | [] => 0
  | x :: r => uptoBulkEntry x + uptoBulkEntries r
def uptoBulkEntry {H : Type} : Lit × DataW H → Nat
  | (.string bytes, d) => bytes.length + uptoBulk d + 1
  | (_, d) => uptoBulk d + 1
 end
def uptoSmall : (H : Type) → List (DataW H) → Bool := fun _ ds => decide (uptoBulkAll ds ≤ 1048576)
def OpenSpec.upto (s : _root_.Go.ChangeSpec) : _root_.Go.OpenSpec := { _root_.Go.OpenSpec.ofChange s with cond := some uptoSmall }

/-- 'pigeonholelaw18.CodeRights', WHERE WHAT IT READS IS OF BULK AT MOST 1048576: true; the input reads as it did. -/
def codeRightsUptoRow : OpenClaim := { program := "ytjmdaeabllkgnaagreatdoor", sum := "1f8f9962a84c75d43977c7b39d08cd239649aafe52826cce7607af544759334c", func := "pigeonhole/pigeonholelaw18.CodeRights", spec := "codeRights", inPlace := ["internal/abi.NoEscape", "internal/bytealg.IndexByteString", "internal/bytealg.IndexString"], unfollowed := true, recurses := true, named := ["pigeonhole/code.shapes", "internal/strconv.uint64pow10", "math/bits.deBruijn32tab", "math/bits.deBruijn64tab", "math/bits.overflowError", "pigeonhole/term.words", "internal/bytealg.MaxLen", "pigeonhole/lint.builtin"], loops := true, apart := false, laid := [("math/bits.deBruijn32tab", laid_math_bits_deBruijn32tab), ("math/bits.deBruijn64tab", laid_math_bits_deBruijn64tab), ("internal/strconv.uint64pow10", laid_internal_strconv_uint64pow10), ("pigeonhole/lint.builtin", laid_pigeonhole_lint_builtin), ("pigeonhole/term.words", laid_pigeonhole_term_words), ("pigeonhole/code.shapes", laid_pigeonhole_code_shapes)], narrowed := true }
def CodeRightsUptoSaid : Prop := codeRightsUptoRow.holds Tryz.pinned (OpenSpec.upto codeRightsSpec)

/-- 'pigeonholelaw18.CodeTells', WHERE WHAT IT READS IS OF BULK AT MOST 1048576: true; the input reads as it did. -/
def codeTellsUptoRow : OpenClaim := { program := "ytjmdaeabllkgnaagreatdoor", sum := "1f8f9962a84c75d43977c7b39d08cd239649aafe52826cce7607af544759334c", func := "pigeonhole/pigeonholelaw18.CodeTells", spec := "codeTells", inPlace := ["internal/abi.NoEscape", "internal/bytealg.IndexByteString", "internal/bytealg.IndexString"], unfollowed := true, recurses := true, named := ["pigeonhole/code.shapes", "internal/strconv.uint64pow10", "math/bits.deBruijn32tab", "math/bits.deBruijn64tab", "math/bits.overflowError", "pigeonhole/term.words", "internal/bytealg.MaxLen", "pigeonhole/lint.builtin"], apart := false, laid := [("math/bits.deBruijn32tab", laid_math_bits_deBruijn32tab), ("math/bits.deBruijn64tab", laid_math_bits_deBruijn64tab), ("internal/strconv.uint64pow10", laid_internal_strconv_uint64pow10), ("pigeonhole/lint.builtin", laid_pigeonhole_lint_builtin), ("pigeonhole/term.words", laid_pigeonhole_term_words), ("pigeonhole/code.shapes", laid_pigeonhole_code_shapes)], narrowed := true }
def CodeTellsUptoSaid : Prop := codeTellsUptoRow.holds Tryz.pinned (OpenSpec.upto codeTellsSpec)

/-- 'pigeonholelaw18.CodeNumbers', WHERE WHAT IT READS IS OF BULK AT MOST 1048576: true; the input reads as it did. -/
def codeNumbersUptoRow : OpenClaim := { program := "ytjmdaeabllkgnaagreatdoor", sum := "1f8f9962a84c75d43977c7b39d08cd239649aafe52826cce7607af544759334c", func := "pigeonhole/pigeonholelaw18.CodeNumbers", spec := "codeNumbers", inPlace := ["internal/bytealg.IndexByteString", "internal/bytealg.IndexString", "internal/abi.NoEscape"], unfollowed := true, recurses := true, named := ["pigeonhole/code.shapes", "pigeonhole/lint.builtin", "internal/bytealg.MaxLen", "internal/strconv.uint64pow10", "math/bits.deBruijn32tab", "math/bits.deBruijn64tab", "math/bits.overflowError", "pigeonhole/term.words"], apart := false, laid := [("math/bits.deBruijn32tab", laid_math_bits_deBruijn32tab), ("math/bits.deBruijn64tab", laid_math_bits_deBruijn64tab), ("internal/strconv.uint64pow10", laid_internal_strconv_uint64pow10), ("pigeonhole/lint.builtin", laid_pigeonhole_lint_builtin), ("pigeonhole/term.words", laid_pigeonhole_term_words), ("pigeonhole/code.shapes", laid_pigeonhole_code_shapes)], narrowed := true }
def CodeNumbersUptoSaid : Prop := codeNumbersUptoRow.holds Tryz.pinned (OpenSpec.upto codeNumbersSpec)

/-- 'pigeonholelaw18.CodeGoes', WHERE WHAT IT READS IS OF BULK AT MOST 1048576: true; the input reads as it did. -/
def codeGoesUptoRow : OpenClaim := { program := "ytjmdaeabllkgnaagreatdoor", sum := "1f8f9962a84c75d43977c7b39d08cd239649aafe52826cce7607af544759334c", func := "pigeonhole/pigeonholelaw18.CodeGoes", spec := "codeGoes", inPlace := ["internal/abi.NoEscape", "internal/bytealg.IndexByteString", "internal/bytealg.IndexString"], unfollowed := true, recurses := true, named := ["pigeonhole/code.shapes", "internal/strconv.uint64pow10", "math/bits.deBruijn32tab", "math/bits.deBruijn64tab", "math/bits.overflowError", "pigeonhole/term.words", "internal/bytealg.MaxLen", "pigeonhole/lint.builtin"], loops := true, apart := false, laid := [("math/bits.deBruijn32tab", laid_math_bits_deBruijn32tab), ("math/bits.deBruijn64tab", laid_math_bits_deBruijn64tab), ("internal/strconv.uint64pow10", laid_internal_strconv_uint64pow10), ("pigeonhole/lint.builtin", laid_pigeonhole_lint_builtin), ("pigeonhole/term.words", laid_pigeonhole_term_words), ("pigeonhole/code.shapes", laid_pigeonhole_code_shapes)], narrowed := true }
def CodeGoesUptoSaid : Prop := codeGoesUptoRow.holds Tryz.pinned (OpenSpec.upto codeGoesSpec)

/-- 'pigeonholelaw18.CodeTexts', WHERE WHAT IT READS IS OF BULK AT MOST 1048576: true; the input reads as it did. -/
def codeTextsUptoRow : OpenClaim := { program := "ytjmdaeabllkgnaagreatdoor", sum := "1f8f9962a84c75d43977c7b39d08cd239649aafe52826cce7607af544759334c", func := "pigeonhole/pigeonholelaw18.CodeTexts", spec := "codeTexts", inPlace := ["internal/abi.NoEscape", "internal/bytealg.IndexByteString", "internal/bytealg.IndexString"], unfollowed := true, recurses := true, named := ["pigeonhole/code.shapes", "internal/strconv.uint64pow10", "math/bits.deBruijn32tab", "math/bits.deBruijn64tab", "math/bits.overflowError", "pigeonhole/term.words", "internal/bytealg.MaxLen", "pigeonhole/lint.builtin"], loops := true, apart := false, laid := [("math/bits.deBruijn32tab", laid_math_bits_deBruijn32tab), ("math/bits.deBruijn64tab", laid_math_bits_deBruijn64tab), ("internal/strconv.uint64pow10", laid_internal_strconv_uint64pow10), ("pigeonhole/lint.builtin", laid_pigeonhole_lint_builtin), ("pigeonhole/term.words", laid_pigeonhole_term_words), ("pigeonhole/code.shapes", laid_pigeonhole_code_shapes)], narrowed := true }
def CodeTextsUptoSaid : Prop := codeTextsUptoRow.holds Tryz.pinned (OpenSpec.upto codeTextsSpec)

end Rows
end Go.Proofs.YtjmdaeabllkgnaaGreatDoor
