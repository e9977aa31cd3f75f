/- What the program's tables say of its types: each by the kernel. Written by a program of ours (facts.py). -/
import Derived.Test.YtchakddenojhdaaDoorAvN
import Derived.Test.YtchakddenojhdaaDoorChecked
import Derived.KernelRfl
set_option maxRecDepth 100000
namespace Go.Proofs.YtchakddenojhdaaDoor
open Go Go.Av
/-- int -/
theorem tf3 : tk Tryd.prog 3 = some (false, 1) ∧ sk Tryd.prog 3 = .int .i64 ∧ (Tryd.prog.underlying 3).isSome = true ∧ el Tryd.prog 3 = none ∧ zc Tryd.prog 3 = some [.int .i64 0] ∧ by_ Tryd.prog 3 = some 8 := ⟨by kernel_rfl, by kernel_rfl, by kernel_rfl, by kernel_rfl, by kernel_rfl, by kernel_rfl⟩
/-- bool -/
theorem tf4 : tk Tryd.prog 4 = some (false, 1) ∧ sk Tryd.prog 4 = .bool ∧ (Tryd.prog.underlying 4).isSome = true ∧ el Tryd.prog 4 = none ∧ zc Tryd.prog 4 = some [.bool false] ∧ by_ Tryd.prog 4 = some 1 := ⟨by kernel_rfl, by kernel_rfl, by kernel_rfl, by kernel_rfl, by kernel_rfl, by kernel_rfl⟩
/-- uint8 -/
theorem tf5 : tk Tryd.prog 5 = some (false, 1) ∧ sk Tryd.prog 5 = .int .u8 ∧ (Tryd.prog.underlying 5).isSome = true ∧ el Tryd.prog 5 = none ∧ zc Tryd.prog 5 = some [.int .u8 0] ∧ by_ Tryd.prog 5 = some 1 := ⟨by kernel_rfl, by kernel_rfl, by kernel_rfl, by kernel_rfl, by kernel_rfl, by kernel_rfl⟩
/-- string -/
theorem tf9 : tk Tryd.prog 9 = some (false, 1) ∧ sk Tryd.prog 9 = .str ∧ (Tryd.prog.underlying 9).isSome = true ∧ el Tryd.prog 9 = none ∧ zc Tryd.prog 9 = some [.str []] ∧ by_ Tryd.prog 9 = some 16 := ⟨by kernel_rfl, by kernel_rfl, by kernel_rfl, by kernel_rfl, by kernel_rfl, by kernel_rfl⟩
/-- api.NodeKind -/
theorem tf22 : tk Tryd.prog 22 = some (false, 1) ∧ sk Tryd.prog 22 = .int .u8 ∧ (Tryd.prog.underlying 22).isSome = true ∧ el Tryd.prog 22 = none ∧ zc Tryd.prog 22 = some [.int .u8 0] ∧ by_ Tryd.prog 22 = some 1 := ⟨by kernel_rfl, by kernel_rfl, by kernel_rfl, by kernel_rfl, by kernel_rfl, by kernel_rfl⟩
/-- []api.Node -/
theorem tf23 : tk Tryd.prog 23 = some (false, 1) ∧ sk Tryd.prog 23 = .sl 25 ∧ (Tryd.prog.underlying 23).isSome = true ∧ el Tryd.prog 23 = some 25 ∧ zc Tryd.prog 23 = some [.nil] ∧ by_ Tryd.prog 23 = some 24 ∧ aelt Tryd.prog 23 = some (25, 5, 64) := ⟨by kernel_rfl, by kernel_rfl, by kernel_rfl, by kernel_rfl, by kernel_rfl, by kernel_rfl, by kernel_rfl⟩
/-- api.Node -/
theorem tf25 : tk Tryd.prog 25 = some (true, 5) ∧ sk Tryd.prog 25 = .st ∧ (Tryd.prog.underlying 25).isSome = true ∧ el Tryd.prog 25 = none ∧ zc Tryd.prog 25 = some [.int .u8 0, .str [], .int .i64 0, .int .i64 0, .nil] ∧ by_ Tryd.prog 25 = some 64 ∧ places Tryd.prog 25 = some [(0, 1), (1, 1), (2, 1), (3, 1), (4, 1)] ∧ fld Tryd.prog 25 0 = some (0, false, 1) ∧ fld Tryd.prog 25 1 = some (1, false, 1) ∧ fld Tryd.prog 25 2 = some (2, false, 1) ∧ fld Tryd.prog 25 3 = some (3, false, 1) ∧ fld Tryd.prog 25 4 = some (4, false, 1) := ⟨by kernel_rfl, by kernel_rfl, by kernel_rfl, by kernel_rfl, by kernel_rfl, by kernel_rfl, by kernel_rfl, by kernel_rfl, by kernel_rfl, by kernel_rfl, by kernel_rfl, by kernel_rfl⟩
/-- func(api.Node) bool -/
theorem tf27 : tk Tryd.prog 27 = some (false, 1) ∧ sk Tryd.prog 27 = .fn ∧ (Tryd.prog.underlying 27).isSome = true ∧ el Tryd.prog 27 = none ∧ zc Tryd.prog 27 = some [.nilfn] ∧ by_ Tryd.prog 27 = some 8 := ⟨by kernel_rfl, by kernel_rfl, by kernel_rfl, by kernel_rfl, by kernel_rfl, by kernel_rfl⟩
/-- func(api.Node, api.Node) bool -/
theorem tf31 : tk Tryd.prog 31 = some (false, 1) ∧ sk Tryd.prog 31 = .fn ∧ (Tryd.prog.underlying 31).isSome = true ∧ el Tryd.prog 31 = none ∧ zc Tryd.prog 31 = some [.nilfn] ∧ by_ Tryd.prog 31 = some 8 := ⟨by kernel_rfl, by kernel_rfl, by kernel_rfl, by kernel_rfl, by kernel_rfl, by kernel_rfl⟩
/-- node.shape -/
theorem tf45 : tk Tryd.prog 45 = some (true, 5) ∧ sk Tryd.prog 45 = .st ∧ (Tryd.prog.underlying 45).isSome = true ∧ el Tryd.prog 45 = none ∧ zc Tryd.prog 45 = some [.int .u8 0, .int .u8 0, .int .i64 0, .int .i64 0, .int .i64 0] ∧ by_ Tryd.prog 45 = some 32 ∧ places Tryd.prog 45 = some [(0, 1), (1, 1), (2, 1), (3, 1), (4, 1)] ∧ fld Tryd.prog 45 0 = some (0, false, 1) ∧ fld Tryd.prog 45 1 = some (1, false, 1) ∧ fld Tryd.prog 45 2 = some (2, false, 1) ∧ fld Tryd.prog 45 3 = some (3, false, 1) ∧ fld Tryd.prog 45 4 = some (4, false, 1) := ⟨by kernel_rfl, by kernel_rfl, by kernel_rfl, by kernel_rfl, by kernel_rfl, by kernel_rfl, by kernel_rfl, by kernel_rfl, by kernel_rfl, by kernel_rfl, by kernel_rfl, by kernel_rfl⟩
/-- [20]node.shape -/
theorem tf46 : tk Tryd.prog 46 = some (true, 100) ∧ sk Tryd.prog 46 = .arr 20 45 ∧ (Tryd.prog.underlying 46).isSome = true ∧ el Tryd.prog 46 = none ∧ by_ Tryd.prog 46 = some 640 ∧ arrT Tryd.prog 46 = some (20, 5) := ⟨by kernel_rfl, by kernel_rfl, by kernel_rfl, by kernel_rfl, by kernel_rfl, by kernel_rfl⟩
/-- []uint8 -/
theorem tf60 : tk Tryd.prog 60 = some (false, 1) ∧ sk Tryd.prog 60 = .sl 5 ∧ (Tryd.prog.underlying 60).isSome = true ∧ el Tryd.prog 60 = some 5 ∧ zc Tryd.prog 60 = some [.nil] ∧ by_ Tryd.prog 60 = some 24 ∧ aelt Tryd.prog 60 = some (5, 1, 1) := ⟨by kernel_rfl, by kernel_rfl, by kernel_rfl, by kernel_rfl, by kernel_rfl, by kernel_rfl, by kernel_rfl⟩
theorem mixed : Tryd.prog.follows .mixedOrders = true := by kernel_rfl
end Go.Proofs.YtchakddenojhdaaDoor
