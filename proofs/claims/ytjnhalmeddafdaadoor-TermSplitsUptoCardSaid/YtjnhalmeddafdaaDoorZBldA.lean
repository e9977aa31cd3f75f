/- strings.Builder's check whether it was copied, on the machine. -/
import Derived.Test.YtjnhalmeddafdaaDoorZC
import Derived.Shelf.Strings.BuilderX
import Derived.Lib.Strings
import Derived.Lib.Slices
import Derived.Lib.Walk
import Derived.Lib.Builder
import Derived.Lib.AppendStr
import Derived.Lib.UnsafeStr
import Derived.Lib.MakeNoZero
import Derived.Laws.Externs
set_option linter.unusedVariables false
set_option linter.unusedSimpArgs false
namespace Go.Proofs.YtjnhalmeddafdaaDoor
open Go Go.RowKit
set_option maxHeartbeats 1000000 in
set_option maxRecDepth 100000 in
theorem copyCheck_used (b : Nat) (w : World) (h0 : w.cell? ⟨b, 0, none⟩ = some (.pointer (some ⟨b, 0, none⟩))) :
    Calls Tryd.prog 70 #[.pointer (some ⟨b, 0, none⟩)] w fun e w' => e = .returned (.tuple #[]) ∧ w' = w := by
  have mixed : Tryd.prog.follows .mixedOrders = true := by kernel_rfl
  have t72 := Tryd.underlying53; have a72 := Tryd.isAgg53; have z72 := Tryd.sizeOf53; have v72 := Tryd.zeroValue53; have u72 := run_underlying Tryd.underlying53
  have t70 := Tryd.underlying50; have a70 := Tryd.isAgg50; have z70 := Tryd.sizeOf50; have v70 := Tryd.zeroValue50; have u70 := run_underlying Tryd.underlying50
  have t4 := Tryd.underlying4; have a4 := Tryd.isAgg4; have z4 := Tryd.sizeOf4; have v4 := Tryd.zeroValue4; have u4 := run_underlying Tryd.underlying4
  obtain ⟨j, hj, _⟩ : ∃ j, Tryd.prog.info? 53 = some j ∧ j.size = 2 := ⟨_, rfl, by kernel_rfl⟩
  go_enter Tryd.func70, Tryd.ntmps70
  go_wp2
  rw [Lib.run_neq_ptr_same w _ Tryd.underlying50 hj]
  go_wp2
  go_end0
  exact ⟨rfl, rfl⟩
set_option maxHeartbeats 1000000 in
set_option maxRecDepth 100000 in
theorem copyCheck_fresh (b : Nat) (w : World) (h0 : w.cell? ⟨b, 0, none⟩ = some (.pointer none)) (hsh : w.shape? b = some (53, 2)) (hfz : w.frozen? ⟨b, 0, none⟩ = false) :
    Calls Tryd.prog 70 #[.pointer (some ⟨b, 0, none⟩)] w fun e w' => e = .returned (.tuple #[]) ∧ w' = w.setCell ⟨b, 0, none⟩ (.pointer (some ⟨b, 0, none⟩)) := by
  have mixed : Tryd.prog.follows .mixedOrders = true := by kernel_rfl
  have t72 := Tryd.underlying53; have a72 := Tryd.isAgg53; have z72 := Tryd.sizeOf53; have v72 := Tryd.zeroValue53; have u72 := run_underlying Tryd.underlying53
  have t70 := Tryd.underlying50; have a70 := Tryd.isAgg50; have z70 := Tryd.sizeOf50; have v70 := Tryd.zeroValue50; have u70 := run_underlying Tryd.underlying50
  have t4 := Tryd.underlying4; have a4 := Tryd.isAgg4; have z4 := Tryd.sizeOf4; have v4 := Tryd.zeroValue4; have u4 := run_underlying Tryd.underlying4
  have t164 := Tryd.underlying95; have a164 := Tryd.isAgg95; have z164 := Tryd.sizeOf95; have v164 := Tryd.zeroValue95; have u164 := run_underlying Tryd.underlying95
  obtain ⟨j, hj, hjs⟩ : ∃ j, Tryd.prog.info? 53 = some j ∧ j.size = 2 := ⟨_, rfl, by kernel_rfl⟩
  go_enter Tryd.func70, Tryd.ntmps70
  go_wp2
  rw [Lib.run_to_unsafe w ⟨b, 0, none⟩ t70 t164 hj (by rw [hjs]; decide) hsh (Nat.zero_lt_succ 1)]
  simp only [Result.andThen]
  rw [Oper.upon_value]
  go_wp2
  rw [run_callFunc_extern Tryd.func87 (by kernel_rfl) (by kernel_rfl) (by kernel_rfl) (e := Extern.AbiNoEscape.same) (by kernel_rfl)]
  rw [Lib.run_noEscape]
  simp only [Result.andThen]
  rw [Oper.upon_value]
  go_wp2
  rw [Lib.run_from_unsafe w ⟨b, 0, none⟩ t164 t70 hj hsh (by kernel_rfl)]
  simp only [Result.andThen]
  rw [Oper.upon_value]
  go_wp2
  go_end0
  exact ⟨rfl, rfl⟩
end Go.Proofs.YtjnhalmeddafdaaDoor
