/- Right terms, and their size: the function. -/
import Derived.Test.YtpginpbcndlfmaaDoorZSize4
import Derived.Test.YtpginpbcndlfmaaDoorZSizeA
import Derived.Test.YtpginpbcndlfmaaDoorZSizeB
import Derived.Test.YtpginpbcndlfmaaDoorZSizeC
import Derived.Test.YtpginpbcndlfmaaDoorZSizeD
import Derived.Test.YtpginpbcndlfmaaDoorZSizeE
set_option linter.unusedVariables false
set_option linter.unusedSimpArgs false
namespace Go.Proofs.YtpginpbcndlfmaaDoor
open Go Go.Av
variable (G : Nat → AV)
theorem size_pure (t : Term) : t.bulk ≤ 1000000000 → Pure Tryd.prog G 43 [t.enc] (.int .i64 (size t)) := by
  refine Term.ind (P := fun t => t.bulk ≤ 1000000000 → Pure Tryd.prog G 43 [t.enc] (.int .i64 (size t))) (fun t ih1 ih2 hb => ?_) t
  have hit : ∀ x, x ∈ t.items → Pure Tryd.prog G 43 [x.enc] (.int .i64 (size x)) := fun x hx => ih1 x hx (by have := bulk_item hx; omega)
  have htt : ∀ x, x ∈ t.tail → Pure Tryd.prog G 43 [x.enc] (.int .i64 (size x)) := fun x hx => ih2 x hx (by have := bulk_tail hx; omega)
  by_cases h7 : t.knd = 7
  · exact size_list G t hb h7 hit htt
  by_cases h1 : t.knd = 1
  · exact size_k1 G t hb h1 hit htt
  by_cases h2 : t.knd = 2
  · exact size_k2 G t hb h2 hit htt
  by_cases h3 : t.knd = 3
  · exact size_k3 G t hb h3 hit htt
  by_cases h4 : t.knd = 4
  · exact size_k4 G t hb h4 hit htt
  by_cases h5 : t.knd = 5
  · exact size_k5 G t hb h5 hit htt
  by_cases h6 : t.knd = 6
  · exact size_k6 G t hb h6 hit htt
  · exact size_k0 G t hb (by omega) hit htt
end Go.Proofs.YtpginpbcndlfmaaDoor
