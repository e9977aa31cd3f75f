/- Of rows that there are none of it is told that they lie apart. -/
import Derived.Test.YtjmdaeabllkgnaaGreatDoorY12
import Derived.Test.YtjmdaeabllkgnaaGreatDoorY31
import Derived.Test.YtjmdaeabllkgnaaGreatDoorY22
set_option linter.unusedVariables false
set_option linter.unusedSimpArgs false
set_option maxRecDepth 20000
set_option linter.defProp false
namespace Go.Proofs.YtjmdaeabllkgnaaGreatDoor
open Go Go.Av
section
def tbFlatN := And.intro (And.intro (And.intro (And.intro @tf3 @tf4) (And.intro @tf84 (And.intro @tf85 @tf35))) (And.intro (And.intro @tf86 (And.intro @tf87 @tf88)) (And.intro @tf89 (And.intro @tf90 @tf91)))) (And.intro (And.intro (And.intro @tf92 @tf93) (And.intro @tf94 (And.intro @tf95 @tf96))) (And.intro (And.intro @tf97 (And.intro @tf98 @tf99)) (And.intro @tf100 (And.intro @tf101 @tf102))))
variable (G : Nat -> AV)
theorem flatLimbs_nil : Pure Tryz.prog G 97 [.nil] (.bool true) := by
 intro σ
 refine Tri.of_awp mixed Tryz.func97 rfl (by kernel_rfl) (by kernel_rfl) (by simp [Tryz.ntmps97]) Tryz.results97 ?_
 repeat' (first | refine xs ?_ ?_ <;> intros | (refine wn ?_; intro bx hbx; try simp only [fb] at hbx) | ((refine make_buf (σ0 := σ) tf84.2.2.2.2.2.2 (by omega) (by simp) (AS.le.refl σ) (fun v2 σ2 hB2 hx2 => ?_); have hle2 := hB2.le; clear hB2 hx2)) | (((first | refine loop_keep mixed (fun n e => e 14 = .int .i64 0) 0 (by simp -dsimp only [↓bp, bq, br, seval, tbFlatN]; first | done | rfl) ?_ | refine loop_keep mixed (fun n e => e 11 = .int .i64 0) 0 (by simp -dsimp only [↓bp, bq, br, seval, tbFlatN]; first | done | rfl) ?_ | refine loop_keep mixed (fun n e => e 9 = .int .i64 0) 0 (by simp -dsimp only [↓bp, bq, br, seval, tbFlatN]; first | done | rfl) ?_ | refine loop_keep mixed (fun n e => e 6 = .int .i64 0) 0 (by simp -dsimp only [↓bp, bq, br, seval, tbFlatN]; first | done | rfl) ?_ | refine loop_keep mixed (fun n e => e 3 = .int .i64 0) 0 (by simp -dsimp only [↓bp, bq, br, seval, tbFlatN]; first | done | rfl) ?_); rintro n v h; simp -dsimp only [↓bp, bq, br, seval, tbFlatN] at h)) | refine wj ?_ | simp -dsimp only [↓bp, bq, br, seval, tbFlatN, *] | refine wz ?_ | fail)
theorem flatWords_nil : Pure Tryz.prog G 98 [.nil] (.bool true) := by
 intro σ
 refine Tri.of_awp mixed Tryz.func98 rfl (by kernel_rfl) (by kernel_rfl) (by simp [Tryz.ntmps98]) Tryz.results98 ?_
 repeat' (first | refine xs ?_ ?_ <;> intros | (refine wn ?_; intro bx hbx; try simp only [fb] at hbx) | ((refine make_buf (σ0 := σ) tf85.2.2.2.2.2.2 (by omega) (by simp) (AS.le.refl σ) (fun v2 σ2 hB2 hx2 => ?_); have hle2 := hB2.le; clear hB2 hx2)) | (((first | refine loop_keep mixed (fun n e => e 14 = .int .i64 0) 0 (by simp -dsimp only [↓bp, bq, br, seval, tbFlatN]; first | done | rfl) ?_ | refine loop_keep mixed (fun n e => e 11 = .int .i64 0) 0 (by simp -dsimp only [↓bp, bq, br, seval, tbFlatN]; first | done | rfl) ?_ | refine loop_keep mixed (fun n e => e 9 = .int .i64 0) 0 (by simp -dsimp only [↓bp, bq, br, seval, tbFlatN]; first | done | rfl) ?_ | refine loop_keep mixed (fun n e => e 6 = .int .i64 0) 0 (by simp -dsimp only [↓bp, bq, br, seval, tbFlatN]; first | done | rfl) ?_ | refine loop_keep mixed (fun n e => e 3 = .int .i64 0) 0 (by simp -dsimp only [↓bp, bq, br, seval, tbFlatN]; first | done | rfl) ?_); rintro n v h; simp -dsimp only [↓bp, bq, br, seval, tbFlatN] at h)) | refine wj ?_ | simp -dsimp only [↓bp, bq, br, seval, tbFlatN, *] | refine wz ?_ | fail)
theorem flatLongs_nil : Pure Tryz.prog G 100 [.nil] (.bool true) := by
 intro σ
 refine Tri.of_awp mixed Tryz.func100 rfl (by kernel_rfl) (by kernel_rfl) (by simp [Tryz.ntmps100]) Tryz.results100 ?_
 repeat' (first | refine xs ?_ ?_ <;> intros | (refine wn ?_; intro bx hbx; try simp only [fb] at hbx) | ((refine make_buf (σ0 := σ) tf86.2.2.2.2.2.2 (by omega) (by simp) (AS.le.refl σ) (fun v2 σ2 hB2 hx2 => ?_); have hle2 := hB2.le; clear hB2 hx2)) | (((first | refine loop_keep mixed (fun n e => e 14 = .int .i64 0) 0 (by simp -dsimp only [↓bp, bq, br, seval, tbFlatN]; first | done | rfl) ?_ | refine loop_keep mixed (fun n e => e 11 = .int .i64 0) 0 (by simp -dsimp only [↓bp, bq, br, seval, tbFlatN]; first | done | rfl) ?_ | refine loop_keep mixed (fun n e => e 9 = .int .i64 0) 0 (by simp -dsimp only [↓bp, bq, br, seval, tbFlatN]; first | done | rfl) ?_ | refine loop_keep mixed (fun n e => e 6 = .int .i64 0) 0 (by simp -dsimp only [↓bp, bq, br, seval, tbFlatN]; first | done | rfl) ?_ | refine loop_keep mixed (fun n e => e 3 = .int .i64 0) 0 (by simp -dsimp only [↓bp, bq, br, seval, tbFlatN]; first | done | rfl) ?_); rintro n v h; simp -dsimp only [↓bp, bq, br, seval, tbFlatN] at h)) | refine wj ?_ | simp -dsimp only [↓bp, bq, br, seval, tbFlatN, *] | refine wz ?_ | fail)
theorem flatTexts_nil : Pure Tryz.prog G 101 [.nil] (.bool true) := by
 intro σ
 refine Tri.of_awp mixed Tryz.func101 rfl (by kernel_rfl) (by kernel_rfl) (by simp [Tryz.ntmps101]) Tryz.results101 ?_
 repeat' (first | refine xs ?_ ?_ <;> intros | (refine wn ?_; intro bx hbx; try simp only [fb] at hbx) | ((refine make_buf (σ0 := σ) tf87.2.2.2.2.2.2 (by omega) (by simp) (AS.le.refl σ) (fun v2 σ2 hB2 hx2 => ?_); have hle2 := hB2.le; clear hB2 hx2)) | (((first | refine loop_keep mixed (fun n e => e 14 = .int .i64 0) 0 (by simp -dsimp only [↓bp, bq, br, seval, tbFlatN]; first | done | rfl) ?_ | refine loop_keep mixed (fun n e => e 11 = .int .i64 0) 0 (by simp -dsimp only [↓bp, bq, br, seval, tbFlatN]; first | done | rfl) ?_ | refine loop_keep mixed (fun n e => e 9 = .int .i64 0) 0 (by simp -dsimp only [↓bp, bq, br, seval, tbFlatN]; first | done | rfl) ?_ | refine loop_keep mixed (fun n e => e 6 = .int .i64 0) 0 (by simp -dsimp only [↓bp, bq, br, seval, tbFlatN]; first | done | rfl) ?_ | refine loop_keep mixed (fun n e => e 3 = .int .i64 0) 0 (by simp -dsimp only [↓bp, bq, br, seval, tbFlatN]; first | done | rfl) ?_); rintro n v h; simp -dsimp only [↓bp, bq, br, seval, tbFlatN] at h)) | refine wj ?_ | simp -dsimp only [↓bp, bq, br, seval, tbFlatN, *] | refine wz ?_ | fail)
theorem flatBytes_nil : Pure Tryz.prog G 102 [.nil] (.bool true) := by
 intro σ
 refine Tri.of_awp mixed Tryz.func102 rfl (by kernel_rfl) (by kernel_rfl) (by simp [Tryz.ntmps102]) Tryz.results102 ?_
 repeat' (first | refine xs ?_ ?_ <;> intros | (refine wn ?_; intro bx hbx; try simp only [fb] at hbx) | ((refine make_buf (σ0 := σ) tf88.2.2.2.2.2.2 (by omega) (by simp) (AS.le.refl σ) (fun v2 σ2 hB2 hx2 => ?_); have hle2 := hB2.le; clear hB2 hx2)) | (((first | refine loop_keep mixed (fun n e => e 14 = .int .i64 0) 0 (by simp -dsimp only [↓bp, bq, br, seval, tbFlatN]; first | done | rfl) ?_ | refine loop_keep mixed (fun n e => e 11 = .int .i64 0) 0 (by simp -dsimp only [↓bp, bq, br, seval, tbFlatN]; first | done | rfl) ?_ | refine loop_keep mixed (fun n e => e 9 = .int .i64 0) 0 (by simp -dsimp only [↓bp, bq, br, seval, tbFlatN]; first | done | rfl) ?_ | refine loop_keep mixed (fun n e => e 6 = .int .i64 0) 0 (by simp -dsimp only [↓bp, bq, br, seval, tbFlatN]; first | done | rfl) ?_ | refine loop_keep mixed (fun n e => e 3 = .int .i64 0) 0 (by simp -dsimp only [↓bp, bq, br, seval, tbFlatN]; first | done | rfl) ?_); rintro n v h; simp -dsimp only [↓bp, bq, br, seval, tbFlatN] at h)) | refine wj ?_ | simp -dsimp only [↓bp, bq, br, seval, tbFlatN, *] | refine wz ?_ | fail)
theorem flatFaults_nil : Pure Tryz.prog G 103 [.nil] (.bool true) := by
 intro σ
 refine Tri.of_awp mixed Tryz.func103 rfl (by kernel_rfl) (by kernel_rfl) (by simp [Tryz.ntmps103]) Tryz.results103 ?_
 repeat' (first | refine xs ?_ ?_ <;> intros | (refine wn ?_; intro bx hbx; try simp only [fb] at hbx) | ((refine make_buf (σ0 := σ) tf89.2.2.2.2.2.2 (by omega) (by simp) (AS.le.refl σ) (fun v2 σ2 hB2 hx2 => ?_); have hle2 := hB2.le; clear hB2 hx2)) | (((first | refine loop_keep mixed (fun n e => e 14 = .int .i64 0) 0 (by simp -dsimp only [↓bp, bq, br, seval, tbFlatN]; first | done | rfl) ?_ | refine loop_keep mixed (fun n e => e 11 = .int .i64 0) 0 (by simp -dsimp only [↓bp, bq, br, seval, tbFlatN]; first | done | rfl) ?_ | refine loop_keep mixed (fun n e => e 9 = .int .i64 0) 0 (by simp -dsimp only [↓bp, bq, br, seval, tbFlatN]; first | done | rfl) ?_ | refine loop_keep mixed (fun n e => e 6 = .int .i64 0) 0 (by simp -dsimp only [↓bp, bq, br, seval, tbFlatN]; first | done | rfl) ?_ | refine loop_keep mixed (fun n e => e 3 = .int .i64 0) 0 (by simp -dsimp only [↓bp, bq, br, seval, tbFlatN]; first | done | rfl) ?_); rintro n v h; simp -dsimp only [↓bp, bq, br, seval, tbFlatN] at h)) | refine wj ?_ | simp -dsimp only [↓bp, bq, br, seval, tbFlatN, *] | refine wz ?_ | fail)
theorem flatTerms_nil : Pure Tryz.prog G 104 [.nil] (.bool true) := by
 intro σ
 refine Tri.of_awp mixed Tryz.func104 rfl (by kernel_rfl) (by kernel_rfl) (by simp [Tryz.ntmps104]) Tryz.results104 ?_
 repeat' (first | refine xs ?_ ?_ <;> intros | (refine wn ?_; intro bx hbx; try simp only [fb] at hbx) | ((refine make_buf (σ0 := σ) tf90.2.2.2.2.2.2 (by omega) (by simp) (AS.le.refl σ) (fun v2 σ2 hB2 hx2 => ?_); have hle2 := hB2.le; clear hB2 hx2)) | (((first | refine loop_keep mixed (fun n e => e 14 = .int .i64 0) 0 (by simp -dsimp only [↓bp, bq, br, seval, tbFlatN]; first | done | rfl) ?_ | refine loop_keep mixed (fun n e => e 11 = .int .i64 0) 0 (by simp -dsimp only [↓bp, bq, br, seval, tbFlatN]; first | done | rfl) ?_ | refine loop_keep mixed (fun n e => e 9 = .int .i64 0) 0 (by simp -dsimp only [↓bp, bq, br, seval, tbFlatN]; first | done | rfl) ?_ | refine loop_keep mixed (fun n e => e 6 = .int .i64 0) 0 (by simp -dsimp only [↓bp, bq, br, seval, tbFlatN]; first | done | rfl) ?_ | refine loop_keep mixed (fun n e => e 3 = .int .i64 0) 0 (by simp -dsimp only [↓bp, bq, br, seval, tbFlatN]; first | done | rfl) ?_); rintro n v h; simp -dsimp only [↓bp, bq, br, seval, tbFlatN] at h)) | refine wj ?_ | simp -dsimp only [↓bp, bq, br, seval, tbFlatN, *] | refine wz ?_ | fail)
theorem flatTokens_nil : Pure Tryz.prog G 105 [.nil] (.bool true) := by
 intro σ
 refine Tri.of_awp mixed Tryz.func105 rfl (by kernel_rfl) (by kernel_rfl) (by simp [Tryz.ntmps105]) Tryz.results105 ?_
 repeat' (first | refine xs ?_ ?_ <;> intros | (refine wn ?_; intro bx hbx; try simp only [fb] at hbx) | ((refine make_buf (σ0 := σ) tf91.2.2.2.2.2.2 (by omega) (by simp) (AS.le.refl σ) (fun v2 σ2 hB2 hx2 => ?_); have hle2 := hB2.le; clear hB2 hx2)) | (((first | refine loop_keep mixed (fun n e => e 14 = .int .i64 0) 0 (by simp -dsimp only [↓bp, bq, br, seval, tbFlatN]; first | done | rfl) ?_ | refine loop_keep mixed (fun n e => e 11 = .int .i64 0) 0 (by simp -dsimp only [↓bp, bq, br, seval, tbFlatN]; first | done | rfl) ?_ | refine loop_keep mixed (fun n e => e 9 = .int .i64 0) 0 (by simp -dsimp only [↓bp, bq, br, seval, tbFlatN]; first | done | rfl) ?_ | refine loop_keep mixed (fun n e => e 6 = .int .i64 0) 0 (by simp -dsimp only [↓bp, bq, br, seval, tbFlatN]; first | done | rfl) ?_ | refine loop_keep mixed (fun n e => e 3 = .int .i64 0) 0 (by simp -dsimp only [↓bp, bq, br, seval, tbFlatN]; first | done | rfl) ?_); rintro n v h; simp -dsimp only [↓bp, bq, br, seval, tbFlatN] at h)) | refine wj ?_ | simp -dsimp only [↓bp, bq, br, seval, tbFlatN, *] | refine wz ?_ | fail)
theorem flatNodes_nil : Pure Tryz.prog G 106 [.nil] (.bool true) := by
 intro σ
 refine Tri.of_awp mixed Tryz.func106 rfl (by kernel_rfl) (by kernel_rfl) (by simp [Tryz.ntmps106]) Tryz.results106 ?_
 repeat' (first | refine xs ?_ ?_ <;> intros | (refine wn ?_; intro bx hbx; try simp only [fb] at hbx) | ((refine make_buf (σ0 := σ) tf92.2.2.2.2.2.2 (by omega) (by simp) (AS.le.refl σ) (fun v2 σ2 hB2 hx2 => ?_); have hle2 := hB2.le; clear hB2 hx2)) | (((first | refine loop_keep mixed (fun n e => e 14 = .int .i64 0) 0 (by simp -dsimp only [↓bp, bq, br, seval, tbFlatN]; first | done | rfl) ?_ | refine loop_keep mixed (fun n e => e 11 = .int .i64 0) 0 (by simp -dsimp only [↓bp, bq, br, seval, tbFlatN]; first | done | rfl) ?_ | refine loop_keep mixed (fun n e => e 9 = .int .i64 0) 0 (by simp -dsimp only [↓bp, bq, br, seval, tbFlatN]; first | done | rfl) ?_ | refine loop_keep mixed (fun n e => e 6 = .int .i64 0) 0 (by simp -dsimp only [↓bp, bq, br, seval, tbFlatN]; first | done | rfl) ?_ | refine loop_keep mixed (fun n e => e 3 = .int .i64 0) 0 (by simp -dsimp only [↓bp, bq, br, seval, tbFlatN]; first | done | rfl) ?_); rintro n v h; simp -dsimp only [↓bp, bq, br, seval, tbFlatN] at h)) | refine wj ?_ | simp -dsimp only [↓bp, bq, br, seval, tbFlatN, *] | refine wz ?_ | fail)
theorem flatCores_nil : Pure Tryz.prog G 107 [.nil] (.bool true) := by
 intro σ
 refine Tri.of_awp mixed Tryz.func107 rfl (by kernel_rfl) (by kernel_rfl) (by simp [Tryz.ntmps107]) Tryz.results107 ?_
 repeat' (first | refine xs ?_ ?_ <;> intros | (refine wn ?_; intro bx hbx; try simp only [fb] at hbx) | ((refine make_buf (σ0 := σ) tf93.2.2.2.2.2.2 (by omega) (by simp) (AS.le.refl σ) (fun v2 σ2 hB2 hx2 => ?_); have hle2 := hB2.le; clear hB2 hx2)) | (((first | refine loop_keep mixed (fun n e => e 14 = .int .i64 0) 0 (by simp -dsimp only [↓bp, bq, br, seval, tbFlatN]; first | done | rfl) ?_ | refine loop_keep mixed (fun n e => e 11 = .int .i64 0) 0 (by simp -dsimp only [↓bp, bq, br, seval, tbFlatN]; first | done | rfl) ?_ | refine loop_keep mixed (fun n e => e 9 = .int .i64 0) 0 (by simp -dsimp only [↓bp, bq, br, seval, tbFlatN]; first | done | rfl) ?_ | refine loop_keep mixed (fun n e => e 6 = .int .i64 0) 0 (by simp -dsimp only [↓bp, bq, br, seval, tbFlatN]; first | done | rfl) ?_ | refine loop_keep mixed (fun n e => e 3 = .int .i64 0) 0 (by simp -dsimp only [↓bp, bq, br, seval, tbFlatN]; first | done | rfl) ?_); rintro n v h; simp -dsimp only [↓bp, bq, br, seval, tbFlatN] at h)) | refine wj ?_ | simp -dsimp only [↓bp, bq, br, seval, tbFlatN, *] | refine wz ?_ | fail)
theorem flatFuncs_nil : Pure Tryz.prog G 108 [.nil] (.bool true) := by
 intro σ
 refine Tri.of_awp mixed Tryz.func108 rfl (by kernel_rfl) (by kernel_rfl) (by simp [Tryz.ntmps108]) Tryz.results108 ?_
 repeat' (first | refine xs ?_ ?_ <;> intros | (refine wn ?_; intro bx hbx; try simp only [fb] at hbx) | ((refine make_buf (σ0 := σ) tf94.2.2.2.2.2.2 (by omega) (by simp) (AS.le.refl σ) (fun v2 σ2 hB2 hx2 => ?_); have hle2 := hB2.le; clear hB2 hx2)) | (((first | refine loop_keep mixed (fun n e => e 14 = .int .i64 0) 0 (by simp -dsimp only [↓bp, bq, br, seval, tbFlatN]; first | done | rfl) ?_ | refine loop_keep mixed (fun n e => e 11 = .int .i64 0) 0 (by simp -dsimp only [↓bp, bq, br, seval, tbFlatN]; first | done | rfl) ?_ | refine loop_keep mixed (fun n e => e 9 = .int .i64 0) 0 (by simp -dsimp only [↓bp, bq, br, seval, tbFlatN]; first | done | rfl) ?_ | refine loop_keep mixed (fun n e => e 6 = .int .i64 0) 0 (by simp -dsimp only [↓bp, bq, br, seval, tbFlatN]; first | done | rfl) ?_ | refine loop_keep mixed (fun n e => e 3 = .int .i64 0) 0 (by simp -dsimp only [↓bp, bq, br, seval, tbFlatN]; first | done | rfl) ?_); rintro n v h; simp -dsimp only [↓bp, bq, br, seval, tbFlatN] at h)) | refine wj ?_ | simp -dsimp only [↓bp, bq, br, seval, tbFlatN, *] | refine wz ?_ | fail)
theorem flatPrograms_nil : Pure Tryz.prog G 109 [.nil] (.bool true) := by
 intro σ
 refine Tri.of_awp mixed Tryz.func109 rfl (by kernel_rfl) (by kernel_rfl) (by simp [Tryz.ntmps109]) Tryz.results109 ?_
 repeat' (first | refine xs ?_ ?_ <;> intros | (refine wn ?_; intro bx hbx; try simp only [fb] at hbx) | ((refine make_buf (σ0 := σ) tf95.2.2.2.2.2.2 (by omega) (by simp) (AS.le.refl σ) (fun v2 σ2 hB2 hx2 => ?_); have hle2 := hB2.le; clear hB2 hx2)) | (((first | refine loop_keep mixed (fun n e => e 14 = .int .i64 0) 0 (by simp -dsimp only [↓bp, bq, br, seval, tbFlatN]; first | done | rfl) ?_ | refine loop_keep mixed (fun n e => e 11 = .int .i64 0) 0 (by simp -dsimp only [↓bp, bq, br, seval, tbFlatN]; first | done | rfl) ?_ | refine loop_keep mixed (fun n e => e 9 = .int .i64 0) 0 (by simp -dsimp only [↓bp, bq, br, seval, tbFlatN]; first | done | rfl) ?_ | refine loop_keep mixed (fun n e => e 6 = .int .i64 0) 0 (by simp -dsimp only [↓bp, bq, br, seval, tbFlatN]; first | done | rfl) ?_ | refine loop_keep mixed (fun n e => e 3 = .int .i64 0) 0 (by simp -dsimp only [↓bp, bq, br, seval, tbFlatN]; first | done | rfl) ?_); rintro n v h; simp -dsimp only [↓bp, bq, br, seval, tbFlatN] at h)) | refine wj ?_ | simp -dsimp only [↓bp, bq, br, seval, tbFlatN, *] | refine wz ?_ | fail)
theorem flatInstrs_nil : Pure Tryz.prog G 110 [.nil] (.bool true) := by
 intro σ
 refine Tri.of_awp mixed Tryz.func110 rfl (by kernel_rfl) (by kernel_rfl) (by simp [Tryz.ntmps110]) Tryz.results110 ?_
 repeat' (first | refine xs ?_ ?_ <;> intros | (refine wn ?_; intro bx hbx; try simp only [fb] at hbx) | ((refine make_buf (σ0 := σ) tf96.2.2.2.2.2.2 (by omega) (by simp) (AS.le.refl σ) (fun v2 σ2 hB2 hx2 => ?_); have hle2 := hB2.le; clear hB2 hx2)) | (((first | refine loop_keep mixed (fun n e => e 14 = .int .i64 0) 0 (by simp -dsimp only [↓bp, bq, br, seval, tbFlatN]; first | done | rfl) ?_ | refine loop_keep mixed (fun n e => e 11 = .int .i64 0) 0 (by simp -dsimp only [↓bp, bq, br, seval, tbFlatN]; first | done | rfl) ?_ | refine loop_keep mixed (fun n e => e 9 = .int .i64 0) 0 (by simp -dsimp only [↓bp, bq, br, seval, tbFlatN]; first | done | rfl) ?_ | refine loop_keep mixed (fun n e => e 6 = .int .i64 0) 0 (by simp -dsimp only [↓bp, bq, br, seval, tbFlatN]; first | done | rfl) ?_ | refine loop_keep mixed (fun n e => e 3 = .int .i64 0) 0 (by simp -dsimp only [↓bp, bq, br, seval, tbFlatN]; first | done | rfl) ?_); rintro n v h; simp -dsimp only [↓bp, bq, br, seval, tbFlatN] at h)) | refine wj ?_ | simp -dsimp only [↓bp, bq, br, seval, tbFlatN, *] | refine wz ?_ | fail)
theorem flatEntries_nil : Pure Tryz.prog G 111 [.nil] (.bool true) := by
 intro σ
 refine Tri.of_awp mixed Tryz.func111 rfl (by kernel_rfl) (by kernel_rfl) (by simp [Tryz.ntmps111]) Tryz.results111 ?_
 repeat' (first | refine xs ?_ ?_ <;> intros | (refine wn ?_; intro bx hbx; try simp only [fb] at hbx) | ((refine make_buf (σ0 := σ) tf97.2.2.2.2.2.2 (by omega) (by simp) (AS.le.refl σ) (fun v2 σ2 hB2 hx2 => ?_); have hle2 := hB2.le; clear hB2 hx2)) | (((first | refine loop_keep mixed (fun n e => e 14 = .int .i64 0) 0 (by simp -dsimp only [↓bp, bq, br, seval, tbFlatN]; first | done | rfl) ?_ | refine loop_keep mixed (fun n e => e 11 = .int .i64 0) 0 (by simp -dsimp only [↓bp, bq, br, seval, tbFlatN]; first | done | rfl) ?_ | refine loop_keep mixed (fun n e => e 9 = .int .i64 0) 0 (by simp -dsimp only [↓bp, bq, br, seval, tbFlatN]; first | done | rfl) ?_ | refine loop_keep mixed (fun n e => e 6 = .int .i64 0) 0 (by simp -dsimp only [↓bp, bq, br, seval, tbFlatN]; first | done | rfl) ?_ | refine loop_keep mixed (fun n e => e 3 = .int .i64 0) 0 (by simp -dsimp only [↓bp, bq, br, seval, tbFlatN]; first | done | rfl) ?_); rintro n v h; simp -dsimp only [↓bp, bq, br, seval, tbFlatN] at h)) | refine wj ?_ | simp -dsimp only [↓bp, bq, br, seval, tbFlatN, *] | refine wz ?_ | fail)
theorem flatCodes_nil : Pure Tryz.prog G 112 [.nil] (.bool true) := by
 intro σ
 refine Tri.of_awp mixed Tryz.func112 rfl (by kernel_rfl) (by kernel_rfl) (by simp [Tryz.ntmps112]) Tryz.results112 ?_
 repeat' (first | refine xs ?_ ?_ <;> intros | (refine wn ?_; intro bx hbx; try simp only [fb] at hbx) | ((refine make_buf (σ0 := σ) tf98.2.2.2.2.2.2 (by omega) (by simp) (AS.le.refl σ) (fun v2 σ2 hB2 hx2 => ?_); have hle2 := hB2.le; clear hB2 hx2)) | (((first | refine loop_keep mixed (fun n e => e 14 = .int .i64 0) 0 (by simp -dsimp only [↓bp, bq, br, seval, tbFlatN]; first | done | rfl) ?_ | refine loop_keep mixed (fun n e => e 11 = .int .i64 0) 0 (by simp -dsimp only [↓bp, bq, br, seval, tbFlatN]; first | done | rfl) ?_ | refine loop_keep mixed (fun n e => e 9 = .int .i64 0) 0 (by simp -dsimp only [↓bp, bq, br, seval, tbFlatN]; first | done | rfl) ?_ | refine loop_keep mixed (fun n e => e 6 = .int .i64 0) 0 (by simp -dsimp only [↓bp, bq, br, seval, tbFlatN]; first | done | rfl) ?_ | refine loop_keep mixed (fun n e => e 3 = .int .i64 0) 0 (by simp -dsimp only [↓bp, bq, br, seval, tbFlatN]; first | done | rfl) ?_); rintro n v h; simp -dsimp only [↓bp, bq, br, seval, tbFlatN] at h)) | refine wj ?_ | simp -dsimp only [↓bp, bq, br, seval, tbFlatN, *] | refine wz ?_ | fail)
theorem flatSteps_nil : Pure Tryz.prog G 113 [.nil] (.bool true) := by
 intro σ
 refine Tri.of_awp mixed Tryz.func113 rfl (by kernel_rfl) (by kernel_rfl) (by simp [Tryz.ntmps113]) Tryz.results113 ?_
 repeat' (first | refine xs ?_ ?_ <;> intros | (refine wn ?_; intro bx hbx; try simp only [fb] at hbx) | ((refine make_buf (σ0 := σ) tf99.2.2.2.2.2.2 (by omega) (by simp) (AS.le.refl σ) (fun v2 σ2 hB2 hx2 => ?_); have hle2 := hB2.le; clear hB2 hx2)) | (((first | refine loop_keep mixed (fun n e => e 14 = .int .i64 0) 0 (by simp -dsimp only [↓bp, bq, br, seval, tbFlatN]; first | done | rfl) ?_ | refine loop_keep mixed (fun n e => e 11 = .int .i64 0) 0 (by simp -dsimp only [↓bp, bq, br, seval, tbFlatN]; first | done | rfl) ?_ | refine loop_keep mixed (fun n e => e 9 = .int .i64 0) 0 (by simp -dsimp only [↓bp, bq, br, seval, tbFlatN]; first | done | rfl) ?_ | refine loop_keep mixed (fun n e => e 6 = .int .i64 0) 0 (by simp -dsimp only [↓bp, bq, br, seval, tbFlatN]; first | done | rfl) ?_ | refine loop_keep mixed (fun n e => e 3 = .int .i64 0) 0 (by simp -dsimp only [↓bp, bq, br, seval, tbFlatN]; first | done | rfl) ?_); rintro n v h; simp -dsimp only [↓bp, bq, br, seval, tbFlatN] at h)) | refine wj ?_ | simp -dsimp only [↓bp, bq, br, seval, tbFlatN, *] | refine wz ?_ | fail)
theorem flatEndeds_nil : Pure Tryz.prog G 114 [.nil] (.bool true) := by
 intro σ
 refine Tri.of_awp mixed Tryz.func114 rfl (by kernel_rfl) (by kernel_rfl) (by simp [Tryz.ntmps114]) Tryz.results114 ?_
 repeat' (first | refine xs ?_ ?_ <;> intros | (refine wn ?_; intro bx hbx; try simp only [fb] at hbx) | ((refine make_buf (σ0 := σ) tf100.2.2.2.2.2.2 (by omega) (by simp) (AS.le.refl σ) (fun v2 σ2 hB2 hx2 => ?_); have hle2 := hB2.le; clear hB2 hx2)) | (((first | refine loop_keep mixed (fun n e => e 14 = .int .i64 0) 0 (by simp -dsimp only [↓bp, bq, br, seval, tbFlatN]; first | done | rfl) ?_ | refine loop_keep mixed (fun n e => e 11 = .int .i64 0) 0 (by simp -dsimp only [↓bp, bq, br, seval, tbFlatN]; first | done | rfl) ?_ | refine loop_keep mixed (fun n e => e 9 = .int .i64 0) 0 (by simp -dsimp only [↓bp, bq, br, seval, tbFlatN]; first | done | rfl) ?_ | refine loop_keep mixed (fun n e => e 6 = .int .i64 0) 0 (by simp -dsimp only [↓bp, bq, br, seval, tbFlatN]; first | done | rfl) ?_ | refine loop_keep mixed (fun n e => e 3 = .int .i64 0) 0 (by simp -dsimp only [↓bp, bq, br, seval, tbFlatN]; first | done | rfl) ?_); rintro n v h; simp -dsimp only [↓bp, bq, br, seval, tbFlatN] at h)) | refine wj ?_ | simp -dsimp only [↓bp, bq, br, seval, tbFlatN, *] | refine wz ?_ | fail)
theorem flatNameds_nil : Pure Tryz.prog G 115 [.nil] (.bool true) := by
 intro σ
 refine Tri.of_awp mixed Tryz.func115 rfl (by kernel_rfl) (by kernel_rfl) (by simp [Tryz.ntmps115]) Tryz.results115 ?_
 repeat' (first | refine xs ?_ ?_ <;> intros | (refine wn ?_; intro bx hbx; try simp only [fb] at hbx) | ((refine make_buf (σ0 := σ) tf101.2.2.2.2.2.2 (by omega) (by simp) (AS.le.refl σ) (fun v2 σ2 hB2 hx2 => ?_); have hle2 := hB2.le; clear hB2 hx2)) | (((first | refine loop_keep mixed (fun n e => e 14 = .int .i64 0) 0 (by simp -dsimp only [↓bp, bq, br, seval, tbFlatN]; first | done | rfl) ?_ | refine loop_keep mixed (fun n e => e 11 = .int .i64 0) 0 (by simp -dsimp only [↓bp, bq, br, seval, tbFlatN]; first | done | rfl) ?_ | refine loop_keep mixed (fun n e => e 9 = .int .i64 0) 0 (by simp -dsimp only [↓bp, bq, br, seval, tbFlatN]; first | done | rfl) ?_ | refine loop_keep mixed (fun n e => e 6 = .int .i64 0) 0 (by simp -dsimp only [↓bp, bq, br, seval, tbFlatN]; first | done | rfl) ?_ | refine loop_keep mixed (fun n e => e 3 = .int .i64 0) 0 (by simp -dsimp only [↓bp, bq, br, seval, tbFlatN]; first | done | rfl) ?_); rintro n v h; simp -dsimp only [↓bp, bq, br, seval, tbFlatN] at h)) | refine wj ?_ | simp -dsimp only [↓bp, bq, br, seval, tbFlatN, *] | refine wz ?_ | fail)
theorem flatSeens_nil : Pure Tryz.prog G 116 [.nil] (.bool true) := by
 intro σ
 refine Tri.of_awp mixed Tryz.func116 rfl (by kernel_rfl) (by kernel_rfl) (by simp [Tryz.ntmps116]) Tryz.results116 ?_
 repeat' (first | refine xs ?_ ?_ <;> intros | (refine wn ?_; intro bx hbx; try simp only [fb] at hbx) | ((refine make_buf (σ0 := σ) tf102.2.2.2.2.2.2 (by omega) (by simp) (AS.le.refl σ) (fun v2 σ2 hB2 hx2 => ?_); have hle2 := hB2.le; clear hB2 hx2)) | (((first | refine loop_keep mixed (fun n e => e 14 = .int .i64 0) 0 (by simp -dsimp only [↓bp, bq, br, seval, tbFlatN]; first | done | rfl) ?_ | refine loop_keep mixed (fun n e => e 11 = .int .i64 0) 0 (by simp -dsimp only [↓bp, bq, br, seval, tbFlatN]; first | done | rfl) ?_ | refine loop_keep mixed (fun n e => e 9 = .int .i64 0) 0 (by simp -dsimp only [↓bp, bq, br, seval, tbFlatN]; first | done | rfl) ?_ | refine loop_keep mixed (fun n e => e 6 = .int .i64 0) 0 (by simp -dsimp only [↓bp, bq, br, seval, tbFlatN]; first | done | rfl) ?_ | refine loop_keep mixed (fun n e => e 3 = .int .i64 0) 0 (by simp -dsimp only [↓bp, bq, br, seval, tbFlatN]; first | done | rfl) ?_); rintro n v h; simp -dsimp only [↓bp, bq, br, seval, tbFlatN] at h)) | refine wj ?_ | simp -dsimp only [↓bp, bq, br, seval, tbFlatN, *] | refine wz ?_ | fail)
end
section
structure LeX (S : Nat -> Prop) (σ σ' : AS) : Prop where
 box : ∀ b cs, ¬ S b -> σ.box b = some cs -> σ'.box b = some cs
 tip : ∀ b x, σ.tip b = some x -> σ'.tip b = some x
 ty : ∀ b x, σ.ty b = some x -> σ'.ty b = some x
theorem LeX.refl (S : Nat -> Prop) (σ : AS) : LeX S σ σ := ⟨fun _ _ _ h => h, fun _ _ h => h, fun _ _ h => h⟩
theorem LeX.set_in {S : Nat -> Prop} {σ σ' : AS} (h : LeX S σ σ') {b : Nat} (hb : S b) (cs : List AV) : LeX S σ (σ'.setBox b cs) :=
 ⟨fun i ds hi hd => by
   have hne : i ≠ b := fun e => hi (e ▸ hb)
   simp only [AS.setBox, if_neg hne]; exact h.box i ds hi hd, h.tip, h.ty⟩
theorem LeX.set_new {S : Nat -> Prop} {σ σ' : AS} (h : LeX S σ σ') {b : Nat} (hb : σ.box b = none) (cs : List AV) : LeX S σ (σ'.setBox b cs) :=
 ⟨fun i ds hi hd => by
   have hne : i ≠ b := fun e => by subst e; rw [hb] at hd; cases hd
   simp only [AS.setBox, if_neg hne]; exact h.box i ds hi hd, h.tip, h.ty⟩
theorem LeX.set_fresh {S : Nat -> Prop} {σ σ' : AS} (h : LeX S σ σ') {b : Nat} (hb : σ'.fresh b) (cs : List AV) : LeX S σ (σ'.setBox b cs) :=
 ⟨fun i ds hi hd => by
   have h1 := h.box i ds hi hd
   have hne : i ≠ b := fun e => by subst e; rw [hb.1] at h1; cases h1
   simp only [AS.setBox, if_neg hne]; exact h1, h.tip, h.ty⟩
theorem LeX.trans {S : Nat -> Prop} {a b c : AS} (h : LeX S a b) (k : LeX S b c) : LeX S a c :=
 ⟨fun i cs hi hd => k.box i cs hi (h.box i cs hi hd), fun i x hx => k.tip i x (h.tip i x hx), fun i x hx => k.ty i x (h.ty i x hx)⟩
abbrev Row := Option (Nat × Nat)
def rlen : Row -> Nat
 | none => 0
 | some (_, n) => n
def rowA (s : Nat) (E : TypeId) : Row -> AV
 | none => .nil
 | some (b, n) => .bs b n s E
theorem isv_rowA (s : Nat) (E : TypeId) (r : Row) : isv (rowA s E r) = true := by cases r <;> rfl
theorem flat_rowA (s : Nat) (E : TypeId) (r : Row) : flat (rowA s E r) = [rowA s E r] := by cases r <;> rfl
def InS (rs : List Row) (b : Nat) : Prop := ∃ n, some (b, n) ∈ rs
def Distinct (rs : List Row) : Prop := ∀ (i j : Nat) (b n m : Nat), rs[i]? = some (some (b, n)) -> rs[j]? = some (some (b, m)) -> i = j
def cells (mk : Int -> Int -> AV) (k n : Nat) : List AV := (List.range n).flatMap fun (i : Nat) => flat (mk k i)
theorem cells_succ (mk : Int -> Int -> AV) (k n : Nat) : cells mk k (n + 1) = cells mk k n ++ flat (mk k n) := by simp [cells, List.range_succ]
theorem cells_len {mk : Int -> Int -> AV} {s : Nat} (h : ∀ k i, (flat (mk k i)).length = s) (k n : Nat) : (cells mk k n).length = n * s := by
 induction n with
 | zero => simp [cells]
 | succ n ih => rw [cells_succ, List.length_append, ih, h, Nat.add_mul, Nat.one_mul]
def Pre (σ : AS) (b : Nat) (l : List AV) (n : Nat) : Prop := ∃ cs, σ.box b = some cs /\ l <+: cs /\ n <= cs.length
theorem Pre.other {σ : AS} {b c : Nat} {l ds : List AV} {n : Nat} (h : Pre σ b l n) (hne : b ≠ c) : Pre (σ.setBox c ds) b l n := by
 obtain ⟨cs, h1, h2, h3⟩ := h
 exact ⟨cs, by simp only [AS.setBox, if_neg hne]; exact h1, h2, h3⟩
theorem Pre.new {σ : AS} {b c : Nat} {l ds : List AV} {n : Nat} (h : Pre σ b l n) (hc : σ.box c = none) : Pre (σ.setBox c ds) b l n := by
 refine h.other fun e => ?_
 subst e
 obtain ⟨cs, h1, _⟩ := h
 rw [hc] at h1; cases h1
theorem Pre.le {σ σ' : AS} {b : Nat} {l : List AV} {n : Nat} (h : Pre σ b l n) (hle : σ.le σ') : Pre σ' b l n := by
 obtain ⟨cs, h1, h2⟩ := h
 exact ⟨cs, hle.box _ _ h1, h2⟩
theorem pre_take {l cs : List AV} (h : l <+: cs) : cs.take l.length = l := (List.prefix_iff_eq_take.1 h).symm
theorem pre_step {mk : Int -> Int -> AV} {s : Nat} (hs : ∀ k i, (flat (mk k i)).length = s) {k i : Nat} {cs : List AV} (h : cells mk k i <+: cs) (hl : (i + 1) * s <= cs.length) :
  cells mk k (i + 1) <+: cs.take (i * s) ++ flat (mk k i) ++ cs.drop (i * s + s) /\ (cs.take (i * s) ++ flat (mk k i) ++ cs.drop (i * s + s)).length = cs.length := by
 have e : cs.take (i * s) = cells mk k i := by
  have := pre_take h
  rwa [cells_len hs] at this
 have hm : (i + 1) * s = i * s + s := by rw [Nat.add_mul, Nat.one_mul]
 constructor
 ·rw [e, cells_succ]
  exact List.prefix_append _ _
 ·simp only [List.length_append, List.length_take, List.length_drop, hs]
  omega
def Marked (mk : Int -> Int -> AV) (s : Nat) (rs : List Row) (σ : AS) (k : Nat) : Prop :=
 ∀ (j b n : Nat), rs[j]? = some (some (b, n)) -> Pre σ b (if j < k then cells mk j n else []) (n * s)
theorem Marked.other {mk : Int -> Int -> AV} {s : Nat} {rs : List Row} {σ : AS} {k : Nat} (h : Marked mk s rs σ k) {c : Nat} (hc : ¬ InS rs c) (ds : List AV) : Marked mk s rs (σ.setBox c ds) k := fun j b n hj =>
 (h j b n hj).other fun e => hc (by subst e; exact ⟨n, List.mem_of_getElem? hj⟩)
theorem Marked.fresh {mk : Int -> Int -> AV} {s : Nat} {rs : List Row} {σ : AS} {k : Nat} (h : Marked mk s rs σ k) {c : Nat} (hc : σ.box c = none) (ds : List AV) : Marked mk s rs (σ.setBox c ds) k := fun j b n hj => (h j b n hj).new hc
theorem Marked.notIn {mk : Int -> Int -> AV} {s : Nat} {rs : List Row} {σ : AS} {k : Nat} (h : Marked mk s rs σ k) {c : Nat} (hc : σ.box c = none) : ¬ InS rs c := by
 rintro ⟨n, hn⟩
 obtain ⟨j, hj⟩ := List.getElem?_of_mem hn
 obtain ⟨cs, h1, _⟩ := h j c n hj
 rw [hc] at h1; cases h1
theorem Marked.set {mk : Int -> Int -> AV} {s : Nat} {rs : List Row} (hd : Distinct rs) {σ : AS} {k k' b n : Nat} (h : Marked mk s rs σ k) (hk : rs[k']? = some (some (b, n))) {ds : List AV} (h1 : (if k' < k then cells mk k' n else []) <+: ds) (h2 : n * s <= ds.length) : Marked mk s rs (σ.setBox b ds) k := by
 intro j c m hj
 by_cases e : c = b
 ·subst e
  obtain rfl := hd j k' c m n hj hk
  rw [hk] at hj
  cases hj
  exact ⟨ds, by simp [AS.setBox], h1, h2⟩
 ·exact (h j c m hj).other e
theorem Marked.next {mk : Int -> Int -> AV} {s : Nat} {rs : List Row} {σ : AS} {k : Nat} (h : Marked mk s rs σ k) (hk : ∀ b n, rs[k]? = some (some (b, n)) -> Pre σ b (cells mk k n) (n * s)) : Marked mk s rs σ (k + 1) := by
 intro j b n hj
 by_cases e : j = k
 ·subst e
  rw [if_pos (by omega)]
  exact hk b n hj
 ·have := h j b n hj
  by_cases e2 : j < k
  ·rw [if_pos e2] at this; rw [if_pos (by omega)]; exact this
  ·rw [if_neg e2] at this; rw [if_neg (by omega)]; exact this
end
end Go.Proofs.YtjmdaeabllkgnaaGreatDoor
