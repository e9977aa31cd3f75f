/- The kit's copies of names, and of what is seen, with marks in their spare room; whether they are as they were. -/
import Derived.Test.YtphnoaihojccbaaGreatDoorZ05
import Derived.Test.YtphnoaihojccbaaGreatDoorZ04
import Derived.Test.YtphnoaihojccbaaGreatDoorZ10
import Derived.Test.YtphnoaihojccbaaGreatDoorZ06
import Derived.Test.YtphnoaihojccbaaGreatDoorZ07
set_option linter.unusedVariables false
set_option linter.unusedSimpArgs false
set_option maxRecDepth 20000
set_option linter.defProp false
namespace Go.Proofs.YtphnoaihojccbaaGreatDoor
open Go Go.Av
section
def tbSeenLent2 := And.intro (And.intro (And.intro (And.intro (And.intro @tf3 @tf4) (And.intro @tf5 (And.intro @tf85 @tf9))) (And.intro (And.intro @tf40 @tf39) (And.intro @tf22 (And.intro @tf42 @tf23)))) (And.intro (And.intro (And.intro @tf44 @tf24) (And.intro @tf46 (And.intro @tf26 @Term.flat_enc))) (And.intro (And.intro @Term.isv_enc (And.intro @Term.fold_enc @isv_encs)) (And.intro @flat_encs (And.intro @len_encs @ix_encs))))) (And.intro (And.intro (And.intro (And.intro @isv_lims @flat_lims) (And.intro @len_lims (And.intro @ix_lims @flat_limA))) (And.intro (And.intro @Ended.flat_enc (And.intro @Ended.isv_enc @Ended.fold_enc)) (And.intro @Named.flat_enc (And.intro @Named.isv_enc @Named.fold_enc)))) (And.intro (And.intro (And.intro @Seen.flat_enc @Seen.isv_enc) (And.intro @Seen.fold_enc (And.intro @isv_encE @flat_encE))) (And.intro (And.intro @len_encE (And.intro @ix_encE @isv_encN)) (And.intro @flat_encN (And.intro @len_encN @ix_encN)))))
variable (G : Nat → AV)
def mkN (k i : Int) : Named := ⟨[], markI k i⟩
theorem mkN_pure (k i : Int) : Pure Tryz.prog G 48 [.int .i64 k, .int .i64 i] (mkN k i).enc := by
  have e : (mkN k i).enc = .agg [.str [], .int .i64 (markI k i)] := rfl
  rw [e]
  intro σ
  refine Tri.of_awp mixed Tryz.func48 rfl (by kernel_rfl) (by kernel_rfl) (by simp [Tryz.ntmps48]) Tryz.results48 ?_
  repeat' (first | refine xs ?_ ?_ <;> intros | ((first | refine xh ?_ | refine xi ?_); intro bx hbx; (try simp only [fb] at hbx)) | refine Pure.use (by apply mark_pure <;> (first | assumption | omega | (simp only [*]; done))) ?_ | refine xj ?_ | ((with_reducible refine And.intro ?_ ?_); omega) | refine bo_buildSlice (d' := ⟨⟩) ?_ | refine xk (by kernel_rfl) ?_ | refine xf ?_ (by repeat' first | exact lr _ | assumption | refine ls ?_ ?_ | refine lt ?_ ?_ | simp only [*]; done | exact lf ‹_› (by simp only [*])) | simp -dsimp only [↓bp, bq, br, seval, tbSeenLent2, *])
  all_goals rfl
theorem eqlN (x : Named) : abin Tryz.prog .eql 46 x.enc x.enc = some (.bool true) := by
  have e : fldEq [.str, .int .i64] [.str x.name, .int .i64 x.pid] [.str x.name, .int .i64 x.pid] = some (decide (x.name = x.name) && (decide (x.pid = x.pid) && true)) := by
    rw [fe_str, fe_int, fe_nil]; rfl
  unfold Named.enc
  rw [abin_agg, eqK_named]
  simp only [Option.bind_some, e]
  simp [aeq]
def marksToN (k i : Nat) : List AV := (List.range i).map fun (i : Nat) => (mkN k (i : Int)).enc
theorem marksToN_succ (k i : Nat) : marksToN k (i + 1) = marksToN k i ++ [(mkN k (i : Int)).enc] := by simp [marksToN, List.range_succ]
theorem marksToN_len (k i : Nat) : (marksToN k i).length = i := by simp [marksToN]
def marksN : List AV := marksToN 1 12
def lentsN (l : List Named) : AV := .sl .none (l.map Named.enc) marksN
theorem isv_lentsN (l : List Named) : isv (lentsN l) = true := rfl
theorem flat_lentsN (l : List Named) : flat (lentsN l) = [lentsN l] := rfl
theorem lentsN_le (l : List Named) : Le (lentsN l) (encN l) := Le.spare
theorem flatN_l {l : List Named} : ∀ a, a ∈ l.map Named.enc → (flat a).length = 2 := fun a ha => by
  obtain ⟨x, _, rfl⟩ := List.mem_map.1 ha
  rw [x.flat_enc]; rfl
theorem tlNN : aelt Tryz.prog 24 = some (46, 2, 24) := tf24.2.2.2.2.2.2
theorem tlNE : el Tryz.prog 24 = some 46 := tf24.2.2.2.1
set_option maxHeartbeats 1000000 in
theorem lentsN_pure (l : List Named) (hl : l.length ≤ 1000000000) : Pure Tryz.prog G 23 [encN l] (lentsN l) := by
  refine Pure.of_le fun σ => ?_
  have hw0 : IntKind.i64.wrap ((l.length : Int) + 12) = l.length + 12 := wrap_nat (by omega) (by omega)
  have has : asrc Tryz.prog 24 (encN l) = some (l.map Named.enc) := asrc_sl tlNE
  refine Tri.of_awp mixed Tryz.func23 rfl (by kernel_rfl) (by kernel_rfl) (by simp [Tryz.ntmps23]) Tryz.results23 ?_
  simp -dsimp only [↓bp, bq, br, seval, tbSeenLent2, hw0]
  refine make_buf tlNN (by omega) (by omega) (AS.le.refl σ) (fun v σ1 hB1 hx1 => ?_)
  repeat' (first | refine xs ?_ ?_ <;> intros | ((first | refine xh ?_ | refine xi ?_); intro bx hbx; (try simp only [fb] at hbx)) | (refine app_buf (ys := l.map Named.enc) hB1 tlNN has flatN_l (by simp only [List.length_map, List.length_nil]; omega) (fun v2 σ2 hB2 hx2 => ?_)) | refine xj ?_ | ((with_reducible refine And.intro ?_ ?_); omega) | refine bo_buildSlice (d' := ⟨⟩) ?_ | refine xk (by kernel_rfl) ?_ | refine xf ?_ (by repeat' first | exact lr _ | assumption | refine ls ?_ ?_ | refine lt ?_ ?_ | simp only [*]; done | exact lf ‹_› (by simp only [*])) | simp -dsimp only [↓bp, bq, br, seval, tbSeenLent2, *])
  rw [List.nil_append] at hB2
  refine loop_intro (fun n e σ' => ∃ (i : Nat) (v : AV), i ≤ 12 ∧ n = 12 - i ∧ e 4 = .int .i64 i ∧ e 3 = v ∧ Buf 2 σ σ' v (l.map Named.enc ++ marksToN 1 i)) 12
    ⟨0, v2, by omega, by omega, by first | (simp -dsimp only [↓bp, bq, br, seval, tbSeenLent2]; done) | (simp -dsimp only [↓bp, bq, br, seval, tbSeenLent2]; try rfl), by first | (simp -dsimp only [↓bp, bq, br, seval, tbSeenLent2]; done) | (simp -dsimp only [↓bp, bq, br, seval, tbSeenLent2]; try rfl), by simpa [marksToN] using hB2⟩ ?_
  clear hB1 hB2 has
  rintro n e2 σ3 ⟨i, v3, hi2, rfl, h6, h3', hB3⟩
  simp -dsimp only [↓bp, bq, br, seval, tbSeenLent2] at h6 h3'
  by_cases hlt : (i : Int) < 12
  · have hp := mkN_pure G 1 i
    have hlt2 := eq_true hlt
    have hwi : IntKind.i64.wrap ((i : Int) + 1) = ((i + 1 : Nat) : Int) := by rw [wrap_nat (by omega) (by omega)]; rfl
    have hlen : (l.map Named.enc ++ marksToN 1 i).length ≤ 1000000012 := by rw [List.length_append, List.length_map, marksToN_len]; omega
    repeat' (first | refine xs ?_ ?_ <;> intros | ((first | refine xh ?_ | refine xi ?_); intro bx hbx; (try simp only [fb] at hbx)) | refine Pure.use (hp) ?_ | refine Pure.head (hp) ?_ | (refine build_one tlNN (Named.isv_enc _) (by rw [Named.flat_enc]; rfl) (by omega) ?_) | (refine app_buf (ys := [(mkN 1 (i : Int)).enc]) hB3 tlNN (asrc_sl tlNE) (fun a ha => by simp at ha; subst ha; rw [Named.flat_enc]; rfl) (by simp only [List.length_cons, List.length_nil]; omega) (fun v4 σ4 hB4 hx4 => ?_)) | refine xj ?_ | ((with_reducible refine And.intro ?_ ?_); omega) | refine bo_buildSlice (d' := ⟨⟩) ?_ | refine xk (by kernel_rfl) ?_ | refine xf ?_ (by repeat' first | exact lr _ | assumption | refine ls ?_ ?_ | refine lt ?_ ?_ | simp only [*]; done | exact lf ‹_› (by simp only [*])) | simp -dsimp only [↓bp, bq, br, seval, tbSeenLent2, *])
    all_goals exact ⟨12 - (i + 1), by omega, i + 1, v4, by omega, rfl, rfl, rfl, by rw [marksToN_succ, ← List.append_assoc]; exact hB4⟩
  · have : i = 12 := by omega
    subst this
    have hlt2 : (((12 : Nat) : Int) < 12) = False := by simp
    rcases hB3.isNil with ⟨hn, _⟩ | ⟨b, hb⟩
    · have := congrArg List.length hn; simp [marksToN_len] at this
    · subst hb
      repeat' (first | refine xs ?_ ?_ <;> intros | ((first | refine xh ?_ | refine xi ?_); intro bx hbx; (try simp only [fb] at hbx)) | refine xj ?_ | ((with_reducible refine And.intro ?_ ?_); omega) | refine bo_buildSlice (d' := ⟨⟩) ?_ | refine xk (by kernel_rfl) ?_ | refine xf ?_ (by repeat' first | exact lr _ | assumption | refine ls ?_ ?_ | refine lt ?_ ?_ | simp only [*]; done | exact lf ‹_› (by simp only [*])) | simp -dsimp only [↓bp, bq, br, seval, tbSeenLent2, *])
      refine piece (l := 0) (h := l.length) tlNE tf46.1 rfl (by simp [abnd]) (by omega) (by simp) (fun a ha => ?_) (fun g' => ?_)
      · rw [List.append_nil] at ha
        cases hB3 with
        | own _ _ _ _ _ hx => exact hx a ha
      · simp -dsimp only [↓bp, bq, br, seval, tbSeenLent2, h6, h3']
        refine finish_le ?_ hB3.le
        have e1 : (l.map Named.enc ++ marksToN 1 12).take l.length = l.map Named.enc := by
          rw [List.take_append_of_le_length (by simp), List.take_of_length_le (by simp)]
        have e2 : (l.map Named.enc ++ marksToN 1 12).drop l.length = marksN := by
          rw [List.drop_append_of_le_length (by simp), List.drop_eq_nil_of_le (by simp)]; rfl
        rw [e1, e2]
        exact Le.gh
theorem sl_lentsN {t : TypeId} (l : List Named) (h : Int) (hh : h = l.length + 12) (ht : t = 24) {K : AV → Prop} {d : Dum K} (hK : ∀ g, K (.sl g (l.map Named.enc ++ marksN) [])) : bo (aslice Tryz.prog t (lentsN l) none (some (.int .i64 h))) K d := by
  subst hh ht
  refine piece (l := 0) (h := l.length + 12) tlNE tf46.1 rfl (by simp [abnd]; omega) (by omega) (by simp [marksN, marksToN_len]) (fun a ha => ?_) (fun g' => ?_)
  · rcases List.mem_append.1 ha with ha | ha
    · exact flatN_l a ha
    · obtain ⟨i, _, rfl⟩ := List.mem_map.1 ha
      rw [Named.flat_enc]; rfl
  · have e1 : ((l.map Named.enc ++ marksN).take (l.length + 12)).drop 0 = l.map Named.enc ++ marksN := by
      rw [List.drop_zero, List.take_of_length_le (by simp [marksN, marksToN_len])]
    have e2 : (l.map Named.enc ++ marksN).drop (l.length + 12) = [] := List.drop_eq_nil_of_le (by simp [marksN, marksToN_len])
    rw [e1, e2]
    have hml : marksN.length = 12 := by simp [marksN, marksToN_len]
    unfold slim
    split
    · rename_i heq _
      have h2 : marksN = [] := by injection heq
      rw [h2] at hml
      cases hml
    · exact hK g'
theorem sl_lentsN_len {P : Program} {t : TypeId} (l : List Named) : ablt P .len #[t] [lentsN l] = if (el P t).isSome then some (.int .i64 l.length) else none := by
  simp [lentsN, l_sl]
set_option maxHeartbeats 1000000 in
theorem keptsN_pure (l : List Named) (hl : l.length ≤ 1000000000) : Pure Tryz.prog G 40 [lentsN l, encN l] (.bool true) := by
  intro σ
  have hw0 : IntKind.i64.wrap ((l.length : Int) + 12) = l.length + 12 := wrap_nat (by omega) (by omega)
  have hml : marksN.length = 12 := by simp [marksN, marksToN_len]
  refine Tri.of_awp mixed Tryz.func40 rfl (by kernel_rfl) (by kernel_rfl) (by simp [Tryz.ntmps40]) Tryz.results40 ?_
  simp -dsimp only [↓bp, bq, br, seval, tbSeenLent2, hw0, sl_lentsN_len]
  refine sl_lentsN l _ rfl rfl fun g => ?_
  simp -dsimp only [↓bp, bq, br, seval, tbSeenLent2]
  refine loop_intro (fun n e σ' => ∃ i : Nat, i ≤ ((l.map Named.enc ++ marksN)).length ∧ n = ((l.map Named.enc ++ marksN)).length - i ∧ e 6 = .int .i64 i ∧ σ.le σ') ((l.map Named.enc ++ marksN)).length
      ⟨0, by omega, by omega, by simp -dsimp only [↓bp, bq, br, seval, tbSeenLent2]; first | done | rfl, AS.le.refl σ⟩ ?_
  rintro n v σ' ⟨i, hi, rfl, h6, hle⟩
  simp -dsimp only [↓bp, bq, br, seval, tbSeenLent2] at h6
  simp -dsimp only [↓bp, bq, br, seval, tbSeenLent2, h6]
  refine condW_dec (fun hlt => ?_) (fun hge => ?_)
  · have hl3 : i < l.length + 12 := by rw [List.length_append, List.length_map, hml] at hlt; omega
    by_cases hi2 : (i : Int) < l.length
    · obtain ⟨k, hk⟩ : ∃ k, l[i]? = some k := ⟨_, List.getElem?_eq_getElem (by omega)⟩
      have hx : (l.map Named.enc ++ marksN)[i]? = some k.enc := by rw [List.getElem?_append_left (by simp; omega), List.getElem?_map, hk]; rfl
      have hge : ((l.length : Int) ≤ i) = False := eq_false (by omega)
      have hi2' := eq_true hi2
      have hq := eqlN k
      clear hi hlt hi2
      repeat' (first | refine xs ?_ ?_ <;> intros | ((first | refine xh ?_ | refine xi ?_); intro bx hbx; (try simp only [fb] at hbx)) | refine xj ?_ | ((with_reducible refine And.intro ?_ ?_); omega) | refine bo_buildSlice (d' := ⟨⟩) ?_ | refine xk (by kernel_rfl) ?_ | refine xf ?_ (by repeat' first | exact lr _ | assumption | refine ls ?_ ?_ | refine lt ?_ ?_ | simp only [*]; done | exact lf ‹_› (by simp only [*])) | simp -dsimp only [↓bp, bq, br, seval, tbSeenLent2, isv_lentsN, flat_lentsN, sl_lentsN_len, *])
      all_goals (have hl2 : (l.map Named.enc ++ marksN).length = l.length + 12 := by simp [hml])
      all_goals exact ⟨(l.map Named.enc ++ marksN).length - (i + 1), by omega, i + 1, by omega, rfl, by rw [wrap_nat (by omega) (by omega)]; rfl⟩
    · have hx : (l.map Named.enc ++ marksN)[i]? = some (mkN 1 ((i - l.length : Nat) : Int)).enc := by
        rw [List.getElem?_append_right (by simp; omega), List.length_map]
        have : i - l.length < 12 := by omega
        simp [marksN, marksToN, this]
      have hge : ((l.length : Int) ≤ i) = True := eq_true (by omega)
      have hi2' := eq_false hi2
      have hw1 : IntKind.i64.wrap ((i : Int) - l.length) = ((i - l.length : Nat) : Int) := by rw [wrap_nat (by omega) (by omega)]; omega
      have hp := mkN_pure G 1 ((i - l.length : Nat) : Int)
      have hq := eqlN (mkN 1 ((i - l.length : Nat) : Int))
      clear hi hlt hi2
      repeat' (first | refine xs ?_ ?_ <;> intros | ((first | refine xh ?_ | refine xi ?_); intro bx hbx; (try simp only [fb] at hbx)) | refine Pure.use (hp) ?_ | refine Pure.head (hp) ?_ | refine xj ?_ | ((with_reducible refine And.intro ?_ ?_); omega) | refine bo_buildSlice (d' := ⟨⟩) ?_ | refine xk (by kernel_rfl) ?_ | refine xf ?_ (by repeat' first | exact lr _ | assumption | refine ls ?_ ?_ | refine lt ?_ ?_ | simp only [*]; done | exact lf ‹_› (by simp only [*])) | simp -dsimp only [↓bp, bq, br, seval, tbSeenLent2, isv_lentsN, flat_lentsN, sl_lentsN_len, *])
      all_goals (have hl2 : (l.map Named.enc ++ marksN).length = l.length + 12 := by simp [hml])
      all_goals exact ⟨(l.map Named.enc ++ marksN).length - (i + 1), by omega, i + 1, by omega, rfl, by rw [wrap_nat (by omega) (by omega)]; rfl⟩
  · have : i = (l.map Named.enc ++ marksN).length := by omega
    subst this
    clear hi hge
    repeat' (first | refine xs ?_ ?_ <;> intros | ((first | refine xh ?_ | refine xi ?_); intro bx hbx; (try simp only [fb] at hbx)) | refine xj ?_ | ((with_reducible refine And.intro ?_ ?_); omega) | refine bo_buildSlice (d' := ⟨⟩) ?_ | refine xk (by kernel_rfl) ?_ | refine xf ?_ (by repeat' first | exact lr _ | assumption | refine ls ?_ ?_ | refine lt ?_ ?_ | simp only [*]; done | exact lf ‹_› (by simp only [*])) | simp -dsimp only [↓bp, bq, br, seval, tbSeenLent2, *])
    all_goals rfl
set_option maxHeartbeats 1000000 in
theorem sameEs_pure (l : List Ended) (hl : bulkE l ≤ 1000000000) : Pure Tryz.prog G 63 [encE l, encE l] (.bool true) := by
  have hlen := lenE_le l
  have hf : ∀ x, x ∈ l → Pure Tryz.prog G 68 [x.enc, x.enc] (.bool true) := fun x hx => by
    have hb := bulkE_mem hx
    have := sameE1_pure G x x (by omega) (by omega)
    rwa [(sameE_iff x x).2 rfl] at this
  intro σ
  refine Tri.of_awp mixed Tryz.func63 rfl (by kernel_rfl) (by kernel_rfl) (by simp [Tryz.ntmps63]) Tryz.results63 ?_
  repeat' (first | refine xs ?_ ?_ <;> intros | ((first | refine xh ?_ | refine xi ?_); intro bx hbx; (try simp only [fb] at hbx)) | refine xj ?_ | ((with_reducible refine And.intro ?_ ?_); omega) | refine bo_buildSlice (d' := ⟨⟩) ?_ | refine xk (by kernel_rfl) ?_ | refine xf ?_ (by repeat' first | exact lr _ | assumption | refine ls ?_ ?_ | refine lt ?_ ?_ | simp only [*]; done | exact lf ‹_› (by simp only [*])) | simp -dsimp only [↓bp, bq, br, seval, tbSeenLent2, *])
  refine loop_keep mixed (fun n e => ∃ i : Nat, i ≤ (l).length ∧ n = (l).length - i ∧ e 5 = .int .i64 i ∧ True) (l).length
      ⟨0, by omega, by omega, by simp -dsimp only [↓bp, bq, br, seval, tbSeenLent2]; first | done | rfl, trivial⟩ ?_
  rintro n v ⟨i, hi, rfl, h5, hT⟩
  simp -dsimp only [↓bp, bq, br, seval, tbSeenLent2] at h5
  simp -dsimp only [↓bp, bq, br, seval, tbSeenLent2, h5]
  refine condW_dec (fun hlt => ?_) (fun hge => ?_)
  · obtain ⟨x, hx⟩ : ∃ x, l[i]? = some x := ⟨_, List.getElem?_eq_getElem (by omega)⟩
    have hp := hf x (List.mem_of_getElem? hx)
    have hw : IntKind.i64.wrap ((i : Int) + 1) = ((i + 1 : Nat) : Int) := by rw [wrap_nat (by omega) (by omega)]; rfl
    have hm : l.length - (i + 1) < l.length - i := by omega
    have hi1 : i + 1 ≤ l.length := by omega
    clear hi hf hl hlen
    repeat' (first | refine xs ?_ ?_ <;> intros | ((first | refine xh ?_ | refine xi ?_); intro bx hbx; (try simp only [fb] at hbx)) | refine Pure.use (hp) ?_ | refine Pure.head (hp) ?_ | refine xj ?_ | ((with_reducible refine And.intro ?_ ?_); omega) | refine bo_buildSlice (d' := ⟨⟩) ?_ | refine xk (by kernel_rfl) ?_ | refine xf ?_ (by repeat' first | exact lr _ | assumption | refine ls ?_ ?_ | refine lt ?_ ?_ | simp only [*]; done | exact lf ‹_› (by simp only [*])) | simp -dsimp only [↓bp, bq, br, seval, tbSeenLent2, *])
    all_goals exact ⟨l.length - (i + 1), hm, i + 1, hi1, rfl, rfl⟩
  · have : i = l.length := by omega
    subst this
    clear hi hf
    repeat' (first | refine xs ?_ ?_ <;> intros | ((first | refine xh ?_ | refine xi ?_); intro bx hbx; (try simp only [fb] at hbx)) | refine xj ?_ | ((with_reducible refine And.intro ?_ ?_); omega) | refine bo_buildSlice (d' := ⟨⟩) ?_ | refine xk (by kernel_rfl) ?_ | refine xf ?_ (by repeat' first | exact lr _ | assumption | refine ls ?_ ?_ | refine lt ?_ ?_ | simp only [*]; done | exact lf ‹_› (by simp only [*])) | simp -dsimp only [↓bp, bq, br, seval, tbSeenLent2, *])
    all_goals rfl
set_option maxHeartbeats 1000000 in
theorem sameNs_pure (l : List Named) (hl : l.length ≤ 1000000000) : Pure Tryz.prog G 64 [encN l, encN l] (.bool true) := by
  intro σ
  refine Tri.of_awp mixed Tryz.func64 rfl (by kernel_rfl) (by kernel_rfl) (by simp [Tryz.ntmps64]) Tryz.results64 ?_
  repeat' (first | refine xs ?_ ?_ <;> intros | ((first | refine xh ?_ | refine xi ?_); intro bx hbx; (try simp only [fb] at hbx)) | refine xj ?_ | ((with_reducible refine And.intro ?_ ?_); omega) | refine bo_buildSlice (d' := ⟨⟩) ?_ | refine xk (by kernel_rfl) ?_ | refine xf ?_ (by repeat' first | exact lr _ | assumption | refine ls ?_ ?_ | refine lt ?_ ?_ | simp only [*]; done | exact lf ‹_› (by simp only [*])) | simp -dsimp only [↓bp, bq, br, seval, tbSeenLent2, *])
  refine loop_keep mixed (fun n e => ∃ i : Nat, i ≤ (l).length ∧ n = (l).length - i ∧ e 5 = .int .i64 i ∧ True) (l).length
      ⟨0, by omega, by omega, by simp -dsimp only [↓bp, bq, br, seval, tbSeenLent2]; first | done | rfl, trivial⟩ ?_
  rintro n v ⟨i, hi, rfl, h5, hT⟩
  simp -dsimp only [↓bp, bq, br, seval, tbSeenLent2] at h5
  simp -dsimp only [↓bp, bq, br, seval, tbSeenLent2, h5]
  refine condW_dec (fun hlt => ?_) (fun hge => ?_)
  · obtain ⟨x, hx⟩ : ∃ x, l[i]? = some x := ⟨_, List.getElem?_eq_getElem (by omega)⟩
    have hq : abin Tryz.prog .neq 46 x.enc x.enc = some (.bool false) := by rw [neqN]; simp
    have hw : IntKind.i64.wrap ((i : Int) + 1) = ((i + 1 : Nat) : Int) := by rw [wrap_nat (by omega) (by omega)]; rfl
    have hm : l.length - (i + 1) < l.length - i := by omega
    have hi1 : i + 1 ≤ l.length := by omega
    clear hi hl
    repeat' (first | refine xs ?_ ?_ <;> intros | ((first | refine xh ?_ | refine xi ?_); intro bx hbx; (try simp only [fb] at hbx)) | refine xj ?_ | ((with_reducible refine And.intro ?_ ?_); omega) | refine bo_buildSlice (d' := ⟨⟩) ?_ | refine xk (by kernel_rfl) ?_ | refine xf ?_ (by repeat' first | exact lr _ | assumption | refine ls ?_ ?_ | refine lt ?_ ?_ | simp only [*]; done | exact lf ‹_› (by simp only [*])) | simp -dsimp only [↓bp, bq, br, seval, tbSeenLent2, *])
    all_goals exact ⟨l.length - (i + 1), hm, i + 1, hi1, rfl, rfl⟩
  · have : i = l.length := by omega
    subst this
    clear hi
    repeat' (first | refine xs ?_ ?_ <;> intros | ((first | refine xh ?_ | refine xi ?_); intro bx hbx; (try simp only [fb] at hbx)) | refine xj ?_ | ((with_reducible refine And.intro ?_ ?_); omega) | refine bo_buildSlice (d' := ⟨⟩) ?_ | refine xk (by kernel_rfl) ?_ | refine xf ?_ (by repeat' first | exact lr _ | assumption | refine ls ?_ ?_ | refine lt ?_ ?_ | simp only [*]; done | exact lf ‹_› (by simp only [*])) | simp -dsimp only [↓bp, bq, br, seval, tbSeenLent2, *])
    all_goals rfl
def Seen.lent (s : Seen) : AV := .agg [lents s.out, lentsE s.ended, lentsN s.names, .int .i64 s.verdict, .int .i64 s.spent, .int .i64 s.clock]
theorem Seen.flat_lent (s : Seen) : flat s.lent = [lents s.out, lentsE s.ended, lentsN s.names, .int .i64 s.verdict, .int .i64 s.spent, .int .i64 s.clock] := by simp only [Seen.lent, flat]
theorem Seen.isv_lent (s : Seen) : isv s.lent = true := by simp only [Seen.lent, isv]
theorem Seen.fold_lent (s : Seen) : AV.agg [lents s.out, lentsE s.ended, lentsN s.names, .int .i64 s.verdict, .int .i64 s.spent, .int .i64 s.clock] = s.lent := by simp only [Seen.lent]
theorem Seen.lent_le (s : Seen) : Le s.lent s.enc := by
  rw [← s.fold_lent, ← s.fold_enc]
  exact Le.agg (.cons (lents_le _) (.cons (lentsE_le _) (.cons (lentsN_le _) (.cons (Le.refl _) (.cons (Le.refl _) (.cons (Le.refl _) .nil)))))) (fun d hd => by simp at hd; rcases hd with rfl | rfl | rfl | rfl | rfl | rfl <;> rfl)
theorem lentS_pure (s : Seen) (hb : s.bulk ≤ 1000000000) : Pure Tryz.prog G 7 [s.enc] s.lent := by
  unfold Seen.bulk at hb
  have h1 := lents_pure G s.out (by have := len_le_bulks s.out; omega) (fun x hx => lent_pure G x (by have := bulk_mem hx; omega))
  have h2 := lentsE_pure G s.ended (by have := lenE_le s.ended; omega) (fun x hx => lentE_pure G x (by have := bulkE_mem hx; omega))
  have h3 := lentsN_pure G s.names (by have := lenN_le s.names; omega)
  clear hb
  intro σ
  refine Tri.of_awp mixed Tryz.func7 rfl (by kernel_rfl) (by kernel_rfl) (by simp [Tryz.ntmps7]) Tryz.results7 ?_
  repeat' (first | refine xs ?_ ?_ <;> intros | ((first | refine xh ?_ | refine xi ?_); intro bx hbx; (try simp only [fb] at hbx)) | refine Pure.use (h1) ?_ | refine Pure.head (h1) ?_ | refine Pure.use (h2) ?_ | refine Pure.head (h2) ?_ | refine Pure.use (h3) ?_ | refine Pure.head (h3) ?_ | refine xj ?_ | ((with_reducible refine And.intro ?_ ?_); omega) | refine bo_buildSlice (d' := ⟨⟩) ?_ | refine xk (by kernel_rfl) ?_ | refine xf ?_ (by repeat' first | exact lr _ | assumption | refine ls ?_ ?_ | refine lt ?_ ?_ | simp only [*]; done | exact lf ‹_› (by simp only [*])) | simp -dsimp only [↓bp, bq, br, seval, tbSeenLent2, Seen.flat_lent, Seen.isv_lent, Seen.fold_lent, isv_lents, flat_lents, isv_lentsE, flat_lentsE, isv_lentsN, flat_lentsN, *])
  all_goals rfl
theorem sameS1_pure (s : Seen) (hb : s.bulk ≤ 1000000000) : Pure Tryz.prog G 37 [s.enc, s.enc] (.bool true) := by
  unfold Seen.bulk at hb
  have h1 := samess_pure G s.out s.out (by have := len_le_bulks s.out; omega) (by have := len_le_bulks s.out; omega) (fun x hx y hy => same_pure G x y (by have := bulk_mem hx; omega) (by have := bulk_mem hy; omega))
  rw [(sames_iff _ _).2 rfl] at h1
  have h2 := sameEs_pure G s.ended (by omega)
  have h3 := sameNs_pure G s.names (by have := lenN_le s.names; omega)
  clear hb
  intro σ
  refine Tri.of_awp mixed Tryz.func37 rfl (by kernel_rfl) (by kernel_rfl) (by simp [Tryz.ntmps37]) Tryz.results37 ?_
  repeat' (first | refine xs ?_ ?_ <;> intros | ((first | refine xh ?_ | refine xi ?_); intro bx hbx; (try simp only [fb] at hbx)) | refine Pure.use (h1) ?_ | refine Pure.head (h1) ?_ | refine Pure.use (h2) ?_ | refine Pure.head (h2) ?_ | refine Pure.use (h3) ?_ | refine Pure.head (h3) ?_ | refine xj ?_ | ((with_reducible refine And.intro ?_ ?_); omega) | refine bo_buildSlice (d' := ⟨⟩) ?_ | refine xk (by kernel_rfl) ?_ | refine xf ?_ (by repeat' first | exact lr _ | assumption | refine ls ?_ ?_ | refine lt ?_ ?_ | simp only [*]; done | exact lf ‹_› (by simp only [*])) | simp -dsimp only [↓bp, bq, br, seval, tbSeenLent2, *])
  all_goals rfl
set_option maxHeartbeats 1000000 in
theorem keptS_pure (s : Seen) (hb : s.bulk ≤ 1000000000) : Pure Tryz.prog G 15 [s.lent, s.enc] (.bool true) := by
  have h0 := (sameS1_pure G s hb).lessArgs (args := [s.lent, s.enc]) (.cons s.lent_le (.cons (Le.refl _) .nil))
  unfold Seen.bulk at hb
  have hsm : ∀ i : Int, Pure Tryz.prog G 68 [(mkE 1 i).enc, (mkE 1 i).enc] (.bool true) := fun i => by
    have := sameE1_pure G (mkE 1 i) (mkE 1 i) (by simp [mkE, zeroTm, Term.bulk, bulks]) (by simp [mkE, zeroTm, Term.bulk, bulks])
    rwa [(sameE_iff _ _).2 rfl] at this
  have h1 := kepts_pure G s.out (by have := len_le_bulks s.out; omega) (fun x hx => kept_pure G x (by have := bulk_mem hx; omega))
  have h2 := keptsE_pure G s.ended (by have := lenE_le s.ended; omega) (fun x hx => keptE_pure G x (by have := bulkE_mem hx; omega)) hsm
  have h3 := keptsN_pure G s.names (by have := lenN_le s.names; omega)
  clear hb hsm
  intro σ
  refine Tri.of_awp mixed Tryz.func15 rfl (by kernel_rfl) (by kernel_rfl) (by simp [Tryz.ntmps15]) Tryz.results15 ?_
  repeat' (first | refine xs ?_ ?_ <;> intros | ((first | refine xh ?_ | refine xi ?_); intro bx hbx; (try simp only [fb] at hbx)) | refine Pure.use (h0) ?_ | refine Pure.head (h0) ?_ | refine Pure.use (h1) ?_ | refine Pure.head (h1) ?_ | refine Pure.use (h2) ?_ | refine Pure.head (h2) ?_ | refine Pure.use (h3) ?_ | refine Pure.head (h3) ?_ | refine xj ?_ | ((with_reducible refine And.intro ?_ ?_); omega) | refine bo_buildSlice (d' := ⟨⟩) ?_ | refine xk (by kernel_rfl) ?_ | refine xf ?_ (by repeat' first | exact lr _ | assumption | refine ls ?_ ?_ | refine lt ?_ ?_ | simp only [*]; done | exact lf ‹_› (by simp only [*])) | simp -dsimp only [↓bp, bq, br, seval, tbSeenLent2, Seen.flat_lent, Seen.isv_lent, Seen.fold_lent, isv_lents, flat_lents, isv_lentsE, flat_lentsE, isv_lentsN, flat_lentsN, *])
  all_goals rfl
end
set_option maxRecDepth 20000
section
def tbRefA := And.intro (And.intro (And.intro (And.intro @tf3 (And.intro @tf4 @tf5)) (And.intro @tf85 (And.intro @tf137 @tf9))) (And.intro (And.intro @tf40 (And.intro @tf39 @tf22)) (And.intro (And.intro @tf42 @tf133) (And.intro @tf138 @Term.flat_enc)))) (And.intro (And.intro (And.intro @Term.isv_enc (And.intro @Term.fold_enc @isv_encs)) (And.intro @flat_encs (And.intro @len_encs @ix_encs))) (And.intro (And.intro @ix_encs' (And.intro @isv_lims @flat_lims)) (And.intro (And.intro @len_lims @ix_lims) (And.intro @ix_lims' @flat_limA))))
variable (G : Nat → AV)
def bools (l : List Bool) : AV := .sl .none (l.map AV.bool) []
theorem isv_bools (l : List Bool) : isv (bools l) = true := rfl
theorem flat_bools (l : List Bool) : flat (bools l) = [bools l] := rfl
theorem len_bools {P : Program} {t : TypeId} (l : List Bool) : ablt P .len #[t] [bools l] = if (el P t).isSome then some (.int .i64 l.length) else none := by
  simp [bools, l_sl]
theorem tbBE : el Tryz.prog 133 = some 4 := tf133.2.2.2.1
theorem slim_none (g : Gh) (xs ys sp : List AV) : slim (.sl .none xs []) (.sl g ys sp) = .sl g ys [] := rfl
def atB (l : List Bool) (i : Nat) : Bool := l[i]?.getD false
theorem at_pure (l : List Bool) (i : Nat) (hl : l.length ≤ 1000000000) (hi : i ≤ 1000000000) : Pure Tryz.prog G 170 [bools l, .int .i64 i] (.bool (atB l i)) := by
  unfold bools atB
  intro σ
  by_cases h : (i : Int) < l.length
  · obtain ⟨k, hk⟩ : ∃ k, l[i]? = some k := ⟨_, List.getElem?_eq_getElem (by omega)⟩
    have h1 := eq_true h
    clear h hl hi
    refine Tri.of_awp mixed Tryz.func170 rfl (by kernel_rfl) (by kernel_rfl) (by simp [Tryz.ntmps170]) Tryz.results170 ?_
    repeat' (first | refine xs ?_ ?_ <;> intros | ((first | refine xh ?_ | refine xi ?_); intro bx hbx; (try simp only [fb] at hbx)) | refine xj ?_ | ((with_reducible refine And.intro ?_ ?_); omega) | refine bo_buildSlice (d' := ⟨⟩) ?_ | refine xk (by kernel_rfl) ?_ | refine xf ?_ (by repeat' first | exact lr _ | assumption | refine ls ?_ ?_ | refine lt ?_ ?_ | simp only [*]; done | exact lf ‹_› (by simp only [*])) | simp -dsimp only [↓bp, bq, br, seval, tbRefA, Option.getD_some, *])
    all_goals first | rfl | simp
  · have hk : l[i]? = none := List.getElem?_eq_none (by omega)
    have h1 := eq_false h
    clear h hl hi
    refine Tri.of_awp mixed Tryz.func170 rfl (by kernel_rfl) (by kernel_rfl) (by simp [Tryz.ntmps170]) Tryz.results170 ?_
    repeat' (first | refine xs ?_ ?_ <;> intros | ((first | refine xh ?_ | refine xi ?_); intro bx hbx; (try simp only [fb] at hbx)) | refine xj ?_ | ((with_reducible refine And.intro ?_ ?_); omega) | refine bo_buildSlice (d' := ⟨⟩) ?_ | refine xk (by kernel_rfl) ?_ | refine xf ?_ (by repeat' first | exact lr _ | assumption | refine ls ?_ ?_ | refine lt ?_ ?_ | simp only [*]; done | exact lf ‹_› (by simp only [*])) | simp -dsimp only [↓bp, bq, br, seval, tbRefA, Option.getD_none, *])
    all_goals rfl
def cutN (l : List Bool) : Nat → Nat
  | 0 => 0
  | n + 1 => if atB l n = false then cutN l n else n + 1
def cutB (l : List Bool) : List Bool := l.take (cutN l l.length)
theorem cutN_le (l : List Bool) : ∀ n, cutN l n ≤ n
  | 0 => Nat.le_refl _
  | n + 1 => by
    simp only [cutN]
    split
    · have := cutN_le l n; omega
    · omega
theorem cutN_off (l : List Bool) : ∀ n i, i < n → cutN l n ≤ i → atB l i = false
  | 0, i, h, _ => by omega
  | n + 1, i, h, h2 => by
    simp only [cutN] at h2
    split at h2
    · rename_i h3
      by_cases e : i = n
      · subst e; exact h3
      · exact cutN_off l n i (by omega) h2
    · omega
theorem at_cut (l : List Bool) (i : Nat) : atB (cutB l) i = atB l i := by
  unfold cutB
  by_cases h : i < cutN l l.length
  · unfold atB; rw [List.getElem?_take, if_pos h]
  · have e : atB (l.take (cutN l l.length)) i = false := by unfold atB; rw [List.getElem?_take, if_neg h]; rfl
    rw [e]
    by_cases h2 : i < l.length
    · exact (cutN_off l _ i h2 (by omega)).symm
    · unfold atB; rw [List.getElem?_eq_none (by omega)]; rfl
theorem cutB_len (l : List Bool) : (cutB l).length ≤ l.length := by unfold cutB; rw [List.length_take]; omega
theorem cut_pure (l : List Bool) (hl : l.length ≤ 1000000000) : Pure Tryz.prog G 150 [bools l] (bools (cutB l)) := by
  unfold bools
  refine Pure.of_le fun σ => ?_
  refine Tri.of_awp mixed Tryz.func150 rfl (by kernel_rfl) (by kernel_rfl) (by simp [Tryz.ntmps150]) Tryz.results150 ?_
  simp -dsimp only [↓bp, bq, br, seval, tbRefA]
  refine loop_keep mixed (fun n e => n ≤ l.length ∧ e 3 = .int .i64 (n : Int) ∧ cutN l n = cutN l l.length) l.length ⟨Nat.le_refl _, by simp -dsimp only [↓bp, bq, br, seval, tbRefA]; first | done | rfl, rfl⟩ ?_
  rintro n v ⟨hn, h3, hz⟩
  simp -dsimp only [↓bp, bq, br, seval, tbRefA] at h3
  simp -dsimp only [↓bp, bq, br, seval, tbRefA, h3]
  cases n with
  | zero =>
    have e0 : ((0 : Nat) : Int) = 0 := rfl
    have hN : cutN l l.length = 0 := by rw [← hz]; rfl
    simp -dsimp only [↓bp, bq, br, seval, tbRefA, h3, e0]
    refine piece (l := 0) (h := 0) tbBE tf4.1 rfl (by simp [abnd]) (by omega) (by simp) (fun a ha => ?_) (fun g' => ?_)
    · rw [List.append_nil] at ha
      obtain ⟨i, _, rfl⟩ := List.mem_map.1 ha
      rfl
    · have ec : ((l.map AV.bool ++ []).take 0).drop 0 = (cutB l).map AV.bool := by unfold cutB; rw [hN]; simp
      simp only [ec, slim_none]
      simp -dsimp only [↓bp, bq, br, seval, tbRefA, h3, e0]
      exact finish_le Le.gh (AS.le.refl σ)
  | succ n =>
    obtain ⟨k, hk⟩ : ∃ k, l[n]? = some k := ⟨_, List.getElem?_eq_getElem (by omega)⟩
    have hw : IntKind.i64.wrap (((n + 1 : Nat) : Int) - 1) = (n : Int) := by rw [wrap_nat (by omega) (by omega)]; omega
    have hp : (0 < ((n + 1 : Nat) : Int)) = True := eq_true (by omega)
    have ha : atB l n = k := by unfold atB; rw [hk]; rfl
    cases k
    · simp -dsimp only [↓bp, bq, br, seval, tbRefA, h3, hw, hp, hk]
      refine ⟨n, by omega, by omega, rfl, ?_⟩
      rw [← hz]; simp only [cutN]; rw [if_pos ha]
    · have hN : cutN l l.length = n + 1 := by rw [← hz]; simp only [cutN]; rw [if_neg (by simp [ha])]
      simp -dsimp only [↓bp, bq, br, seval, tbRefA, h3, hw, hp, hk]
      refine piece (l := 0) (h := n + 1) tbBE tf4.1 rfl (by simp [abnd]; omega) (by omega) (by simp; omega) (fun a ha => ?_) (fun g' => ?_)
      · rw [List.append_nil] at ha
        obtain ⟨i, _, rfl⟩ := List.mem_map.1 ha
        rfl
      · have ec : ((l.map AV.bool ++ []).take (n + 1)).drop 0 = (cutB l).map AV.bool := by unfold cutB; rw [hN]; simp
        simp only [ec, slim_none]
        simp -dsimp only [↓bp, bq, br, seval, tbRefA, h3]
        exact finish_le Le.gh (AS.le.refl σ)
def bel (x y : List Bool) : Nat → Bool
  | 0 => false
  | n + 1 => if atB x n = atB y n then bel x y n else atB y n
def below (x y : List Bool) : Bool := bel x y (max x.length y.length)
theorem below_pure (x y : List Bool) (hx : x.length ≤ 1000000000) (hy : y.length ≤ 1000000000) : Pure Tryz.prog G 151 [bools x, bools y] (.bool (below x y)) := by
  have hm : (if (y.length : Int) > x.length then (y.length : Int) else x.length) = ((max x.length y.length : Nat) : Int) := by split <;> omega
  obtain ⟨N, hN⟩ : ∃ N, N = max x.length y.length := ⟨_, rfl⟩
  have hw0 : IntKind.i64.wrap ((N : Int) - 1) = N - 1 := wrap_nat (by omega) (by omega)
  unfold below
  rw [← hN] at hm ⊢
  intro σ
  refine Tri.of_awp mixed Tryz.func151 rfl (by kernel_rfl) (by kernel_rfl) (by simp [Tryz.ntmps151]) Tryz.results151 ?_
  simp -dsimp only [↓bp, bq, br, seval, tbRefA, len_bools, hm, hw0]
  refine loop_keep mixed (fun n e => n ≤ N ∧ e 5 = .int .i64 ((n : Int) - 1) ∧ bel x y n = bel x y N) N ⟨Nat.le_refl _, by simp -dsimp only [↓bp, bq, br, seval, tbRefA]; first | done | rfl, rfl⟩ ?_
  rintro n v ⟨hn, h5, hz⟩
  simp -dsimp only [↓bp, bq, br, seval, tbRefA] at h5
  cases n with
  | zero =>
    have e0 : ((0 : Nat) : Int) - 1 = -1 := rfl
    simp -dsimp only [↓bp, bq, br, seval, tbRefA, h5, e0]
    refine finish_pure ?_ (AS.le.refl σ)
    rw [← hz]; rfl
  | succ n =>
    have e1 : ((n + 1 : Nat) : Int) - 1 = (n : Int) := by omega
    have hw : IntKind.i64.wrap ((n : Int) - 1) = (n : Int) - 1 := wrap_nat (by omega) (by omega)
    have a1 := at_pure G x n hx (by omega)
    have a2 := at_pure G y n hy (by omega)
    have hzz : bel x y N = if atB x n = atB y n then bel x y n else atB y n := hz.symm
    generalize atB x n = p at *
    generalize atB y n = q at *
    rw [e1] at h5
    by_cases hpq : p = q
    · rw [if_pos hpq] at hzz
      subst hpq
      repeat' (first | refine xs ?_ ?_ <;> intros | ((first | refine xh ?_ | refine xi ?_); intro bx hbx; (try simp only [fb] at hbx)) | refine Pure.use (a1) ?_ | refine Pure.head (a1) ?_ | refine Pure.use (a2) ?_ | refine Pure.head (a2) ?_ | refine xj ?_ | ((with_reducible refine And.intro ?_ ?_); omega) | refine bo_buildSlice (d' := ⟨⟩) ?_ | refine xk (by kernel_rfl) ?_ | refine xf ?_ (by repeat' first | exact lr _ | assumption | refine ls ?_ ?_ | refine lt ?_ ?_ | simp only [*]; done | exact lf ‹_› (by simp only [*])) | simp -dsimp only [↓bp, bq, br, seval, tbRefA, h5, hw, isv_bools, flat_bools, *])
      exact ⟨n, by omega, by omega, rfl, by rw [← hN]; exact hzz.symm⟩
    · rw [if_neg hpq] at hzz
      rw [hzz]
      have hq : q = !p := by cases p <;> cases q <;> simp_all
      subst hq
      clear hpq hzz hz
      repeat' (first | refine xs ?_ ?_ <;> intros | ((first | refine xh ?_ | refine xi ?_); intro bx hbx; (try simp only [fb] at hbx)) | refine Pure.use (a1) ?_ | refine Pure.head (a1) ?_ | refine Pure.use (a2) ?_ | refine Pure.head (a2) ?_ | refine xj ?_ | ((with_reducible refine And.intro ?_ ?_); omega) | refine bo_buildSlice (d' := ⟨⟩) ?_ | refine xk (by kernel_rfl) ?_ | refine xf ?_ (by repeat' first | exact lr _ | assumption | refine ls ?_ ?_ | refine lt ?_ ?_ | simp only [*]; done | exact lf ‹_› (by simp only [*])) | simp -dsimp only [↓bp, bq, br, seval, tbRefA, h5, hw, isv_bools, flat_bools, *])
      all_goals first | rfl | (exfalso; cases p <;> simp at *)
def bitL (x : UInt32) (k : Nat) : Bool := decide (((x.toNat >>> k) &&& 1 : Nat) = 1)
def bitsL : List UInt32 → List Bool
  | [] => []
  | x :: l => (List.range 32).map (bitL x) ++ bitsL l
theorem bitsL_len (l : List UInt32) : (bitsL l).length = 32 * l.length := by
  induction l with
  | nil => rfl
  | cons x l ih => simp only [bitsL, List.length_append, List.length_map, List.length_range, ih, List.length_cons]; omega
theorem bitsL_append (l r : List UInt32) : bitsL (l ++ r) = bitsL l ++ bitsL r := by
  induction l with
  | nil => rfl
  | cons x l ih => simp only [List.cons_append, bitsL, ih, List.append_assoc]
def bitsTo (l : List UInt32) (i k : Nat) : List Bool := bitsL (l.take i) ++ (List.range k).map fun j => match l[i]? with | some x => bitL x j | none => false
theorem bitsTo_zero (l : List UInt32) (i : Nat) : bitsTo l i 0 = bitsL (l.take i) := by simp [bitsTo]
theorem bitsTo_succ {l : List UInt32} {i k : Nat} {x : UInt32} (h : l[i]? = some x) : bitsTo l i (k + 1) = bitsTo l i k ++ [bitL x k] := by
  simp only [bitsTo, h, List.range_succ, List.map_append, List.map_cons, List.map_nil, List.append_assoc]
theorem bitsTo_full {l : List UInt32} {i : Nat} {x : UInt32} (h : l[i]? = some x) : bitsTo l i 32 = bitsTo l (i + 1) 0 := by
  rw [bitsTo_zero, take_succ_get _ _ _ h, bitsL_append]
  simp only [bitsTo, h, bitsL, List.append_nil]
theorem bitsTo_len (l : List UInt32) (i k : Nat) : (bitsTo l i k).length ≤ 32 * l.length + k := by
  simp only [bitsTo, List.length_append, bitsL_len, List.length_map, List.length_range, List.length_take]
  omega
theorem tbB : aelt Tryz.prog 133 = some (4, 1, 1) := tf133.2.2.2.2.2.2
theorem bit_eq (x : UInt32) (k : Nat) (hk : k < 32) : decide (IntKind.u32.wrap ↑(BitVec.ofInt IntKind.u32.bits ((x.toNat : Int).fdiv (2 ^ min k IntKind.u32.bits)) &&& BitVec.ofInt IntKind.u32.bits 1).toNat = 1) = bitL x k := by
  have hm : min k IntKind.u32.bits = k := by have : IntKind.u32.bits = 32 := rfl; omega
  have hxl := x.toNat_lt
  have hf : (x.toNat : Int).fdiv (2 ^ k) = ((x.toNat / 2 ^ k : Nat) : Int) := by
    rw [Int.fdiv_eq_ediv_of_nonneg _ (by exact_mod_cast Nat.zero_le (2 ^ k))]
    simp
  have hd : x.toNat / 2 ^ k < 4294967296 := Nat.lt_of_le_of_lt (Nat.div_le_self _ _) hxl
  rw [hm, hf]
  unfold bitL
  rw [Nat.shiftRight_eq_div_pow]
  have e : (BitVec.ofInt IntKind.u32.bits ((x.toNat / 2 ^ k : Nat) : Int) &&& BitVec.ofInt IntKind.u32.bits 1).toNat = (x.toNat / 2 ^ k) &&& 1 := by
    show (BitVec.ofInt 32 ((x.toNat / 2 ^ k : Nat) : Int) &&& BitVec.ofInt 32 1).toNat = _
    rw [BitVec.toNat_and, BitVec.ofInt_natCast, BitVec.toNat_ofNat]
    have e1 : (BitVec.ofInt 32 1).toNat = 1 := by decide
    rw [e1, Nat.mod_eq_of_lt hd]
  rw [e]
  have h1 : (x.toNat / 2 ^ k) &&& 1 < 2 := by rw [Nat.and_one_is_mod]; omega
  have e2 : IntKind.u32.wrap (((x.toNat / 2 ^ k) &&& 1 : Nat) : Int) = (((x.toNat / 2 ^ k) &&& 1 : Nat) : Int) := by
    have e : IntKind.u32.wrap (((x.toNat / 2 ^ k) &&& 1 : Nat) : Int) = (((x.toNat / 2 ^ k) &&& 1 : Nat) : Int) % 4294967296 := by first | rfl | simp [IntKind.wrap]
    rw [e]; omega
  rw [e2, Bool.eq_iff_iff, decide_eq_true_eq, decide_eq_true_eq]
  omega
set_option maxHeartbeats 2000000 in
theorem bits_pure (t : Term) (hb : t.limbs.length ≤ 10000000) : Pure Tryz.prog G 107 [t.enc] (bools (cutB (bitsL t.limbs))) := by
  obtain ⟨l, hl⟩ : ∃ l, l = t.limbs := ⟨_, rfl⟩
  refine Pure.of_le fun σ => ?_
  refine Tri.of_awp mixed Tryz.func107 rfl (by kernel_rfl) (by kernel_rfl) (by simp [Tryz.ntmps107]) Tryz.results107 ?_
  simp -dsimp only [↓bp, bq, br, seval, tbRefA]
  intro b hb1
  simp -dsimp only [↓bp, bq, br, seval, tbRefA]
  obtain ⟨σ1, hσ1⟩ : ∃ σ1, σ1 = σ.setBox b [.int .u8 t.knd, .bool t.neg, lims t.limbs, .str t.text, .int .i64 t.num, encs t.items, encs t.tail] := ⟨_, rfl⟩
  have hbx : σ1.box b = some [.int .u8 t.knd, .bool t.neg, lims t.limbs, .str t.text, .int .i64 t.num, encs t.items, encs t.tail] := by rw [hσ1]; simp [AS.setBox]
  have hle1 : σ.le σ1 := by rw [hσ1]; exact (AS.le.refl σ).setBox hb1.1 _
  rw [← hσ1]
  refine loop_intro (fun n e σ' => ∃ (i : Nat) (v : AV), i ≤ t.limbs.length ∧ n = t.limbs.length - i ∧ e 4 = .int .i64 i ∧ e 3 = v ∧ Buf 1 σ1 σ' v ((bitsTo t.limbs i 0).map AV.bool)) t.limbs.length
    ⟨0, .nil, by omega, by omega, by simp -dsimp only [↓bp, bq, br, seval, tbRefA]; first | done | rfl, by simp -dsimp only [↓bp, bq, br, seval, tbRefA]; first | done | rfl, by
      have e : bitsTo t.limbs 0 0 = [] := by simp [bitsTo, bitsL]
      rw [e]; exact .nil (AS.le.refl σ1)⟩ ?_
  rintro n e2 σ3 ⟨i, v3, hi2, rfl, h4, h3, hB3⟩
  have hbx3 := hB3.le.box _ _ hbx
  simp -dsimp only [↓bp, bq, br, seval, tbRefA] at h4 h3
  simp -dsimp only [↓bp, bq, br, seval, tbRefA, h4, h3, hbx3]
  refine condW_dec (fun hlt => ?_) (fun hge => ?_)
  · obtain ⟨x, hx⟩ : ∃ x, t.limbs[i]? = some x := ⟨_, List.getElem?_eq_getElem (by omega)⟩
    simp -dsimp only [↓bp, bq, br, seval, tbRefA, h4, h3]
    refine loop_intro (fun n e σ' => ∃ (k : Nat) (v : AV), k ≤ 32 ∧ n = 32 - k ∧ e 5 = .int .i64 k ∧ e 3 = v ∧ Buf 1 σ1 σ' v ((bitsTo t.limbs i k).map AV.bool)) 32
      ⟨0, v3, by omega, by omega, by first | (simp -dsimp only [↓bp, bq, br, seval, tbRefA, h4, h3]; done) | (simp -dsimp only [↓bp, bq, br, seval, tbRefA, h4, h3]; try rfl), by first | (simp -dsimp only [↓bp, bq, br, seval, tbRefA, h4, h3]; done) | (simp -dsimp only [↓bp, bq, br, seval, tbRefA, h4, h3]; try rfl), hB3⟩ ?_
    rintro n3 e3 σ4 ⟨k, v4, hk2, rfl, h5, h3', hB4⟩
    have hbx4 := hB4.le.box _ _ hbx
    simp -dsimp only [↓bp, bq, br, seval, tbRefA] at h5 h3'
    simp -dsimp only [↓bp, bq, br, seval, tbRefA, h5, h3', h4]
    refine condW_dec (fun hlt2 => ?_) (fun hge2 => ?_)
    · have hw64 : IntKind.u64.wrap (k : Int) = k := by
        have e : IntKind.u64.wrap (k : Int) = (k : Int) % 18446744073709551616 := by first | rfl | simp [IntKind.wrap]
        rw [e]; omega
      have hk0 : ((k : Int) < 0) = False := eq_false (by omega)
      simp -dsimp only [↓bp, bq, br, seval, tbRefA, h5, h3', h4, hbx4, hx, hw64, hk0, limA]
      have hbit := bit_eq x k (by omega)
      rw [hbit]
      refine build_one tbB rfl rfl (by omega) ?_
      simp -dsimp only [↓bp, bq, br, seval, tbRefA, h5, h3', h4]
      refine app_buf (ys := [.bool (bitL x k)]) hB4 tbB (asrc_sl tbBE) (fun a ha => by simp at ha; subst ha; rfl) (by have := bitsTo_len t.limbs i k; simp; omega) (fun v5 σ5 hB5 hx5 => ?_)
      simp -dsimp only [↓bp, bq, br, seval, tbRefA, h5, h3', h4]
      refine ⟨32 - (k + 1), by omega, k + 1, v5, by omega, rfl, ?_, rfl, ?_⟩
      · rw [wrap_nat (by omega) (by omega)]; rfl
      · rw [bitsTo_succ hx, List.map_append]; exact hB5
    · have : k = 32 := by omega
      subst this
      simp -dsimp only [↓bp, bq, br, seval, tbRefA, h5, h3', h4]
      refine ⟨t.limbs.length - (i + 1), by omega, i + 1, v4, by omega, rfl, ?_, rfl, ?_⟩
      · rw [wrap_nat (by omega) (by omega)]; rfl
      · rw [← bitsTo_full hx]; exact hB4
  · have : i = t.limbs.length := by omega
    subst this
    have hz : bitsTo t.limbs t.limbs.length 0 = bitsL t.limbs := by rw [bitsTo_zero, List.take_length]
    rw [hz] at hB3
    simp -dsimp only [↓bp, bq, br, seval, tbRefA, h4, h3]
    refine Pure.use ((cut_pure G (bitsL t.limbs) (by rw [bitsL_len]; omega)).lessArgs (.cons hB3.told .nil)) ?_
    simp -dsimp only [↓bp, bq, br, seval, tbRefA, h4, h3]
    exact finish_le (Le.refl _) (hle1.trans hB3.le)
end
set_option maxRecDepth 20000
section
theorem at_bitsL : ∀ (l : List UInt32) (i : Nat), atB (bitsL l) i = (val l).testBit i
  | [], i => by simp [atB, bitsL, val]
  | x :: l, i => by
    have hx := x.toNat_lt
    have e : val (x :: l) = x.toNat + 2 ^ 32 * val l := rfl
    rw [e]
    by_cases h : i < 32
    · have e1 : atB (bitsL (x :: l)) i = bitL x i := by
        unfold atB
        simp only [bitsL]
        rw [List.getElem?_append_left (by simp; omega), List.getElem?_map, List.getElem?_range h]
        rfl
      rw [e1]
      have e2 : (x.toNat + 2 ^ 32 * val l).testBit i = x.toNat.testBit i := by
        rw [Nat.add_comm, Nat.testBit_two_pow_mul_add _ (by omega), if_pos h]
      rw [e2]
      unfold bitL
      rw [Nat.testBit, Bool.eq_iff_iff, decide_eq_true_eq, bne_iff_ne, ne_eq, Nat.and_comm]
      have : 1 &&& (x.toNat >>> i) < 2 := by rw [Nat.and_comm, Nat.and_one_is_mod]; omega
      omega
    · have e1 : atB (bitsL (x :: l)) i = atB (bitsL l) (i - 32) := by
        unfold atB
        simp only [bitsL]
        rw [List.getElem?_append_right (by simp; omega)]
        simp
      rw [e1, at_bitsL l (i - 32), Nat.add_comm, Nat.testBit_two_pow_mul_add _ (by omega), if_neg h]
theorem bel_val {x y : List Bool} {a b : Nat} (hx : ∀ i, atB x i = a.testBit i) (hy : ∀ i, atB y i = b.testBit i) : ∀ n, bel x y n = decide (a % 2 ^ n < b % 2 ^ n)
  | 0 => by simp [bel, Nat.mod_one]
  | n + 1 => by
    simp only [bel]
    rw [hx, hy, bel_val hx hy n, Nat.pow_succ, Nat.mod_mul, Nat.mod_mul, Nat.testBit_eq_decide_div_mod_eq, Nat.testBit_eq_decide_div_mod_eq]
    have h1 : a % 2 ^ n < 2 ^ n := Nat.mod_lt _ (Nat.two_pow_pos n)
    have h2 : b % 2 ^ n < 2 ^ n := Nat.mod_lt _ (Nat.two_pow_pos n)
    generalize a % 2 ^ n = p at *
    generalize b % 2 ^ n = q at *
    generalize 2 ^ n = w at *
    have h3 := Nat.mod_two_eq_zero_or_one (a / w)
    have h4 := Nat.mod_two_eq_zero_or_one (b / w)
    generalize a / w % 2 = u at *
    generalize b / w % 2 = v at *
    rcases h3 with rfl | rfl <;> rcases h4 with rfl | rfl <;> simp <;> omega
theorem lt_bits {x : List Bool} {a : Nat} (hx : ∀ i, atB x i = a.testBit i) {n : Nat} (hn : x.length ≤ n) : a < 2 ^ n := by
  apply Nat.lt_pow_two_of_testBit
  intro i hi
  rw [← hx]
  unfold atB
  rw [List.getElem?_eq_none (by omega)]; rfl
theorem below_val {x y : List Bool} {a b : Nat} (hx : ∀ i, atB x i = a.testBit i) (hy : ∀ i, atB y i = b.testBit i) : below x y = decide (a < b) := by
  unfold below
  rw [bel_val hx hy, Nat.mod_eq_of_lt (lt_bits hx (by omega)), Nat.mod_eq_of_lt (lt_bits hy (by omega))]
end
section
def bv : List Bool → Nat
  | [] => 0
  | d :: l => d.toNat + 2 * bv l
theorem atB_cons (d : Bool) (l : List Bool) (i : Nat) : atB (d :: l) i = if i = 0 then d else atB l (i - 1) := by
  cases i <;> simp [atB]
theorem rep_bv : ∀ (l : List Bool) (i : Nat), atB l i = (bv l).testBit i
  | [], i => by simp [atB, bv]
  | d :: l, i => by
    rw [atB_cons, bv]
    cases i with
    | zero => cases d <;> simp [Nat.testBit_zero] <;> omega
    | succ i =>
      rw [if_neg (by omega), Nat.add_sub_cancel, rep_bv l i, Nat.testBit_succ]
      congr 1
      cases d <;> simp <;> omega
theorem bv_of {x : List Bool} {a : Nat} (h : ∀ i, atB x i = a.testBit i) : bv x = a :=
  Nat.eq_of_testBit_eq fun i => by rw [← rep_bv, h]
theorem bv_cut (l : List Bool) : bv (cutB l) = bv l := bv_of fun i => by rw [at_cut, rep_bv]
theorem bv_bits (l : List UInt32) : bv (bitsL l) = val l := bv_of (at_bitsL l)
theorem below_bv (x y : List Bool) : below x y = decide (bv x < bv y) := below_val (rep_bv x) (rep_bv y)
theorem cutN_top (l : List Bool) : ∀ n, cutN l n = 0 ∨ atB l (cutN l n - 1) = true
  | 0 => .inl rfl
  | n + 1 => by
    simp only [cutN]
    by_cases h : atB l n = false
    · rw [if_pos h]; exact cutN_top l n
    · rw [if_neg h]; right; simpa using h
theorem cut_ne {l : List Bool} (h : bv l = 0) : cutB l = [] := by
  have h1 := cutN_top l l.length
  have h2 : cutN l l.length = 0 := by
    rcases h1 with h1 | h1
    · exact h1
    · rw [rep_bv, h] at h1; simp at h1
  unfold cutB; rw [h2]; rfl
theorem cut_len (l : List Bool) : ((cutB l).length = 0) ↔ bv l = 0 := by
  constructor
  · intro h
    have : cutB l = [] := List.eq_nil_of_length_eq_zero h
    rw [← bv_cut, this]; rfl
  · intro h; rw [cut_ne h]; rfl
theorem bv_lt : ∀ l : List Bool, bv l < 2 ^ l.length
  | [] => by simp [bv]
  | d :: l => by
    have := bv_lt l
    rw [bv, List.length_cons, Nat.pow_succ]
    cases d <;> simp <;> omega
def less2 : List Bool → List Bool → Bool → List Bool
  | [], _, _ => []
  | x :: l, y, bo => ((x != y.headD false) != bo) :: less2 l y.tail (!x && (y.headD false || bo) || x && y.headD false && bo)
theorem less2_len : ∀ x y bo, (less2 x y bo).length = x.length
  | [], _, _ => rfl
  | x :: l, y, bo => by simp only [less2, List.length_cons]; rw [less2_len l]
theorem bv_head : ∀ y : List Bool, bv y = (y.headD false).toNat + 2 * bv y.tail
  | [] => by simp [bv]
  | d :: l => by simp [bv]
theorem less2_val : ∀ x y bo, bv y + bo.toNat ≤ bv x → bv (less2 x y bo) + bv y + bo.toNat = bv x
  | [], y, bo, h => by simp only [less2, bv] at *; omega
  | x :: l, y, bo, h => by
    have hy := bv_head y
    simp only [less2, bv] at *
    generalize y.headD false = u at *
    generalize y.tail = Y at *
    have ih := less2_val l Y (!x && (u || bo) || x && u && bo)
    cases x <;> cases u <;> cases bo <;> simp only [Bool.not_true, Bool.not_false, Bool.true_and, Bool.false_and, Bool.or_true, Bool.or_false, Bool.true_or, Bool.false_or, Bool.toNat_true, Bool.toNat_false, bne_self_eq_false, Bool.true_bne, Bool.false_bne, Bool.bne_true, Bool.bne_false, Bool.and_true, Bool.and_false] at * <;> omega
def lessB (a b : List Bool) : List Bool := cutB (less2 a b false)
theorem lessB_val {a b : List Bool} (h : bv b ≤ bv a) : bv (lessB a b) = bv a - bv b := by
  unfold lessB
  rw [bv_cut]
  have := less2_val a b false (by simpa using h)
  simp at this
  omega
theorem lessB_len (a b : List Bool) : (lessB a b).length ≤ a.length := by
  unfold lessB
  have := cutB_len (less2 a b false)
  rw [less2_len] at this
  exact this
def stepP (x : Bool) (r b : List Bool) : List Bool × Bool := if below (cutB (x :: r)) b = true then (cutB (x :: r), false) else (lessB (cutB (x :: r)) b, true)
def partsL : List Bool → List Bool → List Bool × List Bool
  | [], _ => ([], [])
  | x :: l, b => ((stepP x (partsL l b).2 b).2 :: (partsL l b).1, (stepP x (partsL l b).2 b).1)
theorem stepP_len (x : Bool) (r b : List Bool) : (stepP x r b).1.length ≤ r.length + 1 := by
  unfold stepP
  have h := cutB_len (x :: r)
  simp only [List.length_cons] at h
  split
  · exact h
  · have := lessB_len (cutB (x :: r)) b; simp only; omega
theorem partsL_len (b : List Bool) : ∀ a, (partsL a b).1.length = a.length ∧ (partsL a b).2.length ≤ a.length
  | [] => ⟨rfl, Nat.le_refl _⟩
  | x :: l => by
    have ih := partsL_len b l
    have := stepP_len x (partsL l b).2 b
    simp only [partsL, List.length_cons]
    omega
theorem partsL_val {b : List Bool} (hb : 0 < bv b) : ∀ a, bv (partsL a b).1 * bv b + bv (partsL a b).2 = bv a ∧ bv (partsL a b).2 < bv b
  | [] => by simp only [partsL, bv]; omega
  | x :: l => by
    obtain ⟨h1, h2⟩ := partsL_val hb l
    simp only [partsL]
    generalize hq : (partsL l b).1 = q at *
    generalize hr : (partsL l b).2 = r at *
    unfold stepP
    have e2 : bv (x :: r) = x.toNat + 2 * bv r := rfl
    rw [below_bv, bv_cut, e2]
    have e : bv (x :: l) = x.toNat + 2 * bv l := rfl
    rw [e, ← h1]
    by_cases hc : x.toNat + 2 * bv r < bv b
    · rw [if_pos (decide_eq_true hc)]
      simp only [bv, bv_cut, Bool.toNat_false, Nat.zero_add]
      refine ⟨?_, hc⟩
      rw [Nat.mul_assoc]; omega
    · rw [if_neg (by simpa using hc)]
      have hl : bv b ≤ bv (cutB (x :: r)) := by rw [bv_cut]; simp only [bv]; omega
      have hv := lessB_val hl
      rw [bv_cut] at hv
      simp only [bv] at hv
      simp only [bv, Bool.toNat_true]
      rw [hv]
      have hx : x.toNat ≤ 1 := by cases x <;> simp
      refine ⟨?_, by omega⟩
      rw [Nat.add_mul, Nat.one_mul, Nat.mul_assoc]
      omega
def tenB : List Bool := [false, true, false, true]
theorem ten_val : bv tenB = 10 := rfl
theorem parts_ten (l : List Bool) : bv (cutB (partsL l tenB).1) = bv l / 10 ∧ bv (partsL l tenB).2 = bv l % 10 := by
  have h := partsL_val (b := tenB) (by decide) l
  rw [ten_val] at h
  rw [bv_cut]
  omega
end
set_option maxRecDepth 20000
section
def tbRefO := And.intro (And.intro (And.intro (And.intro @tf3 (And.intro @tf4 @tf5)) (And.intro @tf85 (And.intro @tf137 @tf9))) (And.intro (And.intro @tf40 (And.intro @tf39 @tf22)) (And.intro @tf42 (And.intro @tf133 @tf138)))) (And.intro (And.intro (And.intro @Term.flat_enc (And.intro @Term.isv_enc @Term.fold_enc)) (And.intro @isv_encs (And.intro @flat_encs @len_encs))) (And.intro (And.intro @isv_lims (And.intro @flat_lims @len_lims)) (And.intro @isv_bools (And.intro @flat_bools @len_bools))))
variable (G : Nat → AV)
theorem ix_bools {P : Program} {t : TypeId} {k : IntKind} (l : List Bool) (i : Nat) : aindexA P t (bools l) (.int k (i : Int)) = ixk ((el P t).bind (tk P)) ((l[i]?).map AV.bool) := by
  simp [bools, aindexA_sl]
theorem headD_drop (y : List Bool) (i : Nat) : (y.drop i).headD false = atB y i := by
  unfold atB
  rw [List.headD_eq_head?_getD, List.head?_drop]
theorem tail_drop' (y : List Bool) (i : Nat) : (y.drop i).tail = y.drop (i + 1) := by rw [List.tail_drop]
set_option maxHeartbeats 2000000 in
theorem less_pure (a b : List Bool) (ha : a.length ≤ 1000000) (hb : b.length ≤ 1000000) : Pure Tryz.prog G 152 [bools a, bools b] (bools (lessB a b)) := by
  have hcut := (cut_pure G (less2 a b false) (by rw [less2_len]; omega))
  have hat : ∀ i : Nat, i ≤ 1000000 → Pure Tryz.prog G 170 [bools b, .int .i64 i] (.bool (atB b i)) := fun i hi => at_pure G b i (by omega) (by omega)
  refine Pure.of_le fun σ => ?_
  refine Tri.of_awp mixed Tryz.func152 rfl (by kernel_rfl) (by kernel_rfl) (by simp [Tryz.ntmps152]) Tryz.results152 ?_
  simp -dsimp only [↓bp, bq, br, seval, tbRefO, ix_bools]
  refine loop_intro (fun n e σ' => ∃ (i : Nat) (pre : List Bool) (v : AV) (bo : Bool), i ≤ a.length ∧ n = a.length - i ∧ e 7 = .int .i64 i ∧ e 5 = v ∧ e 6 = .bool bo ∧ Buf 1 σ σ' v (pre.map AV.bool) ∧ pre.length = i ∧ less2 a b false = pre ++ less2 (a.drop i) (b.drop i) bo) a.length
    ⟨0, [], .nil, false, by omega, by omega, by first | (simp -dsimp only [↓bp, bq, br, seval, tbRefO, ix_bools]; done) | (simp -dsimp only [↓bp, bq, br, seval, tbRefO, ix_bools]; try rfl), by first | (simp -dsimp only [↓bp, bq, br, seval, tbRefO, ix_bools]; done) | (simp -dsimp only [↓bp, bq, br, seval, tbRefO, ix_bools]; try rfl), by first | (simp -dsimp only [↓bp, bq, br, seval, tbRefO, ix_bools]; done) | (simp -dsimp only [↓bp, bq, br, seval, tbRefO, ix_bools]; try rfl), .nil (AS.le.refl σ), rfl, by simp⟩ ?_
  rintro n e1 σ2 ⟨i, pre, v, bo, hi, rfl, h7, h5, h6, hB, hpl, hz⟩
  simp -dsimp only [↓bp, bq, br, seval, tbRefO, ix_bools] at h7 h5 h6
  by_cases hlt : i < a.length
  · obtain ⟨x, hx⟩ : ∃ x, a[i]? = some x := ⟨_, List.getElem?_eq_getElem hlt⟩
    have hp := hat i (by omega)
    have hw : IntKind.i64.wrap ((i : Int) + 1) = ((i + 1 : Nat) : Int) := by rw [wrap_nat (by omega) (by omega)]; rfl
    have hlt' : ((i : Int) < a.length) = True := eq_true (by omega)
    rw [drop_get _ _ _ hx, less2, headD_drop, tail_drop'] at hz
    have hpm : pre.length ≤ 1000000 := by omega
    generalize atB b i = u at *
    clear hat hcut
    have key : ∀ (z c : Bool), z = ((x != u) != bo) → c = (!x && (u || bo) || x && u && bo) → ∀ (v3 : AV) (σ3 : AS), Buf 1 σ σ3 v3 (pre.map AV.bool ++ [.bool z]) → ∃ m, m < a.length - i ∧ ∃ (i_1 : Nat) (pre : List Bool) (v : AV) (bo : Bool), i_1 ≤ a.length ∧ m = a.length - i_1 ∧ AV.int .i64 ((i + 1 : Nat) : Int) = AV.int .i64 (i_1 : Int) ∧ v3 = v ∧ AV.bool c = AV.bool bo ∧ Buf 1 σ σ3 v (pre.map AV.bool) ∧ pre.length = i_1 ∧ less2 a b false = pre ++ less2 (a.drop i_1) (b.drop i_1) bo := by
      rintro z c rfl rfl v3 σ3 hB3
      refine ⟨a.length - (i + 1), by omega, i + 1, pre ++ [(x != u) != bo], v3, _, by omega, rfl, rfl, rfl, rfl, by rw [List.map_append]; exact hB3, by simp [hpl], ?_⟩
      rw [hz]; simp
    clear hz
    cases x <;> cases u <;> cases bo
    all_goals
      repeat' (first | refine xs ?_ ?_ <;> intros | ((first | refine xh ?_ | refine xi ?_); intro bx hbx; (try simp only [fb] at hbx)) | refine Pure.use (hp) ?_ | refine Pure.head (hp) ?_ | (refine build_one tbB rfl rfl (by omega) ?_) | (refine app_buf (ys := [.bool _]) hB tbB (asrc_sl tbBE) (fun a ha => by simp at ha; subst ha; rfl) (by simp; omega) (fun v3 σ3 hB4 hx4 => ?_)) | refine xj ?_ | ((with_reducible refine And.intro ?_ ?_); omega) | refine bo_buildSlice (d' := ⟨⟩) ?_ | refine xk (by kernel_rfl) ?_ | refine xf ?_ (by repeat' first | exact lr _ | assumption | refine ls ?_ ?_ | refine lt ?_ ?_ | simp only [*]; done | exact lf ‹_› (by simp only [*])) | simp -dsimp only [↓bp, bq, br, seval, tbRefO, ix_bools, *])
      all_goals exact key _ _ rfl rfl _ _ hB4
  · have : i = a.length := by omega
    subst this
    have hlt' : ((a.length : Int) < a.length) = False := eq_false (by omega)
    rw [List.drop_length, less2, List.append_nil] at hz
    rw [hz] at hcut
    have hc2 := hcut.lessArgs (args := [v]) (.cons hB.told .nil)
    have e : lessB a b = cutB pre := by unfold lessB; rw [hz]
    rw [e]
    have hle := hB.le
    clear hat hz hi hlt hcut
    repeat' (first | refine xs ?_ ?_ <;> intros | ((first | refine xh ?_ | refine xi ?_); intro bx hbx; (try simp only [fb] at hbx)) | refine Pure.use (hc2) ?_ | refine Pure.head (hc2) ?_ | refine xj ?_ | ((with_reducible refine And.intro ?_ ?_); omega) | refine bo_buildSlice (d' := ⟨⟩) ?_ | refine xk (by kernel_rfl) ?_ | refine xf ?_ (by repeat' first | exact lr _ | assumption | refine ls ?_ ?_ | refine lt ?_ ?_ | simp only [*]; done | exact lf ‹_› (by simp only [*])) | simp -dsimp only [↓bp, bq, br, seval, tbRefO, ix_bools, *])
    exact finish_le (Le.refl _) hle
end
set_option maxRecDepth 20000
section
def tbRefP := And.intro (And.intro (And.intro (And.intro @tf3 (And.intro @tf4 @tf5)) (And.intro @tf85 (And.intro @tf137 @tf9))) (And.intro (And.intro @tf40 (And.intro @tf39 @tf22)) (And.intro @tf42 (And.intro @tf133 @tf138)))) (And.intro (And.intro (And.intro @Term.flat_enc (And.intro @Term.isv_enc @Term.fold_enc)) (And.intro @isv_encs (And.intro @flat_encs @len_encs))) (And.intro (And.intro @isv_lims (And.intro @flat_lims @len_lims)) (And.intro (And.intro @isv_bools @flat_bools) (And.intro @len_bools @ix_bools))))
variable (G : Nat → AV)
theorem rep_bools (n : Nat) : (List.replicate n [AV.bool false]).flatten = (List.replicate n false).map AV.bool := by
  induction n with
  | zero => rfl
  | succ n ih => rw [List.replicate_succ, List.flatten_cons, ih, List.replicate_succ]; rfl
theorem tzB : (el Tryz.prog 133).bind (zc Tryz.prog) = some [.bool false] := by kernel_rfl
theorem items_bools (l : List Bool) : Items l.length 1 (l.map AV.bool) (l.map AV.bool) := by
  have := Items.ones (xs := l.map AV.bool) (fun a ha => by
    obtain ⟨x, _, rfl⟩ := List.mem_map.1 ha
    exact ⟨rfl, rfl⟩)
  rwa [List.length_map] at this
def qrow (a b : List Bool) (n : Nat) : List Bool := List.replicate n false ++ (partsL (a.drop n) b).1
theorem qrow_len (a b : List Bool) (n : Nat) (h : n ≤ a.length) : (qrow a b n).length = a.length := by
  unfold qrow
  rw [List.length_append, List.length_replicate, (partsL_len b _).1, List.length_drop]; omega
theorem qrow_step {a b : List Bool} {n : Nat} {x : Bool} (hx : a[n]? = some x) : qrow a b n = (qrow a b (n + 1)).set n (stepP x (partsL (a.drop (n + 1)) b).2 b).2 := by
  unfold qrow
  rw [drop_get _ _ _ hx, partsL]
  generalize (partsL (a.drop (n + 1)) b).1 = q
  generalize (stepP x (partsL (a.drop (n + 1)) b).2 b).2 = d
  refine List.ext_getElem? fun j => ?_
  rw [List.getElem?_set]
  by_cases h : n = j
  · subst h
    rw [if_pos rfl, if_pos (by simp; omega), List.getElem?_append_right (by simp)]
    simp
  · rw [if_neg h]
    by_cases h2 : j < n
    · rw [List.getElem?_append_left (by simpa using h2), List.getElem?_append_left (by simp; omega), List.getElem?_replicate, List.getElem?_replicate, if_pos h2, if_pos (by omega)]
    · rw [List.getElem?_append_right (by simp; omega), List.getElem?_append_right (by simp; omega)]
      simp only [List.length_replicate]
      rw [show j - n = (j - (n + 1)) + 1 by omega, List.getElem?_cons_succ]
theorem set_bools (l : List Bool) (i : Nat) (h : i < l.length) (d : Bool) : (l.map AV.bool).take i ++ [AV.bool d] ++ (l.map AV.bool).drop (i + 1) = (l.set i d).map AV.bool := by
  rw [List.set_eq_take_append_cons_drop, if_pos h]
  simp
theorem set_same {l : List Bool} {i : Nat} (h : l[i]? = some false) : l.set i false = l := by
  refine List.ext_getElem? fun j => ?_
  rw [List.getElem?_set]
  by_cases e : i = j
  · subst e
    rw [if_pos rfl, if_pos (List.getElem?_eq_some_iff.1 h).1, h]
  · rw [if_neg e]
set_option maxHeartbeats 4000000 in
theorem parts_pure (a b : List Bool) (ha : a.length ≤ 100000) (hb : b.length ≤ 100000) : Pure Tryz.prog G 108 [bools a, bools b] (.tup [bools (cutB (partsL a b).1), bools (partsL a b).2]) := by
  have hlen := fun n => partsL_len b (a.drop n)
  have hw0 : IntKind.i64.wrap ((a.length : Int) - 1) = a.length - 1 := wrap_nat (by omega) (by omega)
  refine Pure.of_le fun σ => ?_
  refine Tri.of_awp mixed Tryz.func108 rfl (by kernel_rfl) (by kernel_rfl) (by simp [Tryz.ntmps108]) Tryz.results108 ?_
  repeat' (first | refine xs ?_ ?_ <;> intros | ((first | refine xh ?_ | refine xi ?_); intro bx hbx; (try simp only [fb] at hbx)) | refine xj ?_ | ((with_reducible refine And.intro ?_ ?_); omega) | refine bo_buildSlice (d' := ⟨⟩) ?_ | refine xk (by kernel_rfl) ?_ | refine xf ?_ (by repeat' first | exact lr _ | assumption | refine ls ?_ ?_ | refine lt ?_ ?_ | simp only [*]; done | exact lf ‹_› (by simp only [*])) | simp -dsimp only [↓bp, bq, br, seval, tbRefP, hw0, *])
  refine make_row a.length tbB tzB (by omega) (fun qb hq => ?_)
  have hσq : σ.le (σ.setBox qb (List.replicate a.length [AV.bool false]).flatten) := le_set hq (AS.le.refl σ)
  repeat' (first | refine xs ?_ ?_ <;> intros | ((first | refine xh ?_ | refine xi ?_); intro bx hbx; (try simp only [fb] at hbx)) | refine xj ?_ | ((with_reducible refine And.intro ?_ ?_); omega) | refine bo_buildSlice (d' := ⟨⟩) ?_ | refine xk (by kernel_rfl) ?_ | refine xf ?_ (by repeat' first | exact lr _ | assumption | refine ls ?_ ?_ | refine lt ?_ ?_ | simp only [*]; done | exact lf ‹_› (by simp only [*])) | simp -dsimp only [↓bp, bq, br, seval, tbRefP, hw0, *])
  refine loop_intro (fun n e σ' => ∃ v7 : AV, n ≤ a.length ∧ e 8 = .int .i64 ((n : Int) - 1) ∧ e 7 = v7 ∧ asrc Tryz.prog 133 v7 = some ((partsL (a.drop n) b).2.map AV.bool) ∧ Le v7 (bools (partsL (a.drop n) b).2) ∧ σ.le σ' ∧ σ'.box qb = some ((qrow a b n).map AV.bool)) a.length
    ⟨.nil, Nat.le_refl _, by first | (simp -dsimp only [↓bp, bq, br, seval, tbRefP, hw0]; done) | (simp -dsimp only [↓bp, bq, br, seval, tbRefP, hw0]; try rfl), by first | (simp -dsimp only [↓bp, bq, br, seval, tbRefP]; done) | (simp -dsimp only [↓bp, bq, br, seval, tbRefP]; try rfl), by rw [List.drop_length]; unfold asrc; rw [tbBE]; rfl, by rw [List.drop_length]; exact Le.nil, hσq, by simp [AS.setBox, qrow, rep_bools, partsL]⟩ ?_
  rintro n e1 σ2 ⟨v7, hn, h8, h7, hs7, hl7, hle, hqb⟩
  clear hσq hw0
  simp -dsimp only [↓bp, bq, br, seval, tbRefP] at h8 h7
  cases n with
  | zero =>
    have hc : (0 ≤ ((0 : Nat) : Int) - 1) = False := eq_false (by omega)
    have hcut := cut_pure G (qrow a b 0) (by rw [qrow_len _ _ _ (by omega)]; omega)
    have hit := items_bools (qrow a b 0)
    rw [qrow_len _ _ _ (by omega)] at hit
    have hc2 : Pure Tryz.prog G 150 [.sl (.own qb) ((qrow a b 0).map AV.bool) []] (bools (cutB (qrow a b 0))) := hcut.lessArgs (.cons Le.gh .nil)
    have hq0 : qrow a b 0 = (partsL a b).1 := by simp [qrow]
    rw [List.drop_zero] at hl7
    have hfl : σ.le (σ2.froze qb a.length 1) := AS.froze_le hle hq.1 hq.2.1
    repeat' (first | refine xs ?_ ?_ <;> intros | ((first | refine xh ?_ | refine xi ?_); intro bx hbx; (try simp only [fb] at hbx)) | refine xj ?_ | ((with_reducible refine And.intro ?_ ?_); omega) | refine bo_buildSlice (d' := ⟨⟩) ?_ | refine xk (by kernel_rfl) ?_ | refine xf ?_ (by repeat' first | exact lr _ | assumption | refine ls ?_ ?_ | refine lt ?_ ?_ | simp only [*]; done | exact lf ‹_› (by simp only [*])) | simp -dsimp only [↓bp, bq, br, seval, tbRefP, *])
    refine freeze_use hqb hit hc2 ?_
    rw [hq0]
    repeat' (first | refine xs ?_ ?_ <;> intros | ((first | refine xh ?_ | refine xi ?_); intro bx hbx; (try simp only [fb] at hbx)) | refine xj ?_ | ((with_reducible refine And.intro ?_ ?_); omega) | refine bo_buildSlice (d' := ⟨⟩) ?_ | refine xk (by kernel_rfl) ?_ | refine xf ?_ (by repeat' first | exact lr _ | assumption | refine ls ?_ ?_ | refine lt ?_ ?_ | simp only [*]; done | exact lf ‹_› (by simp only [*])) | simp -dsimp only [↓bp, bq, br, seval, tbRefP, *])
    exact finishW_some σ hfl ⟨Le.tup (.cons (Le.refl _) (.cons hl7 .nil)), rfl⟩
  | succ n =>
    obtain ⟨x, hx⟩ : ∃ x, a[n]? = some x := ⟨_, List.getElem?_eq_getElem (by omega)⟩
    have hc : (0 ≤ (n : Int)) = True := eq_true (by omega)
    have e8 : ((n + 1 : Nat) : Int) - 1 = n := by omega
    rw [e8] at h8
    have hwk : IntKind.i64.wrap ((n : Int) - 1) = n - 1 := wrap_nat (by omega) (by omega)
    have hdr := drop_get _ _ _ hx
    have hqs := qrow_step (b := b) hx
    have h2 : (partsL (a.drop n) b).2 = (stepP x (partsL (a.drop (n + 1)) b).2 b).1 := by rw [hdr, partsL]
    have hrl : (partsL (a.drop (n + 1)) b).2.length ≤ 100000 := by
      have := (hlen (n + 1)).2
      rw [List.length_drop] at this
      omega
    have hq1 : (qrow a b (n + 1))[n]? = some false := by
      unfold qrow
      rw [List.getElem?_append_left (by simp), List.getElem?_replicate, if_pos (by omega)]
    have hql := qrow_len a b (n + 1) hn
    generalize (partsL (a.drop (n + 1)) b).2 = r at *
    have hcl := cutB_len (x :: r)
    simp only [List.length_cons] at hcl
    have hcut := cut_pure G (x :: r) (by simp only [List.length_cons]; omega)
    have hbel := below_pure G (cutB (x :: r)) b (by omega) (by omega)
    have hles := less_pure G (cutB (x :: r)) b (by omega) (by omega)
    clear hlen hdr hcl
    repeat' (first | refine xs ?_ ?_ <;> intros | ((first | refine xh ?_ | refine xi ?_); intro bx hbx; (try simp only [fb] at hbx)) | (refine app_any (ys := r.map AV.bool) (AS.le.refl _) (fun a ha => by simp at ha; subst ha; rfl) tbB hs7 (fun a ha => by obtain ⟨y, _, rfl⟩ := List.mem_map.1 ha; rfl) (by simp; omega) (fun v3 σ3 hle3 hbx3 hl3 ho3 => ?_)) | refine xj ?_ | ((with_reducible refine And.intro ?_ ?_); omega) | refine bo_buildSlice (d' := ⟨⟩) ?_ | refine xk (by kernel_rfl) ?_ | refine xf ?_ (by repeat' first | exact lr _ | assumption | refine ls ?_ ?_ | refine lt ?_ ?_ | simp only [*]; done | exact lf ‹_› (by simp only [*])) | simp -dsimp only [↓bp, bq, br, seval, tbRefP, *])
    have hcu := hcut.lessArgs (args := [v3]) (.cons hl3 .nil)
    have hle4 := hle.trans hle3
    have hb3 : σ3.box qb = some ((qrow a b (n + 1)).map AV.bool) := by rw [hbx3]; exact hqb
    have has : ∀ l : List Bool, asrc Tryz.prog 133 (bools l) = some (l.map AV.bool) := fun l => by unfold asrc bools; rw [tbBE]; rfl
    clear hcut hl3 hbx3 hqb hle hle3 hs7 hl7 h7
    by_cases hbl : below (cutB (x :: r)) b = true
    · rw [hbl] at hbel
      have hst : stepP x r b = (cutB (x :: r), false) := by unfold stepP; rw [if_pos hbl]
      rw [hst] at hqs h2
      rw [set_same hq1] at hqs
      clear hles hbl hst
      repeat' (first | refine xs ?_ ?_ <;> intros | ((first | refine xh ?_ | refine xi ?_); intro bx hbx; (try simp only [fb] at hbx)) | refine Pure.use (hcu) ?_ | refine Pure.head (hcu) ?_ | refine Pure.use (hbel) ?_ | refine Pure.head (hbel) ?_ | refine xj ?_ | ((with_reducible refine And.intro ?_ ?_); omega) | refine bo_buildSlice (d' := ⟨⟩) ?_ | refine xk (by kernel_rfl) ?_ | refine xf ?_ (by repeat' first | exact lr _ | assumption | refine ls ?_ ?_ | refine lt ?_ ?_ | simp only [*]; done | exact lf ‹_› (by simp only [*])) | simp -dsimp only [↓bp, bq, br, seval, tbRefP, hwk, *])
      exact ⟨n, by omega, _, by omega, rfl, rfl, by rw [h2]; exact has _, by rw [h2]; exact Le.refl _, by rw [hqs]⟩
    · have hbl' : below (cutB (x :: r)) b = false := by simpa using hbl
      rw [hbl'] at hbel
      have hst : stepP x r b = (lessB (cutB (x :: r)) b, true) := by unfold stepP; rw [if_neg hbl]
      rw [hst] at hqs h2
      have hsb := set_bools (qrow a b (n + 1)) n (by omega) true
      rw [← hqs] at hsb
      have hnl : (n : Int) < a.length := by omega
      have hnl2 : n + 1 ≤ ((qrow a b (n + 1)).map AV.bool).length := by rw [List.length_map]; omega
      have hle5 := le_set (cs := (qrow a b n).map AV.bool) hq hle4
      have hbq5 : (σ3.setBox qb ((qrow a b n).map AV.bool)).box qb = some ((qrow a b n).map AV.bool) := AS.set_get
      clear hbl hbl' hst
      repeat' (first | refine xs ?_ ?_ <;> intros | ((first | refine xh ?_ | refine xi ?_); intro bx hbx; (try simp only [fb] at hbx)) | refine Pure.use (hcu) ?_ | refine Pure.head (hcu) ?_ | refine Pure.use (hbel) ?_ | refine Pure.head (hbel) ?_ | refine Pure.use (hles) ?_ | refine Pure.head (hles) ?_ | refine xj ?_ | ((with_reducible refine And.intro ?_ ?_); omega) | refine bo_buildSlice (d' := ⟨⟩) ?_ | refine xk (by kernel_rfl) ?_ | refine xf ?_ (by repeat' first | exact lr _ | assumption | refine ls ?_ ?_ | refine lt ?_ ?_ | simp only [*]; done | exact lf ‹_› (by simp only [*])) | simp -dsimp only [↓bp, bq, br, seval, tbRefP, hwk, *])
      refine ⟨n, by omega, _, by omega, rfl, rfl, by rw [h2]; exact has _, by rw [h2]; exact Le.refl _, ?_⟩
      rw [Nat.mul_one, hsb]
      exact ⟨hle5, rfl⟩
end
set_option maxRecDepth 20000
section
def tbRefC0 := And.intro (And.intro (And.intro (And.intro @tf3 (And.intro @tf4 @tf5)) (And.intro (And.intro @tf85 @tf137) (And.intro @tf9 @tf40))) (And.intro (And.intro @tf39 (And.intro @tf22 @tf42)) (And.intro (And.intro @tf133 @tf138) (And.intro @Term.flat_enc @Term.isv_enc)))) (And.intro (And.intro (And.intro @Term.fold_enc (And.intro @isv_encs @flat_encs)) (And.intro (And.intro @len_encs @ix_encs) (And.intro @ix_encs' @isv_lims))) (And.intro (And.intro (And.intro @flat_lims @len_lims) (And.intro @ix_lims @ix_lims')) (And.intro (And.intro @flat_limA @isv_bools) (And.intro @flat_bools @len_bools))))
variable (G : Nat → AV)
set_option maxHeartbeats 4000000 in
theorem rright_pure (t : Term) (hb : t.bulk ≤ 1000000000) : Pure Tryz.prog G 106 [t.enc] (.bool (wr t)) := by
  have h1 := len_limbs t
  intro σ
  by_cases hl : (t.limbs.length : Int) = 0
  · have hl1 : ¬ 0 < (t.limbs.length : Int) := by omega
    have hl2 : ¬ (0 : Int) > 0 := by omega
    have e : wr t = (decide (t.knd = 1) && decide (t.text = []) && decide (t.num = 0) && decide ((t.items.length : Int) = 0) && decide ((t.tail.length : Int) = 0) && !t.neg) := by
      have e0 : decide ((t.items.length : Int) + t.tail.length = 0) = (decide ((t.items.length : Int) = 0) && decide ((t.tail.length : Int) = 0)) := by
        rw [Bool.eq_iff_iff]; simp only [Bool.and_eq_true, decide_eq_true_eq]; omega
      unfold wr
      rw [e0, hl]
      simp only [show decide ((0 : Int) ≤ 32) = true from rfl, show decide ((0 : Int) = 0) = true from rfl, show decide ((0 : Int) < 0) = false from rfl, Bool.and_true, Bool.true_and, Bool.false_and, Bool.or_false, Bool.and_assoc, decide_true]
    rw [e]
    clear h1 hb e
    refine Tri.of_awp mixed Tryz.func106 rfl (by kernel_rfl) (by kernel_rfl) (by simp [Tryz.ntmps106]) Tryz.results106 ?_
    repeat' (first | refine xs ?_ ?_ <;> intros | ((first | refine xh ?_ | refine xi ?_); intro bx hbx; (try simp only [fb] at hbx)) | refine xj ?_ | ((with_reducible refine And.intro ?_ ?_); omega) | refine bo_buildSlice (d' := ⟨⟩) ?_ | refine xk (by kernel_rfl) ?_ | refine xf ?_ (by repeat' first | exact lr _ | assumption | refine ls ?_ ?_ | refine lt ?_ ?_ | simp only [*]; done | exact lf ‹_› (by simp only [*])) | simp -dsimp only [↓bp, bq, br, seval, tbRefC0, limA, *])
    all_goals (try simp_all)
  · have hl1 : 0 < (t.limbs.length : Int) := by omega
    have hw2 : IntKind.i64.wrap ((t.limbs.length : Int) - 1) = ((t.limbs.length - 1 : Nat) : Int) := by rw [wrap_nat (by omega) (by omega)]; omega
    obtain ⟨x, hx⟩ : ∃ x, t.limbs[t.limbs.length - 1]? = some x := ⟨_, List.getElem?_eq_getElem (by omega)⟩
    have hlo : lastOk t.limbs = decide ((x.toNat : Int) ≠ 0) := by simp [lastOk, hx]
    have e : wr t = (decide (t.knd = 1) && decide (t.text = []) && decide (t.num = 0) && decide ((t.items.length : Int) = 0) && decide ((t.tail.length : Int) = 0) && decide ((t.limbs.length : Int) ≤ 32) && decide ((x.toNat : Int) ≠ 0)) := by
      unfold wr
      rw [hlo, Bool.eq_iff_iff]
      simp only [Bool.and_eq_true, decide_eq_true_eq, Bool.or_eq_true, hl, hl1, false_and, false_or, true_and]
      constructor
      · rintro ⟨⟨⟨⟨⟨a, b⟩, c⟩, d⟩, f⟩, g⟩; exact ⟨⟨⟨⟨⟨⟨a, b⟩, c⟩, by omega⟩, by omega⟩, f⟩, g⟩
      · rintro ⟨⟨⟨⟨⟨⟨a, b⟩, c⟩, d⟩, d2⟩, f⟩, g⟩; exact ⟨⟨⟨⟨⟨a, b⟩, c⟩, by omega⟩, f⟩, g⟩
    rw [e]
    clear h1 hb e hlo
    refine Tri.of_awp mixed Tryz.func106 rfl (by kernel_rfl) (by kernel_rfl) (by simp [Tryz.ntmps106]) Tryz.results106 ?_
    repeat' (first | refine xs ?_ ?_ <;> intros | ((first | refine xh ?_ | refine xi ?_); intro bx hbx; (try simp only [fb] at hbx)) | refine xj ?_ | ((with_reducible refine And.intro ?_ ?_); omega) | refine bo_buildSlice (d' := ⟨⟩) ?_ | refine xk (by kernel_rfl) ?_ | refine xf ?_ (by repeat' first | exact lr _ | assumption | refine ls ?_ ?_ | refine lt ?_ ?_ | simp only [*]; done | exact lf ‹_› (by simp only [*])) | simp -dsimp only [↓bp, bq, br, seval, tbRefC0, limA, *])
    all_goals (try simp_all)
end
set_option maxRecDepth 20000
section
def tbRefT := And.intro (And.intro (And.intro (And.intro @tf3 (And.intro @tf4 @tf5)) (And.intro @tf85 (And.intro @tf137 @tf9))) (And.intro (And.intro @tf40 (And.intro @tf86 @tf39)) (And.intro (And.intro @tf22 @tf42) (And.intro @tf133 @tf138)))) (And.intro (And.intro (And.intro @Term.flat_enc (And.intro @Term.isv_enc @Term.fold_enc)) (And.intro @isv_encs (And.intro @flat_encs @len_encs))) (And.intro (And.intro @isv_lims (And.intro @flat_lims @len_lims)) (And.intro (And.intro @isv_bools @flat_bools) (And.intro @len_bools @ix_bools))))
variable (G : Nat → AV)
theorem bv_drop : ∀ (l : List Bool) (k : Nat), bv (l.drop k) ≤ bv l
  | [], k => by simp
  | d :: l, 0 => by simp
  | d :: l, k + 1 => by have := bv_drop l k; simp only [List.drop_succ_cons, bv]; omega
theorem digs_zero : digs 0 = [] := by rw [digs]; simp
theorem digs_ahead {n : Nat} (h : n ≠ 0) (s : List UInt8) : (digs (n / 10)).reverse ++ (UInt8.ofNat (48 + n % 10) :: s) = (digs n).reverse ++ s := by
  have e : digs n = UInt8.ofNat (48 + n % 10) :: digs (n / 10) := by rw [digs, dif_neg h]
  rw [e]; simp
theorem dig_byte2 (d : Nat) (h : d < 10) : IntKind.u8.wrap (48 + (d : Int)) = ((UInt8.ofNat (48 + d)).toNat : Int) := by
  rw [ofNat_toNat (by omega)]
  have : d = 0 ∨ d = 1 ∨ d = 2 ∨ d = 3 ∨ d = 4 ∨ d = 5 ∨ d = 6 ∨ d = 7 ∨ d = 8 ∨ d = 9 := by omega
  rcases this with rfl | rfl | rfl | rfl | rfl | rfl | rfl | rfl | rfl | rfl <;> decide
set_option maxHeartbeats 4000000 in
theorem rwtext_pure (t : Term) (hb : t.bulk ≤ 1000000) : Pure Tryz.prog G 60 [t.enc] (.str (if wr t = true then wsaid t else [])) := by
  have hr := rright_pure G t (by omega)
  cases ew : wr t with
  | false =>
    rw [ew] at hr
    intro σ
    refine Tri.of_awp mixed Tryz.func60 rfl (by kernel_rfl) (by kernel_rfl) (by simp [Tryz.ntmps60]) Tryz.results60 ?_
    repeat' (first | refine xs ?_ ?_ <;> intros | ((first | refine xh ?_ | refine xi ?_); intro bx hbx; (try simp only [fb] at hbx)) | refine Pure.use (hr) ?_ | refine Pure.head (hr) ?_ | refine xj ?_ | ((with_reducible refine And.intro ?_ ?_); omega) | refine bo_buildSlice (d' := ⟨⟩) ?_ | refine xk (by kernel_rfl) ?_ | refine xf ?_ (by repeat' first | exact lr _ | assumption | refine ls ?_ ?_ | refine lt ?_ ?_ | simp only [*]; done | exact lf ‹_› (by simp only [*])) | simp -dsimp only [↓bp, bq, br, seval, tbRefT, *])
    all_goals rfl
  | true =>
    rw [ew] at hr
    rw [if_pos rfl]
    have h32 := (wr_spec ew).2.2.2.2.2.1
    have hbi := bits_pure G t (by omega)
    have hdb := dig_bound h32
    have hL0 : bv (cutB (bitsL t.limbs)) = val t.limbs := by rw [bv_cut, bv_bits]
    have hLl : (cutB (bitsL t.limbs)).length ≤ 100000 := by have := cutB_len (bitsL t.limbs); have := bitsL_len t.limbs; omega
    have hLc : (cutB (bitsL t.limbs)).length = 0 ↔ bv (cutB (bitsL t.limbs)) = 0 := by rw [bv_cut]; exact cut_len _
    generalize cutB (bitsL t.limbs) = L0 at *
    generalize hV : val t.limbs = V at *
    have hsaid : wsaid t = (if t.neg = true then [45] else []) ++ decT V := by unfold wsaid; rw [hV]
    rw [hsaid]
    clear ew hb hV hsaid h32
    intro σ
    refine Tri.of_awp mixed Tryz.func60 rfl (by kernel_rfl) (by kernel_rfl) (by simp [Tryz.ntmps60]) Tryz.results60 ?_
    simp -dsimp only [↓bp, bq, br, seval, tbRefT]
    refine newW_intro fun b1 hb1 => ?_
    have hle1 := le_set (cs := [.int .u8 t.knd, .bool t.neg, lims t.limbs, .str t.text, .int .i64 t.num, encs t.items, encs t.tail]) hb1 (AS.le.refl σ)
    repeat' (first | refine xs ?_ ?_ <;> intros | ((first | refine xh ?_ | refine xi ?_); intro bx hbx; (try simp only [fb] at hbx)) | refine Pure.use (hr) ?_ | refine Pure.head (hr) ?_ | refine Pure.use (hbi) ?_ | refine Pure.head (hbi) ?_ | refine xj ?_ | ((with_reducible refine And.intro ?_ ?_); omega) | refine bo_buildSlice (d' := ⟨⟩) ?_ | refine xk (by kernel_rfl) ?_ | refine xf ?_ (by repeat' first | exact lr _ | assumption | refine ls ?_ ?_ | refine lt ?_ ?_ | simp only [*]; done | exact lf ‹_› (by simp only [*])) | simp -dsimp only [↓bp, bq, br, seval, tbRefT, *])
    refine loop_keep mixed (fun n e => ∃ (L : List Bool) (S : List UInt8), n = bv L ∧ e 3 = bools L ∧ e 4 = .str S ∧ L.length ≤ 100000 ∧ (L.length = 0 ↔ bv L = 0) ∧ (digs (bv L)).reverse ++ S = (digs V).reverse) (bv L0)
      ⟨L0, [], rfl, by first | (simp -dsimp only [↓bp, bq, br, seval, tbRefT]; done) | (simp -dsimp only [↓bp, bq, br, seval, tbRefT]; try rfl), by first | (simp -dsimp only [↓bp, bq, br, seval, tbRefT]; done) | (simp -dsimp only [↓bp, bq, br, seval, tbRefT]; try rfl), hLl, hLc, by rw [hL0, List.append_nil]⟩ ?_
    clear hr hbi hL0 hLl hLc
    rintro n e1 ⟨L, S, rfl, h3, h4, hLl, hLc, hS⟩
    simp -dsimp only [↓bp, bq, br, seval, tbRefT] at h3 h4
    by_cases hz : bv L = 0
    · have hl0 : (0 < (L.length : Int)) = False := eq_false (by have := hLc.2 hz; omega)
      rw [hz, digs_zero] at hS
      have hS : S = (digs V).reverse := by simpa using hS
      have hSl : S.length ≤ 309 := by rw [hS, List.length_reverse]; exact hdb
      have hdec : decT V = if S = [] then [48] else S := by
        unfold decT
        by_cases hv : V = 0
        · rw [if_pos hv, if_pos (by rw [hS, hv, digs_zero]; rfl)]
        · rw [if_neg hv, if_neg (by rw [hS]; simp [digs_ne hv]), hS]
      rw [hdec]
      have m1 : 1 + S.length ≤ maxLen := by unfold maxLen; omega
      have m2 : ([45] : List UInt8).length + S.length ≤ maxLen := m1
      have m3 : ([45] : List UInt8).length + ([48] : List UInt8).length ≤ maxLen := by decide
      clear hS hLc hLl hdb hdec hz
      by_cases hs : S = []
      · rw [if_pos hs]
        have hs := eq_true hs
        cases hg : t.neg
        all_goals
          repeat' (first | refine xs ?_ ?_ <;> intros | ((first | refine xh ?_ | refine xi ?_); intro bx hbx; (try simp only [fb] at hbx)) | refine xj ?_ | ((with_reducible refine And.intro ?_ ?_); omega) | refine bo_buildSlice (d' := ⟨⟩) ?_ | refine xk (by kernel_rfl) ?_ | refine xf ?_ (by repeat' first | exact lr _ | assumption | refine ls ?_ ?_ | refine lt ?_ ?_ | simp only [*]; done | exact lf ‹_› (by simp only [*])) | simp -dsimp only [↓bp, bq, br, seval, tbRefT, *])
          all_goals rfl
      · rw [if_neg hs]
        have hs := eq_false hs
        cases hg : t.neg
        all_goals
          repeat' (first | refine xs ?_ ?_ <;> intros | ((first | refine xh ?_ | refine xi ?_); intro bx hbx; (try simp only [fb] at hbx)) | refine xj ?_ | ((with_reducible refine And.intro ?_ ?_); omega) | refine bo_buildSlice (d' := ⟨⟩) ?_ | refine xk (by kernel_rfl) ?_ | refine xf ?_ (by repeat' first | exact lr _ | assumption | refine ls ?_ ?_ | refine lt ?_ ?_ | simp only [*]; done | exact lf ‹_› (by simp only [*])) | simp -dsimp only [↓bp, bq, br, seval, tbRefT, *])
          all_goals rfl
    · have hl0 : (0 < (L.length : Int)) = True := eq_true (by have := mt hLc.1 hz; omega)
      have hp := (parts_pure G L tenB hLl (by decide)).lessArgs (args := [bools L, .sl .full [.bool false, .bool true, .bool false, .bool true] []]) (.cons (Le.refl _) (.cons Le.gh .nil))
      obtain ⟨q1, q2⟩ := parts_ten L
      have hrl := (partsL_len tenB L).2
      have hql := cutB_len (partsL L tenB).1
      rw [(partsL_len tenB L).1] at hql
      have hqc := cut_len (partsL L tenB).1
      rw [← bv_cut] at hqc
      generalize cutB (partsL L tenB).1 = Q at *
      generalize (partsL L tenB).2 = R at *
      have hR9 : bv R ≤ 9 := by omega
      have hahead := digs_ahead hz S
      rw [← q1, ← q2] at hahead
      have hSl : S.length ≤ 309 := by
        have := congrArg List.length hS
        simp only [List.length_append, List.length_reverse] at this
        omega
      have m1 : ([UInt8.ofNat (48 + bv R)] : List UInt8).length + S.length ≤ maxLen := by simp only [List.length_cons, List.length_nil]; unfold maxLen; omega
      have hbyte := dig_byte2 (bv R) (by omega)
      have hwR : IntKind.i64.wrap ((R.length : Int) - 1) = R.length - 1 := wrap_nat (by omega) (by omega)
      have hw48 : IntKind.i64.wrap (48 + (bv R : Int)) = 48 + bv R := wrap_nat (by omega) (by omega)
      have hlt : bv Q < bv L := by omega
      have hby : bytesOf [AV.int .u8 ((UInt8.ofNat (48 + bv R)).toNat : Int)] = some [UInt8.ofNat (48 + bv R)] := bytesOf_bytesA [UInt8.ofNat (48 + bv R)]
      have hfin : (digs (bv Q)).reverse ++ (UInt8.ofNat (48 + bv R) :: S) = (digs V).reverse := by rw [hahead]; exact hS
      clear q1 q2 hahead hS
      generalize UInt8.ofNat (48 + bv R) = c at *
      repeat' (first | refine xs ?_ ?_ <;> intros | ((first | refine xh ?_ | refine xi ?_); intro bx hbx; (try simp only [fb] at hbx)) | refine Pure.use (hp) ?_ | refine Pure.head (hp) ?_ | refine xj ?_ | ((with_reducible refine And.intro ?_ ?_); omega) | refine bo_buildSlice (d' := ⟨⟩) ?_ | refine xk (by kernel_rfl) ?_ | refine xf ?_ (by repeat' first | exact lr _ | assumption | refine ls ?_ ?_ | refine lt ?_ ?_ | simp only [*]; done | exact lf ‹_› (by simp only [*])) | simp -dsimp only [↓bp, bq, br, seval, tbRefT, hwR, *])
      refine loop_keep mixed (fun k e => k ≤ R.length ∧ e 8 = .int .i64 ((k : Int) - 1) ∧ e 7 = .int .i64 (bv (R.drop k) : Nat)) R.length
        ⟨Nat.le_refl _, by first | (simp -dsimp only [↓bp, bq, br, seval, tbRefT, hwR]; done) | (simp -dsimp only [↓bp, bq, br, seval, tbRefT, hwR]; try rfl), by rw [List.drop_length]; first | (simp -dsimp only [↓bp, bq, br, seval, tbRefT]; done) | (simp -dsimp only [↓bp, bq, br, seval, tbRefT]; try rfl)⟩ ?_
      clear hp hwR
      rintro k e2 ⟨hk, h8, h7⟩
      simp -dsimp only [↓bp, bq, br, seval, tbRefT] at h8 h7
      cases k with
      | zero =>
        have hc : (0 ≤ ((0 : Nat) : Int) - 1) = False := eq_false (by omega)
        rw [List.drop_zero] at h7
        repeat' (first | refine xs ?_ ?_ <;> intros | ((first | refine xh ?_ | refine xi ?_); intro bx hbx; (try simp only [fb] at hbx)) | refine xj ?_ | ((with_reducible refine And.intro ?_ ?_); omega) | refine bo_buildSlice (d' := ⟨⟩) ?_ | refine xk (by kernel_rfl) ?_ | refine xf ?_ (by repeat' first | exact lr _ | assumption | refine ls ?_ ?_ | refine lt ?_ ?_ | simp only [*]; done | exact lf ‹_› (by simp only [*])) | simp -dsimp only [↓bp, bq, br, seval, tbRefT, *])
        exact ⟨bv Q, hlt, Q, _, rfl, rfl, rfl, by omega, hqc, hfin⟩
      | succ k =>
        obtain ⟨x, hx⟩ : ∃ x, R[k]? = some x := ⟨_, List.getElem?_eq_getElem (by omega)⟩
        have e8 : ((k + 1 : Nat) : Int) - 1 = k := by omega
        rw [e8] at h8
        have hc : (0 ≤ (k : Int)) = True := eq_true (by omega)
        have hwk : IntKind.i64.wrap ((k : Int) - 1) = k - 1 := wrap_nat (by omega) (by omega)
        have hd := bv_drop R k
        have hdr := drop_get _ _ _ hx
        rw [hdr, bv] at hd
        have hw2 : IntKind.i64.wrap (2 * (bv (R.drop (k + 1)) : Int)) = 2 * bv (R.drop (k + 1)) := wrap_nat (by omega) (by omega)
        have hw3 : IntKind.i64.wrap (2 * (bv (R.drop (k + 1)) : Int) + 1) = 2 * bv (R.drop (k + 1)) + 1 := wrap_nat (by omega) (by omega)
        have hv : bv (R.drop k) = x.toNat + 2 * bv (R.drop (k + 1)) := by rw [hdr, bv]
        generalize bv (R.drop (k + 1)) = D at *
        cases x
        · simp -dsimp only [↓bp, bq, br, seval, tbRefT, h8, h7, hc, hwk, hx, hw2]
          exact ⟨k, by omega, by omega, rfl, by rw [hv]; simp⟩
        · simp -dsimp only [↓bp, bq, br, seval, tbRefT, h8, h7, hc, hwk, hx, hw2, hw3]
          exact ⟨k, by omega, by omega, rfl, by rw [hv]; simp; omega⟩
end
section
def limbsN : Nat → Nat → List UInt32
  | 0, _ => []
  | n + 1, v => UInt32.ofNat (v % 4294967296) :: limbsN n (v / 4294967296)
theorem limbsN_len : ∀ n v, (limbsN n v).length = n
  | 0, _ => rfl
  | n + 1, v => by rw [limbsN, List.length_cons, limbsN_len n]
theorem limbsN_val : ∀ n v, v < 4294967296 ^ n → val (limbsN n v) = v
  | 0, v, h => by simp at h; subst h; rfl
  | n + 1, v, h => by
    rw [limbsN, val, limbsN_val n (v / 4294967296) (by rw [Nat.pow_succ] at h; omega), UInt32.toNat_ofNat']
    omega
def limbsB (l : List Bool) : List UInt32 := limbsN ((l.length + 31) / 32) (bv l)
theorem pow32 (n : Nat) : 4294967296 ^ n = 2 ^ (32 * n) := by rw [Nat.pow_mul]
theorem limbsB_val (l : List Bool) : val (limbsB l) = bv l := by
  refine limbsN_val _ _ (Nat.lt_of_lt_of_le (bv_lt l) ?_)
  rw [pow32]
  exact Nat.pow_le_pow_right (by omega) (by omega)
theorem limbsB_len (l : List Bool) : (limbsB l).length = (l.length + 31) / 32 := limbsN_len _ _
theorem bv_append : ∀ (a b : List Bool), bv (a ++ b) = bv a + 2 ^ a.length * bv b
  | [], b => by simp [bv]
  | d :: a, b => by
    rw [List.cons_append, bv, bv, bv_append a b, List.length_cons, Nat.pow_succ, Nat.mul_add, Nat.mul_assoc, Nat.mul_left_comm]
    omega
theorem val_set : ∀ (l : List UInt32) (q : Nat) (x y : UInt32) (d : Nat), l[q]? = some x → y.toNat = x.toNat + d → val (l.set q y) = val l + 4294967296 ^ q * d
  | [], q, x, y, d, h, _ => by simp at h
  | a :: l, 0, x, y, d, h, hy => by
    simp at h; subst h
    simp only [List.set_cons_zero, val, hy, Nat.pow_zero, Nat.one_mul]; omega
  | a :: l, q + 1, x, y, d, h, hy => by
    rw [List.set_cons_succ, val, val, val_set l q x y d (by simpa using h) hy, Nat.pow_succ]
    rw [Nat.mul_add, Nat.mul_comm (4294967296 ^ q) 4294967296, Nat.mul_assoc]
    omega
theorem val_top : ∀ (l : List UInt32) (q : Nat) (x : UInt32), l[q]? = some x → 4294967296 ^ q * x.toNat ≤ val l
  | [], q, x, h => by simp at h
  | a :: l, 0, x, h => by simp at h; subst h; simp only [val, Nat.pow_zero, Nat.one_mul]; omega
  | a :: l, q + 1, x, h => by
    have := val_top l q x (by simpa using h)
    rw [val, Nat.pow_succ, Nat.mul_comm (4294967296 ^ q) 4294967296, Nat.mul_assoc]
    omega
theorem top_bit {L : List UInt32} {i : Nat} {x : UInt32} (hv : val L < 2 ^ i) (hx : L[i / 32]? = some x) : x.toNat < 2 ^ (i % 32) := by
  have h := val_top L (i / 32) x hx
  rw [pow32] at h
  have e : 2 ^ i = 2 ^ (32 * (i / 32)) * 2 ^ (i % 32) := by rw [← Nat.pow_add]; congr 1; omega
  rw [e] at hv
  exact Nat.lt_of_mul_lt_mul_left (Nat.lt_of_le_of_lt h hv)
theorem pow_split (i : Nat) : 4294967296 ^ (i / 32) * 2 ^ (i % 32) = 2 ^ i := by
  rw [pow32, ← Nat.pow_add]; congr 1; omega
theorem or_top {x r : Nat} (hr : r < 32) (hx : x < 2 ^ r) : IntKind.u32.wrap (((BitVec.ofInt IntKind.u32.bits (x : Int) ||| BitVec.ofInt IntKind.u32.bits (IntKind.u32.wrap (1 * 2 ^ min ((r : Int)).toNat IntKind.u32.bits))).toNat : Nat) : Int) = ((x + 2 ^ r : Nat) : Int) := by
  have hb : IntKind.u32.bits = 32 := rfl
  have h1 : min ((r : Int)).toNat IntKind.u32.bits = r := by rw [hb]; omega
  rw [h1]
  have h2 : (1 : Int) * 2 ^ r = ((2 ^ r : Nat) : Int) := by simp
  have h3 : 2 ^ r ≤ 2 ^ 31 := Nat.pow_le_pow_right (by omega) (by omega)
  have h4 : (2 : Nat) ^ 31 = 2147483648 := by decide
  have h5 : IntKind.u32.wrap ((2 ^ r : Nat) : Int) = ((2 ^ r : Nat) : Int) := u32_wrap (by omega) (by omega)
  rw [h2, h5, hb, BitVec.toNat_or, BitVec.toNat_ofInt, BitVec.toNat_ofInt]
  have e1 : ((x : Int) % ((2 ^ 32 : Nat) : Int)).toNat = x := by omega
  have e2 : (((2 ^ r : Nat) : Int) % ((2 ^ 32 : Nat) : Int)).toNat = 2 ^ r := by
    have : ((2 ^ 32 : Nat) : Int) = 4294967296 := by decide
    rw [this]
    generalize 2 ^ r = p at *
    omega
  rw [e1, e2]
  have e3 : x ||| 2 ^ r = x + 2 ^ r := by
    have := Nat.two_pow_add_eq_or_of_lt hx 1
    rw [Nat.mul_one] at this
    rw [Nat.or_comm, ← this, Nat.add_comm]
  rw [e3]
  exact u32_wrap (by omega) (by omega)
def bitsN (m : Nat) : List Bool := if h : m = 0 then [] else decide (m % 2 = 1) :: bitsN (m / 2)
termination_by m
decreasing_by omega
theorem bitsN_zero : bitsN 0 = [] := by rw [bitsN]; simp
theorem bitsN_step {m : Nat} (h : m ≠ 0) : bitsN m = decide (m % 2 = 1) :: bitsN (m / 2) := by rw [bitsN, dif_neg h]
theorem bitsN_bv (m : Nat) : bv (bitsN m) = m := by
  induction m using Nat.strongRecOn with
  | _ m ih =>
    by_cases h : m = 0
    · subst h; rw [bitsN_zero]; rfl
    · rw [bitsN_step h, bv, ih (m / 2) (by omega)]
      by_cases e : m % 2 = 1
      · simp [e]; omega
      · simp [e]; omega
theorem bitsN_len : ∀ (k m : Nat), m < 2 ^ k → (bitsN m).length ≤ k
  | 0, m, h => by
    have : m = 0 := by simp at h; omega
    subst this; rw [bitsN_zero]; simp
  | k + 1, m, h => by
    by_cases h0 : m = 0
    · subst h0; rw [bitsN_zero]; simp
    · rw [bitsN_step h0, List.length_cons]
      have := bitsN_len k (m / 2) (by rw [Nat.pow_succ] at h; omega)
      omega
theorem last_of {l : List UInt32} (h : l ≠ []) (hv : 4294967296 ^ (l.length - 1) ≤ val l) : lastOk l = true := by
  rcases List.eq_nil_or_concat l with e | ⟨q, x, e⟩
  · exact absurd e h
  · rw [List.concat_eq_append] at e
    subst e
    rw [val_append] at hv
    simp only [List.length_append, List.length_cons, List.length_nil, Nat.add_sub_cancel, Nat.zero_add, val, Nat.mul_zero, Nat.add_zero] at hv
    have hq := val_lt q
    have : x.toNat ≠ 0 := fun e => by rw [e] at hv; omega
    unfold lastOk
    simp
    simpa using this
theorem cut_top {l : List Bool} (h : cutB l ≠ []) : 2 ^ ((cutB l).length - 1) ≤ bv (cutB l) := by
  rcases cutN_top l l.length with h0 | h1
  · exfalso; apply h; unfold cutB; rw [h0]; rfl
  · have hlen : (cutB l).length = cutN l l.length := by unfold cutB; rw [List.length_take]; have := cutN_le l l.length; omega
    rw [← at_cut, rep_bv] at h1
    rw [hlen]
    exact Nat.ge_two_pow_of_testBit h1
theorem wr_made {l : List Bool} (hl : (cutB l).length ≤ 1024) {g : Bool} (hg : g = true → 0 < (cutB l).length) : wr (intT g (limbsB (cutB l))) = true := by
  have hlen := limbsB_len (cutB l)
  have hval := limbsB_val (cutB l)
  have key : (limbsB (cutB l)).length = 0 ∨ (0 < (limbsB (cutB l)).length ∧ lastOk (limbsB (cutB l)) = true) := by
    by_cases h0 : cutB l = []
    · left; rw [hlen, h0]; rfl
    · right
      have hp := List.length_pos_iff.2 h0
      have hk : 0 < (limbsB (cutB l)).length := by rw [hlen]; omega
      refine ⟨hk, last_of (List.length_pos_iff.1 hk) ?_⟩
      rw [hval, hlen, pow32]
      exact Nat.le_trans (Nat.pow_le_pow_right (by omega) (by omega)) (cut_top h0)
  unfold wr
  have k1 : (intT g (limbsB (cutB l))).knd = 1 := rfl
  have k2 : (intT g (limbsB (cutB l))).limbs = limbsB (cutB l) := rfl
  have k3 : (intT g (limbsB (cutB l))).neg = g := rfl
  have k4 : ((limbsB (cutB l)).length : Int) ≤ 32 := by omega
  have k5 : (intT g (limbsB (cutB l))).text = [] := rfl
  have k6 : (intT g (limbsB (cutB l))).num = 0 := rfl
  have k7 : (intT g (limbsB (cutB l))).items = [] := rfl
  have k8 : (intT g (limbsB (cutB l))).tail = [] := rfl
  rw [k1, k2, k3, k5, k6, k7, k8]
  rcases key with h | ⟨h1, h2⟩
  · have : g = false := by
      cases g with
      | false => rfl
      | true => have := hg rfl; omega
    subst this
    simp [h]
  · simp [k4, h1, h2]
end
end Go.Proofs.YtphnoaihojccbaaGreatDoor
