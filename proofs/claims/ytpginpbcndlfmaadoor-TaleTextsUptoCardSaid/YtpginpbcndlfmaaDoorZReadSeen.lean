/- What is read of the arguments: what is seen, numbers. -/
import Derived.Test.YtpginpbcndlfmaaDoorZRead2
import Derived.Test.YtpginpbcndlfmaaDoorZTaleX
set_option linter.unusedVariables false
set_option linter.unusedSimpArgs false
set_option maxRecDepth 100000
namespace Go.Proofs.YtpginpbcndlfmaaDoor
open Go Go.Av Go.RowKit Go.ChangeShapes
variable {H : Type}
theorem i64_of {m : Int} (h : (Lit.int .i64 m).wf = true) : i64R m := by
  have h0 : IntKind.i64.min = -9223372036854775808 := by decide
  have h1 : IntKind.i64.max = 9223372036854775807 := by decide
  simp only [Lit.wf, Bool.and_eq_true, decide_eq_true_eq, h0, h1] at h
  exact h
theorem read_ended (n : Nat) (d : DataW H) (h : tyW Tryd.prog n 44 d) : ∃ e : Ended, avW d = e.enc ∧ (e.reason.bulk + 1 ≤ Rows.uptoBulk d ∧ i64R e.pid) := by
  obtain ⟨ds, m, rfl, rfl, hl, hf⟩ := tyW_struct h Tryd.underlying44
  match ds, hl with
  | [d0, d1], _ =>
    obtain ⟨k, rfl, hk⟩ := tyW_int (hf 0 _ d0 rfl rfl) Tryd.underlying3
    obtain ⟨t, ht, hb⟩ := read_term m d1 (hf 1 _ d1 rfl rfl)
    refine ⟨⟨k, t⟩, ?_, ?_, i64_of hk⟩
    · have e4 : avW (.agg [.lit (.int .i64 k), d1] : DataW H) = .agg (flat (.int .i64 k) ++ (flat (avW d1) ++ [])) := by
        simp [avW, flatsW]
      rw [e4, ht, t.flat_enc]
      simp [flat, Ended.enc]
    · simp only [Rows.uptoBulk, Rows.uptoBulkAll]; omega
theorem read_named (n : Nat) (d : DataW H) (h : tyW Tryd.prog n 46 d) : ∃ e : Named, avW d = e.enc ∧ (e.name.length + 2 ≤ Rows.uptoBulk d ∧ i64R e.pid) := by
  obtain ⟨ds, m, rfl, rfl, hl, hf⟩ := tyW_struct h Tryd.underlying46
  match ds, hl with
  | [d0, d1], _ =>
    obtain ⟨s, rfl, _⟩ := tyW_str (hf 0 _ d0 rfl rfl) Tryd.underlying9
    obtain ⟨k, rfl, hk⟩ := tyW_int (hf 1 _ d1 rfl rfl) Tryd.underlying3
    refine ⟨⟨s, k⟩, ?_, ?_, i64_of hk⟩
    · simp [avW, flatsW, flat, Named.enc]
    · simp only [Rows.uptoBulk, Rows.uptoBulkAll]; omega
theorem bulkE_le {l : List Ended} {xs : List (DataW H)} (hl : l.length = xs.length) (h : ∀ (i : Nat) x a, xs[i]? = some x → l[i]? = some a → a.reason.bulk + 1 ≤ Rows.uptoBulk x ∧ i64R a.pid) : bulkE l ≤ Rows.uptoBulkAll xs ∧ ∀ a, a ∈ l → i64R a.pid := by
  induction l generalizing xs with
  | nil => exact ⟨by simp [bulkE], fun a ha => by cases ha⟩
  | cons a l ih =>
    cases xs with
    | nil => simp at hl
    | cons x xs =>
      have h0 := h 0 x a rfl rfl
      have h1 := ih (xs := xs) (by simpa using hl) (fun i y b hy hb => h (i + 1) y b (by simpa using hy) (by simpa using hb))
      refine ⟨by simp only [bulkE, Rows.uptoBulkAll]; omega, fun b hb => ?_⟩
      rcases List.mem_cons.1 hb with rfl | hb
      · exact h0.2
      · exact h1.2 b hb
theorem bulkN_le {l : List Named} {xs : List (DataW H)} (hl : l.length = xs.length) (h : ∀ (i : Nat) x a, xs[i]? = some x → l[i]? = some a → a.name.length + 2 ≤ Rows.uptoBulk x ∧ i64R a.pid) : bulkN l ≤ Rows.uptoBulkAll xs ∧ ∀ a, a ∈ l → i64R a.pid := by
  induction l generalizing xs with
  | nil => exact ⟨by simp [bulkN], fun a ha => by cases ha⟩
  | cons a l ih =>
    cases xs with
    | nil => simp at hl
    | cons x xs =>
      have h0 := h 0 x a rfl rfl
      have h1 := ih (xs := xs) (by simpa using hl) (fun i y b hy hb => h (i + 1) y b (by simpa using hy) (by simpa using hb))
      refine ⟨by simp only [bulkN, Rows.uptoBulkAll]; omega, fun b hb => ?_⟩
      rcases List.mem_cons.1 hb with rfl | hb
      · exact h0.2
      · exact h1.2 b hb
theorem read_seen (n : Nat) (d : DataW H) (h : tyW Tryd.prog n 26 d) : ∃ s : Seen, avW d = s.enc ∧ s.bulk ≤ Rows.uptoBulk d ∧ s.Rng := by
  obtain ⟨ds, m, rfl, rfl, hl, hf⟩ := tyW_struct h Tryd.underlying26
  match ds, hl with
  | [d0, d1, d2, d3, d4, d5], _ =>
    obtain ⟨xs, sp, q, hx, hq, hxs⟩ := tyW_slice (hf 0 _ d0 rfl rfl) Tryd.underlying22
    obtain ⟨ys, sq, q2, hy, hq2, hys⟩ := tyW_slice (hf 1 _ d1 rfl rfl) Tryd.underlying23
    obtain ⟨zs, sr, q3, hz, hq3, hzs⟩ := tyW_slice (hf 2 _ d2 rfl rfl) Tryd.underlying24
    obtain ⟨k3, rfl, hk3⟩ := tyW_int (hf 3 _ d3 rfl rfl) Tryd.underlying3
    obtain ⟨k4, rfl, hk4⟩ := tyW_int (hf 4 _ d4 rfl rfl) Tryd.underlying3
    obtain ⟨k5, rfl, hk5⟩ := tyW_int (hf 5 _ d5 rfl rfl) Tryd.underlying3
    obtain ⟨l, h1, h2, h3⟩ := slice_dec (enc := Term.enc) (good := fun x a => a.bulk ≤ Rows.uptoBulk x) (fun x hx => read_term q x hx) xs hxs
    obtain ⟨l2, i1, i2, i3⟩ := slice_dec (enc := Ended.enc) (good := fun x a => a.reason.bulk + 1 ≤ Rows.uptoBulk x ∧ i64R a.pid) (fun x hx => read_ended q2 x hx) ys hys
    obtain ⟨l3, j1, j2, j3⟩ := slice_dec (enc := Named.enc) (good := fun x a => a.name.length + 2 ≤ Rows.uptoBulk x ∧ i64R a.pid) (fun x hx => read_named q3 x hx) zs hzs
    have hb := bulks_le h2 h3
    have hb2 := bulkE_le i2 i3
    have hb3 := bulkN_le j2 j3
    refine ⟨⟨l, l2, l3, k3, k4, k5⟩, ?_, ?_, ⟨hb2.2, hb3.2, i64_of hk3, i64_of hk4, i64_of hk5⟩⟩
    · have e1 : flat (avW d0) = [.sl .none (l.map Term.enc) []] := by
        rcases hx with ⟨rfl, rfl⟩ | rfl
        · simp only [avWs, List.length_nil, List.length_eq_zero_iff] at h1 h2
          subst h2
          simp [avW, flat]
        · simp [avW, flat, h1]
      have e2 : flat (avW d1) = [.sl .none (l2.map Ended.enc) []] := by
        rcases hy with ⟨rfl, rfl⟩ | rfl
        · simp only [avWs, List.length_nil, List.length_eq_zero_iff] at i1 i2
          subst i2
          simp [avW, flat]
        · simp [avW, flat, i1]
      have e3 : flat (avW d2) = [.sl .none (l3.map Named.enc) []] := by
        rcases hz with ⟨rfl, rfl⟩ | rfl
        · simp only [avWs, List.length_nil, List.length_eq_zero_iff] at j1 j2
          subst j2
          simp [avW, flat]
        · simp [avW, flat, j1]
      have e4 : avW (.agg [d0, d1, d2, .lit (.int .i64 k3), .lit (.int .i64 k4), .lit (.int .i64 k5)] : DataW H) = .agg (flat (avW d0) ++ (flat (avW d1) ++ (flat (avW d2) ++ (flat (.int .i64 k3) ++ (flat (.int .i64 k4) ++ (flat (.int .i64 k5) ++ [])))))) := by
        simp [avW, flatsW]
      rw [e4, e1, e2, e3]
      simp [flat, Seen.enc, encs, encE, encN]
    · have hb2 := hb2.1
      have hb3 := hb3.1
      unfold Seen.bulk
      rcases hx with ⟨rfl, rfl⟩ | rfl <;> rcases hy with ⟨rfl, rfl⟩ | rfl <;> rcases hz with ⟨rfl, rfl⟩ | rfl <;> simp only [Rows.uptoBulk, Rows.uptoBulkAll] at hb hb2 hb3 ⊢ <;> omega
theorem read_int (n : Nat) (d : DataW H) (h : tyW Tryd.prog n 3 d) : ∃ m : Int, avW d = .int .i64 m := by
  obtain ⟨k, rfl, hk⟩ := tyW_int h Tryd.underlying3
  exact ⟨k, by simp [avW]⟩
/-- the types of what is read -/
def S2 : List TypeId := [26, 44, 46, 23, 24] ++ S
theorem closedS2 : closedT Tryd.prog S2 = true := by kernel_rfl
theorem trodAll_five {enc : TypeId × Value → H} {P : Program} {w : World} {base : Nat} {spare : Nat → Bool} {held : Bool} {t t' t'' t3 t4 : TypeId} {args : Array Value} {ds : List (DataW H)} {ps : List MemPlace} (h : DataW.TrodAll enc P w base spare held [t, t', t'', t3, t4] args.toList ds ps) :
    ∃ v v' v'' v3 v4 d d' d'' d3 d4 p p' p'' p3 p4, args = #[v, v', v'', v3, v4] ∧ ds = [d, d', d'', d3, d4] ∧ ps = p ++ p' ++ p'' ++ p3 ++ p4 ∧ DataW.Trod enc P w base spare held t v d p ∧ DataW.Trod enc P w base spare held t' v' d' p' ∧ DataW.Trod enc P w base spare held t'' v'' d'' p'' ∧ DataW.Trod enc P w base spare held t3 v3 d3 p3 ∧ DataW.Trod enc P w base spare held t4 v4 d4 p4 := by
  obtain ⟨v, vs, d, ds', p, q, hargs, rfl, rfl, hd, hrest⟩ := trodAll_cons h
  obtain ⟨v', vs', d', ds'', p', q', rfl, rfl, rfl, hd', hrest'⟩ := trodAll_cons hrest
  obtain ⟨v'', vs'', d'', ds''', p'', q'', rfl, rfl, rfl, hd'', hrest''⟩ := trodAll_cons hrest'
  obtain ⟨v3, vs3, d3, ds3, p3, q3, rfl, rfl, rfl, hd3, hrest3⟩ := trodAll_cons hrest''
  obtain ⟨v4, vs4, d4, ds4, p4, q4, rfl, rfl, rfl, hd4, hrest4⟩ := trodAll_cons hrest3
  obtain ⟨rfl, rfl, rfl⟩ := trodAll_nil hrest4
  exact ⟨v, v', v'', v3, v4, d, d', d'', d3, d4, p, p', p'', p3, p4, by cases args; simp_all, rfl, by simp, hd, hd', hd'', hd3, hd4⟩
end Go.Proofs.YtpginpbcndlfmaaDoor
