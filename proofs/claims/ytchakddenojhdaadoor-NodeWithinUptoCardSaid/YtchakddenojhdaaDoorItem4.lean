/- What is an item, whole. -/
import Derived.Test.YtchakddenojhdaaDoorItem3
set_option linter.unusedVariables false
set_option linter.unusedSimpArgs false
-- TF: 3 4 5 9 22 23 25 27 31 45 46 60
-- EX: Node.flat_enc Node.isv_enc Node.fold_enc isv_encs flat_encs len_encs ix_encs ix_encs'
namespace Go.Proofs.YtchakddenojhdaaDoor
open Go Go.Av Go.RowKit
variable (G : Nat → AV)

def itemF : Nat → Node → Bool
  | 0, _ => false
  | n + 1, t => itemStep (itemF n) t
/-- is a tree an item -/
def item (t : Node) : Bool := itemF t.bulk t

theorem all_same {α : Type} {f g : α → Bool} {l : List α} (h : ∀ x, x ∈ l → f x = g x) : l.all f = l.all g := by
  induction l with
  | nil => rfl
  | cons x l ih => rw [List.all_cons, List.all_cons, h x (by simp), ih fun y hy => h y (by simp [hy])]
section congr
variable {f g : Node → Bool} {t : Node}
theorem body_congr (h : f t = g t) : bodyW f t = bodyW g t := by unfold bodyW; rw [h]
theorem clause_congr (h : ∀ k : Node, k.bulk < t.bulk → f k = g k) : clauseW f t = clauseW g t := by
  by_cases hl : (t.kids.length : Int) = 3
  · have hk := fun i (hi : i < t.kids.length) => bulk_kid (kid_mem hi)
    have hkk := fun i (hi : i < t.kids.length) => fun x (hx : x ∈ (kid t.kids i).kids) => Nat.lt_trans (bulk_kid hx) (hk i hi)
    unfold clauseW
    rw [all_same (f := f) (g := g) fun x hx => h x (hkk 0 (by omega) x hx), all_same (f := bodyW f) (g := bodyW g) fun x hx => body_congr (h x (hkk 1 (by omega) x hx)), body_congr (h _ (hk 2 (by omega)))]
  · simp [clauseW, hl]
theorem single_congr (h : ∀ k : Node, k.bulk < t.bulk → f k = g k) : singleW f t = singleW g t := by unfold singleW; rw [clause_congr h]
theorem guarded_congr (h : ∀ k : Node, k.bulk < t.bulk → f k = g k) : guardedW f t = guardedW g t := by unfold guardedW; rw [clause_congr h]
theorem caught_congr (h : ∀ k : Node, k.bulk < t.bulk → f k = g k) : caughtW f t = caughtW g t := by unfold caughtW; rw [single_congr h]
theorem after_congr (h : ∀ k : Node, k.bulk < t.bulk → f k = g k) : afterW f t = afterW g t := by
  by_cases hl : (t.kids.length : Int) = 2
  · have hk := fun i (hi : i < t.kids.length) => bulk_kid (kid_mem hi)
    unfold afterW
    rw [h _ (hk 0 (by omega)), body_congr (h _ (hk 1 (by omega)))]
  · simp [afterW, hl]
theorem qual_congr (h0 : f t = g t) (h : ∀ k : Node, k.bulk < t.bulk → f k = g k) : qualW f t = qualW g t := by
  unfold qualW
  rw [h0, all_same (f := f) (g := g) fun x hx => h x (bulk_kid hx)]
theorem kids_congr (k : Int) (h : ∀ k : Node, k.bulk < t.bulk → f k = g k) (hw : Wants t k) : kidsW f t k = kidsW g t k := by
  have hi : ∀ x, x ∈ t.kids → f x = g x := fun x hx => h x (bulk_kid hx)
  have hd : ∀ x, x ∈ t.kids → ∀ k : Node, k.bulk < x.bulk → f k = g k := fun x hx k hk => h k (Nat.lt_trans hk (bulk_kid hx))
  have hz : k = 101 ∨ k = 116 ∨ k = 113 → f (kid t.kids 0) = g (kid t.kids 0) := fun hk => hi _ (kid_mem (by have := hw.1 hk; omega))
  unfold kidsW
  rw [all_same (f := f) (g := g) hi, all_same (f := clauseW f) (g := clauseW g) fun x hx => clause_congr (hd x hx), all_same (f := guardedW f) (g := guardedW g) fun x hx => guarded_congr (hd x hx),
    all_same (l := t.kids.drop 1) (f := singleW f) (g := singleW g) (drop_all fun x hx => single_congr (hd x hx)), all_same (l := t.kids.drop 1) (f := caughtW f) (g := caughtW g) (drop_all fun x hx => caught_congr (hd x hx)),
    all_same (l := t.kids.drop 1) (f := qualW f) (g := qualW g) (drop_all fun x hx => qual_congr (hi x hx) (hd x hx)),
    all_same (l := t.kids.take _) (f := singleW f) (g := singleW g) (take_all fun x hx => single_congr (hd x hx)),
    all_same (l := t.kids.drop ((t.kids.length : Int) - t.num).toNat) (f := afterW f) (g := afterW g) (drop_all fun x hx => after_congr (hd x hx))]
  by_cases h1 : k = 101
  · subst h1; simp [hz]
  · by_cases h2 : k = 116
    · subst h2; simp [body_congr (hz (by simp))]
    · by_cases h3 : k = 113
      · subst h3; simp [hz]
      · simp [h1, h2, h3]
theorem step_congr (h : ∀ k : Node, k.bulk < t.bulk → f k = g k) : itemStep f t = itemStep g t := by
  unfold itemStep
  have h1 := t.knd_nn
  split
  · rfl
  · rename_i hn
    split
    · rfl
    · rename_i hn2
      simp only [Bool.or_eq_true, Bool.and_eq_true, decide_eq_true_eq, not_or, not_and] at hn hn2
      rw [kids_congr _ h (wants_of (by omega) (by omega) (by omega) (by omega) (by omega))]
end congr
theorem itemF_enough : ∀ (n m : Nat) (t : Node), t.bulk ≤ n → t.bulk ≤ m → itemF n t = itemF m t
  | 0, _, t, h, _ => by have := t.bulk_eq; omega
  | _ + 1, 0, t, _, h => by have := t.bulk_eq; omega
  | n + 1, m + 1, t, h1, h2 => step_congr fun k hk => itemF_enough n m k (by omega) (by omega)
theorem item_eq (t : Node) : item t = itemStep item t := by
  unfold item
  cases hn : t.bulk with
  | zero => have := t.bulk_eq; omega
  | succ n => exact step_congr fun k hk => itemF_enough _ _ k (by omega) (Nat.le_refl _)
/-- its walk -/
theorem item_pure (hs : G 0 = .rp shapeCells) (m : Int) (hm : G 1 = .rp [.int .i64 m]) : ∀ (n : Nat) (t : Node), t.bulk ≤ n → t.bulk ≤ 1000000000 → Pure Tryd.prog G 35 [t.enc] (.bool (item t))
  | 0, t, h, _ => by have := t.bulk_eq; omega
  | n + 1, t, h, hb => by
    rw [item_eq]
    exact item_step G hs m hm t (fun k hk => item_pure hs m hm n k (by omega) (by omega)) hb
end Go.Proofs.YtchakddenojhdaaDoor
