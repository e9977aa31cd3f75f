/- Which names are built in: the document's way: walked. -/
import Derived.Test.YtjmdaeabllkgnaaGreatDoorY20
import Derived.Test.YtjmdaeabllkgnaaGreatDoorY16
import Derived.Test.YtjmdaeabllkgnaaGreatDoorY31
import Derived.Test.YtjmdaeabllkgnaaGreatDoorY41
import Derived.Test.YtjmdaeabllkgnaaGreatDoorY21
set_option linter.unusedVariables false
set_option linter.unusedSimpArgs false
set_option maxRecDepth 20000
set_option linter.defProp false
namespace Go.Proofs.YtjmdaeabllkgnaaGreatDoor
open Go Go.Av
section
def tbKindR := And.intro (And.intro @tf3 (And.intro @tf4 @tf5)) (And.intro (And.intro @tf9 @tf124) (And.intro @len_texts @ix_texts))
variable (G : Nat -> AV)
def kW30 : List (List UInt8) := [[115, 101, 108, 102], [109, 97, 107, 101, 95, 114, 101, 102], [110, 111, 119]]
def kW21 : List (List UInt8) := [[43], [45], [110, 111, 116], [97, 98, 115], [104, 100], [116, 108], [108, 101, 110, 103, 116, 104], [116, 117, 112, 108, 101, 95, 115, 105, 122, 101], [105, 115, 95, 105, 110, 116, 101, 103, 101, 114], [105, 115, 95, 97, 116, 111, 109], [105, 115, 95, 116, 117, 112, 108, 101], [105, 115, 95, 108, 105, 115, 116], [105, 115, 95, 112, 105, 100], [105, 115, 95, 114, 101, 102, 101, 114, 101, 110, 99, 101], [105, 115, 95, 102, 117, 110, 99, 116, 105, 111, 110], [105, 115, 95, 98, 111, 111, 108, 101, 97, 110]]
def kW11 : List (List UInt8) := [[116, 117, 112, 108, 101, 95, 116, 111, 95, 108, 105, 115, 116], [108, 105, 115, 116, 95, 116, 111, 95, 116, 117, 112, 108, 101], [97, 116, 111, 109, 95, 116, 111, 95, 108, 105, 115, 116], [108, 105, 115, 116, 95, 116, 111, 95, 97, 116, 111, 109], [105, 110, 116, 101, 103, 101, 114, 95, 116, 111, 95, 108, 105, 115, 116], [108, 105, 115, 116, 95, 116, 111, 95, 105, 110, 116, 101, 103, 101, 114], [114, 101, 118, 101, 114, 115, 101], [115, 117, 109], [115, 111, 114, 116], [117, 115, 111, 114, 116], [108, 97, 115, 116], [116, 104, 114, 111, 119], [101, 114, 114, 111, 114], [101, 120, 105, 116]]
def kW31 : List (List UInt8) := [[115, 112, 97, 119, 110], [115, 112, 97, 119, 110, 95, 108, 105, 110, 107], [115, 112, 97, 119, 110, 95, 109, 111, 110, 105, 116, 111, 114], [108, 105, 110, 107], [117, 110, 108, 105, 110, 107], [109, 111, 110, 105, 116, 111, 114], [100, 101, 109, 111, 110, 105, 116, 111, 114], [116, 114, 97, 112, 95, 101, 120, 105, 116], [117, 110, 114, 101, 103, 105, 115, 116, 101, 114], [119, 104, 101, 114, 101, 105, 115], [112, 114, 105, 110, 116]]
def kW22 : List (List UInt8) := [[43], [45], [42], [100, 105, 118], [114, 101, 109], [61, 61], [47, 61], [61, 58, 61], [61, 47, 61], [60], [61, 60], [62], [62, 61], [97, 110, 100], [111, 114], [120, 111, 114], [101, 108, 101, 109, 101, 110, 116], [105, 115, 95, 102, 117, 110, 99, 116, 105, 111, 110]]
def kW12 : List (List UInt8) := [[43, 43], [45, 45], [109, 97, 120], [109, 105, 110], [110, 116, 104], [110, 116, 104, 116, 97, 105, 108], [109, 101, 109, 98, 101, 114], [115, 101, 113]]
def kW32 : List (List UInt8) := [[33], [101, 120, 105, 116], [114, 101, 103, 105, 115, 116, 101, 114]]
def kindR (name : List UInt8) (a : Int) : Int :=
 if a = 0 then (if kW30.contains name = true then 3 else 0)
 else if a = 1 then (if kW21.contains name = true then 2 else if kW11.contains name = true then 1 else if kW31.contains name = true then 3 else 0)
 else if a = 2 then (if kW22.contains name = true then 2 else if kW12.contains name = true then 1 else if kW32.contains name = true then 3 else 0)
 else if a = 3 then (if name = [115, 101, 116, 101, 108, 101, 109, 101, 110, 116] then 1 else 0) else 0
theorem contains_take {l : List (List UInt8)} {x : List UInt8} {i : Nat} {k : List UInt8} (h : (l.take i).contains x = false) (hk : l[i]? = some k) (hne : k ≠ x) : (l.take (i + 1)).contains x = false := by
 rw [take_succ_get _ _ _ hk, List.contains_append, h, Bool.false_or]
 simpa using fun e => hne e.symm
theorem among_pure (x : List UInt8) (l : List (List UInt8)) (hl : l.length <= 1000000) : Pure Tryz.prog G 197 [.str x, texts l] (.bool (l.contains x)) := by
 intro σ
 refine Tri.of_awp mixed Tryz.func197 rfl (by kernel_rfl) (by kernel_rfl) (by simp [Tryz.ntmps197]) Tryz.results197 ?_
 repeat' (first | refine xs ?_ ?_ <;> intros | (refine wn ?_; intro bx hbx; try simp only [fb] at hbx) | refine wj ?_ | simp -dsimp only [↓bp, bq, br, seval, tbKindR, *] | refine wz ?_ | fail)
 refine loop_keep mixed (fun n e => ∃ i : Nat, i <= l.length /\ n = l.length - i /\ e 5 = .int .i64 i /\ (l.take i).contains x = false) l.length
  ⟨0, by omega, by omega, by first | (simp -dsimp only [↓bp, bq, br, seval, tbKindR]; done) | (simp -dsimp only [↓bp, bq, br, seval, tbKindR]; try rfl), by simp⟩ ?_
 rintro n e ⟨i, hi, rfl, h5, hc⟩
 simp -dsimp only [↓bp, bq, br, seval, tbKindR] at h5
 by_cases hlt : i < l.length
 ·have hlt' : ((i : Int) < l.length) = True := eq_true (by omega)
  obtain ⟨k, hk⟩ : ∃ k, l[i]? = some k := ⟨_, List.getElem?_eq_getElem hlt⟩
  have hwi : IntKind.i64.wrap ((i : Int) + 1) = ((i + 1 : Nat) : Int) := by rw [wrap_nat (by omega) (by omega)]; rfl
  by_cases hkx : k = x
  ·subst hkx
   have hf : l.contains k = true := by simpa using List.mem_of_getElem? hk
   rw [hf]
   clear hc hi hf
   repeat' (first | refine xs ?_ ?_ <;> intros | (refine wn ?_; intro bx hbx; try simp only [fb] at hbx) | refine wj ?_ | simp -dsimp only [↓bp, bq, br, seval, tbKindR, *] | refine wz ?_ | fail)
   all_goals rfl
  ·have hkx' := eq_false hkx
   have hn := contains_take hc hk hkx
   clear hc hkx
   repeat' (first | refine xs ?_ ?_ <;> intros | (refine wn ?_; intro bx hbx; try simp only [fb] at hbx) | refine wj ?_ | simp -dsimp only [↓bp, bq, br, seval, tbKindR, *] | refine wz ?_ | fail)
   all_goals exact ⟨l.length - (i + 1), by omega, i + 1, by omega, rfl, rfl, hn⟩
 ·have : i = l.length := by omega
  subst this
  have hlt' : ((l.length : Int) < l.length) = False := eq_false (by omega)
  rw [List.take_length] at hc
  rw [hc]
  clear hc hlt hi
  repeat' (first | refine xs ?_ ?_ <;> intros | (refine wn ?_; intro bx hbx; try simp only [fb] at hbx) | refine wj ?_ | simp -dsimp only [↓bp, bq, br, seval, tbKindR, *] | refine wz ?_ | fail)
  all_goals rfl
theorem among30 (x : List UInt8) : Pure Tryz.prog G 197 [.str x, .sl .full [.str [115, 101, 108, 102], .str [109, 97, 107, 101, 95, 114, 101, 102], .str [110, 111, 119]] []] (.bool (kW30.contains x)) := (among_pure G x kW30 (by decide)).lessArgs (.cons (Le.refl _) (.cons Le.gh .nil))
theorem among21 (x : List UInt8) : Pure Tryz.prog G 197 [.str x, .sl .full [.str [43], .str [45], .str [110, 111, 116], .str [97, 98, 115], .str [104, 100], .str [116, 108], .str [108, 101, 110, 103, 116, 104], .str [116, 117, 112, 108, 101, 95, 115, 105, 122, 101], .str [105, 115, 95, 105, 110, 116, 101, 103, 101, 114], .str [105, 115, 95, 97, 116, 111, 109], .str [105, 115, 95, 116, 117, 112, 108, 101], .str [105, 115, 95, 108, 105, 115, 116], .str [105, 115, 95, 112, 105, 100], .str [105, 115, 95, 114, 101, 102, 101, 114, 101, 110, 99, 101], .str [105, 115, 95, 102, 117, 110, 99, 116, 105, 111, 110], .str [105, 115, 95, 98, 111, 111, 108, 101, 97, 110]] []] (.bool (kW21.contains x)) := (among_pure G x kW21 (by decide)).lessArgs (.cons (Le.refl _) (.cons Le.gh .nil))
theorem among11 (x : List UInt8) : Pure Tryz.prog G 197 [.str x, .sl .full [.str [116, 117, 112, 108, 101, 95, 116, 111, 95, 108, 105, 115, 116], .str [108, 105, 115, 116, 95, 116, 111, 95, 116, 117, 112, 108, 101], .str [97, 116, 111, 109, 95, 116, 111, 95, 108, 105, 115, 116], .str [108, 105, 115, 116, 95, 116, 111, 95, 97, 116, 111, 109], .str [105, 110, 116, 101, 103, 101, 114, 95, 116, 111, 95, 108, 105, 115, 116], .str [108, 105, 115, 116, 95, 116, 111, 95, 105, 110, 116, 101, 103, 101, 114], .str [114, 101, 118, 101, 114, 115, 101], .str [115, 117, 109], .str [115, 111, 114, 116], .str [117, 115, 111, 114, 116], .str [108, 97, 115, 116], .str [116, 104, 114, 111, 119], .str [101, 114, 114, 111, 114], .str [101, 120, 105, 116]] []] (.bool (kW11.contains x)) := (among_pure G x kW11 (by decide)).lessArgs (.cons (Le.refl _) (.cons Le.gh .nil))
theorem among31 (x : List UInt8) : Pure Tryz.prog G 197 [.str x, .sl .full [.str [115, 112, 97, 119, 110], .str [115, 112, 97, 119, 110, 95, 108, 105, 110, 107], .str [115, 112, 97, 119, 110, 95, 109, 111, 110, 105, 116, 111, 114], .str [108, 105, 110, 107], .str [117, 110, 108, 105, 110, 107], .str [109, 111, 110, 105, 116, 111, 114], .str [100, 101, 109, 111, 110, 105, 116, 111, 114], .str [116, 114, 97, 112, 95, 101, 120, 105, 116], .str [117, 110, 114, 101, 103, 105, 115, 116, 101, 114], .str [119, 104, 101, 114, 101, 105, 115], .str [112, 114, 105, 110, 116]] []] (.bool (kW31.contains x)) := (among_pure G x kW31 (by decide)).lessArgs (.cons (Le.refl _) (.cons Le.gh .nil))
theorem among22 (x : List UInt8) : Pure Tryz.prog G 197 [.str x, .sl .full [.str [43], .str [45], .str [42], .str [100, 105, 118], .str [114, 101, 109], .str [61, 61], .str [47, 61], .str [61, 58, 61], .str [61, 47, 61], .str [60], .str [61, 60], .str [62], .str [62, 61], .str [97, 110, 100], .str [111, 114], .str [120, 111, 114], .str [101, 108, 101, 109, 101, 110, 116], .str [105, 115, 95, 102, 117, 110, 99, 116, 105, 111, 110]] []] (.bool (kW22.contains x)) := (among_pure G x kW22 (by decide)).lessArgs (.cons (Le.refl _) (.cons Le.gh .nil))
theorem among12 (x : List UInt8) : Pure Tryz.prog G 197 [.str x, .sl .full [.str [43, 43], .str [45, 45], .str [109, 97, 120], .str [109, 105, 110], .str [110, 116, 104], .str [110, 116, 104, 116, 97, 105, 108], .str [109, 101, 109, 98, 101, 114], .str [115, 101, 113]] []] (.bool (kW12.contains x)) := (among_pure G x kW12 (by decide)).lessArgs (.cons (Le.refl _) (.cons Le.gh .nil))
theorem among32 (x : List UInt8) : Pure Tryz.prog G 197 [.str x, .sl .full [.str [33], .str [101, 120, 105, 116], .str [114, 101, 103, 105, 115, 116, 101, 114]] []] (.bool (kW32.contains x)) := (among_pure G x kW32 (by decide)).lessArgs (.cons (Le.refl _) (.cons Le.gh .nil))
set_option maxHeartbeats 4000000 in
theorem kindR_pure (x : List UInt8) (a : Int) : Pure Tryz.prog G 152 [.str x, .int .i64 a] (.int .i64 (kindR x a)) := by
 unfold kindR
 by_cases h0 : a = 0
 ·rw [if_pos h0]
  subst h0
  have p1 := among30 G x
  have p2 := p1
  have p3 := p1
  generalize kW30.contains x = b at *
  cases b
  ·rw [if_neg (by simp)]
   intro σ
   refine Tri.of_awp mixed Tryz.func152 rfl (by kernel_rfl) (by kernel_rfl) (by simp [Tryz.ntmps152]) Tryz.results152 ?_
   repeat' (first | refine xs ?_ ?_ <;> intros | (refine wn ?_; intro bx hbx; try simp only [fb] at hbx) | refine wp p1 ?_ | refine wp p2 ?_ | refine wp p3 ?_ | refine wj ?_ | simp -dsimp only [↓bp, bq, br, seval, tbKindR, *] | refine wz ?_ | fail)
   all_goals rfl
  ·rw [if_pos rfl]
   intro σ
   refine Tri.of_awp mixed Tryz.func152 rfl (by kernel_rfl) (by kernel_rfl) (by simp [Tryz.ntmps152]) Tryz.results152 ?_
   repeat' (first | refine xs ?_ ?_ <;> intros | (refine wn ?_; intro bx hbx; try simp only [fb] at hbx) | refine wp p1 ?_ | refine wp p2 ?_ | refine wp p3 ?_ | refine wj ?_ | simp -dsimp only [↓bp, bq, br, seval, tbKindR, *] | refine wz ?_ | fail)
   all_goals rfl
 rw [if_neg h0]
 have h0' := eq_false h0
 by_cases h1 : a = 1
 ·rw [if_pos h1]
  subst h1
  clear h0 h0'
  have p1 := among21 G x
  have p2 := among11 G x
  have p3 := among31 G x
  generalize kW21.contains x = b1 at *
  generalize kW11.contains x = b2 at *
  generalize kW31.contains x = b3 at *
  cases b1
  ·rw [if_neg (by simp)]
   cases b2
   ·rw [if_neg (by simp)]
    cases b3
    ·rw [if_neg (by simp)]
     intro σ
     refine Tri.of_awp mixed Tryz.func152 rfl (by kernel_rfl) (by kernel_rfl) (by simp [Tryz.ntmps152]) Tryz.results152 ?_
     repeat' (first | refine xs ?_ ?_ <;> intros | (refine wn ?_; intro bx hbx; try simp only [fb] at hbx) | refine wp p1 ?_ | refine wp p2 ?_ | refine wp p3 ?_ | refine wj ?_ | simp -dsimp only [↓bp, bq, br, seval, tbKindR, *] | refine wz ?_ | fail)
     all_goals rfl
    ·rw [if_pos rfl]
     intro σ
     refine Tri.of_awp mixed Tryz.func152 rfl (by kernel_rfl) (by kernel_rfl) (by simp [Tryz.ntmps152]) Tryz.results152 ?_
     repeat' (first | refine xs ?_ ?_ <;> intros | (refine wn ?_; intro bx hbx; try simp only [fb] at hbx) | refine wp p1 ?_ | refine wp p2 ?_ | refine wp p3 ?_ | refine wj ?_ | simp -dsimp only [↓bp, bq, br, seval, tbKindR, *] | refine wz ?_ | fail)
     all_goals rfl
   ·rw [if_pos rfl]
    clear p3
    have p3 := p2
    intro σ
    refine Tri.of_awp mixed Tryz.func152 rfl (by kernel_rfl) (by kernel_rfl) (by simp [Tryz.ntmps152]) Tryz.results152 ?_
    repeat' (first | refine xs ?_ ?_ <;> intros | (refine wn ?_; intro bx hbx; try simp only [fb] at hbx) | refine wp p1 ?_ | refine wp p2 ?_ | refine wp p3 ?_ | refine wj ?_ | simp -dsimp only [↓bp, bq, br, seval, tbKindR, *] | refine wz ?_ | fail)
    all_goals rfl
  ·rw [if_pos rfl]
   clear p2 p3
   have p2 := p1
   have p3 := p1
   intro σ
   refine Tri.of_awp mixed Tryz.func152 rfl (by kernel_rfl) (by kernel_rfl) (by simp [Tryz.ntmps152]) Tryz.results152 ?_
   repeat' (first | refine xs ?_ ?_ <;> intros | (refine wn ?_; intro bx hbx; try simp only [fb] at hbx) | refine wp p1 ?_ | refine wp p2 ?_ | refine wp p3 ?_ | refine wj ?_ | simp -dsimp only [↓bp, bq, br, seval, tbKindR, *] | refine wz ?_ | fail)
   all_goals rfl
 rw [if_neg h1]
 have h1' := eq_false h1
 by_cases h2 : a = 2
 ·rw [if_pos h2]
  subst h2
  clear h0 h0' h1 h1'
  have p1 := among22 G x
  have p2 := among12 G x
  have p3 := among32 G x
  generalize kW22.contains x = b1 at *
  generalize kW12.contains x = b2 at *
  generalize kW32.contains x = b3 at *
  cases b1
  ·rw [if_neg (by simp)]
   cases b2
   ·rw [if_neg (by simp)]
    cases b3
    ·rw [if_neg (by simp)]
     intro σ
     refine Tri.of_awp mixed Tryz.func152 rfl (by kernel_rfl) (by kernel_rfl) (by simp [Tryz.ntmps152]) Tryz.results152 ?_
     repeat' (first | refine xs ?_ ?_ <;> intros | (refine wn ?_; intro bx hbx; try simp only [fb] at hbx) | refine wp p1 ?_ | refine wp p2 ?_ | refine wp p3 ?_ | refine wj ?_ | simp -dsimp only [↓bp, bq, br, seval, tbKindR, *] | refine wz ?_ | fail)
     all_goals rfl
    ·rw [if_pos rfl]
     intro σ
     refine Tri.of_awp mixed Tryz.func152 rfl (by kernel_rfl) (by kernel_rfl) (by simp [Tryz.ntmps152]) Tryz.results152 ?_
     repeat' (first | refine xs ?_ ?_ <;> intros | (refine wn ?_; intro bx hbx; try simp only [fb] at hbx) | refine wp p1 ?_ | refine wp p2 ?_ | refine wp p3 ?_ | refine wj ?_ | simp -dsimp only [↓bp, bq, br, seval, tbKindR, *] | refine wz ?_ | fail)
     all_goals rfl
   ·rw [if_pos rfl]
    clear p3
    have p3 := p2
    intro σ
    refine Tri.of_awp mixed Tryz.func152 rfl (by kernel_rfl) (by kernel_rfl) (by simp [Tryz.ntmps152]) Tryz.results152 ?_
    repeat' (first | refine xs ?_ ?_ <;> intros | (refine wn ?_; intro bx hbx; try simp only [fb] at hbx) | refine wp p1 ?_ | refine wp p2 ?_ | refine wp p3 ?_ | refine wj ?_ | simp -dsimp only [↓bp, bq, br, seval, tbKindR, *] | refine wz ?_ | fail)
    all_goals rfl
  ·rw [if_pos rfl]
   clear p2 p3
   have p2 := p1
   have p3 := p1
   intro σ
   refine Tri.of_awp mixed Tryz.func152 rfl (by kernel_rfl) (by kernel_rfl) (by simp [Tryz.ntmps152]) Tryz.results152 ?_
   repeat' (first | refine xs ?_ ?_ <;> intros | (refine wn ?_; intro bx hbx; try simp only [fb] at hbx) | refine wp p1 ?_ | refine wp p2 ?_ | refine wp p3 ?_ | refine wj ?_ | simp -dsimp only [↓bp, bq, br, seval, tbKindR, *] | refine wz ?_ | fail)
   all_goals rfl
 rw [if_neg h2]
 have h2' := eq_false h2
 have p1 := among30 G x
 have p2 := p1
 have p3 := p1
 by_cases h3 : a = 3
 ·rw [if_pos h3]
  subst h3
  clear h0 h0' h1 h1' h2 h2'
  by_cases hx : x = [115, 101, 116, 101, 108, 101, 109, 101, 110, 116]
  ·rw [if_pos hx]
   subst hx
   intro σ
   refine Tri.of_awp mixed Tryz.func152 rfl (by kernel_rfl) (by kernel_rfl) (by simp [Tryz.ntmps152]) Tryz.results152 ?_
   repeat' (first | refine xs ?_ ?_ <;> intros | (refine wn ?_; intro bx hbx; try simp only [fb] at hbx) | refine wp p1 ?_ | refine wp p2 ?_ | refine wp p3 ?_ | refine wj ?_ | simp -dsimp only [↓bp, bq, br, seval, tbKindR, *] | refine wz ?_ | fail)
   all_goals rfl
  ·rw [if_neg hx]
   have hx' := eq_false hx
   clear hx
   intro σ
   refine Tri.of_awp mixed Tryz.func152 rfl (by kernel_rfl) (by kernel_rfl) (by simp [Tryz.ntmps152]) Tryz.results152 ?_
   repeat' (first | refine xs ?_ ?_ <;> intros | (refine wn ?_; intro bx hbx; try simp only [fb] at hbx) | refine wp p1 ?_ | refine wp p2 ?_ | refine wp p3 ?_ | refine wj ?_ | simp -dsimp only [↓bp, bq, br, seval, tbKindR, *] | refine wz ?_ | fail)
   all_goals rfl
 rw [if_neg h3]
 have h3' := eq_false h3
 clear h0 h1 h2 h3
 intro σ
 refine Tri.of_awp mixed Tryz.func152 rfl (by kernel_rfl) (by kernel_rfl) (by simp [Tryz.ntmps152]) Tryz.results152 ?_
 repeat' (first | refine xs ?_ ?_ <;> intros | (refine wn ?_; intro bx hbx; try simp only [fb] at hbx) | refine wp p1 ?_ | refine wp p2 ?_ | refine wp p3 ?_ | refine wj ?_ | simp -dsimp only [↓bp, bq, br, seval, tbKindR, *] | refine wz ?_ | fail)
 all_goals rfl
theorem kW_free : kW30.all (fun w => free32 w && !(w == [])) = true /\ kW21.all (fun w => free32 w && !(w == [])) = true /\ kW11.all (fun w => free32 w && !(w == [])) = true /\ kW31.all (fun w => free32 w && !(w == [])) = true /\ kW22.all (fun w => free32 w && !(w == [])) = true /\ kW12.all (fun w => free32 w && !(w == [])) = true /\ kW32.all (fun w => free32 w && !(w == [])) = true := by decide +kernel
theorem kW_apart : kW21.all (fun w => !(kW11.contains w)) = true /\ kW22.all (fun w => !(kW12.contains w)) = true := by decide +kernel
theorem notin {l : List (List UInt8)} {x : List UInt8} (h : l.all (fun w => free32 w && !(w == [])) = true) (hx : x = [] \/ free32 x = false) : l.contains x = false := by
 cases e : l.contains x with
 | false => rfl
 | true =>
  have hm : x ∈ l := by simpa using e
  have := List.all_eq_true.1 h x hm
  simp only [Bool.and_eq_true, Bool.not_eq_true', beq_eq_false_iff_ne] at this
  rcases hx with hx | hx
  ·exact absurd hx this.2
  ·rw [hx] at this; exact absurd this.1 (by simp)
theorem apart_of {l m : List (List UInt8)} {x : List UInt8} (h : l.all (fun w => !(m.contains w)) = true) (hx : l.contains x = true) : m.contains x = false := by
 have hm : x ∈ l := by simpa using hx
 simpa using List.all_eq_true.1 h x hm
theorem kindR_eq (x : List UInt8) (a : Nat) : kindR x a = (lintKind x a : Int) := by
 rw [lintKind_eq]
 obtain ⟨f0, f1, f2, f3, f4, f5, f6⟩ := kW_free
 obtain ⟨d1, d2⟩ := kW_apart
 by_cases hx : x = [] \/ free32 x = false
 ·rw [if_pos (by rcases hx with h | h; exact .inl h; exact .inr (.inr h))]
  unfold kindR
  rw [notin f0 hx, notin f1 hx, notin f2 hx, notin f3 hx, notin f4 hx, notin f5 hx, notin f6 hx]
  have hs : x ≠ [115, 101, 116, 101, 108, 101, 109, 101, 110, 116] := fun e => by
   subst e
   rcases hx with h | h
   ·cases h
   ·exact absurd h (by decide)
  rw [if_neg hs]
  simp
 ·simp only [not_or] at hx
  have hne : ([[]] : List (List UInt8)).contains x = false := by simpa using hx.1
  by_cases ha : 3 < a
  ·rw [if_pos (.inr (.inl ha))]
   unfold kindR
   rw [if_neg (by omega), if_neg (by omega), if_neg (by omega), if_neg (by omega)]
   rfl
  ·rw [if_neg (by simp only [not_or]; exact ⟨hx.1, ha, hx.2⟩)]
   have hc : a = 0 \/ a = 1 \/ a = 2 \/ a = 3 := by omega
   rcases hc with rfl | rfl | rfl | rfl
   ·show (if kW30.contains x = true then (3 : Int) else 0) = ((if ([[]] : List (List UInt8)).contains x = true then 0 else if ([[]] : List (List UInt8)).contains x = true then 1 else if ([[]] : List (List UInt8)).contains x = true then 2 else if kW30.contains x = true then 3 else 0 : Nat) : Int)
    rw [hne]
    cases kW30.contains x <;> rfl
   ·show (if kW21.contains x = true then (2 : Int) else if kW11.contains x = true then 1 else if kW31.contains x = true then 3 else 0) = ((if ([[]] : List (List UInt8)).contains x = true then 0 else if kW11.contains x = true then 1 else if kW21.contains x = true then 2 else if kW31.contains x = true then 3 else 0 : Nat) : Int)
    rw [hne]
    cases e : kW21.contains x with
    | true => rw [apart_of d1 e]; rfl
    | false => cases kW11.contains x <;> cases kW31.contains x <;> rfl
   ·show (if kW22.contains x = true then (2 : Int) else if kW12.contains x = true then 1 else if kW32.contains x = true then 3 else 0) = ((if ([[]] : List (List UInt8)).contains x = true then 0 else if kW12.contains x = true then 1 else if kW22.contains x = true then 2 else if kW32.contains x = true then 3 else 0 : Nat) : Int)
    rw [hne]
    cases e : kW22.contains x with
    | true => rw [apart_of d2 e]; rfl
    | false => cases kW12.contains x <;> cases kW32.contains x <;> rfl
   ·show (if x = [115, 101, 116, 101, 108, 101, 109, 101, 110, 116] then (1 : Int) else 0) = ((if ([[]] : List (List UInt8)).contains x = true then 0 else if ([[115, 101, 116, 101, 108, 101, 109, 101, 110, 116]] : List (List UInt8)).contains x = true then 1 else if ([[]] : List (List UInt8)).contains x = true then 2 else if ([[]] : List (List UInt8)).contains x = true then 3 else 0 : Nat) : Int)
    rw [hne]
    by_cases hs : x = [115, 101, 116, 101, 108, 101, 109, 101, 110, 116]
    ·subst hs; rfl
    ·have : ([[115, 101, 116, 101, 108, 101, 109, 101, 110, 116]] : List (List UInt8)).contains x = false := by simpa using hs
     rw [this, if_neg hs]; rfl
end
set_option maxRecDepth 20000
section
def tbRCodC := And.intro (And.intro (And.intro (And.intro @tf3 (And.intro @tf4 @tf5)) (And.intro (And.intro @tf9 @tf124) (And.intro @tf37 @tf39))) (And.intro (And.intro (And.intro @tf23 @tf30) (And.intro @tf53 @tf22)) (And.intro (And.intro @tf26 @tf24) (And.intro @isv_rowOf @flat_rowOf)))) (And.intro (And.intro (And.intro (And.intro @len_rowOf @ix_rowOf) (And.intro @isv_encs @flat_encs)) (And.intro (And.intro @len_encs @Ins.flat_enc) (And.intro @Ins.isv_enc @Ins.fold_enc))) (And.intro (And.intro (And.intro @Ent.flat_enc @Ent.isv_enc) (And.intro @Ent.fold_enc @Cod.flat_enc)) (And.intro (And.intro @Cod.isv_enc @Cod.fold_enc) (And.intro @ares_tmpc @ares_cellc))))
variable (G : Nat -> AV)
structure Hb (p : Prop) : Prop where
 out : p
theorem ops_split {P : Program} {ops : List Oper} {R : Env -> AS -> Prop} {l2 : List Oper} : ∀ (l1 : List Oper) (e : Env) (σ : AS), awpOps P G ops (fun e s => awpOps P G ops R l2 e s) l1 e σ -> awpOps P G ops R (l1 ++ l2) e σ
 | [], _, _, h => h
 | o :: l, _, _, ⟨b, hb, h1, h2⟩ => ⟨b, hb, fun x => aop_mono (fun r s h => ops_split l _ _ h) (h1 x), fun x => ops_split l _ _ (h2 x)⟩
theorem ops_meet {P : Program} {G : Nat -> AV} {ops : List Oper} {R : Env -> AS -> Prop} {l : List Oper} {e : Env} {σ : AS} (m : Nat) (I : Env -> AS -> Prop) (h1 : awpOps P G ops I (l.take m) e σ) (h2 : ∀ e s, I e s -> awpOps P G ops R (l.drop m) e s) : awpOps P G ops R l e σ := by
 have := ops_split G (R := R) (l2 := l.drop m) (l.take m) e σ (awpOps_mono _ h2 _ _ h1)
 rwa [List.take_append_drop] at this
set_option maxHeartbeats 16000000 in
theorem rbare_pure (i : Ins) : Pure Tryz.prog G 90 [i.enc, .str (rF i.op)] (.bool (rBare i)) := by
 have h65 := rh_pure G i.op 65
 have h66 := rh_pure G i.op 66
 have h67 := rh_pure G i.op 67
 have h78 := rh_pure G i.op 78
 have h76 := rh_pure G i.op 76
 have h84 := rh_pure G i.op 84
 have h83 := rh_pure G i.op 83
 unfold rBare
 obtain ⟨z65, e65⟩ : ∃ z : Bool, (i.a = 0) = (z = true) := ⟨decide (i.a = 0), by simp⟩
 obtain ⟨z66, e66⟩ : ∃ z : Bool, (i.b = 0) = (z = true) := ⟨decide (i.b = 0), by simp⟩
 obtain ⟨z67, e67⟩ : ∃ z : Bool, (i.c = 0) = (z = true) := ⟨decide (i.c = 0), by simp⟩
 obtain ⟨z78, e78⟩ : ∃ z : Bool, (i.n = 0) = (z = true) := ⟨decide (i.n = 0), by simp⟩
 obtain ⟨z76, e76⟩ : ∃ z : Bool, (i.l = 0) = (z = true) := ⟨decide (i.l = 0), by simp⟩
 obtain ⟨z84, e84⟩ : ∃ z : Bool, (i.text = []) = (z = true) := ⟨decide (i.text = []), by simp⟩
 obtain ⟨z83, e83⟩ : ∃ z : Bool, (i.slots.length = 0) = (z = true) := ⟨decide (i.slots.length = 0), by simp⟩
 have e83' : ((i.slots.length : Int) = 0) = (z83 = true) := by rw [<- e83]; exact propext ⟨fun h => by omega, fun h => by omega⟩
 simp only [e65, e66, e67, e78, e76, e84, e83, Bool.decide_eq_true]
 clear e83
 generalize rF i.op = F at *
 generalize rH i.op 65 = b65 at *
 generalize rH i.op 66 = b66 at *
 generalize rH i.op 67 = b67 at *
 generalize rH i.op 78 = b78 at *
 generalize rH i.op 76 = b76 at *
 generalize rH i.op 84 = b84 at *
 generalize rH i.op 83 = b83 at *
 intro σ
 have hI : ∀ bx : Nat, ∃ S : AS, S = σ.setBox bx [.int .u8 i.opI, .int .i64 i.a, .int .i64 i.b, .int .i64 i.c, .int .i64 i.n, .int .i64 i.l, .str i.text, rowOf intA i.slots] := fun bx => ⟨_, rfl⟩
 refine Tri.of_awp mixed Tryz.func90 rfl (by kernel_rfl) (by kernel_rfl) (by simp [Tryz.ntmps90]) Tryz.results90 ?_
 repeat' (first | (refine wn ?_; intro bx hbx; try simp only [fb] at hbx) | refine wj ?_ | simp -dsimp only [↓bp, bq, br, seval, tbRCodC, *] | refine wz ?_ | fail)
 obtain ⟨S, hS⟩ := hI bx
 have hb : S.box bx = some [.int .u8 i.opI, .int .i64 i.a, .int .i64 i.b, .int .i64 i.c, .int .i64 i.n, .int .i64 i.l, .str i.text, rowOf intA i.slots] := by rw [hS]; exact AS.set_get
 have hSl : σ.le S := by rw [hS]; exact (AS.le.refl σ).setBox hbx.1 _
 rw [<- hS]
 clear hS hI hbx
 obtain ⟨y0, hy0⟩ : ∃ y : Bool, Hb (y = (b65 || z65)) := ⟨_, ⟨rfl⟩⟩
 refine Pure.use h65 ?_
 refine ops_meet 5 (fun e s => e 11 = .bool y0 /\ e 1 = .str F /\ e 2 = .ptr bx 0 /\ S = s) ?_ ?_
 ·simp only [List.take_succ_cons, List.take_zero]
  cases b65 <;> cases z65
  all_goals
   (have hv := hy0.out)
   (simp only [Bool.or_true, Bool.or_false, Bool.true_or, Bool.false_or, Bool.true_and, Bool.false_and, Bool.and_true, Bool.and_false] at hv)
   (subst hv)
   (clear hy0)
   repeat' (first | (refine wn ?_; intro bx hbx; try simp only [fb] at hbx) | refine wp h65 ?_ | refine wj ?_ | simp -dsimp only [↓bp, bq, br, seval, tbRCodC, *] | refine wz ?_ | fail)
 simp only [List.drop_succ_cons, List.drop_zero]
 rintro e0 s0 ⟨g11, g1, g2, rfl⟩
 obtain ⟨y1, hy1⟩ : ∃ y : Bool, Hb (y = (y0 && (b66 || z66))) := ⟨_, ⟨rfl⟩⟩
 refine ops_meet 9 (fun e s => e 20 = .bool y1 /\ e 1 = .str F /\ e 2 = .ptr bx 0 /\ S = s) ?_ ?_
 ·simp only [List.take_succ_cons, List.take_zero]
  cases y0 <;> cases b66 <;> cases z66
  all_goals
   (have hv := hy1.out)
   (simp only [Bool.or_true, Bool.or_false, Bool.true_or, Bool.false_or, Bool.true_and, Bool.false_and, Bool.and_true, Bool.and_false] at hv)
   (subst hv)
   (clear hy1 hy0)
   repeat' (first | (refine wn ?_; intro bx hbx; try simp only [fb] at hbx) | refine wp h66 ?_ | refine wj ?_ | simp -dsimp only [↓bp, bq, br, seval, tbRCodC, *] | refine wz ?_ | fail)
 simp only [List.drop_succ_cons, List.drop_zero]
 rintro e1 s1 ⟨g20, g1, g2, rfl⟩
 obtain ⟨y2, hy2⟩ : ∃ y : Bool, Hb (y = (y1 && (b67 || z67))) := ⟨_, ⟨rfl⟩⟩
 refine ops_meet 9 (fun e s => e 29 = .bool y2 /\ e 1 = .str F /\ e 2 = .ptr bx 0 /\ S = s) ?_ ?_
 ·simp only [List.take_succ_cons, List.take_zero]
  cases y1 <;> cases b67 <;> cases z67
  all_goals
   (have hv := hy2.out)
   (simp only [Bool.or_true, Bool.or_false, Bool.true_or, Bool.false_or, Bool.true_and, Bool.false_and, Bool.and_true, Bool.and_false] at hv)
   (subst hv)
   (clear hy2 hy1)
   repeat' (first | (refine wn ?_; intro bx hbx; try simp only [fb] at hbx) | refine wp h67 ?_ | refine wj ?_ | simp -dsimp only [↓bp, bq, br, seval, tbRCodC, *] | refine wz ?_ | fail)
 simp only [List.drop_succ_cons, List.drop_zero]
 rintro e2 s2 ⟨g29, g1, g2, rfl⟩
 obtain ⟨y3, hy3⟩ : ∃ y : Bool, Hb (y = (y2 && (b78 || z78))) := ⟨_, ⟨rfl⟩⟩
 refine ops_meet 9 (fun e s => e 38 = .bool y3 /\ e 1 = .str F /\ e 2 = .ptr bx 0 /\ S = s) ?_ ?_
 ·simp only [List.take_succ_cons, List.take_zero]
  cases y2 <;> cases b78 <;> cases z78
  all_goals
   (have hv := hy3.out)
   (simp only [Bool.or_true, Bool.or_false, Bool.true_or, Bool.false_or, Bool.true_and, Bool.false_and, Bool.and_true, Bool.and_false] at hv)
   (subst hv)
   (clear hy3 hy2)
   repeat' (first | (refine wn ?_; intro bx hbx; try simp only [fb] at hbx) | refine wp h78 ?_ | refine wj ?_ | simp -dsimp only [↓bp, bq, br, seval, tbRCodC, *] | refine wz ?_ | fail)
 simp only [List.drop_succ_cons, List.drop_zero]
 rintro e3 s3 ⟨g38, g1, g2, rfl⟩
 obtain ⟨y4, hy4⟩ : ∃ y : Bool, Hb (y = (y3 && (b76 || z76))) := ⟨_, ⟨rfl⟩⟩
 refine ops_meet 9 (fun e s => e 47 = .bool y4 /\ e 1 = .str F /\ e 2 = .ptr bx 0 /\ S = s) ?_ ?_
 ·simp only [List.take_succ_cons, List.take_zero]
  cases y3 <;> cases b76 <;> cases z76
  all_goals
   (have hv := hy4.out)
   (simp only [Bool.or_true, Bool.or_false, Bool.true_or, Bool.false_or, Bool.true_and, Bool.false_and, Bool.and_true, Bool.and_false] at hv)
   (subst hv)
   (clear hy4 hy3)
   repeat' (first | (refine wn ?_; intro bx hbx; try simp only [fb] at hbx) | refine wp h76 ?_ | refine wj ?_ | simp -dsimp only [↓bp, bq, br, seval, tbRCodC, *] | refine wz ?_ | fail)
 simp only [List.drop_succ_cons, List.drop_zero]
 rintro e4 s4 ⟨g47, g1, g2, rfl⟩
 obtain ⟨y5, hy5⟩ : ∃ y : Bool, Hb (y = (y4 && (b84 || z84))) := ⟨_, ⟨rfl⟩⟩
 refine ops_meet 9 (fun e s => e 56 = .bool y5 /\ e 1 = .str F /\ e 2 = .ptr bx 0 /\ S = s) ?_ ?_
 ·simp only [List.take_succ_cons, List.take_zero]
  cases y4 <;> cases b84 <;> cases z84
  all_goals
   (have hv := hy5.out)
   (simp only [Bool.or_true, Bool.or_false, Bool.true_or, Bool.false_or, Bool.true_and, Bool.false_and, Bool.and_true, Bool.and_false] at hv)
   (subst hv)
   (clear hy5 hy4)
   repeat' (first | (refine wn ?_; intro bx hbx; try simp only [fb] at hbx) | refine wp h84 ?_ | refine wj ?_ | simp -dsimp only [↓bp, bq, br, seval, tbRCodC, *] | refine wz ?_ | fail)
 simp only [List.drop_succ_cons, List.drop_zero]
 rintro e5 s5 ⟨g56, g1, g2, rfl⟩
 obtain ⟨y6, hy6⟩ : ∃ y : Bool, Hb (y = (y5 && (b83 || z83))) := ⟨_, ⟨rfl⟩⟩
 refine ops_meet 10 (fun e s => e 66 = .bool y6 /\ e 1 = .str F /\ e 2 = .ptr bx 0 /\ S = s) ?_ ?_
 ·simp only [List.take_succ_cons, List.take_zero]
  cases y5 <;> cases b83 <;> cases z83
  all_goals
   (have hv := hy6.out)
   (simp only [Bool.or_true, Bool.or_false, Bool.true_or, Bool.false_or, Bool.true_and, Bool.false_and, Bool.and_true, Bool.and_false] at hv)
   (subst hv)
   (clear hy6 hy5)
   repeat' (first | (refine wn ?_; intro bx hbx; try simp only [fb] at hbx) | refine wp h83 ?_ | refine wj ?_ | simp -dsimp only [↓bp, bq, br, seval, tbRCodC, *] | refine wz ?_ | fail)
 simp only [List.drop_succ_cons, List.drop_zero]
 rintro e6 s6 ⟨g66, g1, g2, rfl⟩
 repeat' (first | (refine wn ?_; intro bx hbx; try simp only [fb] at hbx) | refine wj ?_ | simp -dsimp only [↓bp, bq, br, seval, tbRCodC, *] | refine wz ?_ | fail)
 all_goals (rw [hy6.out, hy5.out, hy4.out, hy3.out, hy2.out, hy1.out, hy0.out])
end
end Go.Proofs.YtjmdaeabllkgnaaGreatDoor
