/- Code: the text of an instruction: the walk. -/
import Derived.Test.YtjmdaeabllkgnaaGreatDoorY24
import Derived.Test.YtjmdaeabllkgnaaGreatDoorY19
set_option linter.unusedVariables false
set_option linter.unusedSimpArgs false
set_option maxRecDepth 20000
set_option linter.defProp false
namespace Go.Proofs.YtjmdaeabllkgnaaGreatDoor
open Go Go.Av
section
def tbCodX2 := And.intro (And.intro (And.intro (And.intro @tf3 (And.intro @tf4 @tf5)) (And.intro (And.intro @tf9 @tf37) (And.intro @tf39 @tf23))) (And.intro (And.intro (And.intro @tf30 @tf66) (And.intro @tf21 @tf58)) (And.intro (And.intro @tf24 @tf55) (And.intro @tf56 @tf169)))) (And.intro (And.intro (And.intro @isv_rowOf (And.intro @flat_rowOf @len_rowOf)) (And.intro (And.intro @ix_rowOf @isv_encs) (And.intro @flat_encs @len_encs))) (And.intro (And.intro (And.intro @Ins.flat_enc @Ins.isv_enc) (And.intro @Ins.fold_enc @ares_tmpc)) (And.intro (And.intro @ares_cellc @Term.fold_enc) (And.intro @Term.isv_enc @Term.flat_enc))))
variable {G : Nat -> AV}
structure RndX (S σ : AS) (bx it : Nat) (fs out : List UInt8) (p : Nat) : Prop where
 le : S.le σ
 out : σ.box bx = some [.str out]
 iter : σ.ty it = some (.ob (.iter fs p), 0)
def sP : Bool -> List Int -> List UInt8
 | _, [] => []
 | b, n :: l => (if b then [32, 40, 115] else [32, 115]) ++ (itoa n ++ sP false l)
theorem sP_X (l : List Int) : sP false l ++ [41] = slotsX l := by
 induction l with
 | nil => rfl
 | cons n l ih => simp [sP, slotsX, <- ih]
theorem sP_T (l : List Int) : sP true l ++ (if l = [] then [32, 40, 41] else [41]) = slotsT l := by
 cases l with
 | nil => rfl
 | cons n l => simp [sP, slotsT, <- sP_X]
theorem sP_next (l : List Int) : ∀ (b : Bool) (j : Nat) (n : Int), l[j]? = some n -> sP b (l.take (j + 1)) = sP b (l.take j) ++ ((if b = true /\ j = 0 then [32, 40, 115] else [32, 115]) ++ itoa n) := by
 induction l with
 | nil => intro b j n h; simp at h
 | cons x l ih =>
  intro b j n h
  cases j with
  | zero => simp at h; subst h; cases b <;> simp [sP]
  | succ j =>
   have := ih false j n (by simpa using h)
   rw [List.take_succ_cons, List.take_succ_cons]
   simp only [sP]
   rw [this]
   simp
theorem sP_len (l : List Int) (h : ∀ n, n ∈ l -> i64R n) : ∀ b, (sP b l).length <= 40 * l.length := by
 induction l with
 | nil => intro b; simp [sP]
 | cons n l ih =>
  intro b
  have h1 := ih (fun n hn => h n (List.mem_cons_of_mem _ hn)) false
  have h2 := h n List.mem_cons_self
  unfold i64R at h2
  have h3 := itoa_len4 n (by omega) (by omega)
  simp only [sP, List.length_append, List.length_cons]
  split <;> simp only [List.length_cons, List.length_nil] <;> omega
set_option maxHeartbeats 16000000 in
theorem codTextG_pure (hg : GlobC G) (i : Ins) (hr : i.Rng) (hi : i.bulk <= 1000000) (hpl : ∀ f, (pieceT i f).length <= 100000000000) (htx : 116 ∈ (shpOf i.op).fields -> Pure Tryz.prog G 64 [(atomTm i.text).enc] (.str (text (atomTm i.text)))) : Pure Tryz.prog G 22 [i.enc] (.str (textOf i)) := by
 have ho := of_pure hg i.op
 have hfa := op_all (p := fun op => asciiF (shpOf op).fields) fields_ascii i.op
 have hwl := op_all (p := fun op => decide ((shpOf op).word.length <= 40)) word_short i.op
 unfold shpA at ho
 unfold textOf
 generalize shpOf i.op = s at *
 obtain ⟨w, fs, nx⟩ := s
 simp only [decide_eq_true_eq] at ho hfa hwl ⊢
 have hfl : fs.length <= 4 := by unfold asciiF at hfa; rw [Bool.and_eq_true, decide_eq_true_eq] at hfa; exact hfa.1
 intro σ
 by_cases hw : w = []
 ·have hw' : (w = []) = True := eq_true hw
  rw [if_pos hw]
  clear hw hg hr hpl
  refine Tri.of_awp mixed Tryz.func22 rfl (by kernel_rfl) (by kernel_rfl) (by simp [Tryz.ntmps22]) Tryz.results22 ?_
  repeat' (first | refine xs ?_ ?_ <;> intros | (refine wn ?_; intro bx hbx; try simp only [fb] at hbx) | refine wp ho ?_ | refine wj ?_ | simp -dsimp only [↓bp, bq, br, seval, tbCodX2, *] | refine wz ?_ | fail)
  all_goals first | rfl | exact finishW_some σ (by repeat' first | exact lr _ | assumption | refine ls ?_ ?_ | refine lt ?_ ?_ | simp only [*]; done | simp only [fb, *, not_false_eq_true, and_self]; done | exact lf ‹_› (by simp only [*])) ⟨rfl, rfl⟩
 have hw' : (w = []) = False := eq_false hw
 rw [if_neg hw]
 clear hw
 refine Tri.back (Q := fun r => r = .str (w ++ fs.flatMap (pieceT i))) ?_
 refine Tri.of_awp mixed Tryz.func22 rfl (by kernel_rfl) (by kernel_rfl) (by simp [Tryz.ntmps22]) Tryz.results22 ?_
 repeat' (first | refine xs ?_ ?_ <;> intros | (refine wn ?_; intro bx hbx; try simp only [fb] at hbx) | refine wp ho ?_ | ((refine range_str tf9.2.1 (fun it hit => ?_))) | refine wj ?_ | simp -dsimp only [↓bp, bq, br, seval, tbCodX2, *] | refine wz ?_ | fail)
 rename_i b1 h1 b3 h3
 obtain ⟨S, hS⟩ : ∃ S, S = (σ.setBox b1 [.int .u8 i.opI, .int .i64 i.a, .int .i64 i.b, .int .i64 i.c, .int .i64 i.n, .int .i64 i.l, .str i.text, rowOf intA i.slots]).setBox b3 [.str w, .str fs, .bool nx] := ⟨_, rfl⟩
 have hS1 : S.box b1 = some [.int .u8 i.opI, .int .i64 i.a, .int .i64 i.b, .int .i64 i.c, .int .i64 i.n, .int .i64 i.l, .str i.text, rowOf intA i.slots] := by rw [hS]; simp [AS.setBox, h3]
 have hSbx : S.box bx = none := by rw [hS]; simp [AS.setBox, hbx, hbx.1.1.1]
 have hle0 : σ.le S := by rw [hS]; exact ((AS.le.refl σ).setBox h1.1 _).setBox h3.1.1 _
 rw [<- hS] at hit ⊢
 have hSit : S.ty it = none := hit.2.2
 clear hS h1 h3 hbx hit
 refine loop_intro (fun n e' σ' => ∃ (p : Nat) (out : List UInt8), p <= fs.length /\ n = fs.length - p /\ RndX S σ' bx it fs out p /\ out.length <= 100000000000 * (p + 1) /\ out = w ++ (fs.take p).flatMap (pieceT i)) fs.length
  ⟨0, w, by omega, by omega, ⟨((AS.le.refl S).setBox hSbx _).setTy hSit _, by simp [AS.setBox, AS.setTy], by simp [AS.setTy]⟩, by omega, by simp⟩ ?_
 rintro n v σ2 ⟨p, out, hp, rfl, hR, hol, ho2⟩
 have hb1 := hR.le.box _ _ hS1
 have n1 : (b1 = bx) = False := eq_false fun h => by rw [h, hSbx] at hS1; cases hS1
 by_cases hlt : p < fs.length
 case neg =>
  have : p = fs.length := by omega
  subst this
  rw [List.take_length] at ho2
  rw [<- ho2]
  have hb8 := hR.out
  clear hg hr hpl ho hfa hwl ho2 hlt
  repeat' (first | refine xs ?_ ?_ <;> intros | (refine wn ?_; intro bx hbx; try simp only [fb] at hbx) | (refine next_over hR.iter (Nat.le_refl _) ?_) | refine wj ?_ | simp -dsimp only [↓bp, bq, br, seval, tbCodX2, *] | refine wz ?_ | fail)
  all_goals exact finishW_some _ (AS.le.refl _) ⟨rfl, hle0.trans hR.le⟩
 obtain ⟨f, hfp⟩ : ∃ f, fs[p]? = some f := ⟨_, List.getElem?_eq_getElem hlt⟩
 have hca := ascii_get hfa hfp
 have hleT : S.le (σ2.setTy it (.ob (.iter fs (p + 1)), 0)) := hR.le.setTy hSit _
 have hb8 : (σ2.setTy it (.ob (.iter fs (p + 1)), 0)).box bx = some [.str out] := hR.out
 have hpf := hpl f
 have hno : w ++ (fs.take (p + 1)).flatMap (pieceT i) = out ++ pieceT i f := by rw [take_succ_get _ _ _ hfp, List.flatMap_append, ho2]; simp
 have hfin : ∀ {s0 : AS}, s0 = (σ2.setTy it (.ob (.iter fs (p + 1)), 0)).setBox bx [.str (out ++ pieceT i f)] -> ∃ m, m < fs.length - p /\ ∃ (p' : Nat) (out' : List UInt8), p' <= fs.length /\ m = fs.length - p' /\ RndX S s0 bx it fs out' p' /\ out'.length <= 100000000000 * (p' + 1) /\ out' = w ++ (fs.take p').flatMap (pieceT i) := fun {s0} h0 => by
  subst h0
  exact ⟨fs.length - (p + 1), by omega, p + 1, out ++ pieceT i f, by omega, rfl, ⟨hleT.setBox hSbx _, by simp [AS.setBox], by simp [AS.setBox, AS.setTy]⟩, by rw [List.length_append]; omega, hno.symm⟩
 have hol2 : out.length <= 500000000000 := by omega
 by_cases k97 : f = 97
 case pos =>
  subst k97
  have g97 : (((97 : UInt8).toNat : Int) = 97) = True := eq_true (by decide)
  have g98 : (((97 : UInt8).toNat : Int) = 98) = False := eq_false (by decide)
  have g99 : (((97 : UInt8).toNat : Int) = 99) = False := eq_false (by decide)
  have g107 : (((97 : UInt8).toNat : Int) = 107) = False := eq_false (by decide)
  have g102 : (((97 : UInt8).toNat : Int) = 102) = False := eq_false (by decide)
  have g110 : (((97 : UInt8).toNat : Int) = 110) = False := eq_false (by decide)
  have g116 : (((97 : UInt8).toNat : Int) = 116) = False := eq_false (by decide)
  have g115 : (((97 : UInt8).toNat : Int) = 115) = False := eq_false (by decide)
  have g108 : (((97 : UInt8).toNat : Int) = 108) = False := eq_false (by decide)
  have hpt : pieceT i 97 = [32, 115] ++ itoa i.a := by unfold pieceT; simp [nI]
  rw [hpt] at hfin
  have hrv := hr.a
  unfold i64R at hrv
  have hpu := putT_tri hg [32, 115] out i.a (by omega) (by simp; omega) hb8
  clear hg hr hpl ho hfa hwl ho2 hlt hpf hno hpt hol hrv
  repeat' (first | refine xs ?_ ?_ <;> intros | (refine wn ?_; intro bx hbx; try simp only [fb] at hbx) | (refine next_more hR.iter hfp hca ?_) | ((refine Tri.mono hpu ?_; rintro _ _ ⟨rfl, rfl⟩)) | refine wj ?_ | simp -dsimp only [↓bp, bq, br, seval, tbCodX2, *] | refine wz ?_ | fail)
  all_goals exact hfin rfl
 by_cases k98 : f = 98
 case pos =>
  subst k98
  have g97 : (((98 : UInt8).toNat : Int) = 97) = False := eq_false (by decide)
  have g98 : (((98 : UInt8).toNat : Int) = 98) = True := eq_true (by decide)
  have g99 : (((98 : UInt8).toNat : Int) = 99) = False := eq_false (by decide)
  have g107 : (((98 : UInt8).toNat : Int) = 107) = False := eq_false (by decide)
  have g102 : (((98 : UInt8).toNat : Int) = 102) = False := eq_false (by decide)
  have g110 : (((98 : UInt8).toNat : Int) = 110) = False := eq_false (by decide)
  have g116 : (((98 : UInt8).toNat : Int) = 116) = False := eq_false (by decide)
  have g115 : (((98 : UInt8).toNat : Int) = 115) = False := eq_false (by decide)
  have g108 : (((98 : UInt8).toNat : Int) = 108) = False := eq_false (by decide)
  have hpt : pieceT i 98 = [32, 115] ++ itoa i.b := by unfold pieceT; simp [nI]
  rw [hpt] at hfin
  have hrv := hr.b
  unfold i64R at hrv
  have hpu := putT_tri hg [32, 115] out i.b (by omega) (by simp; omega) hb8
  clear hg hr hpl ho hfa hwl ho2 hlt hpf hno hpt hol hrv
  repeat' (first | refine xs ?_ ?_ <;> intros | (refine wn ?_; intro bx hbx; try simp only [fb] at hbx) | (refine next_more hR.iter hfp hca ?_) | ((refine Tri.mono hpu ?_; rintro _ _ ⟨rfl, rfl⟩)) | refine wj ?_ | simp -dsimp only [↓bp, bq, br, seval, tbCodX2, *] | refine wz ?_ | fail)
  all_goals exact hfin rfl
 by_cases k99 : f = 99
 case pos =>
  subst k99
  have g97 : (((99 : UInt8).toNat : Int) = 97) = False := eq_false (by decide)
  have g98 : (((99 : UInt8).toNat : Int) = 98) = False := eq_false (by decide)
  have g99 : (((99 : UInt8).toNat : Int) = 99) = True := eq_true (by decide)
  have g107 : (((99 : UInt8).toNat : Int) = 107) = False := eq_false (by decide)
  have g102 : (((99 : UInt8).toNat : Int) = 102) = False := eq_false (by decide)
  have g110 : (((99 : UInt8).toNat : Int) = 110) = False := eq_false (by decide)
  have g116 : (((99 : UInt8).toNat : Int) = 116) = False := eq_false (by decide)
  have g115 : (((99 : UInt8).toNat : Int) = 115) = False := eq_false (by decide)
  have g108 : (((99 : UInt8).toNat : Int) = 108) = False := eq_false (by decide)
  have hpt : pieceT i 99 = [32, 115] ++ itoa i.c := by unfold pieceT; simp [nI]
  rw [hpt] at hfin
  have hrv := hr.c
  unfold i64R at hrv
  have hpu := putT_tri hg [32, 115] out i.c (by omega) (by simp; omega) hb8
  clear hg hr hpl ho hfa hwl ho2 hlt hpf hno hpt hol hrv
  repeat' (first | refine xs ?_ ?_ <;> intros | (refine wn ?_; intro bx hbx; try simp only [fb] at hbx) | (refine next_more hR.iter hfp hca ?_) | ((refine Tri.mono hpu ?_; rintro _ _ ⟨rfl, rfl⟩)) | refine wj ?_ | simp -dsimp only [↓bp, bq, br, seval, tbCodX2, *] | refine wz ?_ | fail)
  all_goals exact hfin rfl
 by_cases k107 : f = 107
 case pos =>
  subst k107
  have g97 : (((107 : UInt8).toNat : Int) = 97) = False := eq_false (by decide)
  have g98 : (((107 : UInt8).toNat : Int) = 98) = False := eq_false (by decide)
  have g99 : (((107 : UInt8).toNat : Int) = 99) = False := eq_false (by decide)
  have g107 : (((107 : UInt8).toNat : Int) = 107) = True := eq_true (by decide)
  have g102 : (((107 : UInt8).toNat : Int) = 102) = False := eq_false (by decide)
  have g110 : (((107 : UInt8).toNat : Int) = 110) = False := eq_false (by decide)
  have g116 : (((107 : UInt8).toNat : Int) = 116) = False := eq_false (by decide)
  have g115 : (((107 : UInt8).toNat : Int) = 115) = False := eq_false (by decide)
  have g108 : (((107 : UInt8).toNat : Int) = 108) = False := eq_false (by decide)
  have hpt : pieceT i 107 = [32, 35] ++ itoa i.n := by unfold pieceT; simp [nI]
  rw [hpt] at hfin
  have hrv := hr.n
  unfold i64R at hrv
  have hpu := putT_tri hg [32, 35] out i.n (by omega) (by simp; omega) hb8
  clear hg hr hpl ho hfa hwl ho2 hlt hpf hno hpt hol hrv
  repeat' (first | refine xs ?_ ?_ <;> intros | (refine wn ?_; intro bx hbx; try simp only [fb] at hbx) | (refine next_more hR.iter hfp hca ?_) | ((refine Tri.mono hpu ?_; rintro _ _ ⟨rfl, rfl⟩)) | refine wj ?_ | simp -dsimp only [↓bp, bq, br, seval, tbCodX2, *] | refine wz ?_ | fail)
  all_goals exact hfin rfl
 by_cases k102 : f = 102
 case pos =>
  subst k102
  have g97 : (((102 : UInt8).toNat : Int) = 97) = False := eq_false (by decide)
  have g98 : (((102 : UInt8).toNat : Int) = 98) = False := eq_false (by decide)
  have g99 : (((102 : UInt8).toNat : Int) = 99) = False := eq_false (by decide)
  have g107 : (((102 : UInt8).toNat : Int) = 107) = False := eq_false (by decide)
  have g102 : (((102 : UInt8).toNat : Int) = 102) = True := eq_true (by decide)
  have g110 : (((102 : UInt8).toNat : Int) = 110) = False := eq_false (by decide)
  have g116 : (((102 : UInt8).toNat : Int) = 116) = False := eq_false (by decide)
  have g115 : (((102 : UInt8).toNat : Int) = 115) = False := eq_false (by decide)
  have g108 : (((102 : UInt8).toNat : Int) = 108) = False := eq_false (by decide)
  have hpt : pieceT i 102 = [32, 35] ++ itoa i.n := by unfold pieceT; simp [nI]
  rw [hpt] at hfin
  have hrv := hr.n
  unfold i64R at hrv
  have hpu := putT_tri hg [32, 35] out i.n (by omega) (by simp; omega) hb8
  clear hg hr hpl ho hfa hwl ho2 hlt hpf hno hpt hol hrv
  repeat' (first | refine xs ?_ ?_ <;> intros | (refine wn ?_; intro bx hbx; try simp only [fb] at hbx) | (refine next_more hR.iter hfp hca ?_) | ((refine Tri.mono hpu ?_; rintro _ _ ⟨rfl, rfl⟩)) | refine wj ?_ | simp -dsimp only [↓bp, bq, br, seval, tbCodX2, *] | refine wz ?_ | fail)
  all_goals exact hfin rfl
 by_cases k110 : f = 110
 case pos =>
  subst k110
  have g97 : (((110 : UInt8).toNat : Int) = 97) = False := eq_false (by decide)
  have g98 : (((110 : UInt8).toNat : Int) = 98) = False := eq_false (by decide)
  have g99 : (((110 : UInt8).toNat : Int) = 99) = False := eq_false (by decide)
  have g107 : (((110 : UInt8).toNat : Int) = 107) = False := eq_false (by decide)
  have g102 : (((110 : UInt8).toNat : Int) = 102) = False := eq_false (by decide)
  have g110 : (((110 : UInt8).toNat : Int) = 110) = True := eq_true (by decide)
  have g116 : (((110 : UInt8).toNat : Int) = 116) = False := eq_false (by decide)
  have g115 : (((110 : UInt8).toNat : Int) = 115) = False := eq_false (by decide)
  have g108 : (((110 : UInt8).toNat : Int) = 108) = False := eq_false (by decide)
  have hpt : pieceT i 110 = [32, 35] ++ itoa i.n := by unfold pieceT; simp [nI]
  rw [hpt] at hfin
  have hrv := hr.n
  unfold i64R at hrv
  have hpu := putT_tri hg [32, 35] out i.n (by omega) (by simp; omega) hb8
  clear hg hr hpl ho hfa hwl ho2 hlt hpf hno hpt hol hrv
  repeat' (first | refine xs ?_ ?_ <;> intros | (refine wn ?_; intro bx hbx; try simp only [fb] at hbx) | (refine next_more hR.iter hfp hca ?_) | ((refine Tri.mono hpu ?_; rintro _ _ ⟨rfl, rfl⟩)) | refine wj ?_ | simp -dsimp only [↓bp, bq, br, seval, tbCodX2, *] | refine wz ?_ | fail)
  all_goals exact hfin rfl
 by_cases k116 : f = 116
 case pos =>
  subst k116
  have g97 : (((116 : UInt8).toNat : Int) = 97) = False := eq_false (by decide)
  have g98 : (((116 : UInt8).toNat : Int) = 98) = False := eq_false (by decide)
  have g99 : (((116 : UInt8).toNat : Int) = 99) = False := eq_false (by decide)
  have g107 : (((116 : UInt8).toNat : Int) = 107) = False := eq_false (by decide)
  have g102 : (((116 : UInt8).toNat : Int) = 102) = False := eq_false (by decide)
  have g110 : (((116 : UInt8).toNat : Int) = 110) = False := eq_false (by decide)
  have g116 : (((116 : UInt8).toNat : Int) = 116) = True := eq_true (by decide)
  have g115 : (((116 : UInt8).toNat : Int) = 115) = False := eq_false (by decide)
  have g108 : (((116 : UInt8).toNat : Int) = 108) = False := eq_false (by decide)
  have hpt : pieceT i 116 = [32] ++ text (atomTm i.text) := by unfold pieceT; simp
  rw [hpt] at hfin
  rw [hpt] at hpf
  have htp := htx (List.mem_of_getElem? hfp)
  rw [show (atomTm i.text).enc = .agg [.int .u8 2, .bool false, lims [], .str i.text, .int .i64 0, encs [], encs []] from by rw [<- Term.fold_enc]; rfl] at htp
  have hb9 := hR.out
  replace htp := htp.lessArgs (args := [.agg [.int .u8 2, .bool false, .nil, .str i.text, .int .i64 0, .nil, .nil]]) (.cons (Le.agg (.cons (Le.refl _) (.cons (Le.refl _) (.cons Le.nil (.cons (Le.refl _) (.cons (Le.refl _) (.cons Le.nil (.cons Le.nil .nil))))))) (fun d hd => by simp only [List.mem_cons, List.mem_nil_iff, or_false] at hd; rcases hd with rfl | rfl | rfl | rfl | rfl | rfl | rfl <;> rfl)) .nil)
  have hL1 : [32].length + (text (atomTm i.text)).length <= maxLen := by rw [List.length_append] at hpf; unfold maxLen; omega
  have hL2 : out.length + ([32] ++ text (atomTm i.text)).length <= maxLen := by unfold maxLen; omega
  have hL3 : out.length + ((text (atomTm i.text)).length + 1) <= maxLen := by simp at hL2; omega
  have hL4 : 1 + (text (atomTm i.text)).length <= maxLen := by simp at hL2; omega
  generalize text (atomTm i.text) = tt at *
  clear hg hr hpl ho hfa hwl ho2 hlt hpf hno hpt hol
  repeat' (first | refine xs ?_ ?_ <;> intros | (refine wn ?_; intro bx hbx; try simp only [fb] at hbx) | (refine next_more hR.iter hfp hca ?_) | refine wp htp ?_ | refine wj ?_ | simp -dsimp only [↓bp, bq, br, seval, tbCodX2, *] | refine wz ?_ | fail)
  all_goals first | exact hL3 | exact hL4 | exact hfin rfl
 by_cases k115 : f = 115
 case pos =>
  subst k115
  have g97 : (((115 : UInt8).toNat : Int) = 97) = False := eq_false (by decide)
  have g98 : (((115 : UInt8).toNat : Int) = 98) = False := eq_false (by decide)
  have g99 : (((115 : UInt8).toNat : Int) = 99) = False := eq_false (by decide)
  have g107 : (((115 : UInt8).toNat : Int) = 107) = False := eq_false (by decide)
  have g102 : (((115 : UInt8).toNat : Int) = 102) = False := eq_false (by decide)
  have g110 : (((115 : UInt8).toNat : Int) = 110) = False := eq_false (by decide)
  have g116 : (((115 : UInt8).toNat : Int) = 116) = False := eq_false (by decide)
  have g115 : (((115 : UInt8).toNat : Int) = 115) = True := eq_true (by decide)
  have g108 : (((115 : UInt8).toNat : Int) = 108) = False := eq_false (by decide)
  have hpt : pieceT i 115 = sP true i.slots ++ (if i.slots = [] then [32, 40, 41] else [41]) := by rw [sP_T]; unfold pieceT; simp
  rw [hpt] at hfin
  have hsl : i.slots.length <= 1000000 := by unfold Ins.bulk at hi; omega
  have hrs := hr.slots
  have hlen : ∀ j, (sP true (i.slots.take j)).length <= 40000000 := fun j => by
   have := sP_len (i.slots.take j) (fun n hn => hrs n (List.mem_of_mem_take hn)) true
   have h2 : (i.slots.take j).length <= i.slots.length := by rw [List.length_take]; omega
   omega
  clear hr hpl ho hfa hwl ho2 hlt hpf hno hpt hol
  repeat' (first | refine xs ?_ ?_ <;> intros | (refine wn ?_; intro bx hbx; try simp only [fb] at hbx) | (refine next_more hR.iter hfp hca ?_) | refine wj ?_ | simp -dsimp only [↓bp, bq, br, seval, tbCodX2, *] | refine wz ?_ | fail)
  obtain ⟨S1, hS1'⟩ : ∃ S1, S1 = σ2.setTy it (.ob (.iter fs (p + 1)), 0) := ⟨_, rfl⟩
  have hb1s : S1.box b1 = some [.int .u8 i.opI, .int .i64 i.a, .int .i64 i.b, .int .i64 i.c, .int .i64 i.n, .int .i64 i.l, .str i.text, rowOf intA i.slots] := by rw [hS1']; exact hb1
  rw [<- hS1'] at hb8 hfin ⊢
  clear hS1'
  refine loop_intro (fun n e' σ' => ∃ j : Nat, j <= i.slots.length /\ n = i.slots.length - j /\ e' 66 = .int .i64 j /\ σ'.box bx = some [.str (out ++ sP true (i.slots.take j))] /\ σ'.box b1 = S1.box b1 /\ ∀ x : List AV, σ'.setBox bx x = S1.setBox bx x) i.slots.length
   ⟨0, by omega, by omega, by first | (simp -dsimp only [↓bp, bq, br, seval, tbCodX2]; done) | (simp -dsimp only [↓bp, bq, br, seval, tbCodX2]; try rfl), by simp [sP, hb8], rfl, fun x => rfl⟩ ?_
  rintro n v σ3 ⟨j, hj, rfl, h66, hbo, hb1o, hset⟩
  simp -dsimp only [↓bp, bq, br, seval, tbCodX2] at h66
  rw [hb1s] at hb1o
  have hlj := hlen j
  by_cases hjl : j < i.slots.length
  case pos =>
   have hjl' : ((j : Int) < i.slots.length) = True := eq_true (by omega)
   obtain ⟨n, hn⟩ : ∃ n, i.slots[j]? = some n := ⟨_, List.getElem?_eq_getElem hjl⟩
   have hnr := hrs n (List.mem_of_getElem? hn)
   unfold i64R at hnr
   have hnx := sP_next i.slots true j n hn
   have hwj : IntKind.i64.wrap ((j : Int) + 1) = ((j + 1 : Nat) : Int) := by rw [wrap_nat (by omega) (by omega)]; rfl
   have hset2 : ∀ y x : List AV, (σ3.setBox bx y).setBox bx x = S1.setBox bx x := fun y x => by rw [<- hset x]; unfold AS.setBox; congr 1; funext q; simp only; split <;> rfl
   by_cases hj0 : j = 0
   ·have hj0' : ((j : Int) = 0) = True := eq_true (by omega)
    have hpu := putT_tri hg [32, 40, 115] (out ++ sP true (i.slots.take j)) n (by omega) (by simp; omega) hbo
    rw [if_pos ⟨rfl, hj0⟩] at hnx
    clear hg hrs hlen hj0
    repeat' (first | refine xs ?_ ?_ <;> intros | (refine wn ?_; intro bx hbx; try simp only [fb] at hbx) | ((refine Tri.mono hpu ?_; rintro _ _ ⟨rfl, rfl⟩)) | refine wj ?_ | simp -dsimp only [↓bp, bq, br, seval, tbCodX2, flat_intA, *] | refine wz ?_ | fail)
    all_goals refine ⟨i.slots.length - (j + 1), by omega, j + 1, by omega, rfl, rfl, by rw [hnx]; simp⟩
   ·have hj0' : ((j : Int) = 0) = False := eq_false (by omega)
    have hpu := putT_tri hg [32, 115] (out ++ sP true (i.slots.take j)) n (by omega) (by simp; omega) hbo
    rw [if_neg (fun h => hj0 h.2)] at hnx
    clear hg hrs hlen hj0
    repeat' (first | refine xs ?_ ?_ <;> intros | (refine wn ?_; intro bx hbx; try simp only [fb] at hbx) | ((refine Tri.mono hpu ?_; rintro _ _ ⟨rfl, rfl⟩)) | refine wj ?_ | simp -dsimp only [↓bp, bq, br, seval, tbCodX2, flat_intA, *] | refine wz ?_ | fail)
    all_goals refine ⟨i.slots.length - (j + 1), by omega, j + 1, by omega, rfl, rfl, by rw [hnx]; simp⟩
  have hjl' : ((j : Int) < i.slots.length) = False := eq_false (by omega)
  rw [List.take_of_length_le (by omega)] at hbo hlj
  by_cases hz : i.slots = []
  ·have hz' : ((i.slots.length : Int) = 0) = True := eq_true (by rw [hz]; rfl)
   rw [if_pos hz] at hfin
   have hL : (out ++ sP true i.slots).length + 2 <= maxLen := by rw [List.length_append]; unfold maxLen; omega
   have hL2 : (out ++ sP true i.slots ++ [32, 40]).length + 1 <= maxLen := by rw [List.length_append, List.length_append]; simp only [List.length_cons, List.length_nil]; unfold maxLen; omega
   rw [<- List.append_assoc] at hfin
   generalize out ++ sP true i.slots = X at *
   clear hg hrs hlen hz
   have hset3 : ∀ y x : List AV, (σ3.setBox bx y).setBox bx x = S1.setBox bx x := fun y x => by rw [<- hset x]; unfold AS.setBox; congr 1; funext q; simp only; split <;> rfl
   repeat' (first | refine xs ?_ ?_ <;> intros | (refine wn ?_; intro bx hbx; try simp only [fb] at hbx) | refine wj ?_ | simp -dsimp only [↓bp, bq, br, seval, tbCodX2, *] | refine wz ?_ | fail)
   all_goals first | exact hL | exact hL2 | exact hfin (by simp) | exact hfin (by rw [hset3]; simp) | trace_state
  ·have hz' : ((i.slots.length : Int) = 0) = False := eq_false (by have := List.length_pos_iff.2 hz; omega)
   rw [if_neg hz] at hfin
   have hL : (out ++ sP true i.slots).length + 1 <= maxLen := by rw [List.length_append]; unfold maxLen; omega
   rw [<- List.append_assoc] at hfin
   generalize out ++ sP true i.slots = X at *
   clear hg hrs hlen hz
   repeat' (first | refine xs ?_ ?_ <;> intros | (refine wn ?_; intro bx hbx; try simp only [fb] at hbx) | refine wj ?_ | simp -dsimp only [↓bp, bq, br, seval, tbCodX2, *] | refine wz ?_ | fail)
   all_goals first | exact hL | exact hfin (hset _)
 by_cases k108 : f = 108
 case pos =>
  subst k108
  have g97 : (((108 : UInt8).toNat : Int) = 97) = False := eq_false (by decide)
  have g98 : (((108 : UInt8).toNat : Int) = 98) = False := eq_false (by decide)
  have g99 : (((108 : UInt8).toNat : Int) = 99) = False := eq_false (by decide)
  have g107 : (((108 : UInt8).toNat : Int) = 107) = False := eq_false (by decide)
  have g102 : (((108 : UInt8).toNat : Int) = 102) = False := eq_false (by decide)
  have g110 : (((108 : UInt8).toNat : Int) = 110) = False := eq_false (by decide)
  have g116 : (((108 : UInt8).toNat : Int) = 116) = False := eq_false (by decide)
  have g115 : (((108 : UInt8).toNat : Int) = 115) = False := eq_false (by decide)
  have g108 : (((108 : UInt8).toNat : Int) = 108) = True := eq_true (by decide)
  have hpt : pieceT i 108 = [32, 64] ++ itoa i.l := by unfold pieceT; simp [nI]
  rw [hpt] at hfin
  have hrv := hr.l
  unfold i64R at hrv
  have hpu := putT_tri hg [32, 64] out i.l (by omega) (by simp; omega) hb8
  clear hg hr hpl ho hfa hwl ho2 hlt hpf hno hpt hol hrv
  repeat' (first | refine xs ?_ ?_ <;> intros | (refine wn ?_; intro bx hbx; try simp only [fb] at hbx) | (refine next_more hR.iter hfp hca ?_) | ((refine Tri.mono hpu ?_; rintro _ _ ⟨rfl, rfl⟩)) | refine wj ?_ | simp -dsimp only [↓bp, bq, br, seval, tbCodX2, *] | refine wz ?_ | fail)
  all_goals exact hfin rfl
 have hpt : pieceT i f = [] := by unfold pieceT; simp [k97, k98, k99, k107, k102, k110, k116, k115, k108]
 have g97 : ((f.toNat : Int) = 97) = False := eq_false fun h => k97 (UInt8.toNat_inj.1 (by show f.toNat = 97; omega))
 have g98 : ((f.toNat : Int) = 98) = False := eq_false fun h => k98 (UInt8.toNat_inj.1 (by show f.toNat = 98; omega))
 have g99 : ((f.toNat : Int) = 99) = False := eq_false fun h => k99 (UInt8.toNat_inj.1 (by show f.toNat = 99; omega))
 have g107 : ((f.toNat : Int) = 107) = False := eq_false fun h => k107 (UInt8.toNat_inj.1 (by show f.toNat = 107; omega))
 have g102 : ((f.toNat : Int) = 102) = False := eq_false fun h => k102 (UInt8.toNat_inj.1 (by show f.toNat = 102; omega))
 have g110 : ((f.toNat : Int) = 110) = False := eq_false fun h => k110 (UInt8.toNat_inj.1 (by show f.toNat = 110; omega))
 have g116 : ((f.toNat : Int) = 116) = False := eq_false fun h => k116 (UInt8.toNat_inj.1 (by show f.toNat = 116; omega))
 have g115 : ((f.toNat : Int) = 115) = False := eq_false fun h => k115 (UInt8.toNat_inj.1 (by show f.toNat = 115; omega))
 have g108 : ((f.toNat : Int) = 108) = False := eq_false fun h => k108 (UInt8.toNat_inj.1 (by show f.toNat = 108; omega))
 rw [hpt, List.append_nil] at hno
 clear hg hr hpl ho hfa hwl ho2 hlt hpf hfin k97 k98 k99 k107 k102 k110 k116 k115 k108
 repeat' (first | refine xs ?_ ?_ <;> intros | (refine wn ?_; intro bx hbx; try simp only [fb] at hbx) | (refine next_more hR.iter hfp hca ?_) | refine wj ?_ | simp -dsimp only [↓bp, bq, br, seval, tbCodX2, *] | refine wz ?_ | fail)
 all_goals (have hlt := (List.getElem?_eq_some_iff.1 hfp).1)
 all_goals exact ⟨fs.length - (p + 1), by omega, p + 1, out, by omega, rfl, ⟨hleT, hb8, by simp [AS.setTy]⟩, by omega, hno.symm⟩
end
set_option maxRecDepth 20000
section
variable {G : Nat -> AV}
end
end Go.Proofs.YtjmdaeabllkgnaaGreatDoor
