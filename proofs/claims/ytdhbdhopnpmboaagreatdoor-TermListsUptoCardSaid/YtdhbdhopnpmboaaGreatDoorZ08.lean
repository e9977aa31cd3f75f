/- The text of a term, plainly; parts put together and parted. -/
import Derived.Test.YtdhbdhopnpmboaaGreatDoorZ07
import Derived.Test.YtdhbdhopnpmboaaGreatDoorZ06
set_option linter.unusedVariables false
set_option linter.unusedSimpArgs false
set_option linter.defProp false
namespace Go.Proofs.YtdhbdhopnpmboaaGreatDoor
open Go Go.Av
section
def digs (n : Nat) : List UInt8 := if h : n = 0 then [] else UInt8.ofNat (48 + n % 10) :: digs (n / 10)
termination_by n
decreasing_by omega
def decT (n : Nat) : List UInt8 := if n = 0 then [48] else (digs n).reverse
def wsaid (t : Term) : List UInt8 := (if t.neg = true then [45] else []) ++ decT (val t.limbs)
def itoa (n : Int) : List UInt8 := (if n < 0 then [45] else []) ++ decT n.natAbs
def words : List (List UInt8) := [[97, 102, 116, 101, 114], [97, 110, 100], [97, 110, 100, 97, 108, 115, 111], [98, 101, 103, 105, 110], [99, 97, 115, 101], [100, 105, 118], [101, 110, 100], [102, 117, 110], [105, 102], [110, 111, 116], [111, 102], [111, 114], [111, 114, 101, 108, 115, 101], [114, 101, 99, 101, 105, 118, 101], [114, 101, 109], [116, 114, 121], [99, 97, 116, 99, 104], [119, 104, 101, 110], [120, 111, 114]]
def innerC (c : UInt8) : Bool := decide (97 <= c.toNat) && decide (c.toNat <= 122) || decide (65 <= c.toNat) && decide (c.toNat <= 90) || decide (48 <= c.toNat) && decide (c.toNat <= 57) || decide (c.toNat = 95) || decide (c.toNat = 64)
def plainA (s : List UInt8) : Bool := match s with
 | [] => false
 | c :: _ => decide (97 <= c.toNat) && decide (c.toNat <= 122) && !words.contains s && s.all innerC
def hexD (n : Nat) : UInt8 := if n < 10 then UInt8.ofNat (48 + n) else UInt8.ofNat (87 + n)
def quoC (c : UInt8) : List UInt8 :=
 if c.toNat = 39 \/ c.toNat = 92 then [92, c]
 else if c.toNat = 10 then [92, 110]
 else if c.toNat < 32 \/ 126 < c.toNat then [92, 120, hexD (c.toNat / 16), hexD (c.toNat % 16)]
 else [c]
def quoted (s : List UInt8) : List UInt8 := 39 :: (s.flatMap quoC ++ [39])
def atomT (s : List UInt8) : List UInt8 := if plainA s = true then s else quoted s
mutual
def said : Term -> List UInt8
 | .mk k g l s n ks ts =>
  if (k.toNat : Int) = 1 then wsaid (.mk k g l s n ks ts)
  else if (k.toNat : Int) = 2 then atomT s
  else if (k.toNat : Int) = 3 then [35, 82, 101, 102, 60] ++ itoa n ++ [62]
  else if (k.toNat : Int) = 4 then [35, 70, 117, 110, 60] ++ itoa n ++ [62]
  else if (k.toNat : Int) = 5 then [60] ++ itoa n ++ [62]
  else if (k.toNat : Int) = 6 then [123] ++ (saidI ks ++ saidT ts) ++ [125]
  else [91] ++ (saidI ks ++ saidT ts) ++ [93]
def saidI : List Term -> List UInt8
 | [] => []
 | x :: l => said x ++ saidN l
def saidN : List Term -> List UInt8
 | [] => []
 | x :: l => 44 :: (said x ++ saidN l)
def saidT : List Term -> List UInt8
 | [] => []
 | x :: l => 124 :: (said x ++ saidT l)
end
theorem said_eq (t : Term) : said t = if t.knd = 1 then wsaid t
  else if t.knd = 2 then atomT t.text
  else if t.knd = 3 then [35, 82, 101, 102, 60] ++ itoa t.num ++ [62]
  else if t.knd = 4 then [35, 70, 117, 110, 60] ++ itoa t.num ++ [62]
  else if t.knd = 5 then [60] ++ itoa t.num ++ [62]
  else if t.knd = 6 then [123] ++ (saidI t.items ++ saidT t.tail) ++ [125]
  else [91] ++ (saidI t.items ++ saidT t.tail) ++ [93] := by
 cases t; rw [said]; rfl
def text (t : Term) : List UInt8 := if right t = true then said t else []
abbrev okC (c : UInt8) : Prop := 32 <= c.toNat /\ c.toNat <= 126
def okS (s : List UInt8) : Prop := ∀ c, c ∈ s -> okC c
theorem okS.append {a b : List UInt8} (h : okS a) (k : okS b) : okS (a ++ b) := fun c hc => (List.mem_append.1 hc).elim (h c) (k c)
theorem okS.cons {c : UInt8} {b : List UInt8} (h : okC c) (k : okS b) : okS (c :: b) := fun d hd => (List.mem_cons.1 hd).elim (fun e => e ▸ h) (k d)
theorem okS.nil : okS [] := fun c hc => by cases hc
theorem digs_ne {n : Nat} (h : n ≠ 0) : digs n ≠ [] := by unfold digs; rw [dif_neg h]; simp
def zeroT : Term := .mk 0 false [] [] 0 [] []
theorem zero_bad : right zeroT = false := by decide +kernel
def cons0 (h t : Term) : Term := if t.knd = 7 then listT (h :: t.items) t.tail else listT [h] [t]
def cons (h t : Term) : Term := if right h = true /\ right t = true /\ right (cons0 h t) = true then cons0 h t else zeroT
def split (t : Term) : Option (Term × Term) := if right t = true /\ t.knd = 7 then (match t.items with
 | [] => none
 | [x] => some (x, tailOf t)
 | x :: l => some (x, listT l t.tail)) else none
theorem cons_bad {h t : Term} (hb : ¬ (right h = true /\ right t = true)) : cons h t = zeroT := by
 unfold cons
 rw [if_neg (fun x => hb ⟨x.1, x.2.1⟩)]
end
set_option maxRecDepth 20000
section
def tbRev := And.intro (And.intro @tf3 (And.intro @tf4 @tf5)) (And.intro (And.intro @tf9 @tf45) (And.intro @isv_byteA @flat_byteA))
variable (G : Nat -> AV)
theorem bytesA_set (s : List UInt8) (i : Nat) (c : UInt8) (h : i < s.length) : (bytesA s).take i ++ [byteA c] ++ (bytesA s).drop (i + 1) = bytesA (s.set i c) := by
 unfold bytesA
 rw [List.append_assoc, <- List.map_take, <- List.map_drop, List.set_eq_take_append_cons_drop, if_pos h, List.map_append, List.map_cons]
 rfl
theorem bytesA_get (s : List UInt8) (i : Nat) : (bytesA s)[i]? = (s[i]?).map byteA := by simp [bytesA]
def Turned (s t : List UInt8) (i : Nat) : Prop := t.length = s.length /\ ∀ k, k < s.length -> t[k]? = if k < i \/ s.length - i <= k then s[s.length - 1 - k]? else s[k]?
theorem Turned.step {s t : List UInt8} {i : Nat} (h : Turned s t i) (hi : i + i + 1 < s.length) {x y : UInt8} (hx : t[i]? = some x) (hy : t[s.length - 1 - i]? = some y) : Turned s ((t.set i y).set (s.length - 1 - i) x) (i + 1) := by
 obtain ⟨h1, h2⟩ := h
 have gx := h2 i (by omega)
 have gy := h2 (s.length - 1 - i) (by omega)
 rw [if_neg (by omega), hx] at gx
 rw [if_neg (by omega), hy] at gy
 refine ⟨by simp [h1], fun k hk => ?_⟩
 rw [List.getElem?_set]
 by_cases e1 : s.length - 1 - i = k
 ·rw [if_pos e1, if_pos (by simp; omega), if_pos (by omega)]
  rw [gx]; congr 1; omega
 ·rw [if_neg e1, List.getElem?_set]
  by_cases e2 : i = k
  ·rw [if_pos e2, if_pos (by omega), if_pos (by omega), gy]; subst e2; rfl
  ·rw [if_neg e2, h2 k hk]
   by_cases e3 : k < i \/ s.length - i <= k
   ·rw [if_pos e3, if_pos (by omega)]
   ·rw [if_neg e3, if_neg (by omega)]
theorem Turned.done {s t : List UInt8} {i : Nat} (h : Turned s t i) (hi : s.length <= i + i + 1) : t = s.reverse := by
 obtain ⟨h1, h2⟩ := h
 refine List.ext_getElem? fun k => ?_
 by_cases hk : k < s.length
 ·rw [h2 k hk, List.getElem?_reverse hk]
  split
  ·rfl
  ·congr 1; omega
 ·rw [List.getElem?_eq_none (by omega), List.getElem?_eq_none (by simp; omega)]
theorem reverse_tri (s : List UInt8) (hl : s.length <= 1000000000) (σ : AS) (b : Nat) (hb : σ.box b = some (bytesA s)) :
  Tri Tryz.prog G 78 [.bs b s.length 1 5] σ fun r σ' => σ' = σ.setBox b (bytesA s.reverse) := by
 have hw0 : IntKind.i64.wrap ((s.length : Int) - 1) = s.length - 1 := wrap_nat (by omega) (by omega)
 refine Tri.of_awp mixed Tryz.func78 rfl (by kernel_rfl) (by kernel_rfl) (by simp [Tryz.ntmps78]) Tryz.results78 ?_
 repeat' (first | refine xs ?_ ?_ <;> intros | (refine wn ?_; intro bx hbx; try simp only [fb] at hbx) | refine wj ?_ | simp -dsimp only [↓bp, bq, br, seval, tbRev, Nat.mul_one, List.head?_drop, *] | refine wz ?_ | fail)
 refine loop_intro (fun n e σ' => ∃ (i : Nat) (t : List UInt8), i <= s.length /\ n = s.length - i /\ e 2 = .int .i64 i /\ e 3 = .int .i64 ((s.length : Int) - 1 - i) /\ Turned s t i /\ σ' = σ.setBox b (bytesA t)) s.length
  ⟨0, s, by omega, by omega, by first | (simp -dsimp only [↓bp, bq, br, seval, tbRev, Nat.mul_one, List.head?_drop]; done) | (simp -dsimp only [↓bp, bq, br, seval, tbRev, Nat.mul_one, List.head?_drop]; try rfl), by first | (simp -dsimp only [↓bp, bq, br, seval, tbRev, Nat.mul_one, List.head?_drop]; done) | (simp -dsimp only [↓bp, bq, br, seval, tbRev, Nat.mul_one, List.head?_drop]; simp), ⟨rfl, fun k hk => by rw [if_neg (by omega)]⟩, (setBox_id hb).symm⟩ ?_
 rintro n v σ' ⟨i, t, hi, rfl, h2, h3, ht, rfl⟩
 simp -dsimp only [↓bp, bq, br, seval, tbRev, Nat.mul_one, List.head?_drop] at h2 h3
 by_cases hlt : i + i + 1 < s.length
 ·obtain ⟨x, hx⟩ : ∃ x, t[i]? = some x := ⟨_, List.getElem?_eq_getElem (by rw [ht.1]; omega)⟩
  obtain ⟨y, hy⟩ : ∃ y, t[s.length - 1 - i]? = some y := ⟨_, List.getElem?_eq_getElem (by rw [ht.1]; omega)⟩
  have hst := ht.step hlt hx hy
  have c1 : (i : Int) < (s.length : Int) - 1 - i := by omega
  have hj : (s.length : Int) - 1 - i = ((s.length - 1 - i : Nat) : Int) := by omega
  have hbx : (bytesA t)[i]? = some (byteA x) := by rw [bytesA_get, hx]; rfl
  have hby : (bytesA t)[s.length - 1 - i]? = some (byteA y) := by rw [bytesA_get, hy]; rfl
  obtain ⟨j, hjj⟩ : ∃ j, s.length - 1 - i = j := ⟨_, rfl⟩
  rw [hjj] at hj hby hst
  rw [hj] at h3 c1
  have hb1 : (0 : Int) <= i /\ (i : Int) < s.length := by omega
  have hb2 : (0 : Int) <= j /\ (j : Int) < s.length := by omega
  have hl1 : i + 1 <= (bytesA t).length := by rw [bytesA_len, ht.1]; omega
  have hset1 := bytesA_set t i y (by rw [ht.1]; omega)
  have hset2 := bytesA_set (t.set i y) j x (by simp; rw [ht.1]; omega)
  have hl2 : j + 1 <= (bytesA (t.set i y)).length := by rw [bytesA_len]; simp; rw [ht.1]; omega
  clear hx hy ht hlt hi hw0 hb
  repeat' (first | refine xs ?_ ?_ <;> intros | (refine wn ?_; intro bx hbx; try simp only [fb] at hbx) | (refine draw_all_f [(13, 2), (13, 3)] (by kernel_rfl) (by kernel_rfl) ?_) | refine wj ?_ | simp -dsimp only [↓bp, bq, br, seval, tbRev, Nat.mul_one, List.head?_drop, *] | refine wz ?_ | fail)
  have h3' : IntKind.i64.wrap ((j : Int) - 1) = (s.length : Int) - 1 - ((i + 1 : Nat) : Int) := by rw [wrap_nat (by omega) (by omega)]; omega
  have h2' : IntKind.i64.wrap ((i : Int) + 1) = ((i + 1 : Nat) : Int) := by rw [wrap_nat (by omega) (by omega)]; rfl
  refine ⟨s.length - (i + 1), by omega, i + 1, _, by omega, rfl, by rw [h2'], by rw [h3'], hst, ?_⟩
  rfl
 ·have hd := ht.done (by omega)
  subst hd
  have c1 : ¬ (i : Int) < (s.length : Int) - 1 - i := by omega
  clear hi hlt ht hw0
  repeat' (first | refine xs ?_ ?_ <;> intros | (refine wn ?_; intro bx hbx; try simp only [fb] at hbx) | refine wj ?_ | simp -dsimp only [↓bp, bq, br, seval, tbRev, Nat.mul_one, List.head?_drop, *] | refine wz ?_ | fail)
  exact finishW_some _ (AS.le.refl _) rfl
end
set_option maxRecDepth 20000
section
def tbTermLent := And.intro (And.intro (And.intro (And.intro @tf3 @tf4) (And.intro @tf5 (And.intro @tf47 @tf9))) (And.intro (And.intro @tf23 (And.intro @tf22 @tf24)) (And.intro @tf26 (And.intro @Term.flat_enc @Term.isv_enc)))) (And.intro (And.intro (And.intro @Term.fold_enc (And.intro @isv_encs @flat_encs)) (And.intro @len_encs (And.intro @ix_encs @ix_encs'))) (And.intro (And.intro @isv_lims (And.intro @flat_lims @len_lims)) (And.intro @ix_lims (And.intro @ix_lims' @flat_limA))))
variable (G : Nat -> AV)
def markT (k i : Int) : Term := .mk 0 false [] [] (markI k i) [] []
theorem enc_nil (k : UInt8) (g : Bool) (s : List UInt8) (n : Int) : Le (.agg [.int .u8 k.toNat, .bool g, .nil, .str s, .int .i64 n, .nil, .nil]) (Term.mk k g [] s n [] []).enc := by
 have e : (Term.mk k g [] s n [] []).enc = .agg [.int .u8 k.toNat, .bool g, .sl .none [] [], .str s, .int .i64 n, .sl .none [] [], .sl .none [] []] := by simp [Term.enc, lims]
 rw [e]
 exact Le.agg (.cons (Le.refl _) (.cons (Le.refl _) (.cons Le.nil (.cons (Le.refl _) (.cons (Le.refl _) (.cons Le.nil (.cons Le.nil .nil))))))) (fun d hd => by simp at hd; rcases hd with rfl | rfl | rfl | rfl | rfl | rfl <;> rfl)
theorem markTerm_pure (k i : Int) : Pure Tryz.prog G 71 [.int .i64 k, .int .i64 i] (markT k i).enc := by
 refine Pure.tellLess (v := .agg [.int .u8 0, .bool false, .nil, .str [], .int .i64 (markI k i), .nil, .nil]) ?_ (enc_nil 0 false [] _)
 intro σ
 refine Tri.of_awp mixed Tryz.func71 rfl (by kernel_rfl) (by kernel_rfl) (by simp [Tryz.ntmps71]) Tryz.results71 ?_
 repeat' (first | refine xs ?_ ?_ <;> intros | (refine wn ?_; intro bx hbx; try simp only [fb] at hbx) | refine Pure.use (by apply mark_pure <;> (first | assumption | omega | (simp only [*]; done))) ?_ | refine wj ?_ | simp -dsimp only [↓bp, bq, br, seval, tbTermLent, *] | refine wz ?_ | fail)
 all_goals rfl
def marksTo (k i : Nat) : List AV := (List.range i).map fun (i : Nat) => (markT k (i : Int)).enc
theorem marksTo_succ (k i : Nat) : marksTo k (i + 1) = marksTo k i ++ [(markT k (i : Int)).enc] := by simp [marksTo, List.range_succ]
theorem marksTo_len (k i : Nat) : (marksTo k i).length = i := by simp [marksTo]
def marks : List AV := marksTo 1 12
def Term.lent : Term -> AV
 | .mk k g l s n ks ts => .agg [.int .u8 k.toNat, .bool g, lentLims l, .str s, .int .i64 n, .sl .none (ks.map Term.lent) marks, .sl .none (ts.map Term.lent) marks]
def lents (l : List Term) : AV := .sl .none (l.map Term.lent) marks
theorem Term.flat_lent (t : Term) : flat t.lent = [.int .u8 t.knd, .bool t.neg, lentLims t.limbs, .str t.text, .int .i64 t.num, lents t.items, lents t.tail] := by
 cases t; simp [Term.lent, flat, Term.knd, Term.kind, Term.neg, Term.limbs, Term.text, Term.num, Term.items, Term.tail, lents]
theorem Term.isv_lent (t : Term) : isv t.lent = true := by cases t; simp [Term.lent, isv]
theorem isv_lents (l : List Term) : isv (lents l) = true := rfl
theorem flat_lents (l : List Term) : flat (lents l) = [lents l] := rfl
theorem Term.fold_lent (t : Term) : AV.agg [.int .u8 t.knd, .bool t.neg, lentLims t.limbs, .str t.text, .int .i64 t.num, lents t.items, lents t.tail] = t.lent := by
 cases t; simp [Term.lent, Term.knd, Term.kind, Term.neg, Term.limbs, Term.text, Term.num, Term.items, Term.tail, lents]
theorem lent_leE (t : Term) : LeE t.lent t.enc := by
 refine Term.ind (P := fun t => LeE t.lent t.enc) (fun t ih1 ih2 => ?_) t
 refine ⟨?_, t.isv_enc, ones t⟩
 rw [t.flat_lent, t.flat_enc]
 exact .cons (Le.refl _) (.cons (Le.refl _) (.cons (lentLims_le _) (.cons (Le.refl _) (.cons (Le.refl _) (.cons (Le.trans Le.spare (Le.sl (LeEs.map _ ih1))) (.cons (Le.trans Le.spare (Le.sl (LeEs.map _ ih2))) .nil))))))
theorem LeE.le {a b : Term} (h : Les (flat a.lent) (flat b.enc)) : Le a.lent b.enc := by
 rw [<- a.fold_lent, <- b.fold_enc]
 rw [a.flat_lent, b.flat_enc] at h
 exact Le.agg h (fun d hd => by simp at hd; rcases hd with rfl | rfl | rfl | rfl | rfl | rfl | rfl <;> rfl)
theorem lent_le (t : Term) : Le t.lent t.enc := LeE.le (lent_leE t).cells
theorem flat7l {l : List Term} : ∀ a, a ∈ l.map Term.lent -> (flat a).length = 7 := fun a ha => by
 obtain ⟨x, _, rfl⟩ := List.mem_map.1 ha
 rw [x.flat_lent]; rfl
theorem tfN : aelt Tryz.prog 24 = some (26, 7, 104) := tf24.2.2.2.2.2.2
theorem tfE : el Tryz.prog 24 = some 26 := tf24.2.2.2.1
theorem sl_lents {t : TypeId} (l : List Term) (h : Int) (hh : h = l.length + 12) (ht : t = 24) {K : AV -> Prop} {d : Dum K} (hK : ∀ g, K (.sl g (l.map Term.lent ++ marks) [])) : bo (aslice Tryz.prog t (lents l) none (some (.int .i64 h))) K d := by
 subst hh ht
 refine piece (l := 0) (h := l.length + 12) tfE tf26.1 rfl (by simp [abnd]; omega) (by omega) (by simp [marks, marksTo_len]) (fun a ha => ?_) (fun g' => ?_)
 ·rcases List.mem_append.1 ha with ha | ha
  ·exact flat7l a ha
  ·obtain ⟨i, _, rfl⟩ := List.mem_map.1 ha
   rw [Term.flat_enc]; rfl
 ·have e1 : ((l.map Term.lent ++ marks).take (l.length + 12)).drop 0 = l.map Term.lent ++ marks := by
   rw [List.drop_zero, List.take_of_length_le (by simp [marks, marksTo_len])]
  have e2 : (l.map Term.lent ++ marks).drop (l.length + 12) = [] := List.drop_eq_nil_of_le (by simp [marks, marksTo_len])
  rw [e1, e2]
  have hml : marks.length = 12 := by simp [marks, marksTo_len]
  unfold slim
  split
  ·rename_i heq _
   have h2 : marks = [] := by injection heq
   rw [h2] at hml
   cases hml
  ·exact hK g'
theorem sl_lents_len {P : Program} {t : TypeId} (l : List Term) : ablt P .len #[t] [lents l] = if (el P t).isSome then some (.int .i64 l.length) else none := by
 simp [lents, l_sl]
theorem kepts_pure (l : List Term) (hl : l.length <= 1000000000) (hf : ∀ x, x ∈ l -> Pure Tryz.prog G 13 [x.lent, x.enc] (.bool true)) : Pure Tryz.prog G 52 [lents l, encs l] (.bool true) := by
 intro σ
 have hw0 : IntKind.i64.wrap ((l.length : Int) + 12) = l.length + 12 := wrap_nat (by omega) (by omega)
 have hml : marks.length = 12 := by simp [marks, marksTo_len]
 have hsm : ∀ i : Int, Pure Tryz.prog G 18 [(markT 1 i).enc, (markT 1 i).enc] (.bool true) := fun i => by
  have := same_pure G (markT 1 i) (markT 1 i) (by simp [markT, Term.bulk, bulks]) (by simp [markT, Term.bulk, bulks])
  rwa [(same_iff _ _).2 rfl] at this
 refine Tri.of_awp mixed Tryz.func52 rfl (by kernel_rfl) (by kernel_rfl) (by simp [Tryz.ntmps52]) Tryz.results52 ?_
 simp -dsimp only [↓bp, bq, br, seval, tbTermLent, hw0, sl_lents_len]
 try refine slW_bo ?_
 refine sl_lents l _ rfl rfl fun g => ?_
 simp -dsimp only [↓bp, bq, br, seval, tbTermLent]
 refine loop_intro (fun n e σ' => ∃ i : Nat, i <= ((l.map Term.lent ++ marks)).length /\ n = ((l.map Term.lent ++ marks)).length - i /\ e 6 = .int .i64 i /\ σ.le σ') ((l.map Term.lent ++ marks)).length
   ⟨0, by omega, by omega, by simp -dsimp only [↓bp, bq, br, seval, tbTermLent]; first | done | rfl, AS.le.refl σ⟩ ?_
 rintro n v σ' ⟨i, hi, rfl, h6, hle⟩
 simp -dsimp only [↓bp, bq, br, seval, tbTermLent] at h6
 simp -dsimp only [↓bp, bq, br, seval, tbTermLent, h6]
 refine condW_dec (fun hlt => ?_) (fun hge => ?_)
 ·have hl3 : i < l.length + 12 := by rw [List.length_append, List.length_map, hml] at hlt; omega
  by_cases hi2 : (i : Int) < l.length
  ·obtain ⟨k, hk⟩ : ∃ k, l[i]? = some k := ⟨_, List.getElem?_eq_getElem (by omega)⟩
   have hkm : k ∈ l := List.mem_of_getElem? hk
   have hx : (l.map Term.lent ++ marks)[i]? = some k.lent := by rw [List.getElem?_append_left (by simp; omega), List.getElem?_map, hk]; rfl
   have hge : ¬ (l.length : Int) <= i := by omega
   clear hi hlt
   repeat' (first | refine xs ?_ ?_ <;> intros | (refine wn ?_; intro bx hbx; try simp only [fb] at hbx) | refine Pure.use (hf k hkm) ?_ | refine Pure.head (hf k hkm) ?_ | refine wj ?_ | simp -dsimp only [↓bp, bq, br, seval, tbTermLent, Term.flat_lent, Term.isv_lent, Term.fold_lent, isv_lents, flat_lents, sl_lents_len, *] | refine wz ?_ | fail)
   all_goals (have hl2 : (l.map Term.lent ++ marks).length = l.length + 12 := by simp [hml])
   all_goals exact ⟨(l.map Term.lent ++ marks).length - (i + 1), by omega, i + 1, by omega, rfl, by rw [wrap_nat (by omega) (by omega)]; rfl⟩
  ·have hx : (l.map Term.lent ++ marks)[i]? = some (markT 1 ((i - l.length : Nat) : Int)).enc := by
    rw [List.getElem?_append_right (by simp; omega), List.length_map]
    have : i - l.length < 12 := by omega
    simp [marks, marksTo, this]
   have hge : (l.length : Int) <= i := by omega
   have hw1 : IntKind.i64.wrap ((i : Int) - l.length) = ((i - l.length : Nat) : Int) := by rw [wrap_nat (by omega) (by omega)]; omega
   clear hi hlt
   repeat' (first | refine xs ?_ ?_ <;> intros | (refine wn ?_; intro bx hbx; try simp only [fb] at hbx) | refine Pure.use (markTerm_pure G 1 _) ?_ | refine Pure.head (markTerm_pure G 1 _) ?_ | refine Pure.use (hsm _) ?_ | refine Pure.head (hsm _) ?_ | refine wj ?_ | simp -dsimp only [↓bp, bq, br, seval, tbTermLent, Term.flat_lent, Term.isv_lent, Term.fold_lent, isv_lents, flat_lents, sl_lents_len, *] | refine wz ?_ | fail)
   all_goals (have hl2 : (l.map Term.lent ++ marks).length = l.length + 12 := by simp [hml])
   all_goals exact ⟨(l.map Term.lent ++ marks).length - (i + 1), by omega, i + 1, by omega, rfl, by rw [wrap_nat (by omega) (by omega)]; rfl⟩
 ·have : i = (l.map Term.lent ++ marks).length := by omega
  subst this
  clear hi hge
  repeat' (first | refine xs ?_ ?_ <;> intros | (refine wn ?_; intro bx hbx; try simp only [fb] at hbx) | refine wj ?_ | simp -dsimp only [↓bp, bq, br, seval, tbTermLent, *] | refine wz ?_ | fail)
  all_goals rfl
theorem kept_pure (t : Term) (hb : t.bulk <= 1000000000) : Pure Tryz.prog G 13 [t.lent, t.enc] (.bool true) := by
 revert hb
 refine Term.ind (P := fun t => t.bulk <= 1000000000 -> Pure Tryz.prog G 13 [t.lent, t.enc] (.bool true)) (fun t ih1 ih2 hb => ?_) t
 have hl1 := kepts_pure G t.items (by have := len_items t; omega) (fun x hx => ih1 x hx (by have := bulk_item hx; omega))
 have hl2 := kepts_pure G t.tail (by have := len_tail t; omega) (fun x hx => ih2 x hx (by have := bulk_tail hx; omega))
 have hl3 := keptlims_pure G t.limbs (by have := len_limbs t; omega)
 have hs := (same_pure G t t hb hb).lessArgs (args := [t.lent, t.enc]) (.cons (lent_le t) (.cons (Le.refl _) .nil))
 rw [(same_iff t t).2 rfl] at hs
 intro σ
 refine Tri.of_awp mixed Tryz.func13 rfl (by kernel_rfl) (by kernel_rfl) (by simp [Tryz.ntmps13]) Tryz.results13 ?_
 repeat' (first | refine xs ?_ ?_ <;> intros | (refine wn ?_; intro bx hbx; try simp only [fb] at hbx) | refine wp hl1 ?_ | refine wp hl2 ?_ | refine wp hl3 ?_ | refine wp hs ?_ | refine wj ?_ | simp -dsimp only [↓bp, bq, br, seval, tbTermLent, Term.flat_lent, Term.isv_lent, Term.fold_lent, isv_lents, flat_lents, sl_lents_len, isv_lentLims, flat_lentLims, *] | refine wz ?_ | fail)
 all_goals rfl
end
set_option maxRecDepth 20000
section
def tbMade := And.intro (And.intro (And.intro (And.intro @tf3 (And.intro @tf4 @tf5)) (And.intro @tf47 (And.intro @tf128 @tf106))) (And.intro (And.intro @tf9 (And.intro @tf23 @tf22)) (And.intro @tf24 (And.intro @tf26 @Term.flat_enc)))) (And.intro (And.intro (And.intro @Term.isv_enc (And.intro @Term.fold_enc @isv_lims)) (And.intro @flat_lims (And.intro @len_lims @ix_lims))) (And.intro (And.intro @ix_lims' (And.intro @flat_limA @ares_cons2)) (And.intro @ares1_tmp (And.intro @ares1_cell @aresk_some))))
variable (G : Nat -> AV)
def strip : List UInt32 -> List UInt32
 | [] => []
 | x :: l => if strip l = [] /\ x = 0 then [] else x :: strip l
theorem strip_val : ∀ l, val (strip l) = val l
 | [] => rfl
 | x :: l => by
  have ih := strip_val l
  simp only [strip]
  split
  ·rename_i h
   obtain ⟨h1, rfl⟩ := h
   rw [h1] at ih
   simp only [val] at ih ⊢
   rw [<- ih]; rfl
  ·simp only [val, ih]
theorem strip_zero : ∀ l, strip (l ++ [0]) = strip l
 | [] => by simp [strip]
 | x :: l => by simp only [List.cons_append, strip, strip_zero l]
theorem strip_keep : ∀ (l : List UInt32) (x : UInt32), x ≠ 0 -> strip (l ++ [x]) = l ++ [x]
 | [], x, h => by simp [strip, h]
 | y :: l, x, h => by simp only [List.cons_append, strip, strip_keep l x h]; simp
theorem strip_len : ∀ l, (strip l).length <= l.length
 | [] => by simp [strip]
 | x :: l => by
  have := strip_len l
  simp only [strip]
  split <;> simp <;> omega
theorem strip_last : ∀ l, strip l = [] \/ ∃ m x, strip l = m ++ [x] /\ x ≠ 0
 | [] => .inl rfl
 | x :: l => by
  simp only [strip]
  rcases strip_last l with h | ⟨m, y, h, hy⟩
  ·by_cases hx : x = 0
   ·rw [if_pos ⟨h, hx⟩]; exact .inl rfl
   ·rw [if_neg (fun c => hx c.2), h]; exact .inr ⟨[], x, rfl, hx⟩
  ·rw [if_neg (fun c => by rw [h] at c; simp at c), h]; exact .inr ⟨x :: m, y, rfl, hy⟩
def intT (neg : Bool) (m : List UInt32) : Term := .mk 1 neg m [] 0 [] []
def madeR (l : List UInt32) (neg : Bool) : AV := if (strip l).length <= 32 then .tup [(intT (neg && decide (0 < ((strip l).length : Int))) (strip l)).enc, .bool true] else .tup [zeroT.enc, .bool false]
theorem intT_le (g : Bool) (m : List UInt32) : Le (.agg [.int .u8 1, .bool g, lims m, .str [], .int .i64 0, .nil, .nil]) (intT g m).enc := by
 rw [<- Term.fold_enc (intT g m)]
 refine Le.agg ?_ (fun d hd => ones (intT g m) d (by rw [Term.flat_enc]; exact hd))
 exact .cons (Le.refl _) (.cons (Le.refl _) (.cons (Le.refl _) (.cons (Le.refl _) (.cons (Le.refl _) (.cons Le.nil (.cons Le.nil .nil))))))
theorem made_pure (l : List UInt32) (neg : Bool) (hl : l.length <= 1000000000) : Pure Tryz.prog G 77 [lims l, .bool neg] (madeR l neg) := by
 refine Pure.of_le fun σ => ?_
 have hc : ∀ m : List UInt32, m.length <= 1000000000 -> Pure Tryz.prog G 49 [lims m] (lims m) := fun m hm => Pure.of_le (clone_tri G m hm)
 refine Tri.of_awp mixed Tryz.func77 rfl (by kernel_rfl) (by kernel_rfl) (by simp [Tryz.ntmps77]) Tryz.results77 ?_
 repeat' (first | refine xs ?_ ?_ <;> intros | (refine wn ?_; intro bx hbx; try simp only [fb] at hbx) | refine wj ?_ | simp -dsimp only [↓bp, bq, br, seval, tbMade, *] | refine wz ?_ | fail)
 refine loop_intro (fun n e σ' => ∃ m : List UInt32, n = m.length /\ m.length <= l.length /\ strip m = strip l /\ e 0 = lims m /\ σ' = σ.setBox bx [.int .u8 0, .bool false, .nil, .str [], .int .i64 0, .nil, .nil]) l.length ⟨l, rfl, Nat.le_refl _, rfl, by first | (simp -dsimp only [↓bp, bq, br, seval, tbMade]; done) | (simp -dsimp only [↓bp, bq, br, seval, tbMade]; try rfl), rfl⟩ ?_
 rintro n v σ' ⟨m, rfl, hml, hst, h0, rfl⟩
 simp -dsimp only [↓bp, bq, br, seval, tbMade] at h0
 rcases List.eq_nil_or_concat m with rfl | ⟨m', x, rfl⟩
 ·have hs : strip l = [] := by rw [<- hst]; rfl
  have hcm := hc [] (by simp)
  have hlz : (([] : List UInt32).length : Int) = 0 := rfl
  have hr : madeR l neg = .tup [(intT false []).enc, .bool true] := by unfold madeR; rw [hs]; simp
  rw [hr]
  generalize hnil : ([] : List UInt32) = q at *
  clear hc hs hst hml hr
  repeat' (first | refine xs ?_ ?_ <;> intros | (refine wn ?_; intro bx hbx; try simp only [fb] at hbx) | refine wp hcm ?_ | refine wj ?_ | simp -dsimp only [↓bp, bq, br, seval, tbMade, hlz, *] | refine wz ?_ | fail)
  all_goals
   refine finishW_some σ (by repeat' first | exact lr _ | assumption | refine ls ?_ ?_ | refine lt ?_ ?_ | simp only [*]; done | simp only [fb, *, not_false_eq_true, and_self]; done | exact lf ‹_› (by simp only [*])) ?_
   exact ⟨Le.tup (.cons (intT_le _ _) (.cons (Le.refl _) .nil)), rfl⟩
 ·simp only [List.concat_eq_append] at *
  have hlen : ((m' ++ [x]).length : Int) = m'.length + 1 := by simp
  have hlen' : (m' ++ [x]).length = m'.length + 1 := by simp
  have hw : IntKind.i64.wrap ((m'.length : Int) + 1 - 1) = m'.length := by rw [wrap_nat (by omega) (by omega)]; omega
  have hget : (m' ++ [x])[m'.length]? = some x := by simp
  have htake : (m' ++ [x]).take m'.length = m' := by simp
  have hcm := hc (m' ++ [x]) (by omega)
  have hp : (0 : Int) < m'.length + 1 := by omega
  have hmm : m'.length <= (m' ++ [x]).length := by omega
  by_cases hx : x = 0
  ·subst hx
   rw [strip_zero] at hst
   have hz : ((0 : UInt32).toNat : Int) = 0 := rfl
   have hml' : m'.length <= l.length := by omega
   generalize hq : m' ++ [0] = q at *
   clear hc hml hlen'
   repeat' (first | refine xs ?_ ?_ <;> intros | (refine wn ?_; intro bx hbx; try simp only [fb] at hbx) | refine wj ?_ | simp -dsimp only [↓bp, bq, br, seval, tbMade, hlen, hw, limA, hz, sl_lims, *] | refine wz ?_ | fail)
   all_goals exact ⟨m'.length, by rw [<- hq]; simp, m', rfl, hml', hst, rfl⟩
  ·have hs : strip l = m' ++ [x] := by rw [<- hst, strip_keep _ _ hx]
   have hz : ¬ (x.toNat : Int) = 0 := fun e => hx (UInt32.toNat_inj.1 (by simpa using e))
   by_cases h32 : m'.length + 1 <= 32
   ·have hr : madeR l neg = .tup [(intT (neg && true) (m' ++ [x])).enc, .bool true] := by unfold madeR; rw [hs, hlen', if_pos h32]; congr 5; simp
    rw [hr]
    have h32' : ¬ (32 : Int) < m'.length + 1 := by omega
    generalize hq : m' ++ [x] = q at *
    clear hc hs hst hml hr h32 hlen'
    repeat' (first | refine xs ?_ ?_ <;> intros | (refine wn ?_; intro bx hbx; try simp only [fb] at hbx) | refine wp hcm ?_ | refine wj ?_ | simp -dsimp only [↓bp, bq, br, seval, tbMade, hlen, hw, limA, hz, sl_lims, *] | refine wz ?_ | fail)
    all_goals
     refine finishW_some σ (by repeat' first | exact lr _ | assumption | refine ls ?_ ?_ | refine lt ?_ ?_ | simp only [*]; done | simp only [fb, *, not_false_eq_true, and_self]; done | exact lf ‹_› (by simp only [*])) ?_
     cases neg <;> first | exact ⟨Le.tup (.cons (intT_le _ _) (.cons (Le.refl _) .nil)), rfl⟩ | (exfalso; simp_all; done)
   ·have hr : madeR l neg = .tup [zeroT.enc, .bool false] := by unfold madeR; rw [hs, hlen', if_neg h32]
    rw [hr]
    have h32' : (32 : Int) < m'.length + 1 := by omega
    generalize hq : m' ++ [x] = q at *
    clear hc hs hst hml hr h32 hlen'
    repeat' (first | refine xs ?_ ?_ <;> intros | (refine wn ?_; intro bx hbx; try simp only [fb] at hbx) | refine wp hcm ?_ | refine wj ?_ | simp -dsimp only [↓bp, bq, br, seval, tbMade, hlen, hw, limA, hz, sl_lims, *] | refine wz ?_ | fail)
    all_goals
     refine finishW_some σ (by repeat' first | exact lr _ | assumption | refine ls ?_ ?_ | refine lt ?_ ?_ | simp only [*]; done | simp only [fb, *, not_false_eq_true, and_self]; done | exact lf ‹_› (by simp only [*])) ?_
     exact ⟨Le.tup (.cons (enc_nil 0 false [] 0) (.cons (Le.refl _) .nil)), rfl⟩
end
set_option maxRecDepth 20000
section
def tbWText := And.intro (And.intro (And.intro (And.intro @tf3 (And.intro @tf4 @tf5)) (And.intro @tf47 (And.intro @tf9 @tf23))) (And.intro (And.intro @tf45 (And.intro @tf22 @tf24)) (And.intro @tf26 (And.intro @bytesA_len @Term.flat_enc)))) (And.intro (And.intro (And.intro @Term.isv_enc (And.intro @Term.fold_enc @isv_encs)) (And.intro @flat_encs (And.intro @len_encs @isv_lims))) (And.intro (And.intro @flat_lims (And.intro @len_lims @ix_lims)) (And.intro (And.intro @ix_lims' @flat_limA) (And.intro @isv_byteA @flat_byteA))))
variable (G : Nat -> AV)
theorem canon_zero {m : List UInt32} (h : m = [] \/ ∃ q x, m = q ++ [x] /\ x ≠ 0) (h0 : val m = 0) : m = [] := by
 rcases h with h | ⟨q, x, rfl, hx⟩
 ·exact h
 ·rw [val_append] at h0
  simp only [val] at h0
  have hp : 0 < 4294967296 ^ q.length := Nat.pow_pos (by omega)
  have : x.toNat ≠ 0 := fun e => hx (UInt32.toNat_inj.1 (by simpa using e))
  have : 0 < 4294967296 ^ q.length * (x.toNat + 4294967296 * 0) := Nat.mul_pos hp (by omega)
  omega
theorem wr_int {t : Term} (h : wr t = true) : t = intT t.neg t.limbs /\ (t.limbs = [] \/ ∃ q x, t.limbs = q ++ [x] /\ x ≠ 0) /\ t.limbs.length <= 32 := by
 obtain ⟨h1, h2, h3, h4, h5, h6, h7, h8⟩ := wr_spec h
 refine ⟨term_ext h1 rfl rfl h2 h3 h4 h5, ?_, h6⟩
 rcases List.eq_nil_or_concat t.limbs with e | ⟨q, x, e⟩
 ·exact .inl e
 ·rw [List.concat_eq_append] at e
  refine .inr ⟨q, x, e, fun hx => ?_⟩
  have := h8 (by rw [e]; simp)
  rw [e] at this
  simp [lastOk, hx] at this
theorem intT_limbs (g : Bool) (m : List UInt32) : (intT g m).limbs = m := rfl
theorem intT_fold (g : Bool) (m : List UInt32) : AV.agg [.int .u8 (intT g m).knd, .bool g, lims m, .str (intT g m).text, .int .i64 (intT g m).num, encs (intT g m).items, encs (intT g m).tail] = (intT g m).enc := (intT g m).fold_enc
theorem intT_neg (g : Bool) (m : List UInt32) : (intT g m).neg = g := rfl
theorem digs_step {n : Nat} (h : n ≠ 0) : digs n = UInt8.ofNat (48 + n % 10) :: digs (n / 10) := by rw [digs, dif_neg h]
theorem dig_byte (d : Nat) (h : d < 10) : AV.int .u8 (IntKind.u8.wrap (IntKind.u32.wrap (48 + (d : Int)))) = byteA (UInt8.ofNat (48 + d)) := by
 unfold byteA
 rw [u32_wrap (by omega) (by omega), IntKind.wrap_u8, UInt8.toNat_ofNat']
 congr 1
theorem bytesOf_bytesA (l : List UInt8) : bytesOf (bytesA l) = some l := by
 induction l with
 | nil => rfl
 | cons c l ih =>
  have : Av.byteOf (byteA c) = some c := by simp [Av.byteOf, byteA]
  simp only [bytesA, List.map_cons, bytesOf] at ih ⊢
  rw [this, ih]
theorem app_bytes (a b : List UInt8) : bytesA a ++ bytesA b = bytesA (a ++ b) := by simp [bytesA]
theorem rev_buf {σ1 s : AS} {v : AV} {zs : List UInt8} (h : WBuf 1 5 σ1 s v (bytesA zs)) (hne : zs ≠ []) (hl : zs.length <= 1000000) :
  Tri Tryz.prog G 78 [v] s fun r s' => ∃ rr, v = .bs rr zs.length 1 5 /\ s'.box rr = some (bytesA zs.reverse) /\ σ1.le s' := by
 obtain ⟨r, hr, hrb, hr0, hr1⟩ := h.form (by simpa [bytesA] using hne)
 rw [flat_bytesA] at hrb
 rw [bytesA_len] at hr
 subst hr
 refine (reverse_tri G zs (by omega) s r hrb).mono ?_
 rintro _ s' rfl
 exact ⟨r, rfl, by simp [AS.setBox], h.le.setBox hr0 _⟩
theorem digs_len : ∀ (k n : Nat), n < 10 ^ k -> (digs n).length <= k
 | 0, n, h => by
  have : n = 0 := by simp at h; omega
  subst this
  rw [digs]; simp
 | k + 1, n, h => by
  by_cases h0 : n = 0
  ·subst h0; rw [digs]; simp
  ·rw [digs_step h0, List.length_cons]
   have := digs_len k (n / 10) (by rw [Nat.pow_succ] at h; omega)
   omega
theorem val_lt : ∀ l : List UInt32, val l < 4294967296 ^ l.length
 | [] => by simp [val]
 | x :: l => by
  have := val_lt l
  have := x.toNat_lt
  simp only [val, List.length_cons, Nat.pow_succ]
  omega
theorem dig_bound {l : List UInt32} (h : l.length <= 32) : (digs (val l)).length <= 309 := by
 refine digs_len 309 _ (Nat.lt_of_lt_of_le (val_lt l) (Nat.le_trans (Nat.pow_le_pow_right (by omega) h) ?_))
 decide +kernel
set_option maxHeartbeats 2000000 in
theorem wtext_pure (t : Term) (hb : t.bulk <= 1000000000) : Pure Tryz.prog G 44 [t.enc] (.str (if wr t = true then wsaid t else [])) := by
 have hw := wr_pure G t hb
 cases ew : wr t with
 | false =>
  rw [ew] at hw
  intro σ
  refine Tri.of_awp mixed Tryz.func44 rfl (by kernel_rfl) (by kernel_rfl) (by simp [Tryz.ntmps44]) Tryz.results44 ?_
  repeat' (first | refine xs ?_ ?_ <;> intros | (refine wn ?_; intro bx hbx; try simp only [fb] at hbx) | refine wp hw ?_ | refine wj ?_ | simp -dsimp only [↓bp, bq, br, seval, tbWText, bytesOf_bytesA, intT_fold, intT_limbs, intT_neg, List.length_reverse, *] | refine wz ?_ | fail)
  all_goals rfl
 | true =>
  rw [ew] at hw
  obtain ⟨et, hcan, h32⟩ := wr_int ew
  rw [if_pos rfl]
  obtain ⟨g, hg⟩ : ∃ g, t.neg = g := ⟨_, rfl⟩
  obtain ⟨l, hl⟩ : ∃ l, t.limbs = l := ⟨_, rfl⟩
  have hsaid : wsaid t = (if g = true then [45] else []) ++ decT (val l) := by unfold wsaid; rw [hg, hl]
  rw [hsaid]
  rw [hg, hl] at et
  rw [hl] at hcan h32
  subst et
  clear hsaid hg hl hb ew
  have hsh := fun (m : List UInt32) (h : m.length <= 32) => short_pure G m 10 (by omega) (by omega) (by omega)
  have hmd := fun (m : List UInt32) (h : m.length <= 32) => made_pure G m false (by omega)
  have hdb := dig_bound h32
  intro σ
  refine Tri.of_awp mixed Tryz.func44 rfl (by kernel_rfl) (by kernel_rfl) (by simp [Tryz.ntmps44]) Tryz.results44 ?_
  repeat' (first | refine xs ?_ ?_ <;> intros | (refine wn ?_; intro bx hbx; try simp only [fb] at hbx) | refine wp hw ?_ | refine wj ?_ | simp -dsimp only [↓bp, bq, br, seval, tbWText, bytesOf_bytesA, intT_fold, intT_limbs, intT_neg, List.length_reverse, *] | refine wz ?_ | fail)
  rename_i b1 hb1
  obtain ⟨σ1, hs1⟩ : ∃ σ1, σ1 = σ.setBox b1 (flat (intT g l).enc) := ⟨_, rfl⟩
  have hle1 : σ.le σ1 := by rw [hs1]; exact (AS.le.refl σ).setBox hb1.1 _
  have hf1 : σ1.box b1 = some (flat (intT g l).enc) := by rw [hs1]; simp [AS.setBox]
  rw [Term.flat_enc, intT_limbs, intT_neg] at hs1
  rw [<- hs1]
  have hbx' : σ1.fresh bx := by rw [hs1, fresh_setBox]; exact ⟨hbx.1, hbx.2.1⟩
  refine loop_intro (fun n e σ' => ∃ (m : List UInt32) (gg : Bool) (b4 : Nat) (v : AV) (xs : List UInt8), n = val m /\ (m = [] \/ ∃ q x, m = q ++ [x] /\ x ≠ 0) /\ m.length <= 32 /\ e 4 = .ptr b4 0 /\ σ'.box b4 = some (flat (intT gg m).enc) /\ e 3 = v /\
   WBuf 1 5 σ1 σ' v (bytesA xs) /\ notRow v b4 /\ σ1.box b4 = none /\ xs ++ digs (val m) = digs (val l)) (val l)
   ⟨l, g, bx, .nil, [], rfl, hcan, h32, by first | (simp -dsimp only [↓bp, bq, br, seval, tbWText, bytesOf_bytesA, intT_fold, intT_limbs, intT_neg, List.length_reverse]; done) | (simp -dsimp only [↓bp, bq, br, seval, tbWText, bytesOf_bytesA, intT_fold, intT_limbs, intT_neg, List.length_reverse]; try rfl), by rw [Term.flat_enc]; first | (simp -dsimp only [↓bp, bq, br, seval, tbWText, bytesOf_bytesA, intT_fold, intT_limbs, intT_neg, List.length_reverse]; done) | (simp -dsimp only [↓bp, bq, br, seval, tbWText, bytesOf_bytesA, intT_fold, intT_limbs, intT_neg, List.length_reverse]; try rfl), by first | (simp -dsimp only [↓bp, bq, br, seval, tbWText, bytesOf_bytesA, intT_fold, intT_limbs, intT_neg, List.length_reverse]; done) | (simp -dsimp only [↓bp, bq, br, seval, tbWText, bytesOf_bytesA, intT_fold, intT_limbs, intT_neg, List.length_reverse]; try rfl), .nil ((AS.le.refl σ1).setBox hbx'.1 _), trivial, hbx'.1, rfl⟩ ?_
  rintro n v σ' ⟨m, gg, b4, v3, xs, rfl, hc, hm, h4, hb4, h3, hB, hn, h14, hxs⟩
  have hsh := hsh m hm
  obtain ⟨q1, q2, q3⟩ := divd_spec 10 (by omega) (by omega) m
  have hmd := hmd (divd m 10).1 (by omega)
  have hsl := strip_len (divd m 10).1
  have hmr : madeR (divd m 10).1 false = .tup [(intT false (strip (divd m 10).1)).enc, .bool true] := by unfold madeR; rw [if_pos (by omega), Bool.false_and]
  rw [hmr] at hmd
  have hv1 : val (strip (divd m 10).1) = val m / 10 := by rw [strip_val]; omega
  have hd1 : (divd m 10).2 = val m % 10 := by omega
  have hcn := strip_last (divd m 10).1
  rw [Term.flat_enc, intT_limbs, intT_neg] at hb4
  rw [hd1] at hsh q2
  generalize hq : (divd m 10).1 = q at *
  generalize strip q = q' at *
  simp -dsimp only [↓bp, bq, br, seval, tbWText, bytesOf_bytesA, intT_fold, intT_limbs, intT_neg, List.length_reverse] at h4 h3
  rcases List.eq_nil_or_concat m with hm0 | ⟨m', x, hm0⟩
  ·have hml : (m.length : Int) = 0 := by rw [hm0]; rfl
   have hxd : xs = digs (val l) := by
    rw [hm0] at hxs
    have e0 : digs (val []) = [] := by rw [digs]; simp [val]
    rw [e0, List.append_nil] at hxs
    exact hxs
   have hlv := hB.len (P := Tryz.prog) (t := 45)
   rw [bytesA_len] at hlv
   have hk0 := hB.le.box b1 _ hf1
   rw [Term.flat_enc, intT_limbs, intT_neg] at hk0 hf1
   have a48 : asrc Tryz.prog 45 (.sl .full [.int .u8 48] []) = some (bytesA [48]) := asrc_sl tfBE
   have a45 : asrc Tryz.prog 45 (.sl .full [.int .u8 45] []) = some (bytesA [45]) := asrc_sl tfBE
   have hxl : xs.length <= 309 := by rw [hxd]; exact hdb
   have hdec : decT (val l) = if xs = [] then [48] else xs.reverse := by
    unfold decT
    by_cases hv : val l = 0
    ·rw [if_pos hv, if_pos (by rw [hxd, hv, digs]; simp)]
    ·rw [if_neg hv, if_neg (by rw [hxd]; exact digs_ne hv), hxd]
   rw [hdec]
   clear hdec hw hsh hmd hdb hm0 hxs hmr hv1 hd1 hcn hc hs1 hxd q1 q2 q3 hsl hq hbx hm
   by_cases hx0 : xs = []
   ·subst hx0
    rw [if_pos rfl]
    have hz : (([] : List UInt8).length : Int) = 0 := rfl
    rw [hz] at hlv
    cases g with
    | false =>
     repeat' (first | refine xs ?_ ?_ <;> intros | (refine wn ?_; intro bx hbx; try simp only [fb] at hbx) | ((refine app_wb (ys := bytesA [48]) hB tfB a48 (bytes_ok _) (by simp [bytesA]) (fun v5 s5 ha => ?_); have k5 := ha.buf.le.box b1 _ hf1; have hb5 := ha.buf; have hl5 := hb5.len (P := Tryz.prog) (t := 45); rw [app_bytes] at hb5; clear ha)) | ((refine Tri.mono (rev_buf G hb5 (by simp) (by simp)) ?_; rintro _ s ⟨rr, rfl, hrr, hles⟩; replace hles := hle1.trans hles)) | refine wj ?_ | simp -dsimp only [↓bp, bq, br, seval, tbWText, bytesOf_bytesA, intT_fold, intT_limbs, intT_neg, List.length_reverse, *] | refine wz ?_ | fail)
     all_goals simp
    | true =>
     repeat' (first | refine xs ?_ ?_ <;> intros | (refine wn ?_; intro bx hbx; try simp only [fb] at hbx) | ((refine app_wb (ys := bytesA [48]) hB tfB a48 (bytes_ok _) (by simp [bytesA]) (fun v5 s5 ha => ?_); have k5 := ha.buf.le.box b1 _ hf1; have hb5 := ha.buf; have hl5 := hb5.len (P := Tryz.prog) (t := 45); rw [app_bytes] at hb5; clear ha)) | ((refine app_wb (ys := bytesA [45]) hb5 tfB a45 (bytes_ok _) (by simp [bytesA]) (fun v6 s6 ha => ?_); have k6 := ha.buf.le.box b1 _ hf1; have hb6 := ha.buf; have hl6 := hb6.len (P := Tryz.prog) (t := 45); rw [app_bytes] at hb6; clear ha)) | ((refine Tri.mono (rev_buf G hb6 (by simp) (by simp)) ?_; rintro _ s ⟨rr, rfl, hrr, hles⟩; replace hles := hle1.trans hles)) | refine wj ?_ | simp -dsimp only [↓bp, bq, br, seval, tbWText, bytesOf_bytesA, intT_fold, intT_limbs, intT_neg, List.length_reverse, *] | refine wz ?_ | fail)
     all_goals simp
   ·rw [if_neg hx0]
    have hz : ¬ (xs.length : Int) = 0 := fun e => hx0 (List.eq_nil_of_length_eq_zero (by omega))
    cases g with
    | false =>
     repeat' (first | refine xs ?_ ?_ <;> intros | (refine wn ?_; intro bx hbx; try simp only [fb] at hbx) | ((refine Tri.mono (rev_buf G hB hx0 (by omega)) ?_; rintro _ s ⟨rr, rfl, hrr, hles⟩; replace hles := hle1.trans hles)) | refine wj ?_ | simp -dsimp only [↓bp, bq, br, seval, tbWText, bytesOf_bytesA, intT_fold, intT_limbs, intT_neg, List.length_reverse, *] | refine wz ?_ | fail)
     all_goals simp
    | true =>
     repeat' (first | refine xs ?_ ?_ <;> intros | (refine wn ?_; intro bx hbx; try simp only [fb] at hbx) | ((refine app_wb (ys := bytesA [45]) hB tfB a45 (bytes_ok _) (by simp [bytesA]; omega) (fun v6 s6 ha => ?_); have k6 := ha.buf.le.box b1 _ hf1; have hb6 := ha.buf; have hl6 := hb6.len (P := Tryz.prog) (t := 45); rw [app_bytes] at hb6; clear ha)) | ((refine Tri.mono (rev_buf G hb6 (by simp) (by simp; omega)) ?_; rintro _ s ⟨rr, rfl, hrr, hles⟩; replace hles := hle1.trans hles)) | refine wj ?_ | simp -dsimp only [↓bp, bq, br, seval, tbWText, bytesOf_bytesA, intT_fold, intT_limbs, intT_neg, List.length_reverse, *] | refine wz ?_ | fail)
     all_goals simp
  ·have hml : (0 : Int) < m.length := by rw [hm0]; simp
   have hv0 : val m ≠ 0 := fun e => by have := canon_zero hc e; rw [hm0] at this; simp at this
   rw [digs_step hv0] at hxs
   have hdig := dig_byte (val m % 10) q2
   have hlen : xs.length + 1 <= 309 := by have := congrArg List.length hxs; simp at this; omega
   have hbs : asrc Tryz.prog 45 (.sl .full [byteA (UInt8.ofNat (48 + val m % 10))] []) = some (bytesA [UInt8.ofNat (48 + val m % 10)]) := asrc_sl tfBE
   have hq32 : q'.length <= 32 := by omega
   clear hm0 hw hdb q1 q3 hd1 hmr hsl hf1 hbx hs1 hq
   repeat' (first | refine xs ?_ ?_ <;> intros | (refine wn ?_; intro bx hbx; try simp only [fb] at hbx) | refine wp hsh ?_ | refine wp hmd ?_ | ((refine app_wb (ys := bytesA [UInt8.ofNat (48 + val m % 10)]) (hB.setOther h14 hn _) tfB hbs (bytes_ok _) (by rw [bytesA_len, bytesA_len]; simp; omega) (fun v5 s5 ha => ?_); have k1 := ha.keep b4 (flat (intT false q').enc) (by rw [Term.flat_enc]; simp [AS.setBox, intT_limbs, intT_neg]) hn; rw [Term.flat_enc, intT_limbs, intT_neg] at k1)) | refine wj ?_ | simp -dsimp only [↓bp, bq, br, seval, tbWText, bytesOf_bytesA, intT_fold, intT_limbs, intT_neg, List.length_reverse, *] | refine wz ?_ | fail)
   have hbb : bytesA xs ++ bytesA [UInt8.ofNat (48 + val m % 10)] = bytesA (xs ++ [UInt8.ofNat (48 + val m % 10)]) := by simp [bytesA]
   have hnb := ha.buf.newBox hbx
   rw [hbb] at hnb
   exact ⟨val q', by rw [hv1]; omega, q', false, bx, v5, xs ++ [UInt8.ofNat (48 + val m % 10)], rfl, hcn, hq32, rfl, (by first | (rw [if_pos rfl]; done) | (rw [if_pos rfl]; rfl)), rfl, (hnb _).1, (hnb []).2, (ha.buf.le.fresh hbx).1, by rw [hv1, List.append_assoc]; exact hxs⟩
end
end Go.Proofs.YtdhbdhopnpmboaaGreatDoor
