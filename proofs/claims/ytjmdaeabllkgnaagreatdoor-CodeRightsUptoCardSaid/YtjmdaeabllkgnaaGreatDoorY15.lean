/- The text of a term, plainly; parts put together and parted. -/
import Derived.Test.YtjmdaeabllkgnaaGreatDoorY14
import Derived.Test.YtjmdaeabllkgnaaGreatDoorY12
set_option linter.unusedVariables false
set_option linter.unusedSimpArgs false
set_option linter.defProp false
namespace Go.Proofs.YtjmdaeabllkgnaaGreatDoor
open Go Go.Av
section
def digs (n : Nat) : List UInt8 := if h : n = 0 then [] else UInt8.ofNat (48 + n % 10) :: digs (n / 10)
termination_by n
decreasing_by omega
def decT (n : Nat) : List UInt8 := if n = 0 then [48] else (digs n).reverse
def wsaid (t : Term) : List UInt8 := (if t.neg = true then [45] else []) ++ decT (val t.limbs)
def itoa (n : Int) : List UInt8 := (if n < 0 then [45] else []) ++ decT n.natAbs
def words : List (List UInt8) := [[97, 102, 116, 101, 114], [97, 110, 100], [97, 110, 100, 97, 108, 115, 111], [98, 101, 103, 105, 110], [99, 97, 115, 101], [100, 105, 118], [101, 110, 100], [102, 117, 110], [105, 102], [110, 111, 116], [111, 102], [111, 114], [111, 114, 101, 108, 115, 101], [114, 101, 99, 101, 105, 118, 101], [114, 101, 109], [116, 114, 121], [99, 97, 116, 99, 104], [119, 104, 101, 110], [120, 111, 114]]
def innerC (c : UInt8) : Bool := decide (97 <= c.toNat) && decide (c.toNat <= 122) || decide (65 <= c.toNat) && decide (c.toNat <= 90) || decide (48 <= c.toNat) && decide (c.toNat <= 57) || decide (c.toNat = 95) || decide (c.toNat = 64)
def plainA (s : List UInt8) : Bool := match s with
 | [] => false
 | c :: _ => decide (97 <= c.toNat) && decide (c.toNat <= 122) && !words.contains s && s.all innerC
def hexD (n : Nat) : UInt8 := if n < 10 then UInt8.ofNat (48 + n) else UInt8.ofNat (87 + n)
def quoC (c : UInt8) : List UInt8 :=
 if c.toNat = 39 \/ c.toNat = 92 then [92, c]
 else if c.toNat = 10 then [92, 110]
 else if c.toNat < 32 \/ 126 < c.toNat then [92, 120, hexD (c.toNat / 16), hexD (c.toNat % 16)]
 else [c]
def quoted (s : List UInt8) : List UInt8 := 39 :: (s.flatMap quoC ++ [39])
def atomT (s : List UInt8) : List UInt8 := if plainA s = true then s else quoted s
mutual
def said : Term -> List UInt8
 | .mk k g l s n ks ts =>
  if (k.toNat : Int) = 1 then wsaid (.mk k g l s n ks ts)
  else if (k.toNat : Int) = 2 then atomT s
  else if (k.toNat : Int) = 3 then [35, 82, 101, 102, 60] ++ itoa n ++ [62]
  else if (k.toNat : Int) = 4 then [35, 70, 117, 110, 60] ++ itoa n ++ [62]
  else if (k.toNat : Int) = 5 then [60] ++ itoa n ++ [62]
  else if (k.toNat : Int) = 6 then [123] ++ (saidI ks ++ saidT ts) ++ [125]
  else [91] ++ (saidI ks ++ saidT ts) ++ [93]
def saidI : List Term -> List UInt8
 | [] => []
 | x :: l => said x ++ saidN l
def saidN : List Term -> List UInt8
 | [] => []
 | x :: l => 44 :: (said x ++ saidN l)
def saidT : List Term -> List UInt8
 | [] => []
 | x :: l => 124 :: (said x ++ saidT l)
end
theorem said_eq (t : Term) : said t = if t.knd = 1 then wsaid t
  else if t.knd = 2 then atomT t.text
  else if t.knd = 3 then [35, 82, 101, 102, 60] ++ itoa t.num ++ [62]
  else if t.knd = 4 then [35, 70, 117, 110, 60] ++ itoa t.num ++ [62]
  else if t.knd = 5 then [60] ++ itoa t.num ++ [62]
  else if t.knd = 6 then [123] ++ (saidI t.items ++ saidT t.tail) ++ [125]
  else [91] ++ (saidI t.items ++ saidT t.tail) ++ [93] := by
 cases t; rw [said]; rfl
def text (t : Term) : List UInt8 := if right t = true then said t else []
abbrev okC (c : UInt8) : Prop := 32 <= c.toNat /\ c.toNat <= 126
def okS (s : List UInt8) : Prop := ∀ c, c ∈ s -> okC c
theorem okS.append {a b : List UInt8} (h : okS a) (k : okS b) : okS (a ++ b) := fun c hc => (List.mem_append.1 hc).elim (h c) (k c)
theorem okS.cons {c : UInt8} {b : List UInt8} (h : okC c) (k : okS b) : okS (c :: b) := fun d hd => (List.mem_cons.1 hd).elim (fun e => e ▸ h) (k d)
theorem okS.nil : okS [] := fun c hc => by cases hc
def zeroT : Term := .mk 0 false [] [] 0 [] []
def cons0 (h t : Term) : Term := if t.knd = 7 then listT (h :: t.items) t.tail else listT [h] [t]
def cons (h t : Term) : Term := if right h = true /\ right t = true /\ right (cons0 h t) = true then cons0 h t else zeroT
def split (t : Term) : Option (Term × Term) := if right t = true /\ t.knd = 7 then (match t.items with
 | [] => none
 | [x] => some (x, tailOf t)
 | x :: l => some (x, listT l t.tail)) else none
end
set_option maxRecDepth 20000
section
variable (G : Nat -> AV)
def Turned (s t : List UInt8) (i : Nat) : Prop := t.length = s.length /\ ∀ k, k < s.length -> t[k]? = if k < i \/ s.length - i <= k then s[s.length - 1 - k]? else s[k]?
theorem Turned.done {s t : List UInt8} {i : Nat} (h : Turned s t i) (hi : s.length <= i + i + 1) : t = s.reverse := by
 obtain ⟨h1, h2⟩ := h
 refine List.ext_getElem? fun k => ?_
 by_cases hk : k < s.length
 ·rw [h2 k hk, List.getElem?_reverse hk]
  split
  ·rfl
  ·congr 1; omega
 ·rw [List.getElem?_eq_none (by omega), List.getElem?_eq_none (by simp; omega)]
end
set_option maxRecDepth 20000
section
def tbTermLent := And.intro (And.intro (And.intro (And.intro @tf3 @tf4) (And.intro @tf5 (And.intro @tf169 @tf9))) (And.intro (And.intro @tf56 (And.intro @tf55 @tf24)) (And.intro @tf58 (And.intro @Term.flat_enc @Term.isv_enc)))) (And.intro (And.intro (And.intro @Term.fold_enc (And.intro @isv_encs @flat_encs)) (And.intro @len_encs (And.intro @ix_encs @ix_encs'))) (And.intro (And.intro @isv_lims (And.intro @flat_lims @len_lims)) (And.intro @ix_lims (And.intro @ix_lims' @flat_limA))))
variable (G : Nat -> AV)
def markT (k i : Int) : Term := .mk 0 false [] [] (markI k i) [] []
theorem enc_nil (k : UInt8) (g : Bool) (s : List UInt8) (n : Int) : Le (.agg [.int .u8 k.toNat, .bool g, .nil, .str s, .int .i64 n, .nil, .nil]) (Term.mk k g [] s n [] []).enc := by
 have e : (Term.mk k g [] s n [] []).enc = .agg [.int .u8 k.toNat, .bool g, .sl .none [] [], .str s, .int .i64 n, .sl .none [] [], .sl .none [] []] := by simp [Term.enc, lims]
 rw [e]
 exact Le.agg (.cons (Le.refl _) (.cons (Le.refl _) (.cons Le.nil (.cons (Le.refl _) (.cons (Le.refl _) (.cons Le.nil (.cons Le.nil .nil))))))) (fun d hd => by simp at hd; rcases hd with rfl | rfl | rfl | rfl | rfl | rfl <;> rfl)
theorem markTerm_pure (k i : Int) : Pure Tryz.prog G 76 [.int .i64 k, .int .i64 i] (markT k i).enc := by
 refine Pure.tellLess (v := .agg [.int .u8 0, .bool false, .nil, .str [], .int .i64 (markI k i), .nil, .nil]) ?_ (enc_nil 0 false [] _)
 intro σ
 refine Tri.of_awp mixed Tryz.func76 rfl (by kernel_rfl) (by kernel_rfl) (by simp [Tryz.ntmps76]) Tryz.results76 ?_
 repeat' (first | refine xs ?_ ?_ <;> intros | (refine wn ?_; intro bx hbx; try simp only [fb] at hbx) | refine Pure.use (by apply mark_pure <;> (first | assumption | omega | (simp only [*]; done))) ?_ | refine wj ?_ | simp -dsimp only [↓bp, bq, br, seval, tbTermLent, *] | refine wz ?_ | fail)
 all_goals rfl
def marksTo (k i : Nat) : List AV := (List.range i).map fun (i : Nat) => (markT k (i : Int)).enc
theorem marksTo_succ (k i : Nat) : marksTo k (i + 1) = marksTo k i ++ [(markT k (i : Int)).enc] := by simp [marksTo, List.range_succ]
theorem marksTo_len (k i : Nat) : (marksTo k i).length = i := by simp [marksTo]
def marks : List AV := marksTo 1 12
def Term.lent : Term -> AV
 | .mk k g l s n ks ts => .agg [.int .u8 k.toNat, .bool g, lentLims l, .str s, .int .i64 n, .sl .none (ks.map Term.lent) marks, .sl .none (ts.map Term.lent) marks]
def lents (l : List Term) : AV := .sl .none (l.map Term.lent) marks
theorem Term.flat_lent (t : Term) : flat t.lent = [.int .u8 t.knd, .bool t.neg, lentLims t.limbs, .str t.text, .int .i64 t.num, lents t.items, lents t.tail] := by
 cases t; simp [Term.lent, flat, Term.knd, Term.kind, Term.neg, Term.limbs, Term.text, Term.num, Term.items, Term.tail, lents]
theorem Term.isv_lent (t : Term) : isv t.lent = true := by cases t; simp [Term.lent, isv]
theorem isv_lents (l : List Term) : isv (lents l) = true := rfl
theorem flat_lents (l : List Term) : flat (lents l) = [lents l] := rfl
theorem Term.fold_lent (t : Term) : AV.agg [.int .u8 t.knd, .bool t.neg, lentLims t.limbs, .str t.text, .int .i64 t.num, lents t.items, lents t.tail] = t.lent := by
 cases t; simp [Term.lent, Term.knd, Term.kind, Term.neg, Term.limbs, Term.text, Term.num, Term.items, Term.tail, lents]
theorem lent_leE (t : Term) : LeE t.lent t.enc := by
 refine Term.ind (P := fun t => LeE t.lent t.enc) (fun t ih1 ih2 => ?_) t
 refine ⟨?_, t.isv_enc, ones t⟩
 rw [t.flat_lent, t.flat_enc]
 exact .cons (Le.refl _) (.cons (Le.refl _) (.cons (lentLims_le _) (.cons (Le.refl _) (.cons (Le.refl _) (.cons (Le.trans Le.spare (Le.sl (LeEs.map _ ih1))) (.cons (Le.trans Le.spare (Le.sl (LeEs.map _ ih2))) .nil))))))
theorem LeE.le {a b : Term} (h : Les (flat a.lent) (flat b.enc)) : Le a.lent b.enc := by
 rw [<- a.fold_lent, <- b.fold_enc]
 rw [a.flat_lent, b.flat_enc] at h
 exact Le.agg h (fun d hd => by simp at hd; rcases hd with rfl | rfl | rfl | rfl | rfl | rfl | rfl <;> rfl)
theorem lent_le (t : Term) : Le t.lent t.enc := LeE.le (lent_leE t).cells
theorem lents_le (l : List Term) : Le (lents l) (encs l) := Le.trans Le.spare (Le.sl (LeEs.map _ fun x _ => lent_leE x))
theorem flat7l {l : List Term} : ∀ a, a ∈ l.map Term.lent -> (flat a).length = 7 := fun a ha => by
 obtain ⟨x, _, rfl⟩ := List.mem_map.1 ha
 rw [x.flat_lent]; rfl
theorem tfN : aelt Tryz.prog 24 = some (58, 7, 104) := tf24.2.2.2.2.2.2
theorem tfE : el Tryz.prog 24 = some 58 := tf24.2.2.2.1
theorem lents_pure (l : List Term) (hl : l.length <= 1000000000) (hf : ∀ x, x ∈ l -> Pure Tryz.prog G 75 [x.enc] x.lent) : Pure Tryz.prog G 38 [encs l] (lents l) := by
 refine Pure.of_le fun σ => ?_
 have hw0 : IntKind.i64.wrap ((l.length : Int) + 12) = l.length + 12 := wrap_nat (by omega) (by omega)
 refine Tri.of_awp mixed Tryz.func38 rfl (by kernel_rfl) (by kernel_rfl) (by simp [Tryz.ntmps38]) Tryz.results38 ?_
 simp -dsimp only [↓bp, bq, br, seval, tbTermLent, hw0]
 refine make_buf tfN (by omega) (by omega) (AS.le.refl σ) (fun v σ1 hB1 hx1 => ?_)
 simp -dsimp only [↓bp, bq, br, seval, tbTermLent]
 refine loop_intro (fun n e σ' => ∃ (i : Nat) (v : AV), i <= l.length /\ n = l.length - i /\ e 4 = .int .i64 i /\ e 3 = v /\ Buf 7 σ σ' v ((l.take i).map Term.lent)) l.length
  ⟨0, v, by omega, by omega, by simp -dsimp only [↓bp, bq, br, seval, tbTermLent]; try rfl, by simp -dsimp only [↓bp, bq, br, seval, tbTermLent], by simpa using hB1⟩ ?_
 rintro n e1 σ2 ⟨i, v2, hi, rfl, h4, h3, hB2⟩
 simp -dsimp only [↓bp, bq, br, seval, tbTermLent] at h4 h3
 simp -dsimp only [↓bp, bq, br, seval, tbTermLent, h4, h3]
 refine condW_dec (fun hlt => ?_) (fun hge => ?_)
 ·obtain ⟨k, hk⟩ : ∃ k, l[i]? = some k := ⟨_, List.getElem?_eq_getElem (by omega)⟩
  have hkm : k ∈ l := List.mem_of_getElem? hk
  simp -dsimp only [↓bp, bq, br, seval, tbTermLent, h4, h3, hk]
  refine Pure.use (hf k hkm) ?_
  simp -dsimp only [↓bp, bq, br, seval, tbTermLent, h4, h3]
  refine newT_plain fun c hc => ?_
  simp -dsimp only [↓bp, bq, br, seval, tbTermLent, h4, h3, Term.flat_lent, Term.isv_lent, Term.fold_lent]
  refine build_one tfN (Term.isv_lent k) (by rw [k.flat_lent]; rfl) (by omega) ?_
  simp -dsimp only [↓bp, bq, br, seval, tbTermLent, h4, h3]
  refine app_buf (ys := [k.lent]) (hB2.newBox hc _) tfN (asrc_sl tfE) (fun a ha => by simp at ha; subst ha; rw [k.flat_lent]; rfl) (by simp; omega) (fun v3 σ3 hB4 hx4 => ?_)
  simp -dsimp only [↓bp, bq, br, seval, tbTermLent, h4, h3]
  refine ⟨l.length - (i + 1), by omega, i + 1, v3, by omega, rfl, ?_, rfl, ?_⟩
  ·rw [wrap_nat (by omega) (by omega)]; rfl
  ·rw [take_succ_get _ _ _ hk, List.map_append]; exact hB4
 ·have : i = l.length := by omega
  subst this
  simp -dsimp only [↓bp, bq, br, seval, tbTermLent, h4, h3]
  rw [List.take_length] at hB2
  refine loop_intro (fun n e σ' => ∃ (i : Nat) (v : AV), i <= 12 /\ n = 12 - i /\ e 6 = .int .i64 i /\ e 3 = v /\ Buf 7 σ σ' v (l.map Term.lent ++ marksTo 1 i)) 12
   ⟨0, v2, by omega, by omega, by simp -dsimp only [↓bp, bq, br, seval, tbTermLent]; try rfl, by simp -dsimp only [↓bp, bq, br, seval, tbTermLent, h3], by simpa [marksTo] using hB2⟩ ?_
  rintro n e2 σ3 ⟨i, v3, hi2, rfl, h6, h3', hB3⟩
  simp -dsimp only [↓bp, bq, br, seval, tbTermLent] at h6 h3'
  simp -dsimp only [↓bp, bq, br, seval, tbTermLent, h6, h3', h4]
  refine condW_dec (fun hlt => ?_) (fun hge => ?_)
  ·simp -dsimp only [↓bp, bq, br, seval, tbTermLent, h6, h3', h4]
   refine Pure.use (markTerm_pure G 1 i) ?_
   simp -dsimp only [↓bp, bq, br, seval, tbTermLent, h6, h3', h4]
   refine build_one tfN (Term.isv_enc _) (by rw [Term.flat_enc]; rfl) (by omega) ?_
   simp -dsimp only [↓bp, bq, br, seval, tbTermLent, h6, h3', h4]
   refine app_buf (ys := [(markT 1 (i : Int)).enc]) hB3 tfN (asrc_sl tfE) (fun a ha => by simp at ha; subst ha; rw [Term.flat_enc]; rfl) (by simp [marksTo_len]; omega) (fun v4 σ4 hB4 hx4 => ?_)
   simp -dsimp only [↓bp, bq, br, seval, tbTermLent, h6, h3', h4]
   refine ⟨12 - (i + 1), by omega, i + 1, v4, by omega, rfl, ?_, rfl, ?_⟩
   ·rw [wrap_nat (by omega) (by omega)]; rfl
   ·rw [marksTo_succ, <- List.append_assoc]; exact hB4
  ·have : i = 12 := by omega
   subst this
   simp -dsimp only [↓bp, bq, br, seval, tbTermLent, h6, h3', h4]
   rcases hB3.isNil with ⟨hn, _⟩ | ⟨b, hb⟩
   ·have := congrArg List.length hn; simp [marksTo_len] at this
   ·subst hb
    try refine slW_bo ?_
    refine piece (l := 0) (h := l.length) tfE tf58.1 rfl (by simp [abnd]) (by omega) (by simp) (fun a ha => ?_) (fun g' => ?_)
    ·rw [List.append_nil] at ha
     cases hB3 with
     | own _ _ _ _ _ hx => exact hx a ha
    ·simp -dsimp only [↓bp, bq, br, seval, tbTermLent, h6, h3', h4]
     refine finish_le ?_ hB3.le
     have e1 : (l.map Term.lent ++ marksTo 1 12).take l.length = l.map Term.lent := by
      rw [List.take_append_of_le_length (by simp), List.take_of_length_le (by simp)]
     have e2 : (l.map Term.lent ++ marksTo 1 12).drop l.length = marks := by
      rw [List.drop_append_of_le_length (by simp), List.drop_eq_nil_of_le (by simp)]; rfl
     rw [e1, e2]
     exact Le.gh
theorem lent_pure (t : Term) (hb : t.bulk <= 1000000000) : Pure Tryz.prog G 75 [t.enc] t.lent := by
 revert hb
 refine Term.ind (P := fun t => t.bulk <= 1000000000 -> Pure Tryz.prog G 75 [t.enc] t.lent) (fun t ih1 ih2 hb => ?_) t
 have hl1 := lents_pure G t.items (by have := len_items t; omega) (fun x hx => ih1 x hx (by have := bulk_item hx; omega))
 have hl2 := lents_pure G t.tail (by have := len_tail t; omega) (fun x hx => ih2 x hx (by have := bulk_tail hx; omega))
 have hl3 := lentlims_pure G t.limbs (by have := len_limbs t; omega)
 intro σ
 refine Tri.of_awp mixed Tryz.func75 rfl (by kernel_rfl) (by kernel_rfl) (by simp [Tryz.ntmps75]) Tryz.results75 ?_
 repeat' (first | refine xs ?_ ?_ <;> intros | (refine wn ?_; intro bx hbx; try simp only [fb] at hbx) | refine wp hl1 ?_ | refine wp hl2 ?_ | refine wp hl3 ?_ | refine wj ?_ | simp -dsimp only [↓bp, bq, br, seval, tbTermLent, Term.isv_lent, Term.flat_lent, Term.fold_lent, isv_lents, flat_lents, isv_lentLims, flat_lentLims, *] | refine wz ?_ | fail)
 all_goals rfl
theorem sl_lents {t : TypeId} (l : List Term) (h : Int) (hh : h = l.length + 12) (ht : t = 24) {K : AV -> Prop} {d : Dum K} (hK : ∀ g, K (.sl g (l.map Term.lent ++ marks) [])) : bo (aslice Tryz.prog t (lents l) none (some (.int .i64 h))) K d := by
 subst hh ht
 refine piece (l := 0) (h := l.length + 12) tfE tf58.1 rfl (by simp [abnd]; omega) (by omega) (by simp [marks, marksTo_len]) (fun a ha => ?_) (fun g' => ?_)
 ·rcases List.mem_append.1 ha with ha | ha
  ·exact flat7l a ha
  ·obtain ⟨i, _, rfl⟩ := List.mem_map.1 ha
   rw [Term.flat_enc]; rfl
 ·have e1 : ((l.map Term.lent ++ marks).take (l.length + 12)).drop 0 = l.map Term.lent ++ marks := by
   rw [List.drop_zero, List.take_of_length_le (by simp [marks, marksTo_len])]
  have e2 : (l.map Term.lent ++ marks).drop (l.length + 12) = [] := List.drop_eq_nil_of_le (by simp [marks, marksTo_len])
  rw [e1, e2]
  have hml : marks.length = 12 := by simp [marks, marksTo_len]
  unfold slim
  split
  ·rename_i heq _
   have h2 : marks = [] := by injection heq
   rw [h2] at hml
   cases hml
  ·exact hK g'
theorem sl_lents_len {P : Program} {t : TypeId} (l : List Term) : ablt P .len #[t] [lents l] = if (el P t).isSome then some (.int .i64 l.length) else none := by
 simp [lents, l_sl]
theorem kepts_pure (l : List Term) (hl : l.length <= 1000000000) (hf : ∀ x, x ∈ l -> Pure Tryz.prog G 95 [x.lent, x.enc] (.bool true)) : Pure Tryz.prog G 57 [lents l, encs l] (.bool true) := by
 intro σ
 have hw0 : IntKind.i64.wrap ((l.length : Int) + 12) = l.length + 12 := wrap_nat (by omega) (by omega)
 have hml : marks.length = 12 := by simp [marks, marksTo_len]
 have hsm : ∀ i : Int, Pure Tryz.prog G 96 [(markT 1 i).enc, (markT 1 i).enc] (.bool true) := fun i => by
  have := same_pure G (markT 1 i) (markT 1 i) (by simp [markT, Term.bulk, bulks]) (by simp [markT, Term.bulk, bulks])
  rwa [(same_iff _ _).2 rfl] at this
 refine Tri.of_awp mixed Tryz.func57 rfl (by kernel_rfl) (by kernel_rfl) (by simp [Tryz.ntmps57]) Tryz.results57 ?_
 simp -dsimp only [↓bp, bq, br, seval, tbTermLent, hw0, sl_lents_len]
 try refine slW_bo ?_
 refine sl_lents l _ rfl rfl fun g => ?_
 simp -dsimp only [↓bp, bq, br, seval, tbTermLent]
 refine loop_intro (fun n e σ' => ∃ i : Nat, i <= ((l.map Term.lent ++ marks)).length /\ n = ((l.map Term.lent ++ marks)).length - i /\ e 6 = .int .i64 i /\ σ.le σ') ((l.map Term.lent ++ marks)).length
   ⟨0, by omega, by omega, by simp -dsimp only [↓bp, bq, br, seval, tbTermLent]; first | done | rfl, AS.le.refl σ⟩ ?_
 rintro n v σ' ⟨i, hi, rfl, h6, hle⟩
 simp -dsimp only [↓bp, bq, br, seval, tbTermLent] at h6
 simp -dsimp only [↓bp, bq, br, seval, tbTermLent, h6]
 refine condW_dec (fun hlt => ?_) (fun hge => ?_)
 ·have hl3 : i < l.length + 12 := by rw [List.length_append, List.length_map, hml] at hlt; omega
  by_cases hi2 : (i : Int) < l.length
  ·obtain ⟨k, hk⟩ : ∃ k, l[i]? = some k := ⟨_, List.getElem?_eq_getElem (by omega)⟩
   have hkm : k ∈ l := List.mem_of_getElem? hk
   have hx : (l.map Term.lent ++ marks)[i]? = some k.lent := by rw [List.getElem?_append_left (by simp; omega), List.getElem?_map, hk]; rfl
   have hge : ¬ (l.length : Int) <= i := by omega
   clear hi hlt
   repeat' (first | refine xs ?_ ?_ <;> intros | (refine wn ?_; intro bx hbx; try simp only [fb] at hbx) | refine Pure.use (hf k hkm) ?_ | refine Pure.head (hf k hkm) ?_ | refine wj ?_ | simp -dsimp only [↓bp, bq, br, seval, tbTermLent, Term.flat_lent, Term.isv_lent, Term.fold_lent, isv_lents, flat_lents, sl_lents_len, *] | refine wz ?_ | fail)
   all_goals (have hl2 : (l.map Term.lent ++ marks).length = l.length + 12 := by simp [hml])
   all_goals exact ⟨(l.map Term.lent ++ marks).length - (i + 1), by omega, i + 1, by omega, rfl, by rw [wrap_nat (by omega) (by omega)]; rfl⟩
  ·have hx : (l.map Term.lent ++ marks)[i]? = some (markT 1 ((i - l.length : Nat) : Int)).enc := by
    rw [List.getElem?_append_right (by simp; omega), List.length_map]
    have : i - l.length < 12 := by omega
    simp [marks, marksTo, this]
   have hge : (l.length : Int) <= i := by omega
   have hw1 : IntKind.i64.wrap ((i : Int) - l.length) = ((i - l.length : Nat) : Int) := by rw [wrap_nat (by omega) (by omega)]; omega
   clear hi hlt
   repeat' (first | refine xs ?_ ?_ <;> intros | (refine wn ?_; intro bx hbx; try simp only [fb] at hbx) | refine Pure.use (markTerm_pure G 1 _) ?_ | refine Pure.head (markTerm_pure G 1 _) ?_ | refine Pure.use (hsm _) ?_ | refine Pure.head (hsm _) ?_ | refine wj ?_ | simp -dsimp only [↓bp, bq, br, seval, tbTermLent, Term.flat_lent, Term.isv_lent, Term.fold_lent, isv_lents, flat_lents, sl_lents_len, *] | refine wz ?_ | fail)
   all_goals (have hl2 : (l.map Term.lent ++ marks).length = l.length + 12 := by simp [hml])
   all_goals exact ⟨(l.map Term.lent ++ marks).length - (i + 1), by omega, i + 1, by omega, rfl, by rw [wrap_nat (by omega) (by omega)]; rfl⟩
 ·have : i = (l.map Term.lent ++ marks).length := by omega
  subst this
  clear hi hge
  repeat' (first | refine xs ?_ ?_ <;> intros | (refine wn ?_; intro bx hbx; try simp only [fb] at hbx) | refine wj ?_ | simp -dsimp only [↓bp, bq, br, seval, tbTermLent, *] | refine wz ?_ | fail)
  all_goals rfl
theorem kept_pure (t : Term) (hb : t.bulk <= 1000000000) : Pure Tryz.prog G 95 [t.lent, t.enc] (.bool true) := by
 revert hb
 refine Term.ind (P := fun t => t.bulk <= 1000000000 -> Pure Tryz.prog G 95 [t.lent, t.enc] (.bool true)) (fun t ih1 ih2 hb => ?_) t
 have hl1 := kepts_pure G t.items (by have := len_items t; omega) (fun x hx => ih1 x hx (by have := bulk_item hx; omega))
 have hl2 := kepts_pure G t.tail (by have := len_tail t; omega) (fun x hx => ih2 x hx (by have := bulk_tail hx; omega))
 have hl3 := keptlims_pure G t.limbs (by have := len_limbs t; omega)
 have hs := (same_pure G t t hb hb).lessArgs (args := [t.lent, t.enc]) (.cons (lent_le t) (.cons (Le.refl _) .nil))
 rw [(same_iff t t).2 rfl] at hs
 intro σ
 refine Tri.of_awp mixed Tryz.func95 rfl (by kernel_rfl) (by kernel_rfl) (by simp [Tryz.ntmps95]) Tryz.results95 ?_
 repeat' (first | refine xs ?_ ?_ <;> intros | (refine wn ?_; intro bx hbx; try simp only [fb] at hbx) | refine wp hl1 ?_ | refine wp hl2 ?_ | refine wp hl3 ?_ | refine wp hs ?_ | refine wj ?_ | simp -dsimp only [↓bp, bq, br, seval, tbTermLent, Term.flat_lent, Term.isv_lent, Term.fold_lent, isv_lents, flat_lents, sl_lents_len, isv_lentLims, flat_lentLims, *] | refine wz ?_ | fail)
 all_goals rfl
end
end Go.Proofs.YtjmdaeabllkgnaaGreatDoor
