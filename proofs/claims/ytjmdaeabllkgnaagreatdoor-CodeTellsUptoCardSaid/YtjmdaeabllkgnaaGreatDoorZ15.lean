/- The text of a term, plainly; parts put together and parted. -/
import Derived.Test.YtjmdaeabllkgnaaGreatDoorZ14
import Derived.Test.YtjmdaeabllkgnaaGreatDoorZ12
set_option linter.unusedVariables false
set_option linter.unusedSimpArgs false
set_option linter.defProp false
namespace Go.Proofs.YtjmdaeabllkgnaaGreatDoor
open Go Go.Av
section
def digs (n : Nat) : List UInt8 := if h : n = 0 then [] else UInt8.ofNat (48 + n % 10) :: digs (n / 10)
termination_by n
decreasing_by omega
def decT (n : Nat) : List UInt8 := if n = 0 then [48] else (digs n).reverse
def wsaid (t : Term) : List UInt8 := (if t.neg = true then [45] else []) ++ decT (val t.limbs)
def itoa (n : Int) : List UInt8 := (if n < 0 then [45] else []) ++ decT n.natAbs
def words : List (List UInt8) := [[97, 102, 116, 101, 114], [97, 110, 100], [97, 110, 100, 97, 108, 115, 111], [98, 101, 103, 105, 110], [99, 97, 115, 101], [100, 105, 118], [101, 110, 100], [102, 117, 110], [105, 102], [110, 111, 116], [111, 102], [111, 114], [111, 114, 101, 108, 115, 101], [114, 101, 99, 101, 105, 118, 101], [114, 101, 109], [116, 114, 121], [99, 97, 116, 99, 104], [119, 104, 101, 110], [120, 111, 114]]
def innerC (c : UInt8) : Bool := decide (97 ≤ c.toNat) && decide (c.toNat ≤ 122) || decide (65 ≤ c.toNat) && decide (c.toNat ≤ 90) || decide (48 ≤ c.toNat) && decide (c.toNat ≤ 57) || decide (c.toNat = 95) || decide (c.toNat = 64)
def plainA (s : List UInt8) : Bool := match s with
 | [] => false
 | c :: _ => decide (97 ≤ c.toNat) && decide (c.toNat ≤ 122) && !words.contains s && s.all innerC
def hexD (n : Nat) : UInt8 := if n < 10 then UInt8.ofNat (48 + n) else UInt8.ofNat (87 + n)
def quoC (c : UInt8) : List UInt8 :=
 if c.toNat = 39 ∨ c.toNat = 92 then [92, c]
 else if c.toNat = 10 then [92, 110]
 else if c.toNat < 32 ∨ 126 < c.toNat then [92, 120, hexD (c.toNat / 16), hexD (c.toNat % 16)]
 else [c]
def quoted (s : List UInt8) : List UInt8 := 39 :: (s.flatMap quoC ++ [39])
def atomT (s : List UInt8) : List UInt8 := if plainA s = true then s else quoted s
mutual
def said : Term → List UInt8
 | .mk k g l s n ks ts =>
  if (k.toNat : Int) = 1 then wsaid (.mk k g l s n ks ts)
  else if (k.toNat : Int) = 2 then atomT s
  else if (k.toNat : Int) = 3 then [35, 82, 101, 102, 60] ++ itoa n ++ [62]
  else if (k.toNat : Int) = 4 then [35, 70, 117, 110, 60] ++ itoa n ++ [62]
  else if (k.toNat : Int) = 5 then [60] ++ itoa n ++ [62]
  else if (k.toNat : Int) = 6 then [123] ++ (saidI ks ++ saidT ts) ++ [125]
  else [91] ++ (saidI ks ++ saidT ts) ++ [93]
def saidI : List Term → List UInt8
 | [] => []
 | x :: l => said x ++ saidN l
def saidN : List Term → List UInt8
 | [] => []
 | x :: l => 44 :: (said x ++ saidN l)
def saidT : List Term → List UInt8
 | [] => []
 | x :: l => 124 :: (said x ++ saidT l)
end
theorem said_eq (t : Term) : said t = if t.knd = 1 then wsaid t
  else if t.knd = 2 then atomT t.text
  else if t.knd = 3 then [35, 82, 101, 102, 60] ++ itoa t.num ++ [62]
  else if t.knd = 4 then [35, 70, 117, 110, 60] ++ itoa t.num ++ [62]
  else if t.knd = 5 then [60] ++ itoa t.num ++ [62]
  else if t.knd = 6 then [123] ++ (saidI t.items ++ saidT t.tail) ++ [125]
  else [91] ++ (saidI t.items ++ saidT t.tail) ++ [93] := by
 cases t; rw [said]; rfl
def text (t : Term) : List UInt8 := if right t = true then said t else []
abbrev okC (c : UInt8) : Prop := 32 ≤ c.toNat ∧ c.toNat ≤ 126
def okS (s : List UInt8) : Prop := ∀ c, c ∈ s → okC c
theorem okS.append {a b : List UInt8} (h : okS a) (k : okS b) : okS (a ++ b) := fun c hc => (List.mem_append.1 hc).elim (h c) (k c)
theorem okS.cons {c : UInt8} {b : List UInt8} (h : okC c) (k : okS b) : okS (c :: b) := fun d hd => (List.mem_cons.1 hd).elim (fun e => e ▸ h) (k d)
theorem okS.nil : okS [] := fun c hc => by cases hc
theorem ofNat_toNat {n : Nat} (h : n < 256) : (UInt8.ofNat n).toNat = n := by rw [UInt8.toNat_ofNat']; omega
theorem digs_ne {n : Nat} (h : n ≠ 0) : digs n ≠ [] := by unfold digs; rw [dif_neg h]; simp
def zeroT : Term := .mk 0 false [] [] 0 [] []
def cons0 (h t : Term) : Term := if t.knd = 7 then listT (h :: t.items) t.tail else listT [h] [t]
def cons (h t : Term) : Term := if right h = true ∧ right t = true ∧ right (cons0 h t) = true then cons0 h t else zeroT
def split (t : Term) : Option (Term × Term) := if right t = true ∧ t.knd = 7 then (match t.items with
 | [] => none
 | [x] => some (x, tailOf t)
 | x :: l => some (x, listT l t.tail)) else none
end
set_option maxRecDepth 20000
section
def tbRev := And.intro (And.intro @tf3 (And.intro @tf4 @tf5)) (And.intro (And.intro @tf9 @tf54) (And.intro @isv_byteA @flat_byteA))
variable (G : Nat → AV)
theorem bytesA_set (s : List UInt8) (i : Nat) (c : UInt8) (h : i < s.length) : (bytesA s).take i ++ [byteA c] ++ (bytesA s).drop (i + 1) = bytesA (s.set i c) := by
 unfold bytesA
 rw [List.append_assoc, ← List.map_take, ← List.map_drop, List.set_eq_take_append_cons_drop, if_pos h, List.map_append, List.map_cons]
 rfl
theorem bytesA_get (s : List UInt8) (i : Nat) : (bytesA s)[i]? = (s[i]?).map byteA := by simp [bytesA]
def Turned (s t : List UInt8) (i : Nat) : Prop := t.length = s.length ∧ ∀ k, k < s.length → t[k]? = if k < i ∨ s.length - i ≤ k then s[s.length - 1 - k]? else s[k]?
theorem Turned.step {s t : List UInt8} {i : Nat} (h : Turned s t i) (hi : i + i + 1 < s.length) {x y : UInt8} (hx : t[i]? = some x) (hy : t[s.length - 1 - i]? = some y) : Turned s ((t.set i y).set (s.length - 1 - i) x) (i + 1) := by
 obtain ⟨h1, h2⟩ := h
 have gx := h2 i (by omega)
 have gy := h2 (s.length - 1 - i) (by omega)
 rw [if_neg (by omega), hx] at gx
 rw [if_neg (by omega), hy] at gy
 refine ⟨by simp [h1], fun k hk => ?_⟩
 rw [List.getElem?_set]
 by_cases e1 : s.length - 1 - i = k
 ·rw [if_pos e1, if_pos (by simp; omega), if_pos (by omega)]
  rw [gx]; congr 1; omega
 ·rw [if_neg e1, List.getElem?_set]
  by_cases e2 : i = k
  ·rw [if_pos e2, if_pos (by omega), if_pos (by omega), gy]; subst e2; rfl
  ·rw [if_neg e2, h2 k hk]
   by_cases e3 : k < i ∨ s.length - i ≤ k
   ·rw [if_pos e3, if_pos (by omega)]
   ·rw [if_neg e3, if_neg (by omega)]
theorem Turned.done {s t : List UInt8} {i : Nat} (h : Turned s t i) (hi : s.length ≤ i + i + 1) : t = s.reverse := by
 obtain ⟨h1, h2⟩ := h
 refine List.ext_getElem? fun k => ?_
 by_cases hk : k < s.length
 ·rw [h2 k hk, List.getElem?_reverse hk]
  split
  ·rfl
  ·congr 1; omega
 ·rw [List.getElem?_eq_none (by omega), List.getElem?_eq_none (by simp; omega)]
theorem reverse_tri (s : List UInt8) (hl : s.length ≤ 1000000000) (σ : AS) (b : Nat) (hb : σ.box b = some (bytesA s)) :
  Tri Tryz.prog G 178 [.bs b s.length 1 5] σ fun r σ' => σ' = σ.setBox b (bytesA s.reverse) := by
 have hw0 : IntKind.i64.wrap ((s.length : Int) - 1) = s.length - 1 := wrap_nat (by omega) (by omega)
 refine Tri.of_awp mixed Tryz.func178 rfl (by kernel_rfl) (by kernel_rfl) (by simp [Tryz.ntmps178]) Tryz.results178 ?_
 repeat' (first | refine xs ?_ ?_ <;> intros | (refine wn ?_; intro bx hbx; try simp only [fb] at hbx) | refine wj ?_ | simp -dsimp only [↓bp, bq, br, seval, tbRev, Nat.mul_one, List.head?_drop, *] | refine wz ?_ | fail)
 refine loop_intro (fun n e σ' => ∃ (i : Nat) (t : List UInt8), i ≤ s.length ∧ n = s.length - i ∧ e 2 = .int .i64 i ∧ e 3 = .int .i64 ((s.length : Int) - 1 - i) ∧ Turned s t i ∧ σ' = σ.setBox b (bytesA t)) s.length
  ⟨0, s, by omega, by omega, by first | (simp -dsimp only [↓bp, bq, br, seval, tbRev, Nat.mul_one, List.head?_drop]; done) | (simp -dsimp only [↓bp, bq, br, seval, tbRev, Nat.mul_one, List.head?_drop]; try rfl), by first | (simp -dsimp only [↓bp, bq, br, seval, tbRev, Nat.mul_one, List.head?_drop]; done) | (simp -dsimp only [↓bp, bq, br, seval, tbRev, Nat.mul_one, List.head?_drop]; simp), ⟨rfl, fun k hk => by rw [if_neg (by omega)]⟩, (setBox_id hb).symm⟩ ?_
 rintro n v σ' ⟨i, t, hi, rfl, h2, h3, ht, rfl⟩
 simp -dsimp only [↓bp, bq, br, seval, tbRev, Nat.mul_one, List.head?_drop] at h2 h3
 by_cases hlt : i + i + 1 < s.length
 ·obtain ⟨x, hx⟩ : ∃ x, t[i]? = some x := ⟨_, List.getElem?_eq_getElem (by rw [ht.1]; omega)⟩
  obtain ⟨y, hy⟩ : ∃ y, t[s.length - 1 - i]? = some y := ⟨_, List.getElem?_eq_getElem (by rw [ht.1]; omega)⟩
  have hst := ht.step hlt hx hy
  have c1 : (i : Int) < (s.length : Int) - 1 - i := by omega
  have hj : (s.length : Int) - 1 - i = ((s.length - 1 - i : Nat) : Int) := by omega
  have hbx : (bytesA t)[i]? = some (byteA x) := by rw [bytesA_get, hx]; rfl
  have hby : (bytesA t)[s.length - 1 - i]? = some (byteA y) := by rw [bytesA_get, hy]; rfl
  obtain ⟨j, hjj⟩ : ∃ j, s.length - 1 - i = j := ⟨_, rfl⟩
  rw [hjj] at hj hby hst
  rw [hj] at h3 c1
  have hb1 : (0 : Int) ≤ i ∧ (i : Int) < s.length := by omega
  have hb2 : (0 : Int) ≤ j ∧ (j : Int) < s.length := by omega
  have hl1 : i + 1 ≤ (bytesA t).length := by rw [bytesA_len, ht.1]; omega
  have hset1 := bytesA_set t i y (by rw [ht.1]; omega)
  have hset2 := bytesA_set (t.set i y) j x (by simp; rw [ht.1]; omega)
  have hl2 : j + 1 ≤ (bytesA (t.set i y)).length := by rw [bytesA_len]; simp; rw [ht.1]; omega
  clear hx hy ht hlt hi hw0 hb
  repeat' (first | refine xs ?_ ?_ <;> intros | (refine wn ?_; intro bx hbx; try simp only [fb] at hbx) | (refine draw_all_f [(13, 2), (13, 3)] (by kernel_rfl) (by kernel_rfl) ?_) | refine wj ?_ | simp -dsimp only [↓bp, bq, br, seval, tbRev, Nat.mul_one, List.head?_drop, *] | refine wz ?_ | fail)
  have h3' : IntKind.i64.wrap ((j : Int) - 1) = (s.length : Int) - 1 - ((i + 1 : Nat) : Int) := by rw [wrap_nat (by omega) (by omega)]; omega
  have h2' : IntKind.i64.wrap ((i : Int) + 1) = ((i + 1 : Nat) : Int) := by rw [wrap_nat (by omega) (by omega)]; rfl
  refine ⟨s.length - (i + 1), by omega, i + 1, _, by omega, rfl, by rw [h2'], by rw [h3'], hst, ?_⟩
  rfl
 ·have hd := ht.done (by omega)
  subst hd
  have c1 : ¬ (i : Int) < (s.length : Int) - 1 - i := by omega
  clear hi hlt ht hw0
  repeat' (first | refine xs ?_ ?_ <;> intros | (refine wn ?_; intro bx hbx; try simp only [fb] at hbx) | refine wj ?_ | simp -dsimp only [↓bp, bq, br, seval, tbRev, Nat.mul_one, List.head?_drop, *] | refine wz ?_ | fail)
  exact finishW_some _ (AS.le.refl _) rfl
end
set_option maxRecDepth 20000
section
variable (G : Nat → AV)
def markT (k i : Int) : Term := .mk 0 false [] [] (markI k i) [] []
theorem enc_nil (k : UInt8) (g : Bool) (s : List UInt8) (n : Int) : Le (.agg [.int .u8 k.toNat, .bool g, .nil, .str s, .int .i64 n, .nil, .nil]) (Term.mk k g [] s n [] []).enc := by
 have e : (Term.mk k g [] s n [] []).enc = .agg [.int .u8 k.toNat, .bool g, .sl .none [] [], .str s, .int .i64 n, .sl .none [] [], .sl .none [] []] := by simp [Term.enc, lims]
 rw [e]
 exact Le.agg (.cons (Le.refl _) (.cons (Le.refl _) (.cons Le.nil (.cons (Le.refl _) (.cons (Le.refl _) (.cons Le.nil (.cons Le.nil .nil))))))) (fun d hd => by simp at hd; rcases hd with rfl | rfl | rfl | rfl | rfl | rfl <;> rfl)
def marksTo (k i : Nat) : List AV := (List.range i).map fun (i : Nat) => (markT k (i : Int)).enc
def marks : List AV := marksTo 1 12
def Term.lent : Term → AV
 | .mk k g l s n ks ts => .agg [.int .u8 k.toNat, .bool g, lentLims l, .str s, .int .i64 n, .sl .none (ks.map Term.lent) marks, .sl .none (ts.map Term.lent) marks]
def lents (l : List Term) : AV := .sl .none (l.map Term.lent) marks
theorem Term.flat_lent (t : Term) : flat t.lent = [.int .u8 t.knd, .bool t.neg, lentLims t.limbs, .str t.text, .int .i64 t.num, lents t.items, lents t.tail] := by
 cases t; simp [Term.lent, flat, Term.knd, Term.kind, Term.neg, Term.limbs, Term.text, Term.num, Term.items, Term.tail, lents]
theorem Term.fold_lent (t : Term) : AV.agg [.int .u8 t.knd, .bool t.neg, lentLims t.limbs, .str t.text, .int .i64 t.num, lents t.items, lents t.tail] = t.lent := by
 cases t; simp [Term.lent, Term.knd, Term.kind, Term.neg, Term.limbs, Term.text, Term.num, Term.items, Term.tail, lents]
theorem LeE.le {a b : Term} (h : Les (flat a.lent) (flat b.enc)) : Le a.lent b.enc := by
 rw [← a.fold_lent, ← b.fold_enc]
 rw [a.flat_lent, b.flat_enc] at h
 exact Le.agg h (fun d hd => by simp at hd; rcases hd with rfl | rfl | rfl | rfl | rfl | rfl | rfl <;> rfl)
end
end Go.Proofs.YtjmdaeabllkgnaaGreatDoor
