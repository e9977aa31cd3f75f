/- The text of a term, plainly; parts put together and parted. -/
import Derived.Test.YtjnhalmeddafdaaDoorZOrd
import Derived.Test.YtjnhalmeddafdaaDoorZShort
set_option linter.unusedVariables false
set_option linter.unusedSimpArgs false
namespace Go.Proofs.YtjnhalmeddafdaaDoor
open Go Go.Av
/-- a number's digits, the lowest one first -/
def digs (n : Nat) : List UInt8 := if h : n = 0 then [] else UInt8.ofNat (48 + n % 10) :: digs (n / 10)
termination_by n
decreasing_by omega
/-- an amount's digits -/
def decT (n : Nat) : List UInt8 := if n = 0 then [48] else (digs n).reverse
/-- an integer's text -/
def wsaid (t : Term) : List UInt8 := (if t.neg = true then [45] else []) ++ decT (val t.limbs)
/-- a number's text -/
def itoa (n : Int) : List UInt8 := (if n < 0 then [45] else []) ++ decT n.natAbs
def words : List (List UInt8) := [[97, 102, 116, 101, 114], [97, 110, 100], [97, 110, 100, 97, 108, 115, 111], [98, 101, 103, 105, 110], [99, 97, 115, 101], [100, 105, 118], [101, 110, 100], [102, 117, 110], [105, 102], [110, 111, 116], [111, 102], [111, 114], [111, 114, 101, 108, 115, 101], [114, 101, 99, 101, 105, 118, 101], [114, 101, 109], [116, 114, 121], [99, 97, 116, 99, 104], [119, 104, 101, 110], [120, 111, 114]]
/-- may a byte stand in an atom without quotes? -/
def innerC (c : UInt8) : Bool := decide (97 ≤ c.toNat) && decide (c.toNat ≤ 122) || decide (65 ≤ c.toNat) && decide (c.toNat ≤ 90) || decide (48 ≤ c.toNat) && decide (c.toNat ≤ 57) || decide (c.toNat = 95) || decide (c.toNat = 64)
/-- does an atom need no quotes? -/
def plainA (s : List UInt8) : Bool := match s with
  | [] => false
  | c :: _ => decide (97 ≤ c.toNat) && decide (c.toNat ≤ 122) && !words.contains s && s.all innerC
def hexD (n : Nat) : UInt8 := if n < 10 then UInt8.ofNat (48 + n) else UInt8.ofNat (87 + n)
/-- a byte between quotes -/
def quoC (c : UInt8) : List UInt8 :=
  if c.toNat = 39 ∨ c.toNat = 92 then [92, c]
  else if c.toNat = 10 then [92, 110]
  else if c.toNat < 32 ∨ 126 < c.toNat then [92, 120, hexD (c.toNat / 16), hexD (c.toNat % 16)]
  else [c]
def quoted (s : List UInt8) : List UInt8 := 39 :: (s.flatMap quoC ++ [39])
def atomT (s : List UInt8) : List UInt8 := if plainA s = true then s else quoted s
mutual
/-- a right term's text -/
def said : Term → List UInt8
  | .mk k g l s n ks ts =>
    if (k.toNat : Int) = 1 then wsaid (.mk k g l s n ks ts)
    else if (k.toNat : Int) = 2 then atomT s
    else if (k.toNat : Int) = 3 then [35, 82, 101, 102, 60] ++ itoa n ++ [62]
    else if (k.toNat : Int) = 4 then [35, 70, 117, 110, 60] ++ itoa n ++ [62]
    else if (k.toNat : Int) = 5 then [60] ++ itoa n ++ [62]
    else if (k.toNat : Int) = 6 then [123] ++ (saidI ks ++ saidT ts) ++ [125]
    else [91] ++ (saidI ks ++ saidT ts) ++ [93]
/-- items, with commas between -/
def saidI : List Term → List UInt8
  | [] => []
  | x :: l => said x ++ saidN l
/-- more items -/
def saidN : List Term → List UInt8
  | [] => []
  | x :: l => 44 :: (said x ++ saidN l)
/-- a tail -/
def saidT : List Term → List UInt8
  | [] => []
  | x :: l => 124 :: (said x ++ saidT l)
end
theorem said_eq (t : Term) : said t = if t.knd = 1 then wsaid t
    else if t.knd = 2 then atomT t.text
    else if t.knd = 3 then [35, 82, 101, 102, 60] ++ itoa t.num ++ [62]
    else if t.knd = 4 then [35, 70, 117, 110, 60] ++ itoa t.num ++ [62]
    else if t.knd = 5 then [60] ++ itoa t.num ++ [62]
    else if t.knd = 6 then [123] ++ (saidI t.items ++ saidT t.tail) ++ [125]
    else [91] ++ (saidI t.items ++ saidT t.tail) ++ [93] := by
  cases t; rw [said]; rfl
def text (t : Term) : List UInt8 := if right t = true then said t else []

/-! which bytes are met -/
abbrev okC (c : UInt8) : Prop := 32 ≤ c.toNat ∧ c.toNat ≤ 126
def okS (s : List UInt8) : Prop := ∀ c, c ∈ s → okC c
theorem okS.append {a b : List UInt8} (h : okS a) (k : okS b) : okS (a ++ b) := fun c hc => (List.mem_append.1 hc).elim (h c) (k c)
theorem okS.cons {c : UInt8} {b : List UInt8} (h : okC c) (k : okS b) : okS (c :: b) := fun d hd => (List.mem_cons.1 hd).elim (fun e => e ▸ h) (k d)
theorem okS.nil : okS [] := fun c hc => by cases hc
theorem ofNat_toNat {n : Nat} (h : n < 256) : (UInt8.ofNat n).toNat = n := by rw [UInt8.toNat_ofNat']; omega
abbrev digC (c : UInt8) : Prop := 48 ≤ c.toNat ∧ c.toNat ≤ 57
theorem digs_dig (n : Nat) : ∀ c, c ∈ digs n → digC c := by
  induction n using Nat.strongRecOn with
  | _ n ih =>
    intro c hc
    unfold digs at hc
    split at hc
    · cases hc
    · rcases List.mem_cons.1 hc with rfl | hc
      · unfold digC; rw [ofNat_toNat (by omega)]; omega
      · exact ih (n / 10) (by omega) c hc
theorem decT_dig (n : Nat) : ∀ c, c ∈ decT n → digC c := by
  intro c hc
  unfold decT at hc
  split at hc
  · simp at hc; subst hc; decide
  · exact digs_dig n c (List.mem_reverse.1 hc)
theorem digs_ne {n : Nat} (h : n ≠ 0) : digs n ≠ [] := by unfold digs; rw [dif_neg h]; simp
theorem decT_ne (n : Nat) : decT n ≠ [] := by
  unfold decT
  split
  · simp
  · rename_i h; simpa using digs_ne h
theorem decT_ok (n : Nat) : okS (decT n) := fun c hc => by have := decT_dig n c hc; unfold digC at this; unfold okC; omega
theorem itoa_ok (n : Int) : okS (itoa n) := by
  unfold itoa
  refine okS.append ?_ (decT_ok _)
  split
  · exact okS.cons (by decide) okS.nil
  · exact okS.nil
theorem wsaid_ok (t : Term) : okS (wsaid t) := by
  unfold wsaid
  refine okS.append ?_ (decT_ok _)
  split
  · exact okS.cons (by decide) okS.nil
  · exact okS.nil
theorem hexD_ok {n : Nat} (h : n < 16) : okC (hexD n) := by
  unfold hexD okC
  split
  · rw [ofNat_toNat (by omega)]; omega
  · rw [ofNat_toNat (by omega)]; omega
theorem quoC_ok (c : UInt8) : okS (quoC c) := by
  have hc := c.toNat_lt
  unfold quoC
  split
  · rename_i h; exact okS.cons (by decide) (okS.cons (by unfold okC; omega) okS.nil)
  split
  · exact okS.cons (by decide) (okS.cons (by decide) okS.nil)
  split
  · exact okS.cons (by decide) (okS.cons (by decide) (okS.cons (hexD_ok (by omega)) (okS.cons (hexD_ok (by omega)) okS.nil)))
  · rename_i h; exact okS.cons (by unfold okC; omega) okS.nil
theorem quoted_ok (s : List UInt8) : okS (quoted s) := by
  unfold quoted
  refine okS.cons (by decide) (okS.append (fun c hc => ?_) (okS.cons (by decide) okS.nil))
  obtain ⟨d, _, hd⟩ := List.mem_flatMap.1 hc
  exact quoC_ok d c hd
theorem inner_spec {c : UInt8} (h : innerC c = true) : 48 ≤ c.toNat ∧ c.toNat ≤ 57 ∨ 64 ≤ c.toNat ∧ c.toNat ≤ 90 ∨ c.toNat = 95 ∨ 97 ≤ c.toNat ∧ c.toNat ≤ 122 := by
  simp only [innerC, Bool.or_eq_true, Bool.and_eq_true, decide_eq_true_eq] at h
  omega
theorem plainA_spec {s : List UInt8} (h : plainA s = true) : ∃ c l, s = c :: l ∧ 97 ≤ c.toNat ∧ c.toNat ≤ 122 ∧ ∀ d, d ∈ s → innerC d = true := by
  cases s with
  | nil => simp [plainA] at h
  | cons c l =>
    simp only [plainA, Bool.and_eq_true, decide_eq_true_eq] at h
    exact ⟨c, l, rfl, h.1.1.1, h.1.1.2, List.all_eq_true.1 h.2⟩
theorem atomT_ok (s : List UInt8) : okS (atomT s) := by
  unfold atomT
  split
  · rename_i h
    obtain ⟨c, l, _, _, _, h⟩ := plainA_spec h
    exact fun d hd => by have := inner_spec (h d hd); unfold okC; omega
  · exact quoted_ok s
theorem saidN_ok : ∀ (l : List Term), (∀ x, x ∈ l → okS (said x)) → okS (saidN l)
  | [], _ => by rw [saidN]; exact okS.nil
  | x :: l, h => by
    rw [saidN]
    exact okS.cons (by decide) ((h x (by simp)).append (saidN_ok l fun y hy => h y (by simp [hy])))
theorem saidI_ok (l : List Term) (h : ∀ x, x ∈ l → okS (said x)) : okS (saidI l) := by
  cases l with
  | nil => rw [saidI]; exact okS.nil
  | cons x l => rw [saidI]; exact (h x (by simp)).append (saidN_ok l fun y hy => h y (by simp [hy]))
theorem saidT_ok : ∀ (l : List Term), (∀ x, x ∈ l → okS (said x)) → okS (saidT l)
  | [], _ => by rw [saidT]; exact okS.nil
  | x :: l, h => by
    rw [saidT]
    exact okS.cons (by decide) ((h x (by simp)).append (saidT_ok l fun y hy => h y (by simp [hy])))
theorem said_ok (t : Term) : okS (said t) := by
  refine Term.ind (P := fun t => okS (said t)) (fun t ih1 ih2 => ?_) t
  rw [said_eq]
  have one : ∀ c : UInt8, okC c → okS [c] := fun c h => okS.cons h okS.nil
  have five : okS [35, 82, 101, 102, 60] := by intro c hc; simp at hc; rcases hc with rfl | rfl | rfl | rfl | rfl <;> decide
  have six : okS [35, 70, 117, 110, 60] := by intro c hc; simp at hc; rcases hc with rfl | rfl | rfl | rfl | rfl <;> decide
  split
  · exact wsaid_ok t
  split
  · exact atomT_ok _
  split
  · exact (five.append (itoa_ok _)).append (one 62 (by decide))
  split
  · exact (six.append (itoa_ok _)).append (one 62 (by decide))
  split
  · exact ((one 60 (by decide)).append (itoa_ok _)).append (one 62 (by decide))
  split
  · exact ((one 123 (by decide)).append ((saidI_ok _ ih1).append (saidT_ok _ ih2))).append (one 125 (by decide))
  · exact ((one 91 (by decide)).append ((saidI_ok _ ih1).append (saidT_ok _ ih2))).append (one 93 (by decide))
theorem text_ok (t : Term) : okS (text t) := by
  unfold text
  split
  · exact said_ok t
  · exact okS.nil
theorem said_ne (t : Term) : said t ≠ [] := by
  rw [said_eq]
  split
  · unfold wsaid; intro h; exact decT_ne _ (List.append_eq_nil_iff.1 h).2
  split
  · unfold atomT
    split
    · rename_i h
      obtain ⟨c, l, e, _⟩ := plainA_spec h
      rw [e]; simp
    · simp [quoted]
  all_goals (repeat' split) <;> simp
theorem text_ne (t : Term) : right t = decide (text t ≠ []) := by
  unfold text
  cases h : right t with
  | true => simp [said_ne t]
  | false => simp
/-! sums of sizes -/
def tot (l : List Term) (each : Int) : Int := match l with
  | [] => 0
  | x :: l => size x + each + tot l each
theorem tot_nn {each : Int} (h : 0 ≤ each) : ∀ l, 0 ≤ tot l each
  | [] => by simp [tot]
  | x :: l => by have := (size_le x).1; have := tot_nn h l; simp only [tot]; omega
theorem adds_tot {each : Int} (h0 : 0 ≤ each) : ∀ (l : List Term) (n : Int), (∀ x, x ∈ l → right x = true) → n ≤ 4096 → (n + tot l each ≤ 4096 → adds l each (n, true) = (n + tot l each, true)) ∧ (4096 < n + tot l each → (adds l each (n, true)).2 = false)
  | [], n, _, hn => ⟨fun _ => by simp [adds, tot], fun h => by simp [tot] at h; omega⟩
  | x :: l, n, hr, hn => by
    have hx : 0 < size x := of_decide_eq_true (hr x (by simp))
    have ht := tot_nn h0 l
    simp only [adds, tot, if_true]
    by_cases hs : n + size x + each ≤ 4096
    · have ih := adds_tot h0 l (n + size x + each) (fun y hy => hr y (by simp [hy])) hs
      rw [show (decide (0 < size x) && decide (n + size x + each ≤ 4096)) = true by simp [hx, hs]]
      refine ⟨fun h => ?_, fun h => ih.2 (by omega)⟩
      rw [ih.1 (by omega)]
      congr 1; omega
    · rw [show (decide (0 < size x) && decide (n + size x + each ≤ 4096)) = false by simp [hs]]
      rw [adds_false]
      exact ⟨fun h => by omega, fun _ => rfl⟩
theorem head_list (ks ts : List Term) (h1 : ts.length ≤ 1) (h2 : ts.length ≤ ks.length) (h3 : ∀ x, x ∈ ts → x.knd ≠ 7) : head (listT ks ts) = (1, 1, true) := by
  have hk : (listT ks ts).knd = 7 := rfl
  unfold head
  rw [if_neg (by omega), if_neg (by omega), if_neg (by omega), if_neg (by omega), if_pos hk]
  have hb : bare (listT ks ts) false false true true = true := by simp [bare, listT, Term.neg, Term.limbs, Term.text, Term.num, Term.items, Term.tail]
  have ha : ((listT ks ts).tail.all fun x => decide (x.knd ≠ 7)) = true := List.all_eq_true.2 fun x hx => by simpa using h3 x hx
  rw [hb, ha]
  simp only [Bool.true_and, Bool.and_true, Prod.mk.injEq, true_and, decide_eq_true_eq]
  show (ts.length : Int) ≤ if (ks.length : Int) < 1 then (ks.length : Int) else 1
  split <;> omega
theorem size_list_eq (ks ts : List Term) (h1 : ts.length ≤ 1) (h2 : ts.length ≤ ks.length) (h3 : ∀ x, x ∈ ts → x.knd ≠ 7) (hk : ∀ x, x ∈ ks → right x = true) (ht : ∀ x, x ∈ ts → right x = true) :
    size (listT ks ts) = if 1 + tot ks 1 + tot ts 0 ≤ 4096 then 1 + tot ks 1 + tot ts 0 else 0 := by
  rw [size_eq, head_list ks ts h1 h2 h3, if_neg (show ¬ (listT ks ts).knd = 1 from (by decide : ¬ (7 : Int) = 1))]
  show (if (adds ts 0 (adds ks 1 (1, true))).2 = true then (adds ts 0 (adds ks 1 (1, true))).1 else 0) = _
  have a := adds_tot (each := 1) (by omega) ks 1 hk (by omega)
  have t0 := tot_nn (each := 0) (by omega) ts
  by_cases hs : 1 + tot ks 1 ≤ 4096
  · rw [a.1 hs]
    have b := adds_tot (each := 0) (by omega) ts (1 + tot ks 1) ht hs
    by_cases hs2 : 1 + tot ks 1 + tot ts 0 ≤ 4096
    · rw [b.1 hs2, if_pos rfl, if_pos hs2]
    · rw [b.2 (by omega), if_neg (by simp), if_neg hs2]
  · have hf := a.2 (by omega)
    obtain ⟨m, hm⟩ : ∃ m, adds ks 1 (1, true) = (m, false) := ⟨_, Prod.ext rfl hf⟩
    rw [hm, adds_false, if_neg (by simp), if_neg (by omega)]
def zeroT : Term := .mk 0 false [] [] 0 [] []
theorem zero_bad : right zeroT = false := by decide +kernel
/-- put together, before it is asked whether it may be -/
def cons0 (h t : Term) : Term := if t.knd = 7 then listT (h :: t.items) t.tail else listT [h] [t]
def cons (h t : Term) : Term := if right h = true ∧ right t = true ∧ right (cons0 h t) = true then cons0 h t else zeroT
/-- parted -/
def split (t : Term) : Option (Term × Term) := if right t = true ∧ t.knd = 7 then (match t.items with
  | [] => none
  | [x] => some (x, tailOf t)
  | x :: l => some (x, listT l t.tail)) else none
theorem list_self {t : Term} (h : right t = true) (h7 : t.knd = 7) : t = listT t.items t.tail := by
  have A := right_spec h
  obtain ⟨a1, a2, a3, a4, a5, a6⟩ := A.rest (by omega)
  exact term_ext h7 a1 a2 (a3 (by omega)) (a5 (by omega)) rfl rfl
theorem size_of_list {t : Term} (h : right t = true) (h7 : t.knd = 7) : size t = 1 + tot t.items 1 + tot t.tail 0 := by
  have A := right_spec h
  obtain ⟨c1, c2, c3⟩ := A.list h7
  have := size_list_eq t.items t.tail c1 c2 c3 A.items A.tail
  rw [← list_self h h7] at this
  have hp : 0 < size t := of_decide_eq_true h
  rw [this] at hp ⊢
  split at hp
  · rename_i hh; rw [if_pos hh]
  · omega
/-- how great what is put together is -/
def consN (h t : Term) : Int := size h + size t + 1 + if t.knd = 7 then 0 else 1
theorem size_cons0 {h t : Term} (hh : right h = true) (ht : right t = true) : size (cons0 h t) = if consN h t ≤ 4096 then consN h t else 0 := by
  unfold cons0 consN
  by_cases h7 : t.knd = 7
  · have A := right_spec ht
    obtain ⟨c1, c2, c3⟩ := A.list h7
    rw [if_pos h7, size_list_eq _ _ c1 (by simp; omega) c3 (fun x hx => (List.mem_cons.1 hx).elim (fun e => e ▸ hh) (A.items x)) A.tail, size_of_list ht h7, if_pos h7]
    have e : 1 + tot (h :: t.items) 1 + tot t.tail 0 = size h + (1 + tot t.items 1 + tot t.tail 0) + 1 + 0 := by simp only [tot]; omega
    rw [e]
  · rw [if_neg h7, size_list_eq _ _ (by simp) (by simp) (fun x hx => by simp at hx; subst hx; exact h7) (fun x hx => by simp at hx; subst hx; exact hh) (fun x hx => by simp at hx; subst hx; exact ht), if_neg h7]
    have e : 1 + tot [h] 1 + tot [t] 0 = size h + size t + 1 + 1 := by simp only [tot]; omega
    rw [e]
theorem right_cons0 {h t : Term} (hh : right h = true) (ht : right t = true) : right (cons0 h t) = decide (consN h t ≤ 4096) := by
  have h1 : 0 < size h := of_decide_eq_true hh
  have h2 : 0 < size t := of_decide_eq_true ht
  unfold right
  rw [size_cons0 hh ht]
  by_cases hc : consN h t ≤ 4096
  · rw [if_pos hc]
    have : 0 < consN h t := by unfold consN; split <;> omega
    simp [hc, this]
  · rw [if_neg hc]; simp [hc]
theorem cons_bad {h t : Term} (hb : ¬ (right h = true ∧ right t = true)) : cons h t = zeroT := by
  unfold cons
  rw [if_neg (fun x => hb ⟨x.1, x.2.1⟩)]
theorem cons_good {h t : Term} (hh : right h = true) (ht : right t = true) (hn : consN h t ≤ 4096) : cons h t = cons0 h t := by
  unfold cons
  rw [if_pos ⟨hh, ht, by rw [right_cons0 hh ht]; simpa using hn⟩]
theorem cons_great {h t : Term} (hh : right h = true) (ht : right t = true) (hn : ¬ consN h t ≤ 4096) : cons h t = zeroT := by
  unfold cons
  rw [if_neg (fun x => by have := x.2.2; rw [right_cons0 hh ht] at this; simp at this; exact hn this)]
theorem cons0_knd (h t : Term) : (cons0 h t).knd = 7 := by unfold cons0; split <;> rfl
theorem split_cons0 {h t : Term} (hh : right h = true) (ht : right t = true) (hn : consN h t ≤ 4096) : split (cons0 h t) = some (h, t) := by
  have hr : right (cons0 h t) = true := by rw [right_cons0 hh ht]; simpa using hn
  unfold split
  rw [if_pos ⟨hr, cons0_knd h t⟩]
  have A := right_spec ht
  unfold cons0
  by_cases h7 : t.knd = 7
  · rw [if_pos h7]
    obtain ⟨c1, c2, c3⟩ := A.list h7
    show (match h :: t.items with | [] => none | [x] => some (x, tailOf (listT (h :: t.items) t.tail)) | x :: l => some (x, listT l t.tail)) = _
    cases hi : t.items with
    | nil =>
      have ht0 : t.tail = [] := List.eq_nil_of_length_eq_zero (by rw [hi] at c2; simp at c2; simp [c2])
      have e : t = listT [] [] := by have := list_self ht h7; rw [hi, ht0] at this; exact this
      simp only [tailOf, listT, Term.tail, ht0]
      rw [e]; rfl
    | cons y l =>
      simp only
      rw [← hi, ← list_self ht h7]
  · rw [if_neg h7]
    rfl
theorem cons_split {t h r : Term} (hs : split t = some (h, r)) : cons h r = t := by
  unfold split at hs
  split at hs
  · rename_i hc
    obtain ⟨hr, h7⟩ := hc
    have A := right_spec hr
    obtain ⟨c1, c2, c3⟩ := A.list h7
    have hz := size_of_list hr h7
    have hle := (size_le t).2
    have self := list_self hr h7
    split at hs
    · cases hs
    · rename_i x hi
      simp only [Option.some.injEq, Prod.mk.injEq] at hs
      obtain ⟨rfl, rfl⟩ := hs
      have hx : right x = true := A.items x (by rw [hi]; simp)
      unfold tailOf
      cases ht : t.tail with
      | nil =>
        simp only
        rw [hi, ht] at hz self
        have he : right (listT [] []) = true := by decide +kernel
        have hes : size (listT [] []) = 1 := by decide +kernel
        have hn : consN x (listT [] []) ≤ 4096 := by unfold consN; rw [hes, if_pos (show (listT [] []).knd = 7 from rfl)]; simp only [tot] at hz; omega
        rw [cons_good hx he hn, self]; rfl
      | cons y l =>
        simp only
        rw [ht] at c1 c3
        have hl : l = [] := by simpa using c1
        subst hl
        have hy : right y = true := A.tail y (by rw [ht]; simp)
        have hk := c3 y (by simp)
        rw [hi, ht] at hz self
        have hn : consN x y ≤ 4096 := by unfold consN; rw [if_neg hk]; simp only [tot] at hz; omega
        rw [cons_good hx hy hn, self]
        unfold cons0
        rw [if_neg hk]
    · rename_i x l hne hi
      simp only [Option.some.injEq, Prod.mk.injEq] at hs
      obtain ⟨rfl, rfl⟩ := hs
      have hx : right x = true := A.items x (by rw [hi]; simp)
      have hxp : 0 < size x := of_decide_eq_true hx
      rw [hi] at hz self c2
      have hll : 1 ≤ l.length := by
        cases l with
        | nil => exact (hne rfl).elim
        | cons _ _ => simp
      have hR := size_list_eq l t.tail c1 (by omega) c3 (fun y hy => A.items y (by rw [hi]; simp [hy])) A.tail
      simp only [tot] at hz
      rw [if_pos (by omega)] at hR
      have hrr : right (listT l t.tail) = true := by
        have := tot_nn (each := 1) (by omega) l
        have := tot_nn (each := 0) (by omega) t.tail
        unfold right; rw [hR]; simp; omega
      have hn : consN x (listT l t.tail) ≤ 4096 := by unfold consN; rw [hR, if_pos (show (listT l t.tail).knd = 7 from rfl)]; omega
      rw [cons_good hx hrr hn, self]; rfl
  · cases hs
theorem split_some {t : Term} : (split t).isSome = (right t && decide (t.knd = 7) && decide (t.items ≠ [])) := by
  unfold split
  cases hr : right t with
  | false => simp
  | true =>
    by_cases h7 : t.knd = 7
    · rw [if_pos ⟨rfl, h7⟩]
      cases hi : t.items with
      | nil => simp
      | cons x l => cases l <;> simp [h7]
    · rw [if_neg (fun x => h7 x.2)]; simp [h7]
end Go.Proofs.YtjnhalmeddafdaaDoor
