/- A plain right term is told by its text alone. -/
import Derived.Test.YtpginpbcndlfmaaDoorZSaid
import Derived.Test.YtpginpbcndlfmaaDoorZH
set_option linter.unusedVariables false
set_option linter.unusedSimpArgs false
namespace Go.Proofs.YtpginpbcndlfmaaDoor
open Go Go.Av
/-! digits -/
def stopC (c : UInt8) : Prop := c.toNat = 44 ∨ c.toNat = 124 ∨ c.toNat = 125 ∨ c.toNat = 93
/-- a text that begins with no byte of a number or a name -/
def stop (x : List UInt8) : Prop := ∀ c l, x = c :: l → stopC c
theorem stop_cons {c : UInt8} {l : List UInt8} (h : stopC c) : stop (c :: l) := fun d m e => by cases e; exact h
/-- two runs of bytes of a kind, each up to a byte that is of it not -/
theorem runs {p : UInt8 → Prop} (hp : ∀ c, p c → ¬ stopC c) : ∀ (a b x y : List UInt8), (∀ c, c ∈ a → p c) → (∀ c, c ∈ b → p c) → stop x → stop y → a ++ x = b ++ y → a = b ∧ x = y
  | [], [], x, y, _, _, _, _, h => ⟨rfl, h⟩
  | c :: a, [], x, y, ha, _, _, hy, h => absurd (hy c (a ++ x) h.symm) (hp c (ha c (by simp)))
  | [], c :: b, x, y, _, hb, hx, _, h => absurd (hx c (b ++ y) h) (hp c (hb c (by simp)))
  | c :: a, d :: b, x, y, ha, hb, hx, hy, h => by
    simp only [List.cons_append, List.cons.injEq] at h
    obtain ⟨e1, e2⟩ := runs hp a b x y (fun c hc => ha c (by simp [hc])) (fun c hc => hb c (by simp [hc])) hx hy h.2
    exact ⟨by rw [h.1, e1], e2⟩
/-- what digits, the lowest first, amount to -/
def back : List UInt8 → Nat
  | [] => 0
  | c :: l => (c.toNat - 48) + 10 * back l
theorem back_digs (n : Nat) : back (digs n) = n := by
  induction n using Nat.strongRecOn with
  | _ n ih =>
    unfold digs
    split
    · rename_i h; rw [back, h]
    · rename_i h
      rw [back, ih (n / 10) (by omega), ofNat_toNat (by omega)]
      omega
theorem decT_back (n : Nat) : back (decT n).reverse = n := by
  unfold decT
  split
  · rename_i h; subst h; rfl
  · rw [List.reverse_reverse, back_digs]
theorem decT_inj {m n : Nat} (h : decT m = decT n) : m = n := by rw [← decT_back m, h, decT_back]
/-! limbs -/
theorem val_inj : ∀ {a b : List UInt32}, a.length = b.length → val a = val b → a = b
  | [], [], _, _ => rfl
  | x :: a, y :: b, hl, h => by
    simp only [val] at h
    have hx := x.toNat_lt
    have hy := y.toNat_lt
    have h1 : x.toNat = y.toNat := by omega
    have h2 : val a = val b := by omega
    rw [UInt32.toNat_inj.1 h1, val_inj (by simpa using hl) h2]
theorem val_ge : ∀ {a : List UInt32}, a ≠ [] → lastOk a = true → 4294967296 ^ (a.length - 1) ≤ val a
  | [], h, _ => absurd rfl h
  | [x], _, h => by
    simp [lastOk] at h
    simp only [val, List.length_singleton]
    have : x.toNat ≠ 0 := fun e => h (by first | exact UInt32.toNat_inj.1 e | exact_mod_cast e)
    omega
  | x :: y :: a, _, h => by
    have ih := val_ge (a := y :: a) (by simp) (by simpa [lastOk] using h)
    simp only [List.length_cons, Nat.add_sub_cancel] at ih ⊢
    rw [val, Nat.pow_succ]
    omega
theorem val_len {a b : List UInt32} (ha : a ≠ [] → lastOk a = true) (hb : b ≠ [] → lastOk b = true) (h : val a = val b) : ¬ a.length < b.length := fun hl => by
  have hne : b ≠ [] := fun e => by subst e; simp at hl
  have h1 := val_ge hne (hb hne)
  have h2 := val_lt a
  have h3 : 4294967296 ^ a.length ≤ 4294967296 ^ (b.length - 1) := Nat.pow_le_pow_right (by decide) (by omega)
  omega
theorem val_eq {a b : List UInt32} (ha : a ≠ [] → lastOk a = true) (hb : b ≠ [] → lastOk b = true) (h : val a = val b) : a = b :=
  val_inj (by have := val_len ha hb h; have := val_len hb ha h.symm; omega) h
/-! integers -/
theorem dig_stop (c : UInt8) (h : digC c) : ¬ stopC c := by unfold digC at h; unfold stopC; omega
theorem wsaid_inj {a b : Term} {x y : List UInt8} (ha : wr a = true) (hb : wr b = true) (hx : stop x) (hy : stop y) (h : wsaid a ++ x = wsaid b ++ y) : a = b ∧ x = y := by
  obtain ⟨a1, a2, a3, a4, a5, a6, a7, a8⟩ := wr_spec ha
  obtain ⟨b1, b2, b3, b4, b5, b6, b7, b8⟩ := wr_spec hb
  have dg : ∀ (n : Nat) (z : List UInt8), ∃ c l, decT n ++ z = c :: l ∧ c.toNat ≠ 45 := fun n z => by
    cases e : decT n with
    | nil => exact absurd e (decT_ne n)
    | cons c l =>
      have := decT_dig n c (by rw [e]; simp)
      unfold digC at this
      exact ⟨c, l ++ z, rfl, by omega⟩
  have key : a.neg = b.neg ∧ decT (val a.limbs) ++ x = decT (val b.limbs) ++ y := by
    unfold wsaid at h
    obtain ⟨c, l, e1, e2⟩ := dg (val a.limbs) x
    obtain ⟨d, m, e3, e4⟩ := dg (val b.limbs) y
    cases ea : a.neg <;> cases eb : b.neg <;> rw [ea, eb] at h <;> simp only [if_true, if_false, List.nil_append, List.cons_append, reduceCtorEq, Bool.false_eq_true] at h
    · exact ⟨rfl, h⟩
    · rw [e1] at h
      simp only [List.cons.injEq] at h
      rw [h.1] at e2
      exact absurd rfl e2
    · rw [e3] at h
      simp only [List.cons.injEq] at h
      rw [← h.1] at e4
      exact absurd rfl e4
    · simp only [List.cons.injEq] at h
      exact ⟨rfl, h.2⟩
  obtain ⟨k1, k2⟩ := runs dig_stop _ _ _ _ (decT_dig _) (decT_dig _) hx hy key.2
  exact ⟨term_ext (by rw [a1, b1]) key.1 (val_eq a8 b8 (decT_inj k1)) (by rw [a2, b2]) (by rw [a3, b3]) (by rw [a4, b4]) (by rw [a5, b5]), k2⟩
/-! names -/
def unhex (c : UInt8) : Nat := if c.toNat < 58 then c.toNat - 48 else c.toNat - 87
theorem unhex_hexD {n : Nat} (h : n < 16) : unhex (hexD n) = n := by
  unfold hexD unhex
  split
  · rw [ofNat_toNat (by omega), if_pos (by omega)]; omega
  · rw [ofNat_toNat (by omega), if_neg (by omega)]; omega
/-- one byte read back -/
def unq (l : List UInt8) : Option (UInt8 × List UInt8) :=
  match l with
  | [] => none
  | c :: l => if c.toNat = 39 then none else if c.toNat = 92 then
      match l with
      | [] => none
      | d :: l => if d.toNat = 120 then
          match l with
          | p :: q :: l => some (UInt8.ofNat (16 * unhex p + unhex q), l)
          | _ => none
        else if d.toNat = 110 then some (10, l) else some (d, l)
    else some (c, l)
theorem unq_quoC (c : UInt8) (r : List UInt8) : unq (quoC c ++ r) = some (c, r) := by
  have hc := c.toNat_lt
  unfold quoC
  split
  · rename_i h
    rcases h with h | h <;> simp [unq, h]
  · rename_i h
    split
    · rename_i h10
      have : c = 10 := UInt8.toNat_inj.1 h10
      simp [unq, this]
    · split
      · simp only [List.cons_append, List.nil_append, unq]
        rw [if_neg (by decide), if_pos (by decide), if_pos (by decide), unhex_hexD (by omega), unhex_hexD (by omega)]
        have : 16 * (c.toNat / 16) + c.toNat % 16 = c.toNat := by omega
        rw [this]
        simp
      · simp only [List.cons_append, List.nil_append, unq]
        rw [if_neg (by omega), if_neg (by omega)]
theorem quo_inj : ∀ (s t x y : List UInt8), s.flatMap quoC ++ (39 :: x) = t.flatMap quoC ++ (39 :: y) → s = t ∧ x = y
  | [], [], x, y, h => by simpa using h
  | c :: s, [], x, y, h => by
    have h' := congrArg unq h
    simp only [List.flatMap_cons, List.append_assoc, unq_quoC, List.flatMap_nil, List.nil_append] at h'
    simp [unq] at h'
  | [], c :: t, x, y, h => by
    have h' := congrArg unq h
    simp only [List.flatMap_cons, List.append_assoc, unq_quoC, List.flatMap_nil, List.nil_append] at h'
    simp [unq] at h'
  | c :: s, d :: t, x, y, h => by
    have h' := congrArg unq h
    simp only [List.flatMap_cons, List.append_assoc, unq_quoC, Option.some.injEq, Prod.mk.injEq] at h'
    obtain ⟨e1, e2⟩ := quo_inj s t x y h'.2
    exact ⟨by rw [h'.1, e1], e2⟩
theorem inner_stop (c : UInt8) (h : innerC c = true) : ¬ stopC c := by
  have := inner_spec h
  unfold stopC; omega
theorem atomT_inj {s t x y : List UInt8} (hx : stop x) (hy : stop y) (h : atomT s ++ x = atomT t ++ y) : s = t ∧ x = y := by
  unfold atomT at h
  by_cases hs : plainA s = true <;> by_cases ht : plainA t = true
  · rw [if_pos hs, if_pos ht] at h
    obtain ⟨c, l, _, _, _, h1⟩ := plainA_spec hs
    obtain ⟨d, m, _, _, _, h2⟩ := plainA_spec ht
    exact runs inner_stop _ _ _ _ h1 h2 hx hy h
  · rw [if_pos hs, if_neg ht] at h
    obtain ⟨c, l, e, h1, h2, _⟩ := plainA_spec hs
    subst e
    simp only [quoted, List.cons_append, List.cons.injEq] at h
    rw [h.1] at h1
    exact absurd h1 (by decide)
  · rw [if_neg hs, if_pos ht] at h
    obtain ⟨c, l, e, h1, h2, _⟩ := plainA_spec ht
    subst e
    simp only [quoted, List.cons_append, List.cons.injEq] at h
    rw [← h.1] at h1
    exact absurd h1 (by decide)
  · rw [if_neg hs, if_neg ht] at h
    simp only [quoted, List.cons_append, List.append_assoc, List.nil_append, List.cons.injEq, true_and] at h
    exact quo_inj _ _ _ _ h
/-! terms -/
mutual
/-- is there no ref, fun or pid in a term? -/
def plainT : Term → Bool
  | .mk k g l s n ks ts => !(decide ((k.toNat : Int) = 3) || decide ((k.toNat : Int) = 4) || decide ((k.toNat : Int) = 5)) && plainTs ks && plainTs ts
def plainTs : List Term → Bool
  | [] => true
  | x :: l => plainT x && plainTs l
end
theorem plainT_eq (t : Term) : plainT t = (!(decide (t.knd = 3) || decide (t.knd = 4) || decide (t.knd = 5)) && plainTs t.items && plainTs t.tail) := by cases t; rw [plainT]; rfl
theorem plainTs_mem {l : List Term} (h : plainTs l = true) : ∀ x, x ∈ l → plainT x = true := by
  induction l with
  | nil => intro x hx; cases hx
  | cons y l ih =>
    simp only [plainTs, Bool.and_eq_true] at h
    intro x hx
    rcases List.mem_cons.1 hx with rfl | hx
    · exact h.1
    · exact ih h.2 x hx
/-- the first byte of a text -/
def firstOk (k : Int) (c : UInt8) : Prop := (k = 1 ∧ (c.toNat = 45 ∨ digC c)) ∨ (k = 2 ∧ (c.toNat = 39 ∨ 97 ≤ c.toNat ∧ c.toNat ≤ 122)) ∨ (k = 6 ∧ c.toNat = 123) ∨ (k = 7 ∧ c.toNat = 91)
theorem said_first {t : Term} (h : right t = true) (hp : plainT t = true) : ∃ c l, said t = c :: l ∧ firstOk t.knd c := by
  have A := right_spec h
  rw [plainT_eq] at hp
  simp only [Bool.and_eq_true, Bool.not_eq_true', Bool.or_eq_false_iff, decide_eq_false_iff_not] at hp
  have hk := A.kind
  have hcs : t.knd = 1 ∨ t.knd = 2 ∨ t.knd = 6 ∨ t.knd = 7 := by omega
  rw [said_eq]
  rcases hcs with e | e | e | e
  · rw [if_pos e]
    unfold wsaid firstOk
    cases t.neg
    · simp only [Bool.false_eq_true, if_false, List.nil_append]
      cases ed : decT (val t.limbs) with
      | nil => exact absurd ed (decT_ne _)
      | cons c l => exact ⟨c, l, rfl, .inl ⟨e, .inr (decT_dig (val t.limbs) c (by rw [ed]; simp))⟩⟩
    · exact ⟨45, _, rfl, .inl ⟨e, .inl rfl⟩⟩
  · rw [if_neg (by omega), if_pos e]
    unfold atomT firstOk
    by_cases hs : plainA t.text = true
    · rw [if_pos hs]
      obtain ⟨c, l, e1, h1, h2, _⟩ := plainA_spec hs
      exact ⟨c, l, e1, .inr (.inl ⟨e, .inr ⟨h1, h2⟩⟩)⟩
    · rw [if_neg hs]
      exact ⟨39, _, rfl, .inr (.inl ⟨e, .inl rfl⟩)⟩
  · rw [if_neg (by omega), if_neg (by omega), if_neg (by omega), if_neg (by omega), if_neg (by omega), if_pos e]
    exact ⟨123, _, rfl, .inr (.inr (.inl ⟨e, rfl⟩))⟩
  · rw [if_neg (by omega), if_neg (by omega), if_neg (by omega), if_neg (by omega), if_neg (by omega), if_neg (by omega)]
    exact ⟨91, _, rfl, .inr (.inr (.inr ⟨e, rfl⟩))⟩
theorem first_inj {j k : Int} {c : UInt8} (h : firstOk j c) (g : firstOk k c) : j = k := by
  unfold firstOk digC at h g; omega
theorem first_stop {k : Int} {c : UInt8} (h : firstOk k c) : ¬ stopC c := by
  unfold firstOk digC at h; unfold stopC; omega
/-- what a term's text tells, whatever follows -/
def Tells (a : Term) : Prop := ∀ b x y, right a = true → right b = true → plainT a = true → plainT b = true → stop x → stop y → said a ++ x = said b ++ y → a = b ∧ x = y
def Good (l : List Term) : Prop := ∀ x, x ∈ l → right x = true ∧ plainT x = true
theorem Good.tl {a : Term} {l : List Term} (h : Good (a :: l)) : Good l := fun x hx => h x (by simp [hx])
theorem saidT_stop {ts : List Term} {c : UInt8} {x : List UInt8} (hc : stopC c) : stop (saidT ts ++ c :: x) := by
  cases ts with
  | nil => exact stop_cons hc
  | cons t ts => exact stop_cons (by unfold stopC; decide)
theorem saidN_stop {ks ts : List Term} {c : UInt8} {x : List UInt8} (hc : stopC c) : stop (saidN ks ++ (saidT ts ++ c :: x)) := by
  cases ks with
  | nil => exact saidT_stop hc
  | cons t ts => exact stop_cons (by unfold stopC; decide)
abbrev endC (c : UInt8) : Prop := c.toNat = 125 ∨ c.toNat = 93
theorem end_stop {c : UInt8} (h : endC c) : stopC c := by unfold stopC; omega
theorem saidT_inj {c : UInt8} (hc : endC c) : ∀ (ts us : List Term) (x y : List UInt8), (∀ t, t ∈ ts → Tells t) → Good ts → Good us → saidT ts ++ c :: x = saidT us ++ c :: y → ts = us ∧ x = y
  | [], [], x, y, _, _, _, h => by simpa [saidT] using h
  | t :: ts, [], x, y, _, _, _, h => by
    simp only [saidT, List.cons_append, List.nil_append, List.cons.injEq] at h
    rw [← h.1] at hc
    exact absurd hc (by decide)
  | [], u :: us, x, y, _, _, _, h => by
    simp only [saidT, List.cons_append, List.nil_append, List.cons.injEq] at h
    rw [h.1] at hc
    exact absurd hc (by decide)
  | t :: ts, u :: us, x, y, ih, g, g', h => by
    simp only [saidT, List.cons_append, List.append_assoc, List.cons.injEq, true_and] at h
    obtain ⟨e1, e2⟩ := ih t (by simp) u _ _ (g t (by simp)).1 (g' u (by simp)).1 (g t (by simp)).2 (g' u (by simp)).2 (saidT_stop (end_stop hc)) (saidT_stop (end_stop hc)) h
    obtain ⟨e3, e4⟩ := saidT_inj hc ts us x y (fun t ht => ih t (by simp [ht])) g.tl g'.tl e2
    exact ⟨by rw [e1, e3], e4⟩
theorem saidT_first {ts : List Term} {c : UInt8} {x : List UInt8} (hc : endC c) : ∃ d l, saidT ts ++ c :: x = d :: l ∧ d.toNat ≠ 44 := by
  cases ts with
  | nil => exact ⟨c, x, rfl, by omega⟩
  | cons t ts => exact ⟨124, _, rfl, by decide⟩
theorem saidN_inj {c : UInt8} (hc : endC c) {ts us : List Term} (iht : ∀ t, t ∈ ts → Tells t) (gt : Good ts) (gu : Good us) : ∀ (l m : List Term) (x y : List UInt8), (∀ t, t ∈ l → Tells t) → Good l → Good m →
    saidN l ++ (saidT ts ++ c :: x) = saidN m ++ (saidT us ++ c :: y) → l = m ∧ ts = us ∧ x = y
  | [], [], x, y, _, _, _, h => by
    simp only [saidN, List.nil_append] at h
    exact ⟨rfl, saidT_inj hc ts us x y iht gt gu h⟩
  | t :: l, [], x, y, _, _, _, h => by
    obtain ⟨d, r, e1, e2⟩ := saidT_first (ts := us) (x := y) hc
    simp only [saidN, List.nil_append, List.cons_append, e1, List.cons.injEq] at h
    rw [← h.1] at e2
    exact absurd rfl e2
  | [], u :: m, x, y, _, _, _, h => by
    obtain ⟨d, r, e1, e2⟩ := saidT_first (ts := ts) (x := x) hc
    simp only [saidN, List.nil_append, List.cons_append, e1, List.cons.injEq] at h
    rw [h.1] at e2
    exact absurd rfl e2
  | t :: l, u :: m, x, y, ih, g, g', h => by
    simp only [saidN, List.cons_append, List.append_assoc, List.cons.injEq, true_and] at h
    obtain ⟨e1, e2⟩ := ih t (by simp) u _ _ (g t (by simp)).1 (g' u (by simp)).1 (g t (by simp)).2 (g' u (by simp)).2 (saidN_stop (end_stop hc)) (saidN_stop (end_stop hc)) h
    obtain ⟨e3, e4⟩ := saidN_inj hc iht gt gu l m x y (fun t ht => ih t (by simp [ht])) g.tl g'.tl e2
    exact ⟨by rw [e1, e3], e4⟩
theorem saidI_inj {c : UInt8} (hc : endC c) {ts us : List Term} (iht : ∀ t, t ∈ ts → Tells t) (gt : Good ts) (gu : Good us) (l m : List Term) (x y : List UInt8) (ih : ∀ t, t ∈ l → Tells t) (g : Good l) (g' : Good m)
    (ht : ts.length ≤ l.length) (hu : us.length ≤ m.length) (h : saidI l ++ (saidT ts ++ c :: x) = saidI m ++ (saidT us ++ c :: y)) : l = m ∧ ts = us ∧ x = y := by
  cases l with
  | nil =>
    have : ts = [] := List.eq_nil_of_length_eq_zero (by simpa using ht)
    subst this
    cases m with
    | nil =>
      have : us = [] := List.eq_nil_of_length_eq_zero (by simpa using hu)
      subst this
      simp only [saidI, saidT, List.nil_append, List.cons.injEq, true_and] at h
      exact ⟨rfl, rfl, h⟩
    | cons u m =>
      obtain ⟨d, r, e1, e2⟩ := said_first (g' u (by simp)).1 (g' u (by simp)).2
      simp only [saidI, saidT, List.nil_append, List.append_assoc, e1, List.cons_append, List.cons.injEq] at h
      rw [h.1] at hc
      exact absurd (end_stop hc) (first_stop e2)
  | cons t l =>
    cases m with
    | nil =>
      have : us = [] := List.eq_nil_of_length_eq_zero (by simpa using hu)
      subst this
      obtain ⟨d, r, e1, e2⟩ := said_first (g t (by simp)).1 (g t (by simp)).2
      simp only [saidI, saidT, List.nil_append, List.append_assoc, e1, List.cons_append, List.cons.injEq] at h
      rw [← h.1] at hc
      exact absurd (end_stop hc) (first_stop e2)
    | cons u m =>
      simp only [saidI, List.append_assoc] at h
      obtain ⟨e1, e2⟩ := ih t (by simp) u _ _ (g t (by simp)).1 (g' u (by simp)).1 (g t (by simp)).2 (g' u (by simp)).2 (saidN_stop (end_stop hc)) (saidN_stop (end_stop hc)) h
      obtain ⟨e3, e4⟩ := saidN_inj hc iht gt gu l m x y (fun t ht => ih t (by simp [ht])) g.tl g'.tl e2
      exact ⟨by rw [e1, e3], e4⟩
theorem said_tells (a : Term) : Tells a := by
  refine Term.ind (P := Tells) (fun a ih1 ih2 b x y ha hb pa pb hx hy h => ?_) a
  have A := right_spec ha
  have B := right_spec hb
  obtain ⟨c, l, s1, f1⟩ := said_first ha pa
  obtain ⟨d, m, s2, f2⟩ := said_first hb pb
  have hcd : c = d := by
    rw [s1, s2] at h
    simp only [List.cons_append, List.cons.injEq] at h
    exact h.1
  subst hcd
  have hk := first_inj f1 f2
  clear s1 s2 f1 f2
  have pa' := pa
  have pb' := pb
  rw [plainT_eq] at pa' pb'
  simp only [Bool.and_eq_true, Bool.not_eq_true', Bool.or_eq_false_iff, decide_eq_false_iff_not] at pa' pb'
  have gi : Good a.items := fun x hx => ⟨A.items x hx, plainTs_mem pa'.1.2 x hx⟩
  have gt : Good a.tail := fun x hx => ⟨A.tail x hx, plainTs_mem pa'.2 x hx⟩
  have hi : Good b.items := fun x hx => ⟨B.items x hx, plainTs_mem pb'.1.2 x hx⟩
  have ht : Good b.tail := fun x hx => ⟨B.tail x hx, plainTs_mem pb'.2 x hx⟩
  have hkk := A.kind
  have hcs : a.knd = 1 ∨ a.knd = 2 ∨ a.knd = 6 ∨ a.knd = 7 := by omega
  rw [said_eq a, said_eq b, ← hk] at h
  rcases hcs with e | e | e | e
  · rw [if_pos e, if_pos e] at h
    exact wsaid_inj (A.int e) (B.int (by omega)) hx hy h
  · obtain ⟨a1, a2, a3, a4, a5, a6⟩ := A.rest (by omega)
    obtain ⟨b1, b2, b3, b4, b5, b6⟩ := B.rest (by omega)
    rw [if_neg (by omega), if_pos e, if_neg (by omega), if_pos e] at h
    obtain ⟨k1, k2⟩ := atomT_inj hx hy h
    exact ⟨term_ext hk (by rw [a1, b1]) (by rw [a2, b2]) k1 (by rw [a5 (by omega), b5 (by omega)]) (by rw [a6 (by omega), b6 (by omega)]) (by rw [a4 (by omega), b4 (by omega)]), k2⟩
  · obtain ⟨a1, a2, a3, a4, a5, a6⟩ := A.rest (by omega)
    obtain ⟨b1, b2, b3, b4, b5, b6⟩ := B.rest (by omega)
    rw [if_neg (by omega), if_neg (by omega), if_neg (by omega), if_neg (by omega), if_neg (by omega), if_pos e, if_neg (by omega), if_neg (by omega), if_neg (by omega), if_neg (by omega), if_neg (by omega), if_pos e] at h
    simp only [List.cons_append, List.nil_append, List.append_assoc, List.cons.injEq, true_and] at h
    have t1 := a4 (by omega)
    have t2 := b4 (by omega)
    obtain ⟨k1, k2, k3⟩ := saidI_inj (c := 125) (by decide) ih2 gt ht _ _ _ _ ih1 gi hi (by rw [t1]; simp) (by rw [t2]; simp) h
    exact ⟨term_ext hk (by rw [a1, b1]) (by rw [a2, b2]) (by rw [a3 (by omega), b3 (by omega)]) (by rw [a5 (by omega), b5 (by omega)]) k1 k2, k3⟩
  · obtain ⟨a1, a2, a3, a4, a5, a6⟩ := A.rest (by omega)
    obtain ⟨b1, b2, b3, b4, b5, b6⟩ := B.rest (by omega)
    rw [if_neg (by omega), if_neg (by omega), if_neg (by omega), if_neg (by omega), if_neg (by omega), if_neg (by omega), if_neg (by omega), if_neg (by omega), if_neg (by omega), if_neg (by omega), if_neg (by omega), if_neg (by omega)] at h
    simp only [List.cons_append, List.nil_append, List.append_assoc, List.cons.injEq, true_and] at h
    obtain ⟨k1, k2, k3⟩ := saidI_inj (c := 93) (by decide) ih2 gt ht _ _ _ _ ih1 gi hi (A.list e).2.1 (B.list (by omega)).2.1 h
    exact ⟨term_ext hk (by rw [a1, b1]) (by rw [a2, b2]) (by rw [a3 (by omega), b3 (by omega)]) (by rw [a5 (by omega), b5 (by omega)]) k1 k2, k3⟩
theorem said_inj {a b : Term} (ha : right a = true) (hb : right b = true) (pa : plainT a = true) (pb : plainT b = true) : said a = said b ↔ a = b :=
  ⟨fun h => (said_tells a b [] [] ha hb pa pb (fun c l e => by cases e) (fun c l e => by cases e) (by rw [h])).1, fun h => by rw [h]⟩
end Go.Proofs.YtpginpbcndlfmaaDoor
