/- The text of what is seen, plainly. -/
import Derived.Test.YtpginpbcndlfmaaDoorZSeen
import Derived.Test.YtpginpbcndlfmaaDoorZInj
set_option linter.unusedVariables false
set_option linter.unusedSimpArgs false
namespace Go.Proofs.YtpginpbcndlfmaaDoor
open Go Go.Av
/-- a term's text in a line -/
def lineT (t : Term) : List UInt8 := if right t = true then text t else [63]
def atomTm (s : List UInt8) : Term := .mk 2 false [] s 0 [] []
def outL (t : Term) : List UInt8 := 111 :: ([117, 116, 32] ++ lineT t)
def endL (e : Ended) : List UInt8 := 101 :: ([110, 100, 101, 100, 32] ++ (itoa e.pid ++ 32 :: lineT e.reason))
def namL (n : Named) : List UInt8 := 110 :: ([97, 109, 101, 32] ++ (lineT (atomTm n.name) ++ 32 :: itoa n.pid))
def verL (n : Int) : List UInt8 := 118 :: ([101, 114, 100, 105, 99, 116, 32] ++ itoa n)
def speL (n : Int) : List UInt8 := 115 :: ([112, 101, 110, 116, 32] ++ itoa n)
def cloL (n : Int) : List UInt8 := 99 :: ([108, 111, 99, 107, 32] ++ itoa n)
def tlines (s : Seen) : List (List UInt8) := s.out.map outL ++ (s.ended.map endL ++ (s.names.map namL ++ [verL s.verdict, speL s.spent, cloL s.clock]))
theorem tlines_len (s : Seen) : (tlines s).length = s.out.length + s.ended.length + s.names.length + 3 := by
  simp only [tlines, List.length_append, List.length_map, List.length_cons, List.length_nil]; omega
theorem lineT_ok (t : Term) : okS (lineT t) := by
  unfold lineT
  split
  · exact text_ok t
  · intro c hc; simp at hc; subst hc; decide
theorem okL {l : List UInt8} (h : l.all (fun c => decide (okC c)) = true) : okS l := fun c hc => by
  have := List.all_eq_true.1 h c hc
  exact of_decide_eq_true this
theorem tlines_ok (s : Seen) : ∀ l, l ∈ tlines s → okS l := by
  intro l hl
  have sp : okC 32 := by decide
  unfold tlines at hl
  simp only [List.mem_append, List.mem_map, List.mem_cons, List.not_mem_nil, or_false] at hl
  rcases hl with ⟨t, _, rfl⟩ | ⟨e, _, rfl⟩ | ⟨n, _, rfl⟩ | rfl | rfl | rfl
  · exact okS.cons (by decide) ((okL (by decide)).append (lineT_ok t))
  · exact okS.cons (by decide) ((okL (by decide)).append ((itoa_ok _).append (okS.cons sp (lineT_ok _))))
  · exact okS.cons (by decide) ((okL (by decide)).append ((lineT_ok _).append (okS.cons sp (itoa_ok _))))
  · exact okS.cons (by decide) ((okL (by decide)).append (itoa_ok _))
  · exact okS.cons (by decide) ((okL (by decide)).append (itoa_ok _))
  · exact okS.cons (by decide) ((okL (by decide)).append (itoa_ok _))
/-- two rows, each of lines of a kind up to a line that is of it not -/
theorem tags {α : Type} {f : α → List UInt8} {p : List UInt8 → Prop} (hp : ∀ x, p (f x)) : ∀ (a b : List α) (x y : List (List UInt8)), (∀ c, c ∈ x → ¬ p c) → (∀ c, c ∈ y → ¬ p c) → a.map f ++ x = b.map f ++ y → a.map f = b.map f ∧ x = y
  | [], [], x, y, _, _, h => ⟨rfl, h⟩
  | a :: l, [], x, y, _, hy, h => absurd (hp a) (hy _ (by simp only [List.map_cons, List.map_nil, List.nil_append, List.cons_append] at h; rw [← h]; simp))
  | [], b :: m, x, y, hx, _, h => absurd (hp b) (hx _ (by simp only [List.map_cons, List.map_nil, List.nil_append, List.cons_append] at h; rw [h]; simp))
  | a :: l, b :: m, x, y, hx, hy, h => by
    simp only [List.map_cons, List.cons_append, List.cons.injEq] at h
    obtain ⟨e1, e2⟩ := tags hp l m x y hx hy h.2
    exact ⟨by simp only [List.map_cons]; rw [h.1, e1], e2⟩
theorem map_inj {α : Type} {f : α → List UInt8} : ∀ {a b : List α}, (∀ x, x ∈ a → ∀ y, y ∈ b → f x = f y → x = y) → a.map f = b.map f → a = b
  | [], [], _, _ => rfl
  | [], _ :: _, _, h => by simp at h
  | _ :: _, [], _, h => by simp at h
  | x :: a, y :: b, hi, h => by
    simp only [List.map_cons, List.cons.injEq] at h
    rw [hi x (by simp) y (by simp) h.1, map_inj (fun u hu v hv => hi u (by simp [hu]) v (by simp [hv])) h.2]
theorem split32 : ∀ (a b x y : List UInt8), (∀ c, c ∈ a → c ≠ 32) → (∀ c, c ∈ b → c ≠ 32) → a ++ 32 :: x = b ++ 32 :: y → a = b ∧ x = y
  | [], [], x, y, _, _, h => by simp at h; exact ⟨rfl, h⟩
  | c :: a, [], x, y, ha, _, h => by simp at h; exact absurd h.1 (ha c (by simp))
  | [], c :: b, x, y, _, hb, h => by simp at h; exact absurd h.1.symm (hb c (by simp))
  | c :: a, d :: b, x, y, ha, hb, h => by
    simp only [List.cons_append, List.cons.injEq] at h
    obtain ⟨e1, e2⟩ := split32 a b x y (fun c hc => ha c (by simp [hc])) (fun c hc => hb c (by simp [hc])) h.2
    exact ⟨by rw [h.1, e1], e2⟩
theorem itoa_no32 (n : Int) : ∀ c, c ∈ itoa n → c ≠ 32 := by
  intro c hc
  unfold itoa at hc
  rcases List.mem_append.1 hc with h | h
  · split at h
    · simp at h; subst h; decide
    · cases h
  · have := decT_dig _ c h
    unfold digC at this
    intro e; subst e
    have : (32 : UInt8).toNat = 32 := rfl
    omega
theorem itoa_inj {m n : Int} (h : itoa m = itoa n) : m = n := by
  have nd : ∀ k : Nat, ∀ c l, decT k = c :: l → c ≠ 45 := fun k c l e h => by
    have := decT_dig k c (by rw [e]; simp)
    subst h
    unfold digC at this
    have : (45 : UInt8).toNat = 45 := rfl
    omega
  unfold itoa at h
  by_cases h1 : m < 0 <;> by_cases h2 : n < 0
  · rw [if_pos h1, if_pos h2] at h
    simp only [List.cons_append, List.nil_append, List.cons.injEq, true_and] at h
    have := decT_inj h
    omega
  · rw [if_pos h1, if_neg h2] at h
    simp only [List.cons_append, List.nil_append] at h
    exact absurd rfl (nd _ _ _ h.symm)
  · rw [if_neg h1, if_pos h2] at h
    simp only [List.cons_append, List.nil_append] at h
    exact absurd rfl (nd _ _ _ h)
  · rw [if_neg h1, if_neg h2] at h
    simp only [List.nil_append] at h
    have := decT_inj h
    omega
/-- such as has one text -/
def bareT (t : Term) : Bool := right t && plainT t
theorem lineT_inj {t u : Term} (ht : bareT t = true) (hu : bareT u = true) (h : lineT t = lineT u) : t = u := by
  unfold bareT at ht hu
  rw [Bool.and_eq_true] at ht hu
  unfold lineT text at h
  rw [if_pos ht.1, if_pos ht.1, if_pos hu.1, if_pos hu.1] at h
  exact (said_inj ht.1 hu.1 ht.2 hu.2).1 h
theorem right_atom (s : List UInt8) (h : s.length ≤ 40) : right (atomTm s) = true := by
  have hh : head (atomTm s) = (1, 0, bare (atomTm s) true false false false && decide ((s.length : Int) ≤ 40)) := rfl
  have hb : bare (atomTm s) true false false false = true := rfl
  have hl : decide ((s.length : Int) ≤ 40) = true := decide_eq_true (by omega)
  unfold right
  rw [size_eq, hh, hb, hl]
  rfl
theorem atom_bare (s : List UInt8) (h : s.length ≤ 40) : bareT (atomTm s) = true := by
  unfold bareT
  rw [right_atom s h]
  rfl
def plainS (s : Seen) : Bool := (s.out.all bareT && s.ended.all fun e => bareT e.reason) && s.names.all fun n => decide ((n.name.length : Int) ≤ 40)
theorem rev_inj {a b x y : List UInt8} (ha : ∀ c, c ∈ x → c ≠ 32) (hb : ∀ c, c ∈ y → c ≠ 32) (h : a ++ 32 :: x = b ++ 32 :: y) : a = b ∧ x = y := by
  have h2 := congrArg List.reverse h
  simp only [List.reverse_append, List.reverse_cons, List.append_assoc, List.singleton_append] at h2
  obtain ⟨e1, e2⟩ := split32 x.reverse y.reverse a.reverse b.reverse (fun c hc => ha c (by simpa using hc)) (fun c hc => hb c (by simpa using hc)) h2
  exact ⟨List.reverse_inj.1 e2, List.reverse_inj.1 e1⟩
theorem tlines_inj {a b : Seen} (ha : plainS a = true) (hb : plainS b = true) (h : tlines a = tlines b) : a = b := by
  unfold plainS at ha hb
  simp only [Bool.and_eq_true, List.all_eq_true, decide_eq_true_eq] at ha hb
  obtain ⟨⟨a1, a2⟩, a3⟩ := ha
  obtain ⟨⟨b1, b2⟩, b3⟩ := hb
  unfold tlines at h
  have n1 : ∀ s : Seen, ∀ c, c ∈ s.ended.map endL ++ (s.names.map namL ++ [verL s.verdict, speL s.spent, cloL s.clock]) → ¬ c.head? = some 111 := by
    intro s c hc
    simp only [List.mem_append, List.mem_map, List.mem_cons, List.not_mem_nil, or_false] at hc
    rcases hc with ⟨e, _, rfl⟩ | ⟨n, _, rfl⟩ | rfl | rfl | rfl <;> simp [endL, namL, verL, speL, cloL]
  have n2 : ∀ s : Seen, ∀ c, c ∈ (s.names.map namL ++ [verL s.verdict, speL s.spent, cloL s.clock]) → ¬ c.head? = some 101 := by
    intro s c hc
    simp only [List.mem_append, List.mem_map, List.mem_cons, List.not_mem_nil, or_false] at hc
    rcases hc with ⟨n, _, rfl⟩ | rfl | rfl | rfl <;> simp [namL, verL, speL, cloL]
  have n3 : ∀ s : Seen, ∀ c, c ∈ [verL s.verdict, speL s.spent, cloL s.clock] → ¬ c.head? = some 110 := by
    intro s c hc
    simp only [List.mem_cons, List.not_mem_nil, or_false] at hc
    rcases hc with rfl | rfl | rfl <;> simp [verL, speL, cloL]
  obtain ⟨e1, h⟩ := tags (p := fun c => c.head? = some 111) (fun x => by simp [outL]) _ _ _ _ (n1 a) (n1 b) h
  obtain ⟨e2, h⟩ := tags (p := fun c => c.head? = some 101) (fun x => by simp [endL]) _ _ _ _ (n2 a) (n2 b) h
  obtain ⟨e3, h⟩ := tags (p := fun c => c.head? = some 110) (fun x => by simp [namL]) _ _ _ _ (n3 a) (n3 b) h
  have f1 : a.out = b.out := map_inj (fun x hx y hy e => by
    simp only [outL, List.cons_append, List.nil_append, List.cons.injEq, true_and] at e
    exact lineT_inj (a1 x hx) (b1 y hy) e) e1
  have f2 : a.ended = b.ended := map_inj (fun x hx y hy e => by
    simp only [endL, List.cons_append, List.nil_append, List.cons.injEq, true_and] at e
    obtain ⟨g1, g2⟩ := split32 _ _ _ _ (itoa_no32 _) (itoa_no32 _) e
    have g3 := lineT_inj (a2 x hx) (b2 y hy) g2
    have g4 := itoa_inj g1
    cases x; cases y
    simp only at g3 g4
    rw [g3, g4]) e2
  have f3 : a.names = b.names := map_inj (fun x hx y hy e => by
    simp only [namL, List.cons_append, List.nil_append, List.cons.injEq, true_and] at e
    obtain ⟨g1, g2⟩ := rev_inj (itoa_no32 _) (itoa_no32 _) e
    have g3 := lineT_inj (atom_bare _ (by have := a3 x hx; omega)) (atom_bare _ (by have := b3 y hy; omega)) g1
    have g4 := itoa_inj g2
    cases x; cases y
    simp only at g3 g4
    have g5 := congrArg Term.text g3
    simp only [atomTm, Term.text] at g5
    rw [g5, g4]) e3
  simp only [List.cons.injEq, and_true] at h
  obtain ⟨h1, h2, h3⟩ := h
  simp only [verL, speL, cloL, List.cons_append, List.nil_append, List.cons.injEq, true_and] at h1 h2 h3
  have i1 := itoa_inj h1
  have i2 := itoa_inj h2
  have i3 := itoa_inj h3
  cases a; cases b
  simp only at *
  rw [f1, f2, f3, i1, i2, i3]
end Go.Proofs.YtpginpbcndlfmaaDoor
