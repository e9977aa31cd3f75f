/- Two sources, one behind the other: their tokens. -/
import Derived.Test.YtldmniappliepaaDoorX10
import Derived.Test.YtldmniappliepaaDoorX16
import Derived.Test.YtldmniappliepaaDoorX11
set_option linter.unusedVariables false
set_option linter.unusedSimpArgs false
set_option linter.defProp false
namespace Go.Proofs.YtldmniappliepaaDoor
open Go Go.Av
section
open Go
structure Stop (x : UInt8) : Prop where
  name : namedB x = false
  digit : digitB x = false
  hex : hexB x = false
  esc : escB x = none
  ex : x ≠ 120
  low : x.toNat < 32
  dot : x = 32 ∨ x = 9 ∨ x = 13 ∨ x = 10 ∨ x = 37
  sign : ∀ g, g ∈ scanSigns → x ∉ g
theorem stop_cr : Stop 13 := ⟨by decide, by decide, by decide, by decide, by decide, by decide, by decide, by decide⟩
theorem takeWhile_stop {p : UInt8 → Bool} {x : UInt8} (h : p x = false) (b : List UInt8) : ∀ s : List UInt8, (s ++ x :: b).takeWhile p = s.takeWhile p
  | [] => by simp [List.takeWhile_cons, h]
  | c :: r => by
    rw [List.cons_append, List.takeWhile_cons, List.takeWhile_cons, takeWhile_stop h b r]
theorem qscan_stop {q x : UInt8} (hq : x ≠ q) (h : Stop x) (b : List UInt8) : ∀ (m : Nat) (s : List UInt8), s.length ≤ m → qscan q (s ++ x :: b) = qscan q s := by
  intro m
  induction m with
  | zero =>
    intro s hs
    cases s with
    | nil => rw [List.nil_append, qscan_cons, if_neg hq, if_pos h.low]; rfl
    | cons c r => simp at hs
  | succ m ih =>
    intro s hs
    match s, hs with
    | [], _ => rw [List.nil_append, qscan_cons, if_neg hq, if_pos h.low]; rfl
    | c :: r, hs =>
      simp only [List.length_cons] at hs
      rw [List.cons_append, qscan_cons, qscan_cons]
      split
      · rfl
      split
      · rfl
      split
      · match r, hs with
        | [], _ => simp only [List.nil_append, h.esc, if_neg h.ex]
        | e :: r1, hs =>
          simp only [List.length_cons] at hs
          simp only [List.cons_append]
          rw [ih r1 (by omega)]
          split
          · rfl
          · split
            · match r1, hs with
              | [], _ =>
                cases b with
                | nil => rfl
                | cons d b => simp only [List.nil_append, h.hex, Bool.false_and, Bool.false_eq_true, if_false]
              | [h1], _ => simp only [List.cons_append, List.nil_append, h.hex, Bool.and_false, Bool.false_eq_true, if_false]
              | h1 :: h2 :: r2, hs =>
                simp only [List.length_cons] at hs
                simp only [List.cons_append]
                rw [ih r2 (by omega)]
            · rfl
      · rw [ih r (by omega)]
theorem prefix_stop {x : UInt8} (b : List UInt8) : ∀ (g s : List UInt8), x ∉ g → g.isPrefixOf (s ++ x :: b) = g.isPrefixOf s
  | [], s, _ => by simp [List.isPrefixOf]
  | c :: g, [], h => by
    have : (c == x) = false := by simp only [List.mem_cons, not_or] at h; exact beq_eq_false_iff_ne.2 (Ne.symm h.1)
    simp [List.isPrefixOf, this]
  | c :: g, d :: s, h => by
    simp only [List.cons_append, List.isPrefixOf]
    rw [prefix_stop b g s (fun hm => h (List.mem_cons_of_mem _ hm))]
theorem find_congr {α : Type} {p q : α → Bool} : ∀ (l : List α), (∀ a, a ∈ l → p a = q a) → l.find? p = l.find? q
  | [], _ => rfl
  | a :: l, h => by
    rw [List.find?_cons, List.find?_cons, h a (by simp), find_congr l fun b hb => h b (by simp [hb])]
theorem tokS_stop {x : UInt8} (h : Stop x) (h39 : x ≠ 39) (h34 : x ≠ 34) (b : List UInt8) : ∀ s : List UInt8, s ≠ [] → tokS (s ++ x :: b) = tokS s
  | [], h0 => absurd rfl h0
  | c :: r, _ => by
    have e1 := takeWhile_stop h.name b (c :: r)
    have e2 := takeWhile_stop h.digit b (c :: r)
    rw [List.cons_append] at e1 e2
    have e4 : scanSigns.find? (fun g => g.isPrefixOf (c :: (r ++ x :: b))) = scanSigns.find? (fun g => g.isPrefixOf (c :: r)) :=
      find_congr _ fun g hg => prefix_stop b g (c :: r) (h.sign g hg)
    rw [List.cons_append]
    unfold tokS
    simp only [e1, e2, e4]
    split
    · rfl
    split
    · rfl
    split
    · rename_i hc
      have e3 : qscan c (r ++ x :: b) = qscan c r := qscan_stop (by rcases hc with rfl | rfl <;> assumption) h b _ r (Nat.le_refl _)
      rw [e3]
    split
    · match r with
      | [] => simp only [List.nil_append]; rw [if_pos h.dot]
      | d :: r => rfl
    · rfl
def Tok.up (d : Nat) (t : Tok) : Tok := ⟨t.kind, t.text, t.pos + d⟩
def Tks.up (d : Nat) : Tks → Tks
  | .ok l => .ok (l.map (Tok.up d))
  | .bad e p => .bad e (p + d)
end
section
open Go
def digitsL : List UInt8 := [48, 49, 50, 51, 52, 53, 54, 55, 56, 57, 97, 66, 99, 68, 101, 70]
def dig (n : Nat) : UInt8 := digitsL.getD n 0
def escs (t : List UInt8) : List UInt8 := t.flatMap fun c => [92, 120, dig (c.toNat / 16), dig (c.toNat % 16)]
def sepL : List UInt8 := [13, 9, 37, 32, 97, 32, 39, 99, 111, 109, 109, 101, 110, 116, 10, 32]
def spelt (k : Nat) (t : List UInt8) : List UInt8 := if k = 2 then 39 :: (escs t ++ [39]) else if k = 4 then 34 :: (escs t ++ [34]) else t
theorem escs_len (t : List UInt8) : (escs t).length = 4 * t.length := by
  unfold escs
  induction t with
  | nil => rfl
  | cons c t ih => rw [List.flatMap_cons, List.length_append, ih]; simp; omega
theorem dig_hex : ∀ n, n < 16 → hexB (dig n) = true ∧ hexV (dig n) = n := by decide
theorem dig_byte (c : UInt8) : UInt8.ofNat (16 * hexV (dig (c.toNat / 16)) + hexV (dig (c.toNat % 16))) = c := by
  have h := c.toNat_lt
  rw [(dig_hex (c.toNat / 16) (by omega)).2, (dig_hex (c.toNat % 16) (by omega)).2, Nat.div_add_mod]
  exact UInt8.ofNat_toNat
theorem qscan_escs {q : UInt8} (hq : q ≠ 92) (rest : List UInt8) : ∀ t : List UInt8, qscan q (escs t ++ q :: rest) = some (t, 4 * t.length + 1)
  | [] => by rw [escs, List.flatMap_nil, List.nil_append, qscan_cons, if_pos rfl]; rfl
  | c :: t => by
    have h := c.toNat_lt
    have e : escs (c :: t) ++ q :: rest = 92 :: 120 :: dig (c.toNat / 16) :: dig (c.toNat % 16) :: (escs t ++ q :: rest) := by simp [escs]
    have h1 := (dig_hex (c.toNat / 16) (by omega)).1
    have h2 := (dig_hex (c.toNat % 16) (by omega)).1
    rw [e, qscan_cons, if_neg (Ne.symm hq), if_neg (by decide), if_pos rfl]
    simp only [show escB 120 = none by decide, if_true, h1, h2, Bool.and_self, qscan_escs hq rest t, Option.map_some, dig_byte, List.length_cons]
    rw [show 4 * t.length + 1 + 4 = 4 * (t.length + 1) + 1 by omega]
structure Told (k : Nat) (t : List UInt8) : Prop where
  what : (k = 3 ∨ k = 6) ∧ t.all namedB = true ∧ t.length ≤ 40 ∧ (∃ c r, t = c :: r ∧ (lowB c || highB c) = true ∧ (if highB c then 3 else if scanWords.contains t then 6 else 2) = k) ∨ k = 1 ∧ t.all digitB = true ∧ t ≠ [] ∧ t.length ≤ 400 ∨
    k = 2 ∧ t.length ≤ 40 ∨ k = 4 ∧ t.length ≤ 400 ∨ k = 7 ∧ t = [46] ∨ k = 5 ∧ t ∈ scanSigns
theorem takeWhile_all' {p : UInt8 → Bool} (s : List UInt8) : (s.takeWhile p).all p = true := by
  rw [List.all_eq_true]; intro x hx
  induction s with
  | nil => simp at hx
  | cons c s ih =>
    rw [List.takeWhile_cons] at hx
    split at hx
    · rcases List.mem_cons.1 hx with rfl | hx
      · assumption
      · exact ih hx
    · cases hx
theorem tokS_told {s : List UInt8} {k n : Nat} {t : List UInt8} (h : tokS s = .tok k t n) : Told k t ∧ (k ≠ 2 → k ≠ 4 → t <+: s) := by
  unfold tokS at h
  split at h
  · cases h
  rename_i c r
  split at h
  · rename_i hc
    split at h
    · cases h
    · rename_i h40
      injection h with h4 h5 h6
      subst h5
      have hn : namedB c = true := by unfold namedB; simp only [Bool.or_eq_true] at hc ⊢; exact .inl (.inl hc)
      refine ⟨⟨?_⟩, fun _ _ => List.takeWhile_prefix _⟩
      have hall := takeWhile_all' (p := namedB) (c :: r)
      have hex : ∃ c' r', (c :: r).takeWhile namedB = c' :: r' ∧ (lowB c' || highB c') = true ∧ (if highB c' then 3 else if scanWords.contains ((c :: r).takeWhile namedB) then 6 else 2) = k :=
        ⟨c, r.takeWhile namedB, by rw [List.takeWhile_cons, if_pos hn], hc, h4⟩
      by_cases hk : k = 2
      · exact .inr (.inr (.inl ⟨hk, by omega⟩))
      · refine .inl ⟨?_, hall, by omega, hex⟩
        split at h4
        · exact .inl h4.symm
        · split at h4
          · exact .inr h4.symm
          · exact absurd h4.symm hk
  split at h
  · rename_i hc
    split at h
    · cases h
    · rename_i h40
      injection h with h4 h5 h6
      subst h4 h5
      exact ⟨⟨.inr (.inl ⟨rfl, takeWhile_all' _, by rw [List.takeWhile_cons, if_pos hc]; simp, by omega⟩)⟩, fun _ _ => List.takeWhile_prefix _⟩
  split at h
  · rename_i hq
    split at h
    · cases h
    · rename_i p hp
      split at h
      · cases h
      · rename_i hm
        injection h with h4 h5 h6
        subst h5
        rcases hq with rfl | rfl
        · rw [show qKind 39 = 2 by decide] at h4
          rw [show qMost 39 = 40 by decide] at hm
          exact ⟨⟨.inr (.inr (.inl ⟨h4.symm, by omega⟩))⟩, fun h2 _ => absurd h4.symm h2⟩
        · rw [show qKind 34 = 4 by decide] at h4
          rw [show qMost 34 = 400 by decide] at hm
          exact ⟨⟨.inr (.inr (.inr (.inl ⟨h4.symm, by omega⟩)))⟩, fun _ h2 => absurd h4.symm h2⟩
  split at h
  · rename_i hd
    subst hd
    split at h
    · cases h
      exact ⟨⟨.inr (.inr (.inr (.inr (.inl ⟨rfl, rfl⟩))))⟩, fun _ _ => List.prefix_refl _⟩
    · split at h
      · cases h
        exact ⟨⟨.inr (.inr (.inr (.inr (.inl ⟨rfl, rfl⟩))))⟩, fun _ _ => ⟨_, rfl⟩⟩
      · cases h
  split at h
  · rename_i g hg
    injection h with h4 h5 h6
    subst h4 h5
    have h1 := List.mem_of_find?_eq_some hg
    have h2 := List.find?_some hg
    exact ⟨⟨.inr (.inr (.inr (.inr (.inr ⟨rfl, h1⟩))))⟩, fun _ _ => List.isPrefixOf_iff_prefix.1 h2⟩
  · cases h
theorem takeWhile_full {p : UInt8 → Bool} {x : UInt8} (h : p x = false) (b : List UInt8) (t : List UInt8) (ht : t.all p = true) : (t ++ x :: b).takeWhile p = t := by
  rw [takeWhile_stop h]
  induction t with
  | nil => rfl
  | cons c t ih =>
    simp only [List.all_cons, Bool.and_eq_true] at ht
    rw [List.takeWhile_cons, if_pos ht.1, ih ht.2]
theorem sign_again : ∀ g, g ∈ scanSigns → tokS g = .tok 5 g g.length ∧ g ≠ [] ∧ ∀ c, g.head? = some c → blankB c = false ∧ c ≠ 37 := by decide
theorem named_of_digit {c : UInt8} (h : digitB c = true) : namedB c = true := by unfold namedB; rw [h]; simp
theorem low_facts (c : UInt8) (h : (lowB c || highB c) = true) : blankB c = false ∧ c ≠ 37 ∧ namedB c = true := by
  refine ⟨?_, ?_, by unfold namedB; rw [h]; simp⟩
  · cases hb : blankB c
    · rfl
    · unfold blankB at hb
      simp only [Bool.or_eq_true, decide_eq_true_eq] at hb
      rcases hb with ((rfl | rfl) | rfl) | rfl <;> revert h <;> decide
  · rintro rfl; revert h; decide
theorem digit_facts (c : UInt8) (h : digitB c = true) : blankB c = false ∧ c ≠ 37 ∧ (lowB c || highB c) = false := by
  refine ⟨?_, ?_, ?_⟩
  · cases hb : blankB c
    · rfl
    · unfold blankB at hb
      simp only [Bool.or_eq_true, decide_eq_true_eq] at hb
      rcases hb with ((rfl | rfl) | rfl) | rfl <;> revert h <;> decide
  · rintro rfl; revert h; decide
  · unfold digitB at h
    simp only [Bool.and_eq_true, decide_eq_true_eq] at h
    unfold lowB highB
    simp only [Bool.or_eq_false_iff, Bool.and_eq_false_iff, decide_eq_false_iff_not]
    omega
theorem tokS_again {k : Nat} {t : List UInt8} (h : Told k t) (rest : List UInt8) : ∃ c r, spelt k t = c :: r ∧ blankB c = false ∧ c ≠ 37 ∧ tokS (spelt k t ++ 13 :: rest) = .tok k t (spelt k t).length := by
  rcases h.what with ⟨hk, h1, h2, c, r, rfl, hc, hkk⟩ | ⟨rfl, h1, h2, h3⟩ | ⟨rfl, h1⟩ | ⟨rfl, h1⟩ | ⟨rfl, rfl⟩ | ⟨rfl, h1⟩
  · have e : spelt k (c :: r) = c :: r := by unfold spelt; rw [if_neg (by omega), if_neg (by omega)]
    obtain ⟨f1, f2, f3⟩ := low_facts c hc
    refine ⟨c, r, e, f1, f2, ?_⟩
    rw [e, List.cons_append]
    have ew : (c :: (r ++ 13 :: rest)).takeWhile namedB = c :: r := takeWhile_full (by decide) rest (c :: r) h1
    rw [tokS_cons, if_pos hc, ew, if_neg (by omega), hkk]
  · match t, h2 with
    | c :: r, _ =>
      have hd : digitB c = true := by simp only [List.all_cons, Bool.and_eq_true] at h1; exact h1.1
      obtain ⟨f1, f2, f3⟩ := digit_facts c hd
      refine ⟨c, r, rfl, f1, f2, ?_⟩
      have ew : (c :: (r ++ 13 :: rest)).takeWhile digitB = c :: r := takeWhile_full (by decide) rest (c :: r) h1
      have en : (c :: (r ++ 13 :: rest)).takeWhile namedB = c :: r := takeWhile_full (by decide) rest (c :: r) (by
        rw [List.all_eq_true] at h1 ⊢
        exact fun x hx => named_of_digit (h1 x hx))
      show tokS (c :: r ++ 13 :: rest) = _
      rw [List.cons_append, tokS_cons, if_neg (by rw [f3]; simp), if_pos hd, ew, en, if_neg (by omega)]
      rfl
  · refine ⟨39, escs t ++ [39], rfl, by decide, by decide, ?_⟩
    have e : spelt 2 t ++ 13 :: rest = 39 :: (escs t ++ 39 :: (13 :: rest)) := by simp [spelt]
    rw [e, tokS_cons, if_neg (by decide), if_neg (by decide), if_pos (by simp), qscan_escs (by decide)]
    simp only [show qMost 39 = 40 by decide, show qKind 39 = 2 by decide]
    rw [if_neg (by omega)]
    simp [spelt, escs_len]
  · refine ⟨34, escs t ++ [34], rfl, by decide, by decide, ?_⟩
    have e : spelt 4 t ++ 13 :: rest = 34 :: (escs t ++ 34 :: (13 :: rest)) := by simp [spelt]
    rw [e, tokS_cons, if_neg (by decide), if_neg (by decide), if_pos (by simp), qscan_escs (by decide)]
    simp only [show qMost 34 = 400 by decide, show qKind 34 = 4 by decide]
    rw [if_neg (by omega)]
    simp [spelt, escs_len]
  · exact ⟨46, [], rfl, by decide, by decide, rfl⟩
  · obtain ⟨g1, g2, g3⟩ := sign_again t h1
    match t, g2 with
    | c :: r, _ =>
      obtain ⟨f1, f2⟩ := g3 c rfl
      refine ⟨c, r, rfl, f1, f2, ?_⟩
      show tokS ((c :: r) ++ 13 :: rest) = _
      rw [tokS_stop stop_cr (by decide) (by decide) rest (c :: r) (by simp), g1]
      rfl
def bareK (l : List Tok) : List (Nat × List UInt8) := l.map fun t => (t.kind, t.text)
def textOf (l : List Tok) : List UInt8 := l.flatMap fun t => spelt t.kind t.text ++ sepL
theorem lexAt_sep (pos : Nat) (rest : List UInt8) : lexAt pos (sepL ++ rest) = lexAt (pos + 16) rest := by
  have e : sepL ++ rest = 13 :: 9 :: 37 :: ([32, 97, 32, 39, 99, 111, 109, 109, 101, 110, 116] ++ 10 :: (32 :: rest)) := rfl
  have e2 : (37 :: ([32, 97, 32, 39, 99, 111, 109, 109, 101, 110, 116] ++ 10 :: (32 :: rest)) : List UInt8).takeWhile notNL = [37, 32, 97, 32, 39, 99, 111, 109, 109, 101, 110, 116] := by
    have := takeWhile_stop (p := notNL) (x := 10) (by decide) (32 :: rest) [37, 32, 97, 32, 39, 99, 111, 109, 109, 101, 110, 116]
    exact this.trans (by decide)
  rw [e, lexAt_blank (by decide), lexAt_blank (by decide), lexAt_note, e2]
  show lexAt (pos + 1 + 1 + 12) (10 :: 32 :: rest) = _
  rw [lexAt_blank (by decide), lexAt_blank (by decide)]
theorem lexAt_text : ∀ (l : List Tok), (∀ t, t ∈ l → Told t.kind t.text) → ∀ (tail : List UInt8) (pos : Nat), ∃ m, bareK m = bareK l ∧ lexAt pos (textOf l ++ tail) = (lexAt (pos + (textOf l).length) tail).pre m
  | [], _, tail, pos => ⟨[], rfl, by simp [textOf, Tks.pre_nil]⟩
  | t :: l, h, tail, pos => by
    obtain ⟨c, r, e, h1, h2, h3⟩ := tokS_again (h t (by simp)) ((9 :: 37 :: 32 :: 97 :: 32 :: 39 :: 99 :: 111 :: 109 :: 109 :: 101 :: 110 :: 116 :: 10 :: 32 :: []) ++ (textOf l ++ tail))
    obtain ⟨m, hm, hl⟩ := lexAt_text l (fun x hx => h x (by simp [hx])) tail (pos + (spelt t.kind t.text).length + 16)
    refine ⟨⟨t.kind, t.text, pos⟩ :: m, by simp only [bareK, List.map_cons] at hm ⊢; rw [hm], ?_⟩
    have e1 : textOf (t :: l) ++ tail = spelt t.kind t.text ++ (sepL ++ (textOf l ++ tail)) := by simp [textOf]
    have e2 : sepL ++ (textOf l ++ tail) = 13 :: ((9 :: 37 :: 32 :: 97 :: 32 :: 39 :: 99 :: 111 :: 109 :: 109 :: 101 :: 110 :: 116 :: 10 :: 32 :: []) ++ (textOf l ++ tail)) := rfl
    have e3 : lexAt pos (spelt t.kind t.text ++ (sepL ++ (textOf l ++ tail))) = (lexAt (pos + (spelt t.kind t.text).length) ((spelt t.kind t.text ++ (sepL ++ (textOf l ++ tail))).drop (spelt t.kind t.text).length)).pre [⟨t.kind, t.text, pos⟩] := by
      rw [← e2] at h3
      generalize (spelt t.kind t.text).length = n at *
      rw [e, List.cons_append] at h3 ⊢
      exact lexAt_tok h1 h2 h3
    rw [e1, e3, List.drop_left, lexAt_sep, hl, Tks.pre_pre]
    have e4 : pos + (textOf (t :: l)).length = pos + (spelt t.kind t.text).length + 16 + (textOf l).length := by
      simp only [textOf, List.flatMap_cons, List.length_append, show sepL.length = 16 by rfl]; omega
    rw [e4]; rfl
theorem lexAt_places : ∀ (m : Nat) (s : List UInt8), s.length ≤ m → ∀ pos l, lexAt pos s = .ok l →
    l.Pairwise (fun a b => a.pos < b.pos) ∧ ∀ t, t ∈ l → pos ≤ t.pos ∧ t.pos < pos + s.length ∧ Told t.kind t.text ∧ (t.kind ≠ 2 → t.kind ≠ 4 → t.text <+: s.drop (t.pos - pos)) := by
  intro m
  induction m with
  | zero => intro s hs pos l hl; cases s with | nil => cases hl; simp | cons c r => simp at hs
  | succ m ih =>
    intro s hs pos l hl
    match s, hs, hl with
    | [], _, hl => cases hl; simp
    | c :: r, hs, hl =>
      simp only [List.length_cons] at hs
      by_cases h1 : blankB c = true
      · rw [lexAt_blank h1] at hl
        obtain ⟨g1, g2⟩ := ih r (by omega) _ _ hl
        refine ⟨g1, fun t ht => ?_⟩
        obtain ⟨k1, k2, k3, k4⟩ := g2 t ht
        refine ⟨by omega, by simp only [List.length_cons]; omega, k3, fun q1 q2 => ?_⟩
        have := k4 q1 q2
        rw [show t.pos - pos = (t.pos - (pos + 1)) + 1 by omega, List.drop_succ_cons]; exact this
      · have h1 : blankB c = false := by simpa using h1
        have push : ∀ n, 0 < n → n ≤ (c :: r).length → ∀ (t : Tok), (pos + n ≤ t.pos ∧ t.pos < pos + n + ((c :: r).drop n).length ∧ Told t.kind t.text ∧ (t.kind ≠ 2 → t.kind ≠ 4 → t.text <+: ((c :: r).drop n).drop (t.pos - (pos + n)))) →
            (pos ≤ t.pos ∧ t.pos < pos + (c :: r).length ∧ Told t.kind t.text ∧ (t.kind ≠ 2 → t.kind ≠ 4 → t.text <+: (c :: r).drop (t.pos - pos))) := by
          rintro n hn hnl t ⟨k1, k2, k3, k4⟩
          rw [List.length_drop] at k2
          refine ⟨by omega, by omega, k3, fun q1 q2 => ?_⟩
          have := k4 q1 q2
          rw [List.drop_drop] at this
          rwa [show n + (t.pos - (pos + n)) = t.pos - pos by omega] at this
        by_cases h2 : c = 37
        · subst h2
          have h3 : 0 < (((37 : UInt8) :: r).takeWhile notNL).length := takeWhile_pos r (by decide)
          have h4 := takeWhile_len (p := notNL) ((37 : UInt8) :: r)
          rw [lexAt_note] at hl
          obtain ⟨g1, g2⟩ := ih _ (by rw [List.length_drop, List.length_cons]; omega) _ _ hl
          exact ⟨g1, fun t ht => push _ h3 h4 t (g2 t ht)⟩
        · cases hk : tokS (c :: r) with
          | err e => rw [lexAt_err h1 h2 hk] at hl; cases hl
          | tok k t n =>
            have h0 := tokS_len hk
            have hT := tokS_told hk
            rw [lexAt_tok h1 h2 hk] at hl
            cases hx : lexAt (pos + n) ((c :: r).drop n) with
            | bad e p => rw [hx] at hl; cases hl
            | ok l' =>
              rw [hx] at hl
              cases hl
              obtain ⟨g1, g2⟩ := ih _ (by rw [List.length_drop, List.length_cons]; omega) _ _ hx
              refine ⟨by
                simp only [List.cons_append, List.nil_append]
                exact List.pairwise_cons.2 ⟨fun x hx => by have := (g2 x hx).1; simp only; omega, g1⟩, fun x hx => ?_⟩
              simp only [List.cons_append, List.nil_append, List.mem_cons] at hx
              rcases hx with rfl | hx
              · exact ⟨Nat.le_refl _, by simp only [List.length_cons]; omega, hT.1, fun q1 q2 => by simpa using hT.2 q1 q2⟩
              · exact push n h0.1 h0.2.1 x (g2 x hx)
theorem tokS_err {s : List UInt8} {e : Nat} (h : tokS s = .err e) : e = 200 ∨ e = 201 := by
  unfold tokS at h
  split at h
  · cases h; simp
  split at h
  · split at h <;> cases h
    simp
  split at h
  · split at h <;> cases h
    simp
  split at h
  · split at h
    · cases h; simp
    · split at h <;> cases h
      simp
  split at h
  · split at h
    · cases h
    · split at h <;> cases h
      simp
  split at h <;> cases h
  simp
theorem lexAt_bad : ∀ (m : Nat) (s : List UInt8), s.length ≤ m → ∀ pos e p, lexAt pos s = .bad e p → (e = 200 ∨ e = 201) ∧ pos ≤ p ∧ p < pos + s.length := by
  intro m
  induction m with
  | zero => intro s hs pos e p hl; cases s with | nil => cases hl | cons c r => simp at hs
  | succ m ih =>
    intro s hs pos e p hl
    match s, hs, hl with
    | [], _, hl => cases hl
    | c :: r, hs, hl =>
      simp only [List.length_cons] at hs
      by_cases h1 : blankB c = true
      · rw [lexAt_blank h1] at hl
        have := ih r (by omega) _ _ _ hl
        simp only [List.length_cons]; omega
      · have h1 : blankB c = false := by simpa using h1
        by_cases h2 : c = 37
        · subst h2
          have h3 : 0 < (((37 : UInt8) :: r).takeWhile notNL).length := takeWhile_pos r (by decide)
          have h4 := takeWhile_len (p := notNL) ((37 : UInt8) :: r)
          rw [lexAt_note] at hl
          have := ih _ (by rw [List.length_drop, List.length_cons]; omega) _ _ _ hl
          rw [List.length_drop] at this
          omega
        · cases hk : tokS (c :: r) with
          | err e' =>
            rw [lexAt_err h1 h2 hk] at hl
            injection hl with h5 h6
            subst h5 h6
            exact ⟨tokS_err hk, Nat.le_refl _, by simp⟩
          | tok k t n =>
            have h0 := tokS_len hk
            rw [lexAt_tok h1 h2 hk] at hl
            cases hx : lexAt (pos + n) ((c :: r).drop n) with
            | ok l' => rw [hx] at hl; cases hl
            | bad e' p' =>
              rw [hx] at hl
              injection hl with h5 h6
              subst h5 h6
              have := ih _ (by rw [List.length_drop, List.length_cons]; omega) _ _ _ hx
              rw [List.length_drop] at this
              omega
end
section
open Go
theorem scanT_bad {s : List UInt8} (hs : s.length ≤ 65536) {e p : Nat} (h : scanT s = .bad e p) : (e = 200 ∨ e = 201) ∧ p < s.length := by
  unfold scanT at h
  rw [if_neg (by omega)] at h
  cases hx : lexAt 0 s with
  | ok l => rw [hx] at h; cases h
  | bad e' p' =>
    rw [hx] at h
    injection h with h1 h2
    subst h1 h2
    have := lexAt_bad _ s (Nat.le_refl _) 0 _ _ hx
    omega
theorem scanT_ok {s : List UInt8} {l : List Tok} (h : scanT s = .ok l) : s.length ≤ 65536 ∧ ∃ l0, l = l0 ++ [⟨8, [], s.length⟩] ∧ lexAt 0 s = .ok l0 := by
  unfold scanT at h
  split at h
  · cases h
  · cases hx : lexAt 0 s with
    | bad e' p' => rw [hx] at h; cases h
    | ok l0 =>
      rw [hx] at h
      injection h with h1
      exact ⟨by omega, l0, h1.symm, rfl⟩
structure BackOK (s : List UInt8) (l : List Tok) : Prop where
  up : ∀ (i : Nat) a b, l[i]? = some a → l[i + 1]? = some b → a.pos < b.pos
  le : ∀ t, t ∈ l → t.pos ≤ s.length
  last : ∀ (i : Nat) t, l[i]? = some t → (t.kind = 8 ↔ i + 1 = l.length)
  here : ∀ t, t ∈ l → t.kind ≠ 8 → t.kind ≠ 2 → t.kind ≠ 4 → t.text ≠ [] ∧ t.pos + t.text.length ≤ s.length ∧ (s.drop t.pos).take t.text.length = t.text
  most : ∀ t, t ∈ l → t.kind < 9 ∧ t.text.length ≤ s.length
  pos : 0 < l.length
theorem told_kind {k : Nat} {t : List UInt8} (h : Told k t) : k < 8 ∧ (k ≠ 2 → k ≠ 4 → t ≠ []) := by
  rcases h.what with ⟨hk, _, _, c, r, rfl, _⟩ | ⟨rfl, _, h2, _⟩ | ⟨rfl, _⟩ | ⟨rfl, _⟩ | ⟨rfl, rfl⟩ | ⟨rfl, h1⟩
  · exact ⟨by omega, fun _ _ => by simp⟩
  · exact ⟨by omega, fun _ _ => h2⟩
  · exact ⟨by omega, fun h _ => absurd rfl h⟩
  · exact ⟨by omega, fun _ h => absurd rfl h⟩
  · exact ⟨by omega, fun _ _ => by simp⟩
  · exact ⟨by omega, fun _ _ e => by have := (signs_pos t h1).1; rw [e] at this; simp at this⟩
theorem lexAt_text_le : ∀ (m : Nat) (s : List UInt8), s.length ≤ m → ∀ pos l, lexAt pos s = .ok l → ∀ t, t ∈ l → t.text.length ≤ s.length := by
  intro m
  induction m with
  | zero => intro s hs pos l hl; cases s with | nil => cases hl; simp | cons c r => simp at hs
  | succ m ih =>
    intro s hs pos l hl t ht
    match s, hs, hl with
    | [], _, hl => cases hl; simp at ht
    | c :: r, hs, hl =>
      simp only [List.length_cons] at hs
      by_cases h1 : blankB c = true
      · rw [lexAt_blank h1] at hl
        have := ih r (by omega) _ _ hl t ht
        simp only [List.length_cons]; omega
      · have h1 : blankB c = false := by simpa using h1
        by_cases h2 : c = 37
        · subst h2
          have h3 : 0 < (((37 : UInt8) :: r).takeWhile notNL).length := takeWhile_pos r (by decide)
          rw [lexAt_note] at hl
          have := ih _ (by rw [List.length_drop, List.length_cons]; omega) _ _ hl t ht
          rw [List.length_drop] at this; omega
        · cases hk : tokS (c :: r) with
          | err e => rw [lexAt_err h1 h2 hk] at hl; cases hl
          | tok k u n =>
            have h0 := tokS_len hk
            rw [lexAt_tok h1 h2 hk] at hl
            cases hx : lexAt (pos + n) ((c :: r).drop n) with
            | bad e p => rw [hx] at hl; cases hl
            | ok l' =>
              rw [hx] at hl
              cases hl
              simp only [List.cons_append, List.nil_append, List.mem_cons] at ht
              rcases ht with rfl | ht
              · simp only; omega
              · have := ih _ (by rw [List.length_drop, List.length_cons]; omega) _ _ hx t ht
                rw [List.length_drop] at this; omega
theorem lexAt_len : ∀ (m : Nat) (s : List UInt8), s.length ≤ m → ∀ pos l, lexAt pos s = .ok l → l.length ≤ s.length := by
  intro m
  induction m with
  | zero => intro s hs pos l hl; cases s with | nil => cases hl; simp | cons c r => simp at hs
  | succ m ih =>
    intro s hs pos l hl
    match s, hs, hl with
    | [], _, hl => cases hl; simp
    | c :: r, hs, hl =>
      simp only [List.length_cons] at hs
      by_cases h1 : blankB c = true
      · rw [lexAt_blank h1] at hl
        have := ih r (by omega) _ _ hl
        simp only [List.length_cons]; omega
      · have h1 : blankB c = false := by simpa using h1
        by_cases h2 : c = 37
        · subst h2
          have h3 : 0 < (((37 : UInt8) :: r).takeWhile notNL).length := takeWhile_pos r (by decide)
          rw [lexAt_note] at hl
          have := ih _ (by rw [List.length_drop, List.length_cons]; omega) _ _ hl
          rw [List.length_drop] at this; omega
        · cases hk : tokS (c :: r) with
          | err e => rw [lexAt_err h1 h2 hk] at hl; cases hl
          | tok k u n =>
            have h0 := tokS_len hk
            rw [lexAt_tok h1 h2 hk] at hl
            cases hx : lexAt (pos + n) ((c :: r).drop n) with
            | bad e p => rw [hx] at hl; cases hl
            | ok l' =>
              rw [hx] at hl
              cases hl
              have := ih _ (by rw [List.length_drop, List.length_cons]; omega) _ _ hx
              rw [List.length_drop] at this
              simp only [List.length_append, List.length_singleton]; omega
theorem scan_back {s : List UInt8} {l : List Tok} (h : scanT s = .ok l) : BackOK s l ∧ ((textOf l).length ≤ 60000 → ∃ m, scanT (textOf l) = .ok m ∧ bareK m = bareK l) := by
  obtain ⟨hs, l0, rfl, hl⟩ := scanT_ok h
  obtain ⟨h1, h2⟩ := lexAt_places _ s (Nat.le_refl _) 0 l0 hl
  have h3 := lexAt_text_le _ s (Nat.le_refl _) 0 l0 hl
  refine ⟨⟨fun i a b ha hb => ?_, fun t ht => ?_, fun i t hi => ?_, fun t ht k8 k2 k4 => ?_, fun t ht => ?_, by simp⟩, fun hlen => ?_⟩
  · have hp : List.Pairwise (fun (a b : Tok) => a.pos < b.pos) (l0 ++ [⟨8, [], s.length⟩]) := by
      rw [List.pairwise_append]
      refine ⟨h1, by simp, fun a ha b hb => ?_⟩
      simp only [List.mem_singleton] at hb
      subst hb
      have := (h2 a ha).2.1
      simp only; omega
    obtain ⟨q1, q2⟩ := List.getElem?_eq_some_iff.1 ha
    obtain ⟨q3, q4⟩ := List.getElem?_eq_some_iff.1 hb
    have := List.pairwise_iff_getElem.1 hp i (i + 1) q1 q3 (by omega)
    rwa [q2, q4] at this
  · rcases List.mem_append.1 ht with ht | ht
    · have := (h2 t ht).2.1; omega
    · simp only [List.mem_singleton] at ht; subst ht; exact Nat.le_refl _
  · rw [List.length_append, List.length_singleton]
    by_cases hi2 : i < l0.length
    · rw [List.getElem?_append_left hi2] at hi
      have := (told_kind (h2 t (List.mem_of_getElem? hi)).2.2.1).1
      constructor <;> intro h <;> omega
    · rw [List.getElem?_append_right (by omega)] at hi
      have hj : i - l0.length = 0 := by
        have := (List.getElem?_eq_some_iff.1 hi).1
        simp at this; omega
      rw [hj] at hi
      simp only [List.getElem?_cons_zero, Option.some.injEq] at hi
      subst hi
      constructor
      · intro _; omega
      · intro _; rfl
  · rcases List.mem_append.1 ht with ht | ht
    · obtain ⟨q1, q2, q3, q4⟩ := h2 t ht
      have q5 := q4 k2 k4
      simp only [Nat.sub_zero, Nat.zero_add] at q5 q2
      have q6 := q5.length_le
      rw [List.length_drop] at q6
      exact ⟨(told_kind q3).2 k2 k4, by omega, (List.prefix_iff_eq_take.1 q5).symm⟩
    · simp only [List.mem_singleton] at ht; subst ht; exact absurd rfl k8
  · rcases List.mem_append.1 ht with ht | ht
    · exact ⟨by have := (told_kind (h2 t ht).2.2.1).1; omega, h3 t ht⟩
    · simp only [List.mem_singleton] at ht; subst ht; simp
  · have e : textOf (l0 ++ [⟨8, [], s.length⟩]) = textOf l0 ++ (sepL ++ []) := by simp [textOf, spelt]
    obtain ⟨m, hm, hlx⟩ := lexAt_text l0 (fun t ht => (h2 t ht).2.2.1) (sepL ++ []) 0
    rw [lexAt_sep, lexAt_nil] at hlx
    refine ⟨m ++ [⟨8, [], (textOf (l0 ++ [⟨8, [], s.length⟩])).length⟩], ?_, ?_⟩
    · unfold scanT
      rw [if_neg (by omega), e, hlx]
      simp [Tks.pre]
    · unfold bareK at hm ⊢
      rw [List.map_append, List.map_append, hm]
      rfl
end
set_option maxRecDepth 20000
section
def tbScnG := And.intro (And.intro (And.intro @tf3 (And.intro @tf4 @tf5)) (And.intro (And.intro @tf9 @tf39) (And.intro @tf31 @tf29))) (And.intro (And.intro @tf24 (And.intro @tf46 @tf52)) (And.intro (And.intro @tf26 @tf23) (And.intro @ares_tmpc @ares_cellc)))
variable {G : Nat → AV}
theorem tfT : aelt Tryd.prog 23 = some (31, 3, 32) := tf23.2.2.2.2.2.2
theorem tfTE : el Tryd.prog 23 = some 31 := tf23.2.2.2.1
def flt (e p : Nat) : AV := .agg [.int .i64 (e : Nat), .int .i64 (p : Nat)]
def TokRes (σ : AS) (x : Tks) (r : AV) (σ' : AS) : Prop := match x with
  | .ok l => ∃ b, r = .tup [.bs b l.length 3 31, flt 0 0] ∧ σ.le σ' ∧ σ.box b = none ∧ σ.tip b = none ∧ σ'.box b = some ((l.map Tok.enc).flatMap flat)
  | .bad e p => r = .tup [.nil, flt e p] ∧ σ.le σ'
theorem tok_ok {l : List Tok} : ∀ a, a ∈ l.map Tok.enc → (flat a).length = 3 ∧ isv a = true := fun a ha => by
  obtain ⟨x, _, rfl⟩ := List.mem_map.1 ha
  exact ⟨x.len_flat, x.isv_enc⟩
theorem pre_ok {x : Tks} {L l : List Tok} (h : x = (Tks.ok l).pre L) : x = .ok (L ++ l) := h
set_option maxHeartbeats 2000000 in
theorem tokens_long (s : List UInt8) (hs : 65536 < s.length) (hm : s.length ≤ 1000000000) (σ : AS) : Tri Tryd.prog G 6 [.str s] σ (TokRes σ (scanT s)) := by
  have hx : scanT s = .bad 3 0 := if_pos hs
  rw [hx]
  have h1 : ((65536 : Int) < s.length) = True := eq_true (by omega)
  clear hx hs hm
  refine Tri.of_awp mixed Tryd.func6 rfl (by kernel_rfl) (by kernel_rfl) (by simp [Tryd.ntmps6]) Tryd.results6 ?_
  simp -dsimp only [↓bp, bq, br, seval, tbScnG]
  refine newT_plain fun b2 h2 => ?_
  repeat' (first | refine xs ?_ ?_ <;> intros | ((first | refine xh ?_ | refine xi ?_); intro bx hbx; (try simp only [fb] at hbx)) | refine xj ?_ | refine cv_plain ?_ | ((with_reducible refine And.intro ?_ ?_); omega) | refine bo_buildSlice (d' := ⟨⟩) ?_ | refine xk (by kernel_rfl) ?_ | refine xf ?_ (by repeat' first | exact lr _ | assumption | refine ls ?_ ?_ | refine lt ?_ ?_ | simp only [*]; done | simp only [fb, *, not_false_eq_true, and_self]; done | exact lf ‹_› (by simp only [*])) | refine finish_two ?_ (by repeat' first | exact lr _ | assumption | refine ls ?_ ?_ | refine lt ?_ ?_ | simp only [*]; done | simp only [fb, *, not_false_eq_true, and_self]; done | exact lf ‹_› (by simp only [*])) | simp -dsimp only [↓bp, bq, br, seval, tbScnG, *] | refine cv_any ?_)
  exact finishW_some _ (AS.le.refl _) ⟨rfl, by repeat' first | exact lr _ | assumption | refine ls ?_ ?_ | refine lt ?_ ?_ | simp only [*]; done | simp only [fb, *, not_false_eq_true, and_self]; done | exact lf ‹_› (by simp only [*])⟩
theorem wb_notRow {n : Nat} {E : TypeId} {σ0 σ : AS} {v : AV} {xs z : List AV} {c : Nat} (h : WBuf n E σ0 σ v xs) (hc : σ0.box c = some z) : notRow v c := by
  cases h with
  | nil _ => trivial
  | row r xs h h0 h1 hbx hx => intro e; rw [← e, hc] at h0; cases h0
set_option maxHeartbeats 4000000 in
theorem tokens_short (hg : GlobS G) (s : List UInt8) (hs : s.length ≤ 65536) (σ : AS) : Tri Tryd.prog G 6 [.str s] σ (TokRes σ (scanT s)) := by
  have hx : scanT s = match lexAt 0 s with
    | .ok l => .ok (l ++ [⟨8, [], s.length⟩])
    | .bad e p => .bad e p := if_neg (by omega)
  have htk := fun i (h0 : s.drop i ≠ []) => stoken_pure hg (s.drop i) h0 (by rw [List.length_drop]; omega)
  have hib : ∀ i, Pure Tryd.prog G 14 [.str (s.drop i), .int .u8 10] (.int .i64 (if ((s.drop i).takeWhile notNL).length < (s.drop i).length then (((s.drop i).takeWhile notNL).length : Int) else -1)) := fun i => by
    have := indexByte_pure G (s.drop i) 10
    rwa [indexByte_nl] at this
  have h1 : ((65536 : Int) < s.length) = False := eq_false (by omega)
  obtain ⟨X, hX⟩ : ∃ X, X = lexAt 0 s := ⟨_, rfl⟩
  rw [← hX] at hx
  rw [hx]
  clear hx hg
  refine Tri.of_awp mixed Tryd.func6 rfl (by kernel_rfl) (by kernel_rfl) (by simp [Tryd.ntmps6]) Tryd.results6 ?_
  simp -dsimp only [↓bp, bq, br, seval, tbScnG]
  refine newT_plain fun b2 h2 => ?_
  obtain ⟨σa, hσa⟩ : ∃ σa, σa = σ.setBox b2 [.int .i64 0, .int .i64 0] := ⟨_, rfl⟩
  have hla : σ.le σa := by rw [hσa]; exact (AS.le.refl σ).setBox h2.1 _
  have ha : σa.box b2 = some [.int .i64 0, .int .i64 0] := by rw [hσa]; simp [AS.setBox]
  rw [← hσa]
  clear hσa
  repeat' (first | refine xs ?_ ?_ <;> intros | ((first | refine xh ?_ | refine xi ?_); intro bx hbx; (try simp only [fb] at hbx)) | refine xj ?_ | refine cv_plain ?_ | ((with_reducible refine And.intro ?_ ?_); omega) | refine bo_buildSlice (d' := ⟨⟩) ?_ | refine xk (by kernel_rfl) ?_ | refine xf ?_ (by repeat' first | exact lr _ | assumption | refine ls ?_ ?_ | refine lt ?_ ?_ | simp only [*]; done | simp only [fb, *, not_false_eq_true, and_self]; done | exact lf ‹_› (by simp only [*])) | refine finish_two ?_ (by repeat' first | exact lr _ | assumption | refine ls ?_ ?_ | refine lt ?_ ?_ | simp only [*]; done | simp only [fb, *, not_false_eq_true, and_self]; done | exact lf ‹_› (by simp only [*])) | simp -dsimp only [↓bp, bq, br, seval, tbScnG, *] | refine cv_any ?_)
  refine loop_intro (fun n e σ' => ∃ (i : Nat) (v : AV) (L : List Tok), i ≤ s.length ∧ L.length ≤ i ∧ n = s.length - i ∧ e 5 = .int .i64 i ∧ e 4 = v ∧ WBuf 3 31 σa σ' v (L.map Tok.enc) ∧ X = (lexAt i (s.drop i)).pre L) s.length
    ⟨0, .nil, [], by omega, by simp, by omega, by first | (simp -dsimp only [↓bp, bq, br, seval, tbScnG]; done) | (simp -dsimp only [↓bp, bq, br, seval, tbScnG]; try rfl), by first | (simp -dsimp only [↓bp, bq, br, seval, tbScnG]; done) | (simp -dsimp only [↓bp, bq, br, seval, tbScnG]; try rfl), .nil (AS.le.refl _), by rw [List.drop_zero, hX, Tks.pre_nil]⟩ ?_
  clear hX
  rintro n e σ2 ⟨i, v, L, hi, hLi, rfl, h5, h4, hB, hX⟩
  simp -dsimp only [↓bp, bq, br, seval, tbScnG] at h5 h4
  have hb2 := hB.le.box _ _ ha
  have hle2 := hla.trans hB.le
  have hLl : (L.map Tok.enc).length ≤ 65536 := by rw [List.length_map]; omega
  by_cases hlt : (i : Int) < s.length
  · obtain ⟨c, hc⟩ : ∃ c, s[i]? = some c := ⟨_, List.getElem?_eq_getElem (by omega)⟩
    have hdr := drop_get _ _ _ hc
    have hlt' := eq_true hlt
    have h0i : (0 : Int) ≤ i := by omega
    by_cases hbl : blankB c = true
    · rw [hdr, lexAt_blank hbl] at hX
      have hw : IntKind.i64.wrap ((i : Int) + 1) = ((i + 1 : Nat) : Int) := by rw [wrap_nat (by omega) (by omega)]; rfl
      have key : ∀ k : UInt8, (c = k) → (c.toNat : Int) = k.toNat := fun k h => by rw [h]
      have hcases : ((c.toNat : Int) = 32) = True ∨ ((c.toNat : Int) = 32) = False ∧ ((c.toNat : Int) = 9) = True ∨ ((c.toNat : Int) = 32) = False ∧ ((c.toNat : Int) = 9) = False ∧ ((c.toNat : Int) = 13) = True ∨ ((c.toNat : Int) = 32) = False ∧ ((c.toNat : Int) = 9) = False ∧ ((c.toNat : Int) = 13) = False ∧ ((c.toNat : Int) = 10) = True := by
        unfold blankB at hbl
        simp only [Bool.or_eq_true, decide_eq_true_eq] at hbl
        rcases hbl with ((rfl | rfl) | rfl) | rfl
        · exact .inl (by decide)
        · exact .inr (.inl (by decide))
        · exact .inr (.inr (.inl (by decide)))
        · exact .inr (.inr (.inr (by decide)))
      clear hbl key htk hib hlt hdr
      rcases hcases with q1 | ⟨q1, q2⟩ | ⟨q1, q2, q3⟩ | ⟨q1, q2, q3, q4⟩
      all_goals
        repeat' (first | refine xs ?_ ?_ <;> intros | ((first | refine xh ?_ | refine xi ?_); intro bx hbx; (try simp only [fb] at hbx)) | refine xj ?_ | refine cv_plain ?_ | ((with_reducible refine And.intro ?_ ?_); omega) | refine bo_buildSlice (d' := ⟨⟩) ?_ | refine xk (by kernel_rfl) ?_ | refine xf ?_ (by repeat' first | exact lr _ | assumption | refine ls ?_ ?_ | refine lt ?_ ?_ | simp only [*]; done | simp only [fb, *, not_false_eq_true, and_self]; done | exact lf ‹_› (by simp only [*])) | refine finish_two ?_ (by repeat' first | exact lr _ | assumption | refine ls ?_ ?_ | refine lt ?_ ?_ | simp only [*]; done | simp only [fb, *, not_false_eq_true, and_self]; done | exact lf ‹_› (by simp only [*])) | simp -dsimp only [↓bp, bq, br, seval, tbScnG, *] | refine cv_any ?_)
        all_goals (have hlt := of_eq_true hlt')
        all_goals exact ⟨s.length - (i + 1), by omega, i + 1, v, L, by omega, by omega, by omega, rfl, rfl, hB, rfl⟩
    · have hbl : blankB c = false := by simpa using hbl
      have q : ((c.toNat : Int) = 32) = False ∧ ((c.toNat : Int) = 9) = False ∧ ((c.toNat : Int) = 13) = False ∧ ((c.toNat : Int) = 10) = False := by
        have h2 := u8_all (p := fun c => blankB c || (!decide ((c.toNat : Int) = 32) && !decide ((c.toNat : Int) = 9) && !decide ((c.toNat : Int) = 13) && !decide ((c.toNat : Int) = 10))) (by decide +kernel) c
        rw [hbl] at h2
        simp only [Bool.false_or, Bool.and_eq_true, Bool.not_eq_true', decide_eq_false_iff_not] at h2
        obtain ⟨⟨⟨q1, q2⟩, q3⟩, q4⟩ := h2
        exact ⟨eq_false q1, eq_false q2, eq_false q3, eq_false q4⟩
      obtain ⟨q1, q2, q3, q4⟩ := q
      by_cases h37 : c = 37
      · subst h37
        have hn := @lexAt_note i (s.drop (i + 1))
        rw [← hdr] at hn
        rw [hn] at hX
        have hib := hib i
        have hT1 := takeWhile_len (p := notNL) (s.drop i)
        have hT0 : 0 < ((s.drop i).takeWhile notNL).length := by rw [hdr]; exact takeWhile_pos _ (by decide)
        rw [List.length_drop] at hib hT1
        rw [List.drop_drop] at hX
        have n37 : (((37 : UInt8).toNat : Int) = 37) = True := eq_true rfl
        generalize ((s.drop i).takeWhile notNL).length = T at *
        by_cases hT : T < s.length - i
        · rw [if_pos hT] at hib
          have hT' : ((0 : Int) ≤ (T : Int)) = True := eq_true (by omega)
          have hw : IntKind.i64.wrap ((i : Int) + (T : Int)) = ((i + T : Nat) : Int) := by rw [wrap_nat (by omega) (by omega)]; omega
          clear htk hlt hdr hn hbl q1 q2 q3 q4 n37
          repeat' (first | refine xs ?_ ?_ <;> intros | ((first | refine xh ?_ | refine xi ?_); intro bx hbx; (try simp only [fb] at hbx)) | refine Pure.use (hib) ?_ | refine Pure.head (hib) ?_ | refine xj ?_ | refine cv_plain ?_ | ((with_reducible refine And.intro ?_ ?_); omega) | refine bo_buildSlice (d' := ⟨⟩) ?_ | refine xk (by kernel_rfl) ?_ | refine xf ?_ (by repeat' first | exact lr _ | assumption | refine ls ?_ ?_ | refine lt ?_ ?_ | simp only [*]; done | simp only [fb, *, not_false_eq_true, and_self]; done | exact lf ‹_› (by simp only [*])) | refine finish_two ?_ (by repeat' first | exact lr _ | assumption | refine ls ?_ ?_ | refine lt ?_ ?_ | simp only [*]; done | simp only [fb, *, not_false_eq_true, and_self]; done | exact lf ‹_› (by simp only [*])) | simp -dsimp only [↓bp, bq, br, seval, tbScnG, *] | refine cv_any ?_)
          all_goals (have hlt := of_eq_true hlt')
          all_goals exact ⟨s.length - (i + T), by omega, i + T, v, L, by omega, by omega, by omega, rfl, rfl, hB, rfl⟩
        · rw [if_neg hT] at hib
          have hTe : i + T = s.length := by omega
          rw [hTe] at hX
          clear htk hlt hdr hn hbl hT q1 q2 q3 q4 n37
          repeat' (first | refine xs ?_ ?_ <;> intros | ((first | refine xh ?_ | refine xi ?_); intro bx hbx; (try simp only [fb] at hbx)) | refine Pure.use (hib) ?_ | refine Pure.head (hib) ?_ | refine xj ?_ | refine cv_plain ?_ | ((with_reducible refine And.intro ?_ ?_); omega) | refine bo_buildSlice (d' := ⟨⟩) ?_ | refine xk (by kernel_rfl) ?_ | refine xf ?_ (by repeat' first | exact lr _ | assumption | refine ls ?_ ?_ | refine lt ?_ ?_ | simp only [*]; done | simp only [fb, *, not_false_eq_true, and_self]; done | exact lf ‹_› (by simp only [*])) | refine finish_two ?_ (by repeat' first | exact lr _ | assumption | refine ls ?_ ?_ | refine lt ?_ ?_ | simp only [*]; done | simp only [fb, *, not_false_eq_true, and_self]; done | exact lf ‹_› (by simp only [*])) | simp -dsimp only [↓bp, bq, br, seval, tbScnG, *] | refine cv_any ?_)
          all_goals (have hlt := of_eq_true hlt')
          all_goals exact ⟨s.length - s.length, by omega, s.length, v, L, by omega, by omega, by omega, rfl, rfl, hB, rfl⟩
      · have n37 : ((c.toNat : Int) = 37) = False := eq_false fun h => h37 (UInt8.toNat_inj.1 (show c.toNat = (37 : UInt8).toNat by rw [show (37 : UInt8).toNat = 37 from rfl]; omega))
        have htk := htk i (by rw [hdr]; simp)
        cases hk : tokS (s.drop i) with
        | err e =>
          rw [hk] at htk
          have he := tokS_err hk
          have he0 : ((e : Int) = 0) = False := eq_false (by omega)
          rw [hdr] at hk hX
          rw [lexAt_err hbl h37 hk] at hX
          replace hX : X = .bad e i := hX
          subst hX
          simp only
          unfold tkV at htk
          clear hib hlt hdr hbl hk h37 he hB
          repeat' (first | refine xs ?_ ?_ <;> intros | ((first | refine xh ?_ | refine xi ?_); intro bx hbx; (try simp only [fb] at hbx); try (have nn := fresh_ne (c := bx) hb2 (by simp only [hbx]))) | refine Pure.use (htk) ?_ | refine Pure.head (htk) ?_ | refine xj ?_ | refine cv_plain ?_ | ((with_reducible refine And.intro ?_ ?_); omega) | refine bo_buildSlice (d' := ⟨⟩) ?_ | refine xk (by kernel_rfl) ?_ | refine xf ?_ (by repeat' first | exact lr _ | assumption | refine ls ?_ ?_ | refine lt ?_ ?_ | simp only [*]; done | simp only [fb, *, not_false_eq_true, and_self]; done | exact lf ‹_› (by simp only [*])) | refine finish_two ?_ (by repeat' first | exact lr _ | assumption | refine ls ?_ ?_ | refine lt ?_ ?_ | simp only [*]; done | simp only [fb, *, not_false_eq_true, and_self]; done | exact lf ‹_› (by simp only [*])) | simp -dsimp only [↓bp, bq, br, seval, tbScnG, *] | refine cv_any ?_)
          all_goals exact finishW_some _ (AS.le.refl _) ⟨rfl, by repeat' first | exact lr _ | assumption | refine ls ?_ ?_ | refine lt ?_ ?_ | simp only [*]; done | simp only [fb, *, not_false_eq_true, and_self]; done | exact lf ‹_› (by simp only [*])⟩
        | tok k t n =>
          rw [hk] at htk
          have hn0 := tokS_len hk
          rw [List.length_drop] at hn0
          rw [hdr] at hk
          have hX2 := hX
          rw [hdr, lexAt_tok hbl h37 hk, ← hdr, List.drop_drop, Tks.pre_pre] at hX2
          unfold tkV at htk
          have hw : IntKind.i64.wrap ((i : Int) + (n : Int)) = ((i + n : Nat) : Int) := by rw [wrap_nat (by omega) (by omega)]; omega
          clear hX hib hlt hdr hbl hk h37
          have hX := hX2
          clear hX2
          repeat' (first | refine xs ?_ ?_ <;> intros | ((first | refine xh ?_ | refine xi ?_); intro bx hbx; (try simp only [fb] at hbx); try (have nn := fresh_ne (c := bx) hb2 (by simp only [hbx]))) | refine Pure.use (htk) ?_ | refine Pure.head (htk) ?_ | ((refine build_one tfT (a := (⟨k, t, i⟩ : Tok).enc) (Tok.isv_enc _) (Tok.len_flat _) (by omega) ?_)) | ((refine app_wb (ys := [(⟨k, t, i⟩ : Tok).enc]) (hB.newBox (by first | assumption | (simp only [*]; done)) _).1 tfT (asrc_sl tfTE) (fun a ha => by simp at ha; subst ha; exact ⟨Tok.len_flat _, Tok.isv_enc _⟩) (by simp only [List.length_cons, List.length_nil]; omega) (fun v3 σ3 hA => ?_); have hb3 := hA.buf.le.box _ _ ha; have hB3 := hA.buf; clear hA)) | refine xj ?_ | refine cv_plain ?_ | ((with_reducible refine And.intro ?_ ?_); omega) | refine bo_buildSlice (d' := ⟨⟩) ?_ | refine xk (by kernel_rfl) ?_ | refine xf ?_ (by repeat' first | exact lr _ | assumption | refine ls ?_ ?_ | refine lt ?_ ?_ | simp only [*]; done | simp only [fb, *, not_false_eq_true, and_self]; done | exact lf ‹_› (by simp only [*])) | refine finish_two ?_ (by repeat' first | exact lr _ | assumption | refine ls ?_ ?_ | refine lt ?_ ?_ | simp only [*]; done | simp only [fb, *, not_false_eq_true, and_self]; done | exact lf ‹_› (by simp only [*])) | simp -dsimp only [↓bp, bq, br, seval, tbScnG, *] | refine cv_any ?_)
          all_goals (have hlt := of_eq_true hlt')
          all_goals exact ⟨s.length - (i + n), by omega, i + n, v3, L ++ [⟨k, t, i⟩], by omega, by rw [List.length_append, List.length_singleton]; omega, by omega, rfl, rfl, by rw [List.map_append]; exact hB3, rfl⟩
  · have : i = s.length := by omega
    subst this
    rw [List.drop_length, lexAt_nil] at hX
    have hlt' := eq_false hlt
    have hX := pre_ok hX
    rw [List.append_nil] at hX
    subst hX
    simp only
    clear htk hib hlt
    repeat' (first | refine xs ?_ ?_ <;> intros | ((first | refine xh ?_ | refine xi ?_); intro bx hbx; (try simp only [fb] at hbx)) | ((refine build_one tfT (a := (⟨8, [], s.length⟩ : Tok).enc) (Tok.isv_enc _) (Tok.len_flat _) (by omega) ?_)) | ((refine app_wb (ys := [(⟨8, [], s.length⟩ : Tok).enc]) hB tfT (asrc_sl tfTE) (fun a ha => by simp at ha; subst ha; exact ⟨Tok.len_flat _, Tok.isv_enc _⟩) (by simp only [List.length_cons, List.length_nil]; omega) (fun v3 σ3 hA => ?_); have hb3 := hA.buf.le.box _ _ ha; have hB3 := hA.buf; rw [← List.map_singleton, ← List.map_append] at hB3; have hn3 := wb_notRow hB3 ha; obtain ⟨rr, hrr, g1, g2, g3⟩ := hB3.form (by simp); have hle3 := hla.trans hB3.le; clear hA hB3; subst hrr; rw [List.length_map] at hn3 ⊢)) | refine xj ?_ | refine cv_plain ?_ | ((with_reducible refine And.intro ?_ ?_); omega) | refine bo_buildSlice (d' := ⟨⟩) ?_ | refine xk (by kernel_rfl) ?_ | refine xf ?_ (by repeat' first | exact lr _ | assumption | refine ls ?_ ?_ | refine lt ?_ ?_ | simp only [*]; done | simp only [fb, *, not_false_eq_true, and_self]; done | exact lf ‹_› (by simp only [*])) | refine finish_two ?_ (by repeat' first | exact lr _ | assumption | refine ls ?_ ?_ | refine lt ?_ ?_ | simp only [*]; done | simp only [fb, *, not_false_eq_true, and_self]; done | exact lf ‹_› (by simp only [*])) | simp -dsimp only [↓bp, bq, br, seval, tbScnG, *] | refine cv_any ?_)
    exact finishW_some _ (AS.le.refl _) ⟨rr, rfl, by repeat' first | exact lr _ | assumption | refine ls ?_ ?_ | refine lt ?_ ?_ | simp only [*]; done | simp only [fb, *, not_false_eq_true, and_self]; done | exact lf ‹_› (by simp only [*]), hla.noBox g2, hla.noTip g3, by simp only [AS.setBox, if_neg (Ne.symm hn3)]; exact g1⟩
end
end Go.Proofs.YtldmniappliepaaDoor
