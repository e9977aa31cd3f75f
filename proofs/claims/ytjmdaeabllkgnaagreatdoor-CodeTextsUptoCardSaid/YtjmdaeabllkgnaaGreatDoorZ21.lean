/- The text of an instruction, plainly: of right ones it tells which they are. -/
import Derived.Test.YtjmdaeabllkgnaaGreatDoorZ20
import Derived.Test.YtjmdaeabllkgnaaGreatDoorZ10
import Derived.ProofKit
import Derived.OpenShut
import Derived.Deep.DeepHandedRow
set_option linter.unusedVariables false
set_option linter.unusedSimpArgs false
namespace Go.Proofs.YtjmdaeabllkgnaaGreatDoor
open Go Go.Av
def atomTm (s : List UInt8) : Term := .mk 2 false [] s 0 [] []
theorem itoa_no32 (n : Int) : ∀ c, c ∈ itoa n → c ≠ 32 := by
  intro c hc
  unfold itoa at hc
  rcases List.mem_append.1 hc with h | h
  · split at h
    · simp at h; subst h; decide
    · cases h
  · have := decT_dig _ c h
    unfold digC at this
    intro e; subst e
    have : (32 : UInt8).toNat = 32 := rfl
    omega
theorem itoa_inj {m n : Int} (h : itoa m = itoa n) : m = n := by
  have nd : ∀ k : Nat, ∀ c l, decT k = c :: l → c ≠ 45 := fun k c l e h => by
    have := decT_dig k c (by rw [e]; simp)
    subst h
    unfold digC at this
    have : (45 : UInt8).toNat = 45 := rfl
    omega
  unfold itoa at h
  by_cases h1 : m < 0 <;> by_cases h2 : n < 0
  · rw [if_pos h1, if_pos h2] at h
    simp only [List.cons_append, List.nil_append, List.cons.injEq, true_and] at h
    have := decT_inj h
    omega
  · rw [if_pos h1, if_neg h2] at h
    simp only [List.cons_append, List.nil_append] at h
    exact absurd rfl (nd _ _ _ h.symm)
  · rw [if_neg h1, if_pos h2] at h
    simp only [List.cons_append, List.nil_append] at h
    exact absurd rfl (nd _ _ _ h)
  · rw [if_neg h1, if_neg h2] at h
    simp only [List.nil_append] at h
    have := decT_inj h
    omega
theorem right_atom (s : List UInt8) (h : s.length ≤ 40) : right (atomTm s) = true := by
  have hh : head (atomTm s) = (1, 0, bare (atomTm s) true false false false && decide ((s.length : Int) ≤ 40)) := rfl
  have hb : bare (atomTm s) true false false false = true := rfl
  have hl : decide ((s.length : Int) ≤ 40) = true := decide_eq_true (by omega)
  unfold right
  rw [size_eq, hh, hb, hl]
  rfl
theorem atomT_inj0 {s t : List UInt8} (h : atomT s = atomT t) : s = t :=
  (atomT_inj (x := []) (y := []) (fun c l e => by cases e) (fun c l e => by cases e) (by simpa using h)).1
def nI (c : UInt8) (n : Int) : List UInt8 := 32 :: c :: itoa n
def slotsX : List Int → List UInt8
  | [] => [41]
  | n :: l => 32 :: 115 :: (itoa n ++ slotsX l)
def slotsT : List Int → List UInt8
  | [] => [32, 40, 41]
  | n :: l => 32 :: 40 :: 115 :: (itoa n ++ slotsX l)
def pieceT (i : Ins) (f : UInt8) : List UInt8 :=
  if f = 97 then nI 115 i.a else if f = 98 then nI 115 i.b else if f = 99 then nI 115 i.c
  else if f = 107 ∨ f = 102 ∨ f = 110 then nI 35 i.n
  else if f = 116 then 32 :: text (atomTm i.text)
  else if f = 115 then slotsT i.slots else if f = 108 then nI 64 i.l else []
def textOf (i : Ins) : List UInt8 := if (shpOf i.op).word = [] then [63] else (shpOf i.op).word ++ (shpOf i.op).fields.flatMap (pieceT i)
def slotsK : List UInt8 → List Int → List (List UInt8)
  | p, [] => [p ++ [41]]
  | p, n :: l => p :: slotsK (115 :: itoa n) l
def tokK (i : Ins) (f : UInt8) : List (List UInt8) :=
  if f = 97 then [115 :: itoa i.a] else if f = 98 then [115 :: itoa i.b] else if f = 99 then [115 :: itoa i.c]
  else if f = 107 ∨ f = 102 ∨ f = 110 then [35 :: itoa i.n]
  else if f = 116 then [text (atomTm i.text)]
  else if f = 115 then (match i.slots with | [] => [[40, 41]] | n :: l => slotsK (40 :: 115 :: itoa n) l) else if f = 108 then [64 :: itoa i.l] else []
def glue (l : List (List UInt8)) : List UInt8 := l.flatMap fun t => 32 :: t
theorem glue_append (a b : List (List UInt8)) : glue (a ++ b) = glue a ++ glue b := by simp [glue]
theorem slotsK_glue : ∀ (l : List Int) (p : List UInt8), glue (slotsK p l) = 32 :: (p ++ slotsX l)
  | [], p => by simp [slotsK, glue, slotsX]
  | n :: l, p => by
    have := slotsK_glue l (115 :: itoa n)
    simp only [slotsK, slotsX]
    show 32 :: p ++ glue (slotsK (115 :: itoa n) l) = _
    rw [this]; simp
theorem piece_glue (i : Ins) (f : UInt8) : pieceT i f = glue (tokK i f) := by
  unfold pieceT tokK
  repeat' split
  all_goals first | rfl | (simp [glue, nI]; done) | skip
  · rename_i h; rw [h]; simp [slotsT, glue]
  · rename_i n l h; rw [h, slotsK_glue]; simp [slotsT]
theorem pieces_glue (i : Ins) (fs : List UInt8) : fs.flatMap (pieceT i) = glue (fs.flatMap (tokK i)) := by
  induction fs with
  | nil => rfl
  | cons f fs ih => simp only [List.flatMap_cons, glue_append, ih, piece_glue]
theorem glue_inj : ∀ (a b : List (List UInt8)), a.all free32 = true → b.all free32 = true → glue a = glue b → a = b
  | [], [], _, _, _ => rfl
  | [], y :: b, _, _, h => by simp [glue] at h
  | x :: a, [], _, _, h => by simp [glue] at h
  | x :: a, y :: b, ha, hb, h => by
    simp only [List.all_cons, Bool.and_eq_true] at ha hb
    have h : x ++ glue a = y ++ glue b := by
      have : 32 :: x ++ glue a = 32 :: y ++ glue b := h
      simpa using this
    have e : x = y ∧ glue a = glue b := by
      rcases a with _ | ⟨u, a⟩
      · rcases b with _ | ⟨v, b⟩
        · simp [glue] at h; exact ⟨h, rfl⟩
        · exfalso
          have : (32 : UInt8) ∈ x := by
            have e1 : x = y ++ glue (v :: b) := by simpa [glue] using h
            rw [e1]; simp [glue]
          exact free32_ne ha.1 32 this rfl
      · rcases b with _ | ⟨v, b⟩
        · exfalso
          have : (32 : UInt8) ∈ y := by
            have e1 : x ++ glue (u :: a) = y := by simpa [glue] using h
            rw [← e1]; simp [glue]
          exact free32_ne hb.1 32 this rfl
        · obtain ⟨e1, e2⟩ := split32 x y (u ++ glue a) (v ++ glue b) (free32_ne ha.1) (free32_ne hb.1) (by
            have : ∀ (t : List UInt8) l, glue (t :: l) = 32 :: (t ++ glue l) := fun t l => rfl
            rw [this, this] at h; exact h)
          exact ⟨e1, by
            have : ∀ (t : List UInt8) l, glue (t :: l) = 32 :: (t ++ glue l) := fun t l => rfl
            rw [this, this, e2]⟩
    rw [e.1, glue_inj a b ha.2 hb.2 e.2]
theorem free32_cons {c : UInt8} {l : List UInt8} (hc : c ≠ 32) (hl : free32 l = true) : free32 (c :: l) = true := by
  unfold free32 at *; simp only [List.all_cons, hl, Bool.and_true]; simpa using hc
theorem free32_itoa (n : Int) : free32 (itoa n) = true := by
  unfold free32; rw [List.all_eq_true]; intro c hc; simpa using itoa_no32 n c hc
theorem free32_app {a b : List UInt8} (ha : free32 a = true) (hb : free32 b = true) : free32 (a ++ b) = true := by
  unfold free32 at *; rw [List.all_append, ha, hb]; rfl
theorem slotsK_free : ∀ (l : List Int) (p : List UInt8), free32 p = true → (slotsK p l).all free32 = true
  | [], p, hp => by simp only [slotsK, List.all_cons, List.all_nil, Bool.and_true]; exact free32_app hp (by decide)
  | n :: l, p, hp => by
    simp only [slotsK, List.all_cons, hp, Bool.true_and]
    exact slotsK_free l _ (free32_cons (by decide) (free32_itoa n))
theorem text_atom (s : List UInt8) (h : s.length ≤ 40) : text (atomTm s) = atomT s := by
  unfold text
  rw [if_pos (right_atom s h), said_eq]
  rfl
theorem hexD_no32 (n : Nat) (h : n < 16) : hexD n ≠ 32 := by
  have : ∀ n, n < 16 → hexD n ≠ 32 := by decide +kernel
  exact this n h
theorem quoC_free {c : UInt8} (h : c ≠ 32) : free32 (quoC c) = true := by
  have hl := c.toNat_lt
  unfold quoC
  split
  · exact free32_cons (by decide) (free32_cons h rfl)
  split
  · rfl
  split
  · exact free32_cons (by decide) (free32_cons (by decide) (free32_cons (hexD_no32 _ (by omega)) (free32_cons (hexD_no32 _ (by omega)) rfl)))
  · exact free32_cons h rfl
theorem quoted_free {s : List UInt8} (h : free32 s = true) : free32 (quoted s) = true := by
  have key : ∀ l : List UInt8, (∀ c, c ∈ l → c ≠ 32) → free32 (l.flatMap quoC) = true := fun l => by
    induction l with
    | nil => intro _; rfl
    | cons c l ih => intro hl; rw [List.flatMap_cons]; exact free32_app (quoC_free (hl c (by simp))) (ih fun d hd => hl d (by simp [hd]))
  exact free32_cons (by decide) (free32_app (key s (free32_ne h)) (by decide))
theorem atomT_free {s : List UInt8} (h : free32 s = true) : free32 (atomT s) = true := by
  unfold atomT; split
  · exact h
  · exact quoted_free h
theorem textOK_word {i : Ins} (h : textOK i = true) : wordOK i.text = true := by
  unfold textOK at h
  split at h
  · exact lintKind_word (of_decide_eq_true h)
  · simp only [Bool.or_eq_true, Bool.and_eq_true, decide_eq_true_eq] at h
    rcases h with (h | h) | h
    · exact lintKind_word (arity := i.slots.length) (by rw [h]; decide)
    · rw [h]; decide
    · rw [h.1]; decide
theorem tok_free {c : Cod} {e : Ent} {b z : Int} {i : Ins} {f : UInt8} (h : fineF c e b z i f = true) : (tokK i f).all free32 = true := by
  have one : ∀ (x : UInt8) (n : Int), x ≠ 32 → List.all [x :: itoa n] free32 = true := fun x n hx => by
    simp only [List.all_cons, List.all_nil, Bool.and_true]; exact free32_cons hx (free32_itoa n)
  unfold tokK
  repeat' split
  all_goals first | exact one _ _ (by decide) | rfl | skip
  · rename_i hf; subst hf
    have ht : textOK i = true := by simpa [fineF] using h
    have hw := textOK_word ht
    unfold wordOK at hw
    rw [Bool.and_eq_true, decide_eq_true_eq] at hw
    simp only [List.all_cons, List.all_nil, Bool.and_true]
    rw [text_atom _ hw.1]
    exact atomT_free hw.2
  · exact slotsK_free _ _ (free32_cons (by decide) (free32_cons (by decide) (free32_itoa _)))
theorem toks_free {c : Cod} {e : Ent} {b z : Int} {i : Ins} (h : insRight c e b z i = true) : ((shpOf i.op).fields.flatMap (tokK i)).all free32 = true := by
  simp only [insRight, Bool.and_eq_true, List.all_eq_true] at h
  rw [List.all_eq_true]
  intro t ht
  obtain ⟨f, hf, ht⟩ := List.mem_flatMap.1 ht
  exact List.all_eq_true.1 (tok_free (h.2.1 f hf)) t ht
theorem slotsK_len : ∀ (l : List Int) (p : List UInt8), (slotsK p l).length = l.length + 1
  | [], p => rfl
  | n :: l, p => by simp only [slotsK, List.length_cons, slotsK_len l]
theorem slotsK_inj : ∀ (l m : List Int) (p q : List UInt8), slotsK p l = slotsK q m → p = q ∧ l = m
  | [], [], p, q, h => by simp only [slotsK, List.cons.injEq, and_true] at h; exact ⟨List.append_cancel_right h, rfl⟩
  | [], n :: m, p, q, h => by have := congrArg List.length h; simp only [slotsK_len, List.length_cons, List.length_nil] at this; omega
  | n :: l, [], p, q, h => by have := congrArg List.length h; simp only [slotsK_len, List.length_cons, List.length_nil] at this; omega
  | n :: l, k :: m, p, q, h => by
    simp only [slotsK, List.cons.injEq] at h
    obtain ⟨e1, e2⟩ := slotsK_inj l m _ _ h.2
    simp only [List.cons.injEq, true_and] at e1
    exact ⟨h.1, by rw [itoa_inj e1, e2]⟩
def eqF (x y : Ins) (f : UInt8) : Prop :=
  (f = 97 → x.a = y.a) ∧ (f = 98 → x.b = y.b) ∧ (f = 99 → x.c = y.c) ∧ (f = 107 ∨ f = 102 ∨ f = 110 → x.n = y.n) ∧ (f = 116 → x.text = y.text) ∧ (f = 115 → x.slots = y.slots) ∧ (f = 108 → x.l = y.l)
theorem tok_inj {x y : Ins} {f : UInt8} (hx : f = 116 → x.text.length ≤ 40) (hy : f = 116 → y.text.length ≤ 40) (h : tokK x f = tokK y f) : eqF x y f := by
  have one : ∀ {c : UInt8} {m n : Int}, [c :: itoa m] = [c :: itoa n] → m = n := fun h => itoa_inj (by simpa using h)
  refine ⟨fun hf => ?_, fun hf => ?_, fun hf => ?_, fun hf => ?_, fun hf => ?_, fun hf => ?_, fun hf => ?_⟩
  · subst hf; exact one h
  · subst hf; exact one h
  · subst hf; exact one h
  · rcases hf with rfl | rfl | rfl <;> exact one h
  · have h1 := hx hf; have h2 := hy hf
    subst hf
    have h : [text (atomTm x.text)] = [text (atomTm y.text)] := h
    rw [text_atom _ h1, text_atom _ h2] at h
    exact atomT_inj0 (by simpa using h)
  · subst hf
    have h : (match x.slots with | [] => [[40, 41]] | n :: l => slotsK (40 :: 115 :: itoa n) l) = (match y.slots with | [] => [[40, 41]] | n :: l => slotsK (40 :: 115 :: itoa n) l) := h
    have ne : ∀ (n : Int) (l : List Int), [[40, 41]] ≠ slotsK (40 :: 115 :: itoa n) l := fun n l e => by
      cases l with
      | nil => simp [slotsK] at e
      | cons k l => have := congrArg List.length e; simp only [slotsK, List.length_cons, slotsK_len, List.length_nil] at this; omega
    cases hs : x.slots with
    | nil =>
      cases ht : y.slots with
      | nil => rfl
      | cons n l => rw [hs, ht] at h; exact absurd h (ne n l)
    | cons n l =>
      cases ht : y.slots with
      | nil => rw [hs, ht] at h; exact absurd h.symm (ne n l)
      | cons k m =>
        rw [hs, ht] at h
        obtain ⟨e1, e2⟩ := slotsK_inj _ _ _ _ h
        simp only [List.cons.injEq, true_and] at e1
        rw [itoa_inj e1, e2]
  · subst hf; exact one h
theorem tok_len (x : Ins) (f : UInt8) : (tokK x f).length = (tokK ⟨0, 0, 0, 0, 0, 0, [], x.slots⟩ f).length := by
  unfold tokK
  repeat' split
  all_goals first | rfl | (simp_all; done) | skip
theorem flat_split {x y : Ins} : ∀ fs : List UInt8, (∀ f, f ∈ fs → (tokK x f).length = (tokK y f).length) → fs.flatMap (tokK x) = fs.flatMap (tokK y) → ∀ f, f ∈ fs → tokK x f = tokK y f
  | [], _, _, f, hf => by cases hf
  | g :: fs, hl, h, f, hf => by
    simp only [List.flatMap_cons] at h
    obtain ⟨e1, e2⟩ := List.append_inj h (hl g (by simp))
    rcases List.mem_cons.1 hf with rfl | hf
    · exact e1
    · exact flat_split fs (fun f hf => hl f (by simp [hf])) e2 f hf
theorem sum_len (x : Ins) (n : Nat) (hn : (tokK x 115).length = n) : ∀ fs : List UInt8, fs.all (fun f => [97, 98, 99, 107, 102, 110, 116, 115, 108].contains f) = true → (fs.flatMap (tokK x)).length = (fs.filter (fun f => !(f == 115))).length + n * (fs.filter (fun f => f == 115)).length
  | [], _ => by simp
  | f :: fs, hf => by
    simp only [List.all_cons, Bool.and_eq_true] at hf
    rw [List.flatMap_cons, List.length_append, sum_len x n hn fs hf.2]
    by_cases h115 : f = 115
    · subst h115; rw [hn]; simp [Nat.mul_add]; omega
    · have : (tokK x f).length = 1 := by
        have hm := hf.1
        rw [List.contains_iff_mem] at hm
        simp only [List.mem_cons, List.not_mem_nil, or_false] at hm
        rcases hm with rfl | rfl | rfl | rfl | rfl | rfl | rfl | rfl | rfl <;> first | rfl | exact absurd rfl h115
      rw [this]; simp [h115]; omega
def fieldsOK (s : Shp) : Bool := s.fields.all (fun f => [97, 98, 99, 107, 102, 110, 116, 115, 108].contains f) && decide ((s.fields.filter (fun f => f == 115)).length ≤ 1)
theorem fields_ok : ∀ k : Fin 256, fieldsOK (shpOf (UInt8.ofNat k)) = true := by decide +kernel
theorem op_all {p : UInt8 → Bool} (h : ∀ k : Fin 256, p (UInt8.ofNat k) = true) (op : UInt8) : p op = true := by
  have := h ⟨op.toNat, op.toNat_lt⟩
  simpa using this
theorem words_apart : ∀ j k : Fin 30, (shpOf (UInt8.ofNat j)).word = (shpOf (UInt8.ofNat k)).word → j = k ∨ (shpOf (UInt8.ofNat j)).word = [] := by decide +kernel
theorem word_lt {op : UInt8} (h : (shpOf op).word ≠ []) : op.toNat < 30 := by
  refine Nat.lt_of_not_le fun hge => h ?_
  unfold shpOf
  rw [List.getElem?_eq_none (by show 30 ≤ _; exact hge)]
  rfl
theorem word_inj {a b : UInt8} (ha : (shpOf a).word ≠ []) (h : (shpOf a).word = (shpOf b).word) : a = b := by
  have h1 := word_lt ha
  have h2 := word_lt (op := b) (by rw [← h]; exact ha)
  have := words_apart ⟨a.toNat, h1⟩ ⟨b.toNat, h2⟩ (by simpa using h)
  rcases this with h3 | h3
  · exact UInt8.toNat_inj.1 (by simpa using h3)
  · exact absurd (by simpa using h3) ha
theorem words_plain : ∀ k : Fin 256, free32 (shpOf (UInt8.ofNat k)).word = true := by decide +kernel
theorem text_inj {c c' : Cod} {e e' : Ent} {b z b' z' : Int} {x y : Ins} (hx : insRight c e b z x = true) (hy : insRight c' e' b' z' y = true) (h : textOf x = textOf y) : x = y := by
  have fx := toks_free hx
  have fy := toks_free hy
  simp only [insRight, Bool.and_eq_true, List.all_eq_true, Bool.not_eq_true', beq_eq_false_iff_ne, ne_eq] at hx hy
  obtain ⟨wx, gx, bx⟩ := hx
  obtain ⟨wy, gy, by_⟩ := hy
  unfold textOf at h
  rw [if_neg wx, if_neg wy, pieces_glue, pieces_glue] at h
  have hw : glue ((shpOf x.op).word :: (shpOf x.op).fields.flatMap (tokK x)) = glue ((shpOf y.op).word :: (shpOf y.op).fields.flatMap (tokK y)) := by
    have : ∀ (t : List UInt8) l, glue (t :: l) = 32 :: (t ++ glue l) := fun t l => rfl
    rw [this, this, h]
  have hw := glue_inj _ _ (by rw [List.all_cons, fx, op_all (p := fun op => free32 (shpOf op).word) words_plain]; rfl) (by rw [List.all_cons, fy, op_all (p := fun op => free32 (shpOf op).word) words_plain]; rfl) hw
  simp only [List.cons.injEq] at hw
  have hop := word_inj wx hw.1
  have hf := hw.2
  rw [← hop] at hf gy by_
  have hok := op_all (p := fun op => fieldsOK (shpOf op)) fields_ok x.op
  unfold fieldsOK at hok
  rw [Bool.and_eq_true, decide_eq_true_eq] at hok
  generalize (shpOf x.op).fields = fs at *
  have h115 : 115 ∈ fs → (tokK x 115).length = (tokK y 115).length := fun hm => by
    have e := congrArg List.length hf
    rw [sum_len x _ rfl fs hok.1, sum_len y _ rfl fs hok.1] at e
    have h1 : (fs.filter (fun f => f == 115)).length = 1 := by
      have : 0 < (fs.filter (fun f => f == 115)).length := List.length_pos_of_mem (List.mem_filter.2 ⟨hm, rfl⟩)
      omega
    rw [h1] at e; omega
  have hlen : ∀ f, f ∈ fs → (tokK x f).length = (tokK y f).length := fun f hm => by
    by_cases h5 : f = 115
    · subst h5; exact h115 hm
    · rw [tok_len x, tok_len y]
      unfold tokK
      simp only [if_neg h5]
      repeat' split
      all_goals rfl
  have hall : ∀ f, f ∈ fs → eqF x y f := fun f hm => tok_inj
    (fun h6 => by
      subst h6
      have := textOK_word (i := x) (by simpa [fineF] using gx _ hm)
      unfold wordOK at this; rw [Bool.and_eq_true, decide_eq_true_eq] at this; exact this.1)
    (fun h6 => by
      subst h6
      have := textOK_word (i := y) (by simpa [fineF] using gy _ hm)
      unfold wordOK at this; rw [Bool.and_eq_true, decide_eq_true_eq] at this; exact this.1) (flat_split fs hlen hf f hm)
  unfold bareOK at bx by_
  simp only [Bool.and_eq_true, Bool.or_eq_true, decide_eq_true_eq, List.contains_iff_mem] at bx by_
  obtain ⟨⟨⟨⟨⟨⟨x1, x2⟩, x3⟩, x4⟩, x5⟩, x6⟩, x7⟩ := bx
  obtain ⟨⟨⟨⟨⟨⟨y1, y2⟩, y3⟩, y4⟩, y5⟩, y6⟩, y7⟩ := by_
  have ea : x.a = y.a := by
    by_cases hm : (97 : UInt8) ∈ fs
    · exact (hall _ hm).1 rfl
    · rw [x1.resolve_left hm, y1.resolve_left hm]
  have eb : x.b = y.b := by
    by_cases hm : (98 : UInt8) ∈ fs
    · exact (hall _ hm).2.1 rfl
    · rw [x2.resolve_left hm, y2.resolve_left hm]
  have ec : x.c = y.c := by
    by_cases hm : (99 : UInt8) ∈ fs
    · exact (hall _ hm).2.2.1 rfl
    · rw [x3.resolve_left hm, y3.resolve_left hm]
  have en : x.n = y.n := by
    by_cases hm : ((107 : UInt8) ∈ fs ∨ (102 : UInt8) ∈ fs) ∨ (110 : UInt8) ∈ fs
    · rcases hm with (hm | hm) | hm
      · exact (hall _ hm).2.2.2.1 (.inl rfl)
      · exact (hall _ hm).2.2.2.1 (.inr (.inl rfl))
      · exact (hall _ hm).2.2.2.1 (.inr (.inr rfl))
    · rw [x4.resolve_left hm, y4.resolve_left hm]
  have el : x.l = y.l := by
    by_cases hm : (108 : UInt8) ∈ fs
    · exact (hall _ hm).2.2.2.2.2.2 rfl
    · rw [x5.resolve_left hm, y5.resolve_left hm]
  have et : x.text = y.text := by
    by_cases hm : (116 : UInt8) ∈ fs
    · exact (hall _ hm).2.2.2.2.1 rfl
    · rw [x6.resolve_left hm, y6.resolve_left hm]
  have es : x.slots = y.slots := by
    by_cases hm : (115 : UInt8) ∈ fs
    · exact (hall _ hm).2.2.2.2.2.1 rfl
    · rw [List.length_eq_zero_iff.1 (x7.resolve_left hm), List.length_eq_zero_iff.1 (y7.resolve_left hm)]
  obtain ⟨o, a1, a2, a3, a4, a5, a6, a7⟩ := x
  obtain ⟨o', a1', a2', a3', a4', a5', a6', a7'⟩ := y
  simp only at hop ea eb ec en el et es
  subst hop; subst ea; subst eb; subst ec; subst en; subst el; subst et; subst es
  rfl
theorem slotsX_ok : ∀ l : List Int, okS (slotsX l)
  | [] => .cons (by decide) .nil
  | n :: l => .cons (by decide) (.cons (by decide) ((itoa_ok n).append (slotsX_ok l)))
theorem textA_ok (s : List UInt8) : okS (text (atomTm s)) := by
  unfold text
  split
  · rw [said_eq]; exact atomT_ok s
  · exact .nil
theorem piece_ok (i : Ins) (f : UInt8) : okS (pieceT i f) := by
  have one : ∀ (c : UInt8) (n : Int), okC c → okS (nI c n) := fun c n hc => .cons (by decide) (.cons hc (itoa_ok n))
  unfold pieceT
  repeat' split
  all_goals first | exact one _ _ (by decide) | exact .nil | exact .cons (by decide) (textA_ok _) | skip
  unfold slotsT
  split
  · exact .cons (by decide) (.cons (by decide) (.cons (by decide) .nil))
  · exact .cons (by decide) (.cons (by decide) (.cons (by decide) ((itoa_ok _).append (slotsX_ok _))))
theorem word_ok : ∀ k : Fin 256, (shpOf (UInt8.ofNat k)).word.all (fun c => decide (32 ≤ c.toNat) && decide (c.toNat ≤ 126)) = true := by decide +kernel
theorem textOf_ok (i : Ins) : okS (textOf i) := by
  unfold textOf
  split
  · exact .cons (by decide) .nil
  · refine okS.append (fun c hc => ?_) (fun c hc => ?_)
    · have := List.all_eq_true.1 (op_all (p := fun op => (shpOf op).word.all (fun c => decide (32 ≤ c.toNat) && decide (c.toNat ≤ 126))) word_ok i.op) c hc
      simpa using this
    · obtain ⟨f, hf, hc⟩ := List.mem_flatMap.1 hc
      exact piece_ok i f c hc
end Go.Proofs.YtjmdaeabllkgnaaGreatDoor
namespace Go.Proofs.YtjmdaeabllkgnaaGreatDoor
open Go Go.Av
end Go.Proofs.YtjmdaeabllkgnaaGreatDoor
namespace Go.Av
open Go Go.RowKit
variable {H : Type}
mutual
def avW : DataW H → AV
  | .lit (.bool b) => .bool b
  | .lit (.int k n) => .int k n
  | .lit (.string s) => .str s
  | .lit _ => .undef
  | .nil => .sl .none [] []
  | .slice elems _ => .sl .none (avWs elems) []
  | .agg parts => .agg (flatsW parts)
  | _ => .undef
def avWs : List (DataW H) → List AV
  | [] => []
  | d :: r => avW d :: avWs r
def flatsW : List (DataW H) → List AV
  | [] => []
  | d :: r => flat (avW d) ++ flatsW r
end
theorem avWs_map (l : List (DataW H)) : avWs l = l.map avW := by
  induction l with
  | nil => simp [avWs]
  | cons d r ih => simp [avWs, ih]
def tiles (P : Program) : Nat → List Field → Nat → Bool
  | k, [], n => decide (k = n)
  | k, f :: fs, n => decide (f.offset = k) && tiles P (k + P.cellsOf f.type) fs n
def closedT (P : Program) (S : List TypeId) : Bool :=
  S.all fun t => match P.underlying t with
    | some .bool | some (.int _) | some .string => true
    | some (.slice e) => S.contains e && decide (0 < P.cellsOf e)
    | some (.struct fs) => (fs.toList.all fun f => S.contains f.type) && tiles P 0 fs.toList (P.cellsOf t)
    | some (.array n e) => S.contains e && decide (n * P.cellsOf e = P.cellsOf t)
    | _ => false
structure CL (K : Ctx) (cs : List AV) (vs : List Value) : Prop where
  size : vs.length = cs.length
  one : ∀ c, c ∈ cs → one c = true
  at_ : ∀ j (h : j < cs.length), VR K cs[j] (vs.getD j Go.undef)
theorem CL.one1 {K : Ctx} {a : AV} {v : Value} (h : VR K a v) (h1 : Av.one a = true) : CL K [a] [v] :=
  ⟨rfl, fun c hc => by simp at hc; subst hc; exact h1, fun j hj => by
    have : j = 0 := by simpa using hj
    subst this; exact h⟩
theorem CL.append {K : Ctx} {a b : List AV} {v u : List Value} (h : CL K a v) (k : CL K b u) : CL K (a ++ b) (v ++ u) := by
  have h1 := h.size
  refine ⟨by simp [h.size, k.size], fun c hc => ?_, fun j hj => ?_⟩
  · rcases List.mem_append.1 hc with hc | hc
    · exact h.one c hc
    · exact k.one c hc
  · by_cases hja : j < a.length
    · rw [List.getElem_append_left hja]
      have := h.at_ j hja
      simpa [List.getElem?_append_left (show j < v.length by omega)] using this
    · rw [List.getElem_append_right (by omega)]
      have := k.at_ (j - a.length) (by simp at hj; omega)
      simpa [List.getElem?_append_right (show v.length ≤ j by omega), h1] using this
theorem CL.nil {K : Ctx} : CL K [] [] := ⟨rfl, (fun c hc => by cases hc), (fun j hj => by cases hj)⟩
theorem CL.flatMap {α : Type} {K : Ctx} {f : α → List AV} {g : α → List Value} : ∀ (l : List α), (∀ x, x ∈ l → CL K (f x) (g x)) → CL K (l.flatMap f) (l.flatMap g)
  | [], _ => CL.nil
  | x :: l, h => by
    rw [List.flatMap_cons, List.flatMap_cons]
    exact (h x (by simp)).append (CL.flatMap l fun y hy => h y (by simp [hy]))
theorem VR.ofCL {K : Ctx} {a : AV} {cs : List Value} (h : CL K (flat a) cs) (h0 : flat a = [a]) : ∃ v, cs = [v] ∧ VR K a v := by
  rw [h0] at h
  have h1 := h.size
  match cs, h1 with
  | [v], _ => exact ⟨v, rfl, h.at_ 0 (by simp)⟩
def tyW (P : Program) : Nat → TypeId → DataW H → Prop
  | 0, _, _ => False
  | n + 1, t, d => match P.underlying t with
    | some .bool => ∃ b, d = .lit (.bool b)
    | some (.int k) => ∃ m, d = .lit (.int k m) ∧ (Lit.int k m).wf = true
    | some .string => ∃ s, d = .lit (.string s) ∧ s.length ≤ maxLen
    | some (.slice e) => d = .nil ∨ ∃ xs sp, d = .slice xs sp ∧ ∀ x, x ∈ xs → tyW P n e x
    | some (.struct fs) => ∃ ds, d = .agg ds ∧ ds.length = fs.size ∧ ∀ (i : Nat) (f : Field) x, fs[i]? = some f → ds[i]? = some x → tyW P n f.type x
    | some (.array m e) => ∃ ds, d = .agg ds ∧ ds.length = m ∧ ∀ x, x ∈ ds → tyW P n e x
    | _ => False
section read
variable {enc : TypeId × Value → H} {P : Program} {w : World} {held : Bool} {K : Ctx} {S : List TypeId}
theorem fields_read {r : TypeId → List Value → Option (DataW H × List MemPlace)} {total : Nat} {cs : List Value}
    (hr : ∀ t cs x, t ∈ S → r t cs = some x → CL K (flat (avW x.1)) cs) : ∀ (fs : List Field) (xs : List (DataW H × List MemPlace)) (k : Nat), (∀ f, f ∈ fs → f.type ∈ S) → tiles P k fs total = true → xs.length = fs.length →
    (∀ (i : Nat) (f : Field), fs[i]? = some f → r f.type ((cs.drop f.offset).take (P.cellsOf f.type)) = xs[i]?) → cs.length = total → CL K (flatsW (xs.map (·.1))) (cs.drop k)
  | [], [], k, _, ht, _, _, hl => by
    simp only [tiles, decide_eq_true_eq] at ht
    rw [List.drop_eq_nil_of_le (by omega)]
    exact CL.nil
  | f :: fs, x :: xs, k, hS, ht, hlen, hx, hl => by
    simp only [tiles, Bool.and_eq_true, decide_eq_true_eq] at ht
    have h0 := hx 0 f rfl
    simp only [List.getElem?_cons_zero, ht.1] at h0
    have h1 := hr _ _ _ (hS f (by simp)) h0
    have h2 := fields_read hr fs xs (k + P.cellsOf f.type) (fun g hg => hS g (by simp [hg])) ht.2 (by simpa using hlen) (fun i g hg => by have := hx (i + 1) g (by simpa using hg); simpa using this) hl
    have e : cs.drop k = (cs.drop k).take (P.cellsOf f.type) ++ cs.drop (k + P.cellsOf f.type) := by
      rw [← List.drop_drop, List.take_append_drop]
    rw [e]
    simp only [List.map_cons, flatsW]
    exact h1.append h2
  | [], _ :: _, _, _, _, h, _, _ => by cases h
  | _ :: _, [], _, _, _, h, _, _ => by cases h
theorem items_read {r : List Value → Option (DataW H × List MemPlace)} {n : Nat} {cs : List Value}
    (hr : ∀ cs x, r cs = some x → CL K (flat (avW x.1)) cs) : ∀ (xs : List (DataW H × List MemPlace)) (k : Nat),
    (∀ i, i < xs.length → r ((cs.drop ((k + i) * n)).take n) = xs[i]?) → cs.length = (k + xs.length) * n → CL K (flatsW (xs.map (·.1))) (cs.drop (k * n))
  | [], k, _, hl => by
    rw [List.drop_eq_nil_of_le (by simp only [List.length_nil, Nat.add_zero] at hl; omega)]
    exact CL.nil
  | x :: xs, k, hx, hl => by
    have h0 := hx 0 (by simp)
    simp only [List.getElem?_cons_zero, Nat.add_zero] at h0
    have h1 := hr _ _ h0
    have h2 := items_read hr xs (k + 1) (fun i hi => by have := hx (i + 1) (by simpa using hi); simpa [Nat.add_assoc, Nat.add_comm 1 i] using this) (by rw [hl, List.length_cons]; congr 1; omega)
    have e : cs.drop (k * n) = (cs.drop (k * n)).take n ++ cs.drop ((k + 1) * n) := by
      rw [Nat.succ_mul, ← List.drop_drop, List.take_append_drop]
    rw [e]
    simp only [List.map_cons, flatsW]
    exact h1.append h2
theorem read_all (hS : closedT P S = true) (hK : ∀ b o v, w.cell? ⟨b, o, none⟩ = some v → K.imm b o = some v) : ∀ (fuel : Nat) (t : TypeId) (cs : List Value) (x : DataW H × List MemPlace), t ∈ S →
    DataW.trod enc P w 0 (fun _ => true) held fuel t cs = some x → tyW P fuel t x.1 ∧ CL K (flat (avW x.1)) cs ∧ isv (avW x.1) = true := by
  intro fuel
  induction fuel with
  | zero => intro t cs x _ h; simp [DataW.trod] at h
  | succ n ih =>
    intro t cs x htS h
    have hc := List.all_eq_true.1 hS t htS
    unfold tyW
    split at hc
    · rename_i ht
      obtain ⟨b, rfl, rfl⟩ := DataW.trod_bool ht h
      simp only [avW]
      exact ⟨⟨b, rfl⟩, CL.one1 (.bool b) rfl, rfl⟩
    · rename_i k ht
      obtain ⟨m, rfl, rfl, hw⟩ := DataW.trod_int ht h
      simp only [avW]
      exact ⟨⟨m, rfl, hw⟩, CL.one1 (.int k m) rfl, rfl⟩
    · rename_i ht
      obtain ⟨s, rfl, rfl, hw⟩ := DataW.trod_string ht h
      simp only [avW]
      exact ⟨⟨_, rfl, by simpa using hw⟩, CL.one1 (.str s.data.toList) rfl, rfl⟩
    · rename_i e ht
      simp only [Bool.and_eq_true, decide_eq_true_eq] at hc
      have heS : e ∈ S := by simpa using hc.1
      rcases DataW.trod_slice ht h with ⟨rfl, rfl⟩ | ⟨a, len, cap, elems, rest, m, hm, rfl, rfl, _, hlc, hml, hlen, hel, hsp, _⟩
      · exact ⟨.inl rfl, by simp only [avW]; exact CL.one1 (.sl0 none) rfl, by simp only [avW]; rfl⟩
      · have hmn : m = n := by omega
        subst hmn
        have hel2 : ∀ i (hi : i < elems.length), ∃ cs, w.cells? 0 (a.add (i * P.cellsOf e)) (P.cellsOf e) = some cs ∧ DataW.trod enc P w 0 (fun _ => true) held m e cs = some elems[i] := fun i hi => by
          have h1 := hel i (by omega)
          rw [List.getElem?_eq_getElem hi, Option.bind_eq_some_iff] at h1
          exact h1
        refine ⟨.inr ⟨_, _, rfl, fun d hd => ?_⟩, ?_, rfl⟩
        · obtain ⟨y, hy, rfl⟩ := List.mem_map.1 hd
          obtain ⟨i, hi, rfl⟩ := List.getElem_of_mem hy
          obtain ⟨cs, _, h2⟩ := hel2 i hi
          exact (ih e cs _ heS h2).1
        · simp only [avW]
          refine CL.one1 ?_ rfl
          rw [avWs_map, List.map_map]
          by_cases hcap : cap = 0
          · have : elems = [] := List.eq_nil_of_length_eq_zero (by omega)
            subst this
            have hl0 : len = 0 := by omega
            subst hcap hl0
            exact .sl0 (some a)
          · obtain ⟨b, off, spot⟩ := a
            have hspot : spot = none := by
              have h0 : ∃ c0, w.cell? ⟨b, off, spot⟩ = some c0 := by
                by_cases hl0 : len = 0
                · obtain ⟨hrl, hr⟩ := hsp rfl
                  have h1 := hr 0 (by omega)
                  obtain ⟨y, hy⟩ : ∃ y, rest[0]? = some y := ⟨_, List.getElem?_eq_getElem (by omega)⟩
                  rw [hy, Option.bind_eq_some_iff] at h1
                  obtain ⟨cs, h2, _⟩ := h1
                  obtain ⟨_, hcl, hcc⟩ := World.cells?_some h2
                  have h3 := hcc 0 hc.2
                  obtain ⟨c0, hc0⟩ : ∃ c0, cs[0]? = some c0 := ⟨_, List.getElem?_eq_getElem (by omega)⟩
                  refine ⟨c0, ?_⟩
                  rw [hc0] at h3
                  simpa [Addr.add, hl0] using h3
                · obtain ⟨cs, h2, _⟩ := hel2 0 (by omega)
                  obtain ⟨_, hcl, hcc⟩ := World.cells?_some h2
                  have h3 := hcc 0 hc.2
                  obtain ⟨c0, hc0⟩ : ∃ c0, cs[0]? = some c0 := ⟨_, List.getElem?_eq_getElem (by omega)⟩
                  refine ⟨c0, ?_⟩
                  rw [hc0] at h3
                  simpa [Addr.add] using h3
              obtain ⟨c0, h0⟩ := h0
              simpa using World.cell?_spot h0
            subst hspot
            have hcell : ∀ i (hi : i < elems.length), ∃ cs, cs.length = P.cellsOf e ∧ (∀ r, r < P.cellsOf e → w.cell? ⟨b, off + (i * P.cellsOf e + r), none⟩ = cs[r]?) ∧ CL K (flat (avW elems[i].1)) cs ∧ isv (avW elems[i].1) = true := fun i hi => by
              obtain ⟨cs, h2, h3⟩ := hel2 i hi
              obtain ⟨_, hcl, hcc⟩ := World.cells?_some h2
              obtain ⟨_, h4, h5⟩ := ih e cs _ heS h3
              refine ⟨cs, hcl, fun r hr => ?_, h4, h5⟩
              have := hcc r hr
              rw [← this, Addr.add_lit, Addr.add_lit, Nat.add_assoc]
            have hflen : ∀ y, y ∈ elems.map (avW ∘ fun x => x.1) → (flat y).length = P.cellsOf e ∧ isv y = true ∧ ∀ c, c ∈ flat y → one c = true := fun y hy => by
              obtain ⟨z, hz, rfl⟩ := List.mem_map.1 hy
              obtain ⟨i, hi, rfl⟩ := List.getElem_of_mem hz
              obtain ⟨cs, hcl, _, h4, h5⟩ := hcell i hi
              exact ⟨by have := h4.size; simp only [Function.comp]; omega, h5, h4.one⟩
            have hfl := flatMap_length (sz := P.cellsOf e) (elems.map (avW ∘ fun x => x.1)) (fun y hy => (hflen y hy).1)
            have hvals : ∀ j (hj : j < ((elems.map (avW ∘ fun x => x.1)).flatMap flat).length), ∃ v, w.cell? ⟨b, off + j, none⟩ = some v ∧ VR K ((elems.map (avW ∘ fun x => x.1)).flatMap flat)[j] v := fun j hj => by
              have hz : 0 < P.cellsOf e := hc.2
              have hj2 : j < elems.length * P.cellsOf e := by rw [hfl, List.length_map] at hj; exact hj
              have hi : j / P.cellsOf e < elems.length := Nat.div_lt_of_lt_mul (by rw [Nat.mul_comm]; exact hj2)
              have hr : j % P.cellsOf e < P.cellsOf e := Nat.mod_lt _ hz
              have hjd : j / P.cellsOf e * P.cellsOf e + j % P.cellsOf e = j := Nat.div_add_mod' j _
              obtain ⟨cs, hcl, h3, h4, h5⟩ := hcell (j / P.cellsOf e) hi
              have h6 := h3 (j % P.cellsOf e) hr
              rw [hjd] at h6
              have hlt : j % P.cellsOf e < (flat (avW elems[j / P.cellsOf e].1)).length := by have := h4.size; omega
              have h7 := h4.at_ _ hlt
              have h8 := flatMap_at (sz := P.cellsOf e) (elems.map (avW ∘ fun x => x.1)) (fun y hy => (hflen y hy).1) (j / P.cellsOf e) (by simpa using hi) (j % P.cellsOf e) hr
              rw [hjd, List.getElem?_eq_getElem hj] at h8
              simp only [List.getElem_map, Function.comp] at h8
              rw [List.getElem?_eq_getElem hlt] at h8
              have h9 := Option.some.inj h8
              refine ⟨cs.getD (j % P.cellsOf e) Go.undef, ?_, ?_⟩
              · rw [h6]; simp [List.getD, show j % P.cellsOf e < cs.length by omega]
              · rw [h9]; exact h7
            have := VR.sl (K := K) .none (elems.map (avW ∘ fun x => x.1)) [] (P.cellsOf e) b off cap (fun j => (w.cell? ⟨b, off + j, none⟩).getD Go.undef)
              (fun y hy => hflen y (by simpa using hy)) (by simp; omega) hml
              (fun j hj => by
                simp only [List.append_nil] at hj
                obtain ⟨v, h1, _⟩ := hvals j hj
                rw [h1]
                exact hK _ _ _ h1)
              (fun j hj => by
                simp only [List.append_nil] at hj ⊢
                obtain ⟨v, h1, h2⟩ := hvals j hj
                rw [h1]; exact h2) trivial
            rw [List.length_map, hlen] at this
            exact this
    · rename_i fs ht
      simp only [Bool.and_eq_true] at hc
      obtain ⟨xs, m, hm, rfl, hcl, hxl, hx⟩ := DataW.trod_struct ht h
      have hmn : m = n := by omega
      subst hmn
      have hfS : ∀ f, f ∈ fs.toList → f.type ∈ S := fun f hf => by have := List.all_eq_true.1 hc.1 f hf; simpa using this
      refine ⟨⟨_, rfl, by simpa using hxl, fun i f x hf hd => ?_⟩, ?_, rfl⟩
      · rw [List.getElem?_map] at hd
        cases hy : xs[i]? with
        | none => rw [hy] at hd; cases hd
        | some y =>
          rw [hy] at hd
          simp only [Option.map_some, Option.some.injEq] at hd
          subst hd
          have h1 := hx i f hf
          rw [hy] at h1
          exact (ih f.type _ y (hfS f (by rw [Array.mem_toList_iff]; exact Array.mem_of_getElem? hf)) h1).1
      · simp only [avW, flat]
        have := fields_read (P := P) (S := S) (K := K) (r := DataW.trod enc P w 0 (fun _ => true) held m) (total := P.cellsOf t) (cs := cs) (fun t cs x hts hh => (ih t cs x hts hh).2.1) fs.toList xs 0 hfS hc.2 (by simpa using hxl) (fun i f hf => hx i f (by simpa using hf)) hcl
        simpa using this
    · rename_i q e ht
      simp only [Bool.and_eq_true, decide_eq_true_eq] at hc
      have heS : e ∈ S := by simpa using hc.1
      obtain ⟨xs, m, hm, rfl, hcl, hxl, hx⟩ := DataW.trod_array ht h
      have hmn : m = n := by omega
      subst hmn
      refine ⟨⟨_, rfl, by simpa using hxl, fun x hd => ?_⟩, ?_, rfl⟩
      · obtain ⟨y, hy, rfl⟩ := List.mem_map.1 hd
        obtain ⟨i, hi, rfl⟩ := List.getElem_of_mem hy
        have h1 := hx i (by omega)
        rw [List.getElem?_eq_getElem hi] at h1
        exact (ih e _ _ heS h1).1
      · simp only [avW, flat]
        have := items_read (K := K) (r := DataW.trod enc P w 0 (fun _ => true) held m e) (n := P.cellsOf e) (cs := cs) (fun cs x hh => (ih e cs x heS hh).2.1) xs 0 (fun i hi => by have := hx i (by omega); simpa using this) (by simp only [Nat.zero_add]; rw [hcl, ← hc.2, hxl])
        simpa using this
    · cases hc
theorem read_arg (hS : closedT P S = true) (hK : ∀ b o v, w.cell? ⟨b, o, none⟩ = some v → K.imm b o = some v) {t : TypeId} {v : Value} {d : DataW H} {ps : List MemPlace} {r : Reach} {b0 : Nat} (htS : t ∈ S)
    (hval : Value.okWide P w r b0 t v) (h : DataW.Trod enc P w 0 (fun _ => true) held t v d ps) : ∃ n, tyW P n t d ∧ VR K (avW d) v := by
  obtain ⟨fuel, hf⟩ := h
  obtain ⟨h1, h2, h3⟩ := read_all hS hK fuel t _ _ htS hf
  refine ⟨fuel, h1, ?_⟩
  have hc := List.all_eq_true.1 hS t htS
  cases fuel with
  | zero => exact h1.elim
  | succ n =>
    unfold tyW at h1
    have single : ∀ (a : AV), flat a = [a] → avW d = a → (∀ cs, v ≠ .agg cs) → VR K a v := fun a ha hd hv => by
      simp only [hd] at h2
      obtain ⟨u, h4, h5⟩ := VR.ofCL h2 ha
      have h6 : v.cells = #[v] := by cases v <;> first | rfl | exact absurd rfl (hv _)
      rw [h6] at h4
      have : v = u := by simpa using h4
      rw [this]; exact h5
    have agg : ∀ ds, d = .agg ds → (∃ cs, v = .agg cs) → VR K (avW d) v := fun ds hd hv => by
      obtain ⟨cs, rfl⟩ := hv
      subst hd
      simp only [avW, flat] at h2 ⊢
      refine .agg _ _ ?_ h2.one (fun j hj => ?_)
      · have := h2.size; simpa [Value.cells] using this
      · have := h2.at_ j hj
        simpa [Value.cells, Array.getD_eq_getD_getElem?, List.getD_eq_getElem?_getD] using this
    unfold Value.okWide at hval
    split at hc
    · rename_i ht; rw [ht] at h1 hval
      obtain ⟨b, rfl⟩ := h1
      exact single _ rfl (by simp [avW]) (fun cs hv => by subst hv; simp [Cell.okWide, ht, Cell.ok] at hval)
    · rename_i k ht; rw [ht] at h1 hval
      obtain ⟨m, rfl, _⟩ := h1
      exact single _ rfl (by simp [avW]) (fun cs hv => by subst hv; simp [Cell.okWide, ht, Cell.ok] at hval)
    · rename_i ht; rw [ht] at h1 hval
      obtain ⟨m, rfl, _⟩ := h1
      exact single _ rfl (by simp [avW]) (fun cs hv => by subst hv; simp [Cell.okWide, ht, Cell.ok] at hval)
    · rename_i e ht; rw [ht] at h1 hval
      have hv : ∀ cs, v ≠ .agg cs := fun cs hv => by subst hv; simp [Cell.okWide, ht, Cell.ok] at hval
      rcases h1 with rfl | ⟨xs, sp, rfl, _⟩
      · exact single _ rfl (by simp [avW]) hv
      · exact single _ rfl (by simp [avW]) hv
    · rename_i fs ht; rw [ht] at h1 hval
      obtain ⟨ds, hd, _⟩ := h1
      obtain ⟨cs, hv, _⟩ := hval
      exact agg ds hd ⟨cs, hv⟩
    · rename_i q e ht; rw [ht] at h1 hval
      obtain ⟨ds, hd, _⟩ := h1
      obtain ⟨cs, hv, _⟩ := hval
      exact agg ds hd ⟨cs, hv⟩
    · cases hc
end read
end Go.Av
