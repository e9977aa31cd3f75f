/- Code: what its instructions are, which are right, where they go on: plain. -/
import Derived.Test.YtjmdaeabllkgnaaGreatDoorY19
import Derived.Test.YtjmdaeabllkgnaaGreatDoorY14
import Derived.Lib.IndexMore
import Derived.Test.YtjmdaeabllkgnaaGreatDoorY15
import Derived.Test.YtjmdaeabllkgnaaGreatDoorY16
set_option linter.unusedVariables false
set_option linter.unusedSimpArgs false
namespace Go.Proofs.YtjmdaeabllkgnaaGreatDoor
open Go Go.Av
section
structure Shp where
  word : List UInt8
  fields : List UInt8
  next : Bool
  deriving DecidableEq
def shps : List Shp := [⟨[], [], false⟩,
  ⟨[99, 111, 110, 115, 116], [97, 107], true⟩,
  ⟨[109, 111, 118, 101], [97, 98], true⟩,
  ⟨[116, 117, 112, 108, 101], [97, 115], true⟩,
  ⟨[99, 111, 110, 115], [97, 98, 99], true⟩,
  ⟨[102, 117, 110], [97, 102, 115], true⟩,
  ⟨[99, 97, 108, 108], [97, 102, 115], true⟩,
  ⟨[116, 97, 105, 108], [102, 115], false⟩,
  ⟨[97, 112, 112, 108, 121], [97, 98, 115], true⟩,
  ⟨[116, 97, 105, 108, 102, 117, 110], [98, 115], false⟩,
  ⟨[98, 105, 102], [97, 116, 115], true⟩,
  ⟨[114, 101, 116, 117, 114, 110], [98], false⟩,
  ⟨[106, 117, 109, 112], [108], false⟩,
  ⟨[105, 115, 116, 117, 112, 108, 101], [98, 110, 108], true⟩,
  ⟨[105, 115, 99, 111, 110, 115], [98, 108], true⟩,
  ⟨[105, 115, 99, 111, 110, 115, 116], [98, 107, 108], true⟩,
  ⟨[105, 115, 115, 97, 109, 101], [98, 99, 108], true⟩,
  ⟨[101, 108, 101, 109], [97, 98, 110], true⟩,
  ⟨[104, 101, 97, 100], [97, 98], true⟩,
  ⟨[114, 101, 115, 116], [97, 98], true⟩,
  ⟨[103, 117, 97, 114, 100], [97, 116, 115, 108], true⟩,
  ⟨[114, 101, 99, 101, 105, 118, 101], [110], true⟩,
  ⟨[110, 101, 120, 116], [97, 108], true⟩,
  ⟨[116, 97, 107, 101], [], true⟩,
  ⟨[115, 107, 105, 112], [108], false⟩,
  ⟨[116, 105, 109, 101], [98], true⟩,
  ⟨[116, 114, 121], [97, 108], true⟩,
  ⟨[117, 110, 116, 114, 121], [], true⟩,
  ⟨[102, 97, 105, 108], [98], false⟩,
  ⟨[114, 97, 105, 115, 101], [98], false⟩]
def shpOf (op : UInt8) : Shp := (shps[op.toNat]?).getD ⟨[], [], false⟩
def bySign (i : Ins) (f : UInt8) : List Int := if f = 98 then [i.b] else if f = 99 then [i.c] else if f = 115 then i.slots else []
def readsF (i : Ins) (fs : List UInt8) : List Int := fs.flatMap (bySign i)
def reads (i : Ins) : List Int := readsF i (shpOf i.op).fields
def writesB (i : Ins) : Bool := [97].isPrefixOf (shpOf i.op).fields
def nextsOf (x : Ins) (pos : Int) : List Int :=
  if (shpOf x.op).next = true then
    if (shpOf x.op).fields.contains 108 = true then (if x.l < pos + 1 then [x.l, pos + 1] else if x.l = pos + 1 then [pos + 1] else [pos + 1, x.l]) else [pos + 1]
  else if (shpOf x.op).fields.contains 108 = true then [x.l] else []
def nexts (c : Cod) (pos : Int) : List Int := if 0 ≤ pos then (match c.instrs[pos.toNat]? with | some x => nextsOf x pos | none => []) else []
def builtinL : List (List (List UInt8)) := [[[], [], [], []],
  [[], [116, 117, 112, 108, 101, 95, 116, 111, 95, 108, 105, 115, 116, 32, 108, 105, 115, 116, 95, 116, 111, 95, 116, 117, 112, 108, 101, 32, 97, 116, 111, 109, 95, 116, 111, 95, 108, 105, 115, 116, 32, 108, 105, 115, 116, 95, 116, 111, 95, 97, 116, 111, 109, 32, 105, 110, 116, 101, 103, 101, 114, 95, 116, 111, 95, 108, 105, 115, 116, 32, 108, 105, 115, 116, 95, 116, 111, 95, 105, 110, 116, 101, 103, 101, 114, 32, 114, 101, 118, 101, 114, 115, 101, 32, 115, 117, 109, 32, 115, 111, 114, 116, 32, 117, 115, 111, 114, 116, 32, 108, 97, 115, 116, 32, 116, 104, 114, 111, 119, 32, 101, 114, 114, 111, 114, 32, 101, 120, 105, 116], [43, 43, 32, 45, 45, 32, 109, 97, 120, 32, 109, 105, 110, 32, 110, 116, 104, 32, 110, 116, 104, 116, 97, 105, 108, 32, 109, 101, 109, 98, 101, 114, 32, 115, 101, 113], [115, 101, 116, 101, 108, 101, 109, 101, 110, 116]],
  [[], [43, 32, 45, 32, 110, 111, 116, 32, 97, 98, 115, 32, 104, 100, 32, 116, 108, 32, 108, 101, 110, 103, 116, 104, 32, 116, 117, 112, 108, 101, 95, 115, 105, 122, 101, 32, 105, 115, 95, 105, 110, 116, 101, 103, 101, 114, 32, 105, 115, 95, 97, 116, 111, 109, 32, 105, 115, 95, 116, 117, 112, 108, 101, 32, 105, 115, 95, 108, 105, 115, 116, 32, 105, 115, 95, 112, 105, 100, 32, 105, 115, 95, 114, 101, 102, 101, 114, 101, 110, 99, 101, 32, 105, 115, 95, 102, 117, 110, 99, 116, 105, 111, 110, 32, 105, 115, 95, 98, 111, 111, 108, 101, 97, 110], [43, 32, 45, 32, 42, 32, 100, 105, 118, 32, 114, 101, 109, 32, 61, 61, 32, 47, 61, 32, 61, 58, 61, 32, 61, 47, 61, 32, 60, 32, 61, 60, 32, 62, 32, 62, 61, 32, 97, 110, 100, 32, 111, 114, 32, 120, 111, 114, 32, 101, 108, 101, 109, 101, 110, 116, 32, 105, 115, 95, 102, 117, 110, 99, 116, 105, 111, 110], []],
  [[115, 101, 108, 102, 32, 109, 97, 107, 101, 95, 114, 101, 102, 32, 110, 111, 119], [115, 112, 97, 119, 110, 32, 115, 112, 97, 119, 110, 95, 108, 105, 110, 107, 32, 115, 112, 97, 119, 110, 95, 109, 111, 110, 105, 116, 111, 114, 32, 108, 105, 110, 107, 32, 117, 110, 108, 105, 110, 107, 32, 109, 111, 110, 105, 116, 111, 114, 32, 100, 101, 109, 111, 110, 105, 116, 111, 114, 32, 116, 114, 97, 112, 95, 101, 120, 105, 116, 32, 117, 110, 114, 101, 103, 105, 115, 116, 101, 114, 32, 119, 104, 101, 114, 101, 105, 115, 32, 112, 114, 105, 110, 116], [33, 32, 101, 120, 105, 116, 32, 114, 101, 103, 105, 115, 116, 101, 114], []]]
def hasWord (l name : List UInt8) : Bool := Go.Lib.contains ([32] ++ l ++ [32]) ([32] ++ name ++ [32])
def kindAt (name : List UInt8) (arity : Nat) : Nat → List (List (List UInt8)) → Nat
  | _, [] => 0
  | k, r :: rs => if hasWord (r.getD arity []) name = true then k else kindAt name arity (k + 1) rs
def lintKind (name : List UInt8) (arity : Nat) : Nat := if name = [] ∨ 3 < arity ∨ Go.Lib.contains name [32] = true then 0 else kindAt name arity 0 builtinL
def slotOK (e : Ent) (n : Int) : Bool := decide (0 ≤ n) && decide (n < e.slots)
def funOK (c : Cod) (i : Ins) : Bool :=
  if 0 ≤ i.n then (match c.entries[i.n.toNat]? with
    | none => false
    | some e => if i.op = 5 then decide ((i.slots.length : Int) = e.extra) else decide (e.extra = 0) && decide ((i.slots.length : Int) = e.arity)) else false
def numOK (op : UInt8) (n : Int) : Bool := if op = 13 then decide (0 ≤ n) && decide (n ≤ 4096) else if op = 17 then decide (0 ≤ n) && decide (n < 4096) else decide (n = 0) || decide (n = 1)
def textOK (i : Ins) : Bool := if i.op = 10 then decide (lintKind i.text i.slots.length ≠ 0) else decide (lintKind i.text i.slots.length = 2) || decide (i.text = [123, 125]) || (decide (i.text = [124]) && decide (i.slots.length = 2))
def fineF (c : Cod) (e : Ent) (b z : Int) (i : Ins) (f : UInt8) : Bool :=
  if f = 97 then slotOK e i.a else if f = 98 then slotOK e i.b else if f = 99 then slotOK e i.c
  else if f = 107 then decide (0 ≤ i.n) && decide (i.n < c.consts.length)
  else if f = 102 then funOK c i else if f = 110 then numOK i.op i.n else if f = 116 then textOK i
  else if f = 115 then decide (i.slots.length ≤ 4096) && i.slots.all (slotOK e) else if f = 108 then decide (b ≤ i.l) && decide (i.l < z) else true
def bareOK (i : Ins) (fs : List UInt8) : Bool :=
  (fs.contains 97 || decide (i.a = 0)) && (fs.contains 98 || decide (i.b = 0)) && (fs.contains 99 || decide (i.c = 0)) &&
  ((fs.contains 107 || fs.contains 102 || fs.contains 110) || decide (i.n = 0)) && (fs.contains 108 || decide (i.l = 0)) && (fs.contains 116 || decide (i.text = [])) && (fs.contains 115 || decide (i.slots.length = 0))
def insRight (c : Cod) (e : Ent) (b z : Int) (i : Ins) : Bool := !((shpOf i.op).word == []) && ((shpOf i.op).fields.all (fineF c e b z i) && bareOK i (shpOf i.op).fields)
def entOK (c : Cod) (b z : Int) (e : Ent) : Bool :=
  decide (e.pos = b) && decide (b < z) && decide (z ≤ c.instrs.length) && decide (e.name.length ≤ 40) && decide (0 ≤ e.extra) && decide (e.extra ≤ e.arity) && decide (e.arity ≤ 12) && decide (e.arity ≤ e.slots) && decide (e.slots ≤ 1000)
def endOf (c : Cod) : List Ent → Int
  | [] => c.instrs.length
  | e :: _ => e.pos
def within (c : Cod) (b z : Int) : List Ins := (c.instrs.take z.toNat).drop b.toNat
def entsOK (c : Cod) : Int → List Ent → Bool
  | _, [] => true
  | b, e :: r => entOK c b (endOf c r) e && ((within c b (endOf c r)).all (insRight c e b (endOf c r)) && entsOK c (endOf c r) r)
def codRight (c : Cod) : Bool :=
  decide (c.entries.length ≤ 16384) && decide (c.instrs.length ≤ 16384) && decide (c.consts.length ≤ 16384) && !(decide (c.entries = []) && !decide (c.instrs = [])) && (c.consts.all right && entsOK c 0 c.entries)
theorem ents_at (c : Cod) : ∀ (l : List Ent) (b : Int) (k : Nat) (e : Ent), entsOK c b l = true → l[k]? = some e →
    ∃ z, z = endOf c (l.drop (k + 1)) ∧ entOK c e.pos z e = true ∧ (within c e.pos z).all (insRight c e e.pos z) = true ∧ (k = 0 → e.pos = b) ∧ (0 < k → b ≤ e.pos)
  | [], b, k, e, h, hk => by simp at hk
  | x :: l, b, 0, e, h, hk => by
    simp only [List.getElem?_cons_zero, Option.some.injEq] at hk
    subst hk
    simp only [entsOK, Bool.and_eq_true] at h
    obtain ⟨h1, h2, h3⟩ := h
    have hb : x.pos = b := by simp only [entOK, Bool.and_eq_true, decide_eq_true_eq] at h1; omega
    subst hb
    exact ⟨_, rfl, h1, h2, fun _ => rfl, fun h => absurd h (by omega)⟩
  | x :: l, b, k + 1, e, h, hk => by
    rw [List.getElem?_cons_succ] at hk
    simp only [entsOK, Bool.and_eq_true] at h
    obtain ⟨h1, h2, h3⟩ := h
    obtain ⟨z, hz, g1, g2, g3, g4⟩ := ents_at c l _ k e h3 hk
    have hbz : b < endOf c l := by simp only [entOK, Bool.and_eq_true, decide_eq_true_eq] at h1; omega
    refine ⟨z, hz, g1, g2, fun h => absurd h (by omega), fun _ => ?_⟩
    rcases Nat.eq_zero_or_pos k with h0 | h0
    · have := g3 h0; omega
    · have := g4 h0; omega
theorem bySign_ok {c : Cod} {e : Ent} {b z : Int} {i : Ins} {f : UInt8} (h : fineF c e b z i f = true) : ∀ n, n ∈ bySign i f → slotOK e n = true := by
  intro n hn
  unfold bySign at hn
  split at hn
  · rename_i hf; subst hf; simp at hn; subst hn; simpa [fineF] using h
  split at hn
  · rename_i hf; subst hf; simp at hn; subst hn; simpa [fineF] using h
  split at hn
  · rename_i hf; subst hf
    simp only [fineF, show ((115 : UInt8) = 97) = False from by decide, show ((115 : UInt8) = 98) = False from by decide, show ((115 : UInt8) = 99) = False from by decide, show ((115 : UInt8) = 107) = False from by decide, show ((115 : UInt8) = 102) = False from by decide, show ((115 : UInt8) = 110) = False from by decide, show ((115 : UInt8) = 116) = False from by decide, if_false, if_true, Bool.and_eq_true, List.all_eq_true] at h
    exact h.2 n hn
  · simp at hn
theorem reads_ok {c : Cod} {e : Ent} {b z : Int} {i : Ins} (h : insRight c e b z i = true) : ∀ n, n ∈ reads i → slotOK e n = true := by
  simp only [insRight, Bool.and_eq_true, List.all_eq_true] at h
  intro n hn
  unfold reads readsF at hn
  obtain ⟨f, hf, hn⟩ := List.mem_flatMap.1 hn
  exact bySign_ok (h.2.1 f hf) n hn
theorem writes_ok {c : Cod} {e : Ent} {b z : Int} {i : Ins} (h : insRight c e b z i = true) (hw : writesB i = true) : slotOK e i.a = true := by
  simp only [insRight, Bool.and_eq_true, List.all_eq_true] at h
  unfold writesB at hw
  have h2 := h.2.1 97 (by
    cases hx : (shpOf i.op).fields with
    | nil => rw [hx] at hw; simp [List.isPrefixOf] at hw
    | cons f fs => rw [hx] at hw; simp only [List.isPrefixOf, Bool.and_true, beq_iff_eq] at hw; subst hw; simp)
  simpa [fineF] using h2
theorem line_ok {c : Cod} {e : Ent} {b z : Int} {i : Ins} (h : insRight c e b z i = true) (hl : (shpOf i.op).fields.contains 108 = true) : b ≤ i.l ∧ i.l < z := by
  simp only [insRight, Bool.and_eq_true, List.all_eq_true] at h
  have h2 := h.2.1 108 (by simpa using hl)
  simpa [fineF] using h2
theorem nexts_ok {c : Cod} {e : Ent} {b z : Int} {i : Ins} (h : insRight c e b z i = true) {pos : Int} (h0 : b ≤ pos) (h1 : pos < z) :
    (nextsOf i pos).length ≤ 2 ∧ (∀ n, n ∈ nextsOf i pos → b ≤ n ∧ n ≤ z) ∧ ∀ x y, (nextsOf i pos)[0]? = some x → (nextsOf i pos)[1]? = some y → x < y := by
  have hl := line_ok h
  unfold nextsOf
  split
  · split
    · rename_i hc
      have := hl hc
      split
      · refine ⟨by simp, fun n hn => ?_, fun x y hx hy => ?_⟩
        · simp at hn; omega
        · simp at hx hy; omega
      split
      · refine ⟨by simp, fun n hn => ?_, fun x y hx hy => ?_⟩
        · simp at hn; omega
        · simp at hy
      · refine ⟨by simp, fun n hn => ?_, fun x y hx hy => ?_⟩
        · simp at hn; omega
        · simp at hx hy; omega
    · refine ⟨by simp, fun n hn => ?_, fun x y hx hy => ?_⟩
      · simp at hn; omega
      · simp at hy
  · split
    · rename_i hc
      have := hl hc
      refine ⟨by simp, fun n hn => ?_, fun x y hx hy => ?_⟩
      · simp at hn; omega
      · simp at hy
    · exact ⟨by simp, fun n hn => by simp at hn, fun x y hx hy => by simp at hx⟩
def named (i : Ins) : Bool := decide (i.op = 5) || decide (i.op = 6) || decide (i.op = 7)
def shift (b : Int) (i : Ins) : Ins := if i.l = 0 then i else { i with l := i.l - b }
def aloneOf (c : Cod) (e : Ent) (l : List Ins) : Cod := ⟨[{ e with pos := 0 }], l.map (shift e.pos), c.consts⟩
theorem shift_op (b : Int) (i : Ins) : (shift b i).op = i.op := by unfold shift; split <;> rfl
theorem f_named : ∀ k : Fin 256, (shpOf (UInt8.ofNat k)).fields.contains 102 = true → k.1 = 5 ∨ k.1 = 6 ∨ k.1 = 7 := by decide +kernel
theorem f_named' (op : UInt8) (h : (shpOf op).fields.contains 102 = true) : op = 5 ∨ op = 6 ∨ op = 7 := by
  have := f_named ⟨op.toNat, op.toNat_lt⟩ (by simpa using h)
  rcases this with h | h | h
  · exact .inl (UInt8.toNat_inj.1 (by simpa using h))
  · exact .inr (.inl (UInt8.toNat_inj.1 (by simpa using h)))
  · exact .inr (.inr (UInt8.toNat_inj.1 (by simpa using h)))
theorem shift_right {c : Cod} {e : Ent} {b z : Int} {i : Ins} (h : insRight c e b z i = true) (hb : 0 ≤ b) (hbz : b < z) (hn : named i = false) (d : Cod) (hd : d.consts = c.consts) : insRight d { e with pos := 0 } 0 (z - b) (shift b i) = true := by
  simp only [insRight, Bool.and_eq_true, List.all_eq_true] at h ⊢
  rw [shift_op]
  obtain ⟨h1, h2, h3⟩ := h
  refine ⟨h1, fun f hf => ?_, ?_⟩
  · have hx := h2 f hf
    have hnf : f ≠ 102 := fun h => by
      subst h
      have := f_named' i.op (by simpa using hf)
      simp [named] at hn
      rcases this with h | h | h <;> simp [h] at hn
    unfold fineF at hx ⊢
    have hs : ∀ n, slotOK { e with pos := 0 } n = slotOK e n := fun n => rfl
    have hs' : slotOK { e with pos := 0 } = slotOK e := rfl
    have ha : (shift b i).a = i.a ∧ (shift b i).b = i.b ∧ (shift b i).c = i.c ∧ (shift b i).n = i.n ∧ (shift b i).text = i.text ∧ (shift b i).slots = i.slots := by unfold shift; split <;> simp
    obtain ⟨a1, a2, a3, a4, a5, a6⟩ := ha
    have ht : textOK (shift b i) = textOK i := by unfold textOK; rw [shift_op, a5, a6]
    rw [hs, hs, hs, hs', a1, a2, a3, a4, a6, ht, shift_op, hd, if_neg hnf]
    rw [if_neg hnf] at hx
    by_cases h108 : f = 108
    · subst h108
      simp only [show ((108 : UInt8) = 97) = False from by decide, show ((108 : UInt8) = 98) = False from by decide, show ((108 : UInt8) = 99) = False from by decide, show ((108 : UInt8) = 107) = False from by decide, show ((108 : UInt8) = 110) = False from by decide, show ((108 : UInt8) = 116) = False from by decide, show ((108 : UInt8) = 115) = False from by decide, if_false, if_true, Bool.and_eq_true, decide_eq_true_eq] at hx ⊢
      unfold shift
      split
      · omega
      · simp only; omega
    · simp only [if_neg h108] at hx ⊢
      exact hx
  · unfold bareOK at h3 ⊢
    unfold shift
    split
    · exact h3
    · rename_i hl
      simp only [Bool.and_eq_true, Bool.or_eq_true, decide_eq_true_eq] at h3 ⊢
      obtain ⟨⟨⟨⟨⟨⟨g1, g2⟩, g3⟩, g4⟩, g5⟩, g6⟩, g7⟩ := h3
      refine ⟨⟨⟨⟨⟨⟨g1, g2⟩, g3⟩, g4⟩, ?_⟩, g6⟩, g7⟩
      rcases g5 with g5 | g5
      · exact .inl g5
      · exact absurd g5 hl
theorem alone_right {c : Cod} {b : Int} {k : Nat} {e : Ent} (h : codRight c = true) (hk : c.entries[k]? = some e) (hn : (within c e.pos (endOf c (c.entries.drop (k + 1)))).all (fun i => !named i) = true) :
    codRight (aloneOf c e (within c e.pos (endOf c (c.entries.drop (k + 1))))) = true := by
  simp only [codRight, Bool.and_eq_true] at h
  obtain ⟨⟨⟨⟨h1, h2⟩, h3⟩, h4⟩, h5, h6⟩ := h
  obtain ⟨z, hz, g1, g2, g3, g4⟩ := ents_at c _ _ k e h6 hk
  rw [← hz] at hn ⊢
  have hp : 0 ≤ e.pos := by
    rcases Nat.eq_zero_or_pos k with h0 | h0
    · have := g3 h0; omega
    · exact g4 h0
  simp only [entOK, Bool.and_eq_true, decide_eq_true_eq] at g1
  simp only [decide_eq_true_eq] at h1 h2 h3
  have hlen : ((within c e.pos z).length : Int) = z - e.pos := by
    unfold within; rw [List.length_drop, List.length_take]; omega
  have hz' : endOf (aloneOf c e (within c e.pos z)) [] = z - e.pos := by
    simp only [endOf, aloneOf, List.length_map]; exact hlen
  simp only [codRight, Bool.and_eq_true, decide_eq_true_eq]
  refine ⟨⟨⟨⟨by simp [aloneOf], ?_⟩, h3⟩, by simp [aloneOf]⟩, h5, ?_⟩
  · simp only [aloneOf, List.length_map]; omega
  · show entsOK (aloneOf c e (within c e.pos z)) 0 [{ e with pos := 0 }] = true
    simp only [entsOK, Bool.and_eq_true, hz']
    refine ⟨?_, ?_, trivial⟩
    · simp only [entOK, Bool.and_eq_true, decide_eq_true_eq]
      have : ((aloneOf c e (within c e.pos z)).instrs.length : Int) = z - e.pos := by simp only [aloneOf, List.length_map]; exact hlen
      simp only [true_and] at g1 ⊢
      omega
    · rw [List.all_eq_true] at g2 hn ⊢
      intro i hi
      have : within (aloneOf c e (within c e.pos z)) 0 (z - e.pos) = (within c e.pos z).map (shift e.pos) := by
        show (((within c e.pos z).map (shift e.pos)).take (z - e.pos).toNat).drop (0 : Int).toNat = _
        rw [show (0 : Int).toNat = 0 from rfl, List.drop_zero, List.take_of_length_le]
        rw [List.length_map]; omega
      rw [this] at hi
      obtain ⟨j, hj, rfl⟩ := List.mem_map.1 hi
      have hjn := hn j hj
      exact shift_right (g2 j hj) hp (by omega) (by simpa using hjn) _ rfl
end
section
def back : List UInt8 → Nat
  | [] => 0
  | c :: l => (c.toNat - 48) + 10 * back l
end
section
end
end Go.Proofs.YtjmdaeabllkgnaaGreatDoor
