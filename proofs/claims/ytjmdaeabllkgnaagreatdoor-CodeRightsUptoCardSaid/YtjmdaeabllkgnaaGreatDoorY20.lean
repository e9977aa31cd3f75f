/- Code: what its instructions are, which are right, where they go on: plain. -/
import Derived.Test.YtjmdaeabllkgnaaGreatDoorY19
import Derived.Test.YtjmdaeabllkgnaaGreatDoorY14
import Derived.Lib.IndexMore
import Derived.Test.YtjmdaeabllkgnaaGreatDoorY15
import Derived.Test.YtjmdaeabllkgnaaGreatDoorY16
set_option linter.unusedVariables false
set_option linter.unusedSimpArgs false
namespace Go.Proofs.YtjmdaeabllkgnaaGreatDoor
open Go Go.Av
section
structure Shp where
 word : List UInt8
 fields : List UInt8
 next : Bool
 deriving DecidableEq
def shps : List Shp := [⟨[], [], false⟩,
 ⟨[99, 111, 110, 115, 116], [97, 107], true⟩,
 ⟨[109, 111, 118, 101], [97, 98], true⟩,
 ⟨[116, 117, 112, 108, 101], [97, 115], true⟩,
 ⟨[99, 111, 110, 115], [97, 98, 99], true⟩,
 ⟨[102, 117, 110], [97, 102, 115], true⟩,
 ⟨[99, 97, 108, 108], [97, 102, 115], true⟩,
 ⟨[116, 97, 105, 108], [102, 115], false⟩,
 ⟨[97, 112, 112, 108, 121], [97, 98, 115], true⟩,
 ⟨[116, 97, 105, 108, 102, 117, 110], [98, 115], false⟩,
 ⟨[98, 105, 102], [97, 116, 115], true⟩,
 ⟨[114, 101, 116, 117, 114, 110], [98], false⟩,
 ⟨[106, 117, 109, 112], [108], false⟩,
 ⟨[105, 115, 116, 117, 112, 108, 101], [98, 110, 108], true⟩,
 ⟨[105, 115, 99, 111, 110, 115], [98, 108], true⟩,
 ⟨[105, 115, 99, 111, 110, 115, 116], [98, 107, 108], true⟩,
 ⟨[105, 115, 115, 97, 109, 101], [98, 99, 108], true⟩,
 ⟨[101, 108, 101, 109], [97, 98, 110], true⟩,
 ⟨[104, 101, 97, 100], [97, 98], true⟩,
 ⟨[114, 101, 115, 116], [97, 98], true⟩,
 ⟨[103, 117, 97, 114, 100], [97, 116, 115, 108], true⟩,
 ⟨[114, 101, 99, 101, 105, 118, 101], [110], true⟩,
 ⟨[110, 101, 120, 116], [97, 108], true⟩,
 ⟨[116, 97, 107, 101], [], true⟩,
 ⟨[115, 107, 105, 112], [108], false⟩,
 ⟨[116, 105, 109, 101], [98], true⟩,
 ⟨[116, 114, 121], [97, 108], true⟩,
 ⟨[117, 110, 116, 114, 121], [], true⟩,
 ⟨[102, 97, 105, 108], [98], false⟩,
 ⟨[114, 97, 105, 115, 101], [98], false⟩]
def shpOf (op : UInt8) : Shp := (shps[op.toNat]?).getD ⟨[], [], false⟩
def bySign (i : Ins) (f : UInt8) : List Int := if f = 98 then [i.b] else if f = 99 then [i.c] else if f = 115 then i.slots else []
def readsF (i : Ins) (fs : List UInt8) : List Int := fs.flatMap (bySign i)
def reads (i : Ins) : List Int := readsF i (shpOf i.op).fields
def writesB (i : Ins) : Bool := [97].isPrefixOf (shpOf i.op).fields
def nextsOf (x : Ins) (pos : Int) : List Int :=
 if (shpOf x.op).next = true then
  if (shpOf x.op).fields.contains 108 = true then (if x.l < pos + 1 then [x.l, pos + 1] else if x.l = pos + 1 then [pos + 1] else [pos + 1, x.l]) else [pos + 1]
 else if (shpOf x.op).fields.contains 108 = true then [x.l] else []
def nexts (c : Cod) (pos : Int) : List Int := if 0 <= pos then (match c.instrs[pos.toNat]? with | some x => nextsOf x pos | none => []) else []
def builtinL : List (List (List UInt8)) := [[[], [], [], []],
 [[], [116, 117, 112, 108, 101, 95, 116, 111, 95, 108, 105, 115, 116, 32, 108, 105, 115, 116, 95, 116, 111, 95, 116, 117, 112, 108, 101, 32, 97, 116, 111, 109, 95, 116, 111, 95, 108, 105, 115, 116, 32, 108, 105, 115, 116, 95, 116, 111, 95, 97, 116, 111, 109, 32, 105, 110, 116, 101, 103, 101, 114, 95, 116, 111, 95, 108, 105, 115, 116, 32, 108, 105, 115, 116, 95, 116, 111, 95, 105, 110, 116, 101, 103, 101, 114, 32, 114, 101, 118, 101, 114, 115, 101, 32, 115, 117, 109, 32, 115, 111, 114, 116, 32, 117, 115, 111, 114, 116, 32, 108, 97, 115, 116, 32, 116, 104, 114, 111, 119, 32, 101, 114, 114, 111, 114, 32, 101, 120, 105, 116], [43, 43, 32, 45, 45, 32, 109, 97, 120, 32, 109, 105, 110, 32, 110, 116, 104, 32, 110, 116, 104, 116, 97, 105, 108, 32, 109, 101, 109, 98, 101, 114, 32, 115, 101, 113], [115, 101, 116, 101, 108, 101, 109, 101, 110, 116]],
 [[], [43, 32, 45, 32, 110, 111, 116, 32, 97, 98, 115, 32, 104, 100, 32, 116, 108, 32, 108, 101, 110, 103, 116, 104, 32, 116, 117, 112, 108, 101, 95, 115, 105, 122, 101, 32, 105, 115, 95, 105, 110, 116, 101, 103, 101, 114, 32, 105, 115, 95, 97, 116, 111, 109, 32, 105, 115, 95, 116, 117, 112, 108, 101, 32, 105, 115, 95, 108, 105, 115, 116, 32, 105, 115, 95, 112, 105, 100, 32, 105, 115, 95, 114, 101, 102, 101, 114, 101, 110, 99, 101, 32, 105, 115, 95, 102, 117, 110, 99, 116, 105, 111, 110, 32, 105, 115, 95, 98, 111, 111, 108, 101, 97, 110], [43, 32, 45, 32, 42, 32, 100, 105, 118, 32, 114, 101, 109, 32, 61, 61, 32, 47, 61, 32, 61, 58, 61, 32, 61, 47, 61, 32, 60, 32, 61, 60, 32, 62, 32, 62, 61, 32, 97, 110, 100, 32, 111, 114, 32, 120, 111, 114, 32, 101, 108, 101, 109, 101, 110, 116, 32, 105, 115, 95, 102, 117, 110, 99, 116, 105, 111, 110], []],
 [[115, 101, 108, 102, 32, 109, 97, 107, 101, 95, 114, 101, 102, 32, 110, 111, 119], [115, 112, 97, 119, 110, 32, 115, 112, 97, 119, 110, 95, 108, 105, 110, 107, 32, 115, 112, 97, 119, 110, 95, 109, 111, 110, 105, 116, 111, 114, 32, 108, 105, 110, 107, 32, 117, 110, 108, 105, 110, 107, 32, 109, 111, 110, 105, 116, 111, 114, 32, 100, 101, 109, 111, 110, 105, 116, 111, 114, 32, 116, 114, 97, 112, 95, 101, 120, 105, 116, 32, 117, 110, 114, 101, 103, 105, 115, 116, 101, 114, 32, 119, 104, 101, 114, 101, 105, 115, 32, 112, 114, 105, 110, 116], [33, 32, 101, 120, 105, 116, 32, 114, 101, 103, 105, 115, 116, 101, 114], []]]
def hasWord (l name : List UInt8) : Bool := Go.Lib.contains ([32] ++ l ++ [32]) ([32] ++ name ++ [32])
def kindAt (name : List UInt8) (arity : Nat) : Nat -> List (List (List UInt8)) -> Nat
 | _, [] => 0
 | k, r :: rs => if hasWord (r.getD arity []) name = true then k else kindAt name arity (k + 1) rs
def lintKind (name : List UInt8) (arity : Nat) : Nat := if name = [] \/ 3 < arity \/ Go.Lib.contains name [32] = true then 0 else kindAt name arity 0 builtinL
def slotOK (e : Ent) (n : Int) : Bool := decide (0 <= n) && decide (n < e.slots)
def funOK (c : Cod) (i : Ins) : Bool :=
 if 0 <= i.n then (match c.entries[i.n.toNat]? with
  | none => false
  | some e => if i.op = 5 then decide ((i.slots.length : Int) = e.extra) else decide (e.extra = 0) && decide ((i.slots.length : Int) = e.arity)) else false
def numOK (op : UInt8) (n : Int) : Bool := if op = 13 then decide (0 <= n) && decide (n <= 4096) else if op = 17 then decide (0 <= n) && decide (n < 4096) else decide (n = 0) || decide (n = 1)
def textOK (i : Ins) : Bool := if i.op = 10 then decide (lintKind i.text i.slots.length ≠ 0) else decide (lintKind i.text i.slots.length = 2) || decide (i.text = [123, 125]) || (decide (i.text = [124]) && decide (i.slots.length = 2))
def fineF (c : Cod) (e : Ent) (b z : Int) (i : Ins) (f : UInt8) : Bool :=
 if f = 97 then slotOK e i.a else if f = 98 then slotOK e i.b else if f = 99 then slotOK e i.c
 else if f = 107 then decide (0 <= i.n) && decide (i.n < c.consts.length)
 else if f = 102 then funOK c i else if f = 110 then numOK i.op i.n else if f = 116 then textOK i
 else if f = 115 then decide (i.slots.length <= 4096) && i.slots.all (slotOK e) else if f = 108 then decide (b <= i.l) && decide (i.l < z) else true
def bareOK (i : Ins) (fs : List UInt8) : Bool :=
 (fs.contains 97 || decide (i.a = 0)) && (fs.contains 98 || decide (i.b = 0)) && (fs.contains 99 || decide (i.c = 0)) &&
 ((fs.contains 107 || fs.contains 102 || fs.contains 110) || decide (i.n = 0)) && (fs.contains 108 || decide (i.l = 0)) && (fs.contains 116 || decide (i.text = [])) && (fs.contains 115 || decide (i.slots.length = 0))
def insRight (c : Cod) (e : Ent) (b z : Int) (i : Ins) : Bool := !((shpOf i.op).word == []) && ((shpOf i.op).fields.all (fineF c e b z i) && bareOK i (shpOf i.op).fields)
def entOK (c : Cod) (b z : Int) (e : Ent) : Bool :=
 decide (e.pos = b) && decide (b < z) && decide (z <= c.instrs.length) && decide (e.name.length <= 40) && decide (0 <= e.extra) && decide (e.extra <= e.arity) && decide (e.arity <= 12) && decide (e.arity <= e.slots) && decide (e.slots <= 1000)
def endOf (c : Cod) : List Ent -> Int
 | [] => c.instrs.length
 | e :: _ => e.pos
def within (c : Cod) (b z : Int) : List Ins := (c.instrs.take z.toNat).drop b.toNat
def entsOK (c : Cod) : Int -> List Ent -> Bool
 | _, [] => true
 | b, e :: r => entOK c b (endOf c r) e && ((within c b (endOf c r)).all (insRight c e b (endOf c r)) && entsOK c (endOf c r) r)
def codRight (c : Cod) : Bool :=
 decide (c.entries.length <= 16384) && decide (c.instrs.length <= 16384) && decide (c.consts.length <= 16384) && !(decide (c.entries = []) && !decide (c.instrs = [])) && (c.consts.all right && entsOK c 0 c.entries)
end
section
def back : List UInt8 -> Nat
 | [] => 0
 | c :: l => (c.toNat - 48) + 10 * back l
end
section
theorem contains_iff (s sub : List UInt8) : Lib.contains s sub = true ↔ ∃ a b, s = a ++ (sub ++ b) := by
 unfold Lib.contains
 rw [decide_eq_true_eq]
 constructor
 ·intro h
  rcases Lib.index_spec s sub with ⟨h1, _⟩ | ⟨i, h1, h2, h3, _⟩
  ·omega
  ·unfold Lib.occAt at h3
   obtain ⟨b, hb⟩ := List.isPrefixOf_iff_prefix.1 h3
   exact ⟨s.take i, b, by rw [hb, List.take_append_drop]⟩
 ·rintro ⟨a, b, rfl⟩
  rcases Lib.index_spec (a ++ (sub ++ b)) sub with ⟨_, h2⟩ | ⟨i, h1, _⟩
  ·have := h2 a.length (by simp)
   unfold Lib.occAt at this
   rw [List.drop_left, List.isPrefixOf_iff_prefix.2 (List.prefix_append sub b)] at this
   cases this
  ·omega
theorem split32 : ∀ (a b x y : List UInt8), (∀ c, c ∈ a -> c ≠ 32) -> (∀ c, c ∈ b -> c ≠ 32) -> a ++ 32 :: x = b ++ 32 :: y -> a = b /\ x = y
 | [], [], x, y, _, _, h => by simp at h; exact ⟨rfl, h⟩
 | c :: a, [], x, y, ha, _, h => by simp at h; exact absurd h.1 (ha c (by simp))
 | [], c :: b, x, y, _, hb, h => by simp at h; exact absurd h.1.symm (hb c (by simp))
 | c :: a, d :: b, x, y, ha, hb, h => by
  simp only [List.cons_append, List.cons.injEq] at h
  obtain ⟨e1, e2⟩ := split32 a b x y (fun c hc => ha c (by simp [hc])) (fun c hc => hb c (by simp [hc])) h.2
  exact ⟨by rw [h.1, e1], e2⟩
def spaced : List (List UInt8) -> List UInt8
 | [] => [32]
 | w :: ws => 32 :: (w ++ spaced ws)
theorem spaced_cons (ws : List (List UInt8)) : ∃ y, spaced ws = 32 :: y := by cases ws <;> exact ⟨_, rfl⟩
def free32 (w : List UInt8) : Bool := w.all fun c => !(c == 32)
theorem free32_ne {w : List UInt8} (h : free32 w = true) : ∀ c, c ∈ w -> c ≠ 32 := fun c hc => by
 unfold free32 at h
 have := List.all_eq_true.1 h c hc
 simpa using this
theorem spaced_in {name : List UInt8} (hn : free32 name = true) : ∀ (ws : List (List UInt8)) (a b : List UInt8), ws.all free32 = true -> spaced ws = a ++ ((32 :: (name ++ [32])) ++ b) -> name ∈ ws
 | [], a, b, _, h => by
  have := congrArg List.length h
  simp only [spaced, List.length_append, List.length_cons, List.length_nil] at this
  omega
 | w :: ws, [], b, hw, h => by
  simp only [List.all_cons, Bool.and_eq_true] at hw
  obtain ⟨y, hy⟩ := spaced_cons ws
  simp only [spaced, hy, List.nil_append, List.cons_append, List.append_assoc, List.cons.injEq, true_and] at h
  have := (split32 _ _ _ _ (free32_ne hw.1) (free32_ne hn) h).1
  rw [this]; exact List.mem_cons_self
 | w :: ws, x :: a, b, hw, h => by
  simp only [List.all_cons, Bool.and_eq_true] at hw
  simp only [spaced, List.cons_append, List.cons.injEq] at h
  obtain ⟨_, h⟩ := h
  by_cases hl : a.length < w.length
  ·have e1 : (w ++ spaced ws)[a.length]? = some (w[a.length]) := by
    rw [List.getElem?_append_left hl, List.getElem?_eq_getElem hl]
   rw [h, List.getElem?_append_right (Nat.le_refl _), Nat.sub_self] at e1
   simp only [List.cons_append, List.getElem?_cons_zero, Option.some.injEq] at e1
   exact absurd e1.symm (free32_ne hw.1 _ (List.getElem_mem hl))
  ·have e2 : w = a.take w.length := by
    have := congrArg (List.take w.length) h
    rwa [List.take_left, List.take_append_of_le_length (by omega)] at this
   have e3 : spaced ws = a.drop w.length ++ ((32 :: (name ++ [32])) ++ b) := by
    have := congrArg (List.drop w.length) h
    rwa [List.drop_left, List.drop_append_of_le_length (by omega)] at this
   exact List.mem_cons_of_mem _ (spaced_in hn ws _ b hw.2 e3)
theorem spaced_mem {name : List UInt8} : ∀ (ws : List (List UInt8)), name ∈ ws -> ∃ a b, spaced ws = a ++ ((32 :: (name ++ [32])) ++ b)
 | w :: ws, h => by
  rcases List.mem_cons.1 h with rfl | h
  ·obtain ⟨y, hy⟩ := spaced_cons ws
   exact ⟨[], y, by simp [spaced, hy]⟩
  ·obtain ⟨a, b, e⟩ := spaced_mem ws h
   exact ⟨32 :: (w ++ a), b, by simp only [spaced, e, List.cons_append, List.append_assoc]⟩
theorem hasWord_iff {l name : List UInt8} (ws : List (List UInt8)) (hl : [32] ++ l ++ [32] = spaced ws) (hws : ws.all free32 = true) (hn : free32 name = true) : hasWord l name = ws.contains name := by
 rw [Bool.eq_iff_iff]
 unfold hasWord
 rw [contains_iff, hl, List.contains_iff_mem]
 constructor
 ·rintro ⟨a, b, h⟩
  exact spaced_in hn ws a b hws h
 ·intro h
  obtain ⟨a, b, e⟩ := spaced_mem ws h
  exact ⟨a, b, by rw [e]; rfl⟩
theorem contains32 (s : List UInt8) : Lib.contains s [32] = !free32 s := by
 rw [Bool.eq_iff_iff, contains_iff]
 constructor
 ·rintro ⟨a, b, rfl⟩
  simp [free32]
 ·intro h
  have : ∃ c, c ∈ s /\ c = 32 := by
   have h2 : ¬ (∀ c, c ∈ s -> c ≠ 32) := fun hh => by
    have : free32 s = true := by unfold free32; rw [List.all_eq_true]; intro c hc; simpa using hh c hc
    rw [this] at h; cases h
   exact Classical.byContradiction fun h3 => h2 fun c hc e => h3 ⟨c, hc, e⟩
  obtain ⟨c, hc, rfl⟩ := this
  obtain ⟨a, b, e⟩ := List.append_of_mem hc
  exact ⟨a, b, by rw [e]; rfl⟩
def wordsL : List (List (List (List UInt8))) := [[[[]],
  [[]],
  [[]],
  [[]]],
 [[[]],
  [[116, 117, 112, 108, 101, 95, 116, 111, 95, 108, 105, 115, 116], [108, 105, 115, 116, 95, 116, 111, 95, 116, 117, 112, 108, 101], [97, 116, 111, 109, 95, 116, 111, 95, 108, 105, 115, 116], [108, 105, 115, 116, 95, 116, 111, 95, 97, 116, 111, 109], [105, 110, 116, 101, 103, 101, 114, 95, 116, 111, 95, 108, 105, 115, 116], [108, 105, 115, 116, 95, 116, 111, 95, 105, 110, 116, 101, 103, 101, 114], [114, 101, 118, 101, 114, 115, 101], [115, 117, 109], [115, 111, 114, 116], [117, 115, 111, 114, 116], [108, 97, 115, 116], [116, 104, 114, 111, 119], [101, 114, 114, 111, 114], [101, 120, 105, 116]],
  [[43, 43], [45, 45], [109, 97, 120], [109, 105, 110], [110, 116, 104], [110, 116, 104, 116, 97, 105, 108], [109, 101, 109, 98, 101, 114], [115, 101, 113]],
  [[115, 101, 116, 101, 108, 101, 109, 101, 110, 116]]],
 [[[]],
  [[43], [45], [110, 111, 116], [97, 98, 115], [104, 100], [116, 108], [108, 101, 110, 103, 116, 104], [116, 117, 112, 108, 101, 95, 115, 105, 122, 101], [105, 115, 95, 105, 110, 116, 101, 103, 101, 114], [105, 115, 95, 97, 116, 111, 109], [105, 115, 95, 116, 117, 112, 108, 101], [105, 115, 95, 108, 105, 115, 116], [105, 115, 95, 112, 105, 100], [105, 115, 95, 114, 101, 102, 101, 114, 101, 110, 99, 101], [105, 115, 95, 102, 117, 110, 99, 116, 105, 111, 110], [105, 115, 95, 98, 111, 111, 108, 101, 97, 110]],
  [[43], [45], [42], [100, 105, 118], [114, 101, 109], [61, 61], [47, 61], [61, 58, 61], [61, 47, 61], [60], [61, 60], [62], [62, 61], [97, 110, 100], [111, 114], [120, 111, 114], [101, 108, 101, 109, 101, 110, 116], [105, 115, 95, 102, 117, 110, 99, 116, 105, 111, 110]],
  [[]]],
 [[[115, 101, 108, 102], [109, 97, 107, 101, 95, 114, 101, 102], [110, 111, 119]],
  [[115, 112, 97, 119, 110], [115, 112, 97, 119, 110, 95, 108, 105, 110, 107], [115, 112, 97, 119, 110, 95, 109, 111, 110, 105, 116, 111, 114], [108, 105, 110, 107], [117, 110, 108, 105, 110, 107], [109, 111, 110, 105, 116, 111, 114], [100, 101, 109, 111, 110, 105, 116, 111, 114], [116, 114, 97, 112, 95, 101, 120, 105, 116], [117, 110, 114, 101, 103, 105, 115, 116, 101, 114], [119, 104, 101, 114, 101, 105, 115], [112, 114, 105, 110, 116]],
  [[33], [101, 120, 105, 116], [114, 101, 103, 105, 115, 116, 101, 114]],
  [[]]]]
theorem builtin_eq : builtinL.map (fun r => r.map fun l => [32] ++ l ++ [32]) = wordsL.map (fun r => r.map spaced) := by decide +kernel
theorem words_free : wordsL.all (fun r => r.all fun ws => ws.all free32) = true := by decide +kernel
def kindW (name : List UInt8) (arity : Nat) : Nat -> List (List (List (List UInt8))) -> Nat
 | _, [] => 0
 | k, r :: rs => if (r.getD arity []).contains name = true then k else kindW name arity (k + 1) rs
theorem kind_eq {name : List UInt8} {arity : Nat} (hn : free32 name = true) : ∀ (R : List (List (List UInt8))) (S : List (List (List (List UInt8)))) (k : Nat), R.map (fun r => r.map fun l => [32] ++ l ++ [32]) = S.map (fun r => r.map spaced) ->
  S.all (fun r => r.all fun ws => ws.all free32) = true -> (∀ r, r ∈ R -> arity < r.length) -> kindAt name arity k R = kindW name arity k S
 | [], [], _, _, _, _ => rfl
 | [], s :: S, _, h, _, _ => by simp at h
 | r :: R, [], _, h, _, _ => by simp at h
 | r :: R, s :: S, k, h, hf, ha => by
  simp only [List.map_cons, List.cons.injEq] at h
  simp only [List.all_cons, Bool.and_eq_true] at hf
  have hr := ha r (by simp)
  have hl : r.length = s.length := by have := congrArg List.length h.1; simpa using this
  obtain ⟨x, hx⟩ : ∃ x, r[arity]? = some x := ⟨_, List.getElem?_eq_getElem hr⟩
  obtain ⟨ws, hw⟩ : ∃ ws, s[arity]? = some ws := ⟨_, List.getElem?_eq_getElem (by omega)⟩
  have he : [32] ++ x ++ [32] = spaced ws := by
   have := congrArg (fun l => l[arity]?) h.1
   simp only [List.getElem?_map, hx, hw, Option.map_some, Option.some.injEq] at this
   exact this
  have hwf : ws.all free32 = true := List.all_eq_true.1 hf.1 ws (List.mem_of_getElem? hw)
  simp only [kindAt, kindW, List.getD_eq_getElem?_getD, hx, hw, Option.getD_some]
  rw [hasWord_iff ws he hwf hn, kind_eq hn R S (k + 1) h.2 hf.2 (fun r hr => ha r (by simp [hr]))]
theorem lintKind_eq (name : List UInt8) (arity : Nat) : lintKind name arity = if name = [] \/ 3 < arity \/ free32 name = false then 0 else kindW name arity 0 wordsL := by
 unfold lintKind
 rw [contains32]
 by_cases h1 : name = []
 ·rw [if_pos (.inl h1), if_pos (.inl h1)]
 by_cases h2 : 3 < arity
 ·rw [if_pos (.inr (.inl h2)), if_pos (.inr (.inl h2))]
 cases h3 : free32 name with
 | false => rw [if_pos (.inr (.inr rfl)), if_pos (.inr (.inr rfl))]
 | true =>
  rw [if_neg (by simp [h1, h2]), if_neg (by simp [h1, h2])]
  exact kind_eq h3 _ _ _ builtin_eq words_free (by
   have : builtinL.all (fun r => decide (r.length = 4)) = true := by decide +kernel
   intro r hr
   have := List.all_eq_true.1 this r hr
   simp only [decide_eq_true_eq] at this
   omega)
end
end Go.Proofs.YtjmdaeabllkgnaaGreatDoor
