/- Code: what its instructions are, which are right, where they go on: plain. -/
import Derived.Test.YtjmdaeabllkgnaaGreatDoorZ19
import Derived.Test.YtjmdaeabllkgnaaGreatDoorZ14
import Derived.Lib.IndexMore
import Derived.Test.YtjmdaeabllkgnaaGreatDoorZ15
import Derived.Test.YtjmdaeabllkgnaaGreatDoorZ16
set_option linter.unusedVariables false
set_option linter.unusedSimpArgs false
namespace Go.Proofs.YtjmdaeabllkgnaaGreatDoor
open Go Go.Av
section
structure Shp where
 word : List UInt8
 fields : List UInt8
 next : Bool
 deriving DecidableEq
def shps : List Shp := [⟨[], [], false⟩,
 ⟨[99, 111, 110, 115, 116], [97, 107], true⟩,
 ⟨[109, 111, 118, 101], [97, 98], true⟩,
 ⟨[116, 117, 112, 108, 101], [97, 115], true⟩,
 ⟨[99, 111, 110, 115], [97, 98, 99], true⟩,
 ⟨[102, 117, 110], [97, 102, 115], true⟩,
 ⟨[99, 97, 108, 108], [97, 102, 115], true⟩,
 ⟨[116, 97, 105, 108], [102, 115], false⟩,
 ⟨[97, 112, 112, 108, 121], [97, 98, 115], true⟩,
 ⟨[116, 97, 105, 108, 102, 117, 110], [98, 115], false⟩,
 ⟨[98, 105, 102], [97, 116, 115], true⟩,
 ⟨[114, 101, 116, 117, 114, 110], [98], false⟩,
 ⟨[106, 117, 109, 112], [108], false⟩,
 ⟨[105, 115, 116, 117, 112, 108, 101], [98, 110, 108], true⟩,
 ⟨[105, 115, 99, 111, 110, 115], [98, 108], true⟩,
 ⟨[105, 115, 99, 111, 110, 115, 116], [98, 107, 108], true⟩,
 ⟨[105, 115, 115, 97, 109, 101], [98, 99, 108], true⟩,
 ⟨[101, 108, 101, 109], [97, 98, 110], true⟩,
 ⟨[104, 101, 97, 100], [97, 98], true⟩,
 ⟨[114, 101, 115, 116], [97, 98], true⟩,
 ⟨[103, 117, 97, 114, 100], [97, 116, 115, 108], true⟩,
 ⟨[114, 101, 99, 101, 105, 118, 101], [110], true⟩,
 ⟨[110, 101, 120, 116], [97, 108], true⟩,
 ⟨[116, 97, 107, 101], [], true⟩,
 ⟨[115, 107, 105, 112], [108], false⟩,
 ⟨[116, 105, 109, 101], [98], true⟩,
 ⟨[116, 114, 121], [97, 108], true⟩,
 ⟨[117, 110, 116, 114, 121], [], true⟩,
 ⟨[102, 97, 105, 108], [98], false⟩,
 ⟨[114, 97, 105, 115, 101], [98], false⟩]
def shpOf (op : UInt8) : Shp := (shps[op.toNat]?).getD ⟨[], [], false⟩
def bySign (i : Ins) (f : UInt8) : List Int := if f = 98 then [i.b] else if f = 99 then [i.c] else if f = 115 then i.slots else []
def readsF (i : Ins) (fs : List UInt8) : List Int := fs.flatMap (bySign i)
def reads (i : Ins) : List Int := readsF i (shpOf i.op).fields
def writesB (i : Ins) : Bool := [97].isPrefixOf (shpOf i.op).fields
def nextsOf (x : Ins) (pos : Int) : List Int :=
 if (shpOf x.op).next = true then
  if (shpOf x.op).fields.contains 108 = true then (if x.l < pos + 1 then [x.l, pos + 1] else if x.l = pos + 1 then [pos + 1] else [pos + 1, x.l]) else [pos + 1]
 else if (shpOf x.op).fields.contains 108 = true then [x.l] else []
def nexts (c : Cod) (pos : Int) : List Int := if 0 ≤ pos then (match c.instrs[pos.toNat]? with | some x => nextsOf x pos | none => []) else []
def builtinL : List (List (List UInt8)) := [[[], [], [], []],
 [[], [116, 117, 112, 108, 101, 95, 116, 111, 95, 108, 105, 115, 116, 32, 108, 105, 115, 116, 95, 116, 111, 95, 116, 117, 112, 108, 101, 32, 97, 116, 111, 109, 95, 116, 111, 95, 108, 105, 115, 116, 32, 108, 105, 115, 116, 95, 116, 111, 95, 97, 116, 111, 109, 32, 105, 110, 116, 101, 103, 101, 114, 95, 116, 111, 95, 108, 105, 115, 116, 32, 108, 105, 115, 116, 95, 116, 111, 95, 105, 110, 116, 101, 103, 101, 114, 32, 114, 101, 118, 101, 114, 115, 101, 32, 115, 117, 109, 32, 115, 111, 114, 116, 32, 117, 115, 111, 114, 116, 32, 108, 97, 115, 116, 32, 116, 104, 114, 111, 119, 32, 101, 114, 114, 111, 114, 32, 101, 120, 105, 116], [43, 43, 32, 45, 45, 32, 109, 97, 120, 32, 109, 105, 110, 32, 110, 116, 104, 32, 110, 116, 104, 116, 97, 105, 108, 32, 109, 101, 109, 98, 101, 114, 32, 115, 101, 113], [115, 101, 116, 101, 108, 101, 109, 101, 110, 116]],
 [[], [43, 32, 45, 32, 110, 111, 116, 32, 97, 98, 115, 32, 104, 100, 32, 116, 108, 32, 108, 101, 110, 103, 116, 104, 32, 116, 117, 112, 108, 101, 95, 115, 105, 122, 101, 32, 105, 115, 95, 105, 110, 116, 101, 103, 101, 114, 32, 105, 115, 95, 97, 116, 111, 109, 32, 105, 115, 95, 116, 117, 112, 108, 101, 32, 105, 115, 95, 108, 105, 115, 116, 32, 105, 115, 95, 112, 105, 100, 32, 105, 115, 95, 114, 101, 102, 101, 114, 101, 110, 99, 101, 32, 105, 115, 95, 102, 117, 110, 99, 116, 105, 111, 110, 32, 105, 115, 95, 98, 111, 111, 108, 101, 97, 110], [43, 32, 45, 32, 42, 32, 100, 105, 118, 32, 114, 101, 109, 32, 61, 61, 32, 47, 61, 32, 61, 58, 61, 32, 61, 47, 61, 32, 60, 32, 61, 60, 32, 62, 32, 62, 61, 32, 97, 110, 100, 32, 111, 114, 32, 120, 111, 114, 32, 101, 108, 101, 109, 101, 110, 116, 32, 105, 115, 95, 102, 117, 110, 99, 116, 105, 111, 110], []],
 [[115, 101, 108, 102, 32, 109, 97, 107, 101, 95, 114, 101, 102, 32, 110, 111, 119], [115, 112, 97, 119, 110, 32, 115, 112, 97, 119, 110, 95, 108, 105, 110, 107, 32, 115, 112, 97, 119, 110, 95, 109, 111, 110, 105, 116, 111, 114, 32, 108, 105, 110, 107, 32, 117, 110, 108, 105, 110, 107, 32, 109, 111, 110, 105, 116, 111, 114, 32, 100, 101, 109, 111, 110, 105, 116, 111, 114, 32, 116, 114, 97, 112, 95, 101, 120, 105, 116, 32, 117, 110, 114, 101, 103, 105, 115, 116, 101, 114, 32, 119, 104, 101, 114, 101, 105, 115, 32, 112, 114, 105, 110, 116], [33, 32, 101, 120, 105, 116, 32, 114, 101, 103, 105, 115, 116, 101, 114], []]]
def hasWord (l name : List UInt8) : Bool := Go.Lib.contains ([32] ++ l ++ [32]) ([32] ++ name ++ [32])
def kindAt (name : List UInt8) (arity : Nat) : Nat → List (List (List UInt8)) → Nat
 | _, [] => 0
 | k, r :: rs => if hasWord (r.getD arity []) name = true then k else kindAt name arity (k + 1) rs
def lintKind (name : List UInt8) (arity : Nat) : Nat := if name = [] ∨ 3 < arity ∨ Go.Lib.contains name [32] = true then 0 else kindAt name arity 0 builtinL
def slotOK (e : Ent) (n : Int) : Bool := decide (0 ≤ n) && decide (n < e.slots)
def funOK (c : Cod) (i : Ins) : Bool :=
 if 0 ≤ i.n then (match c.entries[i.n.toNat]? with
  | none => false
  | some e => if i.op = 5 then decide ((i.slots.length : Int) = e.extra) else decide (e.extra = 0) && decide ((i.slots.length : Int) = e.arity)) else false
def numOK (op : UInt8) (n : Int) : Bool := if op = 13 then decide (0 ≤ n) && decide (n ≤ 4096) else if op = 17 then decide (0 ≤ n) && decide (n < 4096) else decide (n = 0) || decide (n = 1)
def textOK (i : Ins) : Bool := if i.op = 10 then decide (lintKind i.text i.slots.length ≠ 0) else decide (lintKind i.text i.slots.length = 2) || decide (i.text = [123, 125]) || (decide (i.text = [124]) && decide (i.slots.length = 2))
def fineF (c : Cod) (e : Ent) (b z : Int) (i : Ins) (f : UInt8) : Bool :=
 if f = 97 then slotOK e i.a else if f = 98 then slotOK e i.b else if f = 99 then slotOK e i.c
 else if f = 107 then decide (0 ≤ i.n) && decide (i.n < c.consts.length)
 else if f = 102 then funOK c i else if f = 110 then numOK i.op i.n else if f = 116 then textOK i
 else if f = 115 then decide (i.slots.length ≤ 4096) && i.slots.all (slotOK e) else if f = 108 then decide (b ≤ i.l) && decide (i.l < z) else true
def bareOK (i : Ins) (fs : List UInt8) : Bool :=
 (fs.contains 97 || decide (i.a = 0)) && (fs.contains 98 || decide (i.b = 0)) && (fs.contains 99 || decide (i.c = 0)) &&
 ((fs.contains 107 || fs.contains 102 || fs.contains 110) || decide (i.n = 0)) && (fs.contains 108 || decide (i.l = 0)) && (fs.contains 116 || decide (i.text = [])) && (fs.contains 115 || decide (i.slots.length = 0))
def insRight (c : Cod) (e : Ent) (b z : Int) (i : Ins) : Bool := !((shpOf i.op).word == []) && ((shpOf i.op).fields.all (fineF c e b z i) && bareOK i (shpOf i.op).fields)
def entOK (c : Cod) (b z : Int) (e : Ent) : Bool :=
 decide (e.pos = b) && decide (b < z) && decide (z ≤ c.instrs.length) && decide (e.name.length ≤ 40) && decide (0 ≤ e.extra) && decide (e.extra ≤ e.arity) && decide (e.arity ≤ 12) && decide (e.arity ≤ e.slots) && decide (e.slots ≤ 1000)
def endOf (c : Cod) : List Ent → Int
 | [] => c.instrs.length
 | e :: _ => e.pos
def within (c : Cod) (b z : Int) : List Ins := (c.instrs.take z.toNat).drop b.toNat
def entsOK (c : Cod) : Int → List Ent → Bool
 | _, [] => true
 | b, e :: r => entOK c b (endOf c r) e && ((within c b (endOf c r)).all (insRight c e b (endOf c r)) && entsOK c (endOf c r) r)
def codRight (c : Cod) : Bool :=
 decide (c.entries.length ≤ 16384) && decide (c.instrs.length ≤ 16384) && decide (c.consts.length ≤ 16384) && !(decide (c.entries = []) && !decide (c.instrs = [])) && (c.consts.all right && entsOK c 0 c.entries)
end
section
def back : List UInt8 → Nat
 | [] => 0
 | c :: l => (c.toNat - 48) + 10 * back l
theorem val_inj : ∀ {a b : List UInt32}, a.length = b.length → val a = val b → a = b
 | [], [], _, _ => rfl
 | x :: a, y :: b, hl, h => by
  simp only [val] at h
  have hx := x.toNat_lt
  have hy := y.toNat_lt
  have h1 : x.toNat = y.toNat := by omega
  have h2 : val a = val b := by omega
  rw [UInt32.toNat_inj.1 h1, val_inj (by simpa using hl) h2]
end
section
end
end Go.Proofs.YtjmdaeabllkgnaaGreatDoor
