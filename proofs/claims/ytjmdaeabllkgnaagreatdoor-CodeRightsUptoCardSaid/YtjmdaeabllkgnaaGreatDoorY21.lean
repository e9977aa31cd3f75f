/- The text of an instruction, plainly: of right ones it tells which they are. -/
import Derived.Test.YtjmdaeabllkgnaaGreatDoorY20
import Derived.Test.YtjmdaeabllkgnaaGreatDoorY10
import Derived.ProofKit
import Derived.OpenShut
import Derived.Deep.DeepHandedRow
set_option linter.unusedVariables false
set_option linter.unusedSimpArgs false
namespace Go.Proofs.YtjmdaeabllkgnaaGreatDoor
open Go Go.Av
def atomTm (s : List UInt8) : Term := .mk 2 false [] s 0 [] []
def nI (c : UInt8) (n : Int) : List UInt8 := 32 :: c :: itoa n
def slotsX : List Int -> List UInt8
 | [] => [41]
 | n :: l => 32 :: 115 :: (itoa n ++ slotsX l)
def slotsT : List Int -> List UInt8
 | [] => [32, 40, 41]
 | n :: l => 32 :: 40 :: 115 :: (itoa n ++ slotsX l)
def pieceT (i : Ins) (f : UInt8) : List UInt8 :=
 if f = 97 then nI 115 i.a else if f = 98 then nI 115 i.b else if f = 99 then nI 115 i.c
 else if f = 107 \/ f = 102 \/ f = 110 then nI 35 i.n
 else if f = 116 then 32 :: text (atomTm i.text)
 else if f = 115 then slotsT i.slots else if f = 108 then nI 64 i.l else []
def textOf (i : Ins) : List UInt8 := if (shpOf i.op).word = [] then [63] else (shpOf i.op).word ++ (shpOf i.op).fields.flatMap (pieceT i)
theorem op_all {p : UInt8 -> Bool} (h : ∀ k : Fin 256, p (UInt8.ofNat k) = true) (op : UInt8) : p op = true := by
 have := h ⟨op.toNat, op.toNat_lt⟩
 simpa using this
end Go.Proofs.YtjmdaeabllkgnaaGreatDoor
namespace Go.Proofs.YtjmdaeabllkgnaaGreatDoor
open Go Go.Av
def rWords : List (List UInt8) := [[99, 111, 110, 115, 116], [109, 111, 118, 101], [116, 117, 112, 108, 101], [99, 111, 110, 115], [102, 117, 110], [99, 97, 108, 108], [116, 97, 105, 108], [97, 112, 112, 108, 121], [116, 97, 105, 108, 102, 117, 110], [98, 105, 102], [114, 101, 116, 117, 114, 110], [106, 117, 109, 112], [105, 115, 116, 117, 112, 108, 101], [105, 115, 99, 111, 110, 115], [105, 115, 99, 111, 110, 115, 116], [105, 115, 115, 97, 109, 101], [101, 108, 101, 109], [104, 101, 97, 100], [114, 101, 115, 116], [103, 117, 97, 114, 100], [114, 101, 99, 101, 105, 118, 101], [110, 101, 120, 116], [116, 97, 107, 101], [115, 107, 105, 112], [116, 105, 109, 101], [116, 114, 121], [117, 110, 116, 114, 121], [102, 97, 105, 108], [114, 97, 105, 115, 101]]
def rHas : List (List UInt8) := [[65, 78], [65, 66], [65, 83], [65, 66, 67], [65, 78, 83], [65, 78, 83], [78, 83], [65, 66, 83], [66, 83], [65, 84, 83], [66], [76], [66, 78, 76], [66, 76], [66, 78, 76], [66, 67, 76], [65, 66, 78], [65, 66], [65, 66], [65, 84, 83, 76], [78], [65, 76], [], [76], [66], [65, 76], [], [66], [66]]
def rW (op : UInt8) : List UInt8 := if op.toNat < 1 \/ 29 < op.toNat then [] else rWords.getD (op.toNat - 1) []
def rF (op : UInt8) : List UInt8 := if op.toNat < 1 \/ 29 < op.toNat then [] else rHas.getD (op.toNat - 1) []
def rH (op c : UInt8) : Bool := (rF op).contains c
def nsg (op : UInt8) : UInt8 := if op = 1 \/ op = 15 then 107 else if op = 5 \/ op = 6 \/ op = 7 then 102 else 110
def optL (p : Bool) (c : UInt8) : List UInt8 := if p = true then [c] else []
def formL (op : UInt8) : List UInt8 := optL (rH op 65) 97 ++ (optL (rH op 66) 98 ++ (optL (rH op 67) 99 ++ (optL (rH op 78) (nsg op) ++ (optL (rH op 84) 116 ++ (optL (rH op 83) 115 ++ optL (rH op 76) 108)))))
theorem fields_form' : ∀ k : Fin 256, decide ((shpOf (UInt8.ofNat k)).fields = formL (UInt8.ofNat k)) = true := by decide +kernel
theorem fields_form (op : UInt8) : (shpOf op).fields = formL op := of_decide_eq_true (op_all (p := fun op => decide ((shpOf op).fields = formL op)) fields_form' op)
theorem word_form' : ∀ k : Fin 256, decide ((shpOf (UInt8.ofNat k)).word = rW (UInt8.ofNat k)) = true := by decide +kernel
theorem word_form (op : UInt8) : (shpOf op).word = rW op := of_decide_eq_true (op_all (p := fun op => decide ((shpOf op).word = rW op)) word_form' op)
theorem opt_map {α : Type} (p : Bool) (c : UInt8) (f : UInt8 -> List α) : (optL p c).flatMap f = if p = true then f c else [] := by
 cases p <;> simp [optL]
theorem form_map {α : Type} (op : UInt8) (f : UInt8 -> List α) : (formL op).flatMap f = (if rH op 65 = true then f 97 else []) ++ ((if rH op 66 = true then f 98 else []) ++ ((if rH op 67 = true then f 99 else []) ++ ((if rH op 78 = true then f (nsg op) else []) ++ ((if rH op 84 = true then f 116 else []) ++ ((if rH op 83 = true then f 115 else []) ++ (if rH op 76 = true then f 108 else [])))))) := by
 unfold formL; simp only [List.flatMap_append, opt_map]
theorem nsg_cases (op : UInt8) : nsg op = 107 \/ nsg op = 102 \/ nsg op = 110 := by
 unfold nsg; split
 ·exact .inl rfl
 split
 ·exact .inr (.inl rfl)
 ·exact .inr (.inr rfl)
def rReads (i : Ins) : List Int := (if rH i.op 66 = true then [i.b] else []) ++ ((if rH i.op 67 = true then [i.c] else []) ++ (if rH i.op 83 = true then i.slots else []))
theorem reads_eq (i : Ins) : reads i = rReads i := by
 unfold reads readsF rReads
 rw [fields_form, form_map]
 have h1 : bySign i 97 = [] := rfl
 have h2 : bySign i 98 = [i.b] := rfl
 have h3 : bySign i 99 = [i.c] := rfl
 have h4 : bySign i (nsg i.op) = [] := by rcases nsg_cases i.op with h | h | h <;> rw [h] <;> rfl
 have h5 : bySign i 116 = [] := rfl
 have h6 : bySign i 115 = i.slots := rfl
 have h7 : bySign i 108 = [] := rfl
 rw [h1, h2, h3, h4, h5, h6, h7]
 simp only [ite_self, List.nil_append, List.append_nil]
def goesB (op : UInt8) : Bool := !decide (rW op = []) && !(decide (op = 7) || decide (op = 9) || decide (op = 11) || decide (op = 28) || decide (op = 29) || decide (op = 12) || decide (op = 24))
theorem next_form' : ∀ k : Fin 256, decide ((shpOf (UInt8.ofNat k)).next = goesB (UInt8.ofNat k)) = true := by decide +kernel
theorem next_form (op : UInt8) : (shpOf op).next = goesB op := of_decide_eq_true (op_all (p := fun op => decide ((shpOf op).next = goesB op)) next_form' op)
theorem line_form' : ∀ k : Fin 256, decide ((shpOf (UInt8.ofNat k)).fields.contains 108 = rH (UInt8.ofNat k) 76) = true := by decide +kernel
theorem line_form (op : UInt8) : (shpOf op).fields.contains 108 = rH op 76 := of_decide_eq_true (op_all (p := fun op => decide ((shpOf op).fields.contains 108 = rH op 76)) line_form' op)
theorem stop_form' : ∀ k : Fin 256, (goesB (UInt8.ofNat k) || decide (rH (UInt8.ofNat k) 76 = (decide (UInt8.ofNat k = 12) || decide (UInt8.ofNat k = 24)))) = true := by decide +kernel
theorem stop_form (op : UInt8) : (goesB op || decide (rH op 76 = (decide (op = 12) || decide (op = 24)))) = true := op_all (p := fun op => goesB op || decide (rH op 76 = (decide (op = 12) || decide (op = 24)))) stop_form' op
def rNexts (x : Ins) (pos : Int) : List Int :=
 if x.op = 7 \/ x.op = 9 \/ x.op = 11 \/ x.op = 28 \/ x.op = 29 then [] else if x.op = 12 \/ x.op = 24 then [x.l]
 else if rW x.op = [] then [] else if rH x.op 76 = false \/ x.l = pos + 1 then [pos + 1] else if x.l < pos + 1 then [x.l, pos + 1] else [pos + 1, x.l]
theorem nexts_eq (x : Ins) (pos : Int) : nextsOf x pos = rNexts x pos := by
 unfold nextsOf rNexts
 rw [next_form, line_form]
 cases hg : goesB x.op with
 | true =>
  unfold goesB at hg
  simp only [Bool.and_eq_true, Bool.not_eq_true', Bool.or_eq_false_iff, decide_eq_false_iff_not] at hg
  obtain ⟨hw, ⟨⟨⟨⟨⟨h7, h9⟩, h11⟩, h28⟩, h29⟩, h12⟩, h24⟩ := hg
  have e1 : ¬(x.op = 7 \/ x.op = 9 \/ x.op = 11 \/ x.op = 28 \/ x.op = 29) := by simp [h7, h9, h11, h28, h29]
  have e2 : ¬(x.op = 12 \/ x.op = 24) := by simp [h12, h24]
  rw [if_pos rfl, if_neg e1, if_neg e2, if_neg hw]
  cases hl : rH x.op 76 with
  | false => simp
  | true =>
   simp only [if_true, Bool.true_eq_false, false_or]
   split
   ·rename_i h; rw [if_neg (by omega)]
   ·split
    ·rfl
    ·rfl
 | false =>
  have hs := stop_form x.op
  rw [hg, Bool.false_or, decide_eq_true_eq] at hs
  rw [if_neg (by simp), hs]
  unfold goesB at hg
  by_cases h5 : x.op = 7 \/ x.op = 9 \/ x.op = 11 \/ x.op = 28 \/ x.op = 29
  ·rw [if_pos h5]
   rcases h5 with h | h | h | h | h <;> rw [h] <;> rfl
  ·rw [if_neg h5]
   by_cases h2 : x.op = 12 \/ x.op = 24
   ·rw [if_pos h2, if_pos (by simpa using h2)]
   ·rw [if_neg h2, if_neg (by simpa using h2)]
    simp only [not_or] at h5 h2
    simp only [h5, h2, decide_false, Bool.or_false, Bool.not_false, Bool.and_true, Bool.not_eq_false', decide_eq_true_eq] at hg
    rw [if_pos hg]
def rBare (i : Ins) : Bool := (rH i.op 65 || decide (i.a = 0)) && (rH i.op 66 || decide (i.b = 0)) && (rH i.op 67 || decide (i.c = 0)) && (rH i.op 78 || decide (i.n = 0)) && (rH i.op 76 || decide (i.l = 0)) && (rH i.op 84 || decide (i.text = [])) && (rH i.op 83 || decide (i.slots.length = 0))
def rNamed (c : Cod) (i : Ins) : Bool :=
 if i.op = 1 \/ i.op = 15 then decide (0 <= i.n) && decide (i.n < c.consts.length)
 else if i.op = 5 \/ i.op = 6 \/ i.op = 7 then funOK c i
 else if i.op = 10 \/ i.op = 20 then textOK i
 else if i.op = 13 \/ i.op = 17 \/ i.op = 21 then numOK i.op i.n else true
def rRight (c : Cod) (e : Ent) (b z : Int) (i : Ins) : Bool :=
 !decide (rW i.op = []) && rBare i && decide (i.slots.length <= 4096) && rNamed c i && !(rH i.op 76 && (decide (i.l < b) || decide (z <= i.l))) && !(decide (i.a < 0) || (decide (e.slots <= i.a) && rH i.op 65)) && (rReads i).all (slotOK e)
theorem contains_form' : ∀ k : Fin 256, (decide ((shpOf (UInt8.ofNat k)).fields.contains 97 = rH (UInt8.ofNat k) 65) && decide ((shpOf (UInt8.ofNat k)).fields.contains 98 = rH (UInt8.ofNat k) 66) && decide ((shpOf (UInt8.ofNat k)).fields.contains 99 = rH (UInt8.ofNat k) 67) && decide (((shpOf (UInt8.ofNat k)).fields.contains 107 || (shpOf (UInt8.ofNat k)).fields.contains 102 || (shpOf (UInt8.ofNat k)).fields.contains 110) = rH (UInt8.ofNat k) 78) && decide ((shpOf (UInt8.ofNat k)).fields.contains 116 = rH (UInt8.ofNat k) 84) && decide ((shpOf (UInt8.ofNat k)).fields.contains 115 = rH (UInt8.ofNat k) 83)) = true := by decide +kernel
theorem bare_eq (i : Ins) : bareOK i (shpOf i.op).fields = rBare i := by
 have h := op_all (p := fun op => (decide ((shpOf op).fields.contains 97 = rH op 65) && decide ((shpOf op).fields.contains 98 = rH op 66) && decide ((shpOf op).fields.contains 99 = rH op 67) && decide (((shpOf op).fields.contains 107 || (shpOf op).fields.contains 102 || (shpOf op).fields.contains 110) = rH op 78) && decide ((shpOf op).fields.contains 116 = rH op 84) && decide ((shpOf op).fields.contains 115 = rH op 83))) contains_form' i.op
 simp only [Bool.and_eq_true, decide_eq_true_eq] at h
 obtain ⟨⟨⟨⟨⟨h1, h2⟩, h3⟩, h4⟩, h5⟩, h6⟩ := h
 unfold bareOK rBare
 rw [h1, h2, h3, h4, h5, h6, line_form]
def opt (p b : Bool) : Bool := !p || b
theorem opt_all (p : Bool) (c : UInt8) (f : UInt8 -> Bool) : (optL p c).all f = opt p (f c) := by cases p <;> simp [optL, opt]
def opsForm (op : UInt8) : Bool :=
 decide (rH op 78 = (decide (op = 1) || decide (op = 15) || decide (op = 5) || decide (op = 6) || decide (op = 7) || decide (op = 13) || decide (op = 17) || decide (op = 21))) && decide (rH op 84 = (decide (op = 10) || decide (op = 20)))
theorem ops_form' : ∀ k : Fin 256, opsForm (UInt8.ofNat k) = true := by decide +kernel
theorem named_eq (c : Cod) (e : Ent) (b z : Int) (i : Ins) : (opt (rH i.op 78) (fineF c e b z i (nsg i.op)) && opt (rH i.op 84) (fineF c e b z i 116)) = rNamed c i := by
 have h := op_all (p := opsForm) ops_form' i.op
 unfold opsForm at h
 simp only [Bool.and_eq_true, decide_eq_true_eq] at h
 obtain ⟨h1, h2⟩ := h
 have f1 : fineF c e b z i 107 = (decide (0 <= i.n) && decide (i.n < c.consts.length)) := rfl
 have f2 : fineF c e b z i 102 = funOK c i := rfl
 have f3 : fineF c e b z i 110 = numOK i.op i.n := rfl
 have f4 : fineF c e b z i 116 = textOK i := rfl
 unfold rNamed nsg
 rw [h1, h2, f4]
 by_cases k1 : i.op = 1 \/ i.op = 15
 ·rw [if_pos k1, if_pos k1, f1]
  rcases k1 with k | k <;> simp [k, opt]
 rw [if_neg k1, if_neg k1]
 by_cases k2 : i.op = 5 \/ i.op = 6 \/ i.op = 7
 ·rw [if_pos k2, if_pos k2, f2]
  rcases k2 with k | k | k <;> simp [k, opt]
 rw [if_neg k2, if_neg k2, f3]
 simp only [not_or] at k1 k2
 by_cases k3 : i.op = 10 \/ i.op = 20
 ·rw [if_pos k3]
  rcases k3 with k | k <;> simp [k, opt]
 rw [if_neg k3]
 by_cases k4 : i.op = 13 \/ i.op = 17 \/ i.op = 21
 ·rw [if_pos k4]
  rcases k4 with k | k | k <;> simp [k, opt]
 rw [if_neg k4]
 simp only [not_or] at k3 k4
 simp [k1, k2, k3, k4, opt]
theorem right_eq (c : Cod) (e : Ent) (b z : Int) (i : Ins) : insRight c e b z i = rRight c e b z i := by
 unfold insRight
 rw [bare_eq, word_form, fields_form]
 unfold formL
 simp only [List.all_append, opt_all]
 have hn := named_eq c e b z i
 have f1 : fineF c e b z i 97 = slotOK e i.a := rfl
 have f2 : fineF c e b z i 98 = slotOK e i.b := rfl
 have f3 : fineF c e b z i 99 = slotOK e i.c := rfl
 have f6 : fineF c e b z i 115 = (decide (i.slots.length <= 4096) && i.slots.all (slotOK e)) := rfl
 have f7 : fineF c e b z i 108 = (decide (b <= i.l) && decide (i.l < z)) := rfl
 rw [f1, f2, f3, f6, f7]
 unfold rRight rReads
 rw [<- hn]
 have hw : (rW i.op == []) = decide (rW i.op = []) := by
  rw [Bool.eq_iff_iff]; simp
 rw [hw]
 generalize fineF c e b z i (nsg i.op) = x at *
 generalize fineF c e b z i 116 = y at *
 unfold rBare
 rw [Bool.eq_iff_iff]
 cases rH i.op 65 <;> cases rH i.op 66 <;> cases rH i.op 67 <;> cases rH i.op 78 <;> cases rH i.op 84 <;> cases rH i.op 83 <;> cases rH i.op 76 <;>
  simp only [opt, slotOK, Bool.not_true, Bool.not_false, Bool.false_or, Bool.true_or, Bool.true_and, Bool.false_and, Bool.and_true, Bool.and_false, if_true, if_false, Bool.false_eq_true, List.nil_append, List.append_nil, List.cons_append, List.all_cons, List.all_nil, Bool.and_eq_true, Bool.or_eq_true, Bool.not_eq_true', Bool.or_eq_false_iff, Bool.and_eq_false_iff, decide_eq_true_eq, decide_eq_false_iff_not, Bool.or_false] <;>
  constructor <;> intro h <;> simp_all <;> omega
end Go.Proofs.YtjmdaeabllkgnaaGreatDoor
namespace Go.Av
open Go Go.RowKit
variable {H : Type}
mutual
def avW : DataW H -> AV
 | .lit (.bool b) => .bool b
 | .lit (.int k n) => .int k n
 | .lit (.string s) => .str s
 | .lit _ => .undef
 | .nil => .sl .none [] []
 | .slice elems _ => .sl .none (avWs elems) []
 | .agg parts => .agg (flatsW parts)
 | _ => .undef
def avWs : List (DataW H) -> List AV
 | [] => []
 | d :: r => avW d :: avWs r
def flatsW : List (DataW H) -> List AV
 | [] => []
 | d :: r => flat (avW d) ++ flatsW r
end
theorem avWs_map (l : List (DataW H)) : avWs l = l.map avW := by
 induction l with
 | nil => simp [avWs]
 | cons d r ih => simp [avWs, ih]
def tiles (P : Program) : Nat -> List Field -> Nat -> Bool
 | k, [], n => decide (k = n)
 | k, f :: fs, n => decide (f.offset = k) && tiles P (k + P.cellsOf f.type) fs n
def closedT (P : Program) (S : List TypeId) : Bool :=
 S.all fun t => match P.underlying t with
  | some .bool | some (.int _) | some .string => true
  | some (.slice e) => S.contains e && decide (0 < P.cellsOf e)
  | some (.struct fs) => (fs.toList.all fun f => S.contains f.type) && tiles P 0 fs.toList (P.cellsOf t)
  | some (.array n e) => S.contains e && decide (n * P.cellsOf e = P.cellsOf t)
  | _ => false
structure CL (K : Ctx) (cs : List AV) (vs : List Value) : Prop where
 size : vs.length = cs.length
 one : ∀ c, c ∈ cs -> one c = true
 at_ : ∀ j (h : j < cs.length), VR K cs[j] (vs.getD j Go.undef)
theorem CL.one1 {K : Ctx} {a : AV} {v : Value} (h : VR K a v) (h1 : Av.one a = true) : CL K [a] [v] :=
 ⟨rfl, fun c hc => by simp at hc; subst hc; exact h1, fun j hj => by
   have : j = 0 := by simpa using hj
   subst this; exact h⟩
theorem CL.append {K : Ctx} {a b : List AV} {v u : List Value} (h : CL K a v) (k : CL K b u) : CL K (a ++ b) (v ++ u) := by
 have h1 := h.size
 refine ⟨by simp [h.size, k.size], fun c hc => ?_, fun j hj => ?_⟩
 ·rcases List.mem_append.1 hc with hc | hc
  ·exact h.one c hc
  ·exact k.one c hc
 ·by_cases hja : j < a.length
  ·rw [List.getElem_append_left hja]
   have := h.at_ j hja
   simpa [List.getElem?_append_left (show j < v.length by omega)] using this
  ·rw [List.getElem_append_right (by omega)]
   have := k.at_ (j - a.length) (by simp at hj; omega)
   simpa [List.getElem?_append_right (show v.length <= j by omega), h1] using this
theorem CL.nil {K : Ctx} : CL K [] [] := ⟨rfl, (fun c hc => by cases hc), (fun j hj => by cases hj)⟩
theorem CL.flatMap {α : Type} {K : Ctx} {f : α -> List AV} {g : α -> List Value} : ∀ (l : List α), (∀ x, x ∈ l -> CL K (f x) (g x)) -> CL K (l.flatMap f) (l.flatMap g)
 | [], _ => CL.nil
 | x :: l, h => by
  rw [List.flatMap_cons, List.flatMap_cons]
  exact (h x (by simp)).append (CL.flatMap l fun y hy => h y (by simp [hy]))
theorem VR.ofCL {K : Ctx} {a : AV} {cs : List Value} (h : CL K (flat a) cs) (h0 : flat a = [a]) : ∃ v, cs = [v] /\ VR K a v := by
 rw [h0] at h
 have h1 := h.size
 match cs, h1 with
 | [v], _ => exact ⟨v, rfl, h.at_ 0 (by simp)⟩
def tyW (P : Program) : Nat -> TypeId -> DataW H -> Prop
 | 0, _, _ => False
 | n + 1, t, d => match P.underlying t with
  | some .bool => ∃ b, d = .lit (.bool b)
  | some (.int k) => ∃ m, d = .lit (.int k m) /\ (Lit.int k m).wf = true
  | some .string => ∃ s, d = .lit (.string s) /\ s.length <= maxLen
  | some (.slice e) => d = .nil \/ ∃ xs sp, d = .slice xs sp /\ ∀ x, x ∈ xs -> tyW P n e x
  | some (.struct fs) => ∃ ds, d = .agg ds /\ ds.length = fs.size /\ ∀ (i : Nat) (f : Field) x, fs[i]? = some f -> ds[i]? = some x -> tyW P n f.type x
  | some (.array m e) => ∃ ds, d = .agg ds /\ ds.length = m /\ ∀ x, x ∈ ds -> tyW P n e x
  | _ => False
section read
variable {enc : TypeId × Value -> H} {P : Program} {w : World} {held : Bool} {K : Ctx} {S : List TypeId}
theorem fields_read {r : TypeId -> List Value -> Option (DataW H × List MemPlace)} {total : Nat} {cs : List Value}
  (hr : ∀ t cs x, t ∈ S -> r t cs = some x -> CL K (flat (avW x.1)) cs) : ∀ (fs : List Field) (xs : List (DataW H × List MemPlace)) (k : Nat), (∀ f, f ∈ fs -> f.type ∈ S) -> tiles P k fs total = true -> xs.length = fs.length ->
  (∀ (i : Nat) (f : Field), fs[i]? = some f -> r f.type ((cs.drop f.offset).take (P.cellsOf f.type)) = xs[i]?) -> cs.length = total -> CL K (flatsW (xs.map (·.1))) (cs.drop k)
 | [], [], k, _, ht, _, _, hl => by
  simp only [tiles, decide_eq_true_eq] at ht
  rw [List.drop_eq_nil_of_le (by omega)]
  exact CL.nil
 | f :: fs, x :: xs, k, hS, ht, hlen, hx, hl => by
  simp only [tiles, Bool.and_eq_true, decide_eq_true_eq] at ht
  have h0 := hx 0 f rfl
  simp only [List.getElem?_cons_zero, ht.1] at h0
  have h1 := hr _ _ _ (hS f (by simp)) h0
  have h2 := fields_read hr fs xs (k + P.cellsOf f.type) (fun g hg => hS g (by simp [hg])) ht.2 (by simpa using hlen) (fun i g hg => by have := hx (i + 1) g (by simpa using hg); simpa using this) hl
  have e : cs.drop k = (cs.drop k).take (P.cellsOf f.type) ++ cs.drop (k + P.cellsOf f.type) := by
   rw [<- List.drop_drop, List.take_append_drop]
  rw [e]
  simp only [List.map_cons, flatsW]
  exact h1.append h2
 | [], _ :: _, _, _, _, h, _, _ => by cases h
 | _ :: _, [], _, _, _, h, _, _ => by cases h
theorem items_read {r : List Value -> Option (DataW H × List MemPlace)} {n : Nat} {cs : List Value}
  (hr : ∀ cs x, r cs = some x -> CL K (flat (avW x.1)) cs) : ∀ (xs : List (DataW H × List MemPlace)) (k : Nat),
  (∀ i, i < xs.length -> r ((cs.drop ((k + i) * n)).take n) = xs[i]?) -> cs.length = (k + xs.length) * n -> CL K (flatsW (xs.map (·.1))) (cs.drop (k * n))
 | [], k, _, hl => by
  rw [List.drop_eq_nil_of_le (by simp only [List.length_nil, Nat.add_zero] at hl; omega)]
  exact CL.nil
 | x :: xs, k, hx, hl => by
  have h0 := hx 0 (by simp)
  simp only [List.getElem?_cons_zero, Nat.add_zero] at h0
  have h1 := hr _ _ h0
  have h2 := items_read hr xs (k + 1) (fun i hi => by have := hx (i + 1) (by simpa using hi); simpa [Nat.add_assoc, Nat.add_comm 1 i] using this) (by rw [hl, List.length_cons]; congr 1; omega)
  have e : cs.drop (k * n) = (cs.drop (k * n)).take n ++ cs.drop ((k + 1) * n) := by
   rw [Nat.succ_mul, <- List.drop_drop, List.take_append_drop]
  rw [e]
  simp only [List.map_cons, flatsW]
  exact h1.append h2
theorem read_all (hS : closedT P S = true) (hK : ∀ b o v, w.cell? ⟨b, o, none⟩ = some v -> K.imm b o = some v) : ∀ (fuel : Nat) (t : TypeId) (cs : List Value) (x : DataW H × List MemPlace), t ∈ S ->
  DataW.trod enc P w 0 (fun _ => true) held fuel t cs = some x -> tyW P fuel t x.1 /\ CL K (flat (avW x.1)) cs /\ isv (avW x.1) = true := by
 intro fuel
 induction fuel with
 | zero => intro t cs x _ h; simp [DataW.trod] at h
 | succ n ih =>
  intro t cs x htS h
  have hc := List.all_eq_true.1 hS t htS
  unfold tyW
  split at hc
  ·rename_i ht
   obtain ⟨b, rfl, rfl⟩ := DataW.trod_bool ht h
   simp only [avW]
   exact ⟨⟨b, rfl⟩, CL.one1 (.bool b) rfl, rfl⟩
  ·rename_i k ht
   obtain ⟨m, rfl, rfl, hw⟩ := DataW.trod_int ht h
   simp only [avW]
   exact ⟨⟨m, rfl, hw⟩, CL.one1 (.int k m) rfl, rfl⟩
  ·rename_i ht
   obtain ⟨s, rfl, rfl, hw⟩ := DataW.trod_string ht h
   simp only [avW]
   exact ⟨⟨_, rfl, by simpa using hw⟩, CL.one1 (.str s.data.toList) rfl, rfl⟩
  ·rename_i e ht
   simp only [Bool.and_eq_true, decide_eq_true_eq] at hc
   have heS : e ∈ S := by simpa using hc.1
   rcases DataW.trod_slice ht h with ⟨rfl, rfl⟩ | ⟨a, len, cap, elems, rest, m, hm, rfl, rfl, _, hlc, hml, hlen, hel, hsp, _⟩
   ·exact ⟨.inl rfl, by simp only [avW]; exact CL.one1 (.sl0 none) rfl, by simp only [avW]; rfl⟩
   ·have hmn : m = n := by omega
    subst hmn
    have hel2 : ∀ i (hi : i < elems.length), ∃ cs, w.cells? 0 (a.add (i * P.cellsOf e)) (P.cellsOf e) = some cs /\ DataW.trod enc P w 0 (fun _ => true) held m e cs = some elems[i] := fun i hi => by
     have h1 := hel i (by omega)
     rw [List.getElem?_eq_getElem hi, Option.bind_eq_some_iff] at h1
     exact h1
    refine ⟨.inr ⟨_, _, rfl, fun d hd => ?_⟩, ?_, rfl⟩
    ·obtain ⟨y, hy, rfl⟩ := List.mem_map.1 hd
     obtain ⟨i, hi, rfl⟩ := List.getElem_of_mem hy
     obtain ⟨cs, _, h2⟩ := hel2 i hi
     exact (ih e cs _ heS h2).1
    ·simp only [avW]
     refine CL.one1 ?_ rfl
     rw [avWs_map, List.map_map]
     by_cases hcap : cap = 0
     ·have : elems = [] := List.eq_nil_of_length_eq_zero (by omega)
      subst this
      have hl0 : len = 0 := by omega
      subst hcap hl0
      exact .sl0 (some a)
     ·obtain ⟨b, off, spot⟩ := a
      have hspot : spot = none := by
       have h0 : ∃ c0, w.cell? ⟨b, off, spot⟩ = some c0 := by
        by_cases hl0 : len = 0
        ·obtain ⟨hrl, hr⟩ := hsp rfl
         have h1 := hr 0 (by omega)
         obtain ⟨y, hy⟩ : ∃ y, rest[0]? = some y := ⟨_, List.getElem?_eq_getElem (by omega)⟩
         rw [hy, Option.bind_eq_some_iff] at h1
         obtain ⟨cs, h2, _⟩ := h1
         obtain ⟨_, hcl, hcc⟩ := World.cells?_some h2
         have h3 := hcc 0 hc.2
         obtain ⟨c0, hc0⟩ : ∃ c0, cs[0]? = some c0 := ⟨_, List.getElem?_eq_getElem (by omega)⟩
         refine ⟨c0, ?_⟩
         rw [hc0] at h3
         simpa [Addr.add, hl0] using h3
        ·obtain ⟨cs, h2, _⟩ := hel2 0 (by omega)
         obtain ⟨_, hcl, hcc⟩ := World.cells?_some h2
         have h3 := hcc 0 hc.2
         obtain ⟨c0, hc0⟩ : ∃ c0, cs[0]? = some c0 := ⟨_, List.getElem?_eq_getElem (by omega)⟩
         refine ⟨c0, ?_⟩
         rw [hc0] at h3
         simpa [Addr.add] using h3
       obtain ⟨c0, h0⟩ := h0
       simpa using World.cell?_spot h0
      subst hspot
      have hcell : ∀ i (hi : i < elems.length), ∃ cs, cs.length = P.cellsOf e /\ (∀ r, r < P.cellsOf e -> w.cell? ⟨b, off + (i * P.cellsOf e + r), none⟩ = cs[r]?) /\ CL K (flat (avW elems[i].1)) cs /\ isv (avW elems[i].1) = true := fun i hi => by
       obtain ⟨cs, h2, h3⟩ := hel2 i hi
       obtain ⟨_, hcl, hcc⟩ := World.cells?_some h2
       obtain ⟨_, h4, h5⟩ := ih e cs _ heS h3
       refine ⟨cs, hcl, fun r hr => ?_, h4, h5⟩
       have := hcc r hr
       rw [<- this, Addr.add_lit, Addr.add_lit, Nat.add_assoc]
      have hflen : ∀ y, y ∈ elems.map (avW ∘ fun x => x.1) -> (flat y).length = P.cellsOf e /\ isv y = true /\ ∀ c, c ∈ flat y -> one c = true := fun y hy => by
       obtain ⟨z, hz, rfl⟩ := List.mem_map.1 hy
       obtain ⟨i, hi, rfl⟩ := List.getElem_of_mem hz
       obtain ⟨cs, hcl, _, h4, h5⟩ := hcell i hi
       exact ⟨by have := h4.size; simp only [Function.comp]; omega, h5, h4.one⟩
      have hfl := flatMap_length (sz := P.cellsOf e) (elems.map (avW ∘ fun x => x.1)) (fun y hy => (hflen y hy).1)
      have hvals : ∀ j (hj : j < ((elems.map (avW ∘ fun x => x.1)).flatMap flat).length), ∃ v, w.cell? ⟨b, off + j, none⟩ = some v /\ VR K ((elems.map (avW ∘ fun x => x.1)).flatMap flat)[j] v := fun j hj => by
       have hz : 0 < P.cellsOf e := hc.2
       have hj2 : j < elems.length * P.cellsOf e := by rw [hfl, List.length_map] at hj; exact hj
       have hi : j / P.cellsOf e < elems.length := Nat.div_lt_of_lt_mul (by rw [Nat.mul_comm]; exact hj2)
       have hr : j % P.cellsOf e < P.cellsOf e := Nat.mod_lt _ hz
       have hjd : j / P.cellsOf e * P.cellsOf e + j % P.cellsOf e = j := Nat.div_add_mod' j _
       obtain ⟨cs, hcl, h3, h4, h5⟩ := hcell (j / P.cellsOf e) hi
       have h6 := h3 (j % P.cellsOf e) hr
       rw [hjd] at h6
       have hlt : j % P.cellsOf e < (flat (avW elems[j / P.cellsOf e].1)).length := by have := h4.size; omega
       have h7 := h4.at_ _ hlt
       have h8 := flatMap_at (sz := P.cellsOf e) (elems.map (avW ∘ fun x => x.1)) (fun y hy => (hflen y hy).1) (j / P.cellsOf e) (by simpa using hi) (j % P.cellsOf e) hr
       rw [hjd, List.getElem?_eq_getElem hj] at h8
       simp only [List.getElem_map, Function.comp] at h8
       rw [List.getElem?_eq_getElem hlt] at h8
       have h9 := Option.some.inj h8
       refine ⟨cs.getD (j % P.cellsOf e) Go.undef, ?_, ?_⟩
       ·rw [h6]; simp [List.getD, show j % P.cellsOf e < cs.length by omega]
       ·rw [h9]; exact h7
      have := VR.sl (K := K) .none (elems.map (avW ∘ fun x => x.1)) [] (P.cellsOf e) b off cap (fun j => (w.cell? ⟨b, off + j, none⟩).getD Go.undef)
       (fun y hy => hflen y (by simpa using hy)) (by simp; omega) hml
       (fun j hj => by
         simp only [List.append_nil] at hj
         obtain ⟨v, h1, _⟩ := hvals j hj
         rw [h1]
         exact hK _ _ _ h1)
       (fun j hj => by
         simp only [List.append_nil] at hj ⊢
         obtain ⟨v, h1, h2⟩ := hvals j hj
         rw [h1]; exact h2) trivial
      rw [List.length_map, hlen] at this
      exact this
  ·rename_i fs ht
   simp only [Bool.and_eq_true] at hc
   obtain ⟨xs, m, hm, rfl, hcl, hxl, hx⟩ := DataW.trod_struct ht h
   have hmn : m = n := by omega
   subst hmn
   have hfS : ∀ f, f ∈ fs.toList -> f.type ∈ S := fun f hf => by have := List.all_eq_true.1 hc.1 f hf; simpa using this
   refine ⟨⟨_, rfl, by simpa using hxl, fun i f x hf hd => ?_⟩, ?_, rfl⟩
   ·rw [List.getElem?_map] at hd
    cases hy : xs[i]? with
    | none => rw [hy] at hd; cases hd
    | some y =>
     rw [hy] at hd
     simp only [Option.map_some, Option.some.injEq] at hd
     subst hd
     have h1 := hx i f hf
     rw [hy] at h1
     exact (ih f.type _ y (hfS f (by rw [Array.mem_toList_iff]; exact Array.mem_of_getElem? hf)) h1).1
   ·simp only [avW, flat]
    have := fields_read (P := P) (S := S) (K := K) (r := DataW.trod enc P w 0 (fun _ => true) held m) (total := P.cellsOf t) (cs := cs) (fun t cs x hts hh => (ih t cs x hts hh).2.1) fs.toList xs 0 hfS hc.2 (by simpa using hxl) (fun i f hf => hx i f (by simpa using hf)) hcl
    simpa using this
  ·rename_i q e ht
   simp only [Bool.and_eq_true, decide_eq_true_eq] at hc
   have heS : e ∈ S := by simpa using hc.1
   obtain ⟨xs, m, hm, rfl, hcl, hxl, hx⟩ := DataW.trod_array ht h
   have hmn : m = n := by omega
   subst hmn
   refine ⟨⟨_, rfl, by simpa using hxl, fun x hd => ?_⟩, ?_, rfl⟩
   ·obtain ⟨y, hy, rfl⟩ := List.mem_map.1 hd
    obtain ⟨i, hi, rfl⟩ := List.getElem_of_mem hy
    have h1 := hx i (by omega)
    rw [List.getElem?_eq_getElem hi] at h1
    exact (ih e _ _ heS h1).1
   ·simp only [avW, flat]
    have := items_read (K := K) (r := DataW.trod enc P w 0 (fun _ => true) held m e) (n := P.cellsOf e) (cs := cs) (fun cs x hh => (ih e cs x heS hh).2.1) xs 0 (fun i hi => by have := hx i (by omega); simpa using this) (by simp only [Nat.zero_add]; rw [hcl, <- hc.2, hxl])
    simpa using this
  ·cases hc
theorem read_arg (hS : closedT P S = true) (hK : ∀ b o v, w.cell? ⟨b, o, none⟩ = some v -> K.imm b o = some v) {t : TypeId} {v : Value} {d : DataW H} {ps : List MemPlace} {r : Reach} {b0 : Nat} (htS : t ∈ S)
  (hval : Value.okWide P w r b0 t v) (h : DataW.Trod enc P w 0 (fun _ => true) held t v d ps) : ∃ n, tyW P n t d /\ VR K (avW d) v := by
 obtain ⟨fuel, hf⟩ := h
 obtain ⟨h1, h2, h3⟩ := read_all hS hK fuel t _ _ htS hf
 refine ⟨fuel, h1, ?_⟩
 have hc := List.all_eq_true.1 hS t htS
 cases fuel with
 | zero => exact h1.elim
 | succ n =>
  unfold tyW at h1
  have single : ∀ (a : AV), flat a = [a] -> avW d = a -> (∀ cs, v ≠ .agg cs) -> VR K a v := fun a ha hd hv => by
   simp only [hd] at h2
   obtain ⟨u, h4, h5⟩ := VR.ofCL h2 ha
   have h6 : v.cells = #[v] := by cases v <;> first | rfl | exact absurd rfl (hv _)
   rw [h6] at h4
   have : v = u := by simpa using h4
   rw [this]; exact h5
  have agg : ∀ ds, d = .agg ds -> (∃ cs, v = .agg cs) -> VR K (avW d) v := fun ds hd hv => by
   obtain ⟨cs, rfl⟩ := hv
   subst hd
   simp only [avW, flat] at h2 ⊢
   refine .agg _ _ ?_ h2.one (fun j hj => ?_)
   ·have := h2.size; simpa [Value.cells] using this
   ·have := h2.at_ j hj
    simpa [Value.cells, Array.getD_eq_getD_getElem?, List.getD_eq_getElem?_getD] using this
  unfold Value.okWide at hval
  split at hc
  ·rename_i ht; rw [ht] at h1 hval
   obtain ⟨b, rfl⟩ := h1
   exact single _ rfl (by simp [avW]) (fun cs hv => by subst hv; simp [Cell.okWide, ht, Cell.ok] at hval)
  ·rename_i k ht; rw [ht] at h1 hval
   obtain ⟨m, rfl, _⟩ := h1
   exact single _ rfl (by simp [avW]) (fun cs hv => by subst hv; simp [Cell.okWide, ht, Cell.ok] at hval)
  ·rename_i ht; rw [ht] at h1 hval
   obtain ⟨m, rfl, _⟩ := h1
   exact single _ rfl (by simp [avW]) (fun cs hv => by subst hv; simp [Cell.okWide, ht, Cell.ok] at hval)
  ·rename_i e ht; rw [ht] at h1 hval
   have hv : ∀ cs, v ≠ .agg cs := fun cs hv => by subst hv; simp [Cell.okWide, ht, Cell.ok] at hval
   rcases h1 with rfl | ⟨xs, sp, rfl, _⟩
   ·exact single _ rfl (by simp [avW]) hv
   ·exact single _ rfl (by simp [avW]) hv
  ·rename_i fs ht; rw [ht] at h1 hval
   obtain ⟨ds, hd, _⟩ := h1
   obtain ⟨cs, hv, _⟩ := hval
   exact agg ds hd ⟨cs, hv⟩
  ·rename_i q e ht; rw [ht] at h1 hval
   obtain ⟨ds, hd, _⟩ := h1
   obtain ⟨cs, hv, _⟩ := hval
   exact agg ds hd ⟨cs, hv⟩
  ·cases hc
end read
end Go.Av
