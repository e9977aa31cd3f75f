/- A builder of text: a box that holds its own address and a slice that is appended to. -/
import Derived.Test.YtldmniappliepaaDoorX10
import Derived.Test.YtldmniappliepaaDoorX09
import Derived.Test.YtldmniappliepaaDoorChecked
import Derived.KernelRfl
import Derived.Laws.Tables
set_option linter.unusedVariables false
namespace Go.Av
open Go Go.RowKit
def notRow : AV → Nat → Prop
  | .bs r _ _ _, c => c ≠ r
  | _, _ => True
structure WApp (n : Nat) (E : TypeId) (σ0 σ : AS) (v : AV) (xs : List AV) (v' : AV) (σ' : AS) : Prop where
  buf : WBuf n E σ0 σ' v' xs
  keep : ∀ c z, σ.box c = some z → notRow v c → σ'.box c = some z ∧ notRow v' c
  ty : σ'.ty = σ.ty
  ne : v' ≠ .nil → v = .nil → xs ≠ []
theorem app_wb {P : Program} {n by_ : Nat} {σ0 σ : AS} {v x : AV} {xs ys : List AV} {t tx E : TypeId} {K : AV → AS → Prop} {d : Dum σ} {d' : Dum K} (hB : WBuf n E σ0 σ v xs) (he : aelt P t = some (E, n, by_)) (hs : asrc P tx x = some ys)
    (hys : ∀ a, a ∈ ys → (Av.flat a).length = n ∧ isv a = true) (hb : (xs.length + ys.length) * by_ ≤ 140737488355328) (hK : ∀ v' σ', WApp n E σ0 σ v (xs ++ ys) v' σ' → K v' σ') : appW P σ t tx v x K d d' := by
  cases hB with
  | nil h =>
    by_cases hy : ys = []
    · subst hy
      refine .inl ?_
      unfold aappend
      rw [he, hs]
      refine ⟨fun a ha => (by cases ha), by simp, fun _ => hK _ _ ⟨.nil h, fun c z hc _ => ⟨hc, trivial⟩, rfl, fun hn => absurd rfl hn⟩, fun hy => absurd rfl hy⟩
    · refine .inr (.inl ?_)
      unfold aappendM
      rw [he, hs]
      refine ⟨fun a ha => (hys a ha).1, hy, by simpa using hb, fun b hf => hK _ _ ⟨?_, fun c z hc _ => ?_, rfl, fun _ _ => by simpa using hy⟩⟩
      · have hf0 := h.fresh hf
        exact .row b ys (h.setBox hf0.1 _) hf0.1 hf0.2.1 (by simp [AS.setBox]) hys
      · have := fresh_ne hc hf
        exact ⟨by simp only [AS.setBox, if_neg this.1]; exact hc, this.1⟩
  | row b xs h h0 h1 hbx hx =>
    refine .inr (.inl ?_)
    unfold aappendM
    rw [he, hs]
    have hl := flatMap_len xs fun a ha => (hx a ha).1
    refine ⟨fun a ha => (hys a ha).1, ⟨rfl, rfl⟩, _, hbx, by rw [hl]; exact Nat.le_refl _, hb, fun b' hb' => ?_⟩
    have h0' : σ0.box b' = none ∧ σ0.tip b' = none := by
      rcases hb' with rfl | hf
      · exact ⟨h0, h1⟩
      · exact ⟨(h.fresh hf).1, (h.fresh hf).2.1⟩
    have e1 : (xs.flatMap flat).take (xs.length * n) ++ ys.flatMap flat = (xs ++ ys).flatMap flat := by
      rw [List.take_of_length_le (by rw [hl]; exact Nat.le_refl _), List.flatMap_append]
    have hK' := hK (.bs b' (xs ++ ys).length n E) ((σ.delBox b).setBox b' ((xs ++ ys).flatMap flat)) ⟨.row b' (xs ++ ys) (h.delSet h0 h0'.1 _) h0'.1 h0'.2 (by simp [AS.setBox]) fun a ha => by
      rcases List.mem_append.1 ha with ha | ha
      · exact hx a ha
      · exact hys a ha, fun c z hc hn => by
        have h2 : c ≠ b' := by
          rcases hb' with rfl | hf
          · exact hn
          · exact (fresh_ne hc hf).1
        refine ⟨?_, h2⟩
        show (if c = b' then _ else if c = b then none else σ.box c) = some z
        rw [if_neg h2, if_neg hn]; exact hc, rfl, fun _ hn => by cases hn⟩
    rw [← e1, List.length_append] at hK'
    exact hK'
theorem WBuf.setOther {n : Nat} {E : TypeId} {σ0 σ : AS} {v : AV} {xs : List AV} (h : WBuf n E σ0 σ v xs) {b : Nat} (hb : σ0.box b = none) (hn : notRow v b) (z : List AV) : WBuf n E σ0 (σ.setBox b z) v xs := by
  cases h with
  | nil h => exact .nil (h.setBox hb z)
  | row r xs h h0 h1 hbx hx => exact .row r xs (h.setBox hb z) h0 h1 (by simp only [AS.setBox, if_neg (Ne.symm hn)]; exact hbx) hx
theorem Tri.tupBs {P : Program} {G : Nat → AV} {f : FuncId} {args : List AV} {σ : AS} {n s : Nat} {E : TypeId} {xs rest : List AV} (hx : ∀ a, a ∈ xs → (flat a).length = s ∧ isv a = true) (hn : xs.length = n)
    (h : Tri P G f args σ fun r σ' => ∃ b, r = .tup (.bs b n s E :: rest) ∧ σ.le σ' ∧ σ.box b = none ∧ σ.tip b = none ∧ σ'.box b = some (xs.flatMap flat)) : Tri P G f args σ fun r σ' => Le r (.tup (.sl .none xs [] :: rest)) ∧ σ' = σ := by
  refine Tri.back (Tri.freezeRes h fun r σ' ⟨b, hr, hl, h0, h1, h2⟩ => ?_)
  subst hr
  refine ⟨b, n, s, xs, _, .tup (.sl (.own b) xs [] :: rest), h2, ⟨hn, rfl, hx⟩, Has.tup 0 (by simp) Has.bs, .tup _ _ (by simp) (fun j g1 g2 => ?_), Le.tup (.cons Le.gh (Les.refl rest)), AS.froze_le hl h0 h1⟩
  cases j with
  | zero => exact .here E
  | succ j => exact .same _
theorem WBuf.newBox {n : Nat} {E : TypeId} {σ0 σ : AS} {v : AV} {xs : List AV} (h : WBuf n E σ0 σ v xs) {c : Nat} (hc : σ.fresh c) (z : List AV) : WBuf n E σ0 (σ.setBox c z) v xs ∧ notRow v c := by
  have hc0 := h.le.fresh hc
  have hn : notRow v c := by
    cases h with
    | nil _ => trivial
    | row r xs h h0 h1 hbx hx => exact (fresh_ne hbx hc).2
  exact ⟨h.setOther hc0.1 hn z, hn⟩
theorem WBuf.len {P : Program} {n : Nat} {E : TypeId} {σ0 σ : AS} {v : AV} {xs : List AV} (h : WBuf n E σ0 σ v xs) {t : TypeId} : ablt P .len #[t] [v] = if (el P t).isSome then some (.int .i64 xs.length) else none := by
  cases h with
  | nil _ => rw [l_nil]; rfl
  | row r xs h h0 h1 hbx hx => rw [l_bs]
theorem WBuf.form {n : Nat} {E : TypeId} {σ0 σ : AS} {v : AV} {xs : List AV} (h : WBuf n E σ0 σ v xs) (hne : xs ≠ []) : ∃ r, v = .bs r xs.length n E ∧ σ.box r = some (xs.flatMap flat) ∧ σ0.box r = none ∧ σ0.tip r = none := by
  cases h with
  | nil _ => exact absurd rfl hne
  | row r xs h h0 h1 hbx hx => exact ⟨r, rfl, hbx, h0, h1⟩
def byteA (c : UInt8) : AV := .int .u8 c.toNat
def bytesA (s : List UInt8) : List AV := s.map byteA
structure Bld (T E : TypeId) (σ0 σ : AS) (b : Nat) (xs : List UInt8) : Prop where
  le : σ0.le σ
  out : σ0.box b = none
  ty : σ.ty b = some ((T : TyE), 2)
  box : ∃ p v, σ.box b = some [p, v] ∧ (p = .nilptr ∨ p = .ptr b 0) ∧ WBuf 1 E σ0 σ v (bytesA xs) ∧ notRow v b ∧ (v ≠ .nil → xs ≠ [])
end Go.Av
set_option maxRecDepth 100000
namespace Go.Proofs.YtldmniappliepaaDoor
open Go Go.Av
theorem tf57 : tk Tryd.prog 57 = some (false, 1) ∧ sk Tryd.prog 57 = .oth ∧ (Tryd.prog.underlying 57).isSome = true ∧ el Tryd.prog 57 = none ∧ by_ Tryd.prog 57 = some 16 ∧ ifc Tryd.prog 57 = true := ⟨by kernel_rfl, by kernel_rfl, by kernel_rfl, by kernel_rfl, by kernel_rfl, by kernel_rfl⟩
end Go.Proofs.YtldmniappliepaaDoor
set_option linter.unusedSimpArgs false
set_option maxRecDepth 20000
namespace Go.Proofs.YtldmniappliepaaDoor
open Go Go.Av
variable (G : Nat → AV)
theorem tfB : aelt Tryd.prog 44 = some (5, 1, 1) := tf44.2.2.2.2.2.2
theorem tfBE : el Tryd.prog 44 = some 5 := tf44.2.2.2.1
theorem bytesA_len (xs : List UInt8) : (bytesA xs).length = xs.length := by simp [bytesA]
end Go.Proofs.YtldmniappliepaaDoor
set_option maxRecDepth 20000
namespace Go.Proofs.YtldmniappliepaaDoor
open Go Go.Av
variable (G : Nat → AV)
end Go.Proofs.YtldmniappliepaaDoor
set_option maxRecDepth 20000
namespace Go.Proofs.YtldmniappliepaaDoor
open Go Go.Av
variable (G : Nat → AV)
def lastOk (l : List UInt32) : Bool := match l[l.length - 1]? with | some x => decide ((x.toNat : Int) ≠ 0) | none => false
def wr (t : Term) : Bool :=
  decide (t.knd = 1) && decide (t.text = []) && decide (t.num = 0) && decide ((t.items.length : Int) + t.tail.length = 0) && decide ((t.limbs.length : Int) ≤ 32) && (decide ((t.limbs.length : Int) = 0) && !t.neg || decide (0 < (t.limbs.length : Int)) && lastOk t.limbs)
def bare (t : Term) (text num items tail : Bool) : Bool :=
  !t.neg && decide ((t.limbs.length : Int) = 0) && (text || decide (t.text = [])) && (num || decide (t.num = 0)) && (items || decide ((t.items.length : Int) = 0)) && (tail || decide ((t.tail.length : Int) = 0))
end Go.Proofs.YtldmniappliepaaDoor
set_option maxRecDepth 20000
namespace Go.Proofs.YtldmniappliepaaDoor
open Go Go.Av
variable (G : Nat → AV)
def head (t : Term) : Int × Int × Bool :=
  if t.knd = 2 then (1, 0, bare t true false false false && decide ((t.text.length : Int) ≤ 40))
  else if t.knd = 3 ∨ t.knd = 5 then (1, 0, bare t false true false false && decide (0 ≤ t.num) && decide (t.num ≤ 1099511627776))
  else if t.knd = 4 then (2, 0, bare t false true true false && decide (0 ≤ t.num) && decide (t.num ≤ 16384))
  else if t.knd = 6 then (1, 0, bare t false false true false)
  else if t.knd = 7 then (1, 1, bare t false false true true && decide ((t.tail.length : Int) ≤ if (t.items.length : Int) < 1 then (t.items.length : Int) else 1) && t.tail.all fun x => decide (x.knd ≠ 7))
  else (1, 0, false)
mutual
def size : Term → Int
  | .mk k g l s n ks ts =>
    if (k.toNat : Int) = 1 then (if wr (.mk k g l s n ks ts) = true then 1 + l.length else 0) else
      let h := head (.mk k g l s n ks ts)
      let a := adds ks h.2.1 (h.1, h.2.2)
      let b := adds ts 0 a
      if b.2 = true then b.1 else 0
def adds : List Term → Int → Int × Bool → Int × Bool
  | [], _, a => a
  | k :: ks, each, a => if a.2 = true then adds ks each (a.1 + size k + each, decide (0 < size k) && decide (a.1 + size k + each ≤ 4096)) else a
end
end Go.Proofs.YtldmniappliepaaDoor
namespace Go.Proofs.YtldmniappliepaaDoor
open Go Go.Av
def cmpI (a b : Int) : Int := if a < b then -1 else if b < a then 1 else 0
def lex (a b : Int) : Int := if a = 0 then b else a
def cmpS : List UInt8 → List UInt8 → Int
  | [], [] => 0
  | [], _ :: _ => -1
  | _ :: _, [] => 1
  | a :: l, b :: r => lex (cmpI a.toNat b.toNat) (cmpS l r)
def cmpL : List UInt32 → List UInt32 → Int
  | [], [] => 0
  | [], _ :: _ => -1
  | _ :: _, [] => 1
  | a :: l, b :: r => lex (cmpI a.toNat b.toNat) (cmpL l r)
def cmpA (a b : List UInt32) : Int := lex (cmpI a.length b.length) (cmpL a.reverse b.reverse)
def sgn (t : Term) : Int := if t.neg = true then -1 else 1
def cmpW (a b : Term) : Int := if sgn a ≠ sgn b then sgn a else cmpA a.limbs b.limbs * sgn a
mutual
def order : Term → Term → Int
  | .mk k g l s n ks ts, b =>
    if (k.toNat : Int) ≠ b.knd then cmpI k.toNat b.knd
    else if (k.toNat : Int) = 1 then cmpW (.mk k g l s n ks ts) b
    else if (k.toNat : Int) = 7 then lex (lex (rows ks b.items) (cmpI ks.length b.items.length)) (tl ts b.tail)
    else lex (lex (cmpS s b.text) (lex (cmpI n b.num) (cmpI ks.length b.items.length))) (rows ks b.items)
def tl : List Term → List Term → Int
  | [], [] => 0
  | [], b :: _ => cmpI 7 b.knd
  | a :: _, [] => cmpI a.knd 7
  | a :: _, b :: _ => order a b
def rows : List Term → List Term → Int
  | [], _ => 0
  | _, [] => 0
  | a :: l, b :: r => lex (order a b) (rows l r)
end
def right (t : Term) : Bool := decide (0 < size t)
structure Rt (t : Term) : Prop where
  items : ∀ x, x ∈ t.items → right x = true
  tail : ∀ x, x ∈ t.tail → right x = true
  kind : 1 ≤ t.knd ∧ t.knd ≤ 7
  int : t.knd = 1 → wr t = true
  rest : t.knd ≠ 1 → t.neg = false ∧ t.limbs = [] ∧ (t.knd ≠ 2 → t.text = []) ∧ (t.knd ≠ 7 → t.tail = []) ∧ (t.knd = 2 ∨ t.knd = 6 ∨ t.knd = 7 → t.num = 0) ∧ (t.knd = 2 ∨ t.knd = 3 ∨ t.knd = 5 → t.items = [])
  list : t.knd = 7 → t.tail.length ≤ 1 ∧ t.tail.length ≤ t.items.length ∧ ∀ x, x ∈ t.tail → x.knd ≠ 7
def listT (ks ts : List Term) : Term := .mk 7 false [] [] 0 ks ts
def tailOf (t : Term) : Term := match t.tail with | [] => listT [] [] | x :: _ => x
end Go.Proofs.YtldmniappliepaaDoor
set_option maxRecDepth 20000
namespace Go.Proofs.YtldmniappliepaaDoor
open Go Go.Av
variable (G : Nat → AV)
def val : List UInt32 → Nat
  | [] => 0
  | x :: l => x.toNat + 4294967296 * val l
end Go.Proofs.YtldmniappliepaaDoor
