/- What may be forgotten of an abstract value: whose its spare room is, what lies in it, whether it is nil. -/
import Derived.Test.YtjmdaeabllkgnaaGreatDoorY09
set_option linter.unusedVariables false
set_option linter.unusedSimpArgs false
namespace Go.Av
open Go Go.RowKit
def Le (a b : AV) : Prop := ∀ (K : Ctx) (v : Value), VR K a v -> VR K b v
inductive Les : List AV -> List AV -> Prop
 | nil : Les [] []
 | cons {a b : AV} {l r : List AV} (h : Le a b) (t : Les l r) : Les (a :: l) (b :: r)
theorem Le.refl (a : AV) : Le a a := fun _ _ h => h
theorem Le.trans {a b c : AV} (h : Le a b) (k : Le b c) : Le a c := fun K v x => k K v (h K v x)
theorem Les.refl : ∀ (l : List AV), Les l l
 | [] => .nil
 | a :: l => .cons (Le.refl a) (Les.refl l)
theorem Les.length {l r : List AV} (h : Les l r) : l.length = r.length := by
 induction h with
 | nil => rfl
 | cons _ _ ih => simp [ih]
theorem Les.get {l r : List AV} (h : Les l r) : ∀ (j : Nat) (hj : j < l.length) (hj' : j < r.length), Le l[j] r[j] := by
 induction h with
 | nil => intro j hj; cases hj
 | cons h _ ih =>
  intro j hj hj'
  cases j with
  | zero => exact h
  | succ j => exact ih j (by simpa using hj) (by simpa using hj')
theorem Les.append {l r l' r' : List AV} (h : Les l r) (k : Les l' r') : Les (l ++ l') (r ++ r') := by
 induction h with
 | nil => exact k
 | cons h _ ih => exact .cons h ih
theorem VRl.le {K : Ctx} : ∀ {l r : List AV} {vs : List Value}, Les l r -> VRl K l vs -> VRl K r vs
 | [], _, vs, .nil, h => h
 | a :: l, _, [], .cons _ _, h => h.elim
 | a :: l, _, v :: vs, .cons h t, ⟨h1, h2⟩ => ⟨h K v h1, VRl.le t h2⟩
theorem Tri.weaken {P : Program} {G : Nat -> AV} {f : FuncId} {args args' : List AV} {σ : AS} {Q : AV -> AS -> Prop} (hl : Les args args') (h : Tri P G f args' σ Q) : Tri P G f args σ Q :=
 ⟨h.1, fun K w vals hr hv => h.2 K w vals hr (hv.le hl)⟩
theorem Tri.tell {P : Program} {G : Nat -> AV} {f : FuncId} {args : List AV} {σ : AS} {Q Q' : AV -> AS -> Prop} (h : Tri P G f args σ Q) (hq : ∀ r s, Q r s -> ∃ r', Le r r' /\ Q' r' s) : Tri P G f args σ Q' :=
 ⟨h.1, fun K w vals hr hv => (h.2 K w vals hr hv).mono fun e w' ⟨v, r, σ', K', he, hQ, h1, h2⟩ => by
   obtain ⟨r', hle, hq'⟩ := hq r σ' hQ
   exact ⟨v, r', σ', K', he, hq', hle K' v h1, h2⟩⟩
theorem Le.nil : Le .nil (.sl .none [] []) := fun K v h => by rw [VR.nil_iff] at h; subst h; exact .sl0 none
theorem Le.agg {cs ds : List AV} (h : Les cs ds) (h1 : ∀ d, d ∈ ds -> one d = true) : Le (.agg cs) (.agg ds) := fun K v hv => by
 cases hv with
 | agg _ vs hl g1 hvv =>
  have hlen := h.length
  exact .agg ds vs (by omega) h1 fun j hj => h.get j (by omega) hj K _ (hvv j (by omega))
theorem Le.tup {cs ds : List AV} (h : Les cs ds) : Le (.tup cs) (.tup ds) := fun K v hv => by
 cases hv with
 | tup _ vs hl hvv =>
  have hlen := h.length
  exact .tup ds vs (by omega) fun j hj => h.get j (by omega) hj K _ (hvv j (by omega))
structure LeE (a b : AV) : Prop where
 cells : Les (flat a) (flat b)
 isv : isv b = true
 one : ∀ c, c ∈ flat b -> one c = true
inductive LeEs : List AV -> List AV -> Prop
 | nil : LeEs [] []
 | cons {a b : AV} {l r : List AV} (h : LeE a b) (t : LeEs l r) : LeEs (a :: l) (b :: r)
theorem LeEs.length {l r : List AV} (h : LeEs l r) : l.length = r.length := by
 induction h with
 | nil => rfl
 | cons _ _ ih => simp [ih]
theorem LeEs.flat {l r : List AV} (h : LeEs l r) : Les (l.flatMap flat) (r.flatMap flat) := by
 induction h with
 | nil => exact .nil
 | cons h _ ih => rw [List.flatMap_cons, List.flatMap_cons]; exact h.cells.append ih
theorem LeEs.ok {l r : List AV} (h : LeEs l r) {n : Nat} (hn : ∀ a, a ∈ l -> (Av.flat a).length = n) : ∀ b, b ∈ r -> (Av.flat b).length = n /\ Av.isv b = true /\ ∀ c, c ∈ Av.flat b -> Av.one c = true := by
 induction h with
 | nil => intro b hb; cases hb
 | cons h _ ih =>
  intro b hb
  rcases List.mem_cons.1 hb with rfl | hb
  ·exact ⟨by rw [<- h.cells.length]; exact hn _ (by simp), h.isv, h.one⟩
  ·exact ih (fun a ha => hn a (by simp [ha])) b hb
theorem Le.sl {g : Gh} {xs ys sp : List AV} (h : LeEs xs ys) : Le (.sl g xs sp) (.sl .none ys []) := fun K v hv => by
 have hlen := h.length
 cases hv with
 | sl0 a => cases h; exact .sl0 a
 | sl _ _ _ sz b off cap f hsz hcap hml himm hvv hg =>
  have hle : (xs.flatMap Av.flat).length <= ((xs ++ sp).flatMap Av.flat).length := by simp
  have hf := h.flat
  have hfl := hf.length
  have := VR.sl (K := K) .none ys [] sz b off cap f (fun e he => h.ok (fun a ha => (hsz a (List.mem_append_left _ ha)).1) e (by simpa using he)) (by simp; omega) hml
   (fun j hj => himm j (by simp only [List.append_nil] at hj; omega))
   (fun j hj => by
     simp only [List.append_nil] at hj ⊢
     have h1 := hvv j (by omega)
     have e1 : ((xs ++ sp).flatMap Av.flat)[j]'(by omega) = (xs.flatMap Av.flat)[j]'(by omega) := by
      simp only [List.flatMap_append]; rw [List.getElem_append_left (by omega)]
     rw [e1] at h1
     exact hf.get j (by omega) hj K _ h1) trivial
  rw [hlen]
  exact this
theorem LeE.agg {cs ds : List AV} (h : Les cs ds) (h1 : ∀ d, d ∈ ds -> Av.one d = true) : LeE (.agg cs) (.agg ds) := ⟨h, rfl, h1⟩
theorem LeEs.map {α : Type} {f g : α -> AV} : ∀ (l : List α), (∀ x, x ∈ l -> LeE (f x) (g x)) -> LeEs (l.map f) (l.map g)
 | [], _ => .nil
 | x :: l, h => .cons (h x (by simp)) (LeEs.map l fun y hy => h y (by simp [hy]))
end Go.Av
namespace Go.Av
open Go Go.RowKit
theorem Pure.of_le {P : Program} {G : Nat -> AV} {f : FuncId} {args : List AV} {v : AV} (h : ∀ σ, Tri P G f args σ fun r σ' => Le r v /\ σ' = σ) : Pure P G f args v :=
 fun σ => Tri.tell (h σ) fun r s ⟨h1, h2⟩ => ⟨v, h1, rfl, h2⟩
theorem finish_le {r v : AV} {σ σ' : AS} {d : Dum σ} {d' : Dum fun x s => Le x v /\ s = σ'} (h2 : Le r v) (h1 : σ'.le σ) : finishW (some [r]) σ (fun x s => Le x v /\ s = σ') d d' := ⟨[r], σ', rfl, h1, h2, rfl⟩
theorem Pure.lessArgs {P : Program} {G : Nat -> AV} {f : FuncId} {args args' : List AV} {v : AV} (h : Pure P G f args' v) (hl : Les args args') : Pure P G f args v := fun σ => Tri.weaken hl (h σ)
theorem Pure.tellLess {P : Program} {G : Nat -> AV} {f : FuncId} {args : List AV} {v v' : AV} (h : Pure P G f args v) (hl : Le v v') : Pure P G f args v' :=
 Pure.of_le fun σ => (h σ).mono fun r s ⟨hr, hs⟩ => ⟨hr ▸ hl, hs⟩
theorem Le.gh {g : Gh} {xs sp : List AV} : Le (.sl g xs sp) (.sl .none xs sp) := fun K v h => by
 cases h with
 | sl0 a => exact .sl0 a
 | sl _ _ _ sz b off cap f hsz hcap hml himm hvv hg => exact .sl .none xs sp sz b off cap f hsz hcap hml himm hvv trivial
theorem Le.spare {g : Gh} {xs sp : List AV} : Le (.sl g xs sp) (.sl .none xs []) := Le.trans Le.gh (fun K v h => h.spareless)
inductive Buf (n : Nat) (σ0 σ : AS) : AV -> List AV -> Prop
 | nil (h : σ0.le σ) : Buf n σ0 σ .nil []
 | own (b : Nat) (xs : List AV) (h : σ0.le σ) (h0 : σ0.tip b = none) (ht : σ.tip b = some (xs.length, n)) (hx : ∀ a, a ∈ xs -> (flat a).length = n) : Buf n σ0 σ (.sl (.own b) xs []) xs
theorem Buf.le {n : Nat} {σ0 σ : AS} {v : AV} {xs : List AV} (h : Buf n σ0 σ v xs) : σ0.le σ := by cases h <;> assumption
theorem Buf.told {n : Nat} {σ0 σ : AS} {v : AV} {xs : List AV} (h : Buf n σ0 σ v xs) : Le v (.sl .none xs []) := by
 cases h with
 | nil _ => exact Le.nil
 | own b xs _ _ _ _ => exact Le.gh
theorem Buf.setBox {n : Nat} {σ0 σ : AS} {v : AV} {xs : List AV} (h : Buf n σ0 σ v xs) {c : Nat} (hc : σ0.box c = none) (cs : List AV) : Buf n σ0 (σ.setBox c cs) v xs := by
 cases h with
 | nil h => exact .nil (h.setBox hc cs)
 | own b xs h h0 ht hx => exact .own b xs (h.setBox hc cs) h0 ht hx
theorem Buf.newBox {n : Nat} {σ0 σ : AS} {v : AV} {xs : List AV} (h : Buf n σ0 σ v xs) {c : Nat} (hc : σ.fresh c) (cs : List AV) : Buf n σ0 (σ.setBox c cs) v xs := h.setBox (h.le.fresh hc).1 cs
theorem Buf.isNil {n : Nat} {σ0 σ : AS} {v : AV} {xs : List AV} (h : Buf n σ0 σ v xs) : (xs = [] /\ v = .nil) \/ ∃ b, v = .sl (.own b) xs [] := by
 cases h with
 | nil _ => exact .inl ⟨rfl, rfl⟩
 | own b xs _ _ _ _ => exact .inr ⟨b, rfl⟩
theorem Buf.len {P : Program} {n : Nat} {σ0 σ : AS} {v : AV} {xs : List AV} (h : Buf n σ0 σ v xs) {t : TypeId} : ablt P .len #[t] [v] = if (el P t).isSome then some (.int .i64 xs.length) else none := by
 cases h with
 | nil _ => rw [l_nil]; rfl
 | own b xs _ _ _ _ => rw [l_sl]
theorem Buf.isv {n : Nat} {σ0 σ : AS} {v : AV} {xs : List AV} (h : Buf n σ0 σ v xs) : isv v = true := by cases h <;> rfl
theorem Buf.flat {n : Nat} {σ0 σ : AS} {v : AV} {xs : List AV} (h : Buf n σ0 σ v xs) : flat v = [v] := by cases h <;> rfl
theorem app_buf {P : Program} {n by_ : Nat} {σ0 σ : AS} {v x : AV} {xs ys : List AV} {t tx e : TypeId} {K : AV -> AS -> Prop} {d : Dum σ} {d' : Dum K} (hB : Buf n σ0 σ v xs) (he : aelt P t = some (e, n, by_)) (hs : asrc P tx x = some ys)
  (hys : ∀ a, a ∈ ys -> (Av.flat a).length = n) (hb : (xs.length + ys.length) * by_ <= 140737488355328) (hK : ∀ v' σ', Buf n σ0 σ' v' (xs ++ ys) -> σ'.box = σ.box -> K v' σ') : appW P σ t tx v x K d d' := by
 refine .inl ?_
 unfold aappend
 rw [he, hs]
 refine ⟨hys, ?_⟩
 cases hB with
 | nil h =>
  refine ⟨by simpa using hb, fun hy => ?_, fun hy b hf => ?_⟩
  ·subst hy; exact hK _ _ (.nil h) rfl
  ·have hf0 := h.fresh hf
   refine hK _ _ ?_ rfl
   rw [List.nil_append]
   exact .own b ys (h.setTip hf0.2.1 _) hf0.2.1 (by simp [AS.setTip]) hys
 | own b xs h h0 ht hx =>
  refine ⟨ht, hx, hb, fun b' hb' => ?_⟩
  have h0' : σ0.tip b' = none := by
   rcases hb' with rfl | hf
   ·exact h0
   ·exact (h.fresh hf).2.1
  refine hK _ _ ?_ rfl
  refine .own b' (xs ++ ys) ((h.delTip h0).setTip h0' _) h0' (by simp [AS.setTip]) fun a ha => ?_
  rcases List.mem_append.1 ha with ha | ha
  ·exact hx a ha
  ·exact hys a ha
theorem asrc_sl {P : Program} {t e : TypeId} {g : Gh} {xs sp : List AV} (h : el P t = some e) : asrc P t (.sl g xs sp) = some xs := by simp [asrc, h]
theorem asrc_str {P : Program} {t : TypeId} {s : List UInt8} (h : sk P t = .str) : asrc P t (.str s) = some (s.map fun c => .int .u8 c.toNat) := by simp [asrc, h]
theorem make_buf {P : Program} {n by_ : Nat} {σ0 σ : AS} {t e : TypeId} {k k' : IntKind} {c : Int} {K : AV -> AS -> Prop} {d : Dum σ} {d' : Dum K} (he : aelt P t = some (e, n, by_)) (h0 : 0 <= c) (hc : c * by_ <= 140737488355328) (hle : σ0.le σ)
  (hK : ∀ v σ', Buf n σ0 σ' v [] -> σ'.box = σ.box -> K v σ') : makeW P σ t (.int k 0) (.int k' c) K d d' := by
 refine .inl ?_
 unfold amake
 rw [he]
 refine ⟨rfl, h0, hc, fun b hf => ?_⟩
 have hf0 := hle.fresh hf
 exact hK _ _ (.own b [] (hle.setTip hf0.2.1 _) hf0.2.1 (by simp [AS.setTip]) (fun a ha => by cases ha)) rfl
theorem piece {P : Program} {t e : TypeId} {ag : Bool} {n l h : Nat} {g : Gh} {xs sp : List AV} {lo hi : Option AV} {K : AV -> Prop} {d : Dum K} (he : el P t = some e) (hn : tk P e = some (ag, n)) (h1 : abnd lo 0 = some l) (h2 : abnd hi xs.length = some h)
  (hl : l <= h) (hh : h <= xs.length + sp.length) (hx : ∀ a, a ∈ xs ++ sp -> (Av.flat a).length = n) (hK : ∀ g', K (slim (.sl g xs sp) (.sl g' (((xs ++ sp).take h).drop l) ((xs ++ sp).drop h)))) : bo (aslice P t (.sl g xs sp) lo hi) K d := by
 refine ⟨slim (.sl g xs sp) (.sl (pieceGh g l h xs.length) (((xs ++ sp).take h).drop l) ((xs ++ sp).drop h)), ?_, hK _⟩
 unfold aslice aslice0
 simp only [he, h1, h2, hn]
 rw [if_pos ⟨hl, hh, .inr hx⟩]
 rfl
theorem build_one {P : Program} {m : Bool} {σ : AS} {t e : TypeId} {n by_ : Nat} {a : AV} {K : AV -> AS -> Prop} {d : Dum σ} {d' : Dum K} (he : aelt P t = some (e, n, by_)) (hi : isv a = true) (hf : (Av.flat a).length = n) (hn : n <= 16777216) (hK : K (.sl .full [a] []) σ) : bmW m P σ t 1 [(0, a)] K d d' := by
 refine .inl ⟨_, abuildSlice_eq (r := .sl .full [a] []) ?_, hK⟩
 unfold bsk
 rw [he]
 simp [List.range_succ, hi, hf, hn]
theorem LeEs.get {xs ys : List AV} (h : LeEs xs ys) : ∀ (j : Nat) (h1 : j < xs.length) (h2 : j < ys.length), LeE xs[j] ys[j] := by
 induction h with
 | nil => intro j hj; cases hj
 | cons h _ ih =>
  intro j h1 h2
  cases j with
  | zero => exact h
  | succ j => exact ih j (by simpa using h1) (by simpa using h2)
def wildB (o : Oper) : Bool := match o.op with | .store .. => true | .makeSlice .. => true | .call ⟨.builtin .append, _, _⟩ => true | .call ⟨.builtin .unsafeString, _, _⟩ => true | _ => false
def headLen : List Oper -> Nat
 | [] => 0
 | o :: r => if wildB o = true then 0 else headLen r + 1
def htW (w : Bool) (A B : Prop) (_ : Dum A) (_ : Dum B) : Prop := (w = true -> A) /\ (w = false -> B)
def awpHT (P : Program) (G : Nat -> AV) (ops : List Oper) (σ0 : AS) (R : Env -> AS -> Prop) : List Oper -> Env -> AS -> Prop
 | [], e, σ => R e σ
 | o :: rest, e, σ => htW (wildB o) (awpOps P G ops R (o :: rest) e σ)
   (gW (awanted ops e o.guard) (hop P G o e σ0 σ fun r σ' => awpHT P G ops σ0 R rest (e.upd o.dst r) σ') (awpHT P G ops σ0 R rest (e.upd o.dst (.tup [])) σ) ⟨⟩ ⟨⟩) ⟨⟩ ⟨⟩
theorem htW_true {A B : Prop} {d : Dum A} {d' : Dum B} : htW true A B d d' = A := by simp [htW]
theorem htW_false {A B : Prop} {d : Dum A} {d' : Dum B} : htW false A B d d' = B := by simp [htW]
section ht
variable {P : Program} {G : Nat -> AV} {ops rest : List Oper} {σ0 σ : AS} {R : Env -> AS -> Prop} {e : Env} {d : Option Tmp} {ty : TypeId} {pos : String} {af : Array Edge} {g : Option (Nat × Bool)}
theorem ht_nil : awpHT P G ops σ0 R [] e σ = R e σ := nr rfl
theorem ht_cons {o : Oper} : awpHT P G ops σ0 R (o :: rest) e σ = htW (wildB o) (awpOps P G ops R (o :: rest) e σ)
   (gW (awanted ops e o.guard) (hop P G o e σ0 σ fun r σ' => awpHT P G ops σ0 R rest (e.upd o.dst r) σ') (awpHT P G ops σ0 R rest (e.upd o.dst (.tup [])) σ) ⟨⟩ ⟨⟩) ⟨⟩ ⟨⟩ := nr rfl
theorem iw_move {x : Operand} : wildB ⟨d, .move x, ty, pos, af, g⟩ = false := nr rfl
theorem iw_assign {x : Operand} : wildB ⟨d, .assign x, ty, pos, af, g⟩ = false := nr rfl
theorem iw_pick {a b c : Operand} : wildB ⟨d, .pick a b c, ty, pos, af, g⟩ = false := nr rfl
theorem iw_alloc {E : TypeId} : wildB ⟨d, .alloc E, ty, pos, af, g⟩ = false := nr rfl
theorem iw_box {E : TypeId} {x : Operand} : wildB ⟨d, .box E x, ty, pos, af, g⟩ = false := nr rfl
theorem iw_build {t : TypeId} {ps : Array (Nat × Operand)} : wildB ⟨d, .build t ps, ty, pos, af, g⟩ = false := nr rfl
theorem iw_buildSlice {t n : Nat} {ps : Array (Nat × Operand)} : wildB ⟨d, .buildSlice t n ps, ty, pos, af, g⟩ = false := nr rfl
theorem iw_load {t : TypeId} {x : Operand} : wildB ⟨d, .load t x, ty, pos, af, g⟩ = false := nr rfl
theorem iw_nilCheck {x : Operand} : wildB ⟨d, .nilCheck x, ty, pos, af, g⟩ = false := nr rfl
theorem iw_binOp {op : BinOp} {t yt : TypeId} {x y : Operand} : wildB ⟨d, .binOp op t x y yt, ty, pos, af, g⟩ = false := nr rfl
theorem iw_unOp {op : UnOp} {t : TypeId} {x : Operand} : wildB ⟨d, .unOp op t x, ty, pos, af, g⟩ = false := nr rfl
theorem iw_convert {s t : TypeId} {x : Operand} : wildB ⟨d, .convert s t x, ty, pos, af, g⟩ = false := nr rfl
theorem iw_makeFunc {f : FuncId} {caps : Array Operand} : wildB ⟨d, .makeFunc (.func f) #[] caps, ty, pos, af, g⟩ = false := nr rfl
theorem iw_slice {t : TypeId} {x : Operand} {lo hi : Option Operand} : wildB ⟨d, .slice t x lo hi none, ty, pos, af, g⟩ = false := nr rfl
theorem iw_fieldAddr {t : TypeId} {x : Operand} {i : Nat} : wildB ⟨d, .fieldAddr t x i, ty, pos, af, g⟩ = false := nr rfl
theorem iw_field {t : TypeId} {x : Operand} {i : Nat} : wildB ⟨d, .field t x i, ty, pos, af, g⟩ = false := nr rfl
theorem iw_indexAddr {t : TypeId} {x i : Operand} : wildB ⟨d, .indexAddr t x i, ty, pos, af, g⟩ = false := nr rfl
theorem iw_index {t : TypeId} {x i : Operand} : wildB ⟨d, .index t x i, ty, pos, af, g⟩ = false := nr rfl
theorem iw_extract {x : Operand} {i : Nat} : wildB ⟨d, .extract x i, ty, pos, af, g⟩ = false := nr rfl
theorem iw_call {f : Operand} {args : Array Operand} {ts : Array TypeId} : wildB ⟨d, .call ⟨.value f, args, ts⟩, ty, pos, af, g⟩ = false := nr rfl
theorem iw_len {args : Array Operand} {ts : Array TypeId} : wildB ⟨d, .call ⟨.builtin .len, args, ts⟩, ty, pos, af, g⟩ = false := nr rfl
theorem iw_cap {args : Array Operand} {ts : Array TypeId} : wildB ⟨d, .call ⟨.builtin .cap, args, ts⟩, ty, pos, af, g⟩ = false := nr rfl
theorem iw_usd {args : Array Operand} {ts : Array TypeId} : wildB ⟨d, .call ⟨.builtin .unsafeSliceData, args, ts⟩, ty, pos, af, g⟩ = false := nr rfl
theorem iw_ustr {args : Array Operand} {ts : Array TypeId} : wildB ⟨d, .call ⟨.builtin .unsafeString, args, ts⟩, ty, pos, af, g⟩ = true := nr rfl
theorem iw_max {args : Array Operand} {ts : Array TypeId} : wildB ⟨d, .call ⟨.builtin .max, args, ts⟩, ty, pos, af, g⟩ = false := nr rfl
theorem iw_min {args : Array Operand} {ts : Array TypeId} : wildB ⟨d, .call ⟨.builtin .min, args, ts⟩, ty, pos, af, g⟩ = false := nr rfl
theorem iw_store {t : TypeId} {p x : Operand} : wildB ⟨d, .store t p x, ty, pos, af, g⟩ = true := nr rfl
theorem iw_append {args : Array Operand} {ts : Array TypeId} : wildB ⟨d, .call ⟨.builtin .append, args, ts⟩, ty, pos, af, g⟩ = true := nr rfl
theorem iw_makeSlice {t : TypeId} {x y : Operand} : wildB ⟨d, .makeSlice t x y, ty, pos, af, g⟩ = true := nr rfl
theorem ht_head : ∀ (l : List Oper) (e : Env) (σ : AS), awpHT P G ops σ0 R l e σ -> awpHead P G ops σ0 (fun e' σ' => awpOps P G ops R (l.drop (headLen l)) e' σ') (l.take (headLen l)) e σ
 | [], e, σ, h => h
 | o :: rest, e, σ, h => by
  unfold awpHT htW at h
  unfold headLen
  cases hw : wildB o with
  | true =>
   simp only [if_true]
   exact h.1 hw
  | false =>
   simp only [Bool.false_eq_true, if_false]
   obtain ⟨b, hb, h1, h2⟩ := h.2 hw
   have hl : (o :: rest).take (headLen rest + 1) = o :: rest.take (headLen rest) := rfl
   have hd : (o :: rest).drop (headLen rest + 1) = rest.drop (headLen rest) := rfl
   rw [hl, hd]
   exact ⟨b, hb, fun x => hop_mono (fun r s hh => ht_head rest _ _ hh) (h1 x), fun x => ht_head rest _ _ (h2 x)⟩
end ht
theorem draw_all {P : Program} {G : Nat -> AV} {l : List Oper} {R : Env -> AS -> Prop} {e : Env} {σ : AS} {d : Dum l.toArray} {d' : Dum R} {d2 : Dum e} {d3 : Dum σ} (hn : drawB l.toArray (headLen l) = true)
  (h : awpHT P G l σ R l e σ) : drawW P G l.toArray R e σ d d' d2 d3 := .inl ⟨[], headLen l, σ, [], rfl, hn, AS.le.refl σ, fun c hc => (by cases hc), awpHead_S _ _ _ _ (ht_head l e σ h)⟩
theorem loop_keep {P : Program} (hm : P.follows .mixedOrders = true) {G : Nat -> AV} {c : Code} {Q : Exit -> Env -> AS -> Prop} {e : Env} {σ : AS} {d : Dum c} {d' : Dum Q} {d2 : Dum e} {d3 : Dum σ} (I : Nat -> Env -> Prop) (n : Nat) (h0 : I n e)
  (h1 : ∀ n v, I n (mrg (cWrites c) v e) -> awp P G (adraw P G) c (fun x e' σ' => match x with | .normal => (∃ m, m < n /\ I m e') /\ σ' = σ | x => Q x e' σ') (mrg (cWrites c) v e) σ) : loopW P G c Q e σ d d' d2 d3 :=
 loop_intro (fun n e σ' => I n e /\ σ' = σ) n ⟨h0, rfl⟩ fun n v σ' ⟨hI, hs⟩ => by
  subst hs
  refine awp_mono (drawOK hm) _ _ _ (fun x e s hx => ?_) (h1 n v hI)
  cases x with
  | normal => obtain ⟨⟨m, h1, h2⟩, h3⟩ := hx; exact ⟨m, h1, h2, h3⟩
  | _ => exact hx
end Go.Av
namespace Go.Av
open Go Go.RowKit
section fl
variable {P : Program} {G : Nat -> AV} {ops rest : List Oper} {σ0 σ : AS} {R : Env -> AS -> Prop} {e : Env} {d : Option Tmp} {ty : TypeId} {pos : String} {af : Array Edge} {g : Option (Nat × Bool)} {av : List Nat} {K : AV -> AS -> List Nat -> Prop}
def storeW (P : Program) (σ : AS) (av : List Nat) (t : TypeId) (p x : AV) (K : AV -> AS -> List Nat -> Prop) (_ : Dum σ) (_ : Dum K) : Prop :=
 ∃ b off z0 z, p = .ptr b off /\ b ∈ av /\ σ.box b = some z0 /\ astore P σ t (.ptr b off) x = some (σ.setBox b z) /\ K .undef (σ.setBox b z) (av.filter fun c => decide (c ≠ b))
theorem hs_nil : awpHeadS P G ops σ0 R [] e σ av = R e σ := nr rfl
theorem hs_cons {o : Oper} : awpHeadS P G ops σ0 R (o :: rest) e σ av =
   gW (awanted ops e o.guard) (hopS P G o e σ0 σ av fun r σ' av' => awpHeadS P G ops σ0 R rest (e.upd o.dst r) σ' av') (awpHeadS P G ops σ0 R rest (e.upd o.dst (.tup [])) σ av) ⟨⟩ ⟨⟩ := nr rfl
def storeX (P : Program) (σ0 σ : AS) (av : List Nat) (t : TypeId) (p x : AV) (K : AV -> AS -> List Nat -> Prop) (_ : Dum σ0) (_ : Dum σ) (_ : Dum K) : Prop := storeW P σ av t p x K ⟨⟩ ⟨⟩ \/ (sameSt P σ0 t p x /\ K .undef σ av)
theorem hs_store {t : TypeId} {p x : Operand} : hopS P G ⟨d, .store t p x, ty, pos, af, g⟩ e σ0 σ av K = storeX P σ0 σ av t (ev G e p) (ev G e x) K ⟨⟩ ⟨⟩ ⟨⟩ := nr rfl
theorem storeX_w {σ0 σ : AS} {av : List Nat} {t : TypeId} {p x : AV} {K : AV -> AS -> List Nat -> Prop} {d : Dum σ0} {d' : Dum σ} {d2 : Dum K} (h : storeW P σ av t p x K ⟨⟩ ⟨⟩) : storeX P σ0 σ av t p x K d d' d2 := .inl h
def sameW (P : Program) (σ0 : AS) (t : TypeId) (p x : AV) (F : Prop) (_ : Dum σ0) (_ : Dum F) : Prop := sameSt P σ0 t p x /\ F
theorem h_store {K : AV -> AS -> Prop} {t : TypeId} {p x : Operand} : hop P G ⟨d, .store t p x, ty, pos, af, g⟩ e σ0 σ K = sameW P σ0 t (ev G e p) (ev G e x) (K .undef σ) ⟨⟩ ⟨⟩ := nr rfl
theorem hs_move {x : Operand} : hopS P G ⟨d, .move x, ty, pos, af, g⟩ e σ0 σ av K = hop P G ⟨d, .move x, ty, pos, af, g⟩ e σ0 σ (fun r σ' => K r σ' av) := nr rfl
theorem hs_assign {x : Operand} : hopS P G ⟨d, .assign x, ty, pos, af, g⟩ e σ0 σ av K = hop P G ⟨d, .assign x, ty, pos, af, g⟩ e σ0 σ (fun r σ' => K r σ' av) := nr rfl
theorem hs_pick {a b c : Operand} : hopS P G ⟨d, .pick a b c, ty, pos, af, g⟩ e σ0 σ av K = hop P G ⟨d, .pick a b c, ty, pos, af, g⟩ e σ0 σ (fun r σ' => K r σ' av) := nr rfl
theorem hs_alloc {E : TypeId} : hopS P G ⟨d, .alloc E, ty, pos, af, g⟩ e σ0 σ av K = hop P G ⟨d, .alloc E, ty, pos, af, g⟩ e σ0 σ (fun r σ' => K r σ' av) := nr rfl
theorem hs_box {E : TypeId} {x : Operand} : hopS P G ⟨d, .box E x, ty, pos, af, g⟩ e σ0 σ av K = hop P G ⟨d, .box E x, ty, pos, af, g⟩ e σ0 σ (fun r σ' => K r σ' av) := nr rfl
theorem hs_build {t : TypeId} {ps : Array (Nat × Operand)} : hopS P G ⟨d, .build t ps, ty, pos, af, g⟩ e σ0 σ av K = hop P G ⟨d, .build t ps, ty, pos, af, g⟩ e σ0 σ (fun r σ' => K r σ' av) := nr rfl
theorem hs_buildSlice {t n : Nat} {ps : Array (Nat × Operand)} : hopS P G ⟨d, .buildSlice t n ps, ty, pos, af, g⟩ e σ0 σ av K = hop P G ⟨d, .buildSlice t n ps, ty, pos, af, g⟩ e σ0 σ (fun r σ' => K r σ' av) := nr rfl
theorem hs_load {t : TypeId} {x : Operand} : hopS P G ⟨d, .load t x, ty, pos, af, g⟩ e σ0 σ av K = hop P G ⟨d, .load t x, ty, pos, af, g⟩ e σ0 σ (fun r σ' => K r σ' av) := nr rfl
theorem hs_nilCheck {x : Operand} : hopS P G ⟨d, .nilCheck x, ty, pos, af, g⟩ e σ0 σ av K = hop P G ⟨d, .nilCheck x, ty, pos, af, g⟩ e σ0 σ (fun r σ' => K r σ' av) := nr rfl
theorem hs_binOp {op : BinOp} {t yt : TypeId} {x y : Operand} : hopS P G ⟨d, .binOp op t x y yt, ty, pos, af, g⟩ e σ0 σ av K = hop P G ⟨d, .binOp op t x y yt, ty, pos, af, g⟩ e σ0 σ (fun r σ' => K r σ' av) := nr rfl
theorem hs_unOp {op : UnOp} {t : TypeId} {x : Operand} : hopS P G ⟨d, .unOp op t x, ty, pos, af, g⟩ e σ0 σ av K = hop P G ⟨d, .unOp op t x, ty, pos, af, g⟩ e σ0 σ (fun r σ' => K r σ' av) := nr rfl
theorem hs_convert {s t : TypeId} {x : Operand} : hopS P G ⟨d, .convert s t x, ty, pos, af, g⟩ e σ0 σ av K = hop P G ⟨d, .convert s t x, ty, pos, af, g⟩ e σ0 σ (fun r σ' => K r σ' av) := nr rfl
theorem hs_makeFunc {f : FuncId} {caps : Array Operand} : hopS P G ⟨d, .makeFunc (.func f) #[] caps, ty, pos, af, g⟩ e σ0 σ av K = hop P G ⟨d, .makeFunc (.func f) #[] caps, ty, pos, af, g⟩ e σ0 σ (fun r σ' => K r σ' av) := nr rfl
theorem hs_slice {t : TypeId} {x : Operand} {lo hi : Option Operand} : hopS P G ⟨d, .slice t x lo hi none, ty, pos, af, g⟩ e σ0 σ av K = hop P G ⟨d, .slice t x lo hi none, ty, pos, af, g⟩ e σ0 σ (fun r σ' => K r σ' av) := nr rfl
theorem hs_fieldAddr {t : TypeId} {x : Operand} {i : Nat} : hopS P G ⟨d, .fieldAddr t x i, ty, pos, af, g⟩ e σ0 σ av K = hop P G ⟨d, .fieldAddr t x i, ty, pos, af, g⟩ e σ0 σ (fun r σ' => K r σ' av) := nr rfl
theorem hs_field {t : TypeId} {x : Operand} {i : Nat} : hopS P G ⟨d, .field t x i, ty, pos, af, g⟩ e σ0 σ av K = hop P G ⟨d, .field t x i, ty, pos, af, g⟩ e σ0 σ (fun r σ' => K r σ' av) := nr rfl
theorem hs_indexAddr {t : TypeId} {x i : Operand} : hopS P G ⟨d, .indexAddr t x i, ty, pos, af, g⟩ e σ0 σ av K = hop P G ⟨d, .indexAddr t x i, ty, pos, af, g⟩ e σ0 σ (fun r σ' => K r σ' av) := nr rfl
theorem hs_index {t : TypeId} {x i : Operand} : hopS P G ⟨d, .index t x i, ty, pos, af, g⟩ e σ0 σ av K = hop P G ⟨d, .index t x i, ty, pos, af, g⟩ e σ0 σ (fun r σ' => K r σ' av) := nr rfl
theorem hs_extract {x : Operand} {i : Nat} : hopS P G ⟨d, .extract x i, ty, pos, af, g⟩ e σ0 σ av K = hop P G ⟨d, .extract x i, ty, pos, af, g⟩ e σ0 σ (fun r σ' => K r σ' av) := nr rfl
theorem hs_call {f : Operand} {args : Array Operand} {ts : Array TypeId} : hopS P G ⟨d, .call ⟨.value f, args, ts⟩, ty, pos, af, g⟩ e σ0 σ av K = hop P G ⟨d, .call ⟨.value f, args, ts⟩, ty, pos, af, g⟩ e σ0 σ (fun r σ' => K r σ' av) := nr rfl
theorem hs_len {args : Array Operand} {ts : Array TypeId} : hopS P G ⟨d, .call ⟨.builtin .len, args, ts⟩, ty, pos, af, g⟩ e σ0 σ av K = hop P G ⟨d, .call ⟨.builtin .len, args, ts⟩, ty, pos, af, g⟩ e σ0 σ (fun r σ' => K r σ' av) := nr rfl
theorem hs_cap {args : Array Operand} {ts : Array TypeId} : hopS P G ⟨d, .call ⟨.builtin .cap, args, ts⟩, ty, pos, af, g⟩ e σ0 σ av K = hop P G ⟨d, .call ⟨.builtin .cap, args, ts⟩, ty, pos, af, g⟩ e σ0 σ (fun r σ' => K r σ' av) := nr rfl
theorem hs_usd {args : Array Operand} {ts : Array TypeId} : hopS P G ⟨d, .call ⟨.builtin .unsafeSliceData, args, ts⟩, ty, pos, af, g⟩ e σ0 σ av K = hop P G ⟨d, .call ⟨.builtin .unsafeSliceData, args, ts⟩, ty, pos, af, g⟩ e σ0 σ (fun r σ' => K r σ' av) := nr rfl
theorem hs_max {args : Array Operand} {ts : Array TypeId} : hopS P G ⟨d, .call ⟨.builtin .max, args, ts⟩, ty, pos, af, g⟩ e σ0 σ av K = hop P G ⟨d, .call ⟨.builtin .max, args, ts⟩, ty, pos, af, g⟩ e σ0 σ (fun r σ' => K r σ' av) := nr rfl
theorem hs_min {args : Array Operand} {ts : Array TypeId} : hopS P G ⟨d, .call ⟨.builtin .min, args, ts⟩, ty, pos, af, g⟩ e σ0 σ av K = hop P G ⟨d, .call ⟨.builtin .min, args, ts⟩, ty, pos, af, g⟩ e σ0 σ (fun r σ' => K r σ' av) := nr rfl
theorem hs_makeSlice {t : TypeId} {x y : Operand} : hopS P G ⟨d, .makeSlice t x y, ty, pos, af, g⟩ e σ0 σ av K = hop P G ⟨d, .makeSlice t x y, ty, pos, af, g⟩ e σ0 σ (fun r σ' => K r σ' av) := nr rfl
def stw (m : Bool) (k : Option (Bool × Nat)) (σ : AS) (bx : Option (List AV)) (b off : Nat) (x : AV) (K : AS -> Prop) : Prop := match m, k, bx with
 | true, some (_, n), some cs => isv x = true /\ (flat x).length = n /\ off + n <= cs.length /\ K (σ.setBox b (cs.take off ++ flat x ++ cs.drop (off + n)))
 | _, _, _ => False
theorem stw_some {ag : Bool} {n : Nat} {cs : List AV} {b off : Nat} {x : AV} {F : AS -> Prop} : stw true (some (ag, n)) σ (some cs) b off x F = (isv x = true /\ (flat x).length = n /\ off + n <= cs.length /\ F (σ.setBox b (cs.take off ++ flat x ++ cs.drop (off + n)))) := nr rfl
theorem storeW_eq {t : TypeId} {b off : Nat} {x : AV} {d : Dum σ} {d' : Dum K} : storeW P σ av t (.ptr b off) x K d d' = stw (decide (b ∈ av)) (tk P t) σ (σ.box b) b off x (fun s => K .undef s (av.filter fun c => decide (c ≠ b))) := by
 apply propext
 constructor
 ·rintro ⟨b', off', z0, z, h1, h2, h3, h4, h5⟩
  simp only [AV.ptr.injEq] at h1
  obtain ⟨rfl, rfl⟩ := h1
  have h0 : decide (b ∈ av) = true := by simpa using h2
  rw [h0, h3]
  rw [astore_ptr, h3] at h4
  unfold stw
  unfold stk at h4
  cases hk : tk P t with
  | none => rw [hk] at h4; cases h4
  | some y =>
   obtain ⟨ag, n⟩ := y
   rw [hk] at h4
   simp only at h4 ⊢
   split at h4
   ·rename_i hc
    simp only [Option.some.injEq] at h4
    have := setBox_inj h4
    rw [this]
    exact ⟨hc.1, hc.2.1, hc.2.2, h5⟩
   ·cases h4
 ·intro h
  unfold stw at h
  split at h
  ·rename_i ag n cs hm hk hb
   obtain ⟨g1, g2, g3, g4⟩ := h
   refine ⟨b, off, cs, _, rfl, by simpa using hm, hb, ?_, g4⟩
   rw [astore_ptr, hb, hk]
   unfold stk
   exact if_pos ⟨g1, g2, g3⟩
  ·exact h.elim
theorem AS.delBox_le (σ : AS) (b : Nat) : (σ.delBox b).le σ := ⟨fun i cs hi => by
 have hi' : (if i = b then none else σ.box i) = some cs := hi
 split at hi'
 ·cases hi'
 ·exact hi', fun _ _ h => h, fun _ _ h => h⟩
theorem draw_float1 {l : List Oper} {d : Dum l.toArray} {d' : Dum R} {d2 : Dum e} {d3 : Dum σ} (n b : Nat) {z : List AV} (hn : drawB l.toArray n = true) (hb : σ.box b = some z)
  (h : awpHeadS P G l (σ.delBox b) (fun e' σ' => awpOps P G l R (l.drop n) e' σ') (l.take n) e σ [b]) : drawW P G l.toArray R e σ d d' d2 d3 :=
 .inl ⟨[], n, σ.delBox b, [b], rfl, hn, AS.delBox_le σ b, fun c hc => by
  have : c = b := by simpa using hc
  subst this
  exact ⟨by rw [hb]; rfl, by simp [AS.delBox]⟩, h⟩
theorem draw_float2 {l : List Oper} {d : Dum l.toArray} {d' : Dum R} {d2 : Dum e} {d3 : Dum σ} (n b b' : Nat) {z z' : List AV} (hn : drawB l.toArray n = true) (hb : σ.box b = some z) (hb' : σ.box b' = some z')
  (h : awpHeadS P G l ((σ.delBox b).delBox b') (fun e' σ' => awpOps P G l R (l.drop n) e' σ') (l.take n) e σ [b, b']) : drawW P G l.toArray R e σ d d' d2 d3 :=
 .inl ⟨[], n, (σ.delBox b).delBox b', [b, b'], rfl, hn, (AS.delBox_le _ b').trans (AS.delBox_le σ b), fun c hc => by
  have : c = b \/ c = b' := by simpa using hc
  rcases this with rfl | rfl
  ·exact ⟨by rw [hb]; rfl, by simp [AS.delBox]⟩
  ·exact ⟨by rw [hb']; rfl, by simp [AS.delBox]⟩, h⟩
end fl
section pl
variable {P : Program} {G : Nat -> AV} {ops : List Oper} {σ0 σ : AS} {R : Env -> AS -> Prop} {e : Env} {d : Option Tmp} {ty : TypeId} {pos : String} {af : Array Edge} {g : Option (Nat × Bool)}
theorem pl_done : awpPl P G ops σ0 R .done e σ = R e σ := nr rfl
theorem pl_bad : awpPl P G ops σ0 R .bad e σ = False := nr rfl
theorem pl_none : awpPl P G ops σ0 R .none e σ = True := nr rfl
theorem pl_more {i : Nat} {t r : Pl} : awpPl P G ops σ0 R (.more i t r) e σ = (stepQ P G ops σ0 ops[i]? (fun e' s => awpPl P G ops σ0 R t e' s) e σ /\ awpPl P G ops σ0 R r e σ) := nr rfl
theorem sq_some {o : Oper} {K : Env -> AS -> Prop} : stepQ P G ops σ0 (some o) K e σ = gW (awanted ops e o.guard) (hopQ P G o e σ0 σ fun r s => K (e.upd o.dst r) s) (K (e.upd o.dst (.tup [])) σ) ⟨⟩ ⟨⟩ := nr rfl
def storeQ (P : Program) (σ0 σ : AS) (t : TypeId) (p x : AV) (K : AV -> AS -> Prop) (_ : Dum σ0) (_ : Dum σ) (_ : Dum K) : Prop :=
 (∃ b off z0 z, p = .ptr b off /\ σ0.box b = none /\ σ.box b = some z0 /\ astore P σ t (.ptr b off) x = some (σ.setBox b z) /\ K .undef (σ.setBox b z)) \/ (sameSt P σ0 t p x /\ K .undef σ)
theorem hq_store {t : TypeId} {p x : Operand} {K : AV -> AS -> Prop} : hopQ P G ⟨d, .store t p x, ty, pos, af, g⟩ e σ0 σ K = storeQ P σ0 σ t (ev G e p) (ev G e x) K ⟨⟩ ⟨⟩ ⟨⟩ := nr rfl
theorem hq_move {x : Operand} {K : AV -> AS -> Prop} : hopQ P G ⟨d, .move x, ty, pos, af, g⟩ e σ0 σ K = hop P G ⟨d, .move x, ty, pos, af, g⟩ e σ0 σ K := nr rfl
theorem hq_assign {x : Operand} {K : AV -> AS -> Prop} : hopQ P G ⟨d, .assign x, ty, pos, af, g⟩ e σ0 σ K = hop P G ⟨d, .assign x, ty, pos, af, g⟩ e σ0 σ K := nr rfl
theorem hq_pick {a b c : Operand} {K : AV -> AS -> Prop} : hopQ P G ⟨d, .pick a b c, ty, pos, af, g⟩ e σ0 σ K = hop P G ⟨d, .pick a b c, ty, pos, af, g⟩ e σ0 σ K := nr rfl
theorem hq_alloc {E : TypeId} {K : AV -> AS -> Prop} : hopQ P G ⟨d, .alloc E, ty, pos, af, g⟩ e σ0 σ K = hop P G ⟨d, .alloc E, ty, pos, af, g⟩ e σ0 σ K := nr rfl
theorem hq_box {E : TypeId} {x : Operand} {K : AV -> AS -> Prop} : hopQ P G ⟨d, .box E x, ty, pos, af, g⟩ e σ0 σ K = hop P G ⟨d, .box E x, ty, pos, af, g⟩ e σ0 σ K := nr rfl
theorem hq_build {t : TypeId} {ps : Array (Nat × Operand)} {K : AV -> AS -> Prop} : hopQ P G ⟨d, .build t ps, ty, pos, af, g⟩ e σ0 σ K = hop P G ⟨d, .build t ps, ty, pos, af, g⟩ e σ0 σ K := nr rfl
theorem hq_buildSlice {t n : Nat} {ps : Array (Nat × Operand)} {K : AV -> AS -> Prop} : hopQ P G ⟨d, .buildSlice t n ps, ty, pos, af, g⟩ e σ0 σ K = hop P G ⟨d, .buildSlice t n ps, ty, pos, af, g⟩ e σ0 σ K := nr rfl
theorem hq_load {t : TypeId} {x : Operand} {K : AV -> AS -> Prop} : hopQ P G ⟨d, .load t x, ty, pos, af, g⟩ e σ0 σ K = hop P G ⟨d, .load t x, ty, pos, af, g⟩ e σ0 σ K := nr rfl
theorem hq_nilCheck {x : Operand} {K : AV -> AS -> Prop} : hopQ P G ⟨d, .nilCheck x, ty, pos, af, g⟩ e σ0 σ K = hop P G ⟨d, .nilCheck x, ty, pos, af, g⟩ e σ0 σ K := nr rfl
theorem hq_binOp {op : BinOp} {t yt : TypeId} {x y : Operand} {K : AV -> AS -> Prop} : hopQ P G ⟨d, .binOp op t x y yt, ty, pos, af, g⟩ e σ0 σ K = hop P G ⟨d, .binOp op t x y yt, ty, pos, af, g⟩ e σ0 σ K := nr rfl
theorem hq_unOp {op : UnOp} {t : TypeId} {x : Operand} {K : AV -> AS -> Prop} : hopQ P G ⟨d, .unOp op t x, ty, pos, af, g⟩ e σ0 σ K = hop P G ⟨d, .unOp op t x, ty, pos, af, g⟩ e σ0 σ K := nr rfl
theorem hq_convert {s t : TypeId} {x : Operand} {K : AV -> AS -> Prop} : hopQ P G ⟨d, .convert s t x, ty, pos, af, g⟩ e σ0 σ K = hop P G ⟨d, .convert s t x, ty, pos, af, g⟩ e σ0 σ K := nr rfl
theorem hq_makeFunc {f : FuncId} {caps : Array Operand} {K : AV -> AS -> Prop} : hopQ P G ⟨d, .makeFunc (.func f) #[] caps, ty, pos, af, g⟩ e σ0 σ K = hop P G ⟨d, .makeFunc (.func f) #[] caps, ty, pos, af, g⟩ e σ0 σ K := nr rfl
theorem hq_slice {t : TypeId} {x : Operand} {lo hi : Option Operand} {K : AV -> AS -> Prop} : hopQ P G ⟨d, .slice t x lo hi none, ty, pos, af, g⟩ e σ0 σ K = hop P G ⟨d, .slice t x lo hi none, ty, pos, af, g⟩ e σ0 σ K := nr rfl
theorem hq_fieldAddr {t : TypeId} {x : Operand} {i : Nat} {K : AV -> AS -> Prop} : hopQ P G ⟨d, .fieldAddr t x i, ty, pos, af, g⟩ e σ0 σ K = hop P G ⟨d, .fieldAddr t x i, ty, pos, af, g⟩ e σ0 σ K := nr rfl
theorem hq_field {t : TypeId} {x : Operand} {i : Nat} {K : AV -> AS -> Prop} : hopQ P G ⟨d, .field t x i, ty, pos, af, g⟩ e σ0 σ K = hop P G ⟨d, .field t x i, ty, pos, af, g⟩ e σ0 σ K := nr rfl
theorem hq_indexAddr {t : TypeId} {x i : Operand} {K : AV -> AS -> Prop} : hopQ P G ⟨d, .indexAddr t x i, ty, pos, af, g⟩ e σ0 σ K = hop P G ⟨d, .indexAddr t x i, ty, pos, af, g⟩ e σ0 σ K := nr rfl
theorem hq_index {t : TypeId} {x i : Operand} {K : AV -> AS -> Prop} : hopQ P G ⟨d, .index t x i, ty, pos, af, g⟩ e σ0 σ K = hop P G ⟨d, .index t x i, ty, pos, af, g⟩ e σ0 σ K := nr rfl
theorem hq_extract {x : Operand} {i : Nat} {K : AV -> AS -> Prop} : hopQ P G ⟨d, .extract x i, ty, pos, af, g⟩ e σ0 σ K = hop P G ⟨d, .extract x i, ty, pos, af, g⟩ e σ0 σ K := nr rfl
theorem hq_call {f : Operand} {args : Array Operand} {ts : Array TypeId} {K : AV -> AS -> Prop} : hopQ P G ⟨d, .call ⟨.value f, args, ts⟩, ty, pos, af, g⟩ e σ0 σ K = hop P G ⟨d, .call ⟨.value f, args, ts⟩, ty, pos, af, g⟩ e σ0 σ K := nr rfl
theorem hq_len {args : Array Operand} {ts : Array TypeId} {K : AV -> AS -> Prop} : hopQ P G ⟨d, .call ⟨.builtin .len, args, ts⟩, ty, pos, af, g⟩ e σ0 σ K = hop P G ⟨d, .call ⟨.builtin .len, args, ts⟩, ty, pos, af, g⟩ e σ0 σ K := nr rfl
theorem hq_cap {args : Array Operand} {ts : Array TypeId} {K : AV -> AS -> Prop} : hopQ P G ⟨d, .call ⟨.builtin .cap, args, ts⟩, ty, pos, af, g⟩ e σ0 σ K = hop P G ⟨d, .call ⟨.builtin .cap, args, ts⟩, ty, pos, af, g⟩ e σ0 σ K := nr rfl
theorem hq_usd {args : Array Operand} {ts : Array TypeId} {K : AV -> AS -> Prop} : hopQ P G ⟨d, .call ⟨.builtin .unsafeSliceData, args, ts⟩, ty, pos, af, g⟩ e σ0 σ K = hop P G ⟨d, .call ⟨.builtin .unsafeSliceData, args, ts⟩, ty, pos, af, g⟩ e σ0 σ K := nr rfl
theorem hq_max {args : Array Operand} {ts : Array TypeId} {K : AV -> AS -> Prop} : hopQ P G ⟨d, .call ⟨.builtin .max, args, ts⟩, ty, pos, af, g⟩ e σ0 σ K = hop P G ⟨d, .call ⟨.builtin .max, args, ts⟩, ty, pos, af, g⟩ e σ0 σ K := nr rfl
theorem hq_min {args : Array Operand} {ts : Array TypeId} {K : AV -> AS -> Prop} : hopQ P G ⟨d, .call ⟨.builtin .min, args, ts⟩, ty, pos, af, g⟩ e σ0 σ K = hop P G ⟨d, .call ⟨.builtin .min, args, ts⟩, ty, pos, af, g⟩ e σ0 σ K := nr rfl
theorem hq_makeSlice {t : TypeId} {x y : Operand} {K : AV -> AS -> Prop} : hopQ P G ⟨d, .makeSlice t x y, ty, pos, af, g⟩ e σ0 σ K = hop P G ⟨d, .makeSlice t x y, ty, pos, af, g⟩ e σ0 σ K := nr rfl
end pl
end Go.Av
namespace Go.Av
open Go Go.RowKit
inductive Frz (b n s : Nat) (y : AV) : AV -> AV -> Prop
 | same (a : AV) : Frz b n s y a a
 | here (E : TypeId) : Frz b n s y (.bs b n s E) y
 | tup (l l' : List AV) (hl : l.length = l'.length) (h : ∀ j (h1 : j < l.length) (h2 : j < l'.length), Frz b n s y l[j] l'[j]) : Frz b n s y (.tup l) (.tup l')
 | agg (l l' : List AV) (hl : l.length = l'.length) (h1 : ∀ c, c ∈ l' -> one c = true) (h : ∀ j (h1 : j < l.length) (h2 : j < l'.length), Frz b n s y l[j] l'[j]) : Frz b n s y (.agg l) (.agg l')
def Has (b n s : Nat) (r : AV) : Prop := ∀ K v, VR K r v -> ∃ cap E, K.row b = some (cap, s, E) /\ n <= cap /\ cap <= maxLen
theorem Has.bs {b n s : Nat} {E : TypeId} : Has b n s (.bs b n s E) := fun K v h => by
 cases h with
 | bs _ _ _ cap E hr hn hm => exact ⟨cap, E, hr, hn, hm⟩
theorem Has.tup {b n s : Nat} {l : List AV} (j : Nat) (hj : j < l.length) (h : Has b n s l[j]) : Has b n s (.tup l) := fun K v hv => by
 cases hv with
 | tup _ vs hl hvv => exact h K _ (hvv j hj)
theorem Has.agg {b n s : Nat} {l : List AV} (j : Nat) (hj : j < l.length) (h : Has b n s l[j]) : Has b n s (.agg l) := fun K v hv => by
 cases hv with
 | agg _ vs hl h1 hvv => exact h K _ (hvv j hj)
structure Items (n s : Nat) (xs cs : List AV) : Prop where
 len : xs.length = n
 flat : xs.flatMap flat = cs
 item : ∀ a, a ∈ xs -> (Av.flat a).length = s /\ isv a = true
theorem Items.size {n s : Nat} {xs cs : List AV} (h : Items n s xs cs) : cs.length = n * s := by
 rw [<- h.flat, flatMap_length (sz := s) xs (fun a ha => (h.item a ha).1), h.len]
def AS.froze (σ : AS) (b n s : Nat) : AS := (σ.delBox b).setTip b (n, s)
theorem freeze_world {G : Nat -> AV} {K : Ctx} {σ : AS} {w : World} (hr : Rel G K σ w) {b n s : Nat} {xs cs : List AV} (hb : σ.box b = some cs) (hi : Items n s xs cs) {cap : Nat} {E : TypeId} (hrow : K.row b = some (cap, s, E)) (hn : n <= cap) (hm : cap <= maxLen) :
  ∃ K', K.le K' /\ Rel G K' (σ.froze b n s) w /\ ∀ r r' v, Frz b n s (.sl (.own b) xs []) r r' -> VR K r v -> VR K' r' v := by
 obtain ⟨K', h1, h2, h3, f, h4, h5, h6⟩ := hr.frozen hb hrow hi.size hn
 refine ⟨K', h1, h2, fun r r' v hf => ?_⟩
 induction hf generalizing v with
 | same a => exact fun hv => hv.mono h1
 | here E0 =>
  intro hv
  cases hv with
  | bs _ _ _ cap2 E2 hr2 hn2 hm2 =>
   rw [hrow] at hr2
   simp only [Option.some.injEq, Prod.mk.injEq] at hr2
   obtain ⟨rfl, _, rfl⟩ := hr2
   have hfl : ((xs ++ []).flatMap flat) = cs := by rw [List.append_nil, hi.flat]
   have := VR.sl (K := K') (.own b) xs [] s b 0 cap f
    (fun e he => by
      rw [List.append_nil] at he
      refine ⟨(hi.item e he).1, (hi.item e he).2, fun c hc => h6 c ?_⟩
      rw [<- hi.flat]; exact List.mem_flatMap.2 ⟨e, he, hc⟩)
    (by rw [hi.len]; simp; exact hn) hm
    (fun j hj => by rw [hfl] at hj; rw [Nat.zero_add]; exact h4 j hj)
    (fun j hj => by
      have hj' : j < cs.length := by rw [hfl] at hj; exact hj
      have e1 : ((xs ++ []).flatMap flat)[j] = cs[j] := by congr 1
      rw [e1]; exact h5 j hj')
    ⟨rfl, rfl, E, s, h3⟩
   rw [hi.len] at this
   exact this
 | tup l l' hl h ih =>
  intro hv
  cases hv with
  | tup _ vs hvl hvv => exact .tup l' vs (by omega) fun j hj => ih j (by omega) hj _ (hvv j (by omega))
 | agg l l' hl h1' h ih =>
  intro hv
  cases hv with
  | agg _ vs hvl ho hvv => exact .agg l' vs (by omega) h1' fun j hj => ih j (by omega) hj _ (hvv j (by omega))
inductive FrzL (b n s : Nat) (y : AV) : List AV -> List AV -> Prop
 | nil : FrzL b n s y [] []
 | cons {a a' : AV} {l l' : List AV} (h : Frz b n s y a a') (t : FrzL b n s y l l') : FrzL b n s y (a :: l) (a' :: l')
theorem FrzL.refl {b n s : Nat} {y : AV} : ∀ (l : List AV), FrzL b n s y l l
 | [] => .nil
 | a :: l => .cons (.same a) (FrzL.refl l)
def HasL (b n s : Nat) (l : List AV) : Prop := ∃ a, a ∈ l /\ Has b n s a
theorem HasL.row {b n s : Nat} {K : Ctx} : ∀ {l : List AV} {vs : List Value}, VRl K l vs -> HasL b n s l -> ∃ cap E, K.row b = some (cap, s, E) /\ n <= cap /\ cap <= maxLen
 | a :: l, v :: vs, ⟨h1, h2⟩, ⟨x, hx, hh⟩ => by
  rcases List.mem_cons.1 hx with rfl | hx
  ·exact hh K v h1
  ·exact HasL.row h2 ⟨x, hx, hh⟩
 | [], _, _, ⟨x, hx, _⟩ => by cases hx
 | _ :: _, [], h, _ => h.elim
theorem AS.froze_le {σ0 σ : AS} (h : σ0.le σ) {b n s : Nat} (hb : σ0.box b = none) (ht : σ0.tip b = none) : σ0.le (σ.froze b n s) := by
 have h1 : σ0.le (σ.delBox b) := ⟨fun i cs hi => by
  show (if i = b then none else σ.box i) = some cs
  have hne : i ≠ b := fun e => by subst e; rw [hb] at hi; cases hi
  rw [if_neg hne]; exact h.box _ _ hi, fun i m hi => h.tip _ _ hi, h.ty⟩
 exact h1.setTip ht _
end Go.Av
