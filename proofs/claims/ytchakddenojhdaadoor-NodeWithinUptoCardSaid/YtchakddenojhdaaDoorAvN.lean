/- Slices that a call builds itself by appends; results told as less; pieces. -/
import Derived.Test.YtchakddenojhdaaDoorAvM
set_option linter.unusedVariables false
set_option linter.unusedSimpArgs false
namespace Go.Av
open Go Go.RowKit

theorem Pure.of_le {P : Program} {G : Nat → AV} {f : FuncId} {args : List AV} {v : AV} (h : ∀ σ, Tri P G f args σ fun r σ' => Le r v ∧ σ' = σ) : Pure P G f args v :=
  fun σ => Tri.tell (h σ) fun r s ⟨h1, h2⟩ => ⟨v, h1, rfl, h2⟩
theorem PureC.of_le {P : Program} {G : Nat → AV} {f : FuncId} {args : List AV} {v : AV} {σ0 : AS} (h : ∀ σ, σ0.le σ → Tri P G f args σ fun r σ' => Le r v ∧ σ' = σ) : PureC P G f args σ0 v :=
  fun σ hσ => Tri.tell (h σ hσ) fun r s ⟨h1, h2⟩ => ⟨v, h1, rfl, h2⟩
theorem finish_le {r v : AV} {σ σ' : AS} {d : Dum σ} {d' : Dum fun x s => Le x v ∧ s = σ'} (h2 : Le r v) (h1 : σ'.le σ) : finishW (some [r]) σ (fun x s => Le x v ∧ s = σ') d d' := ⟨[r], σ', rfl, h1, h2, rfl⟩
/-- a call with arguments of which more is known than the contract asks -/
theorem Pure.useL {P : Program} {G : Nat → AV} {f : FuncId} {args args' : List AV} {v : AV} (h : Pure P G f args' v) (hl : Les args args') {σ : AS} {K : AV → AS → Prop} {d : Dum σ} {d' : Dum K} (hk : K v σ) : triW P G f args σ K d d' :=
  Tri.weaken hl ((h σ).mono fun r s ⟨hr, hs⟩ => by subst hr hs; exact hk)
theorem Pure.lessArgs {P : Program} {G : Nat → AV} {f : FuncId} {args args' : List AV} {v : AV} (h : Pure P G f args' v) (hl : Les args args') : Pure P G f args v := fun σ => Tri.weaken hl (h σ)
theorem Pure.tellLess {P : Program} {G : Nat → AV} {f : FuncId} {args : List AV} {v v' : AV} (h : Pure P G f args v) (hl : Le v v') : Pure P G f args v' :=
  Pure.of_le fun σ => (h σ).mono fun r s ⟨hr, hs⟩ => ⟨hr ▸ hl, hs⟩

/-- whose the room is: forgotten -/
theorem Le.gh {g : Gh} {xs sp : List AV} : Le (.sl g xs sp) (.sl .none xs sp) := fun K v h => by
  cases h with
  | sl0 a => exact .sl0 a
  | sl _ _ _ sz b off cap f hsz hcap hml himm hvv hg => exact .sl .none xs sp sz b off cap f hsz hcap hml himm hvv trivial
/-- the spare room: forgotten -/
theorem Le.spare {g : Gh} {xs sp : List AV} : Le (.sl g xs sp) (.sl .none xs []) := Le.trans Le.gh (fun K v h => h.spareless)

/-- v holds xs: nil, or a row of the call's own, with all that stood at the start untouched -/
inductive Buf (n : Nat) (σ0 σ : AS) : AV → List AV → Prop
  | nil (h : σ0.le σ) : Buf n σ0 σ .nil []
  | own (b : Nat) (xs : List AV) (h : σ0.le σ) (h0 : σ0.tip b = none) (ht : σ.tip b = some (xs.length, n)) (hx : ∀ a, a ∈ xs → (flat a).length = n) : Buf n σ0 σ (.sl (.own b) xs []) xs

theorem Buf.le {n : Nat} {σ0 σ : AS} {v : AV} {xs : List AV} (h : Buf n σ0 σ v xs) : σ0.le σ := by cases h <;> assumption
theorem Buf.told {n : Nat} {σ0 σ : AS} {v : AV} {xs : List AV} (h : Buf n σ0 σ v xs) : Le v (.sl .none xs []) := by
  cases h with
  | nil _ => exact Le.nil
  | own b xs _ _ _ _ => exact Le.gh
theorem Buf.toldE {n : Nat} {σ0 σ : AS} {v : AV} {xs ys : List AV} (h : Buf n σ0 σ v xs) (hl : LeEs xs ys) : Le v (.sl .none ys []) := Le.trans h.told (Le.sl hl)
theorem Buf.setBox {n : Nat} {σ0 σ : AS} {v : AV} {xs : List AV} (h : Buf n σ0 σ v xs) {c : Nat} (hc : σ0.box c = none) (cs : List AV) : Buf n σ0 (σ.setBox c cs) v xs := by
  cases h with
  | nil h => exact .nil (h.setBox hc cs)
  | own b xs h h0 ht hx => exact .own b xs (h.setBox hc cs) h0 ht hx
theorem Buf.newBox {n : Nat} {σ0 σ : AS} {v : AV} {xs : List AV} (h : Buf n σ0 σ v xs) {c : Nat} (hc : σ.fresh c) (cs : List AV) : Buf n σ0 (σ.setBox c cs) v xs := h.setBox (h.le.fresh hc).1 cs
/-- from a later start -/
theorem Buf.from {n : Nat} {σ0 σ1 σ : AS} {v : AV} {xs : List AV} (h : Buf n σ1 σ v xs) (hl : σ0.le σ1) : Buf n σ0 σ v xs := by
  cases h with
  | nil h => exact .nil (hl.trans h)
  | own b xs h h0 ht hx =>
    refine .own b xs (hl.trans h) ?_ ht hx
    cases e : σ0.tip b with
    | none => rfl
    | some x => have := hl.tip _ _ e; rw [h0] at this; cases this

theorem Buf.isNil {n : Nat} {σ0 σ : AS} {v : AV} {xs : List AV} (h : Buf n σ0 σ v xs) : (xs = [] ∧ v = .nil) ∨ ∃ b, v = .sl (.own b) xs [] := by
  cases h with
  | nil _ => exact .inl ⟨rfl, rfl⟩
  | own b xs _ _ _ _ => exact .inr ⟨b, rfl⟩
theorem Buf.len {P : Program} {n : Nat} {σ0 σ : AS} {v : AV} {xs : List AV} (h : Buf n σ0 σ v xs) {t : TypeId} : ablt P .len #[t] [v] = if (el P t).isSome then some (.int .i64 xs.length) else none := by
  cases h with
  | nil _ => rw [l_nil]; rfl
  | own b xs _ _ _ _ => rw [l_sl]
theorem Buf.isv {n : Nat} {σ0 σ : AS} {v : AV} {xs : List AV} (h : Buf n σ0 σ v xs) : isv v = true := by cases h <;> rfl
theorem Buf.flat {n : Nat} {σ0 σ : AS} {v : AV} {xs : List AV} (h : Buf n σ0 σ v xs) : flat v = [v] := by cases h <;> rfl

theorem app_buf {P : Program} {n by_ : Nat} {σ0 σ : AS} {v x : AV} {xs ys : List AV} {t tx e : TypeId} {K : AV → AS → Prop} {d : Dum σ} {d' : Dum K} (hB : Buf n σ0 σ v xs) (he : aelt P t = some (e, n, by_)) (hs : asrc P tx x = some ys)
    (hys : ∀ a, a ∈ ys → (Av.flat a).length = n) (hb : (xs.length + ys.length) * by_ ≤ 140737488355328) (hK : ∀ v' σ', Buf n σ0 σ' v' (xs ++ ys) → σ'.box = σ.box → K v' σ') : appW P σ t tx v x K d d' := by
  unfold appW aappend
  rw [he, hs]
  refine ⟨hys, ?_⟩
  cases hB with
  | nil h =>
    refine ⟨by simpa using hb, fun hy => ?_, fun hy b hf => ?_⟩
    · subst hy; exact hK _ _ (.nil h) rfl
    · have hf0 := h.fresh hf
      refine hK _ _ ?_ rfl
      rw [List.nil_append]
      exact .own b ys (h.setTip hf0.2 _) hf0.2 (by simp [AS.setTip]) hys
  | own b xs h h0 ht hx =>
    refine ⟨ht, hx, hb, fun b' hb' => ?_⟩
    have h0' : σ0.tip b' = none := by
      rcases hb' with rfl | hf
      · exact h0
      · exact (h.fresh hf).2
    refine hK _ _ ?_ rfl
    refine .own b' (xs ++ ys) ((h.delTip h0).setTip h0' _) h0' (by simp [AS.setTip]) fun a ha => ?_
    rcases List.mem_append.1 ha with ha | ha
    · exact hx a ha
    · exact hys a ha
theorem asrc_sl {P : Program} {t e : TypeId} {g : Gh} {xs sp : List AV} (h : el P t = some e) : asrc P t (.sl g xs sp) = some xs := by simp [asrc, h]
theorem asrc_nil {P : Program} {t e : TypeId} (h : el P t = some e) : asrc P t .nil = some [] := by simp [asrc, h]
theorem asrc_str {P : Program} {t : TypeId} {s : List UInt8} (h : sk P t = .str) : asrc P t (.str s) = some (s.map fun c => .int .u8 c.toNat) := by simp [asrc, h]
theorem make_buf {P : Program} {n by_ : Nat} {σ0 σ : AS} {t e : TypeId} {k k' : IntKind} {c : Int} {K : AV → AS → Prop} {d : Dum σ} {d' : Dum K} (he : aelt P t = some (e, n, by_)) (h0 : 0 ≤ c) (hc : c * by_ ≤ 140737488355328) (hle : σ0.le σ)
    (hK : ∀ v σ', Buf n σ0 σ' v [] → σ'.box = σ.box → K v σ') : makeW P σ t (.int k 0) (.int k' c) K d d' := by
  unfold makeW amake
  rw [he]
  refine ⟨rfl, h0, hc, fun b hf => ?_⟩
  have hf0 := hle.fresh hf
  exact hK _ _ (.own b [] (hle.setTip hf0.2 _) hf0.2 (by simp [AS.setTip]) (fun a ha => by cases ha)) rfl

/-- pieces of a slice, whose room is forgotten -/
theorem piece {P : Program} {t e : TypeId} {ag : Bool} {n l h : Nat} {g : Gh} {xs sp : List AV} {lo hi : Option AV} {K : AV → Prop} {d : Dum K} (he : el P t = some e) (hn : tk P e = some (ag, n)) (h1 : abnd lo 0 = some l) (h2 : abnd hi xs.length = some h)
    (hl : l ≤ h) (hh : h ≤ xs.length + sp.length) (hx : ∀ a, a ∈ xs ++ sp → (Av.flat a).length = n) (hK : ∀ g', K (slim (.sl g xs sp) (.sl g' (((xs ++ sp).take h).drop l) ((xs ++ sp).drop h)))) : bo (aslice P t (.sl g xs sp) lo hi) K d := by
  refine ⟨slim (.sl g xs sp) (.sl (pieceGh g l h xs.length) (((xs ++ sp).take h).drop l) ((xs ++ sp).drop h)), ?_, hK _⟩
  unfold aslice aslice0
  simp only [he, h1, h2, hn]
  rw [if_pos ⟨hl, hh, .inr hx⟩]
  rfl
/-- a slice of one item, written out -/
theorem build_one {P : Program} {t e : TypeId} {n by_ : Nat} {a : AV} {K : AV → Prop} {d : Dum K} (he : aelt P t = some (e, n, by_)) (hi : isv a = true) (hf : (Av.flat a).length = n) (hn : n ≤ 16777216) (hK : K (.sl .full [a] [])) : bo (abuildSlice P t 1 [(0, a)]) K d := by
  refine ⟨_, abuildSlice_eq (r := .sl .full [a] []) ?_, hK⟩
  unfold bsk
  rw [he]
  simp [List.range_succ, hi, hf, hn]
/-- what is read at a place of a slice -/
theorem LeEs.get {xs ys : List AV} (h : LeEs xs ys) : ∀ (j : Nat) (h1 : j < xs.length) (h2 : j < ys.length), LeE xs[j] ys[j] := by
  induction h with
  | nil => intro j hj; cases hj
  | cons h _ ih =>
    intro j h1 h2
    cases j with
    | zero => exact h
    | succ j => exact ih j (by simpa using h1) (by simpa using h2)
/-! a drawn row, walked in the order of the text: its head, as long as nothing is written; then one by one -/
def wildB (o : Oper) : Bool := match o.op with | .store .. => true | .makeSlice .. => true | .call ⟨.builtin .append, _, _⟩ => true | _ => false
def headLen : List Oper → Nat
  | [] => 0
  | o :: r => if wildB o = true then 0 else headLen r + 1
def htW (w : Bool) (A B : Prop) (_ : Dum A) (_ : Dum B) : Prop := (w = true → A) ∧ (w = false → B)
def awpHT (P : Program) (G : Nat → AV) (ops : List Oper) (σ0 : AS) (R : Env → AS → Prop) : List Oper → Env → AS → Prop
  | [], e, σ => R e σ
  | o :: rest, e, σ => htW (wildB o) (awpOps P G ops R (o :: rest) e σ)
      (gW (awanted ops e o.guard) (hop P G o e σ0 σ fun r σ' => awpHT P G ops σ0 R rest (e.upd o.dst r) σ') (awpHT P G ops σ0 R rest (e.upd o.dst (.tup [])) σ) ⟨⟩ ⟨⟩) ⟨⟩ ⟨⟩
theorem htW_true {A B : Prop} {d : Dum A} {d' : Dum B} : htW true A B d d' = A := by simp [htW]
theorem htW_false {A B : Prop} {d : Dum A} {d' : Dum B} : htW false A B d d' = B := by simp [htW]
section ht
variable {P : Program} {G : Nat → AV} {ops rest : List Oper} {σ0 σ : AS} {R : Env → AS → Prop} {e : Env} {d : Option Tmp} {ty : TypeId} {pos : String} {af : Array Edge} {g : Option (Nat × Bool)}
theorem ht_nil : awpHT P G ops σ0 R [] e σ = R e σ := nr rfl
theorem ht_cons {o : Oper} : awpHT P G ops σ0 R (o :: rest) e σ = htW (wildB o) (awpOps P G ops R (o :: rest) e σ)
      (gW (awanted ops e o.guard) (hop P G o e σ0 σ fun r σ' => awpHT P G ops σ0 R rest (e.upd o.dst r) σ') (awpHT P G ops σ0 R rest (e.upd o.dst (.tup [])) σ) ⟨⟩ ⟨⟩) ⟨⟩ ⟨⟩ := nr rfl
theorem iw_move {x : Operand} : wildB ⟨d, .move x, ty, pos, af, g⟩ = false := nr rfl
theorem iw_assign {x : Operand} : wildB ⟨d, .assign x, ty, pos, af, g⟩ = false := nr rfl
theorem iw_pick {a b c : Operand} : wildB ⟨d, .pick a b c, ty, pos, af, g⟩ = false := nr rfl
theorem iw_alloc {E : TypeId} : wildB ⟨d, .alloc E, ty, pos, af, g⟩ = false := nr rfl
theorem iw_box {E : TypeId} {x : Operand} : wildB ⟨d, .box E x, ty, pos, af, g⟩ = false := nr rfl
theorem iw_build {t : TypeId} {ps : Array (Nat × Operand)} : wildB ⟨d, .build t ps, ty, pos, af, g⟩ = false := nr rfl
theorem iw_buildSlice {t n : Nat} {ps : Array (Nat × Operand)} : wildB ⟨d, .buildSlice t n ps, ty, pos, af, g⟩ = false := nr rfl
theorem iw_load {t : TypeId} {x : Operand} : wildB ⟨d, .load t x, ty, pos, af, g⟩ = false := nr rfl
theorem iw_nilCheck {x : Operand} : wildB ⟨d, .nilCheck x, ty, pos, af, g⟩ = false := nr rfl
theorem iw_binOp {op : BinOp} {t yt : TypeId} {x y : Operand} : wildB ⟨d, .binOp op t x y yt, ty, pos, af, g⟩ = false := nr rfl
theorem iw_unOp {op : UnOp} {t : TypeId} {x : Operand} : wildB ⟨d, .unOp op t x, ty, pos, af, g⟩ = false := nr rfl
theorem iw_convert {s t : TypeId} {x : Operand} : wildB ⟨d, .convert s t x, ty, pos, af, g⟩ = false := nr rfl
theorem iw_makeFunc {f : FuncId} {caps : Array Operand} : wildB ⟨d, .makeFunc (.func f) #[] caps, ty, pos, af, g⟩ = false := nr rfl
theorem iw_slice {t : TypeId} {x : Operand} {lo hi : Option Operand} : wildB ⟨d, .slice t x lo hi none, ty, pos, af, g⟩ = false := nr rfl
theorem iw_fieldAddr {t : TypeId} {x : Operand} {i : Nat} : wildB ⟨d, .fieldAddr t x i, ty, pos, af, g⟩ = false := nr rfl
theorem iw_field {t : TypeId} {x : Operand} {i : Nat} : wildB ⟨d, .field t x i, ty, pos, af, g⟩ = false := nr rfl
theorem iw_indexAddr {t : TypeId} {x i : Operand} : wildB ⟨d, .indexAddr t x i, ty, pos, af, g⟩ = false := nr rfl
theorem iw_index {t : TypeId} {x i : Operand} : wildB ⟨d, .index t x i, ty, pos, af, g⟩ = false := nr rfl
theorem iw_extract {x : Operand} {i : Nat} : wildB ⟨d, .extract x i, ty, pos, af, g⟩ = false := nr rfl
theorem iw_call {f : Operand} {args : Array Operand} {ts : Array TypeId} : wildB ⟨d, .call ⟨.value f, args, ts⟩, ty, pos, af, g⟩ = false := nr rfl
theorem iw_len {args : Array Operand} {ts : Array TypeId} : wildB ⟨d, .call ⟨.builtin .len, args, ts⟩, ty, pos, af, g⟩ = false := nr rfl
theorem iw_max {args : Array Operand} {ts : Array TypeId} : wildB ⟨d, .call ⟨.builtin .max, args, ts⟩, ty, pos, af, g⟩ = false := nr rfl
theorem iw_min {args : Array Operand} {ts : Array TypeId} : wildB ⟨d, .call ⟨.builtin .min, args, ts⟩, ty, pos, af, g⟩ = false := nr rfl
theorem iw_store {t : TypeId} {p x : Operand} : wildB ⟨d, .store t p x, ty, pos, af, g⟩ = true := nr rfl
theorem iw_append {args : Array Operand} {ts : Array TypeId} : wildB ⟨d, .call ⟨.builtin .append, args, ts⟩, ty, pos, af, g⟩ = true := nr rfl
theorem iw_makeSlice {t : TypeId} {x y : Operand} : wildB ⟨d, .makeSlice t x y, ty, pos, af, g⟩ = true := nr rfl
theorem ht_head : ∀ (l : List Oper) (e : Env) (σ : AS), awpHT P G ops σ0 R l e σ → awpHead P G ops σ0 (fun e' σ' => awpOps P G ops R (l.drop (headLen l)) e' σ') (l.take (headLen l)) e σ
  | [], e, σ, h => h
  | o :: rest, e, σ, h => by
    unfold awpHT htW at h
    unfold headLen
    cases hw : wildB o with
    | true =>
      simp only [if_true]
      exact h.1 hw
    | false =>
      simp only [Bool.false_eq_true, if_false]
      obtain ⟨b, hb, h1, h2⟩ := h.2 hw
      have hl : (o :: rest).take (headLen rest + 1) = o :: rest.take (headLen rest) := rfl
      have hd : (o :: rest).drop (headLen rest + 1) = rest.drop (headLen rest) := rfl
      rw [hl, hd]
      exact ⟨b, hb, fun x => hop_mono (fun r s hh => ht_head rest _ _ hh) (h1 x), fun x => ht_head rest _ _ (h2 x)⟩
end ht
theorem draw_all {P : Program} {G : Nat → AV} {l : List Oper} {R : Env → AS → Prop} {e : Env} {σ : AS} {d : Dum l.toArray} {d' : Dum R} {d2 : Dum e} {d3 : Dum σ} (hn : drawB l.toArray (headLen l) = true)
    (h : awpHT P G l σ R l e σ) : drawW P G l.toArray R e σ d d' d2 d3 := ⟨headLen l, hn, ht_head l e σ h⟩
/-- a loop whose rounds leave the state as it is -/
theorem loop_keep {P : Program} (hm : P.follows .mixedOrders = true) {G : Nat → AV} {c : Code} {Q : Exit → Env → AS → Prop} {e : Env} {σ : AS} {d : Dum c} {d' : Dum Q} {d2 : Dum e} {d3 : Dum σ} (I : Nat → Env → Prop) (n : Nat) (h0 : I n e)
    (h1 : ∀ n v, I n (mrg (cWrites c) v e) → awp P G (adraw P G) c (fun x e' σ' => match x with | .normal => (∃ m, m < n ∧ I m e') ∧ σ' = σ | x => Q x e' σ') (mrg (cWrites c) v e) σ) : loopW P G c Q e σ d d' d2 d3 :=
  loop_intro (fun n e σ' => I n e ∧ σ' = σ) n ⟨h0, rfl⟩ fun n v σ' ⟨hI, hs⟩ => by
    subst hs
    refine awp_mono (drawOK hm) _ _ _ (fun x e s hx => ?_) (h1 n v hI)
    cases x with
    | normal => obtain ⟨⟨m, h1, h2⟩, h3⟩ := hx; exact ⟨m, h1, h2, h3⟩
    | _ => exact hx
end Go.Av
