/- A drawn row whose ways meet again: what it yields is told once. -/
import Derived.Test.YtphnoaihojccbaaGreatDoorZ03
import Derived.Test.YtphnoaihojccbaaGreatDoorChecked
import Derived.KernelRfl
set_option linter.unusedVariables false
set_option linter.unusedSimpArgs false
set_option linter.defProp false
namespace Go.Av
open Go Go.RowKit
section fl
variable {P : Program} {G : Nat → AV} {ops rest : List Oper} {σ0 σ : AS} {R : Env → AS → Prop} {e : Env} {d : Option Tmp} {ty : TypeId} {pos : String} {af : Array Edge} {g : Option (Nat × Bool)} {av : List Nat} {K : AV → AS → List Nat → Prop}
def storeW (P : Program) (σ : AS) (av : List Nat) (t : TypeId) (p x : AV) (K : AV → AS → List Nat → Prop) (_ : Dum σ) (_ : Dum K) : Prop :=
  ∃ b off z0 z, p = .ptr b off ∧ b ∈ av ∧ σ.box b = some z0 ∧ astore P σ t (.ptr b off) x = some (σ.setBox b z) ∧ K .undef (σ.setBox b z) (av.filter fun c => decide (c ≠ b))
theorem hs_nil : awpHeadS P G ops σ0 R [] e σ av = R e σ := nr rfl
theorem hs_cons {o : Oper} : awpHeadS P G ops σ0 R (o :: rest) e σ av =
      gW (awanted ops e o.guard) (hopS P G o e σ0 σ av fun r σ' av' => awpHeadS P G ops σ0 R rest (e.upd o.dst r) σ' av') (awpHeadS P G ops σ0 R rest (e.upd o.dst (.tup [])) σ av) ⟨⟩ ⟨⟩ := nr rfl
def storeX (P : Program) (σ0 σ : AS) (av : List Nat) (t : TypeId) (p x : AV) (K : AV → AS → List Nat → Prop) (_ : Dum σ0) (_ : Dum σ) (_ : Dum K) : Prop := storeW P σ av t p x K ⟨⟩ ⟨⟩ ∨ (sameSt P σ0 t p x ∧ K .undef σ av)
theorem hs_store {t : TypeId} {p x : Operand} : hopS P G ⟨d, .store t p x, ty, pos, af, g⟩ e σ0 σ av K = storeX P σ0 σ av t (ev G e p) (ev G e x) K ⟨⟩ ⟨⟩ ⟨⟩ := nr rfl
theorem storeX_w {σ0 σ : AS} {av : List Nat} {t : TypeId} {p x : AV} {K : AV → AS → List Nat → Prop} {d : Dum σ0} {d' : Dum σ} {d2 : Dum K} (h : storeW P σ av t p x K ⟨⟩ ⟨⟩) : storeX P σ0 σ av t p x K d d' d2 := .inl h
def sameW (P : Program) (σ0 : AS) (t : TypeId) (p x : AV) (F : Prop) (_ : Dum σ0) (_ : Dum F) : Prop := sameSt P σ0 t p x ∧ F
theorem h_store {K : AV → AS → Prop} {t : TypeId} {p x : Operand} : hop P G ⟨d, .store t p x, ty, pos, af, g⟩ e σ0 σ K = sameW P σ0 t (ev G e p) (ev G e x) (K .undef σ) ⟨⟩ ⟨⟩ := nr rfl
theorem hs_move {x : Operand} : hopS P G ⟨d, .move x, ty, pos, af, g⟩ e σ0 σ av K = hop P G ⟨d, .move x, ty, pos, af, g⟩ e σ0 σ (fun r σ' => K r σ' av) := nr rfl
theorem hs_assign {x : Operand} : hopS P G ⟨d, .assign x, ty, pos, af, g⟩ e σ0 σ av K = hop P G ⟨d, .assign x, ty, pos, af, g⟩ e σ0 σ (fun r σ' => K r σ' av) := nr rfl
theorem hs_pick {a b c : Operand} : hopS P G ⟨d, .pick a b c, ty, pos, af, g⟩ e σ0 σ av K = hop P G ⟨d, .pick a b c, ty, pos, af, g⟩ e σ0 σ (fun r σ' => K r σ' av) := nr rfl
theorem hs_alloc {E : TypeId} : hopS P G ⟨d, .alloc E, ty, pos, af, g⟩ e σ0 σ av K = hop P G ⟨d, .alloc E, ty, pos, af, g⟩ e σ0 σ (fun r σ' => K r σ' av) := nr rfl
theorem hs_box {E : TypeId} {x : Operand} : hopS P G ⟨d, .box E x, ty, pos, af, g⟩ e σ0 σ av K = hop P G ⟨d, .box E x, ty, pos, af, g⟩ e σ0 σ (fun r σ' => K r σ' av) := nr rfl
theorem hs_build {t : TypeId} {ps : Array (Nat × Operand)} : hopS P G ⟨d, .build t ps, ty, pos, af, g⟩ e σ0 σ av K = hop P G ⟨d, .build t ps, ty, pos, af, g⟩ e σ0 σ (fun r σ' => K r σ' av) := nr rfl
theorem hs_buildSlice {t n : Nat} {ps : Array (Nat × Operand)} : hopS P G ⟨d, .buildSlice t n ps, ty, pos, af, g⟩ e σ0 σ av K = hop P G ⟨d, .buildSlice t n ps, ty, pos, af, g⟩ e σ0 σ (fun r σ' => K r σ' av) := nr rfl
theorem hs_load {t : TypeId} {x : Operand} : hopS P G ⟨d, .load t x, ty, pos, af, g⟩ e σ0 σ av K = hop P G ⟨d, .load t x, ty, pos, af, g⟩ e σ0 σ (fun r σ' => K r σ' av) := nr rfl
theorem hs_nilCheck {x : Operand} : hopS P G ⟨d, .nilCheck x, ty, pos, af, g⟩ e σ0 σ av K = hop P G ⟨d, .nilCheck x, ty, pos, af, g⟩ e σ0 σ (fun r σ' => K r σ' av) := nr rfl
theorem hs_binOp {op : BinOp} {t yt : TypeId} {x y : Operand} : hopS P G ⟨d, .binOp op t x y yt, ty, pos, af, g⟩ e σ0 σ av K = hop P G ⟨d, .binOp op t x y yt, ty, pos, af, g⟩ e σ0 σ (fun r σ' => K r σ' av) := nr rfl
theorem hs_unOp {op : UnOp} {t : TypeId} {x : Operand} : hopS P G ⟨d, .unOp op t x, ty, pos, af, g⟩ e σ0 σ av K = hop P G ⟨d, .unOp op t x, ty, pos, af, g⟩ e σ0 σ (fun r σ' => K r σ' av) := nr rfl
theorem hs_convert {s t : TypeId} {x : Operand} : hopS P G ⟨d, .convert s t x, ty, pos, af, g⟩ e σ0 σ av K = hop P G ⟨d, .convert s t x, ty, pos, af, g⟩ e σ0 σ (fun r σ' => K r σ' av) := nr rfl
theorem hs_makeFunc {f : FuncId} {caps : Array Operand} : hopS P G ⟨d, .makeFunc (.func f) #[] caps, ty, pos, af, g⟩ e σ0 σ av K = hop P G ⟨d, .makeFunc (.func f) #[] caps, ty, pos, af, g⟩ e σ0 σ (fun r σ' => K r σ' av) := nr rfl
theorem hs_slice {t : TypeId} {x : Operand} {lo hi : Option Operand} : hopS P G ⟨d, .slice t x lo hi none, ty, pos, af, g⟩ e σ0 σ av K = hop P G ⟨d, .slice t x lo hi none, ty, pos, af, g⟩ e σ0 σ (fun r σ' => K r σ' av) := nr rfl
theorem hs_fieldAddr {t : TypeId} {x : Operand} {i : Nat} : hopS P G ⟨d, .fieldAddr t x i, ty, pos, af, g⟩ e σ0 σ av K = hop P G ⟨d, .fieldAddr t x i, ty, pos, af, g⟩ e σ0 σ (fun r σ' => K r σ' av) := nr rfl
theorem hs_field {t : TypeId} {x : Operand} {i : Nat} : hopS P G ⟨d, .field t x i, ty, pos, af, g⟩ e σ0 σ av K = hop P G ⟨d, .field t x i, ty, pos, af, g⟩ e σ0 σ (fun r σ' => K r σ' av) := nr rfl
theorem hs_indexAddr {t : TypeId} {x i : Operand} : hopS P G ⟨d, .indexAddr t x i, ty, pos, af, g⟩ e σ0 σ av K = hop P G ⟨d, .indexAddr t x i, ty, pos, af, g⟩ e σ0 σ (fun r σ' => K r σ' av) := nr rfl
theorem hs_index {t : TypeId} {x i : Operand} : hopS P G ⟨d, .index t x i, ty, pos, af, g⟩ e σ0 σ av K = hop P G ⟨d, .index t x i, ty, pos, af, g⟩ e σ0 σ (fun r σ' => K r σ' av) := nr rfl
theorem hs_extract {x : Operand} {i : Nat} : hopS P G ⟨d, .extract x i, ty, pos, af, g⟩ e σ0 σ av K = hop P G ⟨d, .extract x i, ty, pos, af, g⟩ e σ0 σ (fun r σ' => K r σ' av) := nr rfl
theorem hs_call {f : Operand} {args : Array Operand} {ts : Array TypeId} : hopS P G ⟨d, .call ⟨.value f, args, ts⟩, ty, pos, af, g⟩ e σ0 σ av K = hop P G ⟨d, .call ⟨.value f, args, ts⟩, ty, pos, af, g⟩ e σ0 σ (fun r σ' => K r σ' av) := nr rfl
theorem hs_len {args : Array Operand} {ts : Array TypeId} : hopS P G ⟨d, .call ⟨.builtin .len, args, ts⟩, ty, pos, af, g⟩ e σ0 σ av K = hop P G ⟨d, .call ⟨.builtin .len, args, ts⟩, ty, pos, af, g⟩ e σ0 σ (fun r σ' => K r σ' av) := nr rfl
theorem hs_cap {args : Array Operand} {ts : Array TypeId} : hopS P G ⟨d, .call ⟨.builtin .cap, args, ts⟩, ty, pos, af, g⟩ e σ0 σ av K = hop P G ⟨d, .call ⟨.builtin .cap, args, ts⟩, ty, pos, af, g⟩ e σ0 σ (fun r σ' => K r σ' av) := nr rfl
theorem hs_usd {args : Array Operand} {ts : Array TypeId} : hopS P G ⟨d, .call ⟨.builtin .unsafeSliceData, args, ts⟩, ty, pos, af, g⟩ e σ0 σ av K = hop P G ⟨d, .call ⟨.builtin .unsafeSliceData, args, ts⟩, ty, pos, af, g⟩ e σ0 σ (fun r σ' => K r σ' av) := nr rfl
theorem hs_max {args : Array Operand} {ts : Array TypeId} : hopS P G ⟨d, .call ⟨.builtin .max, args, ts⟩, ty, pos, af, g⟩ e σ0 σ av K = hop P G ⟨d, .call ⟨.builtin .max, args, ts⟩, ty, pos, af, g⟩ e σ0 σ (fun r σ' => K r σ' av) := nr rfl
theorem hs_min {args : Array Operand} {ts : Array TypeId} : hopS P G ⟨d, .call ⟨.builtin .min, args, ts⟩, ty, pos, af, g⟩ e σ0 σ av K = hop P G ⟨d, .call ⟨.builtin .min, args, ts⟩, ty, pos, af, g⟩ e σ0 σ (fun r σ' => K r σ' av) := nr rfl
theorem hs_makeSlice {t : TypeId} {x y : Operand} : hopS P G ⟨d, .makeSlice t x y, ty, pos, af, g⟩ e σ0 σ av K = hop P G ⟨d, .makeSlice t x y, ty, pos, af, g⟩ e σ0 σ (fun r σ' => K r σ' av) := nr rfl
def stw (m : Bool) (k : Option (Bool × Nat)) (σ : AS) (bx : Option (List AV)) (b off : Nat) (x : AV) (K : AS → Prop) : Prop := match m, k, bx with
  | true, some (_, n), some cs => isv x = true ∧ (flat x).length = n ∧ off + n ≤ cs.length ∧ K (σ.setBox b (cs.take off ++ flat x ++ cs.drop (off + n)))
  | _, _, _ => False
theorem stw_some {ag : Bool} {n : Nat} {cs : List AV} {b off : Nat} {x : AV} {F : AS → Prop} : stw true (some (ag, n)) σ (some cs) b off x F = (isv x = true ∧ (flat x).length = n ∧ off + n ≤ cs.length ∧ F (σ.setBox b (cs.take off ++ flat x ++ cs.drop (off + n)))) := nr rfl
theorem storeW_eq {t : TypeId} {b off : Nat} {x : AV} {d : Dum σ} {d' : Dum K} : storeW P σ av t (.ptr b off) x K d d' = stw (decide (b ∈ av)) (tk P t) σ (σ.box b) b off x (fun s => K .undef s (av.filter fun c => decide (c ≠ b))) := by
  apply propext
  constructor
  · rintro ⟨b', off', z0, z, h1, h2, h3, h4, h5⟩
    simp only [AV.ptr.injEq] at h1
    obtain ⟨rfl, rfl⟩ := h1
    have h0 : decide (b ∈ av) = true := by simpa using h2
    rw [h0, h3]
    rw [astore_ptr, h3] at h4
    unfold stw
    unfold stk at h4
    cases hk : tk P t with
    | none => rw [hk] at h4; cases h4
    | some y =>
      obtain ⟨ag, n⟩ := y
      rw [hk] at h4
      simp only at h4 ⊢
      split at h4
      · rename_i hc
        simp only [Option.some.injEq] at h4
        have := setBox_inj h4
        rw [this]
        exact ⟨hc.1, hc.2.1, hc.2.2, h5⟩
      · cases h4
  · intro h
    unfold stw at h
    split at h
    · rename_i ag n cs hm hk hb
      obtain ⟨g1, g2, g3, g4⟩ := h
      refine ⟨b, off, cs, _, rfl, by simpa using hm, hb, ?_, g4⟩
      rw [astore_ptr, hb, hk]
      unfold stk
      exact if_pos ⟨g1, g2, g3⟩
    · exact h.elim
theorem AS.delBox_le (σ : AS) (b : Nat) : (σ.delBox b).le σ := ⟨fun i cs hi => by
  have hi' : (if i = b then none else σ.box i) = some cs := hi
  split at hi'
  · cases hi'
  · exact hi', fun _ _ h => h, fun _ _ h => h⟩
theorem draw_float2 {l : List Oper} {d : Dum l.toArray} {d' : Dum R} {d2 : Dum e} {d3 : Dum σ} (n b b' : Nat) {z z' : List AV} (hn : drawB l.toArray n = true) (hb : σ.box b = some z) (hb' : σ.box b' = some z')
    (h : awpHeadS P G l ((σ.delBox b).delBox b') (fun e' σ' => awpOps P G l R (l.drop n) e' σ') (l.take n) e σ [b, b']) : drawW P G l.toArray R e σ d d' d2 d3 :=
  .inl ⟨[], n, (σ.delBox b).delBox b', [b, b'], rfl, hn, (AS.delBox_le _ b').trans (AS.delBox_le σ b), fun c hc => by
    have : c = b ∨ c = b' := by simpa using hc
    rcases this with rfl | rfl
    · exact ⟨by rw [hb]; rfl, by simp [AS.delBox]⟩
    · exact ⟨by rw [hb']; rfl, by simp [AS.delBox]⟩, h⟩
end fl
end Go.Av
namespace Go.Av
open Go Go.RowKit
inductive Frz (b n s : Nat) (y : AV) : AV → AV → Prop
  | same (a : AV) : Frz b n s y a a
  | here (E : TypeId) : Frz b n s y (.bs b n s E) y
  | tup (l l' : List AV) (hl : l.length = l'.length) (h : ∀ j (h1 : j < l.length) (h2 : j < l'.length), Frz b n s y l[j] l'[j]) : Frz b n s y (.tup l) (.tup l')
  | agg (l l' : List AV) (hl : l.length = l'.length) (h1 : ∀ c, c ∈ l' → one c = true) (h : ∀ j (h1 : j < l.length) (h2 : j < l'.length), Frz b n s y l[j] l'[j]) : Frz b n s y (.agg l) (.agg l')
def Has (b n s : Nat) (r : AV) : Prop := ∀ K v, VR K r v → ∃ cap E, K.row b = some (cap, s, E) ∧ n ≤ cap ∧ cap ≤ maxLen
theorem Has.bs {b n s : Nat} {E : TypeId} : Has b n s (.bs b n s E) := fun K v h => by
  cases h with
  | bs _ _ _ cap E hr hn hm => exact ⟨cap, E, hr, hn, hm⟩
theorem Has.tup {b n s : Nat} {l : List AV} (j : Nat) (hj : j < l.length) (h : Has b n s l[j]) : Has b n s (.tup l) := fun K v hv => by
  cases hv with
  | tup _ vs hl hvv => exact h K _ (hvv j hj)
theorem Has.agg {b n s : Nat} {l : List AV} (j : Nat) (hj : j < l.length) (h : Has b n s l[j]) : Has b n s (.agg l) := fun K v hv => by
  cases hv with
  | agg _ vs hl h1 hvv => exact h K _ (hvv j hj)
structure Items (n s : Nat) (xs cs : List AV) : Prop where
  len : xs.length = n
  flat : xs.flatMap flat = cs
  item : ∀ a, a ∈ xs → (Av.flat a).length = s ∧ isv a = true
theorem Items.size {n s : Nat} {xs cs : List AV} (h : Items n s xs cs) : cs.length = n * s := by
  rw [← h.flat, flatMap_length (sz := s) xs (fun a ha => (h.item a ha).1), h.len]
theorem Items.ones {xs : List AV} (h : ∀ a, a ∈ xs → Av.flat a = [a] ∧ isv a = true) : Items xs.length 1 xs xs := by
  refine ⟨rfl, ?_, fun a ha => ⟨by rw [(h a ha).1]; rfl, (h a ha).2⟩⟩
  induction xs with
  | nil => rfl
  | cons x xs ih => rw [List.flatMap_cons, (h x (by simp)).1, ih fun a ha => h a (by simp [ha])]; rfl
def AS.froze (σ : AS) (b n s : Nat) : AS := (σ.delBox b).setTip b (n, s)
theorem freeze_world {G : Nat → AV} {K : Ctx} {σ : AS} {w : World} (hr : Rel G K σ w) {b n s : Nat} {xs cs : List AV} (hb : σ.box b = some cs) (hi : Items n s xs cs) {cap : Nat} {E : TypeId} (hrow : K.row b = some (cap, s, E)) (hn : n ≤ cap) (hm : cap ≤ maxLen) :
    ∃ K', K.le K' ∧ Rel G K' (σ.froze b n s) w ∧ ∀ r r' v, Frz b n s (.sl (.own b) xs []) r r' → VR K r v → VR K' r' v := by
  obtain ⟨K', h1, h2, h3, f, h4, h5, h6⟩ := hr.frozen hb hrow hi.size hn
  refine ⟨K', h1, h2, fun r r' v hf => ?_⟩
  induction hf generalizing v with
  | same a => exact fun hv => hv.mono h1
  | here E0 =>
    intro hv
    cases hv with
    | bs _ _ _ cap2 E2 hr2 hn2 hm2 =>
      rw [hrow] at hr2
      simp only [Option.some.injEq, Prod.mk.injEq] at hr2
      obtain ⟨rfl, _, rfl⟩ := hr2
      have hfl : ((xs ++ []).flatMap flat) = cs := by rw [List.append_nil, hi.flat]
      have := VR.sl (K := K') (.own b) xs [] s b 0 cap f
        (fun e he => by
          rw [List.append_nil] at he
          refine ⟨(hi.item e he).1, (hi.item e he).2, fun c hc => h6 c ?_⟩
          rw [← hi.flat]; exact List.mem_flatMap.2 ⟨e, he, hc⟩)
        (by rw [hi.len]; simp; exact hn) hm
        (fun j hj => by rw [hfl] at hj; rw [Nat.zero_add]; exact h4 j hj)
        (fun j hj => by
          have hj' : j < cs.length := by rw [hfl] at hj; exact hj
          have e1 : ((xs ++ []).flatMap flat)[j] = cs[j] := by congr 1
          rw [e1]; exact h5 j hj')
        ⟨rfl, rfl, E, s, h3⟩
      rw [hi.len] at this
      exact this
  | tup l l' hl h ih =>
    intro hv
    cases hv with
    | tup _ vs hvl hvv => exact .tup l' vs (by omega) fun j hj => ih j (by omega) hj _ (hvv j (by omega))
  | agg l l' hl h1' h ih =>
    intro hv
    cases hv with
    | agg _ vs hvl ho hvv => exact .agg l' vs (by omega) h1' fun j hj => ih j (by omega) hj _ (hvv j (by omega))
theorem Tri.freezeRes {P : Program} {G : Nat → AV} {f : FuncId} {args : List AV} {σ : AS} {Q Q' : AV → AS → Prop} (h : Tri P G f args σ Q)
    (hq : ∀ r σ', Q r σ' → ∃ b n s xs cs r', σ'.box b = some cs ∧ Items n s xs cs ∧ Has b n s r ∧ Frz b n s (.sl (.own b) xs []) r r' ∧ Q' r' (σ'.froze b n s)) : Tri P G f args σ Q' :=
  ⟨h.1, fun K w vals hr hv => (h.2 K w vals hr hv).mono fun e w' ⟨v, r, σ', K', he, hQ, h1, h2, h3⟩ => by
    obtain ⟨b, n, s, xs, cs, r', g1, g2, g3, g4, g5⟩ := hq r σ' hQ
    obtain ⟨cap, E, g6, g7, g8⟩ := g3 K' v h1
    obtain ⟨K2, k1, k2, k3⟩ := freeze_world h2 g1 g2 g6 g7 g8
    exact ⟨v, r', _, K2, he, g5, k3 r r' v g4 h1, k2, h3.trans k1⟩⟩
inductive FrzL (b n s : Nat) (y : AV) : List AV → List AV → Prop
  | nil : FrzL b n s y [] []
  | cons {a a' : AV} {l l' : List AV} (h : Frz b n s y a a') (t : FrzL b n s y l l') : FrzL b n s y (a :: l) (a' :: l')
theorem FrzL.refl {b n s : Nat} {y : AV} : ∀ (l : List AV), FrzL b n s y l l
  | [] => .nil
  | a :: l => .cons (.same a) (FrzL.refl l)
def HasL (b n s : Nat) (l : List AV) : Prop := ∃ a, a ∈ l ∧ Has b n s a
theorem HasL.row {b n s : Nat} {K : Ctx} : ∀ {l : List AV} {vs : List Value}, VRl K l vs → HasL b n s l → ∃ cap E, K.row b = some (cap, s, E) ∧ n ≤ cap ∧ cap ≤ maxLen
  | a :: l, v :: vs, ⟨h1, h2⟩, ⟨x, hx, hh⟩ => by
    rcases List.mem_cons.1 hx with rfl | hx
    · exact hh K v h1
    · exact HasL.row h2 ⟨x, hx, hh⟩
  | [], _, _, ⟨x, hx, _⟩ => by cases hx
  | _ :: _, [], h, _ => h.elim
theorem FrzL.vrl {b n s : Nat} {y : AV} {K K' : Ctx} (hk : ∀ r r' v, Frz b n s y r r' → VR K r v → VR K' r' v) : ∀ {l l' : List AV} {vs : List Value}, FrzL b n s y l l' → VRl K l vs → VRl K' l' vs
  | [], _, [], .nil, _ => trivial
  | a :: l, _, v :: vs, .cons h t, ⟨h1, h2⟩ => ⟨hk _ _ _ h h1, FrzL.vrl hk t h2⟩
  | [], _, _ :: _, .nil, h => h.elim
  | _ :: _, _, [], _, h => h.elim
theorem Tri.freeze {P : Program} {G : Nat → AV} {f : FuncId} {args args' : List AV} {σ : AS} {Q : AV → AS → Prop} (b n s : Nat) (xs cs : List AV) (hb : σ.box b = some cs) (hi : Items n s xs cs) (hh : HasL b n s args)
    (hf : FrzL b n s (.sl (.own b) xs []) args args') (h : Tri P G f args' (σ.froze b n s) Q) : Tri P G f args σ Q :=
  ⟨h.1, fun K w vals hr hv => by
    obtain ⟨cap, E, g1, g2, g3⟩ := HasL.row hv hh
    obtain ⟨K', k1, k2, k3⟩ := freeze_world hr hb hi g1 g2 g3
    exact (h.2 K' w vals k2 (FrzL.vrl k3 hf hv)).mono fun e w' ⟨v, r, σ', K2, he, hQ, h1, h2, h3⟩ => ⟨v, r, σ', K2, he, hQ, h1, h2, k1.trans h3⟩⟩
theorem Tri.nil_or {P : Program} {G : Nat → AV} {f : FuncId} {σ : AS} {Q : AV → AS → Prop} (h1 : Tri P G f [.nil] σ Q) (h2 : ∀ a c, Tri P G f [.raw (.slice (some a) 0 c)] σ Q) : Tri P G f [.sl .none [] []] σ Q :=
  ⟨h1.1, fun K w vals hr hv => by
    match vals, hv with
    | [v], ⟨hv, _⟩ =>
      have raw : ∀ a c, v = .slice (some a) 0 c → _ := fun a c e => (h2 a c).2 K w [v] hr ⟨e ▸ .raw _, trivial⟩
      cases hv with
      | sl0 a =>
        cases a with
        | none => exact h1.2 K w _ hr ⟨.nil, trivial⟩
        | some a => exact raw a 0 rfl
      | sl _ _ _ sz b off cap f hsz hcap hml himm hvv hg => exact raw _ _ rfl⟩
theorem AS.froze_le {σ0 σ : AS} (h : σ0.le σ) {b n s : Nat} (hb : σ0.box b = none) (ht : σ0.tip b = none) : σ0.le (σ.froze b n s) := by
  have h1 : σ0.le (σ.delBox b) := ⟨fun i cs hi => by
    show (if i = b then none else σ.box i) = some cs
    have hne : i ≠ b := fun e => by subst e; rw [hb] at hi; cases hi
    rw [if_neg hne]; exact h.box _ _ hi, fun i m hi => h.tip _ _ hi, h.ty⟩
  exact h1.setTip ht _
end Go.Av
namespace Go.Av
open Go
theorem cw_skip : cWrites .skip = [] := nr rfl
theorem cw_exit {i : Nat} : cWrites (.exit i) = [] := nr rfl
theorem cw_ret : cWrites .ret = [] := nr rfl
theorem cw_refuse {w : String} : cWrites (.refuse w) = [] := nr rfl
theorem cw_range {f : Operand} {ps : Array Tmp} {a b : Code} : cWrites (.rangeFunc f ps a b) = [] := nr rfl
theorem afin_none : afin [] = .tup [] := nr rfl
theorem afin_two {a b : AV} {l : List AV} : afin (a :: b :: l) = .tup (a :: b :: l) := nr rfl
def bp0 := And.intro (And.intro (And.intro (And.intro @w_seq @w_region) (And.intro @w_draw @w_cond)) (And.intro (And.intro @w_block @w_loop) (And.intro @w_exit @w_ret))) (And.intro (And.intro (And.intro @w_skip @w_nil) (And.intro @w_cons @h_nil)) (And.intro (And.intro @h_cons @o_store) (And.intro @o_append @fin_normal)))
def bp1 := And.intro (And.intro (And.intro (And.intro @fin_ret @fin_exit) (And.intro @ev_tmp @ev_const)) (And.intro (And.intro @ev_global @ev_func) (And.intro @upd_some @upd_none))) (And.intro (And.intro (And.intro @mrg_at @argEnv_at) (And.intro @box_set @box_tip)) (And.intro (And.intro @box_del @tip_box) (And.intro @tip_set @tip_del)))
def bp2 := And.intro (And.intro (And.intro (And.intro @o_move @o_assign) (And.intro @o_pick @o_alloc)) (And.intro (And.intro @o_box @o_build) (And.intro @o_buildSlice @o_makeSlice))) (And.intro (And.intro (And.intro @o_load @o_nilCheck) (And.intro @o_binOp @o_unOp)) (And.intro (And.intro @o_convert @o_makeFunc) (And.intro @o_slice @o_fieldAddr)))
def bp3 := And.intro (And.intro (And.intro (And.intro @o_field @o_indexAddr) (And.intro @o_index @o_extract)) (And.intro (And.intro @o_len @o_max) (And.intro @o_min @o_call))) (And.intro (And.intro (And.intro @h_move @h_assign) (And.intro @h_pick @h_alloc)) (And.intro (And.intro @h_box @h_build) (And.intro @h_buildSlice @h_load)))
def bp4 := And.intro (And.intro (And.intro (And.intro @h_nilCheck @h_binOp) (And.intro @h_unOp @h_convert)) (And.intro (And.intro @h_makeFunc @h_slice) (And.intro @h_fieldAddr @h_field))) (And.intro (And.intro (And.intro @h_indexAddr @h_index) (And.intro @h_extract @h_len)) (And.intro (And.intro @h_max @h_min) (And.intro @h_call @ht_nil)))
def bp5 := And.intro (And.intro (And.intro (And.intro @ht_cons @iw_move) (And.intro @iw_assign @iw_pick)) (And.intro (And.intro @iw_alloc @iw_box) (And.intro @iw_build @iw_buildSlice))) (And.intro (And.intro (And.intro @iw_makeSlice @iw_load) (And.intro @iw_nilCheck @iw_binOp)) (And.intro (And.intro @iw_unOp @iw_convert) (And.intro @iw_makeFunc @iw_slice)))
def bp6 := And.intro (And.intro (And.intro (And.intro @iw_fieldAddr @iw_field) (And.intro @iw_indexAddr @iw_index)) (And.intro (And.intro @iw_extract @iw_len) (And.intro @iw_max @iw_min))) (And.intro (And.intro (And.intro @iw_call @iw_store) (And.intro @iw_append @ty_box)) (And.intro (And.intro @ty_tip @ty_del) (And.intro @ty_set @box_ty)))
def bp7 := And.intro (And.intro (And.intro (And.intro @tip_ty @box_delB) (And.intro @tip_delB @ty_delB)) (And.intro (And.intro @o_cap @o_usd) (And.intro @o_ustr @h_cap))) (And.intro (And.intro (And.intro @h_usd @iw_cap) (And.intro @iw_usd @iw_ustr)) (And.intro (And.intro @hs_nil @hs_cons) (And.intro @hs_store @h_store)))
def bp8 := And.intro (And.intro (And.intro (And.intro @hs_move @hs_assign) (And.intro @hs_pick @hs_alloc)) (And.intro (And.intro @hs_box @hs_build) (And.intro @hs_buildSlice @hs_makeSlice))) (And.intro (And.intro (And.intro @hs_load @hs_nilCheck) (And.intro @hs_binOp @hs_unOp)) (And.intro (And.intro @hs_convert @hs_makeFunc) (And.intro @hs_slice @hs_fieldAddr)))
def bp9 := And.intro (And.intro (And.intro @hs_field @hs_indexAddr) (And.intro (@hs_index) (And.intro @hs_extract @hs_len))) (And.intro (And.intro @hs_max @hs_min) (And.intro (@hs_call) (And.intro @hs_cap @hs_usd)))
def bp := And.intro (And.intro (And.intro @bp0 @bp1) (And.intro (@bp2) (And.intro @bp3 @bp4))) (And.intro (And.intro @bp5 @bp6) (And.intro (@bp7) (And.intro @bp8 @bp9)))
def bq0 := And.intro (And.intro (And.intro (And.intro @htW_true @htW_false) (And.intro @aw_none @aw_some)) (And.intro (And.intro @awo_some @awk_true) (And.intro @awk_false @awk_skip))) (And.intro (And.intro (And.intro @gW_true @gW_false) (And.intro @gW_not @condW_not)) (And.intro (And.intro @bo_some @bo_none) (And.intro @bo_ite @bo_ite')))
def bq1 := And.intro (And.intro (And.intro (And.intro @st_eq @condW_true) (And.intro @condW_false @pickW_true)) (And.intro (And.intro @pickW_false @boxW_eq) (And.intro @nilW_ptr @nilW_rp))) (And.intro (And.intro (And.intro @nilW_fn @callW_nocaps) (And.intro @callW_fn @c_bool)) (And.intro (And.intro @c_int @c_str) (And.intro @c_nil @c_nilptr)))
def bq2 := And.intro (And.intro (And.intro (And.intro @c_nilfn @aload_ptr) (And.intro @ldk_some @aload_rp)) (And.intro (And.intro @ldr_some @rd_true) (And.intro @rd_false @afield_eq))) (And.intro (And.intro (And.intro @fdk_ptr @fdk_rp) (And.intro @afieldv_agg @fvk_some)) (And.intro (And.intro @aindexA_sl @ixk_some) (And.intro @aindex_str @aextract_tup)))
def bq3 := And.intro (And.intro (And.intro (And.intro @abin_int @abin_str) (And.intro @abin_bool @abin_nil_nil)) (And.intro (And.intro @abin_nil_sl @abin_sl_nil) (And.intro @abin_fn_nil @isNil_full))) (And.intro (And.intro (And.intro @isNil_own @isNil_cons) (And.intro @i_add @i_sub)) (And.intro (And.intro @i_mul @i_quo) (And.intro @i_rem @i_eql)))
def bq4 := And.intro (And.intro (And.intro (And.intro @i_neq @i_lss) (And.intro @i_leq @i_gtr)) (And.intro (And.intro @i_geq @i_and) (And.intro @i_or @i_xor))) (And.intro (And.intro (And.intro @i_shl @i_shr) (And.intro @s_eql @s_neq)) (And.intro (And.intro @s_add @s_lss) (And.intro @aeq_eql @aeq_neq)))
def bq5 := And.intro (And.intro (And.intro (And.intro @aun_not @aun_neg) (And.intro @cvk_int @cvw_str)) (And.intro (And.intro @cvw_bytes @set_set) (And.intro @aindexA_rp @aindexA_ptr))) (And.intro (And.intro (And.intro @iak_some @abuild_eq) (And.intro @bdk_some @afill_nil)) (And.intro (And.intro @afill_cons @flk_some) (And.intro @l_str @l_nil)))
def bq6 := And.intro (And.intro (And.intro (And.intro @l_sl @l_max) (And.intro @l_min @astore_ptr)) (And.intro (And.intro @stk_some @pairs_nil) (And.intro @pairs_cons @ares_nil))) (And.intro (And.intro (And.intro @ares_tmp @ares_cell) (And.intro @ares_two @abnd_none)) (And.intro (And.intro @abnd_int @aslice_str) (And.intro @slks_some @flat_agg)))
def bq7 := And.intro (And.intro (And.intro (And.intro @flat_bool @flat_int) (And.intro @flat_str @flat_nil)) (And.intro (And.intro @flat_sl @flat_ptr) (And.intro @flat_rp @flat_fn))) (And.intro (And.intro (And.intro @flat_nilptr @flat_nilfn) (And.intro @isv_agg @isv_bool)) (And.intro (And.intro @isv_int @isv_str) (And.intro @isv_nil @isv_sl)))
def bq8 := And.intro (And.intro (And.intro (And.intro @isv_ptr @isv_rp) (And.intro @isv_fn @isv_nilptr)) (And.intro (And.intro @isv_nilfn @aconvZ_int) (And.intro @aconvZ_str @aconvZ_nil))) (And.intro (And.intro (And.intro @aconvZ_sl @aconvZ_bs) (And.intro @cvb_some @cvm_some)) (And.intro (And.intro @l_cap @l_bs) (And.intro @l_usd_nil @l_usd)))
def bq9 := And.intro (And.intro (And.intro (And.intro @isv_bs @flat_bs) (And.intro @isv_raws @flat_raw)) (And.intro (And.intro @abin_raw_nil @abin_nil_bs) (And.intro @abin_bs_nil @aindexA_bs))) (And.intro (And.intro (And.intro @ibk_some @aslice_bs) (And.intro @sbk_some @aslice_nil)) (And.intro (And.intro @nbk_some @aslice_rp) (And.intro @ustrW_nil @storeW_eq)))
def bq10 := @stw_some
def bq := And.intro (And.intro (And.intro @bq0 @bq1) (And.intro (@bq2) (And.intro @bq3 @bq4))) (And.intro (And.intro (@bq5) (And.intro @bq6 @bq7)) (And.intro (@bq8) (And.intro @bq9 @bq10)))
def br0 := And.intro (And.intro (And.intro (And.intro @List.getD_cons_zero.{0} @List.getD_cons_succ.{0}) (And.intro @List.getD_nil.{0} @List.map_cons.{0, 0})) (And.intro (And.intro @List.map_nil.{0, 0} @List.getElem?_cons_zero.{0}) (And.intro @List.getElem?_cons_succ.{0} @List.getElem?_nil.{0}))) (And.intro (And.intro (And.intro @List.take_zero.{0} @List.take_length.{0}) (And.intro @List.take_succ_cons.{0} @List.take_nil.{0})) (And.intro (And.intro @List.drop_zero.{0} @List.drop_succ_cons.{0}) (And.intro @List.drop_nil.{0} @List.length_cons.{0})))
def br1 := And.intro (And.intro (And.intro (And.intro @List.length_nil.{0} @List.head?_cons.{0}) (And.intro @List.head?_nil.{0} @List.cons_append.{0})) (And.intro (And.intro @List.nil_append.{0} @List.append_nil.{0}) (And.intro @List.all_cons.{0} @List.all_nil.{0}))) (And.intro (And.intro (And.intro @List.range_zero @List.length_map.{0, 0}) (And.intro @List.getElem?_map.{0, 0} @List.size_toArray.{0})) (And.intro (And.intro @List.getElem?_toArray.{0} @List.toList_toArray.{0}) (And.intro @Option.map_some.{0, 0} @Option.map_none.{0, 0})))
def br2 := And.intro (And.intro (And.intro (And.intro @Option.bind_some.{0, 0} @Option.bind_none.{0, 0}) (And.intro @Option.isSome_some.{0} @Option.isSome_none.{0})) (And.intro (And.intro @Option.some.injEq.{0} @Nat.zero_add) (And.intro @Nat.add_zero @Nat.le_refl))) (And.intro (And.intro (And.intro @Nat.add_one_ne_zero @Int.toNat_natCast) (And.intro @Int.natCast_nonneg @not_true_eq_false)) (And.intro (And.intro @not_false_eq_true @and_true) (And.intro @true_and @and_false)))
def br3 := And.intro (And.intro (And.intro (And.intro @false_and @or_true) (And.intro @true_or @or_false)) (And.intro (And.intro @false_or @Bool.and_true) (And.intro @Bool.true_and @Bool.and_false))) (And.intro (And.intro (And.intro @Bool.false_and @Bool.false_eq_true) (And.intro @Bool.true_eq_false @Bool.not_true)) (And.intro (And.intro @Bool.not_false @beq_self_eq_true.{0}) (And.intro @decide_true @decide_false)))
def br4 := And.intro (And.intro (And.intro (And.intro @decide_eq_true_eq @List.contains_cons.{0}) (And.intro @List.contains_nil.{0} @Bool.or_true)) (And.intro (And.intro @Bool.true_or @Bool.or_false) (And.intro @Bool.false_or @List.filterMap_cons.{0, 0}))) (And.intro (And.intro (And.intro @List.filterMap_nil.{0, 0} @List.range_succ) (And.intro @List.append_eq.{0} @List.mem_cons.{0})) (And.intro (And.intro @List.not_mem_nil.{0} @List.filter_cons.{0}) (And.intro @List.filter_nil.{0} @afin.eq_1)))
def br5 := And.intro (And.intro (And.intro (And.intro @afin_none @afin_two) (And.intro @bsk.eq_1 @bsk.eq_2)) (And.intro (And.intro @cWrites.eq_1 @cWrites.eq_2) (And.intro @cWrites.eq_3 @cWrites.eq_4))) (And.intro (And.intro (And.intro @cWrites.eq_5 @cw_skip) (And.intro @cw_exit @cw_ret)) (And.intro (And.intro @cw_refuse @cw_range) (And.intro @opsWrites.eq_1 @pieceGh.eq_1)))
def br6 := And.intro (And.intro (And.intro (@pieceGh.eq_2) (And.intro @pieceGh.eq_3 @rsk.eq_1)) (And.intro (@ne_eq.{1}) (And.intro @if_true.{1} @if_false.{1}))) (And.intro (And.intro (@exists_eq_left'.{1}) (And.intro @forall_const.{0} @forall_const.{1})) (And.intro (And.intro @forall_eq.{1} @ne_eq.{0}) (And.intro @if_true.{0} @if_false.{0})))
def br := And.intro (And.intro (@br0) (And.intro @br1 @br2)) (And.intro (And.intro @br3 @br4) (And.intro @br5 @br6))
class Spl (X : Prop) (A B : outParam Prop) : Prop where
  go : A → B → X
instance (priority := 2000) {p : Prop} [Decidable p] {A B : Prop} {d : Dum A} {d' : Dum B} : Spl (condW (.bool (decide p)) A B d d') (decide p = true → ¬ ¬ p → A) (decide p = false → ¬ p → B) := ⟨condW_both⟩
instance (priority := 2000) {p : Prop} [Decidable p] {A B : Prop} {d : Dum A} {d' : Dum B} : Spl (gW (some (decide p)) A B d d') (decide p = true → ¬ ¬ p → A) (decide p = false → ¬ p → B) := ⟨gW_both⟩
instance {t : Bool} {A B : Prop} {d : Dum A} {d' : Dum B} : Spl (condW (.bool t) A B d d') (t = true → A) (t = false → B) := ⟨condW_split⟩
instance {t : Bool} {A B : Prop} {d : Dum A} {d' : Dum B} : Spl (gW (some t) A B d d') (t = true → A) (t = false → B) := ⟨gW_split⟩
instance {t : Bool} {a b : AV} {F : AV → Prop} {d : Dum a} {d' : Dum b} {d2 : Dum F} : Spl (pickW (.bool t) a b F d d' d2) (t = true → F a) (t = false → F b) := ⟨pickW_split⟩
theorem xs {X A B : Prop} [h : Spl X A B] (a : A) (b : B) : X := h.go a b
def lr := @AS.le.refl
def xf := @finish_pure
def xh := @newW_intro
def xi := @newT_plain
def xj := @storeX_w
def xk := @draw_all
def ls := @le_set
def lt := @le_ty
def lf := @AS.le.fresh
def fb := And.intro @fresh_box (And.intro @fresh_tip @fresh_ty)
end Go.Av
set_option maxRecDepth 100000
namespace Go.Proofs.YtphnoaihojccbaaGreatDoor
open Go Go.Av
theorem tf2 : tk Tryz.prog 2 = some (false, 1) ∧ sk Tryz.prog 2 = .int .i64 ∧ (Tryz.prog.underlying 2).isSome = true ∧ el Tryz.prog 2 = none ∧ zc Tryz.prog 2 = some [.int .i64 0] ∧ by_ Tryz.prog 2 = some 8 := ⟨by kernel_rfl, by kernel_rfl, by kernel_rfl, by kernel_rfl, by kernel_rfl, by kernel_rfl⟩
theorem tf3 : tk Tryz.prog 3 = some (false, 1) ∧ sk Tryz.prog 3 = .int .i64 ∧ (Tryz.prog.underlying 3).isSome = true ∧ el Tryz.prog 3 = none ∧ zc Tryz.prog 3 = some [.int .i64 0] ∧ by_ Tryz.prog 3 = some 8 := ⟨by kernel_rfl, by kernel_rfl, by kernel_rfl, by kernel_rfl, by kernel_rfl, by kernel_rfl⟩
theorem tf4 : tk Tryz.prog 4 = some (false, 1) ∧ sk Tryz.prog 4 = .bool ∧ (Tryz.prog.underlying 4).isSome = true ∧ el Tryz.prog 4 = none ∧ zc Tryz.prog 4 = some [.bool false] ∧ by_ Tryz.prog 4 = some 1 := ⟨by kernel_rfl, by kernel_rfl, by kernel_rfl, by kernel_rfl, by kernel_rfl, by kernel_rfl⟩
theorem tf5 : tk Tryz.prog 5 = some (false, 1) ∧ sk Tryz.prog 5 = .int .u8 ∧ (Tryz.prog.underlying 5).isSome = true ∧ el Tryz.prog 5 = none ∧ zc Tryz.prog 5 = some [.int .u8 0] ∧ by_ Tryz.prog 5 = some 1 := ⟨by kernel_rfl, by kernel_rfl, by kernel_rfl, by kernel_rfl, by kernel_rfl, by kernel_rfl⟩
theorem tf9 : tk Tryz.prog 9 = some (false, 1) ∧ sk Tryz.prog 9 = .str ∧ (Tryz.prog.underlying 9).isSome = true ∧ el Tryz.prog 9 = none ∧ zc Tryz.prog 9 = some [.str []] ∧ by_ Tryz.prog 9 = some 16 := ⟨by kernel_rfl, by kernel_rfl, by kernel_rfl, by kernel_rfl, by kernel_rfl, by kernel_rfl⟩
theorem tf22 : tk Tryz.prog 22 = some (false, 1) ∧ sk Tryz.prog 22 = .sl 42 ∧ (Tryz.prog.underlying 22).isSome = true ∧ el Tryz.prog 22 = some 42 ∧ zc Tryz.prog 22 = some [.nil] ∧ by_ Tryz.prog 22 = some 24 ∧ aelt Tryz.prog 22 = some (42, 7, 104) := ⟨by kernel_rfl, by kernel_rfl, by kernel_rfl, by kernel_rfl, by kernel_rfl, by kernel_rfl, by kernel_rfl⟩
theorem tf23 : tk Tryz.prog 23 = some (false, 1) ∧ sk Tryz.prog 23 = .sl 44 ∧ (Tryz.prog.underlying 23).isSome = true ∧ el Tryz.prog 23 = some 44 ∧ zc Tryz.prog 23 = some [.nil] ∧ by_ Tryz.prog 23 = some 24 ∧ aelt Tryz.prog 23 = some (44, 8, 112) := ⟨by kernel_rfl, by kernel_rfl, by kernel_rfl, by kernel_rfl, by kernel_rfl, by kernel_rfl, by kernel_rfl⟩
theorem tf24 : tk Tryz.prog 24 = some (false, 1) ∧ sk Tryz.prog 24 = .sl 46 ∧ (Tryz.prog.underlying 24).isSome = true ∧ el Tryz.prog 24 = some 46 ∧ zc Tryz.prog 24 = some [.nil] ∧ by_ Tryz.prog 24 = some 24 ∧ aelt Tryz.prog 24 = some (46, 2, 24) := ⟨by kernel_rfl, by kernel_rfl, by kernel_rfl, by kernel_rfl, by kernel_rfl, by kernel_rfl, by kernel_rfl⟩
theorem tf26 : tk Tryz.prog 26 = some (true, 6) ∧ sk Tryz.prog 26 = .st ∧ (Tryz.prog.underlying 26).isSome = true ∧ el Tryz.prog 26 = none ∧ zc Tryz.prog 26 = some [.nil, .nil, .nil, .int .i64 0, .int .i64 0, .int .i64 0] ∧ by_ Tryz.prog 26 = some 96 ∧ places Tryz.prog 26 = some [(0, 1), (1, 1), (2, 1), (3, 1), (4, 1), (5, 1)] ∧ fld Tryz.prog 26 0 = some (0, false, 1) ∧ fld Tryz.prog 26 1 = some (1, false, 1) ∧ fld Tryz.prog 26 2 = some (2, false, 1) ∧ fld Tryz.prog 26 3 = some (3, false, 1) ∧ fld Tryz.prog 26 4 = some (4, false, 1) ∧ fld Tryz.prog 26 5 = some (5, false, 1) := ⟨by kernel_rfl, by kernel_rfl, by kernel_rfl, by kernel_rfl, by kernel_rfl, by kernel_rfl, by kernel_rfl, by kernel_rfl, by kernel_rfl, by kernel_rfl, by kernel_rfl, by kernel_rfl, by kernel_rfl⟩
theorem tf31 : tk Tryz.prog 31 = some (false, 1) ∧ sk Tryz.prog 31 = .sl 9 ∧ (Tryz.prog.underlying 31).isSome = true ∧ el Tryz.prog 31 = some 9 ∧ zc Tryz.prog 31 = some [.nil] ∧ by_ Tryz.prog 31 = some 24 ∧ aelt Tryz.prog 31 = some (9, 1, 16) := ⟨by kernel_rfl, by kernel_rfl, by kernel_rfl, by kernel_rfl, by kernel_rfl, by kernel_rfl, by kernel_rfl⟩
theorem tf39 : tk Tryz.prog 39 = some (false, 1) ∧ sk Tryz.prog 39 = .int .u8 ∧ (Tryz.prog.underlying 39).isSome = true ∧ el Tryz.prog 39 = none ∧ zc Tryz.prog 39 = some [.int .u8 0] ∧ by_ Tryz.prog 39 = some 1 := ⟨by kernel_rfl, by kernel_rfl, by kernel_rfl, by kernel_rfl, by kernel_rfl, by kernel_rfl⟩
theorem tf40 : tk Tryz.prog 40 = some (false, 1) ∧ sk Tryz.prog 40 = .sl 85 ∧ (Tryz.prog.underlying 40).isSome = true ∧ el Tryz.prog 40 = some 85 ∧ zc Tryz.prog 40 = some [.nil] ∧ by_ Tryz.prog 40 = some 24 ∧ aelt Tryz.prog 40 = some (85, 1, 4) := ⟨by kernel_rfl, by kernel_rfl, by kernel_rfl, by kernel_rfl, by kernel_rfl, by kernel_rfl, by kernel_rfl⟩
theorem tf42 : tk Tryz.prog 42 = some (true, 7) ∧ sk Tryz.prog 42 = .st ∧ (Tryz.prog.underlying 42).isSome = true ∧ el Tryz.prog 42 = none ∧ zc Tryz.prog 42 = some [.int .u8 0, .bool false, .nil, .str [], .int .i64 0, .nil, .nil] ∧ by_ Tryz.prog 42 = some 104 ∧ places Tryz.prog 42 = some [(0, 1), (1, 1), (2, 1), (3, 1), (4, 1), (5, 1), (6, 1)] ∧ fld Tryz.prog 42 0 = some (0, false, 1) ∧ fld Tryz.prog 42 1 = some (1, false, 1) ∧ fld Tryz.prog 42 2 = some (2, false, 1) ∧ fld Tryz.prog 42 3 = some (3, false, 1) ∧ fld Tryz.prog 42 4 = some (4, false, 1) ∧ fld Tryz.prog 42 5 = some (5, false, 1) ∧ fld Tryz.prog 42 6 = some (6, false, 1) := ⟨by kernel_rfl, by kernel_rfl, by kernel_rfl, by kernel_rfl, by kernel_rfl, by kernel_rfl, by kernel_rfl, by kernel_rfl, by kernel_rfl, by kernel_rfl, by kernel_rfl, by kernel_rfl, by kernel_rfl, by kernel_rfl⟩
theorem tf44 : tk Tryz.prog 44 = some (true, 8) ∧ sk Tryz.prog 44 = .st ∧ (Tryz.prog.underlying 44).isSome = true ∧ el Tryz.prog 44 = none ∧ zc Tryz.prog 44 = some [.int .i64 0, .int .u8 0, .bool false, .nil, .str [], .int .i64 0, .nil, .nil] ∧ by_ Tryz.prog 44 = some 112 ∧ places Tryz.prog 44 = some [(0, 1), (1, 7)] ∧ fld Tryz.prog 44 0 = some (0, false, 1) ∧ fld Tryz.prog 44 1 = some (1, true, 7) := ⟨by kernel_rfl, by kernel_rfl, by kernel_rfl, by kernel_rfl, by kernel_rfl, by kernel_rfl, by kernel_rfl, by kernel_rfl, by kernel_rfl⟩
theorem tf46 : tk Tryz.prog 46 = some (true, 2) ∧ sk Tryz.prog 46 = .st ∧ (Tryz.prog.underlying 46).isSome = true ∧ el Tryz.prog 46 = none ∧ zc Tryz.prog 46 = some [.str [], .int .i64 0] ∧ by_ Tryz.prog 46 = some 24 ∧ places Tryz.prog 46 = some [(0, 1), (1, 1)] ∧ fld Tryz.prog 46 0 = some (0, false, 1) ∧ fld Tryz.prog 46 1 = some (1, false, 1) := ⟨by kernel_rfl, by kernel_rfl, by kernel_rfl, by kernel_rfl, by kernel_rfl, by kernel_rfl, by kernel_rfl, by kernel_rfl, by kernel_rfl⟩
theorem tf52 : tk Tryz.prog 52 = some (false, 1) ∧ sk Tryz.prog 52 = .fn ∧ (Tryz.prog.underlying 52).isSome = true ∧ el Tryz.prog 52 = none ∧ zc Tryz.prog 52 = some [.nilfn] ∧ by_ Tryz.prog 52 = some 8 := ⟨by kernel_rfl, by kernel_rfl, by kernel_rfl, by kernel_rfl, by kernel_rfl, by kernel_rfl⟩
theorem tf53 : tk Tryz.prog 53 = some (false, 1) ∧ sk Tryz.prog 53 = .fn ∧ (Tryz.prog.underlying 53).isSome = true ∧ el Tryz.prog 53 = none ∧ zc Tryz.prog 53 = some [.nilfn] ∧ by_ Tryz.prog 53 = some 8 := ⟨by kernel_rfl, by kernel_rfl, by kernel_rfl, by kernel_rfl, by kernel_rfl, by kernel_rfl⟩
theorem tf57 : tk Tryz.prog 57 = some (false, 1) ∧ sk Tryz.prog 57 = .fn ∧ (Tryz.prog.underlying 57).isSome = true ∧ el Tryz.prog 57 = none ∧ zc Tryz.prog 57 = some [.nilfn] ∧ by_ Tryz.prog 57 = some 8 := ⟨by kernel_rfl, by kernel_rfl, by kernel_rfl, by kernel_rfl, by kernel_rfl, by kernel_rfl⟩
theorem tf69 : tk Tryz.prog 69 = some (false, 1) ∧ sk Tryz.prog 69 = .sl 22 ∧ (Tryz.prog.underlying 69).isSome = true ∧ el Tryz.prog 69 = some 22 ∧ zc Tryz.prog 69 = some [.nil] ∧ by_ Tryz.prog 69 = some 24 ∧ aelt Tryz.prog 69 = some (22, 1, 24) := ⟨by kernel_rfl, by kernel_rfl, by kernel_rfl, by kernel_rfl, by kernel_rfl, by kernel_rfl, by kernel_rfl⟩
theorem tf85 : tk Tryz.prog 85 = some (false, 1) ∧ sk Tryz.prog 85 = .int .u32 ∧ (Tryz.prog.underlying 85).isSome = true ∧ el Tryz.prog 85 = none ∧ zc Tryz.prog 85 = some [.int .u32 0] ∧ by_ Tryz.prog 85 = some 4 := ⟨by kernel_rfl, by kernel_rfl, by kernel_rfl, by kernel_rfl, by kernel_rfl, by kernel_rfl⟩
theorem tf86 : tk Tryz.prog 86 = some (false, 1) ∧ sk Tryz.prog 86 = .sl 5 ∧ (Tryz.prog.underlying 86).isSome = true ∧ el Tryz.prog 86 = some 5 ∧ zc Tryz.prog 86 = some [.nil] ∧ by_ Tryz.prog 86 = some 24 ∧ aelt Tryz.prog 86 = some (5, 1, 1) := ⟨by kernel_rfl, by kernel_rfl, by kernel_rfl, by kernel_rfl, by kernel_rfl, by kernel_rfl, by kernel_rfl⟩
theorem tf93 : tk Tryz.prog 93 = some (false, 1) ∧ sk Tryz.prog 93 = .ptr 95 ∧ (Tryz.prog.underlying 93).isSome = true ∧ el Tryz.prog 93 = none ∧ zc Tryz.prog 93 = some [.nilptr] ∧ by_ Tryz.prog 93 = some 8 := ⟨by kernel_rfl, by kernel_rfl, by kernel_rfl, by kernel_rfl, by kernel_rfl, by kernel_rfl⟩
theorem tf95 : tk Tryz.prog 95 = some (true, 2) ∧ sk Tryz.prog 95 = .st ∧ (Tryz.prog.underlying 95).isSome = true ∧ el Tryz.prog 95 = none ∧ zc Tryz.prog 95 = some [.nilptr, .nil] ∧ by_ Tryz.prog 95 = some 32 ∧ places Tryz.prog 95 = some [(0, 1), (1, 1)] ∧ fld Tryz.prog 95 0 = some (0, false, 1) ∧ fld Tryz.prog 95 1 = some (1, false, 1) := ⟨by kernel_rfl, by kernel_rfl, by kernel_rfl, by kernel_rfl, by kernel_rfl, by kernel_rfl, by kernel_rfl, by kernel_rfl, by kernel_rfl⟩
theorem tf127 : tk Tryz.prog 127 = some (false, 1) ∧ sk Tryz.prog 127 = .fn ∧ (Tryz.prog.underlying 127).isSome = true ∧ el Tryz.prog 127 = none ∧ zc Tryz.prog 127 = some [.nilfn] ∧ by_ Tryz.prog 127 = some 8 := ⟨by kernel_rfl, by kernel_rfl, by kernel_rfl, by kernel_rfl, by kernel_rfl, by kernel_rfl⟩
theorem tf129 : tk Tryz.prog 129 = some (false, 1) ∧ sk Tryz.prog 129 = .fn ∧ (Tryz.prog.underlying 129).isSome = true ∧ el Tryz.prog 129 = none ∧ zc Tryz.prog 129 = some [.nilfn] ∧ by_ Tryz.prog 129 = some 8 := ⟨by kernel_rfl, by kernel_rfl, by kernel_rfl, by kernel_rfl, by kernel_rfl, by kernel_rfl⟩
theorem tf133 : tk Tryz.prog 133 = some (false, 1) ∧ sk Tryz.prog 133 = .sl 4 ∧ (Tryz.prog.underlying 133).isSome = true ∧ el Tryz.prog 133 = some 4 ∧ zc Tryz.prog 133 = some [.nil] ∧ by_ Tryz.prog 133 = some 24 ∧ aelt Tryz.prog 133 = some (4, 1, 1) := ⟨by kernel_rfl, by kernel_rfl, by kernel_rfl, by kernel_rfl, by kernel_rfl, by kernel_rfl, by kernel_rfl⟩
theorem tf137 : tk Tryz.prog 137 = some (false, 1) ∧ sk Tryz.prog 137 = .int .u64 ∧ (Tryz.prog.underlying 137).isSome = true ∧ el Tryz.prog 137 = none ∧ zc Tryz.prog 137 = some [.int .u64 0] ∧ by_ Tryz.prog 137 = some 8 := ⟨by kernel_rfl, by kernel_rfl, by kernel_rfl, by kernel_rfl, by kernel_rfl, by kernel_rfl⟩
theorem tf138 : tk Tryz.prog 138 = some (false, 1) ∧ sk Tryz.prog 138 = .int .u64 ∧ (Tryz.prog.underlying 138).isSome = true ∧ el Tryz.prog 138 = none ∧ zc Tryz.prog 138 = some [.int .u64 0] ∧ by_ Tryz.prog 138 = some 8 := ⟨by kernel_rfl, by kernel_rfl, by kernel_rfl, by kernel_rfl, by kernel_rfl, by kernel_rfl⟩
theorem tf210 : tk Tryz.prog 210 = some (true, 19) ∧ sk Tryz.prog 210 = .arr 19 9 ∧ (Tryz.prog.underlying 210).isSome = true ∧ el Tryz.prog 210 = none ∧ zc Tryz.prog 210 = some [.str [], .str [], .str [], .str [], .str [], .str [], .str [], .str [], .str [], .str [], .str [], .str [], .str [], .str [], .str [], .str [], .str [], .str [], .str []] ∧ by_ Tryz.prog 210 = some 304 ∧ arrT Tryz.prog 210 = some (19, 1) := ⟨by kernel_rfl, by kernel_rfl, by kernel_rfl, by kernel_rfl, by kernel_rfl, by kernel_rfl, by kernel_rfl⟩
theorem mixed : Tryz.prog.follows .mixedOrders = true := by kernel_rfl
end Go.Proofs.YtphnoaihojccbaaGreatDoor
namespace Go.Proofs.YtphnoaihojccbaaGreatDoor
open Go Go.Av
inductive Term where
  | mk (kind : UInt8) (neg : Bool) (limbs : List UInt32) (text : List UInt8) (num : Int) (items tail : List Term)
instance : Inhabited Term := ⟨.mk 0 false [] [] 0 [] []⟩
def Term.kind : Term → UInt8 | .mk k _ _ _ _ _ _ => k
def Term.neg : Term → Bool | .mk _ g _ _ _ _ _ => g
def Term.limbs : Term → List UInt32 | .mk _ _ l _ _ _ _ => l
def Term.text : Term → List UInt8 | .mk _ _ _ s _ _ _ => s
def Term.num : Term → Int | .mk _ _ _ _ n _ _ => n
def Term.items : Term → List Term | .mk _ _ _ _ _ ks _ => ks
def Term.tail : Term → List Term | .mk _ _ _ _ _ _ ts => ts
def Term.knd (t : Term) : Int := t.kind.toNat
theorem Term.knd_nn (t : Term) : 0 ≤ t.knd := Int.natCast_nonneg _
def limA (x : UInt32) : AV := .int .u32 x.toNat
def lims (l : List UInt32) : AV := .sl .none (l.map limA) []
def Term.enc : Term → AV
  | .mk k g l s n ks ts => .agg [.int .u8 k.toNat, .bool g, lims l, .str s, .int .i64 n, .sl .none (ks.map Term.enc) [], .sl .none (ts.map Term.enc) []]
def encs (l : List Term) : AV := .sl .none (l.map Term.enc) []
theorem Term.flat_enc (t : Term) : flat t.enc = [.int .u8 t.knd, .bool t.neg, lims t.limbs, .str t.text, .int .i64 t.num, encs t.items, encs t.tail] := by
  cases t; simp [Term.enc, flat, Term.knd, Term.kind, Term.neg, Term.limbs, Term.text, Term.num, Term.items, Term.tail, encs]
theorem Term.isv_enc (t : Term) : isv t.enc = true := by cases t; simp [Term.enc, isv]
theorem Term.fold_enc (t : Term) : AV.agg [.int .u8 t.knd, .bool t.neg, lims t.limbs, .str t.text, .int .i64 t.num, encs t.items, encs t.tail] = t.enc := by
  cases t; simp [Term.enc, Term.knd, Term.kind, Term.neg, Term.limbs, Term.text, Term.num, Term.items, Term.tail, encs]
theorem isv_encs (l : List Term) : isv (encs l) = true := rfl
theorem flat_encs (l : List Term) : flat (encs l) = [encs l] := rfl
theorem isv_lims (l : List UInt32) : isv (lims l) = true := rfl
theorem flat_lims (l : List UInt32) : flat (lims l) = [lims l] := rfl
theorem len_encs {P : Program} {t : TypeId} (l : List Term) : ablt P .len #[t] [encs l] = if (el P t).isSome then some (.int .i64 l.length) else none := by
  simp [encs, l_sl]
theorem len_lims {P : Program} {t : TypeId} (l : List UInt32) : ablt P .len #[t] [lims l] = if (el P t).isSome then some (.int .i64 l.length) else none := by
  simp [lims, l_sl]
theorem ix_encs {P : Program} {t : TypeId} {k : IntKind} (l : List Term) (i : Nat) : aindexA P t (encs l) (.int k (i : Int)) = ixk ((el P t).bind (tk P)) ((l[i]?).map Term.enc) := by
  simp [encs, aindexA_sl]
theorem ix_encs' {P : Program} {t : TypeId} {k : IntKind} (l : List Term) (i : Int) (h : 0 ≤ i) : aindexA P t (encs l) (.int k i) = ixk ((el P t).bind (tk P)) ((l[i.toNat]?).map Term.enc) := by
  simp [encs, aindexA_sl, h]
theorem ix_lims {P : Program} {t : TypeId} {k : IntKind} (l : List UInt32) (i : Nat) : aindexA P t (lims l) (.int k (i : Int)) = ixk ((el P t).bind (tk P)) ((l[i]?).map limA) := by
  simp [lims, aindexA_sl]
theorem ix_lims' {P : Program} {t : TypeId} {k : IntKind} (l : List UInt32) (i : Int) (h : 0 ≤ i) : aindexA P t (lims l) (.int k i) = ixk ((el P t).bind (tk P)) ((l[i.toNat]?).map limA) := by
  simp [lims, aindexA_sl, h]
theorem flat_limA (x : UInt32) : flat (limA x) = [limA x] := rfl
theorem Term.ind {P : Term → Prop} (h : ∀ t, (∀ k, k ∈ t.items → P k) → (∀ k, k ∈ t.tail → P k) → P t) : ∀ t, P t := by
  have key : ∀ n, ∀ t : Term, SizeOf.sizeOf t ≤ n → P t := by
    intro n
    induction n with
    | zero => intro t ht; cases t; simp at ht
    | succ n ih =>
      intro t ht
      cases t with
      | mk a b c d e ks ts =>
        refine h _ (fun k hk => ih k ?_) (fun k hk => ih k ?_)
        · have := List.sizeOf_lt_of_mem (show k ∈ ks from hk)
          simp at ht
          omega
        · have := List.sizeOf_lt_of_mem (show k ∈ ts from hk)
          simp at ht
          omega
  exact fun t => key _ t (Nat.le_refl _)
mutual
def Term.bulk : Term → Nat
  | .mk _ _ l s _ ks ts => l.length + s.length + bulks ks + bulks ts + 1
def bulks : List Term → Nat
  | [] => 0
  | k :: ks => k.bulk + bulks ks
end
theorem Term.bulk_eq (t : Term) : t.bulk = t.limbs.length + t.text.length + bulks t.items + bulks t.tail + 1 := by cases t; simp [Term.bulk, Term.limbs, Term.text, Term.items, Term.tail]
theorem bulk_mem {l : List Term} {k : Term} (h : k ∈ l) : k.bulk ≤ bulks l := by
  induction l with
  | nil => cases h
  | cons x l ih =>
    simp only [bulks]
    rcases List.mem_cons.1 h with rfl | h
    · omega
    · have := ih h; omega
theorem bulks_append (l r : List Term) : bulks (l ++ r) = bulks l + bulks r := by
  induction l with
  | nil => simp [bulks]
  | cons x l ih => simp only [List.cons_append, bulks, ih]; omega
theorem len_le_bulks (l : List Term) : l.length ≤ bulks l := by
  induction l with
  | nil => simp [bulks]
  | cons x l ih => have := x.bulk_eq; simp only [List.length_cons, bulks]; omega
theorem bulk_item {k t : Term} (h : k ∈ t.items) : k.bulk < t.bulk := by
  have := bulk_mem h; have := t.bulk_eq; omega
theorem bulk_tail {k t : Term} (h : k ∈ t.tail) : k.bulk < t.bulk := by
  have := bulk_mem h; have := t.bulk_eq; omega
theorem len_items (t : Term) : t.items.length < t.bulk := by
  have := len_le_bulks t.items; have := t.bulk_eq; omega
theorem len_tail (t : Term) : t.tail.length < t.bulk := by
  have := len_le_bulks t.tail; have := t.bulk_eq; omega
theorem len_limbs (t : Term) : t.limbs.length < t.bulk := by
  have := t.bulk_eq; omega
theorem len_text (t : Term) : t.text.length < t.bulk := by
  have := t.bulk_eq; omega
theorem wrap_nat {x : Int} (h0 : -9223372036854775808 ≤ x) (h1 : x ≤ 9223372036854775807) : IntKind.i64.wrap x = x := by
  rw [IntKind.wrap_i64]; omega
theorem take_succ_get {α : Type} (l : List α) (i : Nat) (x : α) (h : l[i]? = some x) : l.take (i + 1) = l.take i ++ [x] := by
  rw [List.take_add_one, h]; rfl
theorem drop_get {α : Type} (l : List α) (i : Nat) (x : α) (h : l[i]? = some x) : l.drop i = x :: l.drop (i + 1) := by
  obtain ⟨hi, rfl⟩ := List.getElem?_eq_some_iff.1 h
  exact List.drop_eq_getElem_cons hi
theorem flat7 {l : List Term} : ∀ a, a ∈ l.map Term.enc → (flat a).length = 7 := fun a ha => by
  obtain ⟨x, _, rfl⟩ := List.mem_map.1 ha
  rw [x.flat_enc]; rfl
theorem flat1 {l : List UInt32} : ∀ a, a ∈ l.map limA → (flat a).length = 1 := fun a ha => by
  obtain ⟨x, _, rfl⟩ := List.mem_map.1 ha
  rfl
theorem ones (t : Term) : ∀ d, d ∈ flat t.enc → Av.one d = true := fun d hd => by rw [t.flat_enc] at hd; simp at hd; rcases hd with rfl | rfl | rfl | rfl | rfl | rfl | rfl <;> rfl
theorem sl_encs {P : Program} {t : TypeId} (l : List Term) (lo hi : Option AV) (ht : ((el P t).bind (tk P)) = some (true, 7)) : aslice P t (encs l) lo hi = match abnd lo 0, abnd hi l.length with
    | some a, some b => if a ≤ b ∧ b ≤ l.length then some (encs ((l.take b).drop a)) else none
    | _, _ => none := by
  unfold encs
  rw [aslice_sl, ht, List.length_map]
  cases abnd lo 0 with
  | none => cases abnd hi l.length <;> rfl
  | some a =>
    cases abnd hi l.length with
    | none => rfl
    | some b =>
      rw [slk_plain flat7]
      simp only [List.length_map, List.map_drop, List.map_take]
theorem sl_lims {P : Program} {t : TypeId} (l : List UInt32) (lo hi : Option AV) (ht : ((el P t).bind (tk P)) = some (false, 1)) : aslice P t (lims l) lo hi = match abnd lo 0, abnd hi l.length with
    | some a, some b => if a ≤ b ∧ b ≤ l.length then some (lims ((l.take b).drop a)) else none
    | _, _ => none := by
  unfold lims
  rw [aslice_sl, ht, List.length_map]
  cases abnd lo 0 with
  | none => cases abnd hi l.length <;> rfl
  | some a =>
    cases abnd hi l.length with
    | none => rfl
    | some b =>
      rw [slk_plain flat1]
      simp only [List.length_map, List.map_drop, List.map_take]
end Go.Proofs.YtphnoaihojccbaaGreatDoor
namespace Go.Proofs.YtphnoaihojccbaaGreatDoor
open Go Go.Av
def tbLims := And.intro (And.intro (And.intro @tf3 (And.intro @tf4 @tf5)) (And.intro @tf85 (And.intro @tf9 @tf40))) (And.intro (And.intro @isv_lims (And.intro @flat_lims @len_lims)) (And.intro @ix_lims (And.intro @ix_lims' @flat_limA)))
variable (G : Nat → AV)
def markI (k i : Int) : Int := IntKind.i64.wrap (IntKind.i64.wrap (1000003 * IntKind.i64.wrap (k + 7)) + i)
theorem mark_pure (k i : Int) : Pure Tryz.prog G 93 [.int .i64 k, .int .i64 i] (.int .i64 (markI k i)) := by
  intro σ
  refine Tri.of_awp mixed Tryz.func93 rfl (by kernel_rfl) (by kernel_rfl) (by simp [Tryz.ntmps93]) Tryz.results93 ?_
  repeat' (first | refine xs ?_ ?_ <;> intros | ((first | refine xh ?_ | refine xi ?_); intro bx hbx; (try simp only [fb] at hbx)) | refine xj ?_ | ((with_reducible refine And.intro ?_ ?_); omega) | refine bo_buildSlice (d' := ⟨⟩) ?_ | refine xk (by kernel_rfl) ?_ | refine xf ?_ (by repeat' first | exact lr _ | assumption | refine ls ?_ ?_ | refine lt ?_ ?_ | simp only [*]; done | exact lf ‹_› (by simp only [*])) | simp -dsimp only [↓bp, bq, br, seval, tbLims, *])
  all_goals rfl
theorem limA_ne {x y : UInt32} : ((x.toNat : Int) = (y.toNat : Int)) ↔ x = y := by
  constructor
  · intro h; exact UInt32.toNat_inj.1 (by omega)
  · rintro rfl; rfl
theorem take_next {α : Type} {l r : List α} {i : Nat} {x : α} (h : l.take i = r.take i) (hl : l[i]? = some x) (hr : r[i]? = some x) : l.take (i + 1) = r.take (i + 1) := by
  rw [take_succ_get _ _ _ hl, take_succ_get _ _ _ hr, h]
theorem take_all {α : Type} {l r : List α} (hl : l.length = r.length) (h : l.take l.length = r.take l.length) : l = r := by
  rw [List.take_length] at h
  rw [h, hl, List.take_length]
theorem samelims_pure (l r : List UInt32) (hl : l.length ≤ 1000000000) (hr : r.length ≤ 1000000000) : Pure Tryz.prog G 111 [lims l, lims r] (.bool (decide (l = r))) := by
  intro σ
  refine Tri.of_awp mixed Tryz.func111 rfl (by kernel_rfl) (by kernel_rfl) (by simp [Tryz.ntmps111]) Tryz.results111 ?_
  repeat' (first | refine xs ?_ ?_ <;> intros | ((first | refine xh ?_ | refine xi ?_); intro bx hbx; (try simp only [fb] at hbx)) | refine xj ?_ | ((with_reducible refine And.intro ?_ ?_); omega) | refine bo_buildSlice (d' := ⟨⟩) ?_ | refine xk (by kernel_rfl) ?_ | refine xf ?_ (by repeat' first | exact lr _ | assumption | refine ls ?_ ?_ | refine lt ?_ ?_ | simp only [*]; done | exact lf ‹_› (by simp only [*])) | simp -dsimp only [↓bp, bq, br, seval, tbLims, *])
  rotate_right
  · skip
    refine loop_keep mixed (fun n e => ∃ i : Nat, i ≤ (l).length ∧ n = (l).length - i ∧ e 5 = .int .i64 i ∧ l.take i = r.take i) (l).length
        ⟨0, by omega, by omega, by simp -dsimp only [↓bp, bq, br, seval, tbLims]; first | done | rfl, rfl⟩ ?_
    rintro n v ⟨i, hi, rfl, h5, htk⟩
    simp -dsimp only [↓bp, bq, br, seval, tbLims] at h5
    simp -dsimp only [↓bp, bq, br, seval, tbLims, h5]
    refine condW_dec (fun hlt => ?_) (fun hge => ?_)
    · obtain ⟨x, hx⟩ : ∃ x, l[i]? = some x := ⟨_, List.getElem?_eq_getElem (by omega)⟩
      obtain ⟨y, hy⟩ : ∃ y, r[i]? = some y := ⟨_, List.getElem?_eq_getElem (by omega)⟩
      clear hi hlt
      repeat' (first | refine xs ?_ ?_ <;> intros | ((first | refine xh ?_ | refine xi ?_); intro bx hbx; (try simp only [fb] at hbx)) | refine xj ?_ | ((with_reducible refine And.intro ?_ ?_); omega) | refine bo_buildSlice (d' := ⟨⟩) ?_ | refine xk (by kernel_rfl) ?_ | refine xf ?_ (by repeat' first | exact lr _ | assumption | refine ls ?_ ?_ | refine lt ?_ ?_ | simp only [*]; done | exact lf ‹_› (by simp only [*])) | simp -dsimp only [↓bp, bq, br, seval, tbLims, limA, *])
      · have hxy : l ≠ r := fun e => by subst e; rw [hx] at hy; simp only [Option.some.injEq] at hy; subst hy; simp_all
        simp [hxy]
      · have hxy : x = y := limA_ne.1 (by simp_all)
        subst hxy
        have hlt := (List.getElem?_eq_some_iff.1 hx).1
        exact ⟨l.length - (i + 1), by omega, i + 1, by omega, rfl, by rw [wrap_nat (by omega) (by omega)]; rfl, take_next htk hx hy⟩
    · have : i = l.length := by omega
      subst this
      have hlr : l = r := take_all (by omega) htk
      clear hi hge
      repeat' (first | refine xs ?_ ?_ <;> intros | ((first | refine xh ?_ | refine xi ?_); intro bx hbx; (try simp only [fb] at hbx)) | refine xj ?_ | ((with_reducible refine And.intro ?_ ?_); omega) | refine bo_buildSlice (d' := ⟨⟩) ?_ | refine xk (by kernel_rfl) ?_ | refine xf ?_ (by repeat' first | exact lr _ | assumption | refine ls ?_ ?_ | refine lt ?_ ?_ | simp only [*]; done | exact lf ‹_› (by simp only [*])) | simp -dsimp only [↓bp, bq, br, seval, tbLims, *])
      all_goals simp [hlr]
  · have : l ≠ r := fun e => by subst e; simp_all
    simp [this]
def lmk (i : Int) : AV := .int .u32 (IntKind.u32.wrap (markI 1 i))
def lmarksTo (i : Nat) : List AV := (List.range i).map fun (i : Nat) => lmk (i : Int)
theorem lmarksTo_succ (i : Nat) : lmarksTo (i + 1) = lmarksTo i ++ [lmk (i : Int)] := by simp [lmarksTo, List.range_succ]
theorem lmarksTo_len (i : Nat) : (lmarksTo i).length = i := by simp [lmarksTo]
def lmarks : List AV := lmarksTo 12
def lentLims (l : List UInt32) : AV := .sl .none (l.map limA) lmarks
theorem isv_lentLims (l : List UInt32) : isv (lentLims l) = true := rfl
theorem flat_lentLims (l : List UInt32) : flat (lentLims l) = [lentLims l] := rfl
theorem lentLims_le (l : List UInt32) : Le (lentLims l) (lims l) := Le.spare
theorem tfL : aelt Tryz.prog 40 = some (85, 1, 4) := tf40.2.2.2.2.2.2
theorem tfLE : el Tryz.prog 40 = some 85 := tf40.2.2.2.1
theorem lentlims_pure (l : List UInt32) (hl : l.length ≤ 1000000000) : Pure Tryz.prog G 92 [lims l] (lentLims l) := by
  refine Pure.of_le fun σ => ?_
  have hw0 : IntKind.i64.wrap ((l.length : Int) + 12) = l.length + 12 := wrap_nat (by omega) (by omega)
  refine Tri.of_awp mixed Tryz.func92 rfl (by kernel_rfl) (by kernel_rfl) (by simp [Tryz.ntmps92]) Tryz.results92 ?_
  simp -dsimp only [↓bp, bq, br, seval, tbLims, hw0]
  refine make_buf tfL (by omega) (by omega) (AS.le.refl σ) (fun v σ1 hB1 hx1 => ?_)
  simp -dsimp only [↓bp, bq, br, seval, tbLims]
  refine app_buf (ys := l.map limA) hB1 tfL (asrc_sl tfLE) flat1 (by simp; omega) (fun v σ2 hB2 hx2 => ?_)
  simp -dsimp only [↓bp, bq, br, seval, tbLims]
  rw [List.nil_append] at hB2
  refine loop_intro (fun n e σ' => ∃ (i : Nat) (v : AV), i ≤ 12 ∧ n = 12 - i ∧ e 4 = .int .i64 i ∧ e 3 = v ∧ Buf 1 σ σ' v (l.map limA ++ lmarksTo i)) 12
    ⟨0, v, by omega, by omega, by simp -dsimp only [↓bp, bq, br, seval, tbLims]; try rfl, by simp -dsimp only [↓bp, bq, br, seval, tbLims], by simpa [lmarksTo] using hB2⟩ ?_
  rintro n e2 σ3 ⟨i, v3, hi2, rfl, h4, h3, hB3⟩
  simp -dsimp only [↓bp, bq, br, seval, tbLims] at h4 h3
  simp -dsimp only [↓bp, bq, br, seval, tbLims, h4, h3]
  refine condW_dec (fun hlt => ?_) (fun hge => ?_)
  · simp -dsimp only [↓bp, bq, br, seval, tbLims, h4, h3]
    refine Pure.use (mark_pure G 1 i) ?_
    simp -dsimp only [↓bp, bq, br, seval, tbLims, h4, h3]
    refine build_one tfL rfl rfl (by omega) ?_
    simp -dsimp only [↓bp, bq, br, seval, tbLims, h4, h3]
    refine app_buf (ys := [lmk (i : Int)]) hB3 tfL (asrc_sl tfLE) (fun a ha => by simp at ha; subst ha; rfl) (by simp [lmarksTo_len]; omega) (fun v4 σ4 hB4 hx4 => ?_)
    simp -dsimp only [↓bp, bq, br, seval, tbLims, h4, h3]
    refine ⟨12 - (i + 1), by omega, i + 1, v4, by omega, rfl, ?_, rfl, ?_⟩
    · rw [wrap_nat (by omega) (by omega)]; rfl
    · rw [lmarksTo_succ, ← List.append_assoc]; exact hB4
  · have : i = 12 := by omega
    subst this
    simp -dsimp only [↓bp, bq, br, seval, tbLims, h4, h3]
    rcases hB3.isNil with ⟨hn, _⟩ | ⟨b, hb⟩
    · have := congrArg List.length hn; simp [lmarksTo_len] at this
    · subst hb
      refine piece (l := 0) (h := l.length) tfLE tf85.1 rfl (by simp [abnd]) (by omega) (by simp) (fun a ha => ?_) (fun g' => ?_)
      · rw [List.append_nil] at ha
        cases hB3 with
        | own _ _ _ _ _ hx => exact hx a ha
      · simp -dsimp only [↓bp, bq, br, seval, tbLims, h4, h3]
        refine finish_le ?_ hB3.le
        have e1 : (l.map limA ++ lmarksTo 12).take l.length = l.map limA := by
          rw [List.take_append_of_le_length (by simp), List.take_of_length_le (by simp)]
        have e2 : (l.map limA ++ lmarksTo 12).drop l.length = lmarks := by
          rw [List.drop_append_of_le_length (by simp), List.drop_eq_nil_of_le (by simp)]; rfl
        rw [e1, e2]
        exact Le.gh
theorem len_lentLims {P : Program} {t : TypeId} (l : List UInt32) : ablt P .len #[t] [lentLims l] = if (el P t).isSome then some (.int .i64 l.length) else none := by
  simp [lentLims, l_sl]
theorem sl_lentLims {t : TypeId} (l : List UInt32) (h : Int) (hh : h = l.length + 12) (ht : t = 40) {K : AV → Prop} {d : Dum K} (hK : ∀ g, K (.sl g (l.map limA ++ lmarks) [])) : bo (aslice Tryz.prog t (lentLims l) none (some (.int .i64 h))) K d := by
  subst hh ht
  refine piece (l := 0) (h := l.length + 12) tfLE tf85.1 rfl (by simp [abnd]; omega) (by omega) (by simp [lmarks, lmarksTo_len]) (fun a ha => ?_) (fun g' => ?_)
  · rcases List.mem_append.1 ha with ha | ha
    · exact flat1 a ha
    · obtain ⟨i, _, rfl⟩ := List.mem_map.1 ha
      rfl
  · have e1 : ((l.map limA ++ lmarks).take (l.length + 12)).drop 0 = l.map limA ++ lmarks := by
      rw [List.drop_zero, List.take_of_length_le (by simp [lmarks, lmarksTo_len])]
    have e2 : (l.map limA ++ lmarks).drop (l.length + 12) = [] := List.drop_eq_nil_of_le (by simp [lmarks, lmarksTo_len])
    rw [e1, e2]
    have hml : lmarks.length = 12 := by simp [lmarks, lmarksTo_len]
    unfold slim
    split
    · rename_i heq _
      have h2 : lmarks = [] := by injection heq
      rw [h2] at hml
      cases hml
    · exact hK g'
theorem keptlims_pure (l : List UInt32) (hl : l.length ≤ 1000000000) : Pure Tryz.prog G 110 [lentLims l, lims l] (.bool true) := by
  intro σ
  have hw0 : IntKind.i64.wrap ((l.length : Int) + 12) = l.length + 12 := wrap_nat (by omega) (by omega)
  have hml : lmarks.length = 12 := by simp [lmarks, lmarksTo_len]
  refine Tri.of_awp mixed Tryz.func110 rfl (by kernel_rfl) (by kernel_rfl) (by simp [Tryz.ntmps110]) Tryz.results110 ?_
  simp -dsimp only [↓bp, bq, br, seval, tbLims, hw0, len_lentLims]
  refine sl_lentLims l _ rfl rfl fun g => ?_
  simp -dsimp only [↓bp, bq, br, seval, tbLims]
  refine loop_intro (fun n e σ' => ∃ i : Nat, i ≤ ((l.map limA ++ lmarks)).length ∧ n = ((l.map limA ++ lmarks)).length - i ∧ e 6 = .int .i64 i ∧ σ.le σ') ((l.map limA ++ lmarks)).length
      ⟨0, by omega, by omega, by simp -dsimp only [↓bp, bq, br, seval, tbLims]; first | done | rfl, AS.le.refl σ⟩ ?_
  rintro n v σ' ⟨i, hi, rfl, h6, hle⟩
  simp -dsimp only [↓bp, bq, br, seval, tbLims] at h6
  simp -dsimp only [↓bp, bq, br, seval, tbLims, h6]
  refine condW_dec (fun hlt => ?_) (fun hge => ?_)
  · have hl3 : i < l.length + 12 := by rw [List.length_append, List.length_map, hml] at hlt; omega
    by_cases hi2 : (i : Int) < l.length
    · obtain ⟨k, hk⟩ : ∃ k, l[i]? = some k := ⟨_, List.getElem?_eq_getElem (by omega)⟩
      have hx : (l.map limA ++ lmarks)[i]? = some (limA k) := by rw [List.getElem?_append_left (by simp; omega), List.getElem?_map, hk]; rfl
      have hge : ¬ (l.length : Int) ≤ i := by omega
      clear hi hlt
      repeat' (first | refine xs ?_ ?_ <;> intros | ((first | refine xh ?_ | refine xi ?_); intro bx hbx; (try simp only [fb] at hbx)) | refine xj ?_ | ((with_reducible refine And.intro ?_ ?_); omega) | refine bo_buildSlice (d' := ⟨⟩) ?_ | refine xk (by kernel_rfl) ?_ | refine xf ?_ (by repeat' first | exact lr _ | assumption | refine ls ?_ ?_ | refine lt ?_ ?_ | simp only [*]; done | exact lf ‹_› (by simp only [*])) | simp -dsimp only [↓bp, bq, br, seval, tbLims, limA, isv_lentLims, flat_lentLims, len_lentLims, *])
      all_goals (have hl2 : (l.map limA ++ lmarks).length = l.length + 12 := by simp [hml])
      all_goals exact ⟨(l.map limA ++ lmarks).length - (i + 1), by omega, i + 1, by omega, rfl, by rw [wrap_nat (by omega) (by omega)]; rfl⟩
    · have hx : (l.map limA ++ lmarks)[i]? = some (lmk ((i - l.length : Nat) : Int)) := by
        rw [List.getElem?_append_right (by simp; omega), List.length_map]
        have : i - l.length < 12 := by omega
        simp [lmarks, lmarksTo, this]
      have hge : (l.length : Int) ≤ i := by omega
      have hw1 : IntKind.i64.wrap ((i : Int) - l.length) = ((i - l.length : Nat) : Int) := by rw [wrap_nat (by omega) (by omega)]; omega
      clear hi hlt
      repeat' (first | refine xs ?_ ?_ <;> intros | ((first | refine xh ?_ | refine xi ?_); intro bx hbx; (try simp only [fb] at hbx)) | refine Pure.use (mark_pure G 1 _) ?_ | refine Pure.head (mark_pure G 1 _) ?_ | refine xj ?_ | ((with_reducible refine And.intro ?_ ?_); omega) | refine bo_buildSlice (d' := ⟨⟩) ?_ | refine xk (by kernel_rfl) ?_ | refine xf ?_ (by repeat' first | exact lr _ | assumption | refine ls ?_ ?_ | refine lt ?_ ?_ | simp only [*]; done | exact lf ‹_› (by simp only [*])) | simp -dsimp only [↓bp, bq, br, seval, tbLims, lmk, isv_lentLims, flat_lentLims, len_lentLims, *])
      all_goals (have hl2 : (l.map limA ++ lmarks).length = l.length + 12 := by simp [hml])
      all_goals exact ⟨(l.map limA ++ lmarks).length - (i + 1), by omega, i + 1, by omega, rfl, by rw [wrap_nat (by omega) (by omega)]; rfl⟩
  · have : i = (l.map limA ++ lmarks).length := by omega
    subst this
    clear hi hge
    repeat' (first | refine xs ?_ ?_ <;> intros | ((first | refine xh ?_ | refine xi ?_); intro bx hbx; (try simp only [fb] at hbx)) | refine xj ?_ | ((with_reducible refine And.intro ?_ ?_); omega) | refine bo_buildSlice (d' := ⟨⟩) ?_ | refine xk (by kernel_rfl) ?_ | refine xf ?_ (by repeat' first | exact lr _ | assumption | refine ls ?_ ?_ | refine lt ?_ ?_ | simp only [*]; done | exact lf ‹_› (by simp only [*])) | simp -dsimp only [↓bp, bq, br, seval, tbLims, *])
    all_goals rfl
theorem clone_tri (l : List UInt32) (hl : l.length ≤ 1000000000) (σ : AS) : Tri Tryz.prog G 161 [lims l] σ fun r σ' => Le r (lims l) ∧ σ' = σ := by
  have key : ∀ x, (∀ op t, (el Tryz.prog t).isSome = true → abin Tryz.prog op t x .nil = aeq op false) → asrc Tryz.prog 40 x = some (l.map limA) → Tri Tryz.prog G 161 [x] σ fun r σ' => Le r (lims l) ∧ σ' = σ := by
    intro x h1 h2
    have h3 := h1 .eql 40 (by rw [tfLE]; rfl)
    refine Tri.of_awp mixed Tryz.func161 rfl (by kernel_rfl) (by kernel_rfl) (by simp [Tryz.ntmps161]) Tryz.results161 ?_
    simp -dsimp only [↓bp, bq, br, seval, tbLims, h3]
    refine build_none tfL ?_
    simp -dsimp only [↓bp, bq, br, seval, tbLims]
    refine app_full (σ0 := σ) (AS.le.refl σ) (fun a ha => by cases ha) tfL h2 flat1 (by simp; omega) (fun he => ?_) (fun v σ1 hB hx => ?_)
    · simp -dsimp only [↓bp, bq, br, seval, tbLims]
      have e : lims l = .sl .none [] [] := by unfold lims; rw [he]
      rw [e]
      exact finish_le Le.gh (AS.le.refl σ)
    · simp -dsimp only [↓bp, bq, br, seval, tbLims]
      exact finish_le hB.told hB.le
  cases l with
  | nil =>
    refine Tri.nil_or ?_ fun a c => ?_
    · refine Tri.of_awp mixed Tryz.func161 rfl (by kernel_rfl) (by kernel_rfl) (by simp [Tryz.ntmps161]) Tryz.results161 ?_
      simp -dsimp only [↓bp, bq, br, seval, tbLims]
      exact finish_le Le.nil (AS.le.refl σ)
    · exact key _ (fun op t h => by rw [abin_raw_nil, if_pos h]) (by simp [asrc, tfLE])
  | cons x l => exact key _ (fun op t h => by simp [lims, abin, isNil, h]) (asrc_sl tfLE)
end Go.Proofs.YtphnoaihojccbaaGreatDoor
set_option maxRecDepth 20000
namespace Go.Proofs.YtphnoaihojccbaaGreatDoor
open Go Go.Av
def tbTermKit := And.intro (And.intro (And.intro (And.intro @tf3 @tf4) (And.intro @tf5 (And.intro @tf85 @tf9))) (And.intro (And.intro @tf40 (And.intro @tf39 @tf22)) (And.intro @tf42 (And.intro @Term.flat_enc @Term.isv_enc)))) (And.intro (And.intro (And.intro @Term.fold_enc (And.intro @isv_encs @flat_encs)) (And.intro @len_encs (And.intro @ix_encs @ix_encs'))) (And.intro (And.intro @isv_lims (And.intro @flat_lims @len_lims)) (And.intro @ix_lims (And.intro @ix_lims' @flat_limA))))
variable (G : Nat → AV)
mutual
def same : Term → Term → Bool
  | .mk k g l s n ks ts, u => decide ((k.toNat : Int) = u.knd) && (g == u.neg) && decide (l = u.limbs) && decide (s = u.text) && decide (n = u.num) && sames ks u.items && sames ts u.tail
def sames : List Term → List Term → Bool
  | [], [] => true
  | a :: l, b :: r => same a b && sames l r
  | _, _ => false
end
theorem same_eq (t u : Term) : same t u = (decide (t.knd = u.knd) && (t.neg == u.neg) && decide (t.limbs = u.limbs) && decide (t.text = u.text) && decide (t.num = u.num) && sames t.items u.items && sames t.tail u.tail) := by
  cases t; rw [same]; rfl
theorem sames_iff_of {l : List Term} (h : ∀ t, t ∈ l → ∀ u, same t u = true ↔ t = u) : ∀ r, sames l r = true ↔ l = r := by
  induction l with
  | nil => intro r; cases r <;> simp [sames]
  | cons a l ih =>
    intro r
    cases r with
    | nil => simp [sames]
    | cons b r => simp only [sames, Bool.and_eq_true, h a (by simp) b, ih (fun t ht => h t (by simp [ht])) r, List.cons.injEq]
theorem same_iff (t : Term) : ∀ u, same t u = true ↔ t = u := by
  refine Term.ind (P := fun t => ∀ u, same t u = true ↔ t = u) (fun t h1 h2 u => ?_) t
  rw [same_eq]
  simp only [Bool.and_eq_true, decide_eq_true_eq, beq_iff_eq, sames_iff_of h1, sames_iff_of h2]
  constructor
  · rintro ⟨⟨⟨⟨⟨⟨h, rfl2⟩, h3⟩, h4⟩, h5⟩, h6⟩, h7⟩
    cases t; cases u
    simp only [Term.knd, Term.kind, Term.neg, Term.limbs, Term.text, Term.num, Term.items, Term.tail] at *
    simp only [Term.mk.injEq]
    exact ⟨UInt8.toNat_inj.1 (by omega), rfl2, h3, h4, h5, h6, h7⟩
  · rintro rfl; simp
theorem sames_iff (l r : List Term) : sames l r = true ↔ l = r := sames_iff_of (fun t _ => same_iff t) r
theorem sames_dec (l r : List Term) (h : l ≠ r) : sames l r = false := by
  cases hs : sames l r with
  | false => rfl
  | true => exact absurd ((sames_iff l r).1 hs) h
theorem samess_pure (l r : List Term) (hl : l.length ≤ 1000000000) (hr : r.length ≤ 1000000000) (hf : ∀ x, x ∈ l → ∀ y, y ∈ r → Pure Tryz.prog G 66 [x.enc, y.enc] (.bool (same x y))) : Pure Tryz.prog G 62 [encs l, encs r] (.bool (sames l r)) := by
  intro σ
  refine Tri.of_awp mixed Tryz.func62 rfl (by kernel_rfl) (by kernel_rfl) (by simp [Tryz.ntmps62]) Tryz.results62 ?_
  repeat' (first | refine xs ?_ ?_ <;> intros | ((first | refine xh ?_ | refine xi ?_); intro bx hbx; (try simp only [fb] at hbx)) | refine xj ?_ | ((with_reducible refine And.intro ?_ ?_); omega) | refine bo_buildSlice (d' := ⟨⟩) ?_ | refine xk (by kernel_rfl) ?_ | refine xf ?_ (by repeat' first | exact lr _ | assumption | refine ls ?_ ?_ | refine lt ?_ ?_ | simp only [*]; done | exact lf ‹_› (by simp only [*])) | simp -dsimp only [↓bp, bq, br, seval, tbTermKit, *])
  rotate_right
  · skip
    refine loop_keep mixed (fun n e => ∃ i : Nat, i ≤ (l).length ∧ n = (l).length - i ∧ e 5 = .int .i64 i ∧ l.take i = r.take i) (l).length
        ⟨0, by omega, by omega, by simp -dsimp only [↓bp, bq, br, seval, tbTermKit]; first | done | rfl, rfl⟩ ?_
    rintro n v ⟨i, hi, rfl, h5, htk⟩
    simp -dsimp only [↓bp, bq, br, seval, tbTermKit] at h5
    simp -dsimp only [↓bp, bq, br, seval, tbTermKit, h5]
    refine condW_dec (fun hlt => ?_) (fun hge => ?_)
    · obtain ⟨x, hx⟩ : ∃ x, l[i]? = some x := ⟨_, List.getElem?_eq_getElem (by omega)⟩
      obtain ⟨y, hy⟩ : ∃ y, r[i]? = some y := ⟨_, List.getElem?_eq_getElem (by omega)⟩
      have hc := hf x (List.mem_of_getElem? hx) y (List.mem_of_getElem? hy)
      clear hi hlt hf
      repeat' (first | refine xs ?_ ?_ <;> intros | ((first | refine xh ?_ | refine xi ?_); intro bx hbx; (try simp only [fb] at hbx)) | refine Pure.use (hc) ?_ | refine Pure.head (hc) ?_ | refine xj ?_ | ((with_reducible refine And.intro ?_ ?_); omega) | refine bo_buildSlice (d' := ⟨⟩) ?_ | refine xk (by kernel_rfl) ?_ | refine xf ?_ (by repeat' first | exact lr _ | assumption | refine ls ?_ ?_ | refine lt ?_ ?_ | simp only [*]; done | exact lf ‹_› (by simp only [*])) | simp -dsimp only [↓bp, bq, br, seval, tbTermKit, *])
      · have hxy : same x y = true := by assumption
        have hxy : x = y := (same_iff x y).1 hxy
        subst hxy
        have hlt := (List.getElem?_eq_some_iff.1 hx).1
        exact ⟨l.length - (i + 1), by omega, i + 1, by omega, rfl, by rw [wrap_nat (by omega) (by omega)]; rfl, take_next htk hx hy⟩
      · have hxy : same x y = false := by assumption
        have : l ≠ r := fun e => by subst e; rw [hx] at hy; simp only [Option.some.injEq] at hy; subst hy; rw [(same_iff x x).2 rfl] at hxy; cases hxy
        rw [sames_dec _ _ this]
    · have : i = l.length := by omega
      subst this
      have hlr : l = r := take_all (by omega) htk
      clear hi hge hf
      repeat' (first | refine xs ?_ ?_ <;> intros | ((first | refine xh ?_ | refine xi ?_); intro bx hbx; (try simp only [fb] at hbx)) | refine xj ?_ | ((with_reducible refine And.intro ?_ ?_); omega) | refine bo_buildSlice (d' := ⟨⟩) ?_ | refine xk (by kernel_rfl) ?_ | refine xf ?_ (by repeat' first | exact lr _ | assumption | refine ls ?_ ?_ | refine lt ?_ ?_ | simp only [*]; done | exact lf ‹_› (by simp only [*])) | simp -dsimp only [↓bp, bq, br, seval, tbTermKit, *])
      all_goals (subst hlr; rw [(sames_iff l l).2 rfl])
  · have : l ≠ r := fun e => by subst e; simp_all
    rw [sames_dec _ _ this]
theorem same_pure (t : Term) : ∀ u : Term, t.bulk ≤ 1000000000 → u.bulk ≤ 1000000000 → Pure Tryz.prog G 66 [t.enc, u.enc] (.bool (same t u)) := by
  refine Term.ind (P := fun t => ∀ u : Term, t.bulk ≤ 1000000000 → u.bulk ≤ 1000000000 → Pure Tryz.prog G 66 [t.enc, u.enc] (.bool (same t u))) (fun t ih1 ih2 u ht hu => ?_) t
  have h1 := samess_pure G t.items u.items (by have := len_items t; omega) (by have := len_items u; omega) (fun x hx y hy => ih1 x hx y (by have := bulk_item hx; omega) (by have := bulk_item hy; omega))
  have h2 := samess_pure G t.tail u.tail (by have := len_tail t; omega) (by have := len_tail u; omega) (fun x hx y hy => ih2 x hx y (by have := bulk_tail hx; omega) (by have := bulk_tail hy; omega))
  have h3 := samelims_pure G t.limbs u.limbs (by have := len_limbs t; omega) (by have := len_limbs u; omega)
  clear ih1 ih2 ht hu
  intro σ
  refine Tri.of_awp mixed Tryz.func66 rfl (by kernel_rfl) (by kernel_rfl) (by simp [Tryz.ntmps66]) Tryz.results66 ?_
  repeat' (first | refine xs ?_ ?_ <;> intros | ((first | refine xh ?_ | refine xi ?_); intro bx hbx; (try simp only [fb] at hbx)) | refine Pure.use (h1) ?_ | refine Pure.head (h1) ?_ | refine Pure.use (h2) ?_ | refine Pure.head (h2) ?_ | refine Pure.use (h3) ?_ | refine Pure.head (h3) ?_ | refine xj ?_ | ((with_reducible refine And.intro ?_ ?_); omega) | refine bo_buildSlice (d' := ⟨⟩) ?_ | refine xk (by kernel_rfl) ?_ | refine xf ?_ (by repeat' first | exact lr _ | assumption | refine ls ?_ ?_ | refine lt ?_ ?_ | simp only [*]; done | exact lf ‹_› (by simp only [*])) | simp -dsimp only [↓bp, bq, br, seval, tbTermKit, *])
  all_goals (first | (simp only [same_eq, *, Bool.and_true, Bool.true_and, Bool.and_false, Bool.false_and, Bool.or_true, Bool.true_or, Bool.or_false, Bool.false_or, Bool.not_true, Bool.not_false, if_true, if_false, Bool.and_self, Bool.or_self]; done) | (simp [same_eq, *]; done) | (simp_all [same_eq]; done))
end Go.Proofs.YtphnoaihojccbaaGreatDoor
namespace Go.Proofs.YtphnoaihojccbaaGreatDoor
open Go Go.Av
structure Ended where
  pid : Int
  reason : Term
structure Named where
  name : List UInt8
  pid : Int
  deriving DecidableEq
structure Seen where
  out : List Term
  ended : List Ended
  names : List Named
  verdict : Int
  spent : Int
  clock : Int
def Ended.enc (e : Ended) : AV := .agg [.int .i64 e.pid, .int .u8 e.reason.knd, .bool e.reason.neg, lims e.reason.limbs, .str e.reason.text, .int .i64 e.reason.num, encs e.reason.items, encs e.reason.tail]
def encE (l : List Ended) : AV := .sl .none (l.map Ended.enc) []
def Named.enc (n : Named) : AV := .agg [.str n.name, .int .i64 n.pid]
def encN (l : List Named) : AV := .sl .none (l.map Named.enc) []
def Seen.enc (s : Seen) : AV := .agg [encs s.out, encE s.ended, encN s.names, .int .i64 s.verdict, .int .i64 s.spent, .int .i64 s.clock]
theorem Ended.flat_enc (e : Ended) : flat e.enc = [.int .i64 e.pid, .int .u8 e.reason.knd, .bool e.reason.neg, lims e.reason.limbs, .str e.reason.text, .int .i64 e.reason.num, encs e.reason.items, encs e.reason.tail] := by simp only [Ended.enc, flat]
theorem Ended.isv_enc (e : Ended) : isv e.enc = true := by simp only [Ended.enc, isv]
theorem Ended.fold_enc (e : Ended) : AV.agg [.int .i64 e.pid, .int .u8 e.reason.knd, .bool e.reason.neg, lims e.reason.limbs, .str e.reason.text, .int .i64 e.reason.num, encs e.reason.items, encs e.reason.tail] = e.enc := by simp only [Ended.enc]
theorem Named.flat_enc (n : Named) : flat n.enc = [.str n.name, .int .i64 n.pid] := by simp only [Named.enc, flat]
theorem Named.isv_enc (n : Named) : isv n.enc = true := by simp only [Named.enc, isv]
theorem Named.fold_enc (n : Named) : AV.agg [.str n.name, .int .i64 n.pid] = n.enc := by simp only [Named.enc]
theorem Seen.flat_enc (s : Seen) : flat s.enc = [encs s.out, encE s.ended, encN s.names, .int .i64 s.verdict, .int .i64 s.spent, .int .i64 s.clock] := by simp only [Seen.enc, flat]
theorem Seen.isv_enc (s : Seen) : isv s.enc = true := by simp only [Seen.enc, isv]
theorem Seen.fold_enc (s : Seen) : AV.agg [encs s.out, encE s.ended, encN s.names, .int .i64 s.verdict, .int .i64 s.spent, .int .i64 s.clock] = s.enc := by simp only [Seen.enc]
theorem isv_encE (l : List Ended) : isv (encE l) = true := by simp only [encE, isv, one]
theorem flat_encE (l : List Ended) : flat (encE l) = [encE l] := by simp only [encE, flat]
theorem isv_encN (l : List Named) : isv (encN l) = true := by simp only [encN, isv, one]
theorem flat_encN (l : List Named) : flat (encN l) = [encN l] := by simp only [encN, flat]
theorem len_encE {P : Program} {t : TypeId} (l : List Ended) : ablt P .len #[t] [encE l] = if (el P t).isSome then some (.int .i64 l.length) else none := by
  simp [encE, l_sl]
theorem len_encN {P : Program} {t : TypeId} (l : List Named) : ablt P .len #[t] [encN l] = if (el P t).isSome then some (.int .i64 l.length) else none := by
  simp [encN, l_sl]
theorem ix_encE {P : Program} {t : TypeId} {k : IntKind} (l : List Ended) (i : Nat) : aindexA P t (encE l) (.int k (i : Int)) = ixk ((el P t).bind (tk P)) ((l[i]?).map Ended.enc) := by
  simp [encE, aindexA_sl]
theorem ix_encN {P : Program} {t : TypeId} {k : IntKind} (l : List Named) (i : Nat) : aindexA P t (encN l) (.int k (i : Int)) = ixk ((el P t).bind (tk P)) ((l[i]?).map Named.enc) := by
  simp [encN, aindexA_sl]
theorem flat8 {l : List Ended} : ∀ a, a ∈ l.map Ended.enc → (flat a).length = 8 := fun a ha => by
  obtain ⟨x, _, rfl⟩ := List.mem_map.1 ha
  rw [x.flat_enc]; rfl
theorem sl_encE {P : Program} {t : TypeId} (l : List Ended) (lo hi : Option AV) (ht : ((el P t).bind (tk P)) = some (true, 8)) : aslice P t (encE l) lo hi = match abnd lo 0, abnd hi l.length with
    | some a, some b => if a ≤ b ∧ b ≤ l.length then some (encE ((l.take b).drop a)) else none
    | _, _ => none := by
  unfold encE
  rw [aslice_sl, ht, List.length_map]
  cases abnd lo 0 with
  | none => cases abnd hi l.length <;> rfl
  | some a =>
    cases abnd hi l.length with
    | none => rfl
    | some b =>
      rw [slk_plain flat8]
      simp only [List.length_map, List.map_drop, List.map_take]
def bulkE : List Ended → Nat
  | [] => 0
  | e :: l => e.reason.bulk + 1 + bulkE l
def bulkN : List Named → Nat
  | [] => 0
  | n :: l => n.name.length + 2 + bulkN l
def Seen.bulk (s : Seen) : Nat := bulks s.out + bulkE s.ended + bulkN s.names + 4
theorem bulkE_mem {l : List Ended} {e : Ended} (h : e ∈ l) : e.reason.bulk + 1 ≤ bulkE l := by
  induction l with
  | nil => cases h
  | cons x l ih =>
    simp only [bulkE]
    rcases List.mem_cons.1 h with rfl | h
    · omega
    · have := ih h; omega
theorem bulkN_mem {l : List Named} {e : Named} (h : e ∈ l) : e.name.length + 2 ≤ bulkN l := by
  induction l with
  | nil => cases h
  | cons x l ih =>
    simp only [bulkN]
    rcases List.mem_cons.1 h with rfl | h
    · omega
    · have := ih h; omega
theorem lenE_le (l : List Ended) : l.length ≤ bulkE l := by
  induction l with
  | nil => simp [bulkE]
  | cons x l ih => simp only [List.length_cons, bulkE]; omega
theorem lenN_le (l : List Named) : l.length ≤ bulkN l := by
  induction l with
  | nil => simp [bulkN]
  | cons x l ih => simp only [List.length_cons, bulkN]; omega
def sameE (a b : Ended) : Bool := decide (a.pid = b.pid) && same a.reason b.reason
def samesE : List Ended → List Ended → Bool
  | [], [] => true
  | a :: l, b :: r => sameE a b && samesE l r
  | _, _ => false
theorem sameE_iff (a b : Ended) : sameE a b = true ↔ a = b := by
  unfold sameE
  simp only [Bool.and_eq_true, decide_eq_true_eq, same_iff]
  constructor
  · rintro ⟨h1, h2⟩; cases a; cases b; simp only at h1 h2; rw [h1, h2]
  · rintro rfl; exact ⟨rfl, rfl⟩
theorem samesE_iff : ∀ l r : List Ended, samesE l r = true ↔ l = r
  | [], [] => by simp [samesE]
  | [], _ :: _ => by simp [samesE]
  | _ :: _, [] => by simp [samesE]
  | a :: l, b :: r => by
    simp only [samesE, Bool.and_eq_true, sameE_iff, samesE_iff l r, List.cons.injEq]
def pre (l r : List Term) : Bool := decide ((l.length : Int) ≤ r.length) && sames l (r.take l.length)
def preE (l r : List Ended) : Bool := decide ((l.length : Int) ≤ r.length) && samesE l (r.take l.length)
theorem pre_iff (l r : List Term) : pre l r = true ↔ l <+: r := by
  unfold pre
  rw [Bool.and_eq_true, decide_eq_true_eq, sames_iff, List.prefix_iff_eq_take]
  constructor
  · exact fun h => h.2
  · intro h
    refine ⟨?_, h⟩
    have := congrArg List.length h
    rw [List.length_take] at this
    omega
theorem preE_iff (l r : List Ended) : preE l r = true ↔ l <+: r := by
  unfold preE
  rw [Bool.and_eq_true, decide_eq_true_eq, samesE_iff, List.prefix_iff_eq_take]
  constructor
  · exact fun h => h.2
  · intro h
    refine ⟨?_, h⟩
    have := congrArg List.length h
    rw [List.length_take] at this
    omega
def within (a b : Seen) : Bool := decide (a.spent ≤ b.spent) && (decide (a.clock ≤ b.clock) && (pre a.out b.out && preE a.ended b.ended))
def sameS (a b : Seen) : Bool := decide (a.verdict = b.verdict) && (decide (a.names = b.names) && (within a b && within b a))
theorem within_iff (a b : Seen) : within a b = true ↔ a.spent ≤ b.spent ∧ a.clock ≤ b.clock ∧ a.out <+: b.out ∧ a.ended <+: b.ended := by
  unfold within
  simp only [Bool.and_eq_true, decide_eq_true_eq, pre_iff, preE_iff]
theorem within_refl (a : Seen) : within a a = true := (within_iff a a).2 ⟨Int.le_refl _, Int.le_refl _, List.prefix_refl _, List.prefix_refl _⟩
theorem pre_anti {α : Type} {l r : List α} (h : l <+: r) (k : r <+: l) : l = r := h.eq_of_length (Nat.le_antisymm h.length_le k.length_le)
theorem within_anti {a b : Seen} (h : within a b = true) (k : within b a = true) : a.spent = b.spent ∧ a.clock = b.clock ∧ a.out = b.out ∧ a.ended = b.ended := by
  rw [within_iff] at *
  exact ⟨Int.le_antisymm h.1 k.1, Int.le_antisymm h.2.1 k.2.1, pre_anti h.2.2.1 k.2.2.1, pre_anti h.2.2.2 k.2.2.2⟩
theorem sameS_iff (a b : Seen) : sameS a b = true ↔ a = b := by
  unfold sameS
  simp only [Bool.and_eq_true, decide_eq_true_eq]
  constructor
  · rintro ⟨h1, h2, h3, h4⟩
    obtain ⟨e1, e2, e3, e4⟩ := within_anti h3 h4
    cases a; cases b
    simp only at *
    rw [h1, h2, e1, e2, e3, e4]
  · rintro rfl; exact ⟨rfl, rfl, within_refl a, within_refl a⟩
end Go.Proofs.YtphnoaihojccbaaGreatDoor
