/- What may be forgotten of an abstract value: whose its spare room is, what lies in it, whether it is nil. -/
import Derived.Test.YtchakddenojhdaaDoorAvL
set_option linter.unusedVariables false
set_option linter.unusedSimpArgs false
namespace Go.Av
open Go Go.RowKit

/-- whatever is seen as the first may be seen as the second -/
def Le (a b : AV) : Prop := ∀ (K : Ctx) (v : Value), VR K a v → VR K b v
/-- item by item -/
inductive Les : List AV → List AV → Prop
  | nil : Les [] []
  | cons {a b : AV} {l r : List AV} (h : Le a b) (t : Les l r) : Les (a :: l) (b :: r)
theorem Le.refl (a : AV) : Le a a := fun _ _ h => h
theorem Le.trans {a b c : AV} (h : Le a b) (k : Le b c) : Le a c := fun K v x => k K v (h K v x)
theorem Les.refl : ∀ (l : List AV), Les l l
  | [] => .nil
  | a :: l => .cons (Le.refl a) (Les.refl l)
theorem Les.length {l r : List AV} (h : Les l r) : l.length = r.length := by
  induction h with
  | nil => rfl
  | cons _ _ ih => simp [ih]
theorem Les.get {l r : List AV} (h : Les l r) : ∀ (j : Nat) (hj : j < l.length) (hj' : j < r.length), Le l[j] r[j] := by
  induction h with
  | nil => intro j hj; cases hj
  | cons h _ ih =>
    intro j hj hj'
    cases j with
    | zero => exact h
    | succ j => exact ih j (by simpa using hj) (by simpa using hj')
theorem Les.append {l r l' r' : List AV} (h : Les l r) (k : Les l' r') : Les (l ++ l') (r ++ r') := by
  induction h with
  | nil => exact k
  | cons h _ ih => exact .cons h ih
theorem VRl.le {K : Ctx} : ∀ {l r : List AV} {vs : List Value}, Les l r → VRl K l vs → VRl K r vs
  | [], _, vs, .nil, h => h
  | a :: l, _, [], .cons _ _, h => h.elim
  | a :: l, _, v :: vs, .cons h t, ⟨h1, h2⟩ => ⟨h K v h1, VRl.le t h2⟩

theorem Tri.weaken {P : Program} {G : Nat → AV} {f : FuncId} {args args' : List AV} {σ : AS} {Q : AV → AS → Prop} (hl : Les args args') (h : Tri P G f args' σ Q) : Tri P G f args σ Q :=
  ⟨h.1, fun K w vals hr hv => h.2 K w vals hr (hv.le hl)⟩
/-- what is told may be seen as less -/
theorem Tri.tell {P : Program} {G : Nat → AV} {f : FuncId} {args : List AV} {σ : AS} {Q Q' : AV → AS → Prop} (h : Tri P G f args σ Q) (hq : ∀ r s, Q r s → ∃ r', Le r r' ∧ Q' r' s) : Tri P G f args σ Q' :=
  ⟨h.1, fun K w vals hr hv => (h.2 K w vals hr hv).mono fun e w' ⟨v, r, σ', K', he, hQ, h1, h2⟩ => by
    obtain ⟨r', hle, hq'⟩ := hq r σ' hQ
    exact ⟨v, r', σ', K', he, hq', hle K' v h1, h2⟩⟩

theorem Le.nil : Le .nil (.sl .none [] []) := fun K v h => by rw [VR.nil_iff] at h; subst h; exact .sl0 none
theorem Le.agg {cs ds : List AV} (h : Les cs ds) (h1 : ∀ d, d ∈ ds → one d = true) : Le (.agg cs) (.agg ds) := fun K v hv => by
  cases hv with
  | agg _ vs hl g1 hvv =>
    have hlen := h.length
    exact .agg ds vs (by omega) h1 fun j hj => h.get j (by omega) hj K _ (hvv j (by omega))
theorem Le.tup {cs ds : List AV} (h : Les cs ds) : Le (.tup cs) (.tup ds) := fun K v hv => by
  cases hv with
  | tup _ vs hl hvv =>
    have hlen := h.length
    exact .tup ds vs (by omega) fun j hj => h.get j (by omega) hj K _ (hvv j (by omega))

/-- items that are forgotten alike: as many cells, each less known -/
structure LeE (a b : AV) : Prop where
  cells : Les (flat a) (flat b)
  isv : isv b = true
  one : ∀ c, c ∈ flat b → one c = true
inductive LeEs : List AV → List AV → Prop
  | nil : LeEs [] []
  | cons {a b : AV} {l r : List AV} (h : LeE a b) (t : LeEs l r) : LeEs (a :: l) (b :: r)
theorem LeEs.length {l r : List AV} (h : LeEs l r) : l.length = r.length := by
  induction h with
  | nil => rfl
  | cons _ _ ih => simp [ih]
theorem LeEs.flat {l r : List AV} (h : LeEs l r) : Les (l.flatMap flat) (r.flatMap flat) := by
  induction h with
  | nil => exact .nil
  | cons h _ ih => rw [List.flatMap_cons, List.flatMap_cons]; exact h.cells.append ih
theorem LeEs.ok {l r : List AV} (h : LeEs l r) {n : Nat} (hn : ∀ a, a ∈ l → (Av.flat a).length = n) : ∀ b, b ∈ r → (Av.flat b).length = n ∧ Av.isv b = true ∧ ∀ c, c ∈ Av.flat b → Av.one c = true := by
  induction h with
  | nil => intro b hb; cases hb
  | cons h _ ih =>
    intro b hb
    rcases List.mem_cons.1 hb with rfl | hb
    · exact ⟨by rw [← h.cells.length]; exact hn _ (by simp), h.isv, h.one⟩
    · exact ih (fun a ha => hn a (by simp [ha])) b hb

/-- a slice: its spare room let go, its items less known -/
theorem Le.sl {g : Gh} {xs ys sp : List AV} (h : LeEs xs ys) : Le (.sl g xs sp) (.sl .none ys []) := fun K v hv => by
  have hlen := h.length
  cases hv with
  | sl0 a => cases h; exact .sl0 a
  | sl _ _ _ sz b off cap f hsz hcap hml himm hvv hg =>
    have hle : (xs.flatMap Av.flat).length ≤ ((xs ++ sp).flatMap Av.flat).length := by simp
    have hf := h.flat
    have hfl := hf.length
    have := VR.sl (K := K) .none ys [] sz b off cap f (fun e he => h.ok (fun a ha => (hsz a (List.mem_append_left _ ha)).1) e (by simpa using he)) (by simp; omega) hml
      (fun j hj => himm j (by simp only [List.append_nil] at hj; omega))
      (fun j hj => by
        simp only [List.append_nil] at hj ⊢
        have h1 := hvv j (by omega)
        have e1 : ((xs ++ sp).flatMap Av.flat)[j]'(by omega) = (xs.flatMap Av.flat)[j]'(by omega) := by
          simp only [List.flatMap_append]; rw [List.getElem_append_left (by omega)]
        rw [e1] at h1
        exact hf.get j (by omega) hj K _ h1) trivial
    rw [hlen]
    exact this
theorem LeE.of {a b : AV} (h : Le a b) (h0 : flat a = [a]) (h1 : flat b = [b]) (hb : Av.one b = true) : LeE a b :=
  ⟨by rw [h0, h1]; exact .cons h .nil, by cases b <;> first | exact hb | rfl, fun c hc => by rw [h1] at hc; simp at hc; subst hc; exact hb⟩
theorem LeE.agg {cs ds : List AV} (h : Les cs ds) (h1 : ∀ d, d ∈ ds → Av.one d = true) : LeE (.agg cs) (.agg ds) := ⟨h, rfl, h1⟩
theorem LeEs.map {α : Type} {f g : α → AV} : ∀ (l : List α), (∀ x, x ∈ l → LeE (f x) (g x)) → LeEs (l.map f) (l.map g)
  | [], _ => .nil
  | x :: l, h => .cons (h x (by simp)) (LeEs.map l fun y hy => h y (by simp [hy]))
end Go.Av
