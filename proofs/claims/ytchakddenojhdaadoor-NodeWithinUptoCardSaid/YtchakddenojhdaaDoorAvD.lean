/- Pieces, lengths, structs put together, stores, new memory, appends: on abstract values; each is what the machine does. -/
import Derived.Test.YtchakddenojhdaaDoorAvC
set_option linter.unusedVariables false
set_option linter.unusedSimpArgs false
namespace Go.Av
open Go Go.RowKit

/-! ### pieces -/
def abnd (o : Option AV) (d : Nat) : Option Nat :=
  match o with
  | none => some d
  | some (.int _ i) => if 0 ≤ i then some i.toNat else none
  | _ => none
theorem run_sliceBound {P : Program} {K : Ctx} {w : World} {o : AV} {d n : Nat} (h : abnd (some o) d = some n) {v : Value} (hv : VR K o v) (y : Nat) (hy : n ≤ y) (code : BoundsCode) :
    (Instr.sliceBound v y code).run P w = .ok n w := by
  unfold abnd at h
  split at h
  · rename_i heq; cases heq
  · rename_i k i heq
    simp only [Option.some.injEq] at heq; subst heq
    rw [VR.int_iff] at hv; subst hv
    split at h
    · rename_i h0
      simp only [Option.some.injEq] at h; subst h
      have : 0 ≤ i ∧ i ≤ (y : Int) := by omega
      simp [Instr.sliceBound, asIntOf, this]
    · cases h
  · cases h
theorem run_sliceBounds {P : Program} {K : Ctx} {w : World} {lo hi : Option AV} {len cap l h : Nat} (hl : abnd lo 0 = some l) (hh : abnd hi len = some h) (hlh : l ≤ h) (hcap : h ≤ cap)
    {vlo vhi : Option Value} (hvl : ∀ a, lo = some a → ∃ v, vlo = some v ∧ VR K a v) (hvln : lo = none → vlo = none) (hvh : ∀ a, hi = some a → ∃ v, vhi = some v ∧ VR K a v) (hvhn : hi = none → vhi = none) (b : Bool) :
    (Instr.sliceBounds b len cap vlo vhi none).run P w = .ok (l, h, cap) w := by
  unfold Instr.sliceBounds
  cases hi with
  | none =>
    rw [hvhn rfl]
    simp only [abnd, Option.some.injEq] at hh; subst hh
    cases lo with
    | none =>
      rw [hvln rfl]
      simp only [abnd, Option.some.injEq] at hl; subst hl
      simp
    | some a =>
      obtain ⟨v, rfl, hv⟩ := hvl a rfl
      have := run_sliceBound (P := P) (w := w) hl hv len hlh .sliceB
      simp [this]
  | some c =>
    obtain ⟨u, rfl, hu⟩ := hvh c rfl
    have h1 := fun code => run_sliceBound (P := P) (w := w) hh hu cap hcap code
    cases lo with
    | none =>
      rw [hvln rfl]
      simp only [abnd, Option.some.injEq] at hl; subst hl
      simp [h1]
    | some a =>
      obtain ⟨v, rfl, hv⟩ := hvl a rfl
      have := run_sliceBound (P := P) (w := w) hl hv h hlh .sliceB
      simp [this, h1]

def pieceGh (g : Gh) (l h len : Nat) : Gh :=
  match g with
  | .none => .none
  | .full => if h = len then .full else .none
  | .own b => if l = 0 ∧ h = len then .own b else .none
open Classical in
noncomputable def aslice0 (P : Program) (t : TypeId) (x : AV) (lo hi : Option AV) : Option AV :=
  match x with
  | .str s => if sk P t = .str then
      match abnd lo 0, abnd hi s.length with
      | some l, some h => if l ≤ h ∧ h ≤ s.length then some (.str ((s.take h).drop l)) else none
      | _, _ => none
    else none
  | .nil => match el P t, abnd lo 0, abnd hi 0 with
    | some e, some l, some h => if l ≤ h ∧ h ≤ 0 ∧ (tk P e).isSome then some .nil else none
    | _, _, _ => none
  | .sl g xs sp => match el P t, abnd lo 0, abnd hi xs.length with
    | some e, some l, some h => match tk P e with
      | some (_, n) => if l ≤ h ∧ h ≤ xs.length + sp.length ∧ (l = 0 ∨ ∀ a, a ∈ xs ++ sp → (flat a).length = n) then
          some (.sl (pieceGh g l h xs.length) (((xs ++ sp).take h).drop l) ((xs ++ sp).drop h)) else none
      | none => none
    | _, _, _ => none
  | _ => none

theorem flatMap_drop {sz : Nat} (l : List AV) (h : ∀ e, e ∈ l → (flat e).length = sz) (k j : Nat) (hj : k * sz + j < (l.flatMap flat).length) (hj2 : j < ((l.drop k).flatMap flat).length) :
    ((l.drop k).flatMap flat)[j] = (l.flatMap flat)[k * sz + j] := by
  induction l generalizing k with
  | nil => simp at hj
  | cons x l ih =>
    have hx := h x (by simp)
    cases k with
    | zero => simp
    | succ k =>
      simp only [List.drop_succ_cons, List.flatMap_cons] at hj2 ⊢
      have e : (k + 1) * sz + j = (flat x).length + (k * sz + j) := by rw [hx, Nat.succ_mul]; omega
      have hlt : k * sz + j < (l.flatMap flat).length := by
        simp only [List.flatMap_cons, List.length_append] at hj; omega
      rw [ih (fun a ha => h a (by simp [ha])) k hlt hj2]
      have h3 : ((flat x) ++ l.flatMap flat)[(k + 1) * sz + j]? = (l.flatMap flat)[k * sz + j]? := by
        rw [e, List.getElem?_append_right (by omega)]; congr 1; omega
      have h4 := List.getElem?_eq_getElem hj
      simp only [List.flatMap_cons] at h4
      rw [h3, List.getElem?_eq_getElem hlt] at h4
      exact Option.some.inj h4

theorem aslice0_sound {P : Program} {K : Ctx} {w : World} {t : TypeId} {x r : AV} {lo hi : Option AV} (h : aslice0 P t x lo hi = some r) {v : Value} (hv : VR K x v)
    {vlo vhi : Option Value} (hvl : ∀ a, lo = some a → ∃ v, vlo = some v ∧ VR K a v) (hvln : lo = none → vlo = none) (hvh : ∀ a, hi = some a → ∃ v, vhi = some v ∧ VR K a v) (hvhn : hi = none → vhi = none) :
    ∃ z, (Instr.sliceAt t v vlo vhi none).run P w = .ok z w ∧ VR K r z := by
  unfold aslice0 at h
  split at h
  · rename_i s
    rw [VR.str_iff] at hv; subst hv
    split at h
    · rename_i hs
      have hu := sk_str hs
      split at h
      · rename_i l hh hl hhh
        split at h
        · rename_i hc
          simp only [Option.some.injEq] at h; subst h
          have hb := run_sliceBounds (P := P) (w := w) (len := s.length) (cap := s.length) hl hhh hc.1 hc.2 hvl hvln hvh hvhn false
          refine ⟨.string ((ByteArray.mk (Array.mk s)).extract l hh), ?_, ?_⟩
          · have hsz : (ByteArray.mk (Array.mk s)).size = s.length := rfl
            unfold Instr.sliceAt Instr.slice
            simp [run_underlying hu, hsz, hb]
          · have : (ByteArray.mk (Array.mk s)).extract l hh = ⟨⟨(s.take hh).drop l⟩⟩ := by
              apply ByteArray.ext
              rw [ByteArray.data_extract]
              apply Array.ext'
              simp [List.drop_take]
            rw [this]; exact .str _
        · cases h
      · cases h
    · cases h
  · rw [VR.nil_iff] at hv; subst hv
    split at h
    · rename_i e l hh he hl hhh
      split at h
      · rename_i hc
        simp only [Option.some.injEq] at h; subst h
        have hh0 : hh = 0 := by omega
        have hl0 : l = 0 := by omega
        subst hh0 hl0
        obtain ⟨x, hx⟩ := Option.isSome_iff_exists.1 hc.2.2
        obtain ⟨_, hsz, _⟩ := run_tk (b := x.1) (n := x.2) hx w
        have hb := run_sliceBounds (P := P) (w := w) (len := 0) (cap := 0) hl hhh (Nat.le_refl _) (Nat.le_refl _) hvl hvln hvh hvhn true
        refine ⟨.slice none 0 0, ?_, .nil⟩
        unfold Instr.sliceAt Instr.slice
        simp [run_underlying (run_el he), hb, hsz]
      · cases h
    · cases h
  · rename_i g xs sp
    split at h
    · rename_i e l hh he hl hhh
      split at h
      · rename_i ag n hn
        split at h
        · rename_i hc
          simp only [Option.some.injEq] at h; subst h
          obtain ⟨hc1, hc2, hc3⟩ := hc
          obtain ⟨_, hsz, _⟩ := run_tk hn w
          cases hv with
          | sl0 a =>
            have hh0 : hh = 0 := by simpa using hc2
            have hl0 : l = 0 := by omega
            subst hh0 hl0
            have hb := run_sliceBounds (P := P) (w := w) (len := 0) (cap := 0) hl hhh (Nat.le_refl _) (Nat.le_refl _) hvl hvln hvh hvhn true
            refine ⟨.slice a 0 0, ?_, .sl0 a⟩
            unfold Instr.sliceAt Instr.slice
            simp [run_underlying (run_el he), hb, hsz]
          | sl _ _ _ sz b off cap f hsze hcap hml himm hvv hg =>
            have hb := run_sliceBounds (P := P) (w := w) (len := xs.length) (cap := cap) hl hhh hc1 (by omega) hvl hvln hvh hvhn true
            have hlen := flatMap_length (sz := sz) (xs ++ sp) (fun e he => (hsze e he).1)
            have hxl : (((xs ++ sp).take hh).drop l).length = hh - l := by simp; omega
            -- the new address
            have hadr : ∃ off', (if cap = l then (some (⟨b, off, none⟩ : Addr)) else (some (⟨b, off, none⟩ : Addr)).map (·.add (l * n))) = some ⟨b, off', none⟩ ∧
                (l = 0 → off' = off) ∧ ((((xs ++ sp).take hh).drop l ++ (xs ++ sp).drop hh).flatMap flat ≠ [] → off' = off + l * sz) := by
              by_cases hcl : cap = l
              · refine ⟨off, by rw [if_pos hcl], fun _ => rfl, fun hne => ?_⟩
                have : ((xs ++ sp).take hh).drop l ++ (xs ++ sp).drop hh = (xs ++ sp).drop l := by
                  rw [← List.drop_append_of_le_length (by simp; omega), List.take_append_drop]
                rw [this, List.drop_eq_nil_of_le (by simp; omega)] at hne
                exact absurd rfl hne
              · refine ⟨off + l * n, by rw [if_neg hcl]; simp [Addr.add_lit], fun hl0 => by rw [hl0]; simp, fun hne => ?_⟩
                rcases hc3 with h0 | hall
                · rw [h0]; simp
                · have hx : ∃ a, a ∈ xs ++ sp := by
                    cases hxs : xs ++ sp with
                    | nil => rw [hxs] at hne; simp at hne
                    | cons a _ => exact ⟨a, by simp⟩
                  obtain ⟨a, ha⟩ := hx
                  rw [← hall a ha, ← (hsze a ha).1]
            obtain ⟨off', hoff, hoff0, hoff1⟩ := hadr
            refine ⟨.slice (some ⟨b, off', none⟩) (hh - l) (cap - l), ?_, ?_⟩
            · unfold Instr.sliceAt Instr.slice
              simp [run_underlying (run_el he), hb, hsz]
              exact hoff
            · have hall : ((xs ++ sp).take hh).drop l ++ (xs ++ sp).drop hh = (xs ++ sp).drop l := by
                rw [← List.drop_append_of_le_length (by simp; omega), List.take_append_drop]
              have hmem : ∀ a, a ∈ ((xs ++ sp).take hh).drop l ++ (xs ++ sp).drop hh → a ∈ xs ++ sp := fun a ha => by
                rw [hall] at ha; exact List.mem_of_mem_drop ha
              have hlen2 := flatMap_length (sz := sz) ((xs ++ sp).drop l) (fun e he => (hsze e (List.mem_of_mem_drop he)).1)
              have key : ∀ j, j < ((xs ++ sp).drop l).length * sz → l * sz + j < ((xs ++ sp).flatMap flat).length := by
                intro j hj
                rw [hlen]
                simp only [List.length_drop] at hj
                have h5 : (xs ++ sp).length * sz = ((xs ++ sp).length - l) * sz + l * sz := by
                  rw [← Nat.add_mul]; congr 1; simp; omega
                omega
              have := VR.sl (K := K) (pieceGh g l hh xs.length) (((xs ++ sp).take hh).drop l) ((xs ++ sp).drop hh) sz b off' (cap - l) (fun j => f (l * sz + j))
                (fun e he => hsze e (hmem e he)) (by simp; omega) (by omega)
                (fun j hj => by
                  have hne : (((xs ++ sp).take hh).drop l ++ (xs ++ sp).drop hh).flatMap flat ≠ [] := by intro hh'; rw [hh'] at hj; simp at hj
                  rw [hoff1 hne, Nat.add_assoc]
                  rw [hall, hlen2] at hj
                  exact himm _ (key j hj))
                (fun j hj => by
                  have hj' := hj
                  rw [hall, hlen2] at hj'
                  have h6 := hvv _ (key j hj')
                  have hj3 : j < (((xs ++ sp).drop l).flatMap flat).length := by rw [hlen2]; exact hj'
                  have h7 := flatMap_drop (sz := sz) (xs ++ sp) (fun e he => (hsze e he).1) l j (key j hj') hj3
                  rw [← h7] at h6
                  have h8 : ((((xs ++ sp).take hh).drop l ++ (xs ++ sp).drop hh).flatMap flat)[j] = (((xs ++ sp).drop l).flatMap flat)[j] := by
                    congr 1; rw [hall]
                  rw [h8]; exact h6)
                (by
                  rw [hxl]
                  cases g with
                  | none => trivial
                  | full =>
                    simp only [pieceGh]
                    split
                    · rename_i hx; simp only [Gh.ok] at hg ⊢; omega
                    · trivial
                  | own b' =>
                    simp only [pieceGh]
                    split
                    · rename_i hx
                      obtain ⟨g1, g2, E, s, g3⟩ := hg
                      obtain ⟨rfl, _⟩ := hx
                      exact ⟨g1, (hoff0 rfl).trans g2, E, s, by simpa using g3⟩
                    · trivial)
              rw [hxl] at this
              exact this
        · cases h
      · cases h
    · cases h
  · cases h

theorem VR.spareless {K : Ctx} {g : Gh} {xs sp : List AV} {v : Value} (h : VR K (.sl g xs sp) v) : VR K (.sl g xs []) v := by
  cases h with
  | sl0 a => exact .sl0 a
  | sl _ _ _ sz b off cap f hsz hcap hml himm hvv hg =>
    have hle : (xs.flatMap flat).length ≤ ((xs ++ sp).flatMap flat).length := by simp
    have := VR.sl (K := K) g xs [] sz b off cap f (fun e he => hsz e (List.mem_append_left _ (by simpa using he))) (by simp; omega) hml
      (fun j hj => himm j (by simp only [List.append_nil] at hj; omega))
      (fun j hj => by
        simp only [List.append_nil] at hj ⊢
        have h1 := hvv j (by omega)
        have : ((xs ++ sp).flatMap flat)[j]'(by omega) = (xs.flatMap flat)[j] := by
          have h2 : ((xs ++ sp).flatMap flat)[j]? = (xs.flatMap flat)[j]? := by
            rw [List.flatMap_append, List.getElem?_append_left hj]
          rw [List.getElem?_eq_getElem (by omega), List.getElem?_eq_getElem hj] at h2
          exact Option.some.inj h2
        rw [this] at h1; exact h1) hg
    exact this
/-- of a slice of which no spare room is known, none is known of its pieces -/
def slim (x r : AV) : AV := match x, r with
  | .sl .none _ [], .sl g xs _ => .sl g xs []
  | _, r => r
theorem VR.thinned {K : Ctx} {x r : AV} {v : Value} (h : VR K r v) : VR K (slim x r) v := by
  unfold slim
  split
  · exact h.spareless
  · exact h
noncomputable def aslice (P : Program) (t : TypeId) (x : AV) (lo hi : Option AV) : Option AV := (aslice0 P t x lo hi).map (slim x)
theorem aslice_sound {P : Program} {K : Ctx} {w : World} {t : TypeId} {x r : AV} {lo hi : Option AV} (h : aslice P t x lo hi = some r) {v : Value} (hv : VR K x v)
    {vlo vhi : Option Value} (hvl : ∀ a, lo = some a → ∃ v, vlo = some v ∧ VR K a v) (hvln : lo = none → vlo = none) (hvh : ∀ a, hi = some a → ∃ v, vhi = some v ∧ VR K a v) (hvhn : hi = none → vhi = none) :
    ∃ z, (Instr.sliceAt t v vlo vhi none).run P w = .ok z w ∧ VR K r z := by
  obtain ⟨r0, h0, rfl⟩ := Option.map_eq_some_iff.1 h
  obtain ⟨z, h1, h2⟩ := aslice0_sound h0 hv hvl hvln hvh hvhn
  exact ⟨z, h1, h2.thinned⟩

/-! ### lengths, the greatest, the least -/
def ablt (P : Program) (b : Builtin) (ts : Array TypeId) (args : List AV) : Option AV :=
  match b, ts[0]?, args with
  | .len, some t, [.str s] => if sk P t = .str then some (.int .i64 s.length) else none
  | .len, some t, [.nil] => if (el P t).isSome then some (.int .i64 0) else none
  | .len, some t, [.sl _ xs _] => if (el P t).isSome then some (.int .i64 xs.length) else none
  | .max, _, [.int k a, .int _ b] => some (.int k (if b > a then b else a))
  | .min, _, [.int k a, .int _ b] => some (.int k (if b < a then b else a))
  | .max, _, [.int k a, .int _ b, .int _ c] => some (.int k (if c > (if b > a then b else a) then c else (if b > a then b else a)))
  | .min, _, [.int k a, .int _ b, .int _ c] => some (.int k (if c < (if b < a then b else a) then c else (if b < a then b else a)))
  | _, _, _ => none

def VRl (K : Ctx) : List AV → List Value → Prop
  | [], [] => True
  | a :: l, v :: r => VR K a v ∧ VRl K l r
  | _, _ => False
theorem VRl.length {K : Ctx} : ∀ {l : List AV} {r : List Value}, VRl K l r → l.length = r.length
  | [], [], _ => rfl
  | a :: l, v :: r, h => by simp [VRl.length h.2]
  | [], _ :: _, h => h.elim
  | _ :: _, [], h => h.elim
theorem VRl.get {K : Ctx} : ∀ {l : List AV} {r : List Value}, VRl K l r → ∀ (j : Nat) (h : j < l.length), VR K l[j] (r.getD j Go.undef)
  | a :: l, v :: r, h, 0, _ => h.1
  | a :: l, v :: r, h, j + 1, hj => by simpa using VRl.get h.2 j (by simpa using hj)
  | [], [], _, j, h => by cases h
  | _ :: _, [], h, _, _ => h.elim
theorem VRl.map {K : Ctx} {G : Nat → AV} {σ : AS} {w : World} {e : Env} {a : Act} (h : ER K e a) (hr : Rel G K σ w) : ∀ (l : List Operand), VRl K (l.map (ev G e)) (l.map a.eval)
  | [] => trivial
  | x :: l => ⟨h.eval hr x, VRl.map h hr l⟩
theorem VRl.mono {K K' : Ctx} (h : K.le K') : ∀ {l : List AV} {r : List Value}, VRl K l r → VRl K' l r
  | [], [], _ => trivial
  | a :: l, v :: r, k => ⟨k.1.mono h, VRl.mono h k.2⟩
  | [], _ :: _, k => k.elim
  | _ :: _, [], k => k.elim
theorem VRl.append {K : Ctx} : ∀ {l l' : List AV} {r r' : List Value}, VRl K l r → VRl K l' r' → VRl K (l ++ l') (r ++ r')
  | [], _, [], _, _, h => h
  | a :: l, _, v :: r, _, k, h => ⟨k.1, VRl.append k.2 h⟩
  | [], _, _ :: _, _, k, _ => k.elim
  | _ :: _, _, [], _, k, _ => k.elim
theorem VRl.of {K : Ctx} : ∀ {l : List AV} {r : List Value}, l.length = r.length → (∀ (j : Nat) (h : j < l.length), VR K l[j] (r.getD j Go.undef)) → VRl K l r
  | [], [], _, _ => trivial
  | a :: l, v :: r, h, k => ⟨k 0 (by simp), VRl.of (by simpa using h) (fun j hj => k (j + 1) (by simpa using hj))⟩
  | [], _ :: _, h, _ => by cases h
  | _ :: _, [], h, _ => by cases h

theorem ablt_sound {P : Program} {K : Ctx} {w : World} {b : Builtin} {ts : Array TypeId} {ty : TypeId} {cn : Array Bool} {args : List AV} {r : AV} (h : ablt P b ts args = some r) {vs : List Value} (hv : VRl K args vs) :
    ∃ z, (builtin b ts ty cn vs.toArray).run P w = .ok (.value z) w ∧ VR K r z := by
  unfold ablt at h
  split at h
  · rename_i t s ht
    split at h
    · rename_i hs
      simp only [Option.some.injEq] at h; subst h
      match vs, hv with
      | [v], ⟨h1, _⟩ =>
        rw [VR.str_iff] at h1; subst h1
        refine ⟨.int .i64 s.length, ?_, .int _ _⟩
        have hsz : (ByteArray.mk (Array.mk s)).size = s.length := rfl
        simp [builtin, Builtin.len_, ht, run_underlying (sk_str hs), goInt, hsz]
    · cases h
  · rename_i t ht
    split at h
    · rename_i hs
      obtain ⟨e, he⟩ := Option.isSome_iff_exists.1 hs
      simp only [Option.some.injEq] at h; subst h
      match vs, hv with
      | [v], ⟨h1, _⟩ =>
        rw [VR.nil_iff] at h1; subst h1
        exact ⟨.int .i64 0, by simp [builtin, Builtin.len_, ht, run_underlying (run_el he), goInt], .int _ _⟩
    · cases h
  · rename_i t g xs sp ht
    split at h
    · rename_i hs
      obtain ⟨e, he⟩ := Option.isSome_iff_exists.1 hs
      simp only [Option.some.injEq] at h; subst h
      match vs, hv with
      | [v], ⟨h1, _⟩ =>
        cases h1
        case sl0 => exact ⟨.int .i64 0, by simp [builtin, Builtin.len_, ht, run_underlying (run_el he), goInt], .int _ _⟩
        exact ⟨.int .i64 xs.length, by simp [builtin, Builtin.len_, ht, run_underlying (run_el he), goInt], .int _ _⟩
    · cases h
  all_goals first
    | (rename_i k a k' b
       simp only [Option.some.injEq] at h; subst h
       match vs, hv with
       | [v, u], ⟨h1, h2, _⟩ =>
         rw [VR.int_iff] at h1 h2; subst h1 h2
         first
         | exact ⟨_, by simp [builtin, Builtin.max_, Builtin.max2]; rfl, .int _ _⟩
         | exact ⟨_, by simp [builtin, Builtin.min_, Builtin.min2]; rfl, .int _ _⟩)
    | (rename_i k a k' b k'' c
       simp only [Option.some.injEq] at h; subst h
       match vs, hv with
       | [v, u, x], ⟨h1, h2, h3, _⟩ =>
         rw [VR.int_iff] at h1 h2 h3; subst h1 h2 h3
         first
         | exact ⟨_, by simp [builtin, Builtin.max_, Builtin.max2]; rfl, .int _ _⟩
         | exact ⟨_, by simp [builtin, Builtin.min_, Builtin.min2]; rfl, .int _ _⟩)
    | cases h
end Go.Av
