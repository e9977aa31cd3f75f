/- What is read of the arguments, as abstract values. -/
import Derived.Test.YtldmniappliepaaGreatDoorY09
import Derived.ProofKit
import Derived.OpenShut
import Derived.Deep.DeepHandedRow
import Derived.Below
import Derived.ChangeSame
import Derived.DataShut
import Derived.HandedShaped
set_option linter.unusedVariables false
set_option linter.unusedSimpArgs false
namespace Go.Av
open Go Go.RowKit
variable {H : Type}
mutual
def avW : DataW H → AV
  | .lit (.bool b) => .bool b
  | .lit (.int k n) => .int k n
  | .lit (.string s) => .str s
  | .lit _ => .undef
  | .nil => .sl .none [] []
  | .slice elems _ => .sl .none (avWs elems) []
  | .agg parts => .agg (flatsW parts)
  | _ => .undef
def avWs : List (DataW H) → List AV
  | [] => []
  | d :: r => avW d :: avWs r
def flatsW : List (DataW H) → List AV
  | [] => []
  | d :: r => flat (avW d) ++ flatsW r
end
theorem avWs_map (l : List (DataW H)) : avWs l = l.map avW := by
  induction l with
  | nil => simp [avWs]
  | cons d r ih => simp [avWs, ih]
def tiles (P : Program) : Nat → List Field → Nat → Bool
  | k, [], n => decide (k = n)
  | k, f :: fs, n => decide (f.offset = k) && tiles P (k + P.cellsOf f.type) fs n
def closedT (P : Program) (S : List TypeId) : Bool :=
  S.all fun t => match P.underlying t with
    | some .bool | some (.int _) | some .string => true
    | some (.slice e) => S.contains e && decide (0 < P.cellsOf e)
    | some (.struct fs) => (fs.toList.all fun f => S.contains f.type) && tiles P 0 fs.toList (P.cellsOf t)
    | some (.array n e) => S.contains e && decide (n * P.cellsOf e = P.cellsOf t)
    | _ => false
structure CL (K : Ctx) (cs : List AV) (vs : List Value) : Prop where
  size : vs.length = cs.length
  one : ∀ c, c ∈ cs → one c = true
  at_ : ∀ j (h : j < cs.length), VR K cs[j] (vs.getD j Go.undef)
theorem CL.one1 {K : Ctx} {a : AV} {v : Value} (h : VR K a v) (h1 : Av.one a = true) : CL K [a] [v] :=
  ⟨rfl, fun c hc => by simp at hc; subst hc; exact h1, fun j hj => by
    have : j = 0 := by simpa using hj
    subst this; exact h⟩
theorem CL.append {K : Ctx} {a b : List AV} {v u : List Value} (h : CL K a v) (k : CL K b u) : CL K (a ++ b) (v ++ u) := by
  have h1 := h.size
  refine ⟨by simp [h.size, k.size], fun c hc => ?_, fun j hj => ?_⟩
  · rcases List.mem_append.1 hc with hc | hc
    · exact h.one c hc
    · exact k.one c hc
  · by_cases hja : j < a.length
    · rw [List.getElem_append_left hja]
      have := h.at_ j hja
      simpa [List.getElem?_append_left (show j < v.length by omega)] using this
    · rw [List.getElem_append_right (by omega)]
      have := k.at_ (j - a.length) (by simp at hj; omega)
      simpa [List.getElem?_append_right (show v.length ≤ j by omega), h1] using this
theorem CL.nil {K : Ctx} : CL K [] [] := ⟨rfl, (fun c hc => by cases hc), (fun j hj => by cases hj)⟩
theorem CL.flatMap {α : Type} {K : Ctx} {f : α → List AV} {g : α → List Value} : ∀ (l : List α), (∀ x, x ∈ l → CL K (f x) (g x)) → CL K (l.flatMap f) (l.flatMap g)
  | [], _ => CL.nil
  | x :: l, h => by
    rw [List.flatMap_cons, List.flatMap_cons]
    exact (h x (by simp)).append (CL.flatMap l fun y hy => h y (by simp [hy]))
def tyW (P : Program) : Nat → TypeId → DataW H → Prop
  | 0, _, _ => False
  | n + 1, t, d => match P.underlying t with
    | some .bool => ∃ b, d = .lit (.bool b)
    | some (.int k) => ∃ m, d = .lit (.int k m) ∧ (Lit.int k m).wf = true
    | some .string => ∃ s, d = .lit (.string s) ∧ s.length ≤ maxLen
    | some (.slice e) => d = .nil ∨ ∃ xs sp, d = .slice xs sp ∧ ∀ x, x ∈ xs → tyW P n e x
    | some (.struct fs) => ∃ ds, d = .agg ds ∧ ds.length = fs.size ∧ ∀ (i : Nat) (f : Field) x, fs[i]? = some f → ds[i]? = some x → tyW P n f.type x
    | some (.array m e) => ∃ ds, d = .agg ds ∧ ds.length = m ∧ ∀ x, x ∈ ds → tyW P n e x
    | _ => False
section read
variable {enc : TypeId × Value → H} {P : Program} {w : World} {held : Bool} {K : Ctx} {S : List TypeId}
theorem fields_read {r : TypeId → List Value → Option (DataW H × List MemPlace)} {total : Nat} {cs : List Value}
    (hr : ∀ t cs x, t ∈ S → r t cs = some x → CL K (flat (avW x.1)) cs) : ∀ (fs : List Field) (xs : List (DataW H × List MemPlace)) (k : Nat), (∀ f, f ∈ fs → f.type ∈ S) → tiles P k fs total = true → xs.length = fs.length →
    (∀ (i : Nat) (f : Field), fs[i]? = some f → r f.type ((cs.drop f.offset).take (P.cellsOf f.type)) = xs[i]?) → cs.length = total → CL K (flatsW (xs.map (·.1))) (cs.drop k)
  | [], [], k, _, ht, _, _, hl => by
    simp only [tiles, decide_eq_true_eq] at ht
    rw [List.drop_eq_nil_of_le (by omega)]
    exact CL.nil
  | f :: fs, x :: xs, k, hS, ht, hlen, hx, hl => by
    simp only [tiles, Bool.and_eq_true, decide_eq_true_eq] at ht
    have h0 := hx 0 f rfl
    simp only [List.getElem?_cons_zero, ht.1] at h0
    have h1 := hr _ _ _ (hS f (by simp)) h0
    have h2 := fields_read hr fs xs (k + P.cellsOf f.type) (fun g hg => hS g (by simp [hg])) ht.2 (by simpa using hlen) (fun i g hg => by have := hx (i + 1) g (by simpa using hg); simpa using this) hl
    have e : cs.drop k = (cs.drop k).take (P.cellsOf f.type) ++ cs.drop (k + P.cellsOf f.type) := by
      rw [← List.drop_drop, List.take_append_drop]
    rw [e]
    simp only [List.map_cons, flatsW]
    exact h1.append h2
  | [], _ :: _, _, _, _, h, _, _ => by cases h
  | _ :: _, [], _, _, _, h, _, _ => by cases h
theorem items_read {r : List Value → Option (DataW H × List MemPlace)} {n : Nat} {cs : List Value}
    (hr : ∀ cs x, r cs = some x → CL K (flat (avW x.1)) cs) : ∀ (xs : List (DataW H × List MemPlace)) (k : Nat),
    (∀ i, i < xs.length → r ((cs.drop ((k + i) * n)).take n) = xs[i]?) → cs.length = (k + xs.length) * n → CL K (flatsW (xs.map (·.1))) (cs.drop (k * n))
  | [], k, _, hl => by
    rw [List.drop_eq_nil_of_le (by simp only [List.length_nil, Nat.add_zero] at hl; omega)]
    exact CL.nil
  | x :: xs, k, hx, hl => by
    have h0 := hx 0 (by simp)
    simp only [List.getElem?_cons_zero, Nat.add_zero] at h0
    have h1 := hr _ _ h0
    have h2 := items_read hr xs (k + 1) (fun i hi => by have := hx (i + 1) (by simpa using hi); simpa [Nat.add_assoc, Nat.add_comm 1 i] using this) (by rw [hl, List.length_cons]; congr 1; omega)
    have e : cs.drop (k * n) = (cs.drop (k * n)).take n ++ cs.drop ((k + 1) * n) := by
      rw [Nat.succ_mul, ← List.drop_drop, List.take_append_drop]
    rw [e]
    simp only [List.map_cons, flatsW]
    exact h1.append h2
theorem read_all (hS : closedT P S = true) (hK : ∀ b o v, w.cell? ⟨b, o, none⟩ = some v → K.imm b o = some v) : ∀ (fuel : Nat) (t : TypeId) (cs : List Value) (x : DataW H × List MemPlace), t ∈ S →
    DataW.trod enc P w 0 (fun _ => true) held fuel t cs = some x → tyW P fuel t x.1 ∧ CL K (flat (avW x.1)) cs ∧ isv (avW x.1) = true := by
  intro fuel
  induction fuel with
  | zero => intro t cs x _ h; simp [DataW.trod] at h
  | succ n ih =>
    intro t cs x htS h
    have hc := List.all_eq_true.1 hS t htS
    unfold tyW
    split at hc
    · rename_i ht
      obtain ⟨b, rfl, rfl⟩ := DataW.trod_bool ht h
      simp only [avW]
      exact ⟨⟨b, rfl⟩, CL.one1 (.bool b) rfl, rfl⟩
    · rename_i k ht
      obtain ⟨m, rfl, rfl, hw⟩ := DataW.trod_int ht h
      simp only [avW]
      exact ⟨⟨m, rfl, hw⟩, CL.one1 (.int k m) rfl, rfl⟩
    · rename_i ht
      obtain ⟨s, rfl, rfl, hw⟩ := DataW.trod_string ht h
      simp only [avW]
      exact ⟨⟨_, rfl, by simpa using hw⟩, CL.one1 (.str s.data.toList) rfl, rfl⟩
    · rename_i e ht
      simp only [Bool.and_eq_true, decide_eq_true_eq] at hc
      have heS : e ∈ S := by simpa using hc.1
      rcases DataW.trod_slice ht h with ⟨rfl, rfl⟩ | ⟨a, len, cap, elems, rest, m, hm, rfl, rfl, _, hlc, hml, hlen, hel, hsp, _⟩
      · exact ⟨.inl rfl, by simp only [avW]; exact CL.one1 (.sl0 none) rfl, by simp only [avW]; rfl⟩
      · have hmn : m = n := by omega
        subst hmn
        have hel2 : ∀ i (hi : i < elems.length), ∃ cs, w.cells? 0 (a.add (i * P.cellsOf e)) (P.cellsOf e) = some cs ∧ DataW.trod enc P w 0 (fun _ => true) held m e cs = some elems[i] := fun i hi => by
          have h1 := hel i (by omega)
          rw [List.getElem?_eq_getElem hi, Option.bind_eq_some_iff] at h1
          exact h1
        refine ⟨.inr ⟨_, _, rfl, fun d hd => ?_⟩, ?_, rfl⟩
        · obtain ⟨y, hy, rfl⟩ := List.mem_map.1 hd
          obtain ⟨i, hi, rfl⟩ := List.getElem_of_mem hy
          obtain ⟨cs, _, h2⟩ := hel2 i hi
          exact (ih e cs _ heS h2).1
        · simp only [avW]
          refine CL.one1 ?_ rfl
          rw [avWs_map, List.map_map]
          by_cases hcap : cap = 0
          · have : elems = [] := List.eq_nil_of_length_eq_zero (by omega)
            subst this
            have hl0 : len = 0 := by omega
            subst hcap hl0
            exact .sl0 (some a)
          · obtain ⟨b, off, spot⟩ := a
            have hspot : spot = none := by
              have h0 : ∃ c0, w.cell? ⟨b, off, spot⟩ = some c0 := by
                by_cases hl0 : len = 0
                · obtain ⟨hrl, hr⟩ := hsp rfl
                  have h1 := hr 0 (by omega)
                  obtain ⟨y, hy⟩ : ∃ y, rest[0]? = some y := ⟨_, List.getElem?_eq_getElem (by omega)⟩
                  rw [hy, Option.bind_eq_some_iff] at h1
                  obtain ⟨cs, h2, _⟩ := h1
                  obtain ⟨_, hcl, hcc⟩ := World.cells?_some h2
                  have h3 := hcc 0 hc.2
                  obtain ⟨c0, hc0⟩ : ∃ c0, cs[0]? = some c0 := ⟨_, List.getElem?_eq_getElem (by omega)⟩
                  refine ⟨c0, ?_⟩
                  rw [hc0] at h3
                  simpa [Addr.add, hl0] using h3
                · obtain ⟨cs, h2, _⟩ := hel2 0 (by omega)
                  obtain ⟨_, hcl, hcc⟩ := World.cells?_some h2
                  have h3 := hcc 0 hc.2
                  obtain ⟨c0, hc0⟩ : ∃ c0, cs[0]? = some c0 := ⟨_, List.getElem?_eq_getElem (by omega)⟩
                  refine ⟨c0, ?_⟩
                  rw [hc0] at h3
                  simpa [Addr.add] using h3
              obtain ⟨c0, h0⟩ := h0
              simpa using World.cell?_spot h0
            subst hspot
            have hcell : ∀ i (hi : i < elems.length), ∃ cs, cs.length = P.cellsOf e ∧ (∀ r, r < P.cellsOf e → w.cell? ⟨b, off + (i * P.cellsOf e + r), none⟩ = cs[r]?) ∧ CL K (flat (avW elems[i].1)) cs ∧ isv (avW elems[i].1) = true := fun i hi => by
              obtain ⟨cs, h2, h3⟩ := hel2 i hi
              obtain ⟨_, hcl, hcc⟩ := World.cells?_some h2
              obtain ⟨_, h4, h5⟩ := ih e cs _ heS h3
              refine ⟨cs, hcl, fun r hr => ?_, h4, h5⟩
              have := hcc r hr
              rw [← this, Addr.add_lit, Addr.add_lit, Nat.add_assoc]
            have hflen : ∀ y, y ∈ elems.map (avW ∘ fun x => x.1) → (flat y).length = P.cellsOf e ∧ isv y = true ∧ ∀ c, c ∈ flat y → one c = true := fun y hy => by
              obtain ⟨z, hz, rfl⟩ := List.mem_map.1 hy
              obtain ⟨i, hi, rfl⟩ := List.getElem_of_mem hz
              obtain ⟨cs, hcl, _, h4, h5⟩ := hcell i hi
              exact ⟨by have := h4.size; simp only [Function.comp]; omega, h5, h4.one⟩
            have hfl := flatMap_length (sz := P.cellsOf e) (elems.map (avW ∘ fun x => x.1)) (fun y hy => (hflen y hy).1)
            have hvals : ∀ j (hj : j < ((elems.map (avW ∘ fun x => x.1)).flatMap flat).length), ∃ v, w.cell? ⟨b, off + j, none⟩ = some v ∧ VR K ((elems.map (avW ∘ fun x => x.1)).flatMap flat)[j] v := fun j hj => by
              have hz : 0 < P.cellsOf e := hc.2
              have hj2 : j < elems.length * P.cellsOf e := by rw [hfl, List.length_map] at hj; exact hj
              have hi : j / P.cellsOf e < elems.length := Nat.div_lt_of_lt_mul (by rw [Nat.mul_comm]; exact hj2)
              have hr : j % P.cellsOf e < P.cellsOf e := Nat.mod_lt _ hz
              have hjd : j / P.cellsOf e * P.cellsOf e + j % P.cellsOf e = j := Nat.div_add_mod' j _
              obtain ⟨cs, hcl, h3, h4, h5⟩ := hcell (j / P.cellsOf e) hi
              have h6 := h3 (j % P.cellsOf e) hr
              rw [hjd] at h6
              have hlt : j % P.cellsOf e < (flat (avW elems[j / P.cellsOf e].1)).length := by have := h4.size; omega
              have h7 := h4.at_ _ hlt
              have h8 := flatMap_at (sz := P.cellsOf e) (elems.map (avW ∘ fun x => x.1)) (fun y hy => (hflen y hy).1) (j / P.cellsOf e) (by simpa using hi) (j % P.cellsOf e) hr
              rw [hjd, List.getElem?_eq_getElem hj] at h8
              simp only [List.getElem_map, Function.comp] at h8
              rw [List.getElem?_eq_getElem hlt] at h8
              have h9 := Option.some.inj h8
              refine ⟨cs.getD (j % P.cellsOf e) Go.undef, ?_, ?_⟩
              · rw [h6]; simp [List.getD, show j % P.cellsOf e < cs.length by omega]
              · rw [h9]; exact h7
            have := VR.sl (K := K) .none (elems.map (avW ∘ fun x => x.1)) [] (P.cellsOf e) b off cap (fun j => (w.cell? ⟨b, off + j, none⟩).getD Go.undef)
              (fun y hy => hflen y (by simpa using hy)) (by simp; omega) hml
              (fun j hj => by
                simp only [List.append_nil] at hj
                obtain ⟨v, h1, _⟩ := hvals j hj
                rw [h1]
                exact hK _ _ _ h1)
              (fun j hj => by
                simp only [List.append_nil] at hj ⊢
                obtain ⟨v, h1, h2⟩ := hvals j hj
                rw [h1]; exact h2) trivial
            rw [List.length_map, hlen] at this
            exact this
    · rename_i fs ht
      simp only [Bool.and_eq_true] at hc
      obtain ⟨xs, m, hm, rfl, hcl, hxl, hx⟩ := DataW.trod_struct ht h
      have hmn : m = n := by omega
      subst hmn
      have hfS : ∀ f, f ∈ fs.toList → f.type ∈ S := fun f hf => by have := List.all_eq_true.1 hc.1 f hf; simpa using this
      refine ⟨⟨_, rfl, by simpa using hxl, fun i f x hf hd => ?_⟩, ?_, rfl⟩
      · rw [List.getElem?_map] at hd
        cases hy : xs[i]? with
        | none => rw [hy] at hd; cases hd
        | some y =>
          rw [hy] at hd
          simp only [Option.map_some, Option.some.injEq] at hd
          subst hd
          have h1 := hx i f hf
          rw [hy] at h1
          exact (ih f.type _ y (hfS f (by rw [Array.mem_toList_iff]; exact Array.mem_of_getElem? hf)) h1).1
      · simp only [avW, flat]
        have := fields_read (P := P) (S := S) (K := K) (r := DataW.trod enc P w 0 (fun _ => true) held m) (total := P.cellsOf t) (cs := cs) (fun t cs x hts hh => (ih t cs x hts hh).2.1) fs.toList xs 0 hfS hc.2 (by simpa using hxl) (fun i f hf => hx i f (by simpa using hf)) hcl
        simpa using this
    · rename_i q e ht
      simp only [Bool.and_eq_true, decide_eq_true_eq] at hc
      have heS : e ∈ S := by simpa using hc.1
      obtain ⟨xs, m, hm, rfl, hcl, hxl, hx⟩ := DataW.trod_array ht h
      have hmn : m = n := by omega
      subst hmn
      refine ⟨⟨_, rfl, by simpa using hxl, fun x hd => ?_⟩, ?_, rfl⟩
      · obtain ⟨y, hy, rfl⟩ := List.mem_map.1 hd
        obtain ⟨i, hi, rfl⟩ := List.getElem_of_mem hy
        have h1 := hx i (by omega)
        rw [List.getElem?_eq_getElem hi] at h1
        exact (ih e _ _ heS h1).1
      · simp only [avW, flat]
        have := items_read (K := K) (r := DataW.trod enc P w 0 (fun _ => true) held m e) (n := P.cellsOf e) (cs := cs) (fun cs x hh => (ih e cs x heS hh).2.1) xs 0 (fun i hi => by have := hx i (by omega); simpa using this) (by simp only [Nat.zero_add]; rw [hcl, ← hc.2, hxl])
        simpa using this
    · cases hc
end read
end Go.Av
namespace Go.Av
open Go Go.RowKit Go.WideShapes Go.ChangeShapes
variable {H : Type}
section shut
variable {enc : TypeId × Value → H} {P : Program} {w : World} {held : Bool} {S : List TypeId}
theorem trod_sp (hS : closedT P S = true) {sp : Nat → Bool} : ∀ (fuel : Nat) (t : TypeId) (cs : List Value) (x : DataW H × List MemPlace), t ∈ S →
    DataW.trod enc P w 0 (fun _ => true) held fuel t cs = some x → (∀ p ∈ x.2, sp p.block = true) → DataW.trod enc P w 0 sp held fuel t cs = some x := by
  intro fuel
  induction fuel with
  | zero => intro t cs x _ h; simp [DataW.trod] at h
  | succ n ih =>
    intro t cs x htS h hsp
    have hc := List.all_eq_true.1 hS t htS
    split at hc
    · rename_i ht
      obtain ⟨b, rfl, rfl⟩ := DataW.trod_bool ht h
      simp [DataW.trod, ht]
    · rename_i k ht
      obtain ⟨m, rfl, rfl, hw⟩ := DataW.trod_int ht h
      simp [DataW.trod, ht, hw]
    · rename_i ht
      obtain ⟨s, rfl, rfl, hw⟩ := DataW.trod_string ht h
      simp [DataW.trod, ht, hw]
    · rename_i e ht
      simp only [Bool.and_eq_true, decide_eq_true_eq] at hc
      have heS : e ∈ S := by simpa using hc.1
      rcases DataW.trod_slice ht h with ⟨rfl, rfl⟩ | ⟨a, len, cap, elems, rest, m, hm, rfl, rfl, hb0, hlc, hml, hlen, hel, hspr, _⟩
      · simp [DataW.trod, ht]
      · have hmn : m = n := by omega
        subst hmn
        obtain ⟨hrl, hr⟩ := hspr rfl
        have hpe : ∀ y, y ∈ elems ++ rest → ∀ p ∈ y.2, sp p.block = true := fun y hy p hp => hsp p (by
          simp only [List.mem_append, List.mem_flatMap]
          exact .inr ⟨y, by simpa using hy, hp⟩)
        have step : ∀ (i : Nat) (y : DataW H × List MemPlace), y ∈ elems ++ rest → ((w.cells? 0 (a.add (i * P.cellsOf e)) (P.cellsOf e)).bind (DataW.trod enc P w 0 (fun _ => true) held m e)) = some y →
            ((w.cells? 0 (a.add (i * P.cellsOf e)) (P.cellsOf e)).bind (DataW.trod enc P w 0 sp held m e)) = some y := fun i y hy hh => by
          rw [Option.bind_eq_some_iff] at hh ⊢
          obtain ⟨cs, g1, g2⟩ := hh
          exact ⟨cs, g1, ih e cs y heS g2 (hpe y hy)⟩
        have h1' : (List.range len).mapM (fun i => (w.cells? 0 (a.add (i * P.cellsOf e)) (P.cellsOf e)).bind (DataW.trod enc P w 0 sp held m e)) = some elems :=
          mapM_some_of_get _ _ (by simp [hlen]) (fun i x hx => by
            obtain ⟨hi, rfl⟩ := List.getElem?_eq_some_iff.1 hx
            simp only [List.length_range] at hi
            rw [List.getElem_range, List.getElem?_eq_getElem (by omega)]
            refine step i _ (List.mem_append_left _ (List.getElem_mem _)) ?_
            rw [hel i hi, List.getElem?_eq_getElem (by omega)])
        have h2' : (List.range (cap - len)).mapM (fun j => (w.cells? 0 (a.add ((len + j) * P.cellsOf e)) (P.cellsOf e)).bind (DataW.trod enc P w 0 sp held m e)) = some rest :=
          mapM_some_of_get _ _ (by simp [hrl]) (fun i x hx => by
            obtain ⟨hi, rfl⟩ := List.getElem?_eq_some_iff.1 hx
            simp only [List.length_range] at hi
            rw [List.getElem_range, List.getElem?_eq_getElem (by omega)]
            refine step (len + i) _ (List.mem_append_right _ (List.getElem_mem _)) ?_
            rw [hr i hi, List.getElem?_eq_getElem (by omega)])
        rw [DataW.trod_step]
        unfold DataW.trodStep
        simp only [ht]
        rw [if_pos ⟨hb0, hlc, hml⟩, h1']
        simp only [Option.bind_some]
        by_cases hz : cap - len = 0
        · have : rest = [] := List.eq_nil_of_length_eq_zero (by omega)
          subst this
          rw [hz]
          split <;> simp
        · have hb : sp a.block = true := by
            refine hsp (.cell a.block a.off) ?_
            simp only [List.mem_append]
            refine .inl (MemPlace.mem_row.2 ⟨0, ?_, rfl⟩)
            have hp : 0 < P.cellsOf e := hc.2
            exact Nat.mul_pos (by omega) hp
          rw [if_pos hb, h2']
          simp
    · rename_i fs ht
      simp only [Bool.and_eq_true] at hc
      have hfS : ∀ f, f ∈ fs.toList → f.type ∈ S := fun f hf => by have := List.all_eq_true.1 hc.1 f hf; simpa using this
      obtain ⟨xs, m, hm, rfl, hcl, hxl, hx⟩ := DataW.trod_struct ht h
      have hmn : m = n := by omega
      subst hmn
      have h1' : fs.toList.mapM (fun f => DataW.trod enc P w 0 sp held m f.type ((cs.drop f.offset).take (P.cellsOf f.type))) = some xs :=
        mapM_some_of_get _ _ (by simp [hxl]) (fun i f hf => by
          have hfa : fs[i]? = some f := by simpa using hf
          have h2 := hx i f hfa
          have hi : i < xs.length := by have := (Array.getElem?_eq_some_iff.1 hfa).1; omega
          rw [List.getElem?_eq_getElem hi] at h2 ⊢
          exact ih f.type _ _ (hfS f (by rw [Array.mem_toList_iff]; exact Array.mem_of_getElem? hfa)) h2 fun p hp => hsp p (List.mem_flatMap.2 ⟨_, List.getElem_mem hi, hp⟩))
      rw [DataW.trod_step]
      unfold DataW.trodStep
      simp only [ht]
      rw [if_pos hcl, h1']
      rfl
    · rename_i q e ht
      simp only [Bool.and_eq_true, decide_eq_true_eq] at hc
      have heS : e ∈ S := by simpa using hc.1
      obtain ⟨xs, m, hm, rfl, hcl, hxl, hx⟩ := DataW.trod_array ht h
      have hmn : m = n := by omega
      subst hmn
      have h1' : (List.range q).mapM (fun i => DataW.trod enc P w 0 sp held m e ((cs.drop (i * P.cellsOf e)).take (P.cellsOf e))) = some xs :=
        mapM_some_of_get _ _ (by simp [hxl]) (fun i f hf => by
          obtain ⟨hi, rfl⟩ := List.getElem?_eq_some_iff.1 hf
          simp only [List.length_range] at hi
          rw [List.getElem_range]
          have h2 := hx i hi
          rw [List.getElem?_eq_getElem (by omega)] at h2 ⊢
          exact ih e _ _ heS h2 fun p hp => hsp p (List.mem_flatMap.2 ⟨_, List.getElem_mem (by omega), hp⟩))
      rw [DataW.trod_step]
      unfold DataW.trodStep
      simp only [ht]
      rw [if_pos hcl, h1']
      rfl
    · cases hc
theorem shut_args (hS : closedT P S = true) {w' : World} {sp : Nat → Bool} (hb : Below w.heap.size w w') : ∀ (ts : List TypeId) (vs : List Value) (ds : List (DataW H)) (ps : List MemPlace), (∀ t, t ∈ ts → t ∈ S) →
    DataW.TrodAll enc P w 0 (fun _ => true) held ts vs ds ps → (∀ p ∈ ps, p.block < w.heap.size) → (∀ p ∈ ps, sp p.block = true) → DataW.TrodAll enc P w' 0 sp held ts vs ds ps
  | [], [], [], ps, _, h, _, _ => h
  | t :: ts, v :: vs, d :: ds, ps, hts, ⟨p, q, ⟨fuel, h1⟩, h2, h3⟩, hlt, hsp => by
    subst h3
    have hsame : ∀ x ∈ p, w.sameAt w' x := fun x hx => by
      have hl := hlt x (by simp [hx])
      cases x with
      | cell b o => exact hb.cell (p := ⟨b, o, none⟩) hl
      | map b => exact hb.block b hl
    have h4 := DataW.trod_carry fuel t _ _ h1 hsame
    exact ⟨p, q, ⟨fuel, trod_sp hS fuel t _ _ (hts t (by simp)) h4 fun x hx => hsp x (by simp [hx])⟩,
      shut_args hS hb ts vs ds q (fun t ht => hts t (by simp [ht])) h2 (fun x hx => hlt x (by simp [hx])) (fun x hx => hsp x (by simp [hx])), rfl⟩
  | [], _ :: _, _, _, _, h, _, _ => h.elim
  | [], [], _ :: _, _, _, h, _, _ => h.elim
  | _ :: _, [], _, _, _, h, _, _ => h.elim
  | _ :: _, _ :: _, [], _, _, h, _, _ => h.elim
end shut
section typed
variable {P : Program} {n : Nat} {t : TypeId} {d : DataW H}
end typed
section entry
variable {P : Program} {G : Nat → AV} {W : World}
def entryK (W : World) : Ctx := { imm := fun b o => W.cell? ⟨b, o, none⟩, row := fun _ => none, base := W.heap.size, W := W }
def entryS : AS := { box := fun _ => none, tip := fun _ => none, ty := fun _ => none }
theorem Rel.entry (hG : ∀ g, VR (entryK W) (G g) (.pointer (some ⟨g, 0, none⟩))) : Rel G (entryK W) entryS W :=
  ⟨fun _ _ _ h => h, fun _ _ _ _ h => (by cases h), fun _ _ h => (by cases h), fun _ _ _ h => (by cases h), fun _ _ _ h => (by cases h), hG, Below.refl _ _, Nat.le_refl _⟩
theorem laidVars_mem {P : Program} {w : World} {n : String} {d : DataW Unit} : ∀ (laid : List (String × DataW Unit)) (ps : List MemPlace), DataW.LaidVars P w laid ps → (n, d) ∈ laid →
    ∃ g t cs fuel p, P.globalNamed n = some g ∧ (P.globals[g]?).map (·.type) = some t ∧ w.var? P n = some cs ∧ DataW.trod (fun _ => ()) P w 0 (fun _ => true) false fuel t cs.toList = some (d, p)
  | [], _, _, h => by cases h
  | (m, e) :: r, ps, ⟨g, t, cs, fuel, p, q, h1, h2, h3, h4, h5, _⟩, h => by
    rcases List.mem_cons.1 h with h | h
    · cases h; exact ⟨g, t, cs, fuel, p, h1, h2, h3, h4⟩
    · exact laidVars_mem r q h5 h
theorem laid_glob {S : List TypeId} (hS : closedT P S = true) {laid : List (String × DataW Unit)} (hL : laidMet P laid W) {n : String} {d : DataW Unit} (hm : (n, d) ∈ laid) {g : Nat} {t : TypeId} (hg : P.globalNamed n = some g)
    (ht : (P.globals[g]?).map (·.type) = some t) (htS : t ∈ S) {cs : List AV} (hcs : flat (avW d) = cs) : VR (entryK W) (.rp cs) (.pointer (some ⟨g, 0, none⟩)) := by
  obtain ⟨ps, h1, _⟩ := hL
  obtain ⟨g', t', vs, fuel, p, hg', ht', hvar, hd⟩ := laidVars_mem laid ps h1 hm
  obtain rfl := Option.some.inj (hg.symm.trans hg')
  obtain rfl := Option.some.inj (ht.symm.trans ht')
  obtain ⟨_, h2, _⟩ := read_all (K := entryK W) hS (fun b o v h => h) fuel t _ _ htS hd
  simp only [hcs] at h2
  have hsz := h2.size
  refine .rp cs g 0 (fun j => vs.toList.getD j Go.undef) h2.one (fun j hj => ?_) h2.at_
  have h3 := World.var?_cell hg hvar j
  show W.cell? ⟨g, 0 + j, none⟩ = _
  have hj2 : j < vs.toList.length := by omega
  have hj3 : j < vs.size := by simpa using hj2
  rw [Nat.zero_add, h3]
  simp [hj3]
theorem int_glob {k : IntKind} {g : Nat} (h : ∃ m, W.cell? ⟨g, 0, none⟩ = some (.int k m)) : ∃ m, VR (entryK W) (.rp [.int k m]) (.pointer (some ⟨g, 0, none⟩)) := by
  obtain ⟨m, hm⟩ := h
  refine ⟨m, .rp _ g 0 (fun _ => .int k m) (fun c hc => by simp at hc; subst hc; rfl) (fun j hj => ?_) (fun j hj => ?_)⟩
  · have : j = 0 := by simpa using hj
    subst this; exact hm
  · have : j = 0 := by simpa using hj
    subst this; exact .int k m
theorem Pure.calls {f : FuncId} {args : List AV} {vals : List Value} {b : Bool} (h : Pure P G f args (.bool b)) (hG : ∀ g, VR (entryK W) (G g) (.pointer (some ⟨g, 0, none⟩))) (hv : VRl (entryK W) args vals) :
    Calls P f vals.toArray W fun e w' => e = .returned (.bool b) ∧ Below W.heap.size W w' := by
  refine ((h entryS).2 (entryK W) W vals (Rel.entry hG) hv).mono ?_
  rintro e w' ⟨v, r, σ', K', rfl, ⟨rfl, rfl⟩, hvr, hrel, hle⟩
  rw [VR.bool_iff] at hvr
  subst hvr
  have hb := hrel.below
  rw [hle.base, hle.W] at hb
  exact ⟨rfl, hb⟩
end entry
theorem law_post {t0 : TypeId} {enc : TypeId × Value → H} {P : Program} {f : Func} {s : ChangeSpec} {W W' : World} {args : Array Value} {ds gs : List (DataW H)} {before : List MemPlace} {S : List TypeId} (hS : closedT P S = true) (hts : ∀ t, t ∈ f.params.toList → t ∈ S)
    (hvars : s.vars = []) (hres : f.resultTypes = #[t0]) (ht0 : P.underlying t0 = some .bool)
    (hfn : s.fn H (ds ++ gs) = { results := [.lit (.bool true)], args := ds })
    (hW : DataW.Whole enc P f.params.toList s.vars false W args.toList ds gs before) (hb : Below W.heap.size W W') :
    s.post enc P f false true false false W args (.bool true) W' := by
  have hW' := hW
  obtain ⟨p, q, hA, hV, rfl, hfz, hnd⟩ := hW
  rw [hvars] at hV
  obtain ⟨hgs, rfl⟩ := trodVars_none hV
  rw [List.append_nil] at hW'
  have hA' : DataW.TrodAll enc P W 0 (fun _ => true) true f.params.toList args.toList ds p := hA
  have hlt : ∀ x ∈ p, x.block < W.heap.size := fun x hx => hA'.lt x hx
  have inW : ∀ x ∈ p, decide (x.block < W.heap.size) = true := fun x hx => by simpa using hlt x hx
  have results : ∀ (b : Nat) (sp : Nat → Bool) (hd : Bool), DataW.TrodAll enc P W' b sp hd f.resultTypes.toList ((Value.bool true).resultList f.resultTypes.size) (s.fn H (ds ++ gs)).results [] := fun b sp hd => by
    rw [hfn, hres]; exact trodAll_cons_mk (shut_bool ht0 _) trodAll_mk0
  have arguments : ∀ sp : Nat → Bool, (∀ x ∈ p, sp x.block = true) → DataW.TrodAll enc P W' 0 sp true f.params.toList args.toList (s.fn H (ds ++ gs)).args p := fun sp hsp => by
    rw [hfn]; exact shut_args hS hb _ _ _ _ hts hA' hlt hsp
  have variables_ : ∀ sp : Nat → Bool, DataW.TrodVars enc P W' sp s.vars (s.fn H (ds ++ gs)).vars [] := fun sp => by
    rw [hfn, hvars]; exact rfl
  refine ⟨ds, gs, p, [], p, [], by simpa using hW', results _ _ _, arguments _ inW, variables_ _, World.keptBut_mono (fun x hx => hx.elim) (hb.frame fun _ => False), fun _ => ?_⟩
  refine ⟨?_, _, _, p, ⟨p, [], trodAll_append (arguments _ fun _ _ => rfl) (results _ _ _), variables_ _, (by simp), ?_, fun h => (by cases h)⟩, fun x hx _ => (by simpa using hx)⟩
  · exact ok_one hres rfl (okWide_bool_mk ht0 _)
  · intro b o hx
    rw [hb.frozen (p := ⟨b, o, none⟩) (hlt (.cell b o) hx)]
    exact hfz b o (by simpa using hx)
end Go.Av
namespace Go.Av
open Go Go.RowKit
theorem VR.mono2 {K K' : Ctx} (hi : ∀ b o v, K.imm b o = some v → K'.imm b o = some v) (hr : ∀ b x, K.row b = some x → K'.row b = some x)
    (ht : ∀ b, b < K.base → b < K'.base ∧ K'.W.heap[b]? = K.W.heap[b]?) {a : AV} {v : Value} (k : VR K a v) : VR K' a v := by
  induction k with
  | undef v => exact .undef v
  | bool b => exact .bool b
  | int k n => exact .int k n
  | str s => exact .str s
  | nil => exact .nil
  | sl g xs sp sz b off cap f hsz hcap hml himm hv hg ih =>
    refine .sl g xs sp sz b off cap f hsz hcap hml (fun j hj => hi _ _ _ (himm j hj)) ih ?_
    cases g with
    | none => exact hg
    | full => exact hg
    | own b' => obtain ⟨h1, h2, E, s, h3⟩ := hg; exact ⟨h1, h2, E, s, hr _ _ h3⟩
  | sl0 a => exact .sl0 a
  | agg cs vs hl h1 hv ih => exact .agg cs vs hl h1 ih
  | tup cs vs hl hv ih => exact .tup cs vs hl ih
  | ptr b o => exact .ptr b o
  | rp cs b off f h1 himm hv ih => exact .rp cs b off f h1 (fun j hj => hi _ _ _ (himm j hj)) ih
  | nilptr => exact .nilptr
  | fn f caps vs hl hv ih => exact .fn f caps vs hl ih
  | nilfn => exact .nilfn
  | bs b n s cap E hr' hn hm => exact .bs b n s cap E (hr _ _ hr') hn hm
  | bp b s cap E hr' => exact .bp b s cap E (hr _ _ hr')
  | raw v => exact .raw v
  | tab vs b E fz hb hw => exact .tab vs b E fz (ht b hb).1 (by rw [(ht b hb).2]; exact hw)
def Ctx.lent (K : Ctx) (σ : AS) (w : World) : Ctx :=
  { imm := fun b o => match σ.box b with | some cs => if o < cs.length then w.cell? ⟨b, o, none⟩ else K.imm b o | none => K.imm b o, row := K.row, base := w.heap.size, W := w }
def tyT : Option (TyE × Nat) → Option (TyE × Nat)
  | some (.t E, n) => some (.t E, n)
  | _ => none
theorem tyT_some {x : Option (TyE × Nat)} {y : TyE × Nat} (h : tyT x = some y) : ∃ E n, x = some (.t E, n) ∧ y = (.t E, n) := by
  unfold tyT at h
  split at h
  · cases h; exact ⟨_, _, rfl, rfl⟩
  · cases h
def AS.shut (σ : AS) : AS := { box := fun _ => none, tip := fun _ => none, ty := fun b => tyT (σ.ty b) }
section
variable {G : Nat → AV} {K : Ctx} {σ : AS} {w : World}
theorem lent_imm (h : Rel G K σ w) : ∀ b o v, K.imm b o = some v → (K.lent σ w).imm b o = some v := by
  intro b o v hv
  unfold Ctx.lent
  simp only
  cases e : σ.box b with
  | none => exact hv
  | some cs =>
    obtain ⟨_, _, _, h4, _⟩ := h.box b cs e
    rw [h4 o] at hv; cases hv
theorem VR.lent (h : Rel G K σ w) {a : AV} {v : Value} (k : VR K a v) : VR (K.lent σ w) a v :=
  VR.mono2 (lent_imm h) (fun b x hx => hx) (fun b hb => ⟨Nat.lt_of_lt_of_le hb h.bs, h.below.block b hb⟩) k
theorem Rel.lent (h : Rel G K σ w) : Rel G (K.lent σ w) σ.shut w := by
  refine ⟨fun b o v hv => ?_, fun b cap s E hr => ?_, fun b cs hb => (by cases hb), fun b n s ht => (by cases ht), fun b E n ht => ?_, fun g => (h.glob g).lent h, Below.refl _ _, Nat.le_refl _⟩
  · unfold Ctx.lent at hv
    simp only at hv
    cases e : σ.box b with
    | none => rw [e] at hv; exact h.imm b o v hv
    | some cs =>
      rw [e] at hv
      simp only at hv
      split at hv
      · exact hv
      · exact h.imm b o v hv
  · obtain ⟨cur, fz, h1, h2, h3, _⟩ := h.row b cap s E hr
    exact ⟨cur, fz, h1, h2, h3, fun ⟨x, hx⟩ => by cases hx⟩
  · obtain ⟨E', n', h1, h2⟩ := tyT_some ht
    cases h2
    exact h.ty b _ _ h1
end
def Lend (G : Nat → AV) (σ : AS) (a a' : AV) : Prop := ∀ K w u, Rel G K σ w → VR K a u → VR (K.lent σ w) a' u
inductive Lends (G : Nat → AV) (σ : AS) : List AV → List AV → Prop
  | nil : Lends G σ [] []
  | cons {a a' : AV} {l l' : List AV} (h : Lend G σ a a') (t : Lends G σ l l') : Lends G σ (a :: l) (a' :: l')
theorem Lend.id {G : Nat → AV} {σ : AS} (a : AV) : Lend G σ a a := fun K w u hr h => h.lent hr
theorem Lend.le {G : Nat → AV} {σ : AS} {a b c : AV} (h : Lend G σ a b) (k : Le b c) : Lend G σ a c := fun K w u hr hv => k _ _ (h K w u hr hv)
theorem Lends.ids {G : Nat → AV} {σ : AS} : ∀ l : List AV, Lends G σ l l
  | [] => .nil
  | a :: l => .cons (.id a) (Lends.ids l)
theorem Lends.length {G : Nat → AV} {σ : AS} {l l' : List AV} (h : Lends G σ l l') : l.length = l'.length := by
  induction h with
  | nil => rfl
  | cons _ _ ih => simp [ih]
theorem Lends.at_ {G : Nat → AV} {σ : AS} {l l' : List AV} (h : Lends G σ l l') : ∀ j (h1 : j < l.length) (h2 : j < l'.length), Lend G σ l[j] l'[j] := by
  induction h with
  | nil => intro j h1; cases h1
  | cons h _ ih =>
    intro j h1 h2
    cases j with
    | zero => exact h
    | succ j => exact ih j (by simpa using h1) (by simpa using h2)
theorem Lends.append {G : Nat → AV} {σ : AS} {a a' b b' : List AV} (h : Lends G σ a a') (k : Lends G σ b b') : Lends G σ (a ++ b) (a' ++ b') := by
  induction h with
  | nil => exact k
  | cons h _ ih => exact .cons h ih
theorem Lends.vrl {G : Nat → AV} {σ : AS} {l l' : List AV} (h : Lends G σ l l') {K : Ctx} {w : World} (hr : Rel G K σ w) : ∀ {vs : List Value}, VRl K l vs → VRl (K.lent σ w) l' vs := by
  induction h with
  | nil =>
    intro vs hv
    match vs, hv with
    | [], _ => exact trivial
  | cons h _ ih =>
    intro vs hv
    match vs, hv with
    | v :: vs, ⟨h1, h2⟩ => exact ⟨h K w v hr h1, ih h2⟩
theorem Lend.row {G : Nat → AV} {σ : AS} {b s : Nat} {E : TypeId} {cs ds : List AV} (hb : σ.box b = some cs) (hl : Lends G σ (cs.take ds.length) ds) (hd : ds.length ≤ cs.length) {xs sp : List AV} (hx : (xs ++ sp).flatMap flat = ds) (hs0 : 0 < s)
    (hsz : ∀ e, e ∈ xs ++ sp → (flat e).length = s ∧ isv e = true ∧ ∀ c, c ∈ flat e → one c = true) : Lend G σ (.bs b xs.length s E) (.sl .none xs sp) := by
  intro K w u hr hv
  obtain ⟨g1, g2, g3, g4, g5, c, F, hc, hs, hvv⟩ := hr.box b cs hb
  generalize hn : xs.length = n at hv
  cases hv with
  | bs _ _ _ cap _ hrow hn' hm =>
    obtain ⟨cur, fz, h1, h2, h3, _⟩ := hr.row b cap s E hrow
    rw [hc] at h1
    simp only [Option.some.injEq, Obj.cells.injEq] at h1
    obtain ⟨rfl, _, _⟩ := h1
    have hlen : ds.length = (xs.length + sp.length) * s := by
      rw [← hx]
      have : ∀ l : List AV, (∀ e, e ∈ l → (flat e).length = s) → (l.flatMap flat).length = l.length * s := by
        intro l
        induction l with
        | nil => intro _; simp
        | cons x l ih =>
          intro h
          rw [List.flatMap_cons, List.length_append, h x (by simp), ih (fun e he => h e (by simp [he])), List.length_cons, Nat.add_mul, Nat.one_mul, Nat.add_comm]
      rw [this _ (fun e he => (hsz e he).1), List.length_append]
    have hcap : xs.length + sp.length ≤ cap := by
      have : (xs.length + sp.length) * s ≤ cap * s := by omega
      exact Nat.le_of_mul_le_mul_right this hs0
    have hval := VR.sl (K := K.lent σ w) .none xs sp s b 0 cap (fun j => c.getD j Go.undef) hsz hcap hm
      (fun j hj => by
        rw [hx] at hj
        rw [Nat.zero_add]
        unfold Ctx.lent
        simp only [hb]
        rw [if_pos (by omega), cell_of_row w b j c F (0, 0) hc]
        have : j < c.size := by omega
        simp [this])
      (fun j hj => by
        have hj' : j < ds.length := by rw [← hx]; exact hj
        have e : ((xs ++ sp).flatMap flat)[j] = ds[j] := by simp only [hx]
        rw [e]
        have h4 := hl.at_ j (by rw [List.length_take]; omega) hj'
        have h5 : (cs.take ds.length)[j]'(by rw [List.length_take]; omega) = cs[j]'(by omega) := List.getElem_take
        rw [h5] at h4
        exact h4 K w _ hr (hvv j (by omega)))
      trivial
    rw [hn] at hval
    exact hval
theorem Lend.agg {G : Nat → AV} {σ : AS} {l l' : List AV} (h : Lends G σ l l') (h1 : ∀ c, c ∈ l' → one c = true) : Lend G σ (.agg l) (.agg l') := by
  intro K w u hr hv
  cases hv with
  | agg _ vs hl _ hv =>
    have hlen := h.length
    exact .agg l' vs (by omega) h1 (fun j hj => h.at_ j (by omega) hj K w _ hr (hv j (by omega)))
def plainV : AV → Bool
  | .bool _ => true
  | .int _ _ => true
  | .str _ => true
  | .tup l => l.all fun a => match a with | .bool _ => true | .int _ _ => true | .str _ => true | _ => false
  | _ => false
theorem plainV_vr {a : AV} (h : plainV a = true) {K K' : Ctx} {v : Value} (k : VR K a v) : VR K' a v := by
  cases k with
  | bool b => exact .bool b
  | int k n => exact .int k n
  | str s => exact .str s
  | tup cs vs hl hv =>
    refine .tup cs vs hl fun j hj => ?_
    have h1 := hv j hj
    have h2 : (match cs[j] with | .bool _ => true | .int _ _ => true | .str _ => true | _ => false) = true := by
      have := List.all_eq_true.1 h cs[j] (List.getElem_mem hj)
      exact this
    generalize cs[j] = a at *
    generalize vs.getD j Go.undef = u at *
    cases h1 with
    | bool b => exact .bool b
    | int k n => exact .int k n
    | str s => exact .str s
    | _ => cases h2
  | _ => cases h
theorem Pure.lend {P : Program} {G : Nat → AV} {f : FuncId} {args args' : List AV} {v : AV} (h : Pure P G f args' v) (hv : plainV v = true) {σ : AS} (hl : Lends G σ args args') : Tri P G f args σ fun r s => r = v ∧ s = σ := by
  refine ⟨(h σ).1, fun K w vals hr hvl => ?_⟩
  refine ((h σ.shut).2 (K.lent σ w) w vals hr.lent (hl.vrl hr hvl)).mono ?_
  rintro e w' ⟨u, r, s, K', he, ⟨hr1, hs1⟩, h1, h2, h3⟩
  subst hr1
  have hb : Below w.heap.size w w' := by
    have := h2.below
    rw [h3.base, h3.W] at this
    exact this
  exact ⟨u, r, σ, K, he, ⟨rfl, rfl⟩, plainV_vr hv h1, hr.grown hb, Ctx.le.refl K⟩
section
variable {G : Nat → AV} {K K' : Ctx} {σ s : AS} {w w' : World}
end
theorem make_row {P : Program} {n by_ : Nat} {σ : AS} {t e : TypeId} {k k' : IntKind} {zz : List AV} (l : Nat) {K : AV → AS → Prop} {d : Dum σ} {d' : Dum K} (he : aelt P t = some (e, n, by_)) (hz : (el P t).bind (zc P) = some zz) (hb : l * by_ ≤ 140737488355328)
    (hK : ∀ b, σ.fresh b → K (.bs b l n e) (σ.setBox b (List.replicate l zz).flatten)) : makeW P σ t (.int k l) (.int k' l) K d d' := by
  refine .inr ?_
  unfold amakeM
  rw [he, hz]
  refine ⟨by omega, by omega, by rw [← Int.natCast_mul]; omega, fun b hf => ?_⟩
  exact hK b hf
def MadeRow (n s : Nat) (E : TypeId) (cs : List AV) (σ : AS) (r : AV) (σ' : AS) : Prop := ∃ b, r = .bs b n s E ∧ σ'.box b = some cs ∧ σ.le σ' ∧ σ.box b = none ∧ σ.tip b = none
def Mk.row (n s : Nat) (E : TypeId) (cs : List AV) : Mk := ⟨fun b => .bs b n s E, cs⟩
end Go.Av
