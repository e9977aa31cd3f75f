/- slices.Sort and slices.Compact on a row of numbers that may be written. -/
import Derived.Test.YtjmdaeabllkgnaaGreatDoorY19
import Derived.Test.YtjmdaeabllkgnaaGreatDoorY00
import Derived.Test.YtjmdaeabllkgnaaGreatDoorY22
import Derived.Shelf.SortM.Plain
import Derived.Test.YtjmdaeabllkgnaaGreatDoorY23
set_option linter.unusedVariables false
set_option linter.unusedSimpArgs false
set_option maxRecDepth 20000
set_option linter.defProp false
namespace Go.Proofs.YtjmdaeabllkgnaaGreatDoor
open Go Go.Av
section
open Go Go.Av Go.RowKit Go.Sort
variable {G : Nat -> AV}
theorem below_put {α : Type} [Inhabited α] (w : World) (n : Nat) (enc : α -> Value) (b : Nat) (d : Array α) (os : Array Obj) {c : Array Value} {E : TypeId} {fz : Nat × Nat} (hc : w.heap[b]? = some (.cells c E fz)) :
  Below (w.setRow b (putCells enc 0 d c)).heap.size (w.setRow b (putCells enc 0 d c)) (grow (putRow enc (Sort.ahead w n) b 0 d) os) := by
 have hs : (w.setRow b (putCells enc 0 d c)).heap.size = w.heap.size := by simp [World.setRow]
 have hb := (Array.getElem?_eq_some_iff.1 hc).1
 refine ⟨rfl, rfl, rfl, ?_, fun k hk => ?_⟩
 ·rw [hs, size_grow]
  show w.heap.size <= (w.heap.modify b _).size + _
  rw [Array.size_modify]; omega
 ·rw [hs] at hk
  rw [heap_grow_old _ _ (by show k < (w.heap.modify b _).size; rw [Array.size_modify]; exact hk)]
  show (w.heap.modify b (onCells (putCells enc 0 d)))[k]? = _
  by_cases e : b = k
  ·subst e
   rw [setRow_heap w b c _ E fz hc, Array.getElem?_modify, if_pos rfl, hc]; rfl
  ·rw [setRow_other w b k _ (Ne.symm e), Array.getElem?_modify, if_neg e]
theorem putInts {K : Ctx} {σ : AS} {w : World} (h : Rel G K σ w) {b cap : Nat} {zs ys : List Int} (hb : σ.box b = some (zs.map intA)) (hrow : K.row b = some (cap, 1, 3)) (hl : ys.length = zs.length) (n : Nat) (os : Array Obj) :
  Rel G K (σ.setBox b (ys.map intA)) (grow (putRow (Value.int .i64) (Sort.ahead w n) b 0 ys.toArray) os) := by
 obtain ⟨g1, g2, g3, g4, g5, c, E, hc, hcl, hv⟩ := h.box b _ hb
 rw [List.length_map] at hcl
 have hcs : (putCells (Value.int .i64) 0 ys.toArray c).size = c.size := by simp [putCells]
 have hr := h.setBox hb hc (putCells (Value.int .i64) 0 ys.toArray c) hcs (cs' := ys.map intA) (by rw [hcs, List.length_map]; omega) (fun a ha => by
  obtain ⟨x, _, rfl⟩ := List.mem_map.1 ha; rfl) (fun j hj => by
  rw [List.length_map] at hj
  rw [List.getElem_map]
  have : (putCells (Value.int .i64) 0 ys.toArray c).getD j Go.undef = .int .i64 ys[j] := by
   rw [Array.getD_eq_getD_getElem?]
   unfold putCells
   rw [Array.getElem?_mapIdx, Array.getElem?_eq_getElem (by omega), Option.map_some, if_pos ⟨by omega, by simpa using hj⟩]
   simp [hj]
  rw [this]; exact .int _ _)
 exact hr.grown (below_put w n _ b _ os hc)
theorem holdsInts {K : Ctx} {σ : AS} {w : World} (h : Rel G K σ w) {b : Nat} {zs : List Int} (hb : σ.box b = some (zs.map intA)) : Holds (Value.int .i64) w b 0 zs.toArray := by
 obtain ⟨g1, g2, g3, g4, g5, c, E, hc, hcl, hv⟩ := h.box b _ hb
 rw [List.length_map] at hcl
 intro j hj
 have hj : j < zs.length := by simpa using hj
 have h1 := hv j (by rw [List.length_map]; exact hj)
 rw [List.getElem_map] at h1
 unfold intA at h1
 rw [VR.int_iff] at h1
 rw [Nat.zero_add]
 refine ⟨?_, ?_⟩
 ·have e : c[j]? = some (.int .i64 zs[j]) := by
   rw [Array.getElem?_eq_getElem (by omega)]
   rw [Array.getD_eq_getD_getElem?, Array.getElem?_eq_getElem (by omega)] at h1
   exact congrArg some h1
  simp [World.cell?, hc, e, hj]
 ·simp [World.frozen?, hc]
theorem intsArg {K : Ctx} {n b : Nat} {E : TypeId} {v : Value} (h : VR K (.bs b n 1 E) v) : ∃ cap, v = .slice (some ⟨b, 0, none⟩) n cap /\ K.row b = some (cap, 1, E) /\ n <= cap /\ cap <= maxLen := by
 cases h with
 | bs _ _ _ cap _ hr hn hm => exact ⟨cap, rfl, hr, hn, hm⟩
def sortL (zs : List Int) : List Int := zs.mergeSort fun x y => decide (x <= y)
theorem sortI_tri (zs : List Int) (hz : zs.length <= 1000000000) {b : Nat} {σ : AS} (hb : σ.box b = some (zs.map intA)) : Tri Tryz.prog G 41 [.bs b zs.length 1 3] σ fun r σ' => r = .tup [] /\ σ' = σ.setBox b ((sortL zs).map intA) := by
 refine ⟨by kernel_rfl, fun K w vals hr hv => ?_⟩
 match vals, hv with
 | [v], ⟨hv, _⟩ =>
  obtain ⟨cap, rfl, hrow, hn, hm⟩ := intsArg hv
  have hbs : b < w.heap.size := hr.row_lt hrow
  refine (Tryz.slices_Sort_int b 0 cap zs w (holdsInts hr hb) hbs (by omega)).mono fun e w' ⟨he, n, os, hw⟩ => ?_
  subst hw
  exact ⟨_, _, _, K, he, ⟨rfl, rfl⟩, .tup [] #[] rfl (fun j hj => by simp at hj), putInts hr hb hrow (by unfold sortL; rw [List.length_mergeSort]) n os, Ctx.le.refl K⟩
def compL (zs : List Int) : List Int := Lib.compact zs ++ List.replicate (zs.length - (Lib.compact zs).length) 0
theorem compactI_tri (zs : List Int) (hz : zs.length <= 1000000000) (hl : (Lib.compact zs).length <= zs.length) {b : Nat} {σ : AS} (hb : σ.box b = some (zs.map intA)) : Tri Tryz.prog G 43 [.bs b zs.length 1 3] σ fun r σ' => r = .bs b (Lib.compact zs).length 1 3 /\ σ' = σ.setBox b ((compL zs).map intA) := by
 refine ⟨by kernel_rfl, fun K w vals hr hv => ?_⟩
 match vals, hv with
 | [v], ⟨hv, _⟩ =>
  obtain ⟨cap, rfl, hrow, hn, hm⟩ := intsArg hv
  refine (Tryz.slices_Compact_int b 0 cap zs w (holdsInts hr hb) (by omega) hn).mono fun e w' ⟨he, n, hw⟩ => ?_
  subst hw
  have := putInts hr hb hrow (ys := compL zs) (by unfold compL; rw [List.length_append, List.length_replicate]; omega) n #[]
  rw [grow_empty] at this
  exact ⟨_, _, _, K, he, ⟨rfl, rfl⟩, .bs b _ 1 cap _ hrow (by omega) hm, this, Ctx.le.refl K⟩
end
set_option maxRecDepth 20000
section
open Go Go.Av Go.RowKit Go.Sort
variable {G : Nat -> AV}
theorem sortI_nil (σ : AS) : Tri Tryz.prog G 41 [.nil] σ fun r σ' => r = .tup [] /\ σ' = σ := by
 refine ⟨by kernel_rfl, fun K w vals hr hv => ?_⟩
 match vals, hv with
 | [v], ⟨hv, _⟩ =>
  rw [VR.nil_iff] at hv; subst hv
  refine (Tryz.slices_Sort_int_none none 0 w).mono fun e w' ⟨he, hw⟩ => ?_
  subst hw
  exact ⟨_, _, _, K, he, ⟨rfl, rfl⟩, .tup [] #[] rfl (fun j hj => by simp at hj), hr, Ctx.le.refl K⟩
theorem compactI_nil (σ : AS) : Tri Tryz.prog G 43 [.nil] σ fun r σ' => r = .nil /\ σ' = σ := by
 refine ⟨by kernel_rfl, fun K w vals hr hv => ?_⟩
 match vals, hv with
 | [v], ⟨hv, _⟩ =>
  rw [VR.nil_iff] at hv; subst hv
  refine (Tryz.slices_Compact_int_empty none 0 w).mono fun e w' ⟨he, hw⟩ => ?_
  subst hw
  exact ⟨_, _, _, K, he, ⟨rfl, rfl⟩, VR.nil_iff.2 rfl, hr, Ctx.le.refl K⟩
theorem cloneI_nil (σ : AS) : Tri Tryz.prog G 42 [.nil] σ fun r σ' => r = .nil /\ σ' = σ := by
 refine ⟨by kernel_rfl, fun K w vals hr hv => ?_⟩
 match vals, hv with
 | [v], ⟨hv, _⟩ =>
  rw [VR.nil_iff] at hv; subst hv
  refine (Tryz.slices_Clone_int_nil 0 0 w).mono fun e w' ⟨he, hw⟩ => ?_
  subst hw
  exact ⟨_, _, _, K, he, ⟨rfl, rfl⟩, VR.nil_iff.2 rfl, hr, Ctx.le.refl K⟩
theorem putRowI {K : Ctx} {σ : AS} {w w' : World} (h : Rel G K σ w) (hb : Below w.heap.size w w') {g cap s : Nat} {E : TypeId} {cur : Array Value} (hg : w.heap.size <= g) (hc : w'.heap[g]? = some (.cells cur E (0, 0))) (hsz : cur.size = cap * s) (hml : cap <= maxLen) (cs : List AV) (hl : cs.length <= cur.size) (h1 : ∀ a, a ∈ cs -> Av.one a = true) (hv : ∀ j (hj : j < cs.length), VR K cs[j] (cur.getD j Go.undef)) :
  ∃ K', K.le K' /\ Rel G K' (σ.setBox g cs) w' /\ K'.row g = some (cap, s, E) := by
 have h' := h.grown hb
 have hne : ∀ i x, K.row i = some x -> i ≠ g := fun i x hi e => by
  obtain ⟨c1, c2, c3⟩ := x
  have := h.row_lt hi; omega
 have hle : K.le { K with row := fun i => if i = g then some (cap, s, E) else K.row i } := ⟨fun _ _ _ x => x, fun i x hi => by show (if i = g then _ else _) = _; rw [if_neg (hne i x hi)]; exact hi, rfl, rfl⟩
 refine ⟨_, hle, ⟨h'.imm, fun i cap' s' E' hi => ?_, fun i ds hi => ?_, fun i n s' hi => ?_, fun i E' n hi => ?_, fun q => (h'.glob q).mono hle, h'.below, h'.bs⟩, if_pos rfl⟩
 ·by_cases e : i = g
  ·subst e
   have hi' : (if i = i then some (cap, s, E) else K.row i) = some (cap', s', E') := hi
   rw [if_pos rfl] at hi'
   simp only [Option.some.injEq, Prod.mk.injEq] at hi'
   obtain ⟨rfl, rfl, rfl⟩ := hi'
   exact ⟨cur, (0, 0), hc, hsz, hml, fun _ => .inl rfl⟩
  ·have hi' : (if i = g then some (cap, s, E) else K.row i) = some (cap', s', E') := hi
   rw [if_neg e] at hi'
   exact h'.row i cap' s' E' hi'
 ·by_cases e : i = g
  ·subst e
   have hi' : (if i = i then some cs else σ.box i) = some ds := hi
   rw [if_pos rfl] at hi'
   simp only [Option.some.injEq] at hi'
   subst hi'
   exact ⟨Nat.le_trans h.bs hg, (h.fresh hg).2.1, trivial, fun o => h.imm_none hg o, h1, cur, E, hc, hl, fun j hj => (hv j hj).mono hle⟩
  ·have hi' : (if i = g then some cs else σ.box i) = some ds := hi
   rw [if_neg e] at hi'
   obtain ⟨g1, g2, g3, g4, g5, c, F, q1, q2, q3⟩ := h'.box i ds hi'
   exact ⟨g1, g2, g3, g4, g5, c, F, q1, q2, fun j hj => (q3 j hj).mono hle⟩
 ·obtain ⟨g1, cap', E', g2, g3, g4⟩ := h'.tip i n s' hi
  exact ⟨g1, cap', E', hle.row _ _ g2, g3, g4⟩
 ·exact tyOK.mono hle (h'.ty i E' n hi)
theorem cloneI_tri (zs ys : List Int) (h0 : zs ≠ []) (hz : zs.length + ys.length <= 1000000000) {b : Nat} {σ : AS} (hb : σ.box b = some ((zs ++ ys).map intA)) : Tri Tryz.prog G 42 [.bs b zs.length 1 3] σ (MadeRow zs.length 1 3 (zs.map intA) σ) := by
 refine ⟨by kernel_rfl, fun K w vals hr hv => ?_⟩
 match vals, hv with
 | [v], ⟨hv, _⟩ =>
  obtain ⟨cap, rfl, hrow, hn, hm⟩ := intsArg hv
  have hh := holdsInts hr hb
  refine (Tryz.slices_Clone_int b 0 zs.length cap (zs ++ ys) w (by simp) (by omega) (fun j hj => ?_)).mono fun e w' ⟨v', he, hown, hnn, hbel⟩ => ?_
  ·have := (hh j (by simpa using hj)).1
   rw [this]
   simp [List.getD_eq_getElem?_getD, List.getElem?_eq_getElem hj]
  ·obtain ⟨hxl, ⟨hz0, _⟩ | ⟨g, cap', cur, rfl, hg, hcur, hnc, hcm, hcs, htk⟩⟩ := hown
   ·exact absurd hz0 hnn
   ·obtain ⟨K', hle, hrel, hrow⟩ := putRowI hr hbel hg hcur hcs hcm (zs.map intA) (by rw [List.length_map]; omega) (fun a ha => by
     obtain ⟨x, _, rfl⟩ := List.mem_map.1 ha; rfl) (fun j hj => by
     rw [List.length_map] at hj
     rw [List.getElem_map]
     have h2 : (cur.toList.take (zs.length * 1))[j]? = some (.int .i64 zs[j]) := by
      rw [htk, List.getElem?_map, List.getElem?_take_of_lt (by omega), List.getElem?_append_left hj, List.getElem?_eq_getElem hj]; rfl
     rw [List.getElem?_take_of_lt (by omega)] at h2
     have h3 : cur.getD j Go.undef = .int .i64 zs[j] := by
      rw [Array.getD_eq_getD_getElem?, <- Array.getElem?_toList, h2]; rfl
     rw [h3]
     exact .int _ _)
    have hfr := hr.fresh hg
    exact ⟨_, _, _, K', he, ⟨g, rfl, by simp [AS.setBox], (AS.le.refl σ).setBox hfr.1 _, hfr.1, hfr.2.1⟩, .bs _ _ 1 cap' _ hrow hnc hcm, hrel, hle⟩
theorem sortL_one (a : Int) : sortL [a] = [a] := by simp [sortL]
theorem sortL_two (a b : Int) : sortL [a, b] = if a <= b then [a, b] else [b, a] := by
 unfold sortL
 rw [show [a, b] = [a] ++ [b] from rfl]
 simp [List.mergeSort, List.MergeSort.Internal.splitInTwo, List.merge]
theorem compact_one (a : Int) : Lib.compact [a] = [a] := by
 simp [Lib.compact, Lib.compactUpTo, Lib.keeps, List.range_succ]
theorem compact_two (a b : Int) : Lib.compact [a, b] = if a = b then [a] else [a, b] := by
 by_cases h : a = b <;> simp [Lib.compact, Lib.compactUpTo, Lib.keeps, List.range_succ, h, eq_comm]
theorem sorted_two (a b : Int) : Lib.compact (sortL [a, b]) = if b < a then [b, a] else if b = a then [a] else [a, b] := by
 rw [sortL_two]
 by_cases hab : a <= b
 ·rw [if_pos hab, compact_two, if_neg (c := b < a) (by omega)]
  by_cases h : a = b
  ·rw [if_pos h, if_pos h.symm]
  ·rw [if_neg h, if_neg fun e => h e.symm]
 ·rw [if_neg hab, compact_two, if_pos (c := b < a) (by omega), if_neg (by omega)]
end
set_option maxRecDepth 20000
section
def tbCodN := And.intro (And.intro (And.intro (And.intro @tf3 (And.intro @tf4 @tf5)) (And.intro (And.intro @tf9 @tf37) (And.intro @tf39 @tf23))) (And.intro (And.intro @tf30 (And.intro @tf66 @tf21)) (And.intro (And.intro @tf53 @tf22) (And.intro @tf26 @tf24)))) (And.intro (And.intro (And.intro @isv_rowOf (And.intro @flat_rowOf @len_rowOf)) (And.intro (And.intro @ix_rowOf @isv_encs) (And.intro @flat_encs @len_encs))) (And.intro (And.intro (And.intro @Ins.flat_enc @Ins.isv_enc) (And.intro @Ins.fold_enc @Cod.flat_enc)) (And.intro (And.intro @Cod.isv_enc @Cod.fold_enc) (And.intro @ares_tmpc @ares_cellc))))
variable {G : Nat -> AV}
theorem wbuf_made {E : TypeId} {σ s s' : AS} {r : AV} {cs : List Int} (h : σ.le s) (hm : MadeRow cs.length 1 E (cs.map intA) s r s') : WBuf 1 E σ s' r (cs.map intA) := by
 obtain ⟨b, rfl, hb, hl, h0, h1⟩ := hm
 have e : cs.length = (cs.map intA).length := by rw [List.length_map]
 rw [e]
 have hf : (cs.map intA).flatMap flat = cs.map intA := by
  clear hb e
  induction cs with
  | nil => rfl
  | cons a l ih => rw [List.map_cons, List.flatMap_cons, ih]; simp [intA, flat]
 refine WBuf.row b _ (h.trans hl) ?_ ?_ (by rw [hf]; exact hb) (fun a ha => by obtain ⟨x, _, rfl⟩ := List.mem_map.1 ha; exact ⟨rfl, rfl⟩)
 ·cases hx : σ.box b with
  | none => rfl
  | some z => rw [h.box _ _ hx] at h0; cases h0
 ·cases hx : σ.tip b with
  | none => rfl
  | some z => rw [h.tip _ _ hx] at h1; cases h1
theorem sorted_ne (a b : Int) : Lib.compact (sortL [a, b]) ≠ [] := by
 rw [sorted_two]
 by_cases h : b < a
 ·rw [if_pos h]; simp
 ·rw [if_neg h]
  by_cases h' : b = a
  ·rw [if_pos h']; simp
  ·rw [if_neg h']; simp
theorem sorted_one (a : Int) : Lib.compact (sortL [a]) = [a] := by rw [sortL_one, compact_one]
theorem len_one (a : Int) : (Lib.compact (sortL [a])).length <= 1 /\ (sortL [a]).length = 1 /\ Lib.compact (sortL [a]) ≠ [] := by rw [sorted_one, sortL_one]; simp
theorem len_two (a b : Int) : (Lib.compact (sortL [a, b])).length <= 2 /\ (sortL [a, b]).length = 2 /\ Lib.compact (sortL [a, b]) ≠ [] := by
 refine ⟨?_, by unfold sortL; rw [List.length_mergeSort]; rfl, sorted_ne a b⟩
 rw [sorted_two]
 by_cases h : b < a
 ·rw [if_pos h]; simp
 ·rw [if_neg h]
  by_cases h' : b = a
  ·rw [if_pos h']; simp
  ·rw [if_neg h']; simp
theorem hasL (op : UInt8) : Lib.contains (shpOf op).fields [108] = (shpOf op).fields.contains 108 := by
 have := op_all (p := fun op => Lib.contains (shpOf op).fields [108] == (shpOf op).fields.contains 108) (by decide +kernel) op
 simpa using this
set_option maxHeartbeats 4000000 in
theorem next_tri (hg : GlobC G) (c : Cod) (hc : c.bulk <= 1000000000) (pos : Int) (σ : AS) : Tri Tryz.prog G 11 [c.enc, .int .i64 pos] σ fun r σ' => WBuf 1 3 σ σ' r ((nexts c pos).map intA) := by
 obtain ⟨es, is, cs⟩ := c
 have hli : is.length <= 1000000000 := by have := len_bulkL Ins.bulk_pos is; unfold Cod.bulk at hc; simp only at hc; omega
 have hce : (⟨es, is, cs⟩ : Cod).enc = .agg [rowOf Ent.enc es, rowOf Ins.enc is, encs cs] := rfl
 rw [hce]
 clear hce hc
 by_cases h0 : pos < 0
 ·have hv : nexts ⟨es, is, cs⟩ pos = [] := by unfold nexts; rw [if_neg (by omega)]
  rw [hv]
  have h0' := eq_true h0
  clear hv hg hli h0
  refine Tri.of_awp mixed Tryz.func11 rfl (by kernel_rfl) (by kernel_rfl) (by simp [Tryz.ntmps11]) Tryz.results11 ?_
  repeat' (first | refine xs ?_ ?_ <;> intros | (refine wn ?_; intro bx hbx; try simp only [fb] at hbx) | refine wj ?_ | simp -dsimp only [↓bp, bq, br, seval, tbCodN, *] | refine wz ?_ | fail)
  all_goals exact finishW_some _ (AS.le.refl _) (WBuf.nil (by repeat' first | exact lr _ | assumption | refine ls ?_ ?_ | refine lt ?_ ?_ | simp only [*]; done | simp only [fb, *, not_false_eq_true, and_self]; done | exact lf ‹_› (by simp only [*])))
 have h0' := eq_false h0
 obtain ⟨p, hp⟩ := Int.eq_ofNat_of_zero_le (a := pos) (by omega)
 subst hp
 by_cases h1 : p < is.length
 case neg =>
  have h1' : ((is.length : Int) <= p) = True := eq_true (by omega)
  have hv : nexts ⟨es, is, cs⟩ p = [] := by
   unfold nexts; rw [if_pos (by omega)]; simp only [Int.toNat_natCast, List.getElem?_eq_none (Nat.le_of_not_lt h1)]
  rw [hv]
  clear hv hg hli h0 h1
  refine Tri.of_awp mixed Tryz.func11 rfl (by kernel_rfl) (by kernel_rfl) (by simp [Tryz.ntmps11]) Tryz.results11 ?_
  repeat' (first | refine xs ?_ ?_ <;> intros | (refine wn ?_; intro bx hbx; try simp only [fb] at hbx) | refine wj ?_ | simp -dsimp only [↓bp, bq, br, seval, tbCodN, *] | refine wz ?_ | fail)
  all_goals exact finishW_some _ (AS.le.refl _) (WBuf.nil (by repeat' first | exact lr _ | assumption | refine ls ?_ ?_ | refine lt ?_ ?_ | simp only [*]; done | simp only [fb, *, not_false_eq_true, and_self]; done | exact lf ‹_› (by simp only [*])))
 have h1' : ((is.length : Int) <= p) = False := eq_false (by omega)
 obtain ⟨x, hk⟩ : ∃ x, is[p]? = some x := ⟨_, List.getElem?_eq_getElem h1⟩
 have hv : nexts ⟨es, is, cs⟩ p = nextsOf x p := by
  unfold nexts; rw [if_pos (by omega)]; simp only [Int.toNat_natCast, hk]
 rw [hv]
 have hwp : IntKind.i64.wrap ((p : Int) + 1) = (p : Int) + 1 := wrap_nat (by omega) (by omega)
 have ho := of_pure hg x.op
 have hfa := op_all (p := fun op => asciiF (shpOf op).fields) fields_ascii x.op
 have hlen : (shpOf x.op).fields.length <= 4 := by unfold asciiF at hfa; rw [Bool.and_eq_true, decide_eq_true_eq] at hfa; exact hfa.1
 have hct := containsC_pure hg.most (shpOf x.op).fields [108] (by omega)
 rw [hasL] at hct
 unfold shpA at ho
 unfold nextsOf
 generalize shpOf x.op = s at *
 obtain ⟨w, fs, nx⟩ := s
 simp only at ho hct ⊢
 generalize fs.contains 108 = r at *
 clear hv hg hfa hlen h0 h1 hli
 cases nx with
 | false =>
  rw [if_neg (by simp)]
  cases r with
  | false =>
   rw [if_neg (by simp)]
   refine Tri.of_awp mixed Tryz.func11 rfl (by kernel_rfl) (by kernel_rfl) (by simp [Tryz.ntmps11]) Tryz.results11 ?_
   repeat' (first | refine xs ?_ ?_ <;> intros | (refine wn ?_; intro bx hbx; try simp only [fb] at hbx) | refine wp ho ?_ | refine wp hct ?_ | ((refine Tri.mono (sortI_nil _) ?_; rintro r s ⟨rfl, rfl⟩)) | ((refine Tri.mono (compactI_nil _) ?_; rintro r s ⟨rfl, rfl⟩)) | ((refine Tri.mono (cloneI_nil _) ?_; rintro r s ⟨rfl, rfl⟩)) | refine wj ?_ | simp -dsimp only [↓bp, bq, br, seval, tbCodN, *] | refine wz ?_ | fail)
   all_goals exact finishW_some _ (AS.le.refl _) (WBuf.nil (by repeat' first | exact lr _ | assumption | refine ls ?_ ?_ | refine lt ?_ ?_ | simp only [*]; done | simp only [fb, *, not_false_eq_true, and_self]; done | exact lf ‹_› (by simp only [*])))
  | true =>
   rw [if_pos rfl]
   refine Tri.of_awp mixed Tryz.func11 rfl (by kernel_rfl) (by kernel_rfl) (by simp [Tryz.ntmps11]) Tryz.results11 ?_
   repeat' (first | refine xs ?_ ?_ <;> intros | (refine wn ?_; intro bx hbx; try simp only [fb] at hbx) | refine wp ho ?_ | refine wp hct ?_ | ((refine app_wb (ys := [intA x.l]) (WBuf.nil (AS.le.refl _)) tfI (asrc_sl tfIE) (ints_ok [x.l]) (by simp) (fun v3 σ3 hA => ?_))) | refine wj ?_ | simp -dsimp only [↓bp, bq, br, seval, tbCodN, *] | refine wz ?_ | fail)
   have hlc : (Lib.compact (sortL [x.l])).length <= 1 /\ (sortL [x.l]).length = 1 /\ Lib.compact (sortL [x.l]) ≠ [] := len_one _
   obtain ⟨rr, rfl, hbr, hn0, hn1⟩ := hA.buf.form (by simp)
   have hbr' : σ3.box rr = some (([x.l]).map intA) := by rw [hbr]; simp [intA, flat]
   have hcp : ∀ {s0 : AS}, s0.box rr = some ((sortL [x.l]).map intA) -> Tri Tryz.prog G 43 [.bs rr 1 1 3] s0 fun r σ' => r = .bs rr (Lib.compact (sortL [x.l])).length 1 3 /\ σ' = s0.setBox rr ((compL (sortL [x.l])).map intA) := fun {s0} h0 => by
    have := compactI_tri (G := G) (sortL [x.l]) (by omega) (by omega) h0
    rw [hlc.2.1] at this; exact this
   have hso : Tri Tryz.prog G 41 [.bs rr 1 1 3] σ3 fun r σ' => r = .tup [] /\ σ' = σ3.setBox rr ((sortL [x.l]).map intA) := sortI_tri (G := G) [x.l] (by simp) hbr'
   repeat' (first | refine xs ?_ ?_ <;> intros | (refine wn ?_; intro bx hbx; try simp only [fb] at hbx) | ((refine Tri.mono hso ?_; rintro _ _ ⟨rfl, rfl⟩)) | ((refine Tri.mono (hcp AS.set_get) ?_; rintro _ _ ⟨rfl, rfl⟩)) | ((refine Tri.mono (cloneI_tri (Lib.compact (sortL [x.l])) (List.replicate ((sortL [x.l]).length - (Lib.compact (sortL [x.l])).length) 0) hlc.2.2 (by rw [List.length_replicate]; omega) AS.set_get) ?_; rintro r5 s5 hM)) | refine wj ?_ | simp -dsimp only [↓bp, bq, br, seval, tbCodN, *] | refine wz ?_ | fail)
   have hle5 : σ.le σ3 := AS.le.trans (by repeat' first | exact lr _ | assumption | refine ls ?_ ?_ | refine lt ?_ ?_ | simp only [*]; done | simp only [fb, *, not_false_eq_true, and_self]; done | exact lf ‹_› (by simp only [*])) hA.buf.le
   have hn5 : σ.box rr = none := by
    cases hx : σ.box rr with
    | none => rfl
    | some z => exact absurd hn0 (by rw [AS.le.box (σ := σ) (by repeat' first | exact lr _ | assumption | refine ls ?_ ?_ | refine lt ?_ ?_ | simp only [*]; done | simp only [fb, *, not_false_eq_true, and_self]; done | exact lf ‹_› (by simp only [*])) _ _ hx]; simp)
   have hW := wbuf_made ((hle5.setBox hn5 _).setBox hn5 _) hM
   rw [sorted_one] at hW
   exact finishW_some _ (AS.le.refl _) hW
 | true =>
  rw [if_pos rfl]
  cases r with
  | false =>
   rw [if_neg (by simp)]
   refine Tri.of_awp mixed Tryz.func11 rfl (by kernel_rfl) (by kernel_rfl) (by simp [Tryz.ntmps11]) Tryz.results11 ?_
   repeat' (first | refine xs ?_ ?_ <;> intros | (refine wn ?_; intro bx hbx; try simp only [fb] at hbx) | refine wp ho ?_ | refine wp hct ?_ | ((refine app_wb (ys := [intA ((p : Int) + 1)]) (WBuf.nil (AS.le.refl _)) tfI (asrc_sl tfIE) (ints_ok [(p : Int) + 1]) (by simp) (fun v3 σ3 hA => ?_))) | refine wj ?_ | simp -dsimp only [↓bp, bq, br, seval, tbCodN, *] | refine wz ?_ | fail)
   rename_i b2 hf2
   have hb6 : σ3.box bx = some [.str w, .str fs, .bool true] := hA.buf.le.box _ _ AS.set_get
   have hb2 : σ3.box b2 = some [rowOf Ent.enc es, rowOf Ins.enc is, encs cs] := hA.buf.le.box _ _ (by simp [AS.setBox, hbx])
   repeat' (first | refine xs ?_ ?_ <;> intros | (refine wn ?_; intro bx hbx; try simp only [fb] at hbx) | refine wp hct ?_ | refine wj ?_ | simp -dsimp only [↓bp, bq, br, seval, tbCodN, *] | refine wz ?_ | fail)
   have hlc : (Lib.compact (sortL [(p : Int) + 1])).length <= 1 /\ (sortL [(p : Int) + 1]).length = 1 /\ Lib.compact (sortL [(p : Int) + 1]) ≠ [] := len_one _
   obtain ⟨rr, rfl, hbr, hn0, hn1⟩ := hA.buf.form (by simp)
   have hbr' : σ3.box rr = some (([(p : Int) + 1]).map intA) := by rw [hbr]; simp [intA, flat]
   have hcp : ∀ {s0 : AS}, s0.box rr = some ((sortL [(p : Int) + 1]).map intA) -> Tri Tryz.prog G 43 [.bs rr 1 1 3] s0 fun r σ' => r = .bs rr (Lib.compact (sortL [(p : Int) + 1])).length 1 3 /\ σ' = s0.setBox rr ((compL (sortL [(p : Int) + 1])).map intA) := fun {s0} h0 => by
    have := compactI_tri (G := G) (sortL [(p : Int) + 1]) (by omega) (by omega) h0
    rw [hlc.2.1] at this; exact this
   have hso : Tri Tryz.prog G 41 [.bs rr 1 1 3] σ3 fun r σ' => r = .tup [] /\ σ' = σ3.setBox rr ((sortL [(p : Int) + 1]).map intA) := sortI_tri (G := G) [(p : Int) + 1] (by simp) hbr'
   repeat' (first | refine xs ?_ ?_ <;> intros | (refine wn ?_; intro bx hbx; try simp only [fb] at hbx) | ((refine Tri.mono hso ?_; rintro _ _ ⟨rfl, rfl⟩)) | ((refine Tri.mono (hcp AS.set_get) ?_; rintro _ _ ⟨rfl, rfl⟩)) | ((refine Tri.mono (cloneI_tri (Lib.compact (sortL [(p : Int) + 1])) (List.replicate ((sortL [(p : Int) + 1]).length - (Lib.compact (sortL [(p : Int) + 1])).length) 0) hlc.2.2 (by rw [List.length_replicate]; omega) AS.set_get) ?_; rintro r5 s5 hM)) | refine wj ?_ | simp -dsimp only [↓bp, bq, br, seval, tbCodN, *] | refine wz ?_ | fail)
   have hle5 : σ.le σ3 := AS.le.trans (by repeat' first | exact lr _ | assumption | refine ls ?_ ?_ | refine lt ?_ ?_ | simp only [*]; done | simp only [fb, *, not_false_eq_true, and_self]; done | exact lf ‹_› (by simp only [*])) hA.buf.le
   have hn5 : σ.box rr = none := by
    cases hx : σ.box rr with
    | none => rfl
    | some z => exact absurd hn0 (by rw [AS.le.box (σ := σ) (by repeat' first | exact lr _ | assumption | refine ls ?_ ?_ | refine lt ?_ ?_ | simp only [*]; done | simp only [fb, *, not_false_eq_true, and_self]; done | exact lf ‹_› (by simp only [*])) _ _ hx]; simp)
   have hW := wbuf_made ((hle5.setBox hn5 _).setBox hn5 _) hM
   rw [sorted_one] at hW
   exact finishW_some _ (AS.le.refl _) hW
  | true =>
   rw [if_pos rfl]
   refine Tri.of_awp mixed Tryz.func11 rfl (by kernel_rfl) (by kernel_rfl) (by simp [Tryz.ntmps11]) Tryz.results11 ?_
   repeat' (first | refine xs ?_ ?_ <;> intros | (refine wn ?_; intro bx hbx; try simp only [fb] at hbx) | refine wp ho ?_ | refine wp hct ?_ | ((refine app_wb (ys := [intA ((p : Int) + 1)]) (WBuf.nil (AS.le.refl _)) tfI (asrc_sl tfIE) (ints_ok [(p : Int) + 1]) (by simp) (fun v3 σ3 hA => ?_))) | refine wj ?_ | simp -dsimp only [↓bp, bq, br, seval, tbCodN, *] | refine wz ?_ | fail)
   rename_i b2 hf2
   have hb6 : σ3.box bx = some [.str w, .str fs, .bool true] := hA.buf.le.box _ _ AS.set_get
   have hb2 : σ3.box b2 = some [rowOf Ent.enc es, rowOf Ins.enc is, encs cs] := hA.buf.le.box _ _ (by simp [AS.setBox, hbx])
   have hB := hA.buf
   repeat' (first | refine xs ?_ ?_ <;> intros | (refine wn ?_; intro bx hbx; try simp only [fb] at hbx) | refine wp hct ?_ | ((refine app_wb (ys := [intA x.l]) (hB) tfI (asrc_sl tfIE) (ints_ok [x.l]) (by simp) (fun v4 σ4 hA4 => ?_))) | refine wj ?_ | simp -dsimp only [↓bp, bq, br, seval, tbCodN, *] | refine wz ?_ | fail)
   have hlc : (Lib.compact (sortL [(p : Int) + 1, x.l])).length <= 2 /\ (sortL [(p : Int) + 1, x.l]).length = 2 /\ Lib.compact (sortL [(p : Int) + 1, x.l]) ≠ [] := len_two _ _
   obtain ⟨rr, rfl, hbr, hn0, hn1⟩ := hA4.buf.form (by simp)
   have hbr' : σ4.box rr = some (([(p : Int) + 1, x.l]).map intA) := by rw [hbr]; simp [intA, flat]
   have hcp : ∀ {s0 : AS}, s0.box rr = some ((sortL [(p : Int) + 1, x.l]).map intA) -> Tri Tryz.prog G 43 [.bs rr 2 1 3] s0 fun r σ' => r = .bs rr (Lib.compact (sortL [(p : Int) + 1, x.l])).length 1 3 /\ σ' = s0.setBox rr ((compL (sortL [(p : Int) + 1, x.l])).map intA) := fun {s0} h0 => by
    have := compactI_tri (G := G) (sortL [(p : Int) + 1, x.l]) (by omega) (by omega) h0
    rw [hlc.2.1] at this; exact this
   have hso : Tri Tryz.prog G 41 [.bs rr 2 1 3] σ4 fun r σ' => r = .tup [] /\ σ' = σ4.setBox rr ((sortL [(p : Int) + 1, x.l]).map intA) := sortI_tri (G := G) [(p : Int) + 1, x.l] (by simp) hbr'
   repeat' (first | refine xs ?_ ?_ <;> intros | (refine wn ?_; intro bx hbx; try simp only [fb] at hbx) | ((refine Tri.mono hso ?_; rintro _ _ ⟨rfl, rfl⟩)) | ((refine Tri.mono (hcp AS.set_get) ?_; rintro _ _ ⟨rfl, rfl⟩)) | ((refine Tri.mono (cloneI_tri (Lib.compact (sortL [(p : Int) + 1, x.l])) (List.replicate ((sortL [(p : Int) + 1, x.l]).length - (Lib.compact (sortL [(p : Int) + 1, x.l])).length) 0) hlc.2.2 (by rw [List.length_replicate]; omega) AS.set_get) ?_; rintro r5 s5 hM)) | refine wj ?_ | simp -dsimp only [↓bp, bq, br, seval, tbCodN, *] | refine wz ?_ | fail)
   have hle5 : σ.le σ4 := AS.le.trans (by repeat' first | exact lr _ | assumption | refine ls ?_ ?_ | refine lt ?_ ?_ | simp only [*]; done | simp only [fb, *, not_false_eq_true, and_self]; done | exact lf ‹_› (by simp only [*])) hA4.buf.le
   have hn5 : σ.box rr = none := by
    cases hx : σ.box rr with
    | none => rfl
    | some z => exact absurd hn0 (by rw [AS.le.box (σ := σ) (by repeat' first | exact lr _ | assumption | refine ls ?_ ?_ | refine lt ?_ ?_ | simp only [*]; done | simp only [fb, *, not_false_eq_true, and_self]; done | exact lf ‹_› (by simp only [*])) _ _ hx]; simp)
   have hW := wbuf_made ((hle5.setBox hn5 _).setBox hn5 _) hM
   rw [sorted_two] at hW
   exact finishW_some _ (AS.le.refl _) hW
end
end Go.Proofs.YtjmdaeabllkgnaaGreatDoor
