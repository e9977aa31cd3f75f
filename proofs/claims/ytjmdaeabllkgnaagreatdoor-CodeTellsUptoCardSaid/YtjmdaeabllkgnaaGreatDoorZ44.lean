/- CodeTells on abstract values: joined. -/
import Derived.Test.YtjmdaeabllkgnaaGreatDoorZ42
import Derived.Test.YtjmdaeabllkgnaaGreatDoorZ43
import Derived.Test.YtjmdaeabllkgnaaGreatDoorZ22
import Derived.Test.YtjmdaeabllkgnaaGreatDoorRows
import Derived.Test.YtjmdaeabllkgnaaGreatDoorZ19
import Derived.Test.YtjmdaeabllkgnaaGreatDoorZ31
import Derived.Test.YtjmdaeabllkgnaaGreatDoorZ23
set_option linter.unusedVariables false
set_option linter.unusedSimpArgs false
set_option maxRecDepth 20000
set_option linter.defProp false
namespace Go.Proofs.YtjmdaeabllkgnaaGreatDoor
open Go Go.Av
section
def tbLawCodTm := And.intro (And.intro (And.intro @tf3 @tf4) (And.intro @tf5 (And.intro @tf9 @tf37))) (And.intro (And.intro @tf39 @tf30) (And.intro @Ins.flat_enc (And.intro @Ins.isv_enc @Ins.fold_enc)))
variable {G : Nat → AV}
theorem ctells_long {i : Ins} (w : Pure Tryz.prog G 9 [] (.bool true)) (g : Pure Tryz.prog G 18 [i.enc] (.bool true)) : Pure Tryz.prog G 4 [i.enc] (.bool true) := by
 intro σ
 refine Tri.of_awp mixed Tryz.func4 rfl (by kernel_rfl) (by kernel_rfl) (by simp [Tryz.ntmps4]) Tryz.results4 ?_
 repeat' (first | refine xs ?_ ?_ <;> intros | (refine wn ?_; intro bx hbx; try simp only [fb] at hbx) | refine wp g ?_ | refine wp w ?_ | refine wj ?_ | simp -dsimp only [↓bp, bq, br, seval, tbLawCodTm, *] | refine wz ?_ | fail)
 all_goals rfl
theorem ctells_law (hg : GlobC G) (i : Ins) (hi : i.bulk ≤ 2000000) (hr : i.Rng) : Pure Tryz.prog G 4 [i.enc] (.bool true) := by
 have w := awake_pure hg
 have g := long_pure (G := G) i (by omega)
 cases hb : (decide (5000 < i.slots.length) || decide (5000 < i.text.length)) with
 | true => rw [hb] at g; exact ctells_long w g
 | false =>
  rw [hb] at g
  have hs : i.bulk ≤ 1000000 := by
   simp only [Bool.or_eq_false_iff, decide_eq_false_iff_not] at hb
   unfold Ins.bulk
   omega
  have hlt : (reads i).length ≤ 1000000000 := by
   have h1 := readsF_len i (shpOf i.op).fields
   have hfa := op_all (p := fun op => asciiF (shpOf op).fields) fields_ascii i.op
   have hfl : (shpOf i.op).fields.length ≤ 4 := by unfold asciiF at hfa; rw [Bool.and_eq_true, decide_eq_true_eq] at hfa; exact hfa.1
   have hsl : i.slots.length ≤ 1000000 := by unfold Ins.bulk at hs; omega
   exact Nat.le_trans h1 (Nat.le_trans (Nat.mul_le_mul hfl (Nat.add_le_add_right hsl 1)) (by omega))
  have sm := sameInts_pure G (reads i) (reads i) hlt hlt
  rw [decide_eq_true rfl] at sm
  exact ctells_go (L := reads i) (W := if writesB i = true then i.a else 0) (O := writesB i) (T := textOf i) {
   w := w, g := g
   l := lentIns_tri G i (by omega)
   r0 := fun h => (reads_nil hg i hs h).lessArgs (.cons i.kent_le .nil)
   r1 := fun h σ => Tri.weaken (.cons i.kent_le .nil) (reads_row hg i hs h σ)
   wr := (writes_pure hg i).lessArgs (.cons i.kent_le .nil)
   tx := (codText_pure hg i hr hs (pieces_len i hr hs)).lessArgs (.cons i.kent_le .nil)
   k := keptIns_pure G i (by omega)
   ov := fun b σ hb => overIns_tri G i (by omega) b σ hb
   rw_ := rwrites_pure G i
   rr := rreads_pure G i (by omega)
   rt := rtext18_pure G i hr hs
   sm := sm
   hL := hlt }
end
set_option maxRecDepth 100000
section
open Go Go.Av Go.RowKit
variable {H : Type}
theorem u8_of {m : Int} (h : (Lit.int .u8 m).wf = true) : ∃ k : UInt8, m = (k.toNat : Int) := by
 have hr : 0 ≤ m ∧ m < 256 := by
  have h0 : IntKind.u8.min = 0 := by decide
  have h1 : IntKind.u8.max = 255 := by decide
  simp only [Lit.wf, Bool.and_eq_true, decide_eq_true_eq, h0, h1] at h
  omega
 refine ⟨UInt8.ofNat m.toNat, ?_⟩
 rw [UInt8.toNat_ofNat']
 omega
def S : List TypeId := [58, 55, 4, 56, 169, 9, 3, 24, 242, 5, 171, 282]
theorem laid_tab {P : Program} {W : World} {S : List TypeId} (hS : closedT P S = true) {laid : List (String × DataW Unit)} (hL : laidMet P laid W) {n : String} {d : DataW Unit} (hm : (n, d) ∈ laid) {g : Nat} {t : TypeId} (hg : P.globalNamed n = some g)
  (ht : (P.globals[g]?).map (·.type) = some t) (htS : t ∈ S) {k : IntKind} {zs : List Int} (hcs : flat (avW d) = zs.map fun z => .int k z) : VR (entryK W) (.tab (zs.map fun z => .int k z)) (.pointer (some ⟨g, 0, none⟩)) := by
 obtain ⟨ps, h1, _⟩ := hL
 obtain ⟨g', t', vs, fuel, p, hg', ht', hvar, hd⟩ := laidVars_mem laid ps h1 hm
 obtain rfl := Option.some.inj (hg.symm.trans hg')
 obtain rfl := Option.some.inj (ht.symm.trans ht')
 obtain ⟨_, h2, _⟩ := read_all (K := entryK W) hS (fun b o v h => h) fuel t _ _ htS hd
 simp only [hcs] at h2
 have hsz := h2.size
 have hv : vs = (zs.map fun z => Value.int k z).toArray := by
  apply Array.toList_inj.1
  refine List.ext_getElem? fun j => ?_
  by_cases hj : j < zs.length
  ·have h3 := h2.at_ j (by simpa using hj)
   simp only [List.getElem_map, VR.int_iff] at h3
   have hj2 : j < vs.toList.length := by rw [hsz]; simpa using hj
   rw [List.getD_eq_getElem?_getD, List.getElem?_eq_getElem hj2] at h3
   simp only [Option.getD_some] at h3
   rw [List.getElem?_eq_getElem hj2, h3]
   simp [hj]
  ·rw [List.getElem?_eq_none (by simp at hsz ⊢; omega), List.getElem?_eq_none (by simp; omega)]
 unfold World.var? at hvar
 rw [hg] at hvar
 simp only [Option.bind_some] at hvar
 cases hw : W.heap[g]? with
 | none => rw [hw] at hvar; simp at hvar
 | some o =>
  rw [hw] at hvar
  cases o with
  | cells cs E fz =>
   simp only [Option.some.injEq] at hvar
   subst hvar
   rw [hv] at hw
   exact .tab _ g E fz (Array.getElem?_eq_some_iff.1 hw).1 hw
  | _ => simp at hvar
end
set_option maxRecDepth 100000
section
open Go Go.Av Go.RowKit Go.ChangeShapes
variable {H : Type}
theorem i64_ofR {m : Int} (h : (Lit.int .i64 m).wf = true) : i64R m := by
 have h0 : IntKind.i64.min = -9223372036854775808 := by decide
 have h1 : IntKind.i64.max = 9223372036854775807 := by decide
 simp only [Lit.wf, Bool.and_eq_true, decide_eq_true_eq, h0, h1] at h
 exact h
theorem bulkL_le {α : Type} {f : α → Nat} {p : α → Prop} {l : List α} {xs : List (DataW H)} (hl : l.length = xs.length) (h : ∀ (i : Nat) x a, xs[i]? = some x → l[i]? = some a → f a ≤ Rows.uptoBulk x ∧ p a) : bulkL f l ≤ Rows.uptoBulkAll xs ∧ ∀ a, a ∈ l → p a := by
 induction l generalizing xs with
 | nil => exact ⟨by simp [bulkL], fun a ha => by cases ha⟩
 | cons a l ih =>
  cases xs with
  | nil => simp at hl
  | cons x xs =>
   have h0 := h 0 x a rfl rfl
   have h1 := ih (xs := xs) (by simpa using hl) (fun i y b hy hb => h (i + 1) y b (by simpa using hy) (by simpa using hb))
   refine ⟨by simp only [bulkL, Rows.uptoBulkAll]; omega, fun b hb => ?_⟩
   rcases List.mem_cons.1 hb with rfl | hb
   ·exact h0.2
   ·exact h1.2 b hb
theorem read_intR (n : Nat) (d : DataW H) (h : tyW Tryz.prog n 3 d) : ∃ m : Int, avW d = intA m ∧ (1 ≤ Rows.uptoBulk d ∧ i64R m) := by
 obtain ⟨k, rfl, hk⟩ := tyW_int h Tryz.underlying3
 exact ⟨k, by simp [avW, intA], by simp only [Rows.uptoBulk]; omega, i64_ofR hk⟩
theorem len_bulk1 {α : Type} (l : List α) : bulkL (fun _ => 1) l = l.length := by
 induction l with
 | nil => rfl
 | cons x l ih => simp only [bulkL, ih, List.length_cons]; omega
theorem read_ins (n : Nat) (d : DataW H) (h : tyW Tryz.prog n 39 d) : ∃ x : Ins, avW d = x.enc ∧ (x.bulk ≤ Rows.uptoBulk d ∧ x.Rng) := by
 obtain ⟨ds, m, rfl, rfl, hl, hf⟩ := tyW_struct h Tryz.underlying39
 match ds, hl with
 | [d0, d1, d2, d3, d4, d5, d6, d7], _ =>
  obtain ⟨k0, rfl, hk0⟩ := tyW_int (hf 0 _ d0 rfl rfl) Tryz.underlying37
  obtain ⟨u0, rfl⟩ := u8_of hk0
  obtain ⟨k1, rfl, hk1⟩ := tyW_int (hf 1 _ d1 rfl rfl) Tryz.underlying3
  obtain ⟨k2, rfl, hk2⟩ := tyW_int (hf 2 _ d2 rfl rfl) Tryz.underlying3
  obtain ⟨k3, rfl, hk3⟩ := tyW_int (hf 3 _ d3 rfl rfl) Tryz.underlying3
  obtain ⟨k4, rfl, hk4⟩ := tyW_int (hf 4 _ d4 rfl rfl) Tryz.underlying3
  obtain ⟨k5, rfl, hk5⟩ := tyW_int (hf 5 _ d5 rfl rfl) Tryz.underlying3
  obtain ⟨s6, rfl, hs6⟩ := tyW_str (hf 6 _ d6 rfl rfl) Tryz.underlying9
  obtain ⟨xs7, sp7, q7, hx7, hq7, hxs7⟩ := tyW_slice (hf 7 _ d7 rfl rfl) Tryz.underlying30
  obtain ⟨l7, h17, h27, h37⟩ := slice_dec (enc := intA) (good := fun x a => 1 ≤ Rows.uptoBulk x ∧ i64R a) (fun x hx => read_intR q7 x hx) xs7 hxs7
  have hb7 := bulkL_le (f := (fun _ => 1)) (p := i64R) h27 h37
  rw [len_bulk1] at hb7
  refine ⟨⟨u0, k1, k2, k3, k4, k5, s6, l7⟩, ?_, ?_, ⟨i64_ofR hk1, i64_ofR hk2, i64_ofR hk3, i64_ofR hk4, i64_ofR hk5, hb7.2⟩⟩
  ·have e7 : flat (avW d7) = [.sl .none (l7.map intA) []] := by
    rcases hx7 with ⟨rfl, rfl⟩ | rfl
    ·simp only [avWs, List.length_nil, List.length_eq_zero_iff] at h17 h27
     subst h27
     simp [avW, flat]
    ·simp [avW, flat, h17]
   have ee : avW (.agg [.lit (.int .u8 u0.toNat), .lit (.int .i64 k1), .lit (.int .i64 k2), .lit (.int .i64 k3), .lit (.int .i64 k4), .lit (.int .i64 k5), .lit (.string s6), d7] : DataW H) = .agg (flat (.int .u8 u0.toNat) ++ (flat (.int .i64 k1) ++ (flat (.int .i64 k2) ++ (flat (.int .i64 k3) ++ (flat (.int .i64 k4) ++ (flat (.int .i64 k5) ++ (flat (.str s6) ++ (flat (avW d7) ++ [])))))))) := by
    simp [avW, flatsW]
   rw [ee, e7]
   simp [flat, Ins.enc, rowOf, encs, Ins.opI]
  ·have hb7 := hb7.1
   unfold Ins.bulk
   rcases hx7 with ⟨rfl, rfl⟩ | rfl <;> simp only [Rows.uptoBulk, Rows.uptoBulkAll] at hb7 ⊢ <;> omega
end
set_option maxRecDepth 100000
section
open Go Go.Av Go.RowKit Go.ChangeShapes
variable {H : Type}
def SC : List TypeId := [58, 55, 4, 56, 169, 9, 3, 24, 242, 5, 171, 282, 37, 39, 23, 30, 53, 22, 26, 66, 112, 257, 258]
theorem closedSC : closedT Tryz.prog SC = true := by kernel_rfl
def GvC (m : Int) : Nat → AV := fun g => if g = 1 then .rp (words.map AV.str) else if g = 4 then .tab powV else if g = 0 then .rp shpCells else if g = 3 then .rp builtinCells else if g = 2 then .rp [.int .i64 m] else .raw (.pointer (some ⟨g, 0, none⟩))
theorem globGvC (m : Int) : GlobC (GvC m) := { words := rfl, pow := rfl, shapes := rfl, builtin := rfl, most := ⟨m, rfl⟩ }
theorem shapes_av : flat (avW (H := Unit) Rows.laid_pigeonhole_code_shapes) = shpCells := by kernel_rfl
theorem builtin_av : flat (avW (H := Unit) Rows.laid_pigeonhole_lint_builtin) = builtinCells := by kernel_rfl
theorem int_globC {W : World} {g : Nat} (h : ∃ m, W.cell? ⟨g, 0, none⟩ = some (.int .i64 m)) : ∃ m : Int, VR (entryK W) (.rp [.int .i64 m]) (.pointer (some ⟨g, 0, none⟩)) := by
 obtain ⟨m, hm⟩ := h
 refine ⟨m, .rp _ g 0 (fun _ => .int .i64 m) (fun c hc => by simp at hc; subst hc; rfl) (fun j hj => ?_) (fun j hj => ?_)⟩
 ·have : j = 0 := by simpa using hj
  subst this; exact hm
 ·have : j = 0 := by simpa using hj
  subst this; exact .int .i64 m
theorem entry_globC {W : World} {laid : List (String × DataW Unit)} (hL : laidMet Tryz.prog laid W) (h1 : ("pigeonhole/term.words", Rows.laid_pigeonhole_term_words) ∈ laid) (h2 : ("internal/strconv.uint64pow10", Rows.laid_internal_strconv_uint64pow10) ∈ laid) (h3 : ("pigeonhole/code.shapes", Rows.laid_pigeonhole_code_shapes) ∈ laid) (h4 : ("pigeonhole/lint.builtin", Rows.laid_pigeonhole_lint_builtin) ∈ laid)
  (hsh : W.ShapedOpen Tryz.prog) : ∃ m, ∀ g, VR (entryK W) (GvC m g) (.pointer (some ⟨g, 0, none⟩)) := by
 have g0 : VR (entryK W) (.rp (words.map AV.str)) (.pointer (some ⟨1, 0, none⟩)) :=
  laid_glob closedSC hL (n := "pigeonhole/term.words") h1 (g := 1) (t := 242) (by kernel_rfl) (by kernel_rfl) (by decide) (by kernel_rfl)
 have g1 : VR (entryK W) (.tab powV) (.pointer (some ⟨4, 0, none⟩)) :=
  laid_tab closedSC hL (n := "internal/strconv.uint64pow10") h2 (g := 4) (t := 282) (k := .u64) (zs := Lib.pow10Tab) (by kernel_rfl) (by kernel_rfl) (by decide) (by kernel_rfl)
 have g2 : VR (entryK W) (.rp shpCells) (.pointer (some ⟨0, 0, none⟩)) :=
  laid_glob closedSC hL (n := "pigeonhole/code.shapes") h3 (g := 0) (t := 112) (by kernel_rfl) (by kernel_rfl) (by decide) shapes_av
 have g3 : VR (entryK W) (.rp builtinCells) (.pointer (some ⟨3, 0, none⟩)) :=
  laid_glob closedSC hL (n := "pigeonhole/lint.builtin") h4 (g := 3) (t := 258) (by kernel_rfl) (by kernel_rfl) (by decide) builtin_av
 have g4 : ∃ m, W.cell? ⟨2, 0, none⟩ = some (.int .i64 m) :=
  Go.Proofs.cell_of_shapedOpen_int (zero := #[.int .i64 0]) (t := 3) hsh (of_decide_eq_true (by kernel_rfl)) (by kernel_rfl) rfl (by kernel_rfl) (by kernel_rfl) Tryz.underlying3
 obtain ⟨m, g4⟩ := int_globC g4
 refine ⟨m, fun g => ?_⟩
 unfold GvC
 by_cases e0 : g = 1
 ·subst e0; exact g0
 by_cases e1 : g = 4
 ·subst e1; exact g1
 by_cases e2 : g = 0
 ·subst e2; exact g2
 by_cases e3 : g = 3
 ·subst e3; exact g3
 by_cases e4 : g = 2
 ·subst e4; exact g4
 rw [if_neg e0, if_neg e1, if_neg e2, if_neg e3, if_neg e4]; exact .raw _
end
end Go.Proofs.YtjmdaeabllkgnaaGreatDoor
