/- CodeTells on abstract values. -/
import Derived.Test.YtjmdaeabllkgnaaGreatDoorZ31
import Derived.Test.YtjmdaeabllkgnaaGreatDoorZ34
import Derived.Test.YtjmdaeabllkgnaaGreatDoorZ41
import Derived.Test.YtjmdaeabllkgnaaGreatDoorZ25
set_option linter.unusedVariables false
set_option linter.unusedSimpArgs false
set_option maxRecDepth 20000
set_option linter.defProp false
namespace Go.Proofs.YtjmdaeabllkgnaaGreatDoor
open Go Go.Av
def tbLawCodTl := And.intro (And.intro (And.intro (And.intro @tf3 @tf4) (And.intro @tf5 @tf9)) (And.intro (And.intro @tf37 @tf39) (And.intro @tf30 (And.intro @tf35 @isv_rowOf)))) (And.intro (And.intro (And.intro @flat_rowOf @len_rowOf) (And.intro @ix_rowOf (And.intro @Ins.flat_enc @Ins.isv_enc))) (And.intro (And.intro @Ins.fold_enc @isv_rowA) (And.intro @flat_rowA (And.intro @ares_tmpc @ares_cellc))))
variable {G : Nat → AV}
theorem long_pure (i : Ins) (hi : i.bulk ≤ 1000000000) : Pure Tryz.prog G 18 [i.enc] (.bool (decide (5000 < i.slots.length) || decide (5000 < i.text.length))) := by
 have h1 : i.slots.length ≤ 1000000000 ∧ i.text.length ≤ 1000000000 := by unfold Ins.bulk at hi; omega
 clear hi
 intro σ
 by_cases ha : 5000 < i.slots.length
 ·have ha' : ((5000 : Int) < i.slots.length) = True := eq_true (by omega)
  rw [decide_eq_true ha, Bool.true_or]
  clear h1 ha
  refine Tri.of_awp mixed Tryz.func18 rfl (by kernel_rfl) (by kernel_rfl) (by simp [Tryz.ntmps18]) Tryz.results18 ?_
  repeat' (first | refine xs ?_ ?_ <;> intros | (refine wn ?_; intro bx hbx; try simp only [fb] at hbx) | refine wj ?_ | simp -dsimp only [↓bp, bq, br, seval, tbLawCodTl, *] | refine wz ?_ | fail)
  all_goals rfl
 ·have ha' : ((5000 : Int) < i.slots.length) = False := eq_false (by omega)
  rw [decide_eq_false ha, Bool.false_or]
  by_cases hb : 5000 < i.text.length
  ·have hb' : ((5000 : Int) < i.text.length) = True := eq_true (by omega)
   rw [decide_eq_true hb]
   clear h1 ha hb
   refine Tri.of_awp mixed Tryz.func18 rfl (by kernel_rfl) (by kernel_rfl) (by simp [Tryz.ntmps18]) Tryz.results18 ?_
   repeat' (first | refine xs ?_ ?_ <;> intros | (refine wn ?_; intro bx hbx; try simp only [fb] at hbx) | refine wj ?_ | simp -dsimp only [↓bp, bq, br, seval, tbLawCodTl, *] | refine wz ?_ | fail)
   all_goals rfl
  ·have hb' : ((5000 : Int) < i.text.length) = False := eq_false (by omega)
   rw [decide_eq_false hb]
   clear h1 ha hb
   refine Tri.of_awp mixed Tryz.func18 rfl (by kernel_rfl) (by kernel_rfl) (by simp [Tryz.ntmps18]) Tryz.results18 ?_
   repeat' (first | refine xs ?_ ?_ <;> intros | (refine wn ?_; intro bx hbx; try simp only [fb] at hbx) | refine wj ?_ | simp -dsimp only [↓bp, bq, br, seval, tbLawCodTl, *] | refine wz ?_ | fail)
   all_goals rfl
theorem row_lendI {σ : AS} {b : Nat} {l : List Int} (hb : σ.box b = some (l.map intA)) : Lend G σ (.bs b l.length 1 3) (rowOf intA l) := by
 have h := Lend.row (G := G) (σ := σ) (b := b) (s := 1) (E := 3) (cs := l.map intA) (ds := l.map intA) hb (by rw [List.take_length]; exact Lends.ids _) (Nat.le_refl _) (xs := l.map intA) (sp := []) (by rw [List.append_nil]; exact ints_cells l) (by omega) (fun e he => by
  rw [List.append_nil] at he
  obtain ⟨x, _, rfl⟩ := List.mem_map.1 he
  exact ⟨rfl, rfl, fun c hc => by simp [intA, flat] at hc; subst hc; rfl⟩)
 rw [List.length_map] at h
 exact h
theorem nil_lend {P : Program} {f : FuncId} {args args' : List AV} {σ : AS} (h : Pure P G f args' .nil) (hl : Lends G σ args args') : Tri P G f args σ fun r s => r = .nil ∧ s = σ :=
 Tri.back (Q := fun r => r = .nil) (lend_new G (h σ.shut) hl fun r s ⟨e, _⟩ _ => ⟨fun _ => false, by subst e; rfl, fun b hb => by simp at hb, e, AS.le_join _ _ _⟩)
theorem two_rowsI {r1 r2 n m : Nat} (h : r1 ≠ r2) : Distinct [some (r1, n), some (r2, m)] := by
 intro i j b n' m' hi hj
 match i, j, hi, hj with
 | 0, 0, hi, hj => rfl
 | 0, 1, hi, hj => simp at hi hj; exact absurd (hi.1.trans hj.1.symm) h
 | 1, 0, hi, hj => simp at hi hj; exact absurd (hj.1.trans hi.1.symm) h
 | 1, 1, hi, hj => rfl
 | 0, j + 2, hi, hj => simp at hj
 | 1, j + 2, hi, hj => simp at hj
 | i + 2, j, hi, hj => simp at hi
theorem made_lend {P : Program} {f : FuncId} {args args' : List AV} {n : Nat} {E : TypeId} {l : List Int} {σ : AS} (h : Tri P G f args' σ.shut fun r s => MadeRow n 1 E (l.map intA) σ.shut r s) (hl : Lends G σ args args') : Tri P G f args σ fun r s => MadeRow n 1 E (l.map intA) σ r s :=
 lend_new G h hl fun r s ⟨b, hr, hb, hle, h0, h1⟩ hn => by
  obtain ⟨g1, g2⟩ := hn b _ hb
  subst hr
  refine ⟨fun c => decide (c = b), by simp [ownV, ownC], fun c hc => ?_, b, rfl, ?_, AS.le_join _ _ _, g1, g2⟩
  ·have : c = b := by simpa using hc
   subst this
   refine ⟨_, hb, fun c hc => ?_⟩
   obtain ⟨x, _, rfl⟩ := List.mem_map.1 hc
   rfl
  ·simp only [AS.join, g1, decide_true, if_true]
   exact hb
theorem own_lend {σ : AS} {i : Ins} {b : Nat} (hb : σ.box b = some (i.slots.map intA ++ imarks)) : Lend G σ (i.own b) i.kent := by
 have h := Lend.row (G := G) (σ := σ) (b := b) (s := 1) (E := 3) (cs := i.slots.map intA ++ imarks) (ds := i.slots.map intA ++ imarks) hb (by rw [List.take_length]; exact Lends.ids _) (Nat.le_refl _) (xs := i.slots.map intA) (sp := imarks) (im_flat _ _) (by omega) (fun e he => by
  rcases List.mem_append.1 he with he | he
  ·obtain ⟨x, _, rfl⟩ := List.mem_map.1 he
   exact ⟨rfl, rfl, fun c hc => by simp [intA, flat] at hc; subst hc; rfl⟩
  ·obtain ⟨x, _, rfl⟩ := List.mem_map.1 he
   exact ⟨rfl, rfl, fun c hc => by simp [imk, flat] at hc; subst hc; rfl⟩)
 rw [List.length_map] at h
 refine Lend.agg (.cons (Lend.id _) (.cons (Lend.id _) (.cons (Lend.id _) (.cons (Lend.id _) (.cons (Lend.id _) (.cons (Lend.id _) (.cons (Lend.id _) (.cons h .nil)))))))) (fun c hc => ?_)
 simp only [List.mem_cons, List.not_mem_nil, or_false] at hc
 rcases hc with rfl | rfl | rfl | rfl | rfl | rfl | rfl | rfl <;> rfl
structure TL (G : Nat → AV) (i : Ins) (L : List Int) (W : Int) (O : Bool) (T : List UInt8) : Prop where
 w : Pure Tryz.prog G 9 [] (.bool true)
 g : Pure Tryz.prog G 18 [i.enc] (.bool false)
 l : ∀ σ, Tri Tryz.prog G 19 [i.enc] σ fun r σ' => ∃ b, r = i.own b ∧ LentAt σ σ' b i.slots
 r0 : L = [] → Pure Tryz.prog G 20 [i.kent] .nil
 r1 : L ≠ [] → ∀ σ : AS, Tri Tryz.prog G 20 [i.kent] σ fun r s => MadeRow L.length 1 3 (L.map intA) σ r s
 wr : Pure Tryz.prog G 21 [i.kent] (.tup [.int .i64 W, .bool O])
 tx : Pure Tryz.prog G 22 [i.kent] (.str T)
 k : Pure Tryz.prog G 23 [i.kent, i.enc] (.bool true)
 ov : ∀ (b : Nat) (σ : AS), σ.box b = some (i.slots.map intA ++ imarks) → Tri Tryz.prog G 24 [i.own b] σ fun r σ' => r = .tup [] ∧ LeX (fun c => c = b) σ σ'
 rw_ : Pure Tryz.prog G 25 [i.enc] (.tup [.int .i64 W, .bool O])
 rr : Pure Tryz.prog G 26 [i.enc] (rowOf intA L)
 rt : Pure Tryz.prog G 27 [i.enc] (.str T)
 sm : Pure Tryz.prog G 14 [rowOf intA L, rowOf intA L] (.bool true)
 hL : L.length ≤ 1000000000
set_option maxHeartbeats 4000000 in
theorem ctells_go {i : Ins} {L : List Int} {W : Int} {O : Bool} {T : List UInt8} (h : TL G i L W O T) : Pure Tryz.prog G 4 [i.enc] (.bool true) := by
 obtain ⟨w, g, l, r0, r1, wr, tx, k, ov, rw_, rr, rt, sm, hL⟩ := h
 have ho : ∀ b, i.own b = .agg [.int .u8 i.opI, .int .i64 i.a, .int .i64 i.b, .int .i64 i.c, .int .i64 i.n, .int .i64 i.l, .str i.text, .bs b i.slots.length 1 3] := fun _ => rfl
 intro σ
 refine Tri.back (Q := fun r => r = .bool true) ?_
 refine Tri.of_awp mixed Tryz.func4 rfl (by kernel_rfl) (by kernel_rfl) (by simp [Tryz.ntmps4]) Tryz.results4 ?_
 repeat' (first | (refine wn ?_; intro bx hbx; try simp only [fb] at hbx) | refine wp g ?_ | refine wi ?_ | simp -dsimp only [↓bp, bq, br, seval, tbLawCodTl, *] | refine wz ?_ | fail)
 rename Nat => b0
 rename σ.fresh b0 => hb0
 obtain ⟨S, hS⟩ : ∃ S : AS, S = σ.setBox b0 [.int .u8 i.opI, .int .i64 i.a, .int .i64 i.b, .int .i64 i.c, .int .i64 i.n, .int .i64 i.l, .str i.text, rowOf intA i.slots] := ⟨_, rfl⟩
 have hSb : S.box b0 = some [.int .u8 i.opI, .int .i64 i.a, .int .i64 i.b, .int .i64 i.c, .int .i64 i.n, .int .i64 i.l, .str i.text, rowOf intA i.slots] := by rw [hS]; exact AS.set_get
 have hSl : σ.le S := by rw [hS]; exact (AS.le.refl σ).setBox hb0.1 _
 rw [← hS]
 clear hS
 refine Tri.mono (l S) ?_
 rintro _ s1 ⟨b, rfl, hA⟩
 have e0 := hA.le.box _ _ hSb
 have nb : b ≠ b0 := fun e => by have := hA.b0; rw [e, hSb] at this; cases this
 have y0 : σ.box b = none := by
  cases e : σ.box b with
  | none => rfl
  | some cs => have := hSl.box _ _ e; rw [hA.b0] at this; cases this
 have hbx1 := hA.bx
 have l1 := hSl.trans hA.le
 rw [ho]
 clear l g hA hSb hSl hb0
 repeat' (first | (refine wn ?_; intro bx hbx; try simp only [fb] at hbx) | refine wi ?_ | simp -dsimp only [↓bp, bq, br, seval, tbLawCodTl, *] | refine wz ?_ | fail)
 obtain ⟨S2, hS2⟩ : ∃ S2 : AS, S2 = s1.setBox bx [.int .u8 i.opI, .int .i64 i.a, .int .i64 i.b, .int .i64 i.c, .int .i64 i.n, .int .i64 i.l, .str i.text, .bs b i.slots.length 1 3] := ⟨_, rfl⟩
 have f3 : S2.box bx = some [.int .u8 i.opI, .int .i64 i.a, .int .i64 i.b, .int .i64 i.c, .int .i64 i.n, .int .i64 i.l, .str i.text, .bs b i.slots.length 1 3] := by rw [hS2]; exact AS.set_get
 have hl2 : s1.le S2 := by rw [hS2]; exact (AS.le.refl s1).setBox hbx.1 _
 have l2 : σ.le S2 := l1.trans hl2
 have f0 := hl2.box _ _ e0
 have fb_ := hl2.box _ _ hbx1
 have nbx : b ≠ bx := fun e => by have := hbx.1; rw [← e, hbx1] at this; cases this
 rw [← hS2]
 clear hS2 hbx hl2 e0 hbx1 l1
 have hld : ∀ S : AS, S.box b = some (i.slots.map intA ++ imarks) → Lends G S [.agg [.int .u8 i.opI, .int .i64 i.a, .int .i64 i.b, .int .i64 i.c, .int .i64 i.n, .int .i64 i.l, .str i.text, .bs b i.slots.length 1 3]] [i.kent] := fun S hS => .cons (own_lend hS) .nil
 by_cases hLe : L = []
 ·-- nothing is read
  have h0 : PureC Tryz.prog G 20 [.agg [.int .u8 i.opI, .int .i64 i.a, .int .i64 i.b, .int .i64 i.c, .int .i64 i.n, .int .i64 i.l, .str i.text, .bs b i.slots.length 1 3]] S2 .nil := fun σ' hl => nil_lend (r0 hLe) (hld σ' (hl.box _ _ fb_))
  clear r1 r0
  subst hLe
  have HX : ∀ s4, LeX (fun c => c = b) S2 s4 → Tri Tryz.prog G 14 [.nil, rowOf intA []] s4 fun r s => r = .bool true ∧ s = s4 := fun s4 _ => (sm.lessArgs (.cons Le.nil (.cons (Le.refl _) .nil))) s4
  have HA : ∀ s4, LeX (fun c => c = b) S2 s4 → Tri Tryz.prog G 17 [.sl .full [.nil, .nil] []] s4 fun r s5 => r = .bool true ∧ LeX (InS [none, none]) s4 s5 := fun s4 _ => apartInts_tri G [none, none] .full (fun i j b n m hi hj => by
   match i, hi with
   | 0, hi => simp at hi
   | 1, hi => simp at hi
   | i + 2, hi => simp at hi) (by simp) (fun k r hr => by
   match k, hr with
   | 0, hr => simp at hr; subst hr; simp [rlen]
   | 1, hr => simp at hr; subst hr; simp [rlen]
   | k + 2, hr => simp at hr) s4 (fun j b n hj => by
   match j, hj with
   | 0, hj => simp at hj
   | 1, hj => simp at hj
   | j + 2, hj => simp at hj)
  have HF : ∀ s4, LeX (fun c => c = b) S2 s4 → ∀ s5, LeX (InS [none, none]) s4 s5 → σ.le s5 := fun s4 h4 s5 h5 => ⟨fun c cs hc => h5.box c cs (fun ⟨n, hn⟩ => by simp at hn) (h4.box c cs (fun e => by subst e; rw [y0] at hc; cases hc) (l2.box c cs hc)), fun c x hc => h5.tip c x (h4.tip c x (l2.tip c x hc)), fun c x hc => h5.ty c x (h4.ty c x (l2.ty c x hc))⟩
  repeat' (first | refine xs ?_ ?_ <;> intros | (refine wn ?_; intro bx hbx; try simp only [fb] at hbx) | (refine PureC.head h0 (AS.le.refl _) ?_) | refine wj ?_ | simp -dsimp only [↓bp, bq, br, seval, tbLawCodTl, *] | refine wz ?_ | fail)
  clear h0 sm y0 l2 nbx
  generalize S2 = S3 at *
  have hwr := wr.lend (σ := S3) rfl (hld S3 fb_)
  have htx := tx.lend (σ := S3) rfl (hld S3 fb_)
  have hk := k.lend (σ := S3) rfl (.cons (own_lend fb_) (.cons (Lend.id _) .nil))
  have hov := ov b S3 fb_
  rw [ho] at hov hk
  clear wr tx k ov hld ho
  repeat' (first | refine xs ?_ ?_ <;> intros | (refine wn ?_; intro bx hbx; try simp only [fb] at hbx) | ((refine Tri.mono hwr ?_; rintro r s ⟨rfl, rfl⟩)) | ((refine Tri.mono htx ?_; rintro r s ⟨rfl, rfl⟩)) | ((refine Tri.mono hk ?_; rintro r s ⟨rfl, rfl⟩)) | ((refine Tri.mono hov ?_; rintro r s4 ⟨rfl, hX0⟩)) | refine wj ?_ | simp -dsimp only [↓bp, bq, br, seval, tbLawCodTl, *] | refine wz ?_ | fail)
  have k0 := hX0.box b0 _ (Ne.symm nb) f0
  have hx := HX _ hX0
  have hA := HA _ hX0
  have hF := HF _ hX0
  clear hwr htx hk hov HX HA HF f0 f3 fb_ hX0
  repeat' (first | refine xs ?_ ?_ <;> intros | (refine wn ?_; intro bx hbx; try simp only [fb] at hbx) | refine wp rw_ ?_ | refine wp rr ?_ | refine wp rt ?_ | ((refine Tri.mono hx ?_; rintro r s3 ⟨rfl, rfl⟩)) | ((refine Tri.mono hA ?_; rintro r s5 ⟨rfl, hX⟩)) | refine wp w ?_ | refine wj ?_ | simp -dsimp only [↓bp, bq, br, seval, tbLawCodTl, *] | refine wz ?_ | fail)
  all_goals exact finishW_some _ (AS.le.refl _) ⟨rfl, hF _ hX⟩
 ·have hr := r1 hLe
  clear r1 r0
  have hn0 : L.length ≤ 1000000000 := hL
  refine draw_mk [1, 3] (fun _ => Mk.row L.length 1 3 (L.map intA)) 6 (by decide +kernel) rfl rfl ?_
  intro hinf
  refine m_read (v := .agg [.int .u8 i.opI, .int .i64 i.a, .int .i64 i.b, .int .i64 i.c, .int .i64 i.n, .int .i64 i.l, .str i.text, .bs b i.slots.length 1 3]) rfl (by simp only [rdv]; simp -dsimp only [↓bp, bq, br, seval, tbLawCodTl, *]) ?_
  refine m_made rfl rfl (fun σ' hle => ?_) (fun q1 hf1 => ?_)
  ·simp -dsimp only [↓bp, bq, br, seval, tbLawCodTl]
   exact (made_lend (hr σ'.shut) (hld σ' (hle.box _ _ fb_))).madeRow
  refine m_read (v := .agg [.int .u8 i.opI, .int .i64 i.a, .int .i64 i.b, .int .i64 i.c, .int .i64 i.n, .int .i64 i.l, .str i.text, .bs b i.slots.length 1 3]) rfl (by simp only [rdv]; simp -dsimp only [↓bp, bq, br, seval, tbLawCodTl, *]) ?_
  refine m_made rfl rfl (fun σ' hle => ?_) (fun q2 hf2 => ?_)
  ·simp -dsimp only [↓bp, bq, br, seval, tbLawCodTl]
   exact (made_lend (hr σ'.shut) (hld σ' (hle.box _ _ fb_))).madeRow
  refine m_read (v := .bs q1 L.length 1 3) rfl (by simp only [rdv]; simp -dsimp only [↓bp, bq, br, seval, tbLawCodTl]; first | done | rfl) ?_
  refine m_read (v := .bs q2 L.length 1 3) rfl (by simp only [rdv]; simp -dsimp only [↓bp, bq, br, seval, tbLawCodTl]; first | done | rfl) ?_
  refine Eq.mpr m_nil ?_
  have hne : q1 ≠ q2 := fun e => by
   have := hf2.1
   rw [← e] at this
   simp [Mk.row, AS.setBox] at this
  have n1 : q1 ≠ b := fun e => by have := hf1.1; rw [e, fb_] at this; cases this
  have z1 : S2.box q1 = none := hf1.1
  have z2 : S2.box q2 = none := by
   have := hf2.1
   simpa [AS.setBox, Ne.symm hne] using this
  have n2 : q2 ≠ b := fun e => by rw [e, fb_] at z2; cases z2
  obtain ⟨S3, hS3⟩ : ∃ S3 : AS, S3 = (S2.setBox q1 (Mk.row L.length 1 3 (L.map intA)).box).setBox q2 (Mk.row L.length 1 3 (L.map intA)).box := ⟨_, rfl⟩
  have hl3 : S2.le S3 := by rw [hS3]; exact ((AS.le.refl S2).setBox z1 _).setBox z2 _
  have w1 : S3.box q1 = some (L.map intA) := by rw [hS3]; simp [AS.setBox, Mk.row, hne]
  have w2 : S3.box q2 = some (L.map intA) := by rw [hS3]; simp [AS.setBox, Mk.row]
  rw [← hS3]
  simp only [Mk.row]
  have y1 : σ.box q1 = none := l2.noBox z1
  have y2 : σ.box q2 = none := l2.noBox z2
  have l3 := l2.trans hl3
  replace f3 := hl3.box _ _ f3
  replace f0 := hl3.box _ _ f0
  replace fb_ := hl3.box _ _ fb_
  have HX : ∀ s4, LeX (fun c => c = b) S3 s4 → Tri Tryz.prog G 14 [.bs q1 L.length 1 3, rowOf intA L] s4 fun r s => r = .bool true ∧ s = s4 := fun s4 h4 => sm.lend rfl (.cons (row_lendI (h4.box _ _ n1 w1)) (.cons (Lend.id _) .nil))
  have HA : ∀ s4, LeX (fun c => c = b) S3 s4 → Tri Tryz.prog G 17 [.sl .full [.bs q1 L.length 1 3, .bs q2 L.length 1 3] []] s4 fun r s5 => r = .bool true ∧ LeX (InS [some (q1, L.length), some (q2, L.length)]) s4 s5 := fun s4 h4 => apartInts_tri G [some (q1, L.length), some (q2, L.length)] .full (two_rowsI hne) (by simp) (fun k r hr => by
   match k, hr with
   | 0, hr => simp at hr; subst hr; exact hn0
   | 1, hr => simp at hr; subst hr; exact hn0
   | k + 2, hr => simp at hr) s4 (fun j b n hj => by
   match j, hj with
   | 0, hj => simp at hj; obtain ⟨rfl, rfl⟩ := hj; exact ⟨_, h4.box _ _ n1 w1, by rw [List.length_map]; omega⟩
   | 1, hj => simp at hj; obtain ⟨rfl, rfl⟩ := hj; exact ⟨_, h4.box _ _ n2 w2, by rw [List.length_map]; omega⟩
   | j + 2, hj => simp at hj)
  have HF : ∀ s4, LeX (fun c => c = b) S3 s4 → ∀ s5, LeX (InS [some (q1, L.length), some (q2, L.length)]) s4 s5 → σ.le s5 := fun s4 h4 s5 h5 => ⟨fun c cs hc => h5.box c cs (fun ⟨n, hn⟩ => by
   simp only [List.mem_cons, Option.some.injEq, Prod.mk.injEq, List.not_mem_nil, or_false] at hn
   rcases hn with ⟨rfl, _⟩ | ⟨rfl, _⟩
   ·rw [y1] at hc; cases hc
   ·rw [y2] at hc; cases hc) (h4.box c cs (fun e => by subst e; rw [y0] at hc; cases hc) (l3.box c cs hc)), fun c x hc => h5.tip c x (h4.tip c x (l3.tip c x hc)), fun c x hc => h5.ty c x (h4.ty c x (l3.ty c x hc))⟩
  clear hS3 hf1 hf2 hl3 w1 w2 y1 y2 y0 l2 l3 z1 z2 n1 n2 hr sm nbx hinf hne hLe
  have hwr := wr.lend (σ := S3) rfl (hld S3 fb_)
  have htx := tx.lend (σ := S3) rfl (hld S3 fb_)
  have hk := k.lend (σ := S3) rfl (.cons (own_lend fb_) (.cons (Lend.id _) .nil))
  have hov := ov b S3 fb_
  rw [ho] at hov hk
  clear wr tx k ov hld ho
  repeat' (first | refine xs ?_ ?_ <;> intros | (refine wn ?_; intro bx hbx; try simp only [fb] at hbx) | ((refine Tri.mono hwr ?_; rintro r s ⟨rfl, rfl⟩)) | ((refine Tri.mono htx ?_; rintro r s ⟨rfl, rfl⟩)) | ((refine Tri.mono hk ?_; rintro r s ⟨rfl, rfl⟩)) | ((refine Tri.mono hov ?_; rintro r s4 ⟨rfl, hX0⟩)) | refine wj ?_ | simp -dsimp only [↓bp, bq, br, seval, tbLawCodTl, *] | refine wz ?_ | fail)
  have k0 := hX0.box b0 _ (Ne.symm nb) f0
  have hx := HX _ hX0
  have hA := HA _ hX0
  have hF := HF _ hX0
  clear hwr htx hk hov HX HA HF f0 f3 fb_ hX0
  repeat' (first | refine xs ?_ ?_ <;> intros | (refine wn ?_; intro bx hbx; try simp only [fb] at hbx) | refine wp rw_ ?_ | refine wp rr ?_ | refine wp rt ?_ | ((refine Tri.mono hx ?_; rintro r s3 ⟨rfl, rfl⟩)) | ((refine Tri.mono hA ?_; rintro r s5 ⟨rfl, hX⟩)) | refine wp w ?_ | refine wj ?_ | simp -dsimp only [↓bp, bq, br, seval, tbLawCodTl, *] | refine wz ?_ | fail)
  all_goals exact finishW_some _ (AS.le.refl _) ⟨rfl, hF _ hX⟩
end Go.Proofs.YtjmdaeabllkgnaaGreatDoor
