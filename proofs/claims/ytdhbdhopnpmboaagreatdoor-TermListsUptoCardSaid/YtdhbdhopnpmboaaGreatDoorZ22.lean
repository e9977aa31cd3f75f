/- TermLists on abstract values. -/
import Derived.Test.YtdhbdhopnpmboaaGreatDoorZ19
import Derived.Test.YtdhbdhopnpmboaaGreatDoorZ21
import Derived.Test.YtdhbdhopnpmboaaGreatDoorZ13
import Derived.Test.YtdhbdhopnpmboaaGreatDoorRows
import Derived.Test.YtdhbdhopnpmboaaGreatDoorZ11
set_option linter.unusedVariables false
set_option linter.unusedSimpArgs false
set_option maxRecDepth 20000
set_option linter.defProp false
namespace Go.Proofs.YtdhbdhopnpmboaaGreatDoor
open Go Go.Av
section
def tbLTermLists := And.intro (And.intro (And.intro (And.intro @tf3 @tf4) (And.intro @tf5 (And.intro @tf47 @tf9))) (And.intro (And.intro @tf23 (And.intro @tf22 @tf24)) (And.intro @tf26 (And.intro @tf36 @Term.flat_enc)))) (And.intro (And.intro (And.intro @Term.isv_enc @Term.fold_enc) (And.intro @isv_encs (And.intro @flat_encs @len_encs))) (And.intro (And.intro @isv_lims (And.intro @flat_lims @ares_cons2)) (And.intro @ares1_tmp (And.intro @ares1_cell @aresk_some))))
variable {G : Nat -> AV}
def Two2 (m : Bool) (t u : Term) (σ s : AS) (x y : AV) : Prop := ∃ b7 b8 l1 k1 t1 l2 k2 t2 A B, x = .ptr b7 0 /\ y = .ptr b8 0 /\ s.box b7 = some [.int .u8 t.knd, .bool t.neg, l1, .str t.text, .int .i64 t.num, k1, t1] /\ s.box b8 = some [.int .u8 u.knd, .bool u.neg, l2, .str u.text, .int .i64 u.num, k2, t2] /\
  OwnT s m t (.agg [.int .u8 t.knd, .bool t.neg, l1, .str t.text, .int .i64 t.num, k1, t1]) A /\ OwnT s m u (.agg [.int .u8 u.knd, .bool u.neg, l2, .str u.text, .int .i64 u.num, k2, t2]) B /\ NewS σ s (b7 :: b8 :: (A ++ B))
theorem two_store {σ s : AS} {m : Bool} {t u : Term} {F : Nat -> List Nat} (k1 k2 k3 k4 : Nat) {b7 b8 : Nat} {l1 q1 t1 l2 q2 t2 : AV} (hF : NewF σ s F) (h1 : OwnT s m t (.agg [.int .u8 t.knd, .bool t.neg, l1, .str t.text, .int .i64 t.num, q1, t1]) (F k1)) (h2 : OwnT s m u (.agg [.int .u8 u.knd, .bool u.neg, l2, .str u.text, .int .i64 u.num, q2, t2]) (F k2)) (e7 : F k3 = [b7]) (e8 : F k4 = [b8]) (hk : k1 ≠ k2 /\ k1 ≠ k3 /\ k1 ≠ k4 /\ k2 ≠ k3 /\ k2 ≠ k4 /\ k3 ≠ k4) :
  Two2 m t u σ ((s.setBox b7 [.int .u8 t.knd, .bool t.neg, l1, .str t.text, .int .i64 t.num, q1, t1]).setBox b8 [.int .u8 u.knd, .bool u.neg, l2, .str u.text, .int .i64 u.num, q2, t2]) (.ptr b7 0) (.ptr b8 0) := by
 obtain ⟨n12, n13, n14, n23, n24, n34⟩ := hk
 obtain ⟨hle, hFr, hNd, hDj, hOn⟩ := hF
 have i4 : ∀ {b}, b = b7 -> b ∈ F k3 := fun h => by rw [e7, h]; simp
 have i5 : ∀ {b}, b = b8 -> b ∈ F k4 := fun h => by rw [e8, h]; simp
 have h78 : b7 ≠ b8 := fun e => n34 (hDj k3 k4 b7 (i4 rfl) (i5 e))
 have hk : ∀ C D b, (b ∈ F k1 \/ b ∈ F k2) -> ((s.setBox b7 C).setBox b8 D).box b = s.box b := fun C D b hb => by
  have n7 : b ≠ b7 := fun e => by
   rcases hb with hb | hb
   ·exact n13 (hDj _ _ b hb (i4 e))
   ·exact n23 (hDj _ _ b hb (i4 e))
  have n8 : b ≠ b8 := fun e => by
   rcases hb with hb | hb
   ·exact n14 (hDj _ _ b hb (i5 e))
   ·exact n24 (hDj _ _ b hb (i5 e))
  simp only [AS.setBox, if_neg n7, if_neg n8]
 refine ⟨b7, b8, l1, q1, t1, l2, q2, t2, F k1, F k2, rfl, rfl, by simp only [AS.setBox, if_neg h78, if_true], AS.set_get, ownT_keep t _ _ h1 fun b hb => hk _ _ b (.inl hb), ownT_keep u _ _ h2 fun b hb => hk _ _ b (.inr hb), (hle.setBox (hFr k3 b7 (i4 rfl)).1 _).setBox (hFr k4 b8 (i5 rfl)).1 _, fun b hb => ?_, ?_, fun b hb => ?_⟩
 ·rcases List.mem_cons.1 hb with h | hb
  ·exact hFr k3 b (i4 h)
  rcases List.mem_cons.1 hb with h | hb
  ·exact hFr k4 b (i5 h)
  rcases List.mem_append.1 hb with hb | hb
  ·exact hFr k1 b hb
  ·exact hFr k2 b hb
 ·refine List.nodup_cons.2 ⟨fun h => ?_, List.nodup_cons.2 ⟨fun h => ?_, List.nodup_append.2 ⟨hNd k1, hNd k2, fun a ha b hb e => ?_⟩⟩⟩
  ·rcases List.mem_cons.1 h with h | h
   ·exact h78 h
   rcases List.mem_append.1 h with h | h
   ·exact n13 (hDj _ _ b7 h (i4 rfl))
   ·exact n23 (hDj _ _ b7 h (i4 rfl))
  ·rcases List.mem_append.1 h with h | h
   ·exact n14 (hDj _ _ b8 h (i5 rfl))
   ·exact n24 (hDj _ _ b8 h (i5 rfl))
  ·subst e; exact n12 (hDj _ _ a ha hb)
 ·rcases List.mem_cons.1 hb with rfl | hb
  ·exact ⟨[.int .u8 t.knd, .bool t.neg, l1, .str t.text, .int .i64 t.num, q1, t1], by simp only [AS.setBox, if_neg h78, if_true]⟩
  rcases List.mem_cons.1 hb with rfl | hb
  ·exact ⟨_, AS.set_get⟩
  rcases List.mem_append.1 hb with hb | hb
  ·rw [hk _ _ b (.inl hb)]; exact hOn k1 b hb
  ·rw [hk _ _ b (.inr hb)]; exact hOn k2 b hb
def OwnM (t : Term) : Slot := fun σ v S => OwnT σ true t v S
theorem keeps_ownM (t : Term) : Keeps (OwnM t) := fun _ _ v S h hk => ownT_keep t v S h hk
theorem own_lendS {P : Program} {f : FuncId} {args args' : List AV} {p : Term × Term × Bool} {σ : AS} (h : Tri P G f args' σ.shut (SplO p σ.shut)) (hl : Lends G σ args args') : Tri P G f args σ (SplO p σ) :=
 lend_new G h hl fun r s ⟨x, y, A, B, hr, hx, hy, hN⟩ hn => by
  have i1 := ownT_inn p.1 x A hx (fun b => decide (b ∈ A ++ B)) (fun b hb => by simp [hb])
  have i2 := ownT_inn p.2.1 y B hy (fun b => decide (b ∈ A ++ B)) (fun b hb => by simp [hb])
  have hk : ∀ b, b ∈ A ++ B -> (σ.join (fun b => decide (b ∈ A ++ B)) s).box b = s.box b := fun b hb => by
   obtain ⟨z, hz⟩ := hN.on b hb
   simp only [AS.join, (hn b z hz).1]
   simp only [List.mem_append] at hb
   simp [hb]
  refine ⟨fun b => decide (b ∈ A ++ B), ?_, fun b hb => ?_, x, y, A, B, hr, ownT_keep _ x A hx fun b hb => hk b (List.mem_append_left _ hb), ownT_keep _ y B hy fun b hb => hk b (List.mem_append_right _ hb), AS.le_join _ _ _, fun b hb => ?_, hN.nd, fun b hb => ?_⟩
  ·subst hr
   obtain ⟨xl, xk, xt, _, _, _, rfl, _⟩ := (ownT_eq _ _ _ _ _).1 hx
   obtain ⟨yl, yk, yt, _, _, _, rfl, _⟩ := (ownT_eq _ _ _ _ _).1 hy
   have q1 : List.all [.int .u8 p.1.knd, .bool p.1.neg, xl, .str p.1.text, .int .i64 p.1.num, xk, xt] (ownC fun b => decide (b ∈ A ++ B)) = true := List.all_eq_true.2 i1.1
   have q2 : List.all [.int .u8 p.2.1.knd, .bool p.2.1.neg, yl, .str p.2.1.text, .int .i64 p.2.1.num, yk, yt] (ownC fun b => decide (b ∈ A ++ B)) = true := List.all_eq_true.2 i2.1
   show (List.all [.int .u8 p.1.knd, .bool p.1.neg, xl, .str p.1.text, .int .i64 p.1.num, xk, xt] (ownC fun b => decide (b ∈ A ++ B)) && (List.all [.int .u8 p.2.1.knd, .bool p.2.1.neg, yl, .str p.2.1.text, .int .i64 p.2.1.num, yk, yt] (ownC fun b => decide (b ∈ A ++ B)) && (true && true))) = true
   rw [q1, q2]
   rfl
  ·have hb : b ∈ A ++ B := by simpa using hb
   rcases List.mem_append.1 hb with hb | hb
   ·exact i1.2 b hb
   ·exact i2.2 b hb
  ·obtain ⟨z, hz⟩ := hN.on b hb
   exact hn b z hz
  ·obtain ⟨z, hz⟩ := hN.on b hb
   exact ⟨z, by rw [hk b hb, hz]⟩
theorem tlists_great {h t : Term} {s : List UInt8} (w : Pure Tryz.prog G 7 [] (.bool true)) (g : Pure Tryz.prog G 6 [.sl .full [h.enc, t.enc] []] (.bool true)) : Pure Tryz.prog G 4 [h.enc, t.enc, .str s] (.bool true) := by
 intro σ
 refine Tri.of_awp mixed Tryz.func4 rfl (by kernel_rfl) (by kernel_rfl) (by simp [Tryz.ntmps4]) Tryz.results4 ?_
 repeat' (first | refine xs ?_ ?_ <;> intros | (refine wn ?_; intro bx hbx; try simp only [fb] at hbx) | refine wp g ?_ | refine wp w ?_ | refine wj ?_ | simp -dsimp only [↓bp, bq, br, seval, tbLTermLists, *] | refine wz ?_ | fail)
 all_goals rfl
theorem tlists_long {h t : Term} {s : List UInt8} (hs : ((10000 : Int) < s.length) = True) (w : Pure Tryz.prog G 7 [] (.bool true)) (g : Pure Tryz.prog G 6 [.sl .full [h.enc, t.enc] []] (.bool false)) : Pure Tryz.prog G 4 [h.enc, t.enc, .str s] (.bool true) := by
 intro σ
 refine Tri.of_awp mixed Tryz.func4 rfl (by kernel_rfl) (by kernel_rfl) (by simp [Tryz.ntmps4]) Tryz.results4 ?_
 repeat' (first | refine xs ?_ ?_ <;> intros | (refine wn ?_; intro bx hbx; try simp only [fb] at hbx) | refine wp g ?_ | refine wp w ?_ | refine wj ?_ | simp -dsimp only [↓bp, bq, br, seval, tbLTermLists, *] | refine wz ?_ | fail)
 all_goals rfl
structure TL (G : Nat -> AV) (h t : Term) (s : List UInt8) (C A B O : Term) (K : Bool) : Prop where
 w : Pure Tryz.prog G 7 [] (.bool true)
 g : Pure Tryz.prog G 6 [.sl .full [h.enc, t.enc] []] (.bool false)
 hs : ((10000 : Int) < s.length) = False
 l1 : ∀ σ, Tri Tryz.prog G 8 [h.enc] σ fun r σ' => ∃ S, OwnT σ' true h r S /\ NewS σ σ' S
 l2 : ∀ σ, Tri Tryz.prog G 8 [t.enc] σ fun r σ' => ∃ S, OwnT σ' true t r S /\ NewS σ σ' S
 c : TOwn G 20 [h.enc, t.enc] C
 sp : ∀ σ, Tri Tryz.prog G 21 [t.enc] σ (SplO (A, B, K) σ)
 of : TOwn G 22 [.str s] O
 k1 : Pure Tryz.prog G 13 [h.lent, h.enc] (.bool true)
 k2 : Pure Tryz.prog G 13 [t.lent, t.enc] (.bool true)
 o1 : OTri G h
 o2 : OTri G t
 rs : Pure Tryz.prog G 23 [t.enc] (.tup [A.enc, B.enc, .bool K])
 rc : Pure Tryz.prog G 24 [h.enc, t.enc] C.enc
 ro : Pure Tryz.prog G 25 [.str s] O.enc
 mC : Pure Tryz.prog G 18 [C.enc, C.enc] (.bool true)
 mA : Pure Tryz.prog G 18 [A.enc, A.enc] (.bool true)
 mB : Pure Tryz.prog G 18 [B.enc, B.enc] (.bool true)
 mO : Pure Tryz.prog G 18 [O.enc, O.enc] (.bool true)
 ap : ∀ (vs : List AV) (S : List Nat) (g : Gh) (σ : AS), OwnRs σ [[C], [C], [A], [B], [O], [O]] vs S -> S.Nodup -> Tri Tryz.prog G 19 [.sl g vs []] σ fun r σ' => r = .bool true /\ LeX (fun c => c ∈ S) σ σ'
set_option maxHeartbeats 8000000 in
theorem tlists_go {h t : Term} {s : List UInt8} {C A B O : Term} {K : Bool} (hT : TL G h t s C A B O K) : Pure Tryz.prog G 4 [h.enc, t.enc, .str s] (.bool true) := by
 obtain ⟨w, g, hs, l1, l2, c, sp, of, k1, k2, o1, o2, rs, rc, ro, mC, mA, mB, mO, ap⟩ := hT
 intro σ
 refine Tri.back (Q := fun r => r = .bool true) ?_
 refine Tri.of_awp mixed Tryz.func4 rfl (by kernel_rfl) (by kernel_rfl) (by simp [Tryz.ntmps4]) Tryz.results4 ?_
 repeat' (first | (refine wn ?_; intro bx hbx; try simp only [fb] at hbx) | refine wp g ?_ | refine wi ?_ | simp -dsimp only [↓bp, bq, br, seval, tbLTermLists, *] | refine wz ?_ | fail)
 rename_i b3 hb3
 rename Nat => b4
 have hb4 : σ.fresh b4 /\ ¬ b4 = b3 /\ ¬ b3 = b4 := by assumption
 obtain ⟨hb4, n1, n2⟩ := hb4
 obtain ⟨S0, hS0⟩ : ∃ S0 : AS, S0 = (σ.setBox b3 [.int .u8 h.knd, .bool h.neg, lims h.limbs, .str h.text, .int .i64 h.num, encs h.items, encs h.tail]).setBox b4 [.int .u8 t.knd, .bool t.neg, lims t.limbs, .str t.text, .int .i64 t.num, encs t.items, encs t.tail] := ⟨_, rfl⟩
 have l0 : σ.le S0 := by rw [hS0]; exact ((AS.le.refl σ).setBox hb3.1 _).setBox hb4.1 _
 have f3 : S0.box b3 = some [.int .u8 h.knd, .bool h.neg, lims h.limbs, .str h.text, .int .i64 h.num, encs h.items, encs h.tail] := by rw [hS0]; simp only [AS.setBox, if_neg n2, if_true]
 have f4 : S0.box b4 = some [.int .u8 t.knd, .bool t.neg, lims t.limbs, .str t.text, .int .i64 t.num, encs t.items, encs t.tail] := by rw [hS0]; exact AS.set_get
 have f3o := f3
 have f4o := f4
 rw [<- hS0]
 clear hS0 hb3 hb4 n1 n2 g
 refine draw_meet mixed (fun ev s => Two2 true h t S0 s (ev 7) (ev 8)) ?_ ?_
 ·refine draw_own 6 (fun k => [30, 31, 32, 33, 7, 8].getD k 0) (fun k => match k with | 0 => isV h.enc | 1 => OwnM h | 2 => isV t.enc | 3 => OwnM t | _ => isB z7) (by decide +kernel) (by decide) ?_ rfl rfl ?_ ?_
  ·intro k
   match k with
   | 0 | 2 => exact keeps_isV _
   | 1 | 3 => exact keeps_ownM _
   | k + 4 => exact keeps_isB _
  ·refine ⟨⟨rfl, fun ev s hs hw hf => ?_⟩, ⟨rfl, fun ev s hs hw hf => ?_⟩, ⟨rfl, fun ev s hs hw hf => ?_⟩, ⟨rfl, fun ev s hs hw hf => ?_⟩, ⟨rfl, fun ev s hs hw hf => ?_⟩, ⟨rfl, fun ev s hs hw hf => ?_⟩, trivial⟩
   ·have h0 := hf 3 (by decide)
    have hb := hs.box _ _ f3
    simp -dsimp only [↓bp, bq, br, seval, tbLTermLists] at h0
    repeat' (first | (refine wn ?_; intro bx hbx; try simp only [fb] at hbx) | refine wi ?_ | simp -dsimp only [↓bp, bq, br, seval, tbLTermLists, *] | refine wz ?_ | fail)
    exact ⟨[], NewS.refl _, rfl, rfl⟩
   ·obtain ⟨A, h0, _⟩ := hw 0 (by decide +kernel)
    replace h0 : ev 30 = h.enc := h0
    simp -dsimp only [↓bp, bq, br, seval, tbLTermLists, h0]
    refine Tri.mono (l1 s) ?_
    rintro r s' ⟨S', a, b⟩
    exact ⟨S', b, a⟩
   ·have h0 := hf 4 (by decide)
    have hb := hs.box _ _ f4
    simp -dsimp only [↓bp, bq, br, seval, tbLTermLists] at h0
    repeat' (first | (refine wn ?_; intro bx hbx; try simp only [fb] at hbx) | refine wi ?_ | simp -dsimp only [↓bp, bq, br, seval, tbLTermLists, *] | refine wz ?_ | fail)
    exact ⟨[], NewS.refl _, rfl, rfl⟩
   ·obtain ⟨A, h0, _⟩ := hw 2 (by decide +kernel)
    replace h0 : ev 32 = t.enc := h0
    simp -dsimp only [↓bp, bq, br, seval, tbLTermLists, h0]
    refine Tri.mono (l2 s) ?_
    rintro r s' ⟨S', a, b⟩
    exact ⟨S', b, a⟩
   ·simp -dsimp only [↓bp, bq, br, seval, tbLTermLists]
    refine newT_plain fun b hb => ⟨[b], NewS.one hb _, b, rfl, rfl, AS.set_get⟩
   ·simp -dsimp only [↓bp, bq, br, seval, tbLTermLists]
    refine newT_plain fun b hb => ⟨[b], NewS.one hb _, b, rfl, rfl, AS.set_get⟩
  ·intro F ev s hF hQ hf
   have h1 : OwnT s true h (ev 31) (F 1) := hQ 1 (by omega)
   have h2 : OwnT s true t (ev 33) (F 3) := hQ 3 (by omega)
   obtain ⟨b7, h7, e7, n7⟩ : isB z7 s (ev 7) (F 4) := hQ 4 (by omega)
   obtain ⟨b8, h8, e8, n8⟩ : isB z7 s (ev 8) (F 5) := hQ 5 (by omega)
   obtain ⟨l1, k1, t1, _, _, _, v1, _, g1, g2, g3⟩ := (ownT_eq _ _ _ _ _).1 h1
   obtain ⟨l2', k2, t2', _, _, _, v2, _, g4, g5, g6⟩ := (ownT_eq _ _ _ _ _).1 h2
   obtain ⟨u1, u2, u3⟩ := g1.one
   obtain ⟨u4, u5, u6⟩ := g2.one
   obtain ⟨u7, u8, u9⟩ := g3.one
   obtain ⟨w1, w2, w3⟩ := g4.one
   obtain ⟨w4, w5, w6⟩ := g5.one
   obtain ⟨w7, w8, w9⟩ := g6.one
   rw [v1] at h1
   rw [v2] at h2
   clear g1 g2 g3 g4 g5 g6 hf hQ
   have h78 : b7 ≠ b8 := fun e => by have := hF.dj 4 5 b7 (by rw [e7]; simp) (by rw [e8, e]; simp); omega
   have h87 : (b8 = b7) = False := eq_false (Ne.symm h78)
   unfold z7 at n7 n8
   repeat' (first | (refine wn ?_; intro bx hbx; try simp only [fb] at hbx) | refine wi ?_ | simp -dsimp only [↓bp, bq, br, seval, tbLTermLists, *] | refine wz ?_ | fail)
   exact two_store 1 3 4 5 hF h1 h2 e7 e8 (by decide)
 intro v s3 h3
 obtain ⟨b7, b8, xl, xk, xt, yl, yk, yt, SX, SY, h7, h8, f7, f8, oX, oY, N3⟩ := h3
 simp -dsimp only [↓bp, bq, br, seval, tbLTermLists] at h7 h8
 have lX : ∀ s, s3.le s -> Lend G s (.agg [.int .u8 h.knd, .bool h.neg, xl, .str h.text, .int .i64 h.num, xk, xt]) h.enc := fun s hl => own_lend_term (ownT_keep h _ SX oX (same_le hl (ownT_on h _ SX oX)))
 have lY : ∀ s, s3.le s -> Lend G s (.agg [.int .u8 t.knd, .bool t.neg, yl, .str t.text, .int .i64 t.num, yk, yt]) t.enc := fun s hl => own_lend_term (ownT_keep t _ SY oY (same_le hl (ownT_on t _ SY oY)))
 have qc : ∀ s, s3.le s -> Tri Tryz.prog G 20 [(.agg [.int .u8 h.knd, .bool h.neg, xl, .str h.text, .int .i64 h.num, xk, xt]), (.agg [.int .u8 t.knd, .bool t.neg, yl, .str t.text, .int .i64 t.num, yk, yt])] s fun r s' => ∃ S', OwnT s' false C r S' /\ NewS s s' S' := fun s hl => own_lendT (c s.shut) (.cons (lX s hl) (.cons (lY s hl) .nil))
 have qs : ∀ s, s3.le s -> Tri Tryz.prog G 21 [(.agg [.int .u8 t.knd, .bool t.neg, yl, .str t.text, .int .i64 t.num, yk, yt])] s (SplO (A, B, K) s) := fun s hl => own_lendS (sp s.shut) (.cons (lY s hl) .nil)
 have f3' := N3.le.box _ _ f3
 have f4' := N3.le.box _ _ f4
 clear c sp lX lY l1 l2
 repeat' (first | (refine wn ?_; intro bx hbx; try simp only [fb] at hbx) | refine wi ?_ | simp -dsimp only [↓bp, bq, br, seval, tbLTermLists, *] | refine wz ?_ | fail)
 refine draw_meet mixed (fun ev s => Two2 false C C s3 s (ev 9) (ev 10)) ?_ ?_
 ·refine draw_own 8 (fun k => [34, 35, 36, 37, 38, 39, 9, 10].getD k 0) (fun k => match k with | 0 => isV (.agg [.int .u8 h.knd, .bool h.neg, xl, .str h.text, .int .i64 h.num, xk, xt]) | 1 => isV (.agg [.int .u8 t.knd, .bool t.neg, yl, .str t.text, .int .i64 t.num, yk, yt]) | 2 => OwnT' C | 3 => isV (.agg [.int .u8 h.knd, .bool h.neg, xl, .str h.text, .int .i64 h.num, xk, xt]) | 4 => isV (.agg [.int .u8 t.knd, .bool t.neg, yl, .str t.text, .int .i64 t.num, yk, yt]) | 5 => OwnT' C | _ => isB z7) (by decide +kernel) (by decide) ?_ rfl rfl ?_ ?_
  ·intro k
   match k with
   | 0 | 1 | 3 | 4 => exact keeps_isV _
   | 2 | 5 => exact keeps_own _
   | k + 6 => exact keeps_isB _
  ·refine ⟨⟨rfl, fun ev s hs hw hf => ?_⟩, ⟨rfl, fun ev s hs hw hf => ?_⟩, ⟨rfl, fun ev s hs hw hf => ?_⟩, ⟨rfl, fun ev s hs hw hf => ?_⟩, ⟨rfl, fun ev s hs hw hf => ?_⟩, ⟨rfl, fun ev s hs hw hf => ?_⟩, ⟨rfl, fun ev s hs hw hf => ?_⟩, ⟨rfl, fun ev s hs hw hf => ?_⟩, trivial⟩
   ·have h0 := hf 7 (by decide)
    have hb := hs.box _ _ f7
    simp -dsimp only [↓bp, bq, br, seval, tbLTermLists] at h0
    repeat' (first | (refine wn ?_; intro bx hbx; try simp only [fb] at hbx) | refine wi ?_ | simp -dsimp only [↓bp, bq, br, seval, tbLTermLists, *] | refine wz ?_ | fail)
    exact ⟨[], NewS.refl _, rfl, rfl⟩
   ·have h0 := hf 8 (by decide)
    have hb := hs.box _ _ f8
    simp -dsimp only [↓bp, bq, br, seval, tbLTermLists] at h0
    repeat' (first | (refine wn ?_; intro bx hbx; try simp only [fb] at hbx) | refine wi ?_ | simp -dsimp only [↓bp, bq, br, seval, tbLTermLists, *] | refine wz ?_ | fail)
    exact ⟨[], NewS.refl _, rfl, rfl⟩
   ·obtain ⟨_, h0, _⟩ := hw 0 (by decide +kernel)
    obtain ⟨_, h1, _⟩ := hw 1 (by decide +kernel)
    replace h0 : ev 34 = (.agg [.int .u8 h.knd, .bool h.neg, xl, .str h.text, .int .i64 h.num, xk, xt]) := h0
    replace h1 : ev 35 = (.agg [.int .u8 t.knd, .bool t.neg, yl, .str t.text, .int .i64 t.num, yk, yt]) := h1
    simp -dsimp only [↓bp, bq, br, seval, tbLTermLists, h0, h1]
    refine Tri.mono (qc s hs) ?_
    rintro r s' ⟨S', a, b⟩
    exact ⟨S', b, a⟩
   ·have h0 := hf 7 (by decide)
    have hb := hs.box _ _ f7
    simp -dsimp only [↓bp, bq, br, seval, tbLTermLists] at h0
    repeat' (first | (refine wn ?_; intro bx hbx; try simp only [fb] at hbx) | refine wi ?_ | simp -dsimp only [↓bp, bq, br, seval, tbLTermLists, *] | refine wz ?_ | fail)
    exact ⟨[], NewS.refl _, rfl, rfl⟩
   ·have h0 := hf 8 (by decide)
    have hb := hs.box _ _ f8
    simp -dsimp only [↓bp, bq, br, seval, tbLTermLists] at h0
    repeat' (first | (refine wn ?_; intro bx hbx; try simp only [fb] at hbx) | refine wi ?_ | simp -dsimp only [↓bp, bq, br, seval, tbLTermLists, *] | refine wz ?_ | fail)
    exact ⟨[], NewS.refl _, rfl, rfl⟩
   ·obtain ⟨_, h0, _⟩ := hw 3 (by decide +kernel)
    obtain ⟨_, h1, _⟩ := hw 4 (by decide +kernel)
    replace h0 : ev 37 = (.agg [.int .u8 h.knd, .bool h.neg, xl, .str h.text, .int .i64 h.num, xk, xt]) := h0
    replace h1 : ev 38 = (.agg [.int .u8 t.knd, .bool t.neg, yl, .str t.text, .int .i64 t.num, yk, yt]) := h1
    simp -dsimp only [↓bp, bq, br, seval, tbLTermLists, h0, h1]
    refine Tri.mono (qc s hs) ?_
    rintro r s' ⟨S', a, b⟩
    exact ⟨S', b, a⟩
   ·simp -dsimp only [↓bp, bq, br, seval, tbLTermLists]
    refine newT_plain fun b hb => ⟨[b], NewS.one hb _, b, rfl, rfl, AS.set_get⟩
   ·simp -dsimp only [↓bp, bq, br, seval, tbLTermLists]
    refine newT_plain fun b hb => ⟨[b], NewS.one hb _, b, rfl, rfl, AS.set_get⟩
  ·intro F ev s hF hQ hf
   have h1 : OwnT s false C (ev 36) (F 2) := hQ 2 (by omega)
   have h2 : OwnT s false C (ev 39) (F 5) := hQ 5 (by omega)
   obtain ⟨b7, h7, e7, n7⟩ : isB z7 s (ev 9) (F 6) := hQ 6 (by omega)
   obtain ⟨b8, h8, e8, n8⟩ : isB z7 s (ev 10) (F 7) := hQ 7 (by omega)
   obtain ⟨l1, k1, t1, _, _, _, v1, _, g1, g2, g3⟩ := (ownT_eq _ _ _ _ _).1 h1
   obtain ⟨l2', k2, t2', _, _, _, v2, _, g4, g5, g6⟩ := (ownT_eq _ _ _ _ _).1 h2
   obtain ⟨u1, u2, u3⟩ := g1.one
   obtain ⟨u4, u5, u6⟩ := g2.one
   obtain ⟨u7, u8, u9⟩ := g3.one
   obtain ⟨w1, w2, w3⟩ := g4.one
   obtain ⟨w4, w5, w6⟩ := g5.one
   obtain ⟨w7, w8, w9⟩ := g6.one
   rw [v1] at h1
   rw [v2] at h2
   clear g1 g2 g3 g4 g5 g6 hf hQ
   have h78 : b7 ≠ b8 := fun e => by have := hF.dj 6 7 b7 (by rw [e7]; simp) (by rw [e8, e]; simp); omega
   have h87 : (b8 = b7) = False := eq_false (Ne.symm h78)
   unfold z7 at n7 n8
   repeat' (first | (refine wn ?_; intro bx hbx; try simp only [fb] at hbx) | refine wi ?_ | simp -dsimp only [↓bp, bq, br, seval, tbLTermLists, *] | refine wz ?_ | fail)
   exact two_store 2 5 6 7 hF h1 h2 e7 e8 (by decide)
 intro v2 s4 h4'
 obtain ⟨b9, b10, cl, ck, ct, dl, dk, dt, SC, SD, h9, h10, f9, f10, oC, oD, N4⟩ := h4'
 simp -dsimp only [↓bp, bq, br, seval, tbLTermLists] at h9 h10
 replace f3 := N4.le.box _ _ f3'
 replace f4 := N4.le.box _ _ f4'
 have g7 := N4.le.box _ _ f7
 have g8 := N4.le.box _ _ f8
 clear qc f3' f4'
 repeat' (first | (refine wn ?_; intro bx hbx; try simp only [fb] at hbx) | refine wi ?_ | simp -dsimp only [↓bp, bq, br, seval, tbLTermLists, *] | refine wz ?_ | fail)
 refine Tri.mono (qs s4 N4.le) ?_
 rintro r s5 ⟨xa, xb, SA, SB, rfl, oA, oB, N5⟩
 obtain ⟨al, ak, at_, _, _, _, va, _, z1, z2, z3⟩ := (ownT_eq _ _ _ _ _).1 oA
 obtain ⟨bl, bk, bt, _, _, _, vb, _, z4, z5, z6⟩ := (ownT_eq _ _ _ _ _).1 oB
 obtain ⟨u1, u2, u3⟩ := z1.one
 obtain ⟨u4, u5, u6⟩ := z2.one
 obtain ⟨u7, u8, u9⟩ := z3.one
 obtain ⟨w1, w2, w3⟩ := z4.one
 obtain ⟨w4, w5, w6⟩ := z5.one
 obtain ⟨w7, w8, w9⟩ := z6.one
 simp only at oA oB va vb
 subst va vb
 clear z1 z2 z3 z4 z5 z6 qs
 repeat' (first | (refine wn ?_; intro bx hbx; try simp only [fb] at hbx) | refine wi ?_ | simp -dsimp only [↓bp, bq, br, seval, tbLTermLists, *] | refine wz ?_ | fail)
 rename_i b11 hb11
 rename Nat => b12
 have hb12 : s5.fresh b12 /\ ¬ b12 = b11 /\ ¬ b11 = b12 := by assumption
 obtain ⟨hb12, n1, n2⟩ := hb12
 obtain ⟨S6, hS6⟩ : ∃ S6 : AS, S6 = (((s5.setBox b11 [.int .u8 0, .bool false, .nil, .str [], .int .i64 0, .nil, .nil]).setBox b12 [.int .u8 0, .bool false, .nil, .str [], .int .i64 0, .nil, .nil]).setBox b11 [.int .u8 A.knd, .bool A.neg, al, .str A.text, .int .i64 A.num, ak, at_]).setBox b12 [.int .u8 B.knd, .bool B.neg, bl, .str B.text, .int .i64 B.num, bk, bt] := ⟨_, rfl⟩
 have l6 : s5.le S6 := by rw [hS6]; exact ((((AS.le.refl s5).setBox hb11.1 _).setBox hb12.1 _).setBox hb11.1 _).setBox hb12.1 _
 have f11 : S6.box b11 = some [.int .u8 A.knd, .bool A.neg, al, .str A.text, .int .i64 A.num, ak, at_] := by rw [hS6]; simp only [AS.setBox, if_neg n2, if_true]
 have f12 : S6.box b12 = some [.int .u8 B.knd, .bool B.neg, bl, .str B.text, .int .i64 B.num, bk, bt] := by rw [hS6]; exact AS.set_get
 rw [<- hS6]
 clear hS6 n1 n2
 refine Tri.mono (of S6) ?_
 rintro xo s7 ⟨SO, oO, N7⟩
 obtain ⟨ol, ok, ot, _, _, _, vo, _, z1, z2, z3⟩ := (ownT_eq _ _ _ _ _).1 oO
 obtain ⟨p1, p2, p3⟩ := z1.one
 obtain ⟨p4, p5, p6⟩ := z2.one
 obtain ⟨p7, p8, p9⟩ := z3.one
 subst vo
 clear z1 z2 z3
 repeat' (first | (refine wn ?_; intro bx hbx; try simp only [fb] at hbx) | refine wi ?_ | simp -dsimp only [↓bp, bq, br, seval, tbLTermLists, *] | refine wz ?_ | fail)
 refine Tri.mono (of s7) ?_
 rintro xp s8 ⟨SP, oP, N8⟩
 obtain ⟨pl, pk, pt, _, _, _, vp, _, z1, z2, z3⟩ := (ownT_eq _ _ _ _ _).1 oP
 obtain ⟨q1, q2, q3⟩ := z1.one
 obtain ⟨q4, q5, q6⟩ := z2.one
 obtain ⟨q7, q8, q9⟩ := z3.one
 subst vp
 clear z1 z2 z3
 have l58 : s5.le s8 := (l6.trans N7.le).trans N8.le
 have l48 : s4.le s8 := N5.le.trans l58
 have e3 := l48.box _ _ f3
 have e4 := l48.box _ _ f4
 have e7 := l48.box _ _ g7
 have e8 := l48.box _ _ g8
 repeat' (first | ((first | refine xh ?_ | refine xi ?_); intro bx hbx; (try simp only [fb] at hbx); try (have nn := fresh_ne (c := bx) e3 (by simp only [hbx])); try (have nn := fresh_ne (c := bx) e4 (by simp only [hbx])); try (have nn := fresh_ne (c := bx) e7 (by simp only [hbx])); try (have nn := fresh_ne (c := bx) e8 (by simp only [hbx]))) | refine wi ?_ | simp -dsimp only [↓bp, bq, br, seval, tbLTermLists, *] | refine wz ?_ | fail)
 rename_i b14 hb14 m1 m2 m3 m4 m5 m6 m7
 rename Nat => b15
 have hb15 : s8.fresh b15 /\ ¬ b15 = b14 /\ ¬ b14 = b15 := by assumption
 clear m1 m2 m3 m4 m5 m6 m7 nn
 obtain ⟨hb15, n1, n2⟩ := hb15
 obtain ⟨S9, hS9⟩ : ∃ S9 : AS, S9 = (((s8.setBox b14 [.int .u8 0, .bool false, .nil, .str [], .int .i64 0, .nil, .nil]).setBox b15 [.int .u8 0, .bool false, .nil, .str [], .int .i64 0, .nil, .nil]).setBox b14 [.int .u8 O.knd, .bool O.neg, ol, .str O.text, .int .i64 O.num, ok, ot]).setBox b15 [.int .u8 O.knd, .bool O.neg, pl, .str O.text, .int .i64 O.num, pk, pt] := ⟨_, rfl⟩
 have l9 : s8.le S9 := by rw [hS9]; exact ((((AS.le.refl s8).setBox hb14.1 _).setBox hb15.1 _).setBox hb14.1 _).setBox hb15.1 _
 have f14 : S9.box b14 = some [.int .u8 O.knd, .bool O.neg, ol, .str O.text, .int .i64 O.num, ok, ot] := by rw [hS9]; simp only [AS.setBox, if_neg n2, if_true]
 have f15 : S9.box b15 = some [.int .u8 O.knd, .bool O.neg, pl, .str O.text, .int .i64 O.num, pk, pt] := by rw [hS9]; exact AS.set_get
 rw [<- hS9]
 clear hS9 n1 n2 of
 have l39 : s3.le S9 := N4.le.trans (l48.trans l9)
 have l39' : s3.le s8 := N4.le.trans l48
 have l35 : s3.le s5 := N4.le.trans N5.le
 have y9 : s3.box b9 = none := (N4.fr b9 (by simp)).1
 have y10 : s3.box b10 = none := (N4.fr b10 (by simp)).1
 have y11 : s3.box b11 = none := le_none l35 hb11.1
 have y12 : s3.box b12 = none := le_none l35 hb12.1
 have y14 : s3.box b14 = none := le_none l39' hb14.1
 have y15 : s3.box b15 = none := le_none l39' hb15.1
 have j9 := l9.box _ _ (l48.box _ _ f9)
 have j10 := l9.box _ _ (l48.box _ _ f10)
 have j11 := l9.box _ _ (N8.le.box _ _ (N7.le.box _ _ f11))
 have j12 := l9.box _ _ (N8.le.box _ _ (N7.le.box _ _ f12))
 replace e3 := l9.box _ _ e3
 replace e4 := l9.box _ _ e4
 replace e7 := l9.box _ _ e7
 replace e8 := l9.box _ _ e8
 have NT : NewS s3 S9 ((SC ++ SD) ++ ((SA ++ SB) ++ (SO ++ SP))) := by
  have q1 : NewS s3 s4 (SC ++ SD) := ⟨N4.le, fun b hb => N4.fr b (List.mem_cons_of_mem _ (List.mem_cons_of_mem _ hb)), (List.nodup_cons.1 (List.nodup_cons.1 N4.nd).2).2, fun b hb => N4.on b (List.mem_cons_of_mem _ (List.mem_cons_of_mem _ hb))⟩
  have q2 := q1.more N5.fr N5.nd (q1.le.trans N5.le) fun b hb => by
   rcases List.mem_append.1 hb with hb | hb
   ·obtain ⟨z, hz⟩ := q1.on b hb; exact ⟨z, N5.le.box _ _ hz⟩
   ·exact N5.on b hb
  have q3 := q2.more (fun b hb => ⟨le_none l6 (N7.fr b hb).1, le_noTip l6 (N7.fr b hb).2⟩) N7.nd (q2.le.trans (l6.trans N7.le)) fun b hb => by
   rcases List.mem_append.1 hb with hb | hb
   ·obtain ⟨z, hz⟩ := q2.on b hb; exact ⟨z, (l6.trans N7.le).box _ _ hz⟩
   ·exact N7.on b hb
  have q4 := q3.more N8.fr N8.nd (q3.le.trans (N8.le.trans l9)) fun b hb => by
   rcases List.mem_append.1 hb with hb | hb
   ·obtain ⟨z, hz⟩ := q3.on b hb; exact ⟨z, (N8.le.trans l9).box _ _ hz⟩
   ·obtain ⟨z, hz⟩ := N8.on b hb; exact ⟨z, l9.box _ _ hz⟩
  simpa only [List.append_assoc] using q4
 have oC9 := ownT_keep _ _ _ oC (same_le (l48.trans l9) (ownT_on _ _ _ oC))
 have oD9 := ownT_keep _ _ _ oD (same_le (l48.trans l9) (ownT_on _ _ _ oD))
 have oA9 := ownT_keep _ _ _ oA (same_le (l58.trans l9) (ownT_on _ _ _ oA))
 have oB9 := ownT_keep _ _ _ oB (same_le (l58.trans l9) (ownT_on _ _ _ oB))
 have oO9 := ownT_keep _ _ _ oO (same_le (N8.le.trans l9) (ownT_on _ _ _ oO))
 have oP9 := ownT_keep _ _ _ oP (same_le l9 (ownT_on _ _ _ oP))
 have hXY : ∀ b, b ∈ SX ++ SY -> ∃ z, s3.box b = some z := fun b hb => N3.on b (List.mem_cons_of_mem _ (List.mem_cons_of_mem _ hb))
 have nXY : (SX ++ SY).Nodup := (List.nodup_cons.1 (List.nodup_cons.1 N3.nd).2).2
 have x3 : b3 ∉ SX ++ SY := fun hb => by have := (N3.fr b3 (List.mem_cons_of_mem _ (List.mem_cons_of_mem _ hb))).1; rw [f3o] at this; cases this
 have x4 : b4 ∉ SX ++ SY := fun hb => by have := (N3.fr b4 (List.mem_cons_of_mem _ (List.mem_cons_of_mem _ hb))).1; rw [f4o] at this; cases this
 have x8 : b8 ∉ SX := fun hb => (List.nodup_cons.1 (List.nodup_cons.1 N3.nd).2).1 (List.mem_append_left _ hb)
 have fXY : ∀ b, b ∈ SX ++ SY -> σ.box b = none := fun b hb => l0.noBox (N3.fr b (List.mem_cons_of_mem _ (List.mem_cons_of_mem _ hb))).1
 have lσ : σ.le S9 := (l0.trans N3.le).trans l39
 have z3σ : ∀ b, s3.box b = none -> σ.box b = none := fun b hb => le_none (l0.trans N3.le) hb
 have oX9 := ownT_keep _ _ _ oX (same_le l39 (ownT_on _ _ _ oX))
 have oY9 := ownT_keep _ _ _ oY (same_le l39 (ownT_on _ _ _ oY))
 clear N3 N4 N5 N7 N8 l48 l58 l6 l9 l39' l35 oC oD oA oB oO oP oX oY f3 f4 f7 f8 f9 f10 f11 f12 g7 g8 hb11 hb12 hb14 hb15 l0 f3o f4o
 have q4 : PureC Tryz.prog G 13 [(.agg [.int .u8 h.knd, .bool h.neg, xl, .str h.text, .int .i64 h.num, xk, xt]), h.enc] S9 (.bool true) := fun σ' hl => k1.lend (σ := σ') rfl (.cons (own_lent_term (ownT_keep _ _ _ oX9 (same_le hl (ownT_on _ _ _ oX9)))) (.cons (Lend.id _) .nil))
 have q5 : PureC Tryz.prog G 13 [(.agg [.int .u8 t.knd, .bool t.neg, yl, .str t.text, .int .i64 t.num, yk, yt]), t.enc] S9 (.bool true) := fun σ' hl => k2.lend (σ := σ') rfl (.cons (own_lent_term (ownT_keep _ _ _ oY9 (same_le hl (ownT_on _ _ _ oY9)))) (.cons (Lend.id _) .nil))
 have w10 := o1 S9 _ SX oX9 (List.nodup_append.1 nXY).1
 clear k1 k2 o1
 repeat' (first | (refine wn ?_; intro bx hbx; try simp only [fb] at hbx) | refine PureC.use (q4) (by repeat' first | exact lr _ | assumption | refine ls ?_ ?_ | refine lt ?_ ?_ | simp only [*]; done | simp only [fb, *, not_false_eq_true, and_self]; done | exact lf ‹_› (by simp only [*])) ?_ | refine PureC.use (q5) (by repeat' first | exact lr _ | assumption | refine ls ?_ ?_ | refine lt ?_ ?_ | simp only [*]; done | simp only [fb, *, not_false_eq_true, and_self]; done | exact lf ‹_› (by simp only [*])) ?_ | refine wi ?_ | simp -dsimp only [↓bp, bq, br, seval, tbLTermLists, *] | refine wz ?_ | fail)
 refine Tri.mono w10 ?_
 rintro r s10 ⟨rfl, hX1⟩
 have dXY : ∀ b, b ∈ SY -> b ∉ SX := fun b hb hb' => (List.nodup_append.1 nXY).2.2 b hb' b hb rfl
 have oY10 := ownT_keep _ _ _ oY9 (σ' := s10) fun b hb => by
  obtain ⟨z, hz⟩ := ownT_on _ _ _ oY9 b hb
  rw [hz]; exact hX1.box _ _ (dXY b hb) hz
 replace e8 := hX1.box _ _ x8 e8
 have w11 := o2 s10 _ SY oY10 (List.nodup_append.1 nXY).2.1
 clear q4 q5 w10 o2 oX9 oY9
 repeat' (first | (refine wn ?_; intro bx hbx; try simp only [fb] at hbx) | refine wi ?_ | simp -dsimp only [↓bp, bq, br, seval, tbLTermLists, *] | refine wz ?_ | fail)
 refine Tri.mono w11 ?_
 rintro r s11 ⟨rfl, hX2⟩
 have hX : LeX (fun c => c ∈ SX ++ SY) S9 s11 := (hX1.wk fun c hc => List.mem_append_left _ hc).trans (hX2.wk fun c hc => List.mem_append_right _ hc)
 have kp : ∀ b z, s3.box b = none -> S9.box b = some z -> s11.box b = some z := fun b z h1 h2 => hX.box _ _ (fun hb => by obtain ⟨y, hy⟩ := hXY b hb; rw [h1] at hy; cases hy) h2
 have kt : ∀ {x v S}, OwnT S9 false x v S -> (∀ b, b ∈ S -> s3.box b = none) -> OwnT s11 false x v S := fun ho hn => ownT_keep _ _ _ ho fun b hb => by
  obtain ⟨z, hz⟩ := ownT_on _ _ _ ho b hb
  rw [hz]; exact kp b z (hn b hb) hz
 have hT3 : ∀ b, b ∈ (SC ++ SD) ++ ((SA ++ SB) ++ (SO ++ SP)) -> s3.box b = none := fun b hb => (NT.fr b hb).1
 replace oC9 := kt oC9 fun b hb => hT3 b (by simp [hb])
 replace oD9 := kt oD9 fun b hb => hT3 b (by simp [hb])
 replace oA9 := kt oA9 fun b hb => hT3 b (by simp [hb])
 replace oB9 := kt oB9 fun b hb => hT3 b (by simp [hb])
 replace oO9 := kt oO9 fun b hb => hT3 b (by simp [hb])
 replace oP9 := kt oP9 fun b hb => hT3 b (by simp [hb])
 replace e3 := hX.box _ _ x3 e3
 replace e4 := hX.box _ _ x4 e4
 replace j9 := kp _ _ y9 j9
 replace j10 := kp _ _ y10 j10
 replace j11 := kp _ _ y11 j11
 replace j12 := kp _ _ y12 j12
 replace f14 := kp _ _ y14 f14
 replace f15 := kp _ _ y15 f15
 have l11 : σ.le s11 := hX.le_of lσ fXY
 have nT := NT.nd
 have hTσ : ∀ b, b ∈ (SC ++ SD) ++ ((SA ++ SB) ++ (SO ++ SP)) -> σ.box b = none := fun b hb => z3σ b (hT3 b hb)
 clear hX1 hX2 hX w11 oY10 dXY e7 e8 x3 x4 x8 fXY hXY nXY lσ kp kt NT hT3 z3σ l39 y9 y10 y11 y12 y14 y15
 repeat' (first | ((first | refine xh ?_ | refine xi ?_); intro bx hbx; (try simp only [fb] at hbx); try (have nn := fresh_ne (c := bx) e3 (by simp only [hbx])); try (have nn := fresh_ne (c := bx) e4 (by simp only [hbx])); try (have nn := fresh_ne (c := bx) j9 (by simp only [hbx])); try (have nn := fresh_ne (c := bx) j10 (by simp only [hbx])); try (have nn := fresh_ne (c := bx) j11 (by simp only [hbx])); try (have nn := fresh_ne (c := bx) j12 (by simp only [hbx])); try (have nn := fresh_ne (c := bx) f14 (by simp only [hbx])); try (have nn := fresh_ne (c := bx) f15 (by simp only [hbx]))) | refine wp rs ?_ | refine wi ?_ | simp -dsimp only [↓bp, bq, br, seval, tbLTermLists, *] | refine wz ?_ | fail)
 rename_i b16 hb16 r1 r2 r3 r4 r5 r6 r7 r8 r9 r10 r11 r12 r13 r14 r15
 rename Nat => b17
 have hb17 : s11.fresh b17 /\ ¬ b17 = b16 /\ ¬ b16 = b17 := by assumption
 clear r1 r2 r3 r4 r5 r6 r7 r8 r9 r10 r11 r12 r13 r14 r15 nn
 obtain ⟨hb17, n1, n2⟩ := hb17
 obtain ⟨S12, hS12⟩ : ∃ S12 : AS, S12 = (((s11.setBox b16 [.int .u8 0, .bool false, .nil, .str [], .int .i64 0, .nil, .nil]).setBox b17 [.int .u8 0, .bool false, .nil, .str [], .int .i64 0, .nil, .nil]).setBox b16 [.int .u8 A.knd, .bool A.neg, lims A.limbs, .str A.text, .int .i64 A.num, encs A.items, encs A.tail]).setBox b17 [.int .u8 B.knd, .bool B.neg, lims B.limbs, .str B.text, .int .i64 B.num, encs B.items, encs B.tail] := ⟨_, rfl⟩
 have l12 : s11.le S12 := by rw [hS12]; exact ((((AS.le.refl s11).setBox hb16.1 _).setBox hb17.1 _).setBox hb16.1 _).setBox hb17.1 _
 have f16 : S12.box b16 = some [.int .u8 A.knd, .bool A.neg, lims A.limbs, .str A.text, .int .i64 A.num, encs A.items, encs A.tail] := by rw [hS12]; simp only [AS.setBox, if_neg n2, if_true]
 have f17 : S12.box b17 = some [.int .u8 B.knd, .bool B.neg, lims B.limbs, .str B.text, .int .i64 B.num, encs B.items, encs B.tail] := by rw [hS12]; exact AS.set_get
 rw [<- hS12]
 clear hS12 n1 n2 hb16 hb17 rs
 replace l11 := l11.trans l12
 replace e3 := l12.box _ _ e3
 replace e4 := l12.box _ _ e4
 replace j9 := l12.box _ _ j9
 replace j10 := l12.box _ _ j10
 replace j11 := l12.box _ _ j11
 replace j12 := l12.box _ _ j12
 replace f14 := l12.box _ _ f14
 replace f15 := l12.box _ _ f15
 replace oC9 := ownT_keep _ _ _ oC9 (same_le l12 (ownT_on _ _ _ oC9))
 replace oD9 := ownT_keep _ _ _ oD9 (same_le l12 (ownT_on _ _ _ oD9))
 replace oA9 := ownT_keep _ _ _ oA9 (same_le l12 (ownT_on _ _ _ oA9))
 replace oB9 := ownT_keep _ _ _ oB9 (same_le l12 (ownT_on _ _ _ oB9))
 replace oO9 := ownT_keep _ _ _ oO9 (same_le l12 (ownT_on _ _ _ oO9))
 replace oP9 := ownT_keep _ _ _ oP9 (same_le l12 (ownT_on _ _ _ oP9))
 clear l12
 have qC : PureC Tryz.prog G 18 [.agg [.int .u8 C.knd, .bool C.neg, cl, .str C.text, .int .i64 C.num, ck, ct], C.enc] S12 (.bool true) := fun σ' hl => mC.lend (σ := σ') rfl (.cons (own_lend_term (ownT_keep _ _ _ oC9 (same_le hl (ownT_on _ _ _ oC9)))) (.cons (Lend.id _) .nil))
 have qA : PureC Tryz.prog G 18 [.agg [.int .u8 A.knd, .bool A.neg, al, .str A.text, .int .i64 A.num, ak, at_], A.enc] S12 (.bool true) := fun σ' hl => mA.lend (σ := σ') rfl (.cons (own_lend_term (ownT_keep _ _ _ oA9 (same_le hl (ownT_on _ _ _ oA9)))) (.cons (Lend.id _) .nil))
 have qB : PureC Tryz.prog G 18 [.agg [.int .u8 B.knd, .bool B.neg, bl, .str B.text, .int .i64 B.num, bk, bt], B.enc] S12 (.bool true) := fun σ' hl => mB.lend (σ := σ') rfl (.cons (own_lend_term (ownT_keep _ _ _ oB9 (same_le hl (ownT_on _ _ _ oB9)))) (.cons (Lend.id _) .nil))
 have qO : PureC Tryz.prog G 18 [.agg [.int .u8 O.knd, .bool O.neg, ol, .str O.text, .int .i64 O.num, ok, ot], O.enc] S12 (.bool true) := fun σ' hl => mO.lend (σ := σ') rfl (.cons (own_lend_term (ownT_keep _ _ _ oO9 (same_le hl (ownT_on _ _ _ oO9)))) (.cons (Lend.id _) .nil))
 clear mC mA mB mO
 refine draw_all (by kernel_rfl) ?_
 repeat' (first | (refine wn ?_; intro bx hbx; try simp only [fb] at hbx) | refine wp rc ?_ | refine wp ro ?_ | (refine PureC.head qC (AS.le.refl _) ?_) | (refine PureC.head qA (AS.le.refl _) ?_) | (refine PureC.head qB (AS.le.refl _) ?_) | (refine PureC.head qO (AS.le.refl _) ?_) | ((refine build_oneM tfN rfl rfl (by omega) (fun cc hcc => ?_); (try simp only [fb] at hcc); have q1 := fresh_ne (c := cc) j10 (by simp only [hcc]); have q2 := fresh_ne (c := cc) j11 (by simp only [hcc]); have q3 := fresh_ne (c := cc) j12 (by simp only [hcc]); have q4 := fresh_ne (c := cc) f14 (by simp only [hcc]); have q5 := fresh_ne (c := cc) f15 (by simp only [hcc]))) | refine wi ?_ | simp -dsimp only [↓bp, bq, br, seval, tbLTermLists, *] | refine wz ?_ | fail)
 clear qC qA qB qO rc ro j9 j10 j11 j12 f14 f15 f16 f17 e3 e4
 rename_i c1 hc1 u11 u12 u13 u14 u15 c2 hc2 u21 u22 u23 u24 u25 c3 hc3 u31 u32 u33 u34 u35 c4 hc4 u41 u42 u43 u44 u45 c5 hc5 u51 u52 u53 u54 u55
 clear u11 u12 u13 u14 u15 u21 u22 u23 u24 u25 u31 u32 u33 u34 u35 u41 u42 u43 u44 u45 u51 u52 u53 u54 u55 q1 q2 q3 q4 q5
 have k2 : S12.fresh c2 := by simp only [hc2]
 have k3 : S12.fresh c3 := by simp only [hc3]
 have k4 : S12.fresh c4 := by simp only [hc4]
 have k5 : S12.fresh c5 := by simp only [hc5]
 have k6 : S12.fresh cc := by simp only [hcc]
 have hfr : ∀ e, e ∈ ([⟨C, .agg [.int .u8 C.knd, .bool C.neg, cl, .str C.text, .int .i64 C.num, ck, ct], SC, c1⟩, ⟨C, .agg [.int .u8 C.knd, .bool C.neg, dl, .str C.text, .int .i64 C.num, dk, dt], SD, c2⟩, ⟨A, .agg [.int .u8 A.knd, .bool A.neg, al, .str A.text, .int .i64 A.num, ak, at_], SA, c3⟩, ⟨B, .agg [.int .u8 B.knd, .bool B.neg, bl, .str B.text, .int .i64 B.num, bk, bt], SB, c4⟩, ⟨O, .agg [.int .u8 O.knd, .bool O.neg, ol, .str O.text, .int .i64 O.num, ok, ot], SO, c5⟩, ⟨O, .agg [.int .u8 O.knd, .bool O.neg, pl, .str O.text, .int .i64 O.num, pk, pt], SP, cc⟩] : List Row1) -> S12.box e.c = none := fun e he => by
  simp only [List.mem_cons, List.not_mem_nil, or_false] at he
  rcases he with rfl | rfl | rfl | rfl | rfl | rfl
  ·exact hc1.1
  ·exact k2.1
  ·exact k3.1
  ·exact k4.1
  ·exact k5.1
  ·exact k6.1
 obtain ⟨hO, hnd⟩ := rows_own (σ := S12) ([⟨C, .agg [.int .u8 C.knd, .bool C.neg, cl, .str C.text, .int .i64 C.num, ck, ct], SC, c1⟩, ⟨C, .agg [.int .u8 C.knd, .bool C.neg, dl, .str C.text, .int .i64 C.num, dk, dt], SD, c2⟩, ⟨A, .agg [.int .u8 A.knd, .bool A.neg, al, .str A.text, .int .i64 A.num, ak, at_], SA, c3⟩, ⟨B, .agg [.int .u8 B.knd, .bool B.neg, bl, .str B.text, .int .i64 B.num, bk, bt], SB, c4⟩, ⟨O, .agg [.int .u8 O.knd, .bool O.neg, ol, .str O.text, .int .i64 O.num, ok, ot], SO, c5⟩, ⟨O, .agg [.int .u8 O.knd, .bool O.neg, pl, .str O.text, .int .i64 O.num, pk, pt], SP, cc⟩] : List Row1) (fun e he => by
  simp only [List.mem_cons, List.not_mem_nil, or_false] at he
  rcases he with rfl | rfl | rfl | rfl | rfl | rfl
  ·exact oC9
  ·exact oD9
  ·exact oA9
  ·exact oB9
  ·exact oO9
  ·exact oP9) (by simp [hc2, hc3, hc4, hc5, hcc]) hfr (by simpa [List.append_assoc] using nT)
 have hp := ap _ _ .full _ hO hnd
 have lf := stF_le ([⟨C, .agg [.int .u8 C.knd, .bool C.neg, cl, .str C.text, .int .i64 C.num, ck, ct], SC, c1⟩, ⟨C, .agg [.int .u8 C.knd, .bool C.neg, dl, .str C.text, .int .i64 C.num, dk, dt], SD, c2⟩, ⟨A, .agg [.int .u8 A.knd, .bool A.neg, al, .str A.text, .int .i64 A.num, ak, at_], SA, c3⟩, ⟨B, .agg [.int .u8 B.knd, .bool B.neg, bl, .str B.text, .int .i64 B.num, bk, bt], SB, c4⟩, ⟨O, .agg [.int .u8 O.knd, .bool O.neg, ol, .str O.text, .int .i64 O.num, ok, ot], SO, c5⟩, ⟨O, .agg [.int .u8 O.knd, .bool O.neg, pl, .str O.text, .int .i64 O.num, pk, pt], SP, cc⟩] : List Row1) σ S12 l11 fun e he => l11.noBox (hfr e he)
 have hfS : ∀ b, b ∈ (([⟨C, .agg [.int .u8 C.knd, .bool C.neg, cl, .str C.text, .int .i64 C.num, ck, ct], SC, c1⟩, ⟨C, .agg [.int .u8 C.knd, .bool C.neg, dl, .str C.text, .int .i64 C.num, dk, dt], SD, c2⟩, ⟨A, .agg [.int .u8 A.knd, .bool A.neg, al, .str A.text, .int .i64 A.num, ak, at_], SA, c3⟩, ⟨B, .agg [.int .u8 B.knd, .bool B.neg, bl, .str B.text, .int .i64 B.num, bk, bt], SB, c4⟩, ⟨O, .agg [.int .u8 O.knd, .bool O.neg, ol, .str O.text, .int .i64 O.num, ok, ot], SO, c5⟩, ⟨O, .agg [.int .u8 O.knd, .bool O.neg, pl, .str O.text, .int .i64 O.num, pk, pt], SP, cc⟩] : List Row1).flatMap fun e => e.c :: e.S) -> σ.box b = none := fun b hb => by
  rcases mem_rows.1 hb with hb | hb
  ·obtain ⟨e, he, rfl⟩ := List.mem_map.1 hb
   exact l11.noBox (hfr e he)
  ·exact hTσ b (by simpa [List.append_assoc] using hb)
 clear hO hnd hfr oC9 oD9 oA9 oB9 oO9 oP9 k2 k3 k4 k5 k6 hc1 hc2 hc3 hc4 hc5 hcc ap nT hTσ
 simp only [List.map_cons, List.map_nil, stF, List.foldl_cons, List.foldl_nil] at hp lf
 refine Tri.mono hp ?_
 rintro r s14 ⟨rfl, hX⟩
 have l14 := hX.le_of lf hfS
 clear hp hX hfS lf
 repeat' (first | (refine wn ?_; intro bx hbx; try simp only [fb] at hbx) | refine wp w ?_ | refine wi ?_ | simp -dsimp only [↓bp, bq, br, seval, tbLTermLists, *] | refine wz ?_ | fail)
 all_goals exact finishW_some _ (AS.le.refl _) ⟨rfl, l14⟩
end
section
variable {G : Nat -> AV}
theorem nodes_list (l r : List Term) : nodesT (listT l r) = 1 + nodesL l + nodesL r := nodesT_eq _
theorem nodes_pos (t : Term) : 1 <= nodesT t := by rw [nodesT_eq]; omega
theorem nodes_zero : nodesT zeroT = 1 := by rw [nodesT_eq]; rfl
theorem nodes_cons (h t : Term) : nodesT (cons h t) <= nodesT h + nodesT t + 1 := by
 have h1 := nodes_pos h
 have h2 := nodesT_eq t
 unfold cons
 split
 ·unfold cons0
  split
  ·rw [nodes_list]; simp only [nodesL]; omega
  ·rw [nodes_list]; simp only [nodesL]; omega
 ·rw [nodes_zero]; omega
theorem nodes_split (t : Term) : nodesT (splitF t).1 <= nodesT t /\ nodesT (splitF t).2.1 <= nodesT t := by
 have h0 := nodes_pos t
 have h2 := nodesT_eq t
 have hz := nodes_zero
 by_cases hc : right t = true /\ t.knd = 7 /\ t.items ≠ []
 ·obtain ⟨et, h7, hne⟩ := hc
  cases hi : t.items with
  | nil => exact absurd hi hne
  | cons x l =>
   cases l with
   | nil =>
    have e : splitF t = (x, tailOf t, true) := by unfold splitF split; rw [if_pos ⟨et, h7⟩, hi]
    rw [e]
    rw [hi] at h2
    simp only [nodesL] at h2
    refine ⟨by simp only; omega, ?_⟩
    simp only
    unfold tailOf
    cases htl : t.tail with
    | nil => simp only [nodes_list, nodesL]; omega
    | cons y r => rw [htl] at h2; simp only [nodesL] at h2 ⊢; omega
   | cons y r =>
    have e : splitF t = (x, listT (y :: r) t.tail, true) := by unfold splitF split; rw [if_pos ⟨et, h7⟩, hi]
    rw [e]
    rw [hi] at h2
    simp only [nodesL] at h2
    refine ⟨by simp only; omega, ?_⟩
    simp only [nodes_list, nodesL]
    omega
 ·have e : splitF t = (zeroT, zeroT, false) := by
   unfold splitF split
   split
   ·rename_i h r he
    split at he
    ·rename_i hh
     exfalso
     refine hc ⟨hh.1, hh.2, fun e => ?_⟩
     rw [e] at he; cases he
    ·cases he
   ·rfl
  rw [e]
  simp only
  omega
theorem nodes_bytes : ∀ (s : List UInt8), nodesL (bytesT s) = s.length
 | [] => rfl
 | c :: s => by
  have h := nodes_bytes s
  have h2 : nodesT (byteT c.toNat) = 1 := by rw [nodesT_eq]; rfl
  simp only [bytesT, List.map_cons, nodesL, List.length_cons] at *
  omega
theorem nodes_of (s : List UInt8) : nodesT (ofS s) <= 4098 := by
 unfold ofS
 split
 ·unfold of0
  rw [nodes_list, nodes_bytes, List.length_take]
  simp only [nodesL]
  omega
 ·rw [nodes_zero]; omega
theorem split_bulk (t : Term) : (splitF t).1.bulk <= t.bulk + 1 /\ (splitF t).2.1.bulk <= t.bulk + 1 := by
 have hbt := t.bulk_eq
 by_cases hc : right t = true /\ t.knd = 7 /\ t.items ≠ []
 ·obtain ⟨et, h7, hne⟩ := hc
  cases hi : t.items with
  | nil => exact absurd hi hne
  | cons x l =>
   cases l with
   | nil =>
    have e : splitF t = (x, tailOf t, true) := by unfold splitF split; rw [if_pos ⟨et, h7⟩, hi]
    rw [e]
    rw [hi] at hbt
    simp only [bulks] at hbt
    refine ⟨by simp only; omega, ?_⟩
    simp only
    unfold tailOf
    cases htl : t.tail with
    | nil => simp only [listT, Term.bulk, bulks, List.length_nil]; omega
    | cons y r => rw [htl] at hbt; simp only [bulks] at hbt ⊢; omega
   | cons y r =>
    have e : splitF t = (x, listT (y :: r) t.tail, true) := by unfold splitF split; rw [if_pos ⟨et, h7⟩, hi]
    rw [e]
    rw [hi] at hbt
    simp only [bulks] at hbt
    refine ⟨by simp only; omega, ?_⟩
    simp only [listT, Term.bulk, bulks, List.length_nil]
    omega
 ·have e : splitF t = (zeroT, zeroT, false) := by
   unfold splitF split
   split
   ·rename_i h r he
    split at he
    ·rename_i hh
     exfalso
     refine hc ⟨hh.1, hh.2, fun e => ?_⟩
     rw [e] at he; cases he
    ·cases he
   ·rfl
  rw [e]
  simp only [zeroT, Term.bulk, bulks, List.length_nil]
  omega
theorem cons_bulk (h t : Term) : (cons h t).bulk <= h.bulk + t.bulk + 1 := by
 unfold cons
 split
 ·exact cons0_bulk h t
 ·simp only [zeroT, Term.bulk, bulks, List.length_nil]; omega
theorem ofS_bulk (s : List UInt8) : (ofS s).bulk <= 1000000 := by
 unfold ofS
 split
 ·exact of0_bulk s
 ·simp only [zeroT, Term.bulk, bulks, List.length_nil]; omega
theorem tlists_law (hg : GlobT G) (h t : Term) (s : List UInt8) (hh : h.bulk <= 2000000) (ht : t.bulk <= 2000000) (hs : s.length <= 2000000) : Pure Tryz.prog G 4 [h.enc, t.enc, .str s] (.bool true) := by
 have w := awake_pure hg
 have g := (great_pure G [h, t] (by simp only [bulks]; omega)).lessArgs (.cons (le_full [h, t]) .nil)
 simp only [List.map_cons, List.map_nil] at g
 cases hgr : great [h, t] with
 | true => rw [hgr] at g; exact tlists_great w g
 | false =>
  rw [hgr] at g
  by_cases hl : 10000 < s.length
  ·exact tlists_long (eq_true (by omega)) w g
  ·have hn := great_nodes hgr
   simp only [nodesL] at hn
   have n1 := nodes_cons h t
   obtain ⟨n2, n3⟩ := nodes_split t
   have n4 := nodes_of s
   have b1 := cons_bulk h t
   obtain ⟨b2, b3⟩ := split_bulk t
   have b4 := ofS_bulk s
   have sm : ∀ x : Term, x.bulk <= 1000000000 -> Pure Tryz.prog G 18 [x.enc, x.enc] (.bool true) := fun x hx => by
    have := same_pure G x x hx hx
    rw [(same_iff x x).2 rfl] at this
    exact this
   exact tlists_go (C := cons h t) (A := (splitF t).1) (B := (splitF t).2.1) (O := ofS s) (K := (splitF t).2.2) {
    w := w, g := g, hs := eq_false (by omega)
    l1 := fun σ => lent_own G h (by omega) σ
    l2 := fun σ => lent_own G t (by omega) σ
    c := cons_own G h t (by omega) (by omega)
    sp := fun σ => split_own G t (by omega) σ
    of := of_own G s (by omega)
    k1 := kept_pure G h (by omega)
    k2 := kept_pure G t (by omega)
    o1 := over_tri G h (by omega)
    o2 := over_tri G t (by omega)
    rs := rsplit_pure G t (by omega)
    rc := rcons_pure G h t (by omega) (by omega)
    ro := rof_list_pure G s (by omega)
    mC := sm _ (by omega)
    mA := sm _ (by omega)
    mB := sm _ (by omega)
    mO := sm _ (by omega)
    ap := fun vs S g σ hO hd => apartOwn_tri G [[cons h t], [cons h t], [(splitF t).1], [(splitF t).2.1], [ofS s], [ofS s]] vs S g σ hO hd (fun ks hk => by
     simp only [List.mem_cons, List.not_mem_nil, or_false] at hk
     rcases hk with rfl | rfl | rfl | rfl | rfl | rfl <;> (simp only [bulks]; omega)) (by simp only [List.flatten_cons, List.flatten_nil, nodesL, List.cons_append, List.nil_append, List.length_cons, List.length_nil]; omega) }
end
set_option maxRecDepth 100000
section
open Go Go.Av Go.RowKit
variable {H : Type}
theorem bulks_le {l : List Term} {xs : List (DataW H)} (hl : l.length = xs.length) (h : ∀ (i : Nat) x a, xs[i]? = some x -> l[i]? = some a -> a.bulk <= Rows.uptoBulk x) : bulks l <= Rows.uptoBulkAll xs := by
 induction l generalizing xs with
 | nil => simp [bulks]
 | cons a l ih =>
  cases xs with
  | nil => simp at hl
  | cons x xs =>
   have h0 := h 0 x a rfl rfl
   have h1 := ih (xs := xs) (by simpa using hl) (fun i y b hy hb => h (i + 1) y b (by simpa using hy) (by simpa using hb))
   simp only [bulks, Rows.uptoBulkAll]; omega
theorem lims_le {l : List UInt32} {xs : List (DataW H)} (hl : l.length = xs.length) (h : ∀ (i : Nat) x (a : UInt32), xs[i]? = some x -> l[i]? = some a -> 1 <= Rows.uptoBulk x) : l.length <= Rows.uptoBulkAll xs := by
 induction l generalizing xs with
 | nil => simp
 | cons a l ih =>
  cases xs with
  | nil => simp at hl
  | cons x xs =>
   have h0 := h 0 x a rfl rfl
   have h1 := ih (xs := xs) (by simpa using hl) (fun i y b hy hb => h (i + 1) y b (by simpa using hy) (by simpa using hb))
   simp only [List.length_cons, Rows.uptoBulkAll]; omega
theorem u8_of {m : Int} (h : (Lit.int .u8 m).wf = true) : ∃ k : UInt8, m = (k.toNat : Int) := by
 have hr : 0 <= m /\ m < 256 := by
  have h0 : IntKind.u8.min = 0 := by decide
  have h1 : IntKind.u8.max = 255 := by decide
  simp only [Lit.wf, Bool.and_eq_true, decide_eq_true_eq, h0, h1] at h
  omega
 refine ⟨UInt8.ofNat m.toNat, ?_⟩
 rw [UInt8.toNat_ofNat']
 omega
theorem u32_of {m : Int} (h : (Lit.int .u32 m).wf = true) : ∃ k : UInt32, m = (k.toNat : Int) := by
 have hr : 0 <= m /\ m < 4294967296 := by
  have h0 : IntKind.u32.min = 0 := by decide
  have h1 : IntKind.u32.max = 4294967295 := by decide
  simp only [Lit.wf, Bool.and_eq_true, decide_eq_true_eq, h0, h1] at h
  omega
 refine ⟨UInt32.ofNat m.toNat, ?_⟩
 rw [UInt32.toNat_ofNat']
 omega
theorem read_term : ∀ (n : Nat) (d : DataW H), tyW Tryz.prog n 26 d -> ∃ t : Term, avW d = t.enc /\ t.bulk <= Rows.uptoBulk d := by
 intro n
 induction n using Nat.strongRecOn with
 | _ n ih =>
  intro d h
  obtain ⟨ds, m, rfl, rfl, hl, hf⟩ := tyW_struct h Tryz.underlying26
  match ds, hl with
  | [d0, d1, d2, d3, d4, d5, d6], _ =>
   obtain ⟨k, rfl, hk⟩ := tyW_int (hf 0 _ d0 rfl rfl) Tryz.underlying22
   obtain ⟨g, rfl⟩ := tyW_bool (hf 1 _ d1 rfl rfl) Tryz.underlying4
   obtain ⟨xs, sp, q, hx, hq, hxs⟩ := tyW_slice (hf 2 _ d2 rfl rfl) Tryz.underlying23
   obtain ⟨s, rfl, _⟩ := tyW_str (hf 3 _ d3 rfl rfl) Tryz.underlying9
   obtain ⟨nn, rfl, _⟩ := tyW_int (hf 4 _ d4 rfl rfl) Tryz.underlying3
   obtain ⟨ys, sq, q2, hy, hq2, hys⟩ := tyW_slice (hf 5 _ d5 rfl rfl) Tryz.underlying24
   obtain ⟨zs, sr, q3, hz, hq3, hzs⟩ := tyW_slice (hf 6 _ d6 rfl rfl) Tryz.underlying24
   obtain ⟨k', rfl⟩ := u8_of hk
   obtain ⟨l, h1, h2, h3⟩ := slice_dec (enc := limA) (good := fun x _ => 1 <= Rows.uptoBulk x) (fun x hx => by
    obtain ⟨z, rfl, hz⟩ := tyW_int hx Tryz.underlying47
    obtain ⟨z', rfl⟩ := u32_of hz
    exact ⟨z', by simp [avW, limA], by simp [Rows.uptoBulk]⟩) xs hxs
   obtain ⟨l2, i1, i2, i3⟩ := slice_dec (enc := Term.enc) (good := fun x a => a.bulk <= Rows.uptoBulk x) (fun x hx => ih q2 (by omega) x hx) ys hys
   obtain ⟨l3, j1, j2, j3⟩ := slice_dec (enc := Term.enc) (good := fun x a => a.bulk <= Rows.uptoBulk x) (fun x hx => ih q3 (by omega) x hx) zs hzs
   have hb := lims_le h2 h3
   have hb2 := bulks_le i2 i3
   have hb3 := bulks_le j2 j3
   refine ⟨.mk k' g l s nn l2 l3, ?_, ?_⟩
   ·have e1 : flat (avW d2) = [lims l] := by
     rcases hx with ⟨rfl, rfl⟩ | rfl
     ·simp only [avWs, List.length_nil, List.length_eq_zero_iff] at h1 h2
      subst h2
      simp [avW, flat, lims]
     ·simp [avW, flat, lims, h1]
    have e2 : flat (avW d5) = [.sl .none (l2.map Term.enc) []] := by
     rcases hy with ⟨rfl, rfl⟩ | rfl
     ·simp only [avWs, List.length_nil, List.length_eq_zero_iff] at i1 i2
      subst i2
      simp [avW, flat]
     ·simp [avW, flat, i1]
    have e3 : flat (avW d6) = [.sl .none (l3.map Term.enc) []] := by
     rcases hz with ⟨rfl, rfl⟩ | rfl
     ·simp only [avWs, List.length_nil, List.length_eq_zero_iff] at j1 j2
      subst j2
      simp [avW, flat]
     ·simp [avW, flat, j1]
    have e4 : avW (.agg [.lit (.int .u8 (k'.toNat : Int)), .lit (.bool g), d2, .lit (.string s), .lit (.int .i64 nn), d5, d6] : DataW H) = .agg (flat (.int .u8 (k'.toNat : Int)) ++ (flat (.bool g) ++ (flat (avW d2) ++ (flat (.str s) ++ (flat (.int .i64 nn) ++ (flat (avW d5) ++ (flat (avW d6) ++ []))))))) := by
     simp [avW, flatsW]
    rw [e4, e1, e2, e3]
    simp [flat, Term.enc, lims]
   ·rw [Term.bulk]
    rcases hx with ⟨rfl, rfl⟩ | rfl <;> rcases hy with ⟨rfl, rfl⟩ | rfl <;> rcases hz with ⟨rfl, rfl⟩ | rfl <;> simp only [Rows.uptoBulk, Rows.uptoBulkAll] at hb hb2 hb3 ⊢ <;> omega
def S : List TypeId := [26, 22, 4, 23, 47, 9, 3, 24, 105, 5, 128, 239]
theorem closedS : closedT Tryz.prog S = true := by kernel_rfl
def Gv : Nat -> AV := fun g => if g = 0 then .rp (words.map AV.str) else if g = 2 then .tab powV else .raw (.pointer (some ⟨g, 0, none⟩))
theorem globGv : GlobT Gv := { words := rfl, pow := rfl }
theorem laid_tab {P : Program} {W : World} {S : List TypeId} (hS : closedT P S = true) {laid : List (String × DataW Unit)} (hL : laidMet P laid W) {n : String} {d : DataW Unit} (hm : (n, d) ∈ laid) {g : Nat} {t : TypeId} (hg : P.globalNamed n = some g)
  (ht : (P.globals[g]?).map (·.type) = some t) (htS : t ∈ S) {k : IntKind} {zs : List Int} (hcs : flat (avW d) = zs.map fun z => .int k z) : VR (entryK W) (.tab (zs.map fun z => .int k z)) (.pointer (some ⟨g, 0, none⟩)) := by
 obtain ⟨ps, h1, _⟩ := hL
 obtain ⟨g', t', vs, fuel, p, hg', ht', hvar, hd⟩ := laidVars_mem laid ps h1 hm
 obtain rfl := Option.some.inj (hg.symm.trans hg')
 obtain rfl := Option.some.inj (ht.symm.trans ht')
 obtain ⟨_, h2, _⟩ := read_all (K := entryK W) hS (fun b o v h => h) fuel t _ _ htS hd
 simp only [hcs] at h2
 have hsz := h2.size
 have hv : vs = (zs.map fun z => Value.int k z).toArray := by
  apply Array.toList_inj.1
  refine List.ext_getElem? fun j => ?_
  by_cases hj : j < zs.length
  ·have h3 := h2.at_ j (by simpa using hj)
   simp only [List.getElem_map, VR.int_iff] at h3
   have hj2 : j < vs.toList.length := by rw [hsz]; simpa using hj
   rw [List.getD_eq_getElem?_getD, List.getElem?_eq_getElem hj2] at h3
   simp only [Option.getD_some] at h3
   rw [List.getElem?_eq_getElem hj2, h3]
   simp [hj]
  ·rw [List.getElem?_eq_none (by simp at hsz ⊢; omega), List.getElem?_eq_none (by simp; omega)]
 unfold World.var? at hvar
 rw [hg] at hvar
 simp only [Option.bind_some] at hvar
 cases hw : W.heap[g]? with
 | none => rw [hw] at hvar; simp at hvar
 | some o =>
  rw [hw] at hvar
  cases o with
  | cells cs E fz =>
   simp only [Option.some.injEq] at hvar
   subst hvar
   rw [hv] at hw
   exact .tab _ g E fz (Array.getElem?_eq_some_iff.1 hw).1 hw
  | _ => simp at hvar
theorem entry_glob {W : World} {laid : List (String × DataW Unit)} (hL : laidMetH Tryz.prog laid W) (hl : laid = [("math/bits.deBruijn32tab", Rows.laid_math_bits_deBruijn32tab), ("math/bits.deBruijn64tab", Rows.laid_math_bits_deBruijn64tab), ("internal/strconv.uint64pow10", Rows.laid_internal_strconv_uint64pow10), ("pigeonhole/term.words", Rows.laid_pigeonhole_term_words)]) :
  ∀ g, VR (entryK W) (Gv g) (.pointer (some ⟨g, 0, none⟩)) := by
 subst hl
 have hL' : laidMet Tryz.prog [("math/bits.deBruijn32tab", Rows.laid_math_bits_deBruijn32tab), ("math/bits.deBruijn64tab", Rows.laid_math_bits_deBruijn64tab), ("internal/strconv.uint64pow10", Rows.laid_internal_strconv_uint64pow10), ("pigeonhole/term.words", Rows.laid_pigeonhole_term_words)] W := hL
 have h0 : VR (entryK W) (.rp (words.map AV.str)) (.pointer (some ⟨0, 0, none⟩)) :=
  laid_glob closedS hL' (n := "pigeonhole/term.words") (d := Rows.laid_pigeonhole_term_words) (by simp) (g := 0) (t := 105) (by kernel_rfl) (by kernel_rfl) (by decide) (by kernel_rfl)
 have h1 : VR (entryK W) (.tab powV) (.pointer (some ⟨2, 0, none⟩)) :=
  laid_tab closedS hL' (n := "internal/strconv.uint64pow10") (d := Rows.laid_internal_strconv_uint64pow10) (by simp) (g := 2) (t := 239) (k := .u64) (zs := Lib.pow10Tab) (by kernel_rfl) (by kernel_rfl) (by decide) (by kernel_rfl)
 intro g
 unfold Gv
 by_cases hg0 : g = 0
 ·subst hg0; exact h0
 ·by_cases hg1 : g = 2
  ·subst hg1; exact h1
  ·rw [if_neg hg0, if_neg hg1]; exact .raw _
end
section
open Go Go.Av Go.RowKit Go.ChangeShapes
theorem read_str {H : Type} (n : Nat) (d : DataW H) (h : tyW Tryz.prog n 9 d) : ∃ s : List UInt8, avW d = .str s /\ s.length <= Rows.uptoBulk d := by
 obtain ⟨s, rfl, _⟩ := tyW_str h Tryz.underlying9
 exact ⟨s, by simp [avW], by simp only [Rows.uptoBulk]; omega⟩
end
end Go.Proofs.YtdhbdhopnpmboaaGreatDoor
