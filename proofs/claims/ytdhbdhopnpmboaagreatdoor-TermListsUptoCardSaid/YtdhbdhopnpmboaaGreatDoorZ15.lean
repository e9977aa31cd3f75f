/- The reference's integers: made of an amount and a sign. -/
import Derived.Test.YtdhbdhopnpmboaaGreatDoorZ14
import Derived.Test.YtdhbdhopnpmboaaGreatDoorZ09
set_option linter.unusedVariables false
set_option linter.unusedSimpArgs false
set_option maxRecDepth 20000
set_option linter.defProp false
namespace Go.Proofs.YtdhbdhopnpmboaaGreatDoor
open Go Go.Av
section
def tbRefW := And.intro (And.intro (And.intro (And.intro @tf3 @tf4) (And.intro @tf5 (And.intro @tf47 @tf128))) (And.intro (And.intro @tf2 @tf9) (And.intro @tf23 (And.intro @tf22 @tf24)))) (And.intro (And.intro (And.intro @tf26 @tf129) (And.intro @tf106 (And.intro @isv_bools @flat_bools))) (And.intro (And.intro @len_bools @ix_bools) (And.intro @isv_lims (And.intro @flat_lims @len_lims))))
variable (G : Nat -> AV)
theorem tlmN : aelt Tryz.prog 23 = some (47, 1, 4) := tf23.2.2.2.2.2.2
theorem tlmE : el Tryz.prog 23 = some 47 := tf23.2.2.2.1
theorem Tri.wbufC {P : Program} {G : Nat -> AV} {f : FuncId} {args : List AV} {σ : AS} {n : Nat} {E : TypeId} {xs : List AV} {C : AV -> AV} {T : AV} (hh : ∀ b m, Has b m n (C (.bs b m n E))) (hz : ∀ b m ys, Frz b m n (.sl (.own b) ys []) (C (.bs b m n E)) (C (.sl (.own b) ys []))) (hl : ∀ v, Le v (.sl .none xs []) -> Le (C v) T)
  (h : Tri P G f args σ fun r σ' => ∃ v, r = C v /\ WBuf n E σ σ' v xs) : Tri P G f args σ fun r σ' => Le r T /\ σ' = σ := by
 refine Tri.back ⟨h.1, fun K w vals hr hv => (h.2 K w vals hr hv).mono fun e w' ⟨v, r, σ', K', he, ⟨x, hx, hQ⟩, h1, h2, h3⟩ => ?_⟩
 subst hx
 cases hQ with
 | nil hle => exact ⟨v, _, σ', K', he, ⟨hl _ Le.nil, hle⟩, h1, h2, h3⟩
 | row b xs hle h0 ht hb hx =>
  obtain ⟨cap, F, g1, g2, g3⟩ := hh b xs.length K' v h1
  obtain ⟨K2, k1, k2, k3⟩ := freeze_world h2 hb ⟨rfl, rfl, hx⟩ g1 g2 g3
  exact ⟨v, _, _, K2, he, ⟨hl _ Le.gh, AS.froze_le hle h0 ht⟩, k3 _ _ _ (hz b xs.length xs) h1, k2, h3.trans k1⟩
theorem lims_ok (L : List UInt32) : ∀ a, a ∈ L.map limA -> (flat a).length = 1 /\ isv a = true := fun a ha => by
 obtain ⟨x, _, rfl⟩ := List.mem_map.1 ha
 exact ⟨rfl, rfl⟩
theorem flat_limsM (L : List UInt32) : (L.map limA).flatMap flat = L.map limA := by
 induction L with
 | nil => rfl
 | cons x l ih => rw [List.map_cons, List.flatMap_cons, ih]; rfl
theorem lim_zero (L : List UInt32) : (L ++ [0]).map limA = L.map limA ++ [.int .u32 0] := by simp [limA]
theorem u64k {k : Nat} (h : k < 18446744073709551616) : IntKind.u64.wrap (k : Int) = k := by
 have e : IntKind.u64.wrap (k : Int) = (k : Int) % 18446744073709551616 := by first | rfl | simp [IntKind.wrap]
 rw [e]; omega
structure TB (σ0 σ : AS) (b4 bt : Nat) (z : List AV) (g : Bool) (L : List UInt32) (v : AV) : Prop where
 box : σ.box bt = some [.int .u8 1, .bool g, v, .str [], .int .i64 0, .nil, .nil]
 res : σ.box b4 = some z
 buf : WBuf 1 47 σ0 σ v (L.map limA)
 n1 : notRow v bt
 n2 : notRow v b4
 ne : b4 ≠ bt
 o1 : σ0.box bt = none
 o2 : σ0.box b4 = none
theorem TB.app {σ0 σ σ' : AS} {b4 bt : Nat} {z : List AV} {g : Bool} {L : List UInt32} {v v' : AV} (h : TB σ0 σ b4 bt z g L v) (ha : WApp 1 47 σ0 σ v (L.map limA ++ [.int .u32 0]) v' σ') :
  ∃ r, v' = .bs r (L.length + 1) 1 47 /\ σ'.box bt = some [.int .u8 1, .bool g, v, .str [], .int .i64 0, .nil, .nil] /\ TB σ0 (σ'.setBox bt [.int .u8 1, .bool g, .bs r (L.length + 1) 1 47, .str [], .int .i64 0, .nil, .nil]) b4 bt z g (L ++ [0]) (.bs r (L.length + 1) 1 47) := by
 obtain ⟨k1, k2⟩ := ha.keep bt _ h.box h.n1
 obtain ⟨k3, k4⟩ := ha.keep b4 _ h.res h.n2
 obtain ⟨r, e, g1, g2, g3⟩ := ha.buf.form (by simp)
 have hB := ha.buf
 rw [e] at hB k2 k4
 rw [List.length_append, List.length_map, List.length_cons, List.length_nil] at e hB k2 k4
 refine ⟨r, e, k1, by simp [AS.setBox], by simp only [AS.setBox, if_neg h.ne]; exact k3, ?_, k2, k4, h.ne, h.o1, h.o2⟩
 rw [lim_zero]
 exact hB.setOther h.o1 k2 _
theorem TB.row {σ0 σ : AS} {b4 bt : Nat} {z : List AV} {g : Bool} {L : List UInt32} {v : AV} (h : TB σ0 σ b4 bt z g L v) (hL : L ≠ []) : ∃ r, v = .bs r L.length 1 47 /\ σ.box r = some (L.map limA) := by
 obtain ⟨r, e, g1, _⟩ := h.buf.form (by simpa using hL)
 rw [List.length_map] at e
 rw [flat_limsM] at g1
 exact ⟨r, e, g1⟩
theorem set_lims (L : List UInt32) (q : Nat) (h : q < L.length) (y : UInt32) : (L.map limA).take q ++ [limA y] ++ (L.map limA).drop (q + 1) = (L.set q y).map limA := by
 rw [List.set_eq_take_append_cons_drop, if_pos h]
 simp
theorem TB.put {σ0 σ : AS} {b4 bt : Nat} {z : List AV} {g : Bool} {L : List UInt32} {r n : Nat} (h : TB σ0 σ b4 bt z g L (.bs r n 1 47)) (hL : L ≠ []) (q : Nat) (y : UInt32) : TB σ0 (σ.setBox r ((L.set q y).map limA)) b4 bt z g (L.set q y) (.bs r n 1 47) := by
 obtain ⟨r', e, g1, g2, g3⟩ := h.buf.form (by simpa using hL)
 rw [List.length_map] at e
 simp only [AV.bs.injEq] at e
 obtain ⟨rfl, rfl, _⟩ := e
 have n1 : bt ≠ r := h.n1
 have n2 : b4 ≠ r := h.n2
 refine ⟨by simp only [AS.setBox, if_neg n1]; exact h.box, by simp only [AS.setBox, if_neg n2]; exact h.res, ?_, h.n1, h.n2, h.ne, h.o1, h.o2⟩
 have hb := WBuf.row (E := 47) (n := 1) (σ0 := σ0) (σ := σ.setBox r ((L.set q y).map limA)) r ((L.set q y).map limA) (h.buf.le.setBox g2 _) g2 g3 (by rw [flat_limsM]; simp [AS.setBox]) (lims_ok _)
 rw [List.length_map, List.length_set] at hb
 exact hb
theorem TB.le {σ0 σ : AS} {b4 bt : Nat} {z : List AV} {g : Bool} {L : List UInt32} {v : AV} (h : TB σ0 σ b4 bt z g L v) : σ0.le σ := h.buf.le
theorem limbs_eq {L : List UInt32} {l : List Bool} (hv : val L = bv l) (hl : L.length = (l.length + 31) / 32) : L = limbsB l := by
 refine val_inj ?_ ?_
 ·rw [hl, limbsB_len]
 ·rw [hv, limbsB_val]
theorem top_lt {i x : Nat} (hx : x < 2 ^ (i % 32)) : x + 2 ^ (i % 32) < 4294967296 := by
 have : 2 ^ (i % 32) <= 2 ^ 31 := Nat.pow_le_pow_right (by omega) (by omega)
 have h4 : (2 : Nat) ^ 31 = 2147483648 := by decide
 omega
theorem set_top {L : List UInt32} {i : Nat} {x : UInt32} (hx : L[i / 32]? = some x) (ht : x.toNat < 2 ^ (i % 32)) : val (L.set (i / 32) (UInt32.ofNat (x.toNat + 2 ^ (i % 32)))) = val L + 2 ^ i := by
 rw [val_set L (i / 32) x _ (2 ^ (i % 32)) hx (by rw [UInt32.toNat_ofNat', Nat.mod_eq_of_lt (top_lt ht)]), pow_split]
theorem lims_drop {L : List UInt32} {q : Nat} {x : UInt32} (hx : L[q]? = some x) : (L.map limA).drop q = AV.int .u32 x.toNat :: (L.map limA).drop (q + 1) := by
 have : (L.map limA)[q]? = some (limA x) := by rw [List.getElem?_map, hx]; rfl
 rw [drop_get _ _ _ this]; rfl
set_option maxHeartbeats 4000000 in
theorem rmade_a (l0 : List Bool) (hl0 : l0.length <= 100000) (hc : (cutB l0).length <= 1024) : Pure Tryz.prog G 109 [bools l0, .bool false] (.tup [(intT false (limbsB (cutB l0))).enc, .bool true]) := by
 have hcut := cut_pure G l0 (by omega)
 generalize cutB l0 = l at *
 have hgt : ((1024 : Int) < l.length) = False := eq_false (by omega)
 refine Pure.of_le fun σ => Tri.wbufC (n := 1) (E := 47) (xs := (limbsB l).map limA) (C := fun v => .tup [.agg [.int .u8 1, .bool false, v, .str [], .int .i64 0, .nil, .nil], .bool true]) ?_ ?_ ?_ ?_
 ·exact fun b m => Has.tup 0 (by simp) (Has.agg 2 (by simp) Has.bs)
 ·intro b m ys
  refine .tup _ _ rfl fun j h1 h2 => ?_
  match j, h1 with
  | 0, _ =>
   refine .agg _ _ rfl (fun c hc => by simp at hc; rcases hc with rfl | rfl | rfl | rfl | rfl | rfl | rfl <;> rfl) fun j h1 h2 => ?_
   match j, h1 with
   | 0, _ => exact .same _
   | 1, _ => exact .same _
   | 2, _ => exact .here _
   | 3, _ => exact .same _
   | 4, _ => exact .same _
   | 5, _ => exact .same _
   | 6, _ => exact .same _
  | 1, _ => exact .same _
 ·exact fun v hv => Le.tup (.cons (Le.trans (Le.agg (.cons (Le.refl _) (.cons (Le.refl _) (.cons hv (Les.refl _)))) (fun d hd => by simp at hd; rcases hd with rfl | rfl | rfl | rfl | rfl | rfl | rfl <;> rfl)) (intT_le _ _)) (.cons (Le.refl _) .nil))
 refine Tri.of_awp mixed Tryz.func109 rfl (by kernel_rfl) (by kernel_rfl) (by simp [Tryz.ntmps109]) Tryz.results109 ?_
 simp -dsimp only [↓bp, bq, br, seval, tbRefW]
 refine newT_plain fun b4 h4 => ?_
 obtain ⟨S, hS⟩ : ∃ S, S = σ.setBox b4 [.int .u8 0, .bool false, .nil, .str [], .int .i64 0, .nil, .nil] := ⟨_, rfl⟩
 have hSb : S.box b4 = some [.int .u8 0, .bool false, .nil, .str [], .int .i64 0, .nil, .nil] := by rw [hS]; simp [AS.setBox]
 have hle : σ.le S := by rw [hS]; exact (AS.le.refl σ).setBox h4.1 _
 rw [<- hS]
 clear hS
 repeat' (first | refine xs ?_ ?_ <;> intros | ((first | refine xh ?_ | refine xi ?_); intro bx hbx; (try simp only [fb] at hbx); try (have nn := fresh_ne (c := bx) hSb (by simp only [hbx]))) | refine wp hcut ?_ | refine wj ?_ | simp -dsimp only [↓bp, bq, br, seval, tbRefW, *] | refine wz ?_ | fail)
 refine loop_intro (fun n e σ' => ∃ (i : Nat) (L : List UInt32) (v : AV), i <= l.length /\ n = l.length - i /\ e 7 = .int .i64 i /\ TB σ σ' b4 bx [.int .u8 0, .bool false, .nil, .str [], .int .i64 0, .nil, .nil] false L v /\ val L = bv (l.take i) /\ L.length = (i + 31) / 32) l.length
  ⟨0, [], .nil, by omega, by omega, by first | (simp -dsimp only [↓bp, bq, br, seval, tbRefW]; done) | (simp -dsimp only [↓bp, bq, br, seval, tbRefW]; try rfl), ⟨by simp [AS.setBox], by simp [AS.setBox, nn.1, hSb], .nil (hle.setBox (hle.fresh hbx).1 _), trivial, trivial, nn.1, (hle.fresh hbx).1, h4.1⟩, rfl, rfl⟩ ?_
 have ho := (hle.fresh hbx).1
 clear nn hbx hle hSb
 rintro n e σ2 ⟨i, L, v, hi, rfl, h7, hT, hv, hl⟩
 simp -dsimp only [↓bp, bq, br, seval, tbRefW] at h7
 have hbx2 := hT.box
 have hb42 := hT.res
 by_cases hlt : (i : Int) < l.length
 ·obtain ⟨d, hx⟩ : ∃ d, l[i]? = some d := ⟨_, List.getElem?_eq_getElem (by omega)⟩
  have hlt' := eq_true hlt
  have hq : (i : Int).tdiv 32 = ((i / 32 : Nat) : Int) := rfl
  have hr : (i : Int).tmod 32 = ((i % 32 : Nat) : Int) := rfl
  have hwq : IntKind.i64.wrap ((i / 32 : Nat) : Int) = ((i / 32 : Nat) : Int) := wrap_nat (by omega) (by omega)
  have hwr : IntKind.i64.wrap ((i % 32 : Nat) : Int) = ((i % 32 : Nat) : Int) := wrap_nat (by omega) (by omega)
  have hwi : IntKind.i64.wrap ((i : Int) + 1) = ((i + 1 : Nat) : Int) := by rw [wrap_nat (by omega) (by omega)]; rfl
  have hur : IntKind.u64.wrap ((i % 32 : Nat) : Int) = ((i % 32 : Nat) : Int) := u64k (by omega)
  have htk := take_succ_get _ _ _ hx
  have hbnd : L.length <= 40 := by omega
  have hbt : bv (l.take (i + 1)) = bv (l.take i) + 2 ^ i * d.toNat := by
   rw [htk, bv_append, List.length_take, Nat.min_eq_left (by omega)]
   simp [bv]
  have hlti : val L < 2 ^ i := by
   rw [hv]
   refine Nat.lt_of_lt_of_le (bv_lt _) (Nat.pow_le_pow_right (by omega) ?_)
   rw [List.length_take]; omega
  have hnext : ∀ (L1 : List UInt32) (σ5 : AS) (v5 : AV), TB σ σ5 b4 bx [.int .u8 0, .bool false, .nil, .str [], .int .i64 0, .nil, .nil] false L1 v5 -> val L1 = bv (l.take (i + 1)) -> L1.length = i / 32 + 1 -> ∃ m, m < l.length - i /\ ∃ (i_1 : Nat) (L : List UInt32) (v : AV), i_1 <= l.length /\ m = l.length - i_1 /\ AV.int .i64 ((i + 1 : Nat) : Int) = .int .i64 i_1 /\ TB σ σ5 b4 bx [.int .u8 0, .bool false, .nil, .str [], .int .i64 0, .nil, .nil] false L v /\ val L = bv (l.take i_1) /\ L.length = (i_1 + 31) / 32 :=
   fun L1 σ5 v5 h1 h2 h3 => ⟨l.length - (i + 1), by omega, i + 1, L1, v5, by omega, rfl, rfl, h1, h2, by omega⟩
  have hq32 : i % 32 < 32 := by omega
  by_cases h32 : i % 32 = 0
  ·have hc0 := eq_true (show ((i % 32 : Nat) : Int) = 0 by omega)
   cases d with
   | false =>
    have hfin : val (L ++ [0]) = bv (l.take (i + 1)) := by rw [val_append, hbt, hv]; simp [val]
    have hL1l : (L ++ [0]).length = i / 32 + 1 := by simp; omega
    clear hi hlt hcut h32 hlti hbt htk hq hwq hur hv hl hq32
    repeat' (first | refine xs ?_ ?_ <;> intros | (refine wn ?_; intro bx hbx; try simp only [fb] at hbx) | ((refine app_wb (ys := [.int .u32 0]) hT.buf tlmN (asrc_sl tlmE) (fun a ha => by simp at ha; subst ha; exact ⟨rfl, rfl⟩) (by simp; omega) (fun v3 σ3 hA => ?_); obtain ⟨r, rfl, hk, hT1⟩ := hT.app hA)) | refine wj ?_ | simp -dsimp only [↓bp, bq, br, seval, tbRefW, *] | refine wz ?_ | fail)
    all_goals exact hnext _ _ _ hT1 hfin hL1l
   | true =>
    have hL1l : (L ++ [0]).length = i / 32 + 1 := by simp; omega
    have hL1v : val (L ++ [0]) = bv (l.take i) := by rw [val_append, hv]; simp [val]
    have hap : ∀ {v3 : AV} {σ3 : AS}, WApp 1 47 σ σ2 v (L.map limA ++ [.int .u32 0]) v3 σ3 -> _ := fun {v3 σ3} hA => hT.app hA
    have hm : L.length + 1 = i / 32 + 1 := by omega
    rw [hm] at hap
    clear hm
    generalize L ++ [0] = L1 at *
    have hlti' : val L1 < 2 ^ i := by rw [hL1v, <- hv]; exact hlti
    obtain ⟨x, hx1⟩ : ∃ x, L1[i / 32]? = some x := ⟨_, List.getElem?_eq_getElem (by omega)⟩
    have hxt := top_bit hlti' hx1
    have hor := or_top hq32 hxt
    rw [Int.toNat_natCast] at hor
    have hp0 := eq_false (show ¬ ((i % 32 : Nat) : Int) < 0 by omega)
    have hfin := set_top hx1 hxt
    have hya : ((x.toNat + 2 ^ (i % 32) : Nat) : Int) = ((UInt32.ofNat (x.toNat + 2 ^ (i % 32))).toNat : Int) := by rw [UInt32.toNat_ofNat', Nat.mod_eq_of_lt (top_lt hxt)]
    rw [hya] at hor
    clear hya
    have hset := set_lims L1 (i / 32) (by omega) (UInt32.ofNat (x.toNat + 2 ^ (i % 32)))
    have hL2l : (L1.set (i / 32) (UInt32.ofNat (x.toNat + 2 ^ (i % 32)))).length = i / 32 + 1 := by rw [List.length_set]; exact hL1l
    have hdrop := lims_drop hx1
    have hcl : (L1.map limA).length = i / 32 + 1 := by rw [List.length_map]; exact hL1l
    rw [hL1v] at hfin
    have hfin : val (L1.set (i / 32) (UInt32.ofNat (x.toNat + 2 ^ (i % 32)))) = bv (l.take (i + 1)) := by rw [hfin, hbt]; simp
    have hne1 : L1 ≠ [] := fun e => by rw [e] at hL1l; simp at hL1l
    generalize UInt32.ofNat (x.toNat + 2 ^ (i % 32)) = y at *
    have hset' : ∀ (r : Nat) (σ5 : AS), TB σ σ5 b4 bx [.int .u8 0, .bool false, .nil, .str [], .int .i64 0, .nil, .nil] false L1 (.bs r (i / 32 + 1) 1 47) -> TB σ (σ5.setBox r ((L1.map limA).take (i / 32) ++ [AV.int .u32 y.toNat] ++ (L1.map limA).drop (i / 32 + 1))) b4 bx [.int .u8 0, .bool false, .nil, .str [], .int .i64 0, .nil, .nil] false (L1.set (i / 32) y) (.bs r (i / 32 + 1) 1 47) := fun r σ5 h5 => by
     have := h5.put hne1 (i / 32) y
     rw [<- hset] at this
     exact this
    have hit := eq_true (show ((i / 32 : Nat) : Int) < ((i / 32 + 1 : Nat) : Int) by omega)
    have hle0 := eq_true (show i / 32 + 1 <= (L1.map limA).length by omega)
    clear hi hlt hcut h32 hlti hbt htk hv hl hL1v hq32 hL1l hlti' hx1 hxt hset
    generalize i / 32 = q at *
    generalize i % 32 = p at *
    generalize 2 ^ p = pw at *
    repeat' (first | refine xs ?_ ?_ <;> intros | (refine wn ?_; intro bx hbx; try simp only [fb] at hbx) | ((refine app_wb (ys := [.int .u32 0]) hT.buf tlmN (asrc_sl tlmE) (fun a ha => by simp at ha; subst ha; exact ⟨rfl, rfl⟩) (by simp; omega) (fun v3 σ3 hA => ?_); obtain ⟨r, rfl, hk, hT1⟩ := hap hA; obtain ⟨r', er, hr1⟩ := hT1.row hne1; obtain ⟨rfl, -⟩ := AV.bs.inj er; have hT2 := hset' _ _ hT1; have hnr : (bx = r) = False := eq_false hT1.n1; have hnr' : (r = bx) = False := eq_false (Ne.symm hT1.n1); simp only [AS.setBox, hnr', if_false] at hr1; clear er hA hT1)) | refine wj ?_ | simp -dsimp only [↓bp, bq, br, seval, tbRefW, Nat.mul_one, *] | refine wz ?_ | fail)
    all_goals exact hnext _ _ _ hT2 hfin hL2l
  ·have hc0 := eq_false (show ¬ ((i % 32 : Nat) : Int) = 0 by omega)
   have hL1l : L.length = i / 32 + 1 := by omega
   cases d with
   | false =>
    have hfin : val L = bv (l.take (i + 1)) := by rw [hbt, hv]; simp
    clear hi hlt hcut h32 hlti hbt htk hq hwq hur hv hl hq32
    repeat' (first | refine xs ?_ ?_ <;> intros | (refine wn ?_; intro bx hbx; try simp only [fb] at hbx) | refine wj ?_ | simp -dsimp only [↓bp, bq, br, seval, tbRefW, *] | refine wz ?_ | fail)
    all_goals exact hnext _ _ _ hT hfin hL1l
   | true =>
    have hL1v := hv
    obtain ⟨L1, hLL⟩ : ∃ L1, L1 = L := ⟨_, rfl⟩
    rw [<- hLL] at hL1l hL1v hT
    have hlti' : val L1 < 2 ^ i := by rw [hL1v, <- hv]; exact hlti
    obtain ⟨x, hx1⟩ : ∃ x, L1[i / 32]? = some x := ⟨_, List.getElem?_eq_getElem (by omega)⟩
    have hxt := top_bit hlti' hx1
    have hor := or_top hq32 hxt
    rw [Int.toNat_natCast] at hor
    have hp0 := eq_false (show ¬ ((i % 32 : Nat) : Int) < 0 by omega)
    have hfin := set_top hx1 hxt
    have hya : ((x.toNat + 2 ^ (i % 32) : Nat) : Int) = ((UInt32.ofNat (x.toNat + 2 ^ (i % 32))).toNat : Int) := by rw [UInt32.toNat_ofNat', Nat.mod_eq_of_lt (top_lt hxt)]
    rw [hya] at hor
    clear hya
    have hset := set_lims L1 (i / 32) (by omega) (UInt32.ofNat (x.toNat + 2 ^ (i % 32)))
    have hL2l : (L1.set (i / 32) (UInt32.ofNat (x.toNat + 2 ^ (i % 32)))).length = i / 32 + 1 := by rw [List.length_set]; exact hL1l
    have hdrop := lims_drop hx1
    have hcl : (L1.map limA).length = i / 32 + 1 := by rw [List.length_map]; exact hL1l
    rw [hL1v] at hfin
    have hfin : val (L1.set (i / 32) (UInt32.ofNat (x.toNat + 2 ^ (i % 32)))) = bv (l.take (i + 1)) := by rw [hfin, hbt]; simp
    have hne1 : L1 ≠ [] := fun e => by rw [e] at hL1l; simp at hL1l
    generalize UInt32.ofNat (x.toNat + 2 ^ (i % 32)) = y at *
    have hset' : ∀ (r : Nat) (σ5 : AS), TB σ σ5 b4 bx [.int .u8 0, .bool false, .nil, .str [], .int .i64 0, .nil, .nil] false L1 (.bs r (i / 32 + 1) 1 47) -> TB σ (σ5.setBox r ((L1.map limA).take (i / 32) ++ [AV.int .u32 y.toNat] ++ (L1.map limA).drop (i / 32 + 1))) b4 bx [.int .u8 0, .bool false, .nil, .str [], .int .i64 0, .nil, .nil] false (L1.set (i / 32) y) (.bs r (i / 32 + 1) 1 47) := fun r σ5 h5 => by
     have := h5.put hne1 (i / 32) y
     rw [<- hset] at this
     exact this
    have hit := eq_true (show ((i / 32 : Nat) : Int) < ((i / 32 + 1 : Nat) : Int) by omega)
    have hle0 := eq_true (show i / 32 + 1 <= (L1.map limA).length by omega)
    obtain ⟨r, rfl, hr1⟩ := hT.row hne1
    rw [hL1l] at hT hbx2
    have hT2 := hset' _ _ hT
    have hnr : (bx = r) = False := eq_false hT.n1
    have hnr' : (r = bx) = False := eq_false (Ne.symm hT.n1)
    clear hi hlt hcut h32 hlti hbt htk hv hl hL1v hq32 hL1l hlti' hx1 hxt hset hLL hT
    generalize i / 32 = q at *
    generalize i % 32 = p at *
    generalize 2 ^ p = pw at *
    repeat' (first | refine xs ?_ ?_ <;> intros | (refine wn ?_; intro bx hbx; try simp only [fb] at hbx) | refine wj ?_ | simp -dsimp only [↓bp, bq, br, seval, tbRefW, Nat.mul_one, *] | refine wz ?_ | fail)
    all_goals exact hnext _ _ _ hT2 hfin hL2l
 ·have : i = l.length := by omega
  subst this
  rw [List.take_length] at hv
  have hLL := limbs_eq hv hl
  subst hLL
  have hirr := eq_false (Int.lt_irrefl (l.length : Int))
  have hfin : WBuf 1 47 σ (σ2.setBox b4 [.int .u8 1, .bool false, v, .str [], .int .i64 0, .nil, .nil]) v ((limbsB l).map limA) := hT.buf.setOther h4.1 hT.n2 _
  clear hlt hi hv hl hT
  repeat' (first | refine xs ?_ ?_ <;> intros | (refine wn ?_; intro bx hbx; try simp only [fb] at hbx) | refine wj ?_ | simp -dsimp only [↓bp, bq, br, seval, tbRefW, ares_cons2, ares1_tmp, ares1_cell, aresk_some, *] | refine wz ?_ | fail)
  exact finishW_some _ (AS.le.refl _) ⟨v, rfl, hfin⟩
set_option maxHeartbeats 4000000 in
theorem rmade_b (l0 : List Bool) (hl0 : l0.length <= 100000) (hc : (cutB l0).length <= 1024) (hp : 0 < (cutB l0).length) : Pure Tryz.prog G 109 [bools l0, .bool true] (.tup [(intT true (limbsB (cutB l0))).enc, .bool true]) := by
 have hcut := cut_pure G l0 (by omega)
 generalize cutB l0 = l at *
 have hgt : ((1024 : Int) < l.length) = False := eq_false (by omega)
 refine Pure.of_le fun σ => Tri.wbufC (n := 1) (E := 47) (xs := (limbsB l).map limA) (C := fun v => .tup [.agg [.int .u8 1, .bool true, v, .str [], .int .i64 0, .nil, .nil], .bool true]) ?_ ?_ ?_ ?_
 ·exact fun b m => Has.tup 0 (by simp) (Has.agg 2 (by simp) Has.bs)
 ·intro b m ys
  refine .tup _ _ rfl fun j h1 h2 => ?_
  match j, h1 with
  | 0, _ =>
   refine .agg _ _ rfl (fun c hc => by simp at hc; rcases hc with rfl | rfl | rfl | rfl | rfl | rfl | rfl <;> rfl) fun j h1 h2 => ?_
   match j, h1 with
   | 0, _ => exact .same _
   | 1, _ => exact .same _
   | 2, _ => exact .here _
   | 3, _ => exact .same _
   | 4, _ => exact .same _
   | 5, _ => exact .same _
   | 6, _ => exact .same _
  | 1, _ => exact .same _
 ·exact fun v hv => Le.tup (.cons (Le.trans (Le.agg (.cons (Le.refl _) (.cons (Le.refl _) (.cons hv (Les.refl _)))) (fun d hd => by simp at hd; rcases hd with rfl | rfl | rfl | rfl | rfl | rfl | rfl <;> rfl)) (intT_le _ _)) (.cons (Le.refl _) .nil))
 refine Tri.of_awp mixed Tryz.func109 rfl (by kernel_rfl) (by kernel_rfl) (by simp [Tryz.ntmps109]) Tryz.results109 ?_
 simp -dsimp only [↓bp, bq, br, seval, tbRefW]
 refine newT_plain fun b4 h4 => ?_
 obtain ⟨S, hS⟩ : ∃ S, S = σ.setBox b4 [.int .u8 0, .bool false, .nil, .str [], .int .i64 0, .nil, .nil] := ⟨_, rfl⟩
 have hSb : S.box b4 = some [.int .u8 0, .bool false, .nil, .str [], .int .i64 0, .nil, .nil] := by rw [hS]; simp [AS.setBox]
 have hle : σ.le S := by rw [hS]; exact (AS.le.refl σ).setBox h4.1 _
 rw [<- hS]
 have hp : ((0:Int) < l.length) = True := eq_true (by omega)
 clear hS
 repeat' (first | refine xs ?_ ?_ <;> intros | ((first | refine xh ?_ | refine xi ?_); intro bx hbx; (try simp only [fb] at hbx); try (have nn := fresh_ne (c := bx) hSb (by simp only [hbx]))) | refine wp hcut ?_ | refine wj ?_ | simp -dsimp only [↓bp, bq, br, seval, tbRefW, *] | refine wz ?_ | fail)
 clear hp
 refine loop_intro (fun n e σ' => ∃ (i : Nat) (L : List UInt32) (v : AV), i <= l.length /\ n = l.length - i /\ e 7 = .int .i64 i /\ TB σ σ' b4 bx [.int .u8 0, .bool false, .nil, .str [], .int .i64 0, .nil, .nil] true L v /\ val L = bv (l.take i) /\ L.length = (i + 31) / 32) l.length
  ⟨0, [], .nil, by omega, by omega, by first | (simp -dsimp only [↓bp, bq, br, seval, tbRefW]; done) | (simp -dsimp only [↓bp, bq, br, seval, tbRefW]; try rfl), ⟨by simp [AS.setBox], by simp [AS.setBox, nn.1, hSb], .nil (hle.setBox (hle.fresh hbx).1 _), trivial, trivial, nn.1, (hle.fresh hbx).1, h4.1⟩, rfl, rfl⟩ ?_
 have ho := (hle.fresh hbx).1
 clear nn hbx hle hSb
 rintro n e σ2 ⟨i, L, v, hi, rfl, h7, hT, hv, hl⟩
 simp -dsimp only [↓bp, bq, br, seval, tbRefW] at h7
 have hbx2 := hT.box
 have hb42 := hT.res
 by_cases hlt : (i : Int) < l.length
 ·obtain ⟨d, hx⟩ : ∃ d, l[i]? = some d := ⟨_, List.getElem?_eq_getElem (by omega)⟩
  have hlt' := eq_true hlt
  have hq : (i : Int).tdiv 32 = ((i / 32 : Nat) : Int) := rfl
  have hr : (i : Int).tmod 32 = ((i % 32 : Nat) : Int) := rfl
  have hwq : IntKind.i64.wrap ((i / 32 : Nat) : Int) = ((i / 32 : Nat) : Int) := wrap_nat (by omega) (by omega)
  have hwr : IntKind.i64.wrap ((i % 32 : Nat) : Int) = ((i % 32 : Nat) : Int) := wrap_nat (by omega) (by omega)
  have hwi : IntKind.i64.wrap ((i : Int) + 1) = ((i + 1 : Nat) : Int) := by rw [wrap_nat (by omega) (by omega)]; rfl
  have hur : IntKind.u64.wrap ((i % 32 : Nat) : Int) = ((i % 32 : Nat) : Int) := u64k (by omega)
  have htk := take_succ_get _ _ _ hx
  have hbnd : L.length <= 40 := by omega
  have hbt : bv (l.take (i + 1)) = bv (l.take i) + 2 ^ i * d.toNat := by
   rw [htk, bv_append, List.length_take, Nat.min_eq_left (by omega)]
   simp [bv]
  have hlti : val L < 2 ^ i := by
   rw [hv]
   refine Nat.lt_of_lt_of_le (bv_lt _) (Nat.pow_le_pow_right (by omega) ?_)
   rw [List.length_take]; omega
  have hnext : ∀ (L1 : List UInt32) (σ5 : AS) (v5 : AV), TB σ σ5 b4 bx [.int .u8 0, .bool false, .nil, .str [], .int .i64 0, .nil, .nil] true L1 v5 -> val L1 = bv (l.take (i + 1)) -> L1.length = i / 32 + 1 -> ∃ m, m < l.length - i /\ ∃ (i_1 : Nat) (L : List UInt32) (v : AV), i_1 <= l.length /\ m = l.length - i_1 /\ AV.int .i64 ((i + 1 : Nat) : Int) = .int .i64 i_1 /\ TB σ σ5 b4 bx [.int .u8 0, .bool false, .nil, .str [], .int .i64 0, .nil, .nil] true L v /\ val L = bv (l.take i_1) /\ L.length = (i_1 + 31) / 32 :=
   fun L1 σ5 v5 h1 h2 h3 => ⟨l.length - (i + 1), by omega, i + 1, L1, v5, by omega, rfl, rfl, h1, h2, by omega⟩
  have hq32 : i % 32 < 32 := by omega
  by_cases h32 : i % 32 = 0
  ·have hc0 := eq_true (show ((i % 32 : Nat) : Int) = 0 by omega)
   cases d with
   | false =>
    have hfin : val (L ++ [0]) = bv (l.take (i + 1)) := by rw [val_append, hbt, hv]; simp [val]
    have hL1l : (L ++ [0]).length = i / 32 + 1 := by simp; omega
    clear hi hlt hcut h32 hlti hbt htk hq hwq hur hv hl hq32
    repeat' (first | refine xs ?_ ?_ <;> intros | (refine wn ?_; intro bx hbx; try simp only [fb] at hbx) | ((refine app_wb (ys := [.int .u32 0]) hT.buf tlmN (asrc_sl tlmE) (fun a ha => by simp at ha; subst ha; exact ⟨rfl, rfl⟩) (by simp; omega) (fun v3 σ3 hA => ?_); obtain ⟨r, rfl, hk, hT1⟩ := hT.app hA)) | refine wj ?_ | simp -dsimp only [↓bp, bq, br, seval, tbRefW, *] | refine wz ?_ | fail)
    all_goals exact hnext _ _ _ hT1 hfin hL1l
   | true =>
    have hL1l : (L ++ [0]).length = i / 32 + 1 := by simp; omega
    have hL1v : val (L ++ [0]) = bv (l.take i) := by rw [val_append, hv]; simp [val]
    have hap : ∀ {v3 : AV} {σ3 : AS}, WApp 1 47 σ σ2 v (L.map limA ++ [.int .u32 0]) v3 σ3 -> _ := fun {v3 σ3} hA => hT.app hA
    have hm : L.length + 1 = i / 32 + 1 := by omega
    rw [hm] at hap
    clear hm
    generalize L ++ [0] = L1 at *
    have hlti' : val L1 < 2 ^ i := by rw [hL1v, <- hv]; exact hlti
    obtain ⟨x, hx1⟩ : ∃ x, L1[i / 32]? = some x := ⟨_, List.getElem?_eq_getElem (by omega)⟩
    have hxt := top_bit hlti' hx1
    have hor := or_top hq32 hxt
    rw [Int.toNat_natCast] at hor
    have hp0 := eq_false (show ¬ ((i % 32 : Nat) : Int) < 0 by omega)
    have hfin := set_top hx1 hxt
    have hya : ((x.toNat + 2 ^ (i % 32) : Nat) : Int) = ((UInt32.ofNat (x.toNat + 2 ^ (i % 32))).toNat : Int) := by rw [UInt32.toNat_ofNat', Nat.mod_eq_of_lt (top_lt hxt)]
    rw [hya] at hor
    clear hya
    have hset := set_lims L1 (i / 32) (by omega) (UInt32.ofNat (x.toNat + 2 ^ (i % 32)))
    have hL2l : (L1.set (i / 32) (UInt32.ofNat (x.toNat + 2 ^ (i % 32)))).length = i / 32 + 1 := by rw [List.length_set]; exact hL1l
    have hdrop := lims_drop hx1
    have hcl : (L1.map limA).length = i / 32 + 1 := by rw [List.length_map]; exact hL1l
    rw [hL1v] at hfin
    have hfin : val (L1.set (i / 32) (UInt32.ofNat (x.toNat + 2 ^ (i % 32)))) = bv (l.take (i + 1)) := by rw [hfin, hbt]; simp
    have hne1 : L1 ≠ [] := fun e => by rw [e] at hL1l; simp at hL1l
    generalize UInt32.ofNat (x.toNat + 2 ^ (i % 32)) = y at *
    have hset' : ∀ (r : Nat) (σ5 : AS), TB σ σ5 b4 bx [.int .u8 0, .bool false, .nil, .str [], .int .i64 0, .nil, .nil] true L1 (.bs r (i / 32 + 1) 1 47) -> TB σ (σ5.setBox r ((L1.map limA).take (i / 32) ++ [AV.int .u32 y.toNat] ++ (L1.map limA).drop (i / 32 + 1))) b4 bx [.int .u8 0, .bool false, .nil, .str [], .int .i64 0, .nil, .nil] true (L1.set (i / 32) y) (.bs r (i / 32 + 1) 1 47) := fun r σ5 h5 => by
     have := h5.put hne1 (i / 32) y
     rw [<- hset] at this
     exact this
    have hit := eq_true (show ((i / 32 : Nat) : Int) < ((i / 32 + 1 : Nat) : Int) by omega)
    have hle0 := eq_true (show i / 32 + 1 <= (L1.map limA).length by omega)
    clear hi hlt hcut h32 hlti hbt htk hv hl hL1v hq32 hL1l hlti' hx1 hxt hset
    generalize i / 32 = q at *
    generalize i % 32 = p at *
    generalize 2 ^ p = pw at *
    repeat' (first | refine xs ?_ ?_ <;> intros | (refine wn ?_; intro bx hbx; try simp only [fb] at hbx) | ((refine app_wb (ys := [.int .u32 0]) hT.buf tlmN (asrc_sl tlmE) (fun a ha => by simp at ha; subst ha; exact ⟨rfl, rfl⟩) (by simp; omega) (fun v3 σ3 hA => ?_); obtain ⟨r, rfl, hk, hT1⟩ := hap hA; obtain ⟨r', er, hr1⟩ := hT1.row hne1; obtain ⟨rfl, -⟩ := AV.bs.inj er; have hT2 := hset' _ _ hT1; have hnr : (bx = r) = False := eq_false hT1.n1; have hnr' : (r = bx) = False := eq_false (Ne.symm hT1.n1); simp only [AS.setBox, hnr', if_false] at hr1; clear er hA hT1)) | refine wj ?_ | simp -dsimp only [↓bp, bq, br, seval, tbRefW, Nat.mul_one, *] | refine wz ?_ | fail)
    all_goals exact hnext _ _ _ hT2 hfin hL2l
  ·have hc0 := eq_false (show ¬ ((i % 32 : Nat) : Int) = 0 by omega)
   have hL1l : L.length = i / 32 + 1 := by omega
   cases d with
   | false =>
    have hfin : val L = bv (l.take (i + 1)) := by rw [hbt, hv]; simp
    clear hi hlt hcut h32 hlti hbt htk hq hwq hur hv hl hq32
    repeat' (first | refine xs ?_ ?_ <;> intros | (refine wn ?_; intro bx hbx; try simp only [fb] at hbx) | refine wj ?_ | simp -dsimp only [↓bp, bq, br, seval, tbRefW, *] | refine wz ?_ | fail)
    all_goals exact hnext _ _ _ hT hfin hL1l
   | true =>
    have hL1v := hv
    obtain ⟨L1, hLL⟩ : ∃ L1, L1 = L := ⟨_, rfl⟩
    rw [<- hLL] at hL1l hL1v hT
    have hlti' : val L1 < 2 ^ i := by rw [hL1v, <- hv]; exact hlti
    obtain ⟨x, hx1⟩ : ∃ x, L1[i / 32]? = some x := ⟨_, List.getElem?_eq_getElem (by omega)⟩
    have hxt := top_bit hlti' hx1
    have hor := or_top hq32 hxt
    rw [Int.toNat_natCast] at hor
    have hp0 := eq_false (show ¬ ((i % 32 : Nat) : Int) < 0 by omega)
    have hfin := set_top hx1 hxt
    have hya : ((x.toNat + 2 ^ (i % 32) : Nat) : Int) = ((UInt32.ofNat (x.toNat + 2 ^ (i % 32))).toNat : Int) := by rw [UInt32.toNat_ofNat', Nat.mod_eq_of_lt (top_lt hxt)]
    rw [hya] at hor
    clear hya
    have hset := set_lims L1 (i / 32) (by omega) (UInt32.ofNat (x.toNat + 2 ^ (i % 32)))
    have hL2l : (L1.set (i / 32) (UInt32.ofNat (x.toNat + 2 ^ (i % 32)))).length = i / 32 + 1 := by rw [List.length_set]; exact hL1l
    have hdrop := lims_drop hx1
    have hcl : (L1.map limA).length = i / 32 + 1 := by rw [List.length_map]; exact hL1l
    rw [hL1v] at hfin
    have hfin : val (L1.set (i / 32) (UInt32.ofNat (x.toNat + 2 ^ (i % 32)))) = bv (l.take (i + 1)) := by rw [hfin, hbt]; simp
    have hne1 : L1 ≠ [] := fun e => by rw [e] at hL1l; simp at hL1l
    generalize UInt32.ofNat (x.toNat + 2 ^ (i % 32)) = y at *
    have hset' : ∀ (r : Nat) (σ5 : AS), TB σ σ5 b4 bx [.int .u8 0, .bool false, .nil, .str [], .int .i64 0, .nil, .nil] true L1 (.bs r (i / 32 + 1) 1 47) -> TB σ (σ5.setBox r ((L1.map limA).take (i / 32) ++ [AV.int .u32 y.toNat] ++ (L1.map limA).drop (i / 32 + 1))) b4 bx [.int .u8 0, .bool false, .nil, .str [], .int .i64 0, .nil, .nil] true (L1.set (i / 32) y) (.bs r (i / 32 + 1) 1 47) := fun r σ5 h5 => by
     have := h5.put hne1 (i / 32) y
     rw [<- hset] at this
     exact this
    have hit := eq_true (show ((i / 32 : Nat) : Int) < ((i / 32 + 1 : Nat) : Int) by omega)
    have hle0 := eq_true (show i / 32 + 1 <= (L1.map limA).length by omega)
    obtain ⟨r, rfl, hr1⟩ := hT.row hne1
    rw [hL1l] at hT hbx2
    have hT2 := hset' _ _ hT
    have hnr : (bx = r) = False := eq_false hT.n1
    have hnr' : (r = bx) = False := eq_false (Ne.symm hT.n1)
    clear hi hlt hcut h32 hlti hbt htk hv hl hL1v hq32 hL1l hlti' hx1 hxt hset hLL hT
    generalize i / 32 = q at *
    generalize i % 32 = p at *
    generalize 2 ^ p = pw at *
    repeat' (first | refine xs ?_ ?_ <;> intros | (refine wn ?_; intro bx hbx; try simp only [fb] at hbx) | refine wj ?_ | simp -dsimp only [↓bp, bq, br, seval, tbRefW, Nat.mul_one, *] | refine wz ?_ | fail)
    all_goals exact hnext _ _ _ hT2 hfin hL2l
 ·have : i = l.length := by omega
  subst this
  rw [List.take_length] at hv
  have hLL := limbs_eq hv hl
  subst hLL
  have hirr := eq_false (Int.lt_irrefl (l.length : Int))
  have hfin : WBuf 1 47 σ (σ2.setBox b4 [.int .u8 1, .bool true, v, .str [], .int .i64 0, .nil, .nil]) v ((limbsB l).map limA) := hT.buf.setOther h4.1 hT.n2 _
  clear hlt hi hv hl hT
  repeat' (first | refine xs ?_ ?_ <;> intros | (refine wn ?_; intro bx hbx; try simp only [fb] at hbx) | refine wj ?_ | simp -dsimp only [↓bp, bq, br, seval, tbRefW, ares_cons2, ares1_tmp, ares1_cell, aresk_some, *] | refine wz ?_ | fail)
  exact finishW_some _ (AS.le.refl _) ⟨v, rfl, hfin⟩
set_option maxHeartbeats 4000000 in
theorem rmade_c (l0 : List Bool) (hl0 : l0.length <= 100000) (hc : (cutB l0).length <= 1024) (hp : ¬ 0 < (cutB l0).length) : Pure Tryz.prog G 109 [bools l0, .bool true] (.tup [(intT false (limbsB (cutB l0))).enc, .bool true]) := by
 have hcut := cut_pure G l0 (by omega)
 generalize cutB l0 = l at *
 have hgt : ((1024 : Int) < l.length) = False := eq_false (by omega)
 refine Pure.of_le fun σ => Tri.wbufC (n := 1) (E := 47) (xs := (limbsB l).map limA) (C := fun v => .tup [.agg [.int .u8 1, .bool false, v, .str [], .int .i64 0, .nil, .nil], .bool true]) ?_ ?_ ?_ ?_
 ·exact fun b m => Has.tup 0 (by simp) (Has.agg 2 (by simp) Has.bs)
 ·intro b m ys
  refine .tup _ _ rfl fun j h1 h2 => ?_
  match j, h1 with
  | 0, _ =>
   refine .agg _ _ rfl (fun c hc => by simp at hc; rcases hc with rfl | rfl | rfl | rfl | rfl | rfl | rfl <;> rfl) fun j h1 h2 => ?_
   match j, h1 with
   | 0, _ => exact .same _
   | 1, _ => exact .same _
   | 2, _ => exact .here _
   | 3, _ => exact .same _
   | 4, _ => exact .same _
   | 5, _ => exact .same _
   | 6, _ => exact .same _
  | 1, _ => exact .same _
 ·exact fun v hv => Le.tup (.cons (Le.trans (Le.agg (.cons (Le.refl _) (.cons (Le.refl _) (.cons hv (Les.refl _)))) (fun d hd => by simp at hd; rcases hd with rfl | rfl | rfl | rfl | rfl | rfl | rfl <;> rfl)) (intT_le _ _)) (.cons (Le.refl _) .nil))
 refine Tri.of_awp mixed Tryz.func109 rfl (by kernel_rfl) (by kernel_rfl) (by simp [Tryz.ntmps109]) Tryz.results109 ?_
 simp -dsimp only [↓bp, bq, br, seval, tbRefW]
 refine newT_plain fun b4 h4 => ?_
 obtain ⟨S, hS⟩ : ∃ S, S = σ.setBox b4 [.int .u8 0, .bool false, .nil, .str [], .int .i64 0, .nil, .nil] := ⟨_, rfl⟩
 have hSb : S.box b4 = some [.int .u8 0, .bool false, .nil, .str [], .int .i64 0, .nil, .nil] := by rw [hS]; simp [AS.setBox]
 have hle : σ.le S := by rw [hS]; exact (AS.le.refl σ).setBox h4.1 _
 rw [<- hS]
 have hp : ((0:Int) < l.length) = False := eq_false (by omega)
 clear hS
 repeat' (first | refine xs ?_ ?_ <;> intros | ((first | refine xh ?_ | refine xi ?_); intro bx hbx; (try simp only [fb] at hbx); try (have nn := fresh_ne (c := bx) hSb (by simp only [hbx]))) | refine wp hcut ?_ | refine wj ?_ | simp -dsimp only [↓bp, bq, br, seval, tbRefW, *] | refine wz ?_ | fail)
 clear hp
 refine loop_intro (fun n e σ' => ∃ (i : Nat) (L : List UInt32) (v : AV), i <= l.length /\ n = l.length - i /\ e 7 = .int .i64 i /\ TB σ σ' b4 bx [.int .u8 0, .bool false, .nil, .str [], .int .i64 0, .nil, .nil] false L v /\ val L = bv (l.take i) /\ L.length = (i + 31) / 32) l.length
  ⟨0, [], .nil, by omega, by omega, by first | (simp -dsimp only [↓bp, bq, br, seval, tbRefW]; done) | (simp -dsimp only [↓bp, bq, br, seval, tbRefW]; try rfl), ⟨by simp [AS.setBox], by simp [AS.setBox, nn.1, hSb], .nil (hle.setBox (hle.fresh hbx).1 _), trivial, trivial, nn.1, (hle.fresh hbx).1, h4.1⟩, rfl, rfl⟩ ?_
 have ho := (hle.fresh hbx).1
 clear nn hbx hle hSb
 rintro n e σ2 ⟨i, L, v, hi, rfl, h7, hT, hv, hl⟩
 simp -dsimp only [↓bp, bq, br, seval, tbRefW] at h7
 have hbx2 := hT.box
 have hb42 := hT.res
 by_cases hlt : (i : Int) < l.length
 ·obtain ⟨d, hx⟩ : ∃ d, l[i]? = some d := ⟨_, List.getElem?_eq_getElem (by omega)⟩
  have hlt' := eq_true hlt
  have hq : (i : Int).tdiv 32 = ((i / 32 : Nat) : Int) := rfl
  have hr : (i : Int).tmod 32 = ((i % 32 : Nat) : Int) := rfl
  have hwq : IntKind.i64.wrap ((i / 32 : Nat) : Int) = ((i / 32 : Nat) : Int) := wrap_nat (by omega) (by omega)
  have hwr : IntKind.i64.wrap ((i % 32 : Nat) : Int) = ((i % 32 : Nat) : Int) := wrap_nat (by omega) (by omega)
  have hwi : IntKind.i64.wrap ((i : Int) + 1) = ((i + 1 : Nat) : Int) := by rw [wrap_nat (by omega) (by omega)]; rfl
  have hur : IntKind.u64.wrap ((i % 32 : Nat) : Int) = ((i % 32 : Nat) : Int) := u64k (by omega)
  have htk := take_succ_get _ _ _ hx
  have hbnd : L.length <= 40 := by omega
  have hbt : bv (l.take (i + 1)) = bv (l.take i) + 2 ^ i * d.toNat := by
   rw [htk, bv_append, List.length_take, Nat.min_eq_left (by omega)]
   simp [bv]
  have hlti : val L < 2 ^ i := by
   rw [hv]
   refine Nat.lt_of_lt_of_le (bv_lt _) (Nat.pow_le_pow_right (by omega) ?_)
   rw [List.length_take]; omega
  have hnext : ∀ (L1 : List UInt32) (σ5 : AS) (v5 : AV), TB σ σ5 b4 bx [.int .u8 0, .bool false, .nil, .str [], .int .i64 0, .nil, .nil] false L1 v5 -> val L1 = bv (l.take (i + 1)) -> L1.length = i / 32 + 1 -> ∃ m, m < l.length - i /\ ∃ (i_1 : Nat) (L : List UInt32) (v : AV), i_1 <= l.length /\ m = l.length - i_1 /\ AV.int .i64 ((i + 1 : Nat) : Int) = .int .i64 i_1 /\ TB σ σ5 b4 bx [.int .u8 0, .bool false, .nil, .str [], .int .i64 0, .nil, .nil] false L v /\ val L = bv (l.take i_1) /\ L.length = (i_1 + 31) / 32 :=
   fun L1 σ5 v5 h1 h2 h3 => ⟨l.length - (i + 1), by omega, i + 1, L1, v5, by omega, rfl, rfl, h1, h2, by omega⟩
  have hq32 : i % 32 < 32 := by omega
  by_cases h32 : i % 32 = 0
  ·have hc0 := eq_true (show ((i % 32 : Nat) : Int) = 0 by omega)
   cases d with
   | false =>
    have hfin : val (L ++ [0]) = bv (l.take (i + 1)) := by rw [val_append, hbt, hv]; simp [val]
    have hL1l : (L ++ [0]).length = i / 32 + 1 := by simp; omega
    clear hi hlt hcut h32 hlti hbt htk hq hwq hur hv hl hq32
    repeat' (first | refine xs ?_ ?_ <;> intros | (refine wn ?_; intro bx hbx; try simp only [fb] at hbx) | ((refine app_wb (ys := [.int .u32 0]) hT.buf tlmN (asrc_sl tlmE) (fun a ha => by simp at ha; subst ha; exact ⟨rfl, rfl⟩) (by simp; omega) (fun v3 σ3 hA => ?_); obtain ⟨r, rfl, hk, hT1⟩ := hT.app hA)) | refine wj ?_ | simp -dsimp only [↓bp, bq, br, seval, tbRefW, *] | refine wz ?_ | fail)
    all_goals exact hnext _ _ _ hT1 hfin hL1l
   | true =>
    have hL1l : (L ++ [0]).length = i / 32 + 1 := by simp; omega
    have hL1v : val (L ++ [0]) = bv (l.take i) := by rw [val_append, hv]; simp [val]
    have hap : ∀ {v3 : AV} {σ3 : AS}, WApp 1 47 σ σ2 v (L.map limA ++ [.int .u32 0]) v3 σ3 -> _ := fun {v3 σ3} hA => hT.app hA
    have hm : L.length + 1 = i / 32 + 1 := by omega
    rw [hm] at hap
    clear hm
    generalize L ++ [0] = L1 at *
    have hlti' : val L1 < 2 ^ i := by rw [hL1v, <- hv]; exact hlti
    obtain ⟨x, hx1⟩ : ∃ x, L1[i / 32]? = some x := ⟨_, List.getElem?_eq_getElem (by omega)⟩
    have hxt := top_bit hlti' hx1
    have hor := or_top hq32 hxt
    rw [Int.toNat_natCast] at hor
    have hp0 := eq_false (show ¬ ((i % 32 : Nat) : Int) < 0 by omega)
    have hfin := set_top hx1 hxt
    have hya : ((x.toNat + 2 ^ (i % 32) : Nat) : Int) = ((UInt32.ofNat (x.toNat + 2 ^ (i % 32))).toNat : Int) := by rw [UInt32.toNat_ofNat', Nat.mod_eq_of_lt (top_lt hxt)]
    rw [hya] at hor
    clear hya
    have hset := set_lims L1 (i / 32) (by omega) (UInt32.ofNat (x.toNat + 2 ^ (i % 32)))
    have hL2l : (L1.set (i / 32) (UInt32.ofNat (x.toNat + 2 ^ (i % 32)))).length = i / 32 + 1 := by rw [List.length_set]; exact hL1l
    have hdrop := lims_drop hx1
    have hcl : (L1.map limA).length = i / 32 + 1 := by rw [List.length_map]; exact hL1l
    rw [hL1v] at hfin
    have hfin : val (L1.set (i / 32) (UInt32.ofNat (x.toNat + 2 ^ (i % 32)))) = bv (l.take (i + 1)) := by rw [hfin, hbt]; simp
    have hne1 : L1 ≠ [] := fun e => by rw [e] at hL1l; simp at hL1l
    generalize UInt32.ofNat (x.toNat + 2 ^ (i % 32)) = y at *
    have hset' : ∀ (r : Nat) (σ5 : AS), TB σ σ5 b4 bx [.int .u8 0, .bool false, .nil, .str [], .int .i64 0, .nil, .nil] false L1 (.bs r (i / 32 + 1) 1 47) -> TB σ (σ5.setBox r ((L1.map limA).take (i / 32) ++ [AV.int .u32 y.toNat] ++ (L1.map limA).drop (i / 32 + 1))) b4 bx [.int .u8 0, .bool false, .nil, .str [], .int .i64 0, .nil, .nil] false (L1.set (i / 32) y) (.bs r (i / 32 + 1) 1 47) := fun r σ5 h5 => by
     have := h5.put hne1 (i / 32) y
     rw [<- hset] at this
     exact this
    have hit := eq_true (show ((i / 32 : Nat) : Int) < ((i / 32 + 1 : Nat) : Int) by omega)
    have hle0 := eq_true (show i / 32 + 1 <= (L1.map limA).length by omega)
    clear hi hlt hcut h32 hlti hbt htk hv hl hL1v hq32 hL1l hlti' hx1 hxt hset
    generalize i / 32 = q at *
    generalize i % 32 = p at *
    generalize 2 ^ p = pw at *
    repeat' (first | refine xs ?_ ?_ <;> intros | (refine wn ?_; intro bx hbx; try simp only [fb] at hbx) | ((refine app_wb (ys := [.int .u32 0]) hT.buf tlmN (asrc_sl tlmE) (fun a ha => by simp at ha; subst ha; exact ⟨rfl, rfl⟩) (by simp; omega) (fun v3 σ3 hA => ?_); obtain ⟨r, rfl, hk, hT1⟩ := hap hA; obtain ⟨r', er, hr1⟩ := hT1.row hne1; obtain ⟨rfl, -⟩ := AV.bs.inj er; have hT2 := hset' _ _ hT1; have hnr : (bx = r) = False := eq_false hT1.n1; have hnr' : (r = bx) = False := eq_false (Ne.symm hT1.n1); simp only [AS.setBox, hnr', if_false] at hr1; clear er hA hT1)) | refine wj ?_ | simp -dsimp only [↓bp, bq, br, seval, tbRefW, Nat.mul_one, *] | refine wz ?_ | fail)
    all_goals exact hnext _ _ _ hT2 hfin hL2l
  ·have hc0 := eq_false (show ¬ ((i % 32 : Nat) : Int) = 0 by omega)
   have hL1l : L.length = i / 32 + 1 := by omega
   cases d with
   | false =>
    have hfin : val L = bv (l.take (i + 1)) := by rw [hbt, hv]; simp
    clear hi hlt hcut h32 hlti hbt htk hq hwq hur hv hl hq32
    repeat' (first | refine xs ?_ ?_ <;> intros | (refine wn ?_; intro bx hbx; try simp only [fb] at hbx) | refine wj ?_ | simp -dsimp only [↓bp, bq, br, seval, tbRefW, *] | refine wz ?_ | fail)
    all_goals exact hnext _ _ _ hT hfin hL1l
   | true =>
    have hL1v := hv
    obtain ⟨L1, hLL⟩ : ∃ L1, L1 = L := ⟨_, rfl⟩
    rw [<- hLL] at hL1l hL1v hT
    have hlti' : val L1 < 2 ^ i := by rw [hL1v, <- hv]; exact hlti
    obtain ⟨x, hx1⟩ : ∃ x, L1[i / 32]? = some x := ⟨_, List.getElem?_eq_getElem (by omega)⟩
    have hxt := top_bit hlti' hx1
    have hor := or_top hq32 hxt
    rw [Int.toNat_natCast] at hor
    have hp0 := eq_false (show ¬ ((i % 32 : Nat) : Int) < 0 by omega)
    have hfin := set_top hx1 hxt
    have hya : ((x.toNat + 2 ^ (i % 32) : Nat) : Int) = ((UInt32.ofNat (x.toNat + 2 ^ (i % 32))).toNat : Int) := by rw [UInt32.toNat_ofNat', Nat.mod_eq_of_lt (top_lt hxt)]
    rw [hya] at hor
    clear hya
    have hset := set_lims L1 (i / 32) (by omega) (UInt32.ofNat (x.toNat + 2 ^ (i % 32)))
    have hL2l : (L1.set (i / 32) (UInt32.ofNat (x.toNat + 2 ^ (i % 32)))).length = i / 32 + 1 := by rw [List.length_set]; exact hL1l
    have hdrop := lims_drop hx1
    have hcl : (L1.map limA).length = i / 32 + 1 := by rw [List.length_map]; exact hL1l
    rw [hL1v] at hfin
    have hfin : val (L1.set (i / 32) (UInt32.ofNat (x.toNat + 2 ^ (i % 32)))) = bv (l.take (i + 1)) := by rw [hfin, hbt]; simp
    have hne1 : L1 ≠ [] := fun e => by rw [e] at hL1l; simp at hL1l
    generalize UInt32.ofNat (x.toNat + 2 ^ (i % 32)) = y at *
    have hset' : ∀ (r : Nat) (σ5 : AS), TB σ σ5 b4 bx [.int .u8 0, .bool false, .nil, .str [], .int .i64 0, .nil, .nil] false L1 (.bs r (i / 32 + 1) 1 47) -> TB σ (σ5.setBox r ((L1.map limA).take (i / 32) ++ [AV.int .u32 y.toNat] ++ (L1.map limA).drop (i / 32 + 1))) b4 bx [.int .u8 0, .bool false, .nil, .str [], .int .i64 0, .nil, .nil] false (L1.set (i / 32) y) (.bs r (i / 32 + 1) 1 47) := fun r σ5 h5 => by
     have := h5.put hne1 (i / 32) y
     rw [<- hset] at this
     exact this
    have hit := eq_true (show ((i / 32 : Nat) : Int) < ((i / 32 + 1 : Nat) : Int) by omega)
    have hle0 := eq_true (show i / 32 + 1 <= (L1.map limA).length by omega)
    obtain ⟨r, rfl, hr1⟩ := hT.row hne1
    rw [hL1l] at hT hbx2
    have hT2 := hset' _ _ hT
    have hnr : (bx = r) = False := eq_false hT.n1
    have hnr' : (r = bx) = False := eq_false (Ne.symm hT.n1)
    clear hi hlt hcut h32 hlti hbt htk hv hl hL1v hq32 hL1l hlti' hx1 hxt hset hLL hT
    generalize i / 32 = q at *
    generalize i % 32 = p at *
    generalize 2 ^ p = pw at *
    repeat' (first | refine xs ?_ ?_ <;> intros | (refine wn ?_; intro bx hbx; try simp only [fb] at hbx) | refine wj ?_ | simp -dsimp only [↓bp, bq, br, seval, tbRefW, Nat.mul_one, *] | refine wz ?_ | fail)
    all_goals exact hnext _ _ _ hT2 hfin hL2l
 ·have : i = l.length := by omega
  subst this
  rw [List.take_length] at hv
  have hLL := limbs_eq hv hl
  subst hLL
  have hirr := eq_false (Int.lt_irrefl (l.length : Int))
  have hfin : WBuf 1 47 σ (σ2.setBox b4 [.int .u8 1, .bool false, v, .str [], .int .i64 0, .nil, .nil]) v ((limbsB l).map limA) := hT.buf.setOther h4.1 hT.n2 _
  clear hlt hi hv hl hT
  repeat' (first | refine xs ?_ ?_ <;> intros | (refine wn ?_; intro bx hbx; try simp only [fb] at hbx) | refine wj ?_ | simp -dsimp only [↓bp, bq, br, seval, tbRefW, ares_cons2, ares1_tmp, ares1_cell, aresk_some, *] | refine wz ?_ | fail)
  exact finishW_some _ (AS.le.refl _) ⟨v, rfl, hfin⟩
theorem rmade_pure (l0 : List Bool) (hl0 : l0.length <= 100000) (neg : Bool) (hc : (cutB l0).length <= 1024) : Pure Tryz.prog G 109 [bools l0, .bool neg] (.tup [(intT (neg && decide (0 < (cutB l0).length)) (limbsB (cutB l0))).enc, .bool true]) := by
 cases neg with
 | false => exact rmade_a G l0 hl0 hc
 | true =>
  by_cases h : 0 < (cutB l0).length
  ·rw [decide_eq_true h]; exact rmade_b G l0 hl0 hc h
  ·rw [decide_eq_false h]; exact rmade_c G l0 hl0 hc h
end
set_option maxRecDepth 20000
section
def tbRefX := And.intro (And.intro (And.intro (And.intro @tf3 (And.intro @tf4 @tf5)) (And.intro @tf47 (And.intro @tf128 @tf2))) (And.intro (And.intro @tf9 (And.intro @tf23 @tf22)) (And.intro @tf24 (And.intro @tf26 @tf129)))) (And.intro (And.intro (And.intro @tf106 (And.intro @Term.flat_enc @Term.isv_enc)) (And.intro @Term.fold_enc (And.intro @isv_bools @flat_bools))) (And.intro (And.intro @len_bools (And.intro @ix_bools @isv_lims)) (And.intro (And.intro @flat_lims @len_lims) (And.intro @isv_encs @flat_encs))))
variable (G : Nat -> AV)
theorem bit_of {m : Nat} (h : m < 18446744073709551616) : decide (IntKind.u64.wrap ↑(BitVec.ofInt IntKind.u64.bits (m : Int) &&& BitVec.ofInt IntKind.u64.bits 1).toNat = 1) = decide (m % 2 = 1) := by
 have e : (BitVec.ofInt IntKind.u64.bits (m : Int) &&& BitVec.ofInt IntKind.u64.bits 1).toNat = m &&& 1 := by
  show (BitVec.ofInt 64 (m : Int) &&& BitVec.ofInt 64 1).toNat = _
  rw [BitVec.toNat_and, BitVec.ofInt_natCast, BitVec.toNat_ofNat]
  have e1 : (BitVec.ofInt 64 1).toNat = 1 := by decide
  rw [e1, Nat.mod_eq_of_lt h]
 rw [e, Nat.and_one_is_mod, u64k (by omega), Bool.eq_iff_iff, decide_eq_true_eq, decide_eq_true_eq]
 omega
theorem shr_of (m : Nat) : (m : Int).fdiv (2 ^ min 1 IntKind.u64.bits) = ((m / 2 : Nat) : Int) := by
 have hm : min 1 IntKind.u64.bits = 1 := by have : IntKind.u64.bits = 64 := rfl; omega
 rw [hm, Int.fdiv_eq_ediv_of_nonneg _ (by decide)]
 simp
def ofT (n : Int) : Term := intT (decide (n < 0)) (limbsB (cutB (bitsN n.natAbs)))
theorem ofT_len {n : Int} (h0 : -9223372036854775808 <= n) (h1 : n <= 9223372036854775807) : (bitsN n.natAbs).length <= 64 := by
 refine bitsN_len 64 _ ?_
 have : (2 : Nat) ^ 64 = 18446744073709551616 := by decide
 omega
theorem ofT_neg {n : Int} : (decide (n < 0) && decide (0 < (cutB (bitsN n.natAbs)).length)) = decide (n < 0) := by
 by_cases h : n < 0
 ·have h2 : 0 < (cutB (bitsN n.natAbs)).length := by
   refine Nat.pos_of_ne_zero fun e => ?_
   have := (cut_len _).1 e
   rw [bitsN_bv] at this
   omega
  simp [h, h2]
 ·simp [h]
set_option maxHeartbeats 2000000 in
theorem rof_pure (n : Int) (h0 : -9223372036854775808 <= n) (h1 : n <= 9223372036854775807) : Pure Tryz.prog G 65 [.int .i64 n] (ofT n).enc := by
 have hlen := ofT_len h0 h1
 have hmade := rmade_pure G (bitsN n.natAbs) (by omega) (decide (n < 0)) (Nat.le_trans (cutB_len _) (by omega))
 rw [ofT_neg] at hmade
 have hmade : Pure Tryz.prog G 109 [bools (bitsN n.natAbs), .bool (decide (n < 0))] (.tup [(ofT n).enc, .bool true]) := hmade
 generalize hO : ofT n = O at *
 clear hO
 obtain ⟨N, hN⟩ : ∃ N, N = n.natAbs := ⟨_, rfl⟩
 rw [<- hN] at hlen hmade
 have hN64 : N < 18446744073709551616 := by omega
 have hu : ∀ k : Int, IntKind.u64.wrap k = k % 18446744073709551616 := fun k => by first | rfl | simp [IntKind.wrap]
 refine Pure.of_le fun σ => ?_
 refine Tri.of_awp mixed Tryz.func65 rfl (by kernel_rfl) (by kernel_rfl) (by simp [Tryz.ntmps65]) Tryz.results65 ?_
 simp -dsimp only [↓bp, bq, br, seval, tbRefX]
 refine newT_plain fun b2 hb2 => ?_
 obtain ⟨S, hS⟩ : ∃ S, S = σ.setBox b2 [.int .u8 0, .bool false, .nil, .str [], .int .i64 0, .nil, .nil] := ⟨_, rfl⟩
 have hSb : S.box b2 = some [.int .u8 0, .bool false, .nil, .str [], .int .i64 0, .nil, .nil] := by rw [hS]; simp [AS.setBox]
 have hle : σ.le S := by rw [hS]; exact (AS.le.refl σ).setBox hb2.1 _
 rw [<- hS]
 clear hS
 by_cases hn : n < 0
 ·have hw1 : IntKind.u64.wrap n = (((n + 18446744073709551616).toNat : Nat) : Int) := by rw [hu]; omega
  have hw2 : IntKind.u64.wrap (0 - (((n + 18446744073709551616).toNat : Nat) : Int)) = (N : Int) := by rw [hu]; omega
  have hn' := eq_true hn
  rw [decide_eq_true hn] at hmade
  clear hu hN h0 h1 hn
  repeat' (first | refine xs ?_ ?_ <;> intros | (refine wn ?_; intro bx hbx; try simp only [fb] at hbx) | refine wj ?_ | simp -dsimp only [↓bp, bq, br, seval, tbRefX, *] | refine wz ?_ | fail)
  refine loop_intro (fun k e σ' => ∃ (m : Nat) (B : List Bool) (v : AV), m = k /\ m < 18446744073709551616 /\ e 3 = .int .u64 m /\ e 4 = v /\ Buf 1 S σ' v (B.map AV.bool) /\ B ++ bitsN m = bitsN N) N
   ⟨N, [], .nil, rfl, hN64, by first | (simp -dsimp only [↓bp, bq, br, seval, tbRefX]; done) | (simp -dsimp only [↓bp, bq, br, seval, tbRefX]; try rfl), by first | (simp -dsimp only [↓bp, bq, br, seval, tbRefX]; done) | (simp -dsimp only [↓bp, bq, br, seval, tbRefX]; try rfl), .nil (AS.le.refl S), rfl⟩ ?_
  clear hN64
  rintro k e σ2 ⟨m, B, v, rfl, hm, h3, h4, hB, hBB⟩
  simp -dsimp only [↓bp, bq, br, seval, tbRefX] at h3 h4
  have hSb2 := hB.le.box _ _ hSb
  have hBl : B.length <= 64 := by have := congrArg List.length hBB; rw [List.length_append] at this; omega
  by_cases hz : m = 0
  ·subst hz
   rw [bitsN_zero, List.append_nil] at hBB
   subst hBB
   have hp := hmade.lessArgs (.cons hB.told (.cons (Le.refl _) .nil))
   have hc0 := eq_false (show ¬ (0 : Int) < ((0 : Nat) : Int) by omega)
   have hle2 := hle.trans hB.le
   clear hmade hB hBl
   repeat' (first | refine xs ?_ ?_ <;> intros | ((first | refine xh ?_ | refine xi ?_); intro bx hbx; (try simp only [fb] at hbx); try (have nn := fresh_ne (c := bx) hSb2 (by simp only [hbx]))) | refine wp hp ?_ | refine wj ?_ | simp -dsimp only [↓bp, bq, br, seval, tbRefX, *] | refine wz ?_ | fail)
   all_goals exact finish_le (Le.refl _) ((hle2.setBox (hle2.fresh hbx).1 _).setBox hb2.1 _)
  ·have hc0 := eq_true (show (0 : Int) < (m : Int) by omega)
   have hbit := bit_of hm
   have hshr := shr_of m
   have hst := bitsN_step hz
   have hfin : (B ++ [decide (m % 2 = 1)]) ++ bitsN (m / 2) = bitsN N := by rw [<- hBB, hst]; simp
   have hlt : m / 2 < m := by omega
   have hm2 : m / 2 < 18446744073709551616 := by omega
   generalize decide (m % 2 = 1) = d at *
   clear hmade hst hBB hz hm
   repeat' (first | refine xs ?_ ?_ <;> intros | (refine wn ?_; intro bx hbx; try simp only [fb] at hbx) | (refine build_one tbB (a := .bool d) rfl rfl (by omega) ?_) | (refine app_buf (ys := [.bool d]) hB tbB (asrc_sl tbBE) (fun a ha => by simp at ha; subst ha; rfl) (by simp; omega) (fun v5 σ5 hB5 hx5 => ?_)) | refine wj ?_ | simp -dsimp only [↓bp, bq, br, seval, tbRefX, *] | refine wz ?_ | fail)
   all_goals exact ⟨m / 2, hlt, m / 2, B ++ [d], v5, rfl, hm2, rfl, rfl, by rw [List.map_append]; exact hB5, hfin⟩
 ·have hw1 : IntKind.u64.wrap n = (N : Int) := by rw [hu]; omega
  have hn' := eq_false hn
  rw [decide_eq_false hn] at hmade
  clear hu hN h0 h1 hn
  repeat' (first | refine xs ?_ ?_ <;> intros | (refine wn ?_; intro bx hbx; try simp only [fb] at hbx) | refine wj ?_ | simp -dsimp only [↓bp, bq, br, seval, tbRefX, *] | refine wz ?_ | fail)
  refine loop_intro (fun k e σ' => ∃ (m : Nat) (B : List Bool) (v : AV), m = k /\ m < 18446744073709551616 /\ e 3 = .int .u64 m /\ e 4 = v /\ Buf 1 S σ' v (B.map AV.bool) /\ B ++ bitsN m = bitsN N) N
   ⟨N, [], .nil, rfl, hN64, by first | (simp -dsimp only [↓bp, bq, br, seval, tbRefX]; done) | (simp -dsimp only [↓bp, bq, br, seval, tbRefX]; try rfl), by first | (simp -dsimp only [↓bp, bq, br, seval, tbRefX]; done) | (simp -dsimp only [↓bp, bq, br, seval, tbRefX]; try rfl), .nil (AS.le.refl S), rfl⟩ ?_
  clear hN64
  rintro k e σ2 ⟨m, B, v, rfl, hm, h3, h4, hB, hBB⟩
  simp -dsimp only [↓bp, bq, br, seval, tbRefX] at h3 h4
  have hSb2 := hB.le.box _ _ hSb
  have hBl : B.length <= 64 := by have := congrArg List.length hBB; rw [List.length_append] at this; omega
  by_cases hz : m = 0
  ·subst hz
   rw [bitsN_zero, List.append_nil] at hBB
   subst hBB
   have hp := hmade.lessArgs (.cons hB.told (.cons (Le.refl _) .nil))
   have hc0 := eq_false (show ¬ (0 : Int) < ((0 : Nat) : Int) by omega)
   have hle2 := hle.trans hB.le
   clear hmade hB hBl
   repeat' (first | refine xs ?_ ?_ <;> intros | ((first | refine xh ?_ | refine xi ?_); intro bx hbx; (try simp only [fb] at hbx); try (have nn := fresh_ne (c := bx) hSb2 (by simp only [hbx]))) | refine wp hp ?_ | refine wj ?_ | simp -dsimp only [↓bp, bq, br, seval, tbRefX, *] | refine wz ?_ | fail)
   all_goals exact finish_le (Le.refl _) ((hle2.setBox (hle2.fresh hbx).1 _).setBox hb2.1 _)
  ·have hc0 := eq_true (show (0 : Int) < (m : Int) by omega)
   have hbit := bit_of hm
   have hshr := shr_of m
   have hst := bitsN_step hz
   have hfin : (B ++ [decide (m % 2 = 1)]) ++ bitsN (m / 2) = bitsN N := by rw [<- hBB, hst]; simp
   have hlt : m / 2 < m := by omega
   have hm2 : m / 2 < 18446744073709551616 := by omega
   generalize decide (m % 2 = 1) = d at *
   clear hmade hst hBB hz hm
   repeat' (first | refine xs ?_ ?_ <;> intros | (refine wn ?_; intro bx hbx; try simp only [fb] at hbx) | (refine build_one tbB (a := .bool d) rfl rfl (by omega) ?_) | (refine app_buf (ys := [.bool d]) hB tbB (asrc_sl tbBE) (fun a ha => by simp at ha; subst ha; rfl) (by simp; omega) (fun v5 σ5 hB5 hx5 => ?_)) | refine wj ?_ | simp -dsimp only [↓bp, bq, br, seval, tbRefX, *] | refine wz ?_ | fail)
   all_goals exact ⟨m / 2, hlt, m / 2, B ++ [d], v5, rfl, hm2, rfl, rfl, by rw [List.map_append]; exact hB5, hfin⟩
end
set_option maxRecDepth 20000
section
variable (G : Nat -> AV)
end
set_option maxRecDepth 20000
section
variable (G : Nat -> AV)
end
end Go.Proofs.YtdhbdhopnpmboaaGreatDoor
