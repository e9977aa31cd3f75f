/- The reference's integers: made of an amount and a sign. -/
import Derived.Test.YtdhbdhopnpmboaaGreatDoorZ14
import Derived.Test.YtdhbdhopnpmboaaGreatDoorZ09
set_option linter.unusedVariables false
set_option linter.unusedSimpArgs false
set_option maxRecDepth 20000
set_option linter.defProp false
namespace Go.Proofs.YtdhbdhopnpmboaaGreatDoor
open Go Go.Av
section
def tbRefW := And.intro (And.intro (And.intro (And.intro @tf3 @tf4) (And.intro @tf5 (And.intro @tf47 @tf128))) (And.intro (And.intro @tf2 @tf9) (And.intro @tf23 (And.intro @tf22 @tf24)))) (And.intro (And.intro (And.intro @tf26 @tf129) (And.intro @tf106 (And.intro @isv_bools @flat_bools))) (And.intro (And.intro @len_bools @ix_bools) (And.intro @isv_lims (And.intro @flat_lims @len_lims))))
variable (G : Nat -> AV)
theorem tlmN : aelt Tryz.prog 23 = some (47, 1, 4) := tf23.2.2.2.2.2.2
theorem tlmE : el Tryz.prog 23 = some 47 := tf23.2.2.2.1
theorem Tri.wbufC {P : Program} {G : Nat -> AV} {f : FuncId} {args : List AV} {σ : AS} {n : Nat} {E : TypeId} {xs : List AV} {C : AV -> AV} {T : AV} (hh : ∀ b m, Has b m n (C (.bs b m n E))) (hz : ∀ b m ys, Frz b m n (.sl (.own b) ys []) (C (.bs b m n E)) (C (.sl (.own b) ys []))) (hl : ∀ v, Le v (.sl .none xs []) -> Le (C v) T)
  (h : Tri P G f args σ fun r σ' => ∃ v, r = C v /\ WBuf n E σ σ' v xs) : Tri P G f args σ fun r σ' => Le r T /\ σ' = σ := by
 refine Tri.back ⟨h.1, fun K w vals hr hv => (h.2 K w vals hr hv).mono fun e w' ⟨v, r, σ', K', he, ⟨x, hx, hQ⟩, h1, h2, h3⟩ => ?_⟩
 subst hx
 cases hQ with
 | nil hle => exact ⟨v, _, σ', K', he, ⟨hl _ Le.nil, hle⟩, h1, h2, h3⟩
 | row b xs hle h0 ht hb hx =>
  obtain ⟨cap, F, g1, g2, g3⟩ := hh b xs.length K' v h1
  obtain ⟨K2, k1, k2, k3⟩ := freeze_world h2 hb ⟨rfl, rfl, hx⟩ g1 g2 g3
  exact ⟨v, _, _, K2, he, ⟨hl _ Le.gh, AS.froze_le hle h0 ht⟩, k3 _ _ _ (hz b xs.length xs) h1, k2, h3.trans k1⟩
theorem lims_ok (L : List UInt32) : ∀ a, a ∈ L.map limA -> (flat a).length = 1 /\ isv a = true := fun a ha => by
 obtain ⟨x, _, rfl⟩ := List.mem_map.1 ha
 exact ⟨rfl, rfl⟩
theorem flat_limsM (L : List UInt32) : (L.map limA).flatMap flat = L.map limA := by
 induction L with
 | nil => rfl
 | cons x l ih => rw [List.map_cons, List.flatMap_cons, ih]; rfl
theorem lim_zero (L : List UInt32) : (L ++ [0]).map limA = L.map limA ++ [.int .u32 0] := by simp [limA]
theorem u64k {k : Nat} (h : k < 18446744073709551616) : IntKind.u64.wrap (k : Int) = k := by
 have e : IntKind.u64.wrap (k : Int) = (k : Int) % 18446744073709551616 := by first | rfl | simp [IntKind.wrap]
 rw [e]; omega
structure TB (σ0 σ : AS) (b4 bt : Nat) (z : List AV) (g : Bool) (L : List UInt32) (v : AV) : Prop where
 box : σ.box bt = some [.int .u8 1, .bool g, v, .str [], .int .i64 0, .nil, .nil]
 res : σ.box b4 = some z
 buf : WBuf 1 47 σ0 σ v (L.map limA)
 n1 : notRow v bt
 n2 : notRow v b4
 ne : b4 ≠ bt
 o1 : σ0.box bt = none
 o2 : σ0.box b4 = none
theorem TB.app {σ0 σ σ' : AS} {b4 bt : Nat} {z : List AV} {g : Bool} {L : List UInt32} {v v' : AV} (h : TB σ0 σ b4 bt z g L v) (ha : WApp 1 47 σ0 σ v (L.map limA ++ [.int .u32 0]) v' σ') :
  ∃ r, v' = .bs r (L.length + 1) 1 47 /\ σ'.box bt = some [.int .u8 1, .bool g, v, .str [], .int .i64 0, .nil, .nil] /\ TB σ0 (σ'.setBox bt [.int .u8 1, .bool g, .bs r (L.length + 1) 1 47, .str [], .int .i64 0, .nil, .nil]) b4 bt z g (L ++ [0]) (.bs r (L.length + 1) 1 47) := by
 obtain ⟨k1, k2⟩ := ha.keep bt _ h.box h.n1
 obtain ⟨k3, k4⟩ := ha.keep b4 _ h.res h.n2
 obtain ⟨r, e, g1, g2, g3⟩ := ha.buf.form (by simp)
 have hB := ha.buf
 rw [e] at hB k2 k4
 rw [List.length_append, List.length_map, List.length_cons, List.length_nil] at e hB k2 k4
 refine ⟨r, e, k1, by simp [AS.setBox], by simp only [AS.setBox, if_neg h.ne]; exact k3, ?_, k2, k4, h.ne, h.o1, h.o2⟩
 rw [lim_zero]
 exact hB.setOther h.o1 k2 _
theorem TB.row {σ0 σ : AS} {b4 bt : Nat} {z : List AV} {g : Bool} {L : List UInt32} {v : AV} (h : TB σ0 σ b4 bt z g L v) (hL : L ≠ []) : ∃ r, v = .bs r L.length 1 47 /\ σ.box r = some (L.map limA) := by
 obtain ⟨r, e, g1, _⟩ := h.buf.form (by simpa using hL)
 rw [List.length_map] at e
 rw [flat_limsM] at g1
 exact ⟨r, e, g1⟩
theorem set_lims (L : List UInt32) (q : Nat) (h : q < L.length) (y : UInt32) : (L.map limA).take q ++ [limA y] ++ (L.map limA).drop (q + 1) = (L.set q y).map limA := by
 rw [List.set_eq_take_append_cons_drop, if_pos h]
 simp
theorem TB.put {σ0 σ : AS} {b4 bt : Nat} {z : List AV} {g : Bool} {L : List UInt32} {r n : Nat} (h : TB σ0 σ b4 bt z g L (.bs r n 1 47)) (hL : L ≠ []) (q : Nat) (y : UInt32) : TB σ0 (σ.setBox r ((L.set q y).map limA)) b4 bt z g (L.set q y) (.bs r n 1 47) := by
 obtain ⟨r', e, g1, g2, g3⟩ := h.buf.form (by simpa using hL)
 rw [List.length_map] at e
 simp only [AV.bs.injEq] at e
 obtain ⟨rfl, rfl, _⟩ := e
 have n1 : bt ≠ r := h.n1
 have n2 : b4 ≠ r := h.n2
 refine ⟨by simp only [AS.setBox, if_neg n1]; exact h.box, by simp only [AS.setBox, if_neg n2]; exact h.res, ?_, h.n1, h.n2, h.ne, h.o1, h.o2⟩
 have hb := WBuf.row (E := 47) (n := 1) (σ0 := σ0) (σ := σ.setBox r ((L.set q y).map limA)) r ((L.set q y).map limA) (h.buf.le.setBox g2 _) g2 g3 (by rw [flat_limsM]; simp [AS.setBox]) (lims_ok _)
 rw [List.length_map, List.length_set] at hb
 exact hb
theorem TB.le {σ0 σ : AS} {b4 bt : Nat} {z : List AV} {g : Bool} {L : List UInt32} {v : AV} (h : TB σ0 σ b4 bt z g L v) : σ0.le σ := h.buf.le
theorem limbs_eq {L : List UInt32} {l : List Bool} (hv : val L = bv l) (hl : L.length = (l.length + 31) / 32) : L = limbsB l := by
 refine val_inj ?_ ?_
 ·rw [hl, limbsB_len]
 ·rw [hv, limbsB_val]
theorem top_lt {i x : Nat} (hx : x < 2 ^ (i % 32)) : x + 2 ^ (i % 32) < 4294967296 := by
 have : 2 ^ (i % 32) <= 2 ^ 31 := Nat.pow_le_pow_right (by omega) (by omega)
 have h4 : (2 : Nat) ^ 31 = 2147483648 := by decide
 omega
theorem set_top {L : List UInt32} {i : Nat} {x : UInt32} (hx : L[i / 32]? = some x) (ht : x.toNat < 2 ^ (i % 32)) : val (L.set (i / 32) (UInt32.ofNat (x.toNat + 2 ^ (i % 32)))) = val L + 2 ^ i := by
 rw [val_set L (i / 32) x _ (2 ^ (i % 32)) hx (by rw [UInt32.toNat_ofNat', Nat.mod_eq_of_lt (top_lt ht)]), pow_split]
theorem lims_drop {L : List UInt32} {q : Nat} {x : UInt32} (hx : L[q]? = some x) : (L.map limA).drop q = AV.int .u32 x.toNat :: (L.map limA).drop (q + 1) := by
 have : (L.map limA)[q]? = some (limA x) := by rw [List.getElem?_map, hx]; rfl
 rw [drop_get _ _ _ this]; rfl
set_option maxHeartbeats 4000000 in
theorem rmade_a (l0 : List Bool) (hl0 : l0.length <= 100000) (hc : (cutB l0).length <= 1024) : Pure Tryz.prog G 109 [bools l0, .bool false] (.tup [(intT false (limbsB (cutB l0))).enc, .bool true]) := by
 have hcut := cut_pure G l0 (by omega)
 generalize cutB l0 = l at *
 have hgt : ((1024 : Int) < l.length) = False := eq_false (by omega)
 refine Pure.of_le fun σ => Tri.wbufC (n := 1) (E := 47) (xs := (limbsB l).map limA) (C := fun v => .tup [.agg [.int .u8 1, .bool false, v, .str [], .int .i64 0, .nil, .nil], .bool true]) ?_ ?_ ?_ ?_
 ·exact fun b m => Has.tup 0 (by simp) (Has.agg 2 (by simp) Has.bs)
 ·intro b m ys
  refine .tup _ _ rfl fun j h1 h2 => ?_
  match j, h1 with
  | 0, _ =>
   refine .agg _ _ rfl (fun c hc => by simp at hc; rcases hc with rfl | rfl | rfl | rfl | rfl | rfl | rfl <;> rfl) fun j h1 h2 => ?_
   match j, h1 with
   | 0, _ => exact .same _
   | 1, _ => exact .same _
   | 2, _ => exact .here _
   | 3, _ => exact .same _
   | 4, _ => exact .same _
   | 5, _ => exact .same _
   | 6, _ => exact .same _
  | 1, _ => exact .same _
 ·exact fun v hv => Le.tup (.cons (Le.trans (Le.agg (.cons (Le.refl _) (.cons (Le.refl _) (.cons hv (Les.refl _)))) (fun d hd => by simp at hd; rcases hd with rfl | rfl | rfl | rfl | rfl | rfl | rfl <;> rfl)) (intT_le _ _)) (.cons (Le.refl _) .nil))
 refine Tri.of_awp mixed Tryz.func109 rfl (by kernel_rfl) (by kernel_rfl) (by simp [Tryz.ntmps109]) Tryz.results109 ?_
 simp -dsimp only [↓bp, bq, br, seval, tbRefW]
 refine newT_plain fun b4 h4 => ?_
 obtain ⟨S, hS⟩ : ∃ S, S = σ.setBox b4 [.int .u8 0, .bool false, .nil, .str [], .int .i64 0, .nil, .nil] := ⟨_, rfl⟩
 have hSb : S.box b4 = some [.int .u8 0, .bool false, .nil, .str [], .int .i64 0, .nil, .nil] := by rw [hS]; simp [AS.setBox]
 have hle : σ.le S := by rw [hS]; exact (AS.le.refl σ).setBox h4.1 _
 rw [<- hS]
 clear hS
 repeat' (first | refine xs ?_ ?_ <;> intros | ((first | refine xh ?_ | refine xi ?_); intro bx hbx; (try simp only [fb] at hbx); try (have nn := fresh_ne (c := bx) hSb (by simp only [hbx]))) | refine wp hcut ?_ | refine wj ?_ | simp -dsimp only [↓bp, bq, br, seval, tbRefW, *] | refine wz ?_ | fail)
 refine loop_intro (fun n e σ' => ∃ (i : Nat) (L : List UInt32) (v : AV), i <= l.length /\ n = l.length - i /\ e 7 = .int .i64 i /\ TB σ σ' b4 bx [.int .u8 0, .bool false, .nil, .str [], .int .i64 0, .nil, .nil] false L v /\ val L = bv (l.take i) /\ L.length = (i + 31) / 32) l.length
  ⟨0, [], .nil, by omega, by omega, by first | (simp -dsimp only [↓bp, bq, br, seval, tbRefW]; done) | (simp -dsimp only [↓bp, bq, br, seval, tbRefW]; try rfl), ⟨by simp [AS.setBox], by simp [AS.setBox, nn.1, hSb], .nil (hle.setBox (hle.fresh hbx).1 _), trivial, trivial, nn.1, (hle.fresh hbx).1, h4.1⟩, rfl, rfl⟩ ?_
 have ho := (hle.fresh hbx).1
 clear nn hbx hle hSb
 rintro n e σ2 ⟨i, L, v, hi, rfl, h7, hT, hv, hl⟩
 simp -dsimp only [↓bp, bq, br, seval, tbRefW] at h7
 have hbx2 := hT.box
 have hb42 := hT.res
 by_cases hlt : (i : Int) < l.length
 ·obtain ⟨d, hx⟩ : ∃ d, l[i]? = some d := ⟨_, List.getElem?_eq_getElem (by omega)⟩
  have hlt' := eq_true hlt
  have hq : (i : Int).tdiv 32 = ((i / 32 : Nat) : Int) := rfl
  have hr : (i : Int).tmod 32 = ((i % 32 : Nat) : Int) := rfl
  have hwq : IntKind.i64.wrap ((i / 32 : Nat) : Int) = ((i / 32 : Nat) : Int) := wrap_nat (by omega) (by omega)
  have hwr : IntKind.i64.wrap ((i % 32 : Nat) : Int) = ((i % 32 : Nat) : Int) := wrap_nat (by omega) (by omega)
  have hwi : IntKind.i64.wrap ((i : Int) + 1) = ((i + 1 : Nat) : Int) := by rw [wrap_nat (by omega) (by omega)]; rfl
  have hur : IntKind.u64.wrap ((i % 32 : Nat) : Int) = ((i % 32 : Nat) : Int) := u64k (by omega)
  have htk := take_succ_get _ _ _ hx
  have hbnd : L.length <= 40 := by omega
  have hbt : bv (l.take (i + 1)) = bv (l.take i) + 2 ^ i * d.toNat := by
   rw [htk, bv_append, List.length_take, Nat.min_eq_left (by omega)]
   simp [bv]
  have hlti : val L < 2 ^ i := by
   rw [hv]
   refine Nat.lt_of_lt_of_le (bv_lt _) (Nat.pow_le_pow_right (by omega) ?_)
   rw [List.length_take]; omega
  have hnext : ∀ (L1 : List UInt32) (σ5 : AS) (v5 : AV), TB σ σ5 b4 bx [.int .u8 0, .bool false, .nil, .str [], .int .i64 0, .nil, .nil] false L1 v5 -> val L1 = bv (l.take (i + 1)) -> L1.length = i / 32 + 1 -> ∃ m, m < l.length - i /\ ∃ (i_1 : Nat) (L : List UInt32) (v : AV), i_1 <= l.length /\ m = l.length - i_1 /\ AV.int .i64 ((i + 1 : Nat) : Int) = .int .i64 i_1 /\ TB σ σ5 b4 bx [.int .u8 0, .bool false, .nil, .str [], .int .i64 0, .nil, .nil] false L v /\ val L = bv (l.take i_1) /\ L.length = (i_1 + 31) / 32 :=
   fun L1 σ5 v5 h1 h2 h3 => ⟨l.length - (i + 1), by omega, i + 1, L1, v5, by omega, rfl, rfl, h1, h2, by omega⟩
  have hq32 : i % 32 < 32 := by omega
  by_cases h32 : i % 32 = 0
  ·have hc0 := eq_true (show ((i % 32 : Nat) : Int) = 0 by omega)
   cases d with
   | false =>
    have hfin : val (L ++ [0]) = bv (l.take (i + 1)) := by rw [val_append, hbt, hv]; simp [val]
    have hL1l : (L ++ [0]).length = i / 32 + 1 := by simp; omega
    clear hi hlt hcut h32 hlti hbt htk hq hwq hur hv hl hq32
    repeat' (first | refine xs ?_ ?_ <;> intros | (refine wn ?_; intro bx hbx; try simp only [fb] at hbx) | ((refine app_wb (ys := [.int .u32 0]) hT.buf tlmN (asrc_sl tlmE) (fun a ha => by simp at ha; subst ha; exact ⟨rfl, rfl⟩) (by simp; omega) (fun v3 σ3 hA => ?_); obtain ⟨r, rfl, hk, hT1⟩ := hT.app hA)) | refine wj ?_ | simp -dsimp only [↓bp, bq, br, seval, tbRefW, *] | refine wz ?_ | fail)
    all_goals exact hnext _ _ _ hT1 hfin hL1l
   | true =>
    have hL1l : (L ++ [0]).length = i / 32 + 1 := by simp; omega
    have hL1v : val (L ++ [0]) = bv (l.take i) := by rw [val_append, hv]; simp [val]
    have hap : ∀ {v3 : AV} {σ3 : AS}, WApp 1 47 σ σ2 v (L.map limA ++ [.int .u32 0]) v3 σ3 -> _ := fun {v3 σ3} hA => hT.app hA
    have hm : L.length + 1 = i / 32 + 1 := by omega
    rw [hm] at hap
    clear hm
    generalize L ++ [0] = L1 at *
    have hlti' : val L1 < 2 ^ i := by rw [hL1v, <- hv]; exact hlti
    obtain ⟨x, hx1⟩ : ∃ x, L1[i / 32]? = some x := ⟨_, List.getElem?_eq_getElem (by omega)⟩
    have hxt := top_bit hlti' hx1
    have hor := or_top hq32 hxt
    rw [Int.toNat_natCast] at hor
    have hp0 := eq_false (show ¬ ((i % 32 : Nat) : Int) < 0 by omega)
    have hfin := set_top hx1 hxt
    have hya : ((x.toNat + 2 ^ (i % 32) : Nat) : Int) = ((UInt32.ofNat (x.toNat + 2 ^ (i % 32))).toNat : Int) := by rw [UInt32.toNat_ofNat', Nat.mod_eq_of_lt (top_lt hxt)]
    rw [hya] at hor
    clear hya
    have hset := set_lims L1 (i / 32) (by omega) (UInt32.ofNat (x.toNat + 2 ^ (i % 32)))
    have hL2l : (L1.set (i / 32) (UInt32.ofNat (x.toNat + 2 ^ (i % 32)))).length = i / 32 + 1 := by rw [List.length_set]; exact hL1l
    have hdrop := lims_drop hx1
    have hcl : (L1.map limA).length = i / 32 + 1 := by rw [List.length_map]; exact hL1l
    rw [hL1v] at hfin
    have hfin : val (L1.set (i / 32) (UInt32.ofNat (x.toNat + 2 ^ (i % 32)))) = bv (l.take (i + 1)) := by rw [hfin, hbt]; simp
    have hne1 : L1 ≠ [] := fun e => by rw [e] at hL1l; simp at hL1l
    generalize UInt32.ofNat (x.toNat + 2 ^ (i % 32)) = y at *
    have hset' : ∀ (r : Nat) (σ5 : AS), TB σ σ5 b4 bx [.int .u8 0, .bool false, .nil, .str [], .int .i64 0, .nil, .nil] false L1 (.bs r (i / 32 + 1) 1 47) -> TB σ (σ5.setBox r ((L1.map limA).take (i / 32) ++ [AV.int .u32 y.toNat] ++ (L1.map limA).drop (i / 32 + 1))) b4 bx [.int .u8 0, .bool false, .nil, .str [], .int .i64 0, .nil, .nil] false (L1.set (i / 32) y) (.bs r (i / 32 + 1) 1 47) := fun r σ5 h5 => by
     have := h5.put hne1 (i / 32) y
     rw [<- hset] at this
     exact this
    have hit := eq_true (show ((i / 32 : Nat) : Int) < ((i / 32 + 1 : Nat) : Int) by omega)
    have hle0 := eq_true (show i / 32 + 1 <= (L1.map limA).length by omega)
    clear hi hlt hcut h32 hlti hbt htk hv hl hL1v hq32 hL1l hlti' hx1 hxt hset
    generalize i / 32 = q at *
    generalize i % 32 = p at *
    generalize 2 ^ p = pw at *
    repeat' (first | refine xs ?_ ?_ <;> intros | (refine wn ?_; intro bx hbx; try simp only [fb] at hbx) | ((refine app_wb (ys := [.int .u32 0]) hT.buf tlmN (asrc_sl tlmE) (fun a ha => by simp at ha; subst ha; exact ⟨rfl, rfl⟩) (by simp; omega) (fun v3 σ3 hA => ?_); obtain ⟨r, rfl, hk, hT1⟩ := hap hA; obtain ⟨r', er, hr1⟩ := hT1.row hne1; obtain ⟨rfl, -⟩ := AV.bs.inj er; have hT2 := hset' _ _ hT1; have hnr : (bx = r) = False := eq_false hT1.n1; have hnr' : (r = bx) = False := eq_false (Ne.symm hT1.n1); simp only [AS.setBox, hnr', if_false] at hr1; clear er hA hT1)) | refine wj ?_ | simp -dsimp only [↓bp, bq, br, seval, tbRefW, Nat.mul_one, *] | refine wz ?_ | fail)
    all_goals exact hnext _ _ _ hT2 hfin hL2l
  ·have hc0 := eq_false (show ¬ ((i % 32 : Nat) : Int) = 0 by omega)
   have hL1l : L.length = i / 32 + 1 := by omega
   cases d with
   | false =>
    have hfin : val L = bv (l.take (i + 1)) := by rw [hbt, hv]; simp
    clear hi hlt hcut h32 hlti hbt htk hq hwq hur hv hl hq32
    repeat' (first | refine xs ?_ ?_ <;> intros | (refine wn ?_; intro bx hbx; try simp only [fb] at hbx) | refine wj ?_ | simp -dsimp only [↓bp, bq, br, seval, tbRefW, *] | refine wz ?_ | fail)
    all_goals exact hnext _ _ _ hT hfin hL1l
   | true =>
    have hL1v := hv
    obtain ⟨L1, hLL⟩ : ∃ L1, L1 = L := ⟨_, rfl⟩
    rw [<- hLL] at hL1l hL1v hT
    have hlti' : val L1 < 2 ^ i := by rw [hL1v, <- hv]; exact hlti
    obtain ⟨x, hx1⟩ : ∃ x, L1[i / 32]? = some x := ⟨_, List.getElem?_eq_getElem (by omega)⟩
    have hxt := top_bit hlti' hx1
    have hor := or_top hq32 hxt
    rw [Int.toNat_natCast] at hor
    have hp0 := eq_false (show ¬ ((i % 32 : Nat) : Int) < 0 by omega)
    have hfin := set_top hx1 hxt
    have hya : ((x.toNat + 2 ^ (i % 32) : Nat) : Int) = ((UInt32.ofNat (x.toNat + 2 ^ (i % 32))).toNat : Int) := by rw [UInt32.toNat_ofNat', Nat.mod_eq_of_lt (top_lt hxt)]
    rw [hya] at hor
    clear hya
    have hset := set_lims L1 (i / 32) (by omega) (UInt32.ofNat (x.toNat + 2 ^ (i % 32)))
    have hL2l : (L1.set (i / 32) (UInt32.ofNat (x.toNat + 2 ^ (i % 32)))).length = i / 32 + 1 := by rw [List.length_set]; exact hL1l
    have hdrop := lims_drop hx1
    have hcl : (L1.map limA).length = i / 32 + 1 := by rw [List.length_map]; exact hL1l
    rw [hL1v] at hfin
    have hfin : val (L1.set (i / 32) (UInt32.ofNat (x.toNat + 2 ^ (i % 32)))) = bv (l.take (i + 1)) := by rw [hfin, hbt]; simp
    have hne1 : L1 ≠ [] := fun e => by rw [e] at hL1l; simp at hL1l
    generalize UInt32.ofNat (x.toNat + 2 ^ (i % 32)) = y at *
    have hset' : ∀ (r : Nat) (σ5 : AS), TB σ σ5 b4 bx [.int .u8 0, .bool false, .nil, .str [], .int .i64 0, .nil, .nil] false L1 (.bs r (i / 32 + 1) 1 47) -> TB σ (σ5.setBox r ((L1.map limA).take (i / 32) ++ [AV.int .u32 y.toNat] ++ (L1.map limA).drop (i / 32 + 1))) b4 bx [.int .u8 0, .bool false, .nil, .str [], .int .i64 0, .nil, .nil] false (L1.set (i / 32) y) (.bs r (i / 32 + 1) 1 47) := fun r σ5 h5 => by
     have := h5.put hne1 (i / 32) y
     rw [<- hset] at this
     exact this
    have hit := eq_true (show ((i / 32 : Nat) : Int) < ((i / 32 + 1 : Nat) : Int) by omega)
    have hle0 := eq_true (show i / 32 + 1 <= (L1.map limA).length by omega)
    obtain ⟨r, rfl, hr1⟩ := hT.row hne1
    rw [hL1l] at hT hbx2
    have hT2 := hset' _ _ hT
    have hnr : (bx = r) = False := eq_false hT.n1
    have hnr' : (r = bx) = False := eq_false (Ne.symm hT.n1)
    clear hi hlt hcut h32 hlti hbt htk hv hl hL1v hq32 hL1l hlti' hx1 hxt hset hLL hT
    generalize i / 32 = q at *
    generalize i % 32 = p at *
    generalize 2 ^ p = pw at *
    repeat' (first | refine xs ?_ ?_ <;> intros | (refine wn ?_; intro bx hbx; try simp only [fb] at hbx) | refine wj ?_ | simp -dsimp only [↓bp, bq, br, seval, tbRefW, Nat.mul_one, *] | refine wz ?_ | fail)
    all_goals exact hnext _ _ _ hT2 hfin hL2l
 ·have : i = l.length := by omega
  subst this
  rw [List.take_length] at hv
  have hLL := limbs_eq hv hl
  subst hLL
  have hirr := eq_false (Int.lt_irrefl (l.length : Int))
  have hfin : WBuf 1 47 σ (σ2.setBox b4 [.int .u8 1, .bool false, v, .str [], .int .i64 0, .nil, .nil]) v ((limbsB l).map limA) := hT.buf.setOther h4.1 hT.n2 _
  clear hlt hi hv hl hT
  repeat' (first | refine xs ?_ ?_ <;> intros | (refine wn ?_; intro bx hbx; try simp only [fb] at hbx) | refine wj ?_ | simp -dsimp only [↓bp, bq, br, seval, tbRefW, ares_cons2, ares1_tmp, ares1_cell, aresk_some, *] | refine wz ?_ | fail)
  exact finishW_some _ (AS.le.refl _) ⟨v, rfl, hfin⟩
set_option maxHeartbeats 4000000 in
theorem rmade_b (l0 : List Bool) (hl0 : l0.length <= 100000) (hc : (cutB l0).length <= 1024) (hp : 0 < (cutB l0).length) : Pure Tryz.prog G 109 [bools l0, .bool true] (.tup [(intT true (limbsB (cutB l0))).enc, .bool true]) := by
 have hcut := cut_pure G l0 (by omega)
 generalize cutB l0 = l at *
 have hgt : ((1024 : Int) < l.length) = False := eq_false (by omega)
 refine Pure.of_le fun σ => Tri.wbufC (n := 1) (E := 47) (xs := (limbsB l).map limA) (C := fun v => .tup [.agg [.int .u8 1, .bool true, v, .str [], .int .i64 0, .nil, .nil], .bool true]) ?_ ?_ ?_ ?_
 ·exact fun b m => Has.tup 0 (by simp) (Has.agg 2 (by simp) Has.bs)
 ·intro b m ys
  refine .tup _ _ rfl fun j h1 h2 => ?_
  match j, h1 with
  | 0, _ =>
   refine .agg _ _ rfl (fun c hc => by simp at hc; rcases hc with rfl | rfl | rfl | rfl | rfl | rfl | rfl <;> rfl) fun j h1 h2 => ?_
   match j, h1 with
   | 0, _ => exact .same _
   | 1, _ => exact .same _
   | 2, _ => exact .here _
   | 3, _ => exact .same _
   | 4, _ => exact .same _
   | 5, _ => exact .same _
   | 6, _ => exact .same _
  | 1, _ => exact .same _
 ·exact fun v hv => Le.tup (.cons (Le.trans (Le.agg (.cons (Le.refl _) (.cons (Le.refl _) (.cons hv (Les.refl _)))) (fun d hd => by simp at hd; rcases hd with rfl | rfl | rfl | rfl | rfl | rfl | rfl <;> rfl)) (intT_le _ _)) (.cons (Le.refl _) .nil))
 refine Tri.of_awp mixed Tryz.func109 rfl (by kernel_rfl) (by kernel_rfl) (by simp [Tryz.ntmps109]) Tryz.results109 ?_
 simp -dsimp only [↓bp, bq, br, seval, tbRefW]
 refine newT_plain fun b4 h4 => ?_
 obtain ⟨S, hS⟩ : ∃ S, S = σ.setBox b4 [.int .u8 0, .bool false, .nil, .str [], .int .i64 0, .nil, .nil] := ⟨_, rfl⟩
 have hSb : S.box b4 = some [.int .u8 0, .bool false, .nil, .str [], .int .i64 0, .nil, .nil] := by rw [hS]; simp [AS.setBox]
 have hle : σ.le S := by rw [hS]; exact (AS.le.refl σ).setBox h4.1 _
 rw [<- hS]
 have hp : ((0:Int) < l.length) = True := eq_true (by omega)
 clear hS
 repeat' (first | refine xs ?_ ?_ <;> intros | ((first | refine xh ?_ | refine xi ?_); intro bx hbx; (try simp only [fb] at hbx); try (have nn := fresh_ne (c := bx) hSb (by simp only [hbx]))) | refine wp hcut ?_ | refine wj ?_ | simp -dsimp only [↓bp, bq, br, seval, tbRefW, *] | refine wz ?_ | fail)
 clear hp
 refine loop_intro (fun n e σ' => ∃ (i : Nat) (L : List UInt32) (v : AV), i <= l.length /\ n = l.length - i /\ e 7 = .int .i64 i /\ TB σ σ' b4 bx [.int .u8 0, .bool false, .nil, .str [], .int .i64 0, .nil, .nil] true L v /\ val L = bv (l.take i) /\ L.length = (i + 31) / 32) l.length
  ⟨0, [], .nil, by omega, by omega, by first | (simp -dsimp only [↓bp, bq, br, seval, tbRefW]; done) | (simp -dsimp only [↓bp, bq, br, seval, tbRefW]; try rfl), ⟨by simp [AS.setBox], by simp [AS.setBox, nn.1, hSb], .nil (hle.setBox (hle.fresh hbx).1 _), trivial, trivial, nn.1, (hle.fresh hbx).1, h4.1⟩, rfl, rfl⟩ ?_
 have ho := (hle.fresh hbx).1
 clear nn hbx hle hSb
 rintro n e σ2 ⟨i, L, v, hi, rfl, h7, hT, hv, hl⟩
 simp -dsimp only [↓bp, bq, br, seval, tbRefW] at h7
 have hbx2 := hT.box
 have hb42 := hT.res
 by_cases hlt : (i : Int) < l.length
 ·obtain ⟨d, hx⟩ : ∃ d, l[i]? = some d := ⟨_, List.getElem?_eq_getElem (by omega)⟩
  have hlt' := eq_true hlt
  have hq : (i : Int).tdiv 32 = ((i / 32 : Nat) : Int) := rfl
  have hr : (i : Int).tmod 32 = ((i % 32 : Nat) : Int) := rfl
  have hwq : IntKind.i64.wrap ((i / 32 : Nat) : Int) = ((i / 32 : Nat) : Int) := wrap_nat (by omega) (by omega)
  have hwr : IntKind.i64.wrap ((i % 32 : Nat) : Int) = ((i % 32 : Nat) : Int) := wrap_nat (by omega) (by omega)
  have hwi : IntKind.i64.wrap ((i : Int) + 1) = ((i + 1 : Nat) : Int) := by rw [wrap_nat (by omega) (by omega)]; rfl
  have hur : IntKind.u64.wrap ((i % 32 : Nat) : Int) = ((i % 32 : Nat) : Int) := u64k (by omega)
  have htk := take_succ_get _ _ _ hx
  have hbnd : L.length <= 40 := by omega
  have hbt : bv (l.take (i + 1)) = bv (l.take i) + 2 ^ i * d.toNat := by
   rw [htk, bv_append, List.length_take, Nat.min_eq_left (by omega)]
   simp [bv]
  have hlti : val L < 2 ^ i := by
   rw [hv]
   refine Nat.lt_of_lt_of_le (bv_lt _) (Nat.pow_le_pow_right (by omega) ?_)
   rw [List.length_take]; omega
  have hnext : ∀ (L1 : List UInt32) (σ5 : AS) (v5 : AV), TB σ σ5 b4 bx [.int .u8 0, .bool false, .nil, .str [], .int .i64 0, .nil, .nil] true L1 v5 -> val L1 = bv (l.take (i + 1)) -> L1.length = i / 32 + 1 -> ∃ m, m < l.length - i /\ ∃ (i_1 : Nat) (L : List UInt32) (v : AV), i_1 <= l.length /\ m = l.length - i_1 /\ AV.int .i64 ((i + 1 : Nat) : Int) = .int .i64 i_1 /\ TB σ σ5 b4 bx [.int .u8 0, .bool false, .nil, .str [], .int .i64 0, .nil, .nil] true L v /\ val L = bv (l.take i_1) /\ L.length = (i_1 + 31) / 32 :=
   fun L1 σ5 v5 h1 h2 h3 => ⟨l.length - (i + 1), by omega, i + 1, L1, v5, by omega, rfl, rfl, h1, h2, by omega⟩
  have hq32 : i % 32 < 32 := by omega
  by_cases h32 : i % 32 = 0
  ·have hc0 := eq_true (show ((i % 32 : Nat) : Int) = 0 by omega)
   cases d with
   | false =>
    have hfin : val (L ++ [0]) = bv (l.take (i + 1)) := by rw [val_append, hbt, hv]; simp [val]
    have hL1l : (L ++ [0]).length = i / 32 + 1 := by simp; omega
    clear hi hlt hcut h32 hlti hbt htk hq hwq hur hv hl hq32
    repeat' (first | refine xs ?_ ?_ <;> intros | (refine wn ?_; intro bx hbx; try simp only [fb] at hbx) | ((refine app_wb (ys := [.int .u32 0]) hT.buf tlmN (asrc_sl tlmE) (fun a ha => by simp at ha; subst ha; exact ⟨rfl, rfl⟩) (by simp; omega) (fun v3 σ3 hA => ?_); obtain ⟨r, rfl, hk, hT1⟩ := hT.app hA)) | refine wj ?_ | simp -dsimp only [↓bp, bq, br, seval, tbRefW, *] | refine wz ?_ | fail)
    all_goals exact hnext _ _ _ hT1 hfin hL1l
   | true =>
    have hL1l : (L ++ [0]).length = i / 32 + 1 := by simp; omega
    have hL1v : val (L ++ [0]) = bv (l.take i) := by rw [val_append, hv]; simp [val]
    have hap : ∀ {v3 : AV} {σ3 : AS}, WApp 1 47 σ σ2 v (L.map limA ++ [.int .u32 0]) v3 σ3 -> _ := fun {v3 σ3} hA => hT.app hA
    have hm : L.length + 1 = i / 32 + 1 := by omega
    rw [hm] at hap
    clear hm
    generalize L ++ [0] = L1 at *
    have hlti' : val L1 < 2 ^ i := by rw [hL1v, <- hv]; exact hlti
    obtain ⟨x, hx1⟩ : ∃ x, L1[i / 32]? = some x := ⟨_, List.getElem?_eq_getElem (by omega)⟩
    have hxt := top_bit hlti' hx1
    have hor := or_top hq32 hxt
    rw [Int.toNat_natCast] at hor
    have hp0 := eq_false (show ¬ ((i % 32 : Nat) : Int) < 0 by omega)
    have hfin := set_top hx1 hxt
    have hya : ((x.toNat + 2 ^ (i % 32) : Nat) : Int) = ((UInt32.ofNat (x.toNat + 2 ^ (i % 32))).toNat : Int) := by rw [UInt32.toNat_ofNat', Nat.mod_eq_of_lt (top_lt hxt)]
    rw [hya] at hor
    clear hya
    have hset := set_lims L1 (i / 32) (by omega) (UInt32.ofNat (x.toNat + 2 ^ (i % 32)))
    have hL2l : (L1.set (i / 32) (UInt32.ofNat (x.toNat + 2 ^ (i % 32)))).length = i / 32 + 1 := by rw [List.length_set]; exact hL1l
    have hdrop := lims_drop hx1
    have hcl : (L1.map limA).length = i / 32 + 1 := by rw [List.length_map]; exact hL1l
    rw [hL1v] at hfin
    have hfin : val (L1.set (i / 32) (UInt32.ofNat (x.toNat + 2 ^ (i % 32)))) = bv (l.take (i + 1)) := by rw [hfin, hbt]; simp
    have hne1 : L1 ≠ [] := fun e => by rw [e] at hL1l; simp at hL1l
    generalize UInt32.ofNat (x.toNat + 2 ^ (i % 32)) = y at *
    have hset' : ∀ (r : Nat) (σ5 : AS), TB σ σ5 b4 bx [.int .u8 0, .bool false, .nil, .str [], .int .i64 0, .nil, .nil] true L1 (.bs r (i / 32 + 1) 1 47) -> TB σ (σ5.setBox r ((L1.map limA).take (i / 32) ++ [AV.int .u32 y.toNat] ++ (L1.map limA).drop (i / 32 + 1))) b4 bx [.int .u8 0, .bool false, .nil, .str [], .int .i64 0, .nil, .nil] true (L1.set (i / 32) y) (.bs r (i / 32 + 1) 1 47) := fun r σ5 h5 => by
     have := h5.put hne1 (i / 32) y
     rw [<- hset] at this
     exact this
    have hit := eq_true (show ((i / 32 : Nat) : Int) < ((i / 32 + 1 : Nat) : Int) by omega)
    have hle0 := eq_true (show i / 32 + 1 <= (L1.map limA).length by omega)
    clear hi hlt hcut h32 hlti hbt htk hv hl hL1v hq32 hL1l hlti' hx1 hxt hset
    generalize i / 32 = q at *
    generalize i % 32 = p at *
    generalize 2 ^ p = pw at *
    repeat' (first | refine xs ?_ ?_ <;> intros | (refine wn ?_; intro bx hbx; try simp only [fb] at hbx) | ((refine app_wb (ys := [.int .u32 0]) hT.buf tlmN (asrc_sl tlmE) (fun a ha => by simp at ha; subst ha; exact ⟨rfl, rfl⟩) (by simp; omega) (fun v3 σ3 hA => ?_); obtain ⟨r, rfl, hk, hT1⟩ := hap hA; obtain ⟨r', er, hr1⟩ := hT1.row hne1; obtain ⟨rfl, -⟩ := AV.bs.inj er; have hT2 := hset' _ _ hT1; have hnr : (bx = r) = False := eq_false hT1.n1; have hnr' : (r = bx) = False := eq_false (Ne.symm hT1.n1); simp only [AS.setBox, hnr', if_false] at hr1; clear er hA hT1)) | refine wj ?_ | simp -dsimp only [↓bp, bq, br, seval, tbRefW, Nat.mul_one, *] | refine wz ?_ | fail)
    all_goals exact hnext _ _ _ hT2 hfin hL2l
  ·have hc0 := eq_false (show ¬ ((i % 32 : Nat) : Int) = 0 by omega)
   have hL1l : L.length = i / 32 + 1 := by omega
   cases d with
   | false =>
    have hfin : val L = bv (l.take (i + 1)) := by rw [hbt, hv]; simp
    clear hi hlt hcut h32 hlti hbt htk hq hwq hur hv hl hq32
    repeat' (first | refine xs ?_ ?_ <;> intros | (refine wn ?_; intro bx hbx; try simp only [fb] at hbx) | refine wj ?_ | simp -dsimp only [↓bp, bq, br, seval, tbRefW, *] | refine wz ?_ | fail)
    all_goals exact hnext _ _ _ hT hfin hL1l
   | true =>
    have hL1v := hv
    obtain ⟨L1, hLL⟩ : ∃ L1, L1 = L := ⟨_, rfl⟩
    rw [<- hLL] at hL1l hL1v hT
    have hlti' : val L1 < 2 ^ i := by rw [hL1v, <- hv]; exact hlti
    obtain ⟨x, hx1⟩ : ∃ x, L1[i / 32]? = some x := ⟨_, List.getElem?_eq_getElem (by omega)⟩
    have hxt := top_bit hlti' hx1
    have hor := or_top hq32 hxt
    rw [Int.toNat_natCast] at hor
    have hp0 := eq_false (show ¬ ((i % 32 : Nat) : Int) < 0 by omega)
    have hfin := set_top hx1 hxt
    have hya : ((x.toNat + 2 ^ (i % 32) : Nat) : Int) = ((UInt32.ofNat (x.toNat + 2 ^ (i % 32))).toNat : Int) := by rw [UInt32.toNat_ofNat', Nat.mod_eq_of_lt (top_lt hxt)]
    rw [hya] at hor
    clear hya
    have hset := set_lims L1 (i / 32) (by omega) (UInt32.ofNat (x.toNat + 2 ^ (i % 32)))
    have hL2l : (L1.set (i / 32) (UInt32.ofNat (x.toNat + 2 ^ (i % 32)))).length = i / 32 + 1 := by rw [List.length_set]; exact hL1l
    have hdrop := lims_drop hx1
    have hcl : (L1.map limA).length = i / 32 + 1 := by rw [List.length_map]; exact hL1l
    rw [hL1v] at hfin
    have hfin : val (L1.set (i / 32) (UInt32.ofNat (x.toNat + 2 ^ (i % 32)))) = bv (l.take (i + 1)) := by rw [hfin, hbt]; simp
    have hne1 : L1 ≠ [] := fun e => by rw [e] at hL1l; simp at hL1l
    generalize UInt32.ofNat (x.toNat + 2 ^ (i % 32)) = y at *
    have hset' : ∀ (r : Nat) (σ5 : AS), TB σ σ5 b4 bx [.int .u8 0, .bool false, .nil, .str [], .int .i64 0, .nil, .nil] true L1 (.bs r (i / 32 + 1) 1 47) -> TB σ (σ5.setBox r ((L1.map limA).take (i / 32) ++ [AV.int .u32 y.toNat] ++ (L1.map limA).drop (i / 32 + 1))) b4 bx [.int .u8 0, .bool false, .nil, .str [], .int .i64 0, .nil, .nil] true (L1.set (i / 32) y) (.bs r (i / 32 + 1) 1 47) := fun r σ5 h5 => by
     have := h5.put hne1 (i / 32) y
     rw [<- hset] at this
     exact this
    have hit := eq_true (show ((i / 32 : Nat) : Int) < ((i / 32 + 1 : Nat) : Int) by omega)
    have hle0 := eq_true (show i / 32 + 1 <= (L1.map limA).length by omega)
    obtain ⟨r, rfl, hr1⟩ := hT.row hne1
    rw [hL1l] at hT hbx2
    have hT2 := hset' _ _ hT
    have hnr : (bx = r) = False := eq_false hT.n1
    have hnr' : (r = bx) = False := eq_false (Ne.symm hT.n1)
    clear hi hlt hcut h32 hlti hbt htk hv hl hL1v hq32 hL1l hlti' hx1 hxt hset hLL hT
    generalize i / 32 = q at *
    generalize i % 32 = p at *
    generalize 2 ^ p = pw at *
    repeat' (first | refine xs ?_ ?_ <;> intros | (refine wn ?_; intro bx hbx; try simp only [fb] at hbx) | refine wj ?_ | simp -dsimp only [↓bp, bq, br, seval, tbRefW, Nat.mul_one, *] | refine wz ?_ | fail)
    all_goals exact hnext _ _ _ hT2 hfin hL2l
 ·have : i = l.length := by omega
  subst this
  rw [List.take_length] at hv
  have hLL := limbs_eq hv hl
  subst hLL
  have hirr := eq_false (Int.lt_irrefl (l.length : Int))
  have hfin : WBuf 1 47 σ (σ2.setBox b4 [.int .u8 1, .bool true, v, .str [], .int .i64 0, .nil, .nil]) v ((limbsB l).map limA) := hT.buf.setOther h4.1 hT.n2 _
  clear hlt hi hv hl hT
  repeat' (first | refine xs ?_ ?_ <;> intros | (refine wn ?_; intro bx hbx; try simp only [fb] at hbx) | refine wj ?_ | simp -dsimp only [↓bp, bq, br, seval, tbRefW, ares_cons2, ares1_tmp, ares1_cell, aresk_some, *] | refine wz ?_ | fail)
  exact finishW_some _ (AS.le.refl _) ⟨v, rfl, hfin⟩
set_option maxHeartbeats 4000000 in
theorem rmade_c (l0 : List Bool) (hl0 : l0.length <= 100000) (hc : (cutB l0).length <= 1024) (hp : ¬ 0 < (cutB l0).length) : Pure Tryz.prog G 109 [bools l0, .bool true] (.tup [(intT false (limbsB (cutB l0))).enc, .bool true]) := by
 have hcut := cut_pure G l0 (by omega)
 generalize cutB l0 = l at *
 have hgt : ((1024 : Int) < l.length) = False := eq_false (by omega)
 refine Pure.of_le fun σ => Tri.wbufC (n := 1) (E := 47) (xs := (limbsB l).map limA) (C := fun v => .tup [.agg [.int .u8 1, .bool false, v, .str [], .int .i64 0, .nil, .nil], .bool true]) ?_ ?_ ?_ ?_
 ·exact fun b m => Has.tup 0 (by simp) (Has.agg 2 (by simp) Has.bs)
 ·intro b m ys
  refine .tup _ _ rfl fun j h1 h2 => ?_
  match j, h1 with
  | 0, _ =>
   refine .agg _ _ rfl (fun c hc => by simp at hc; rcases hc with rfl | rfl | rfl | rfl | rfl | rfl | rfl <;> rfl) fun j h1 h2 => ?_
   match j, h1 with
   | 0, _ => exact .same _
   | 1, _ => exact .same _
   | 2, _ => exact .here _
   | 3, _ => exact .same _
   | 4, _ => exact .same _
   | 5, _ => exact .same _
   | 6, _ => exact .same _
  | 1, _ => exact .same _
 ·exact fun v hv => Le.tup (.cons (Le.trans (Le.agg (.cons (Le.refl _) (.cons (Le.refl _) (.cons hv (Les.refl _)))) (fun d hd => by simp at hd; rcases hd with rfl | rfl | rfl | rfl | rfl | rfl | rfl <;> rfl)) (intT_le _ _)) (.cons (Le.refl _) .nil))
 refine Tri.of_awp mixed Tryz.func109 rfl (by kernel_rfl) (by kernel_rfl) (by simp [Tryz.ntmps109]) Tryz.results109 ?_
 simp -dsimp only [↓bp, bq, br, seval, tbRefW]
 refine newT_plain fun b4 h4 => ?_
 obtain ⟨S, hS⟩ : ∃ S, S = σ.setBox b4 [.int .u8 0, .bool false, .nil, .str [], .int .i64 0, .nil, .nil] := ⟨_, rfl⟩
 have hSb : S.box b4 = some [.int .u8 0, .bool false, .nil, .str [], .int .i64 0, .nil, .nil] := by rw [hS]; simp [AS.setBox]
 have hle : σ.le S := by rw [hS]; exact (AS.le.refl σ).setBox h4.1 _
 rw [<- hS]
 have hp : ((0:Int) < l.length) = False := eq_false (by omega)
 clear hS
 repeat' (first | refine xs ?_ ?_ <;> intros | ((first | refine xh ?_ | refine xi ?_); intro bx hbx; (try simp only [fb] at hbx); try (have nn := fresh_ne (c := bx) hSb (by simp only [hbx]))) | refine wp hcut ?_ | refine wj ?_ | simp -dsimp only [↓bp, bq, br, seval, tbRefW, *] | refine wz ?_ | fail)
 clear hp
 refine loop_intro (fun n e σ' => ∃ (i : Nat) (L : List UInt32) (v : AV), i <= l.length /\ n = l.length - i /\ e 7 = .int .i64 i /\ TB σ σ' b4 bx [.int .u8 0, .bool false, .nil, .str [], .int .i64 0, .nil, .nil] false L v /\ val L = bv (l.take i) /\ L.length = (i + 31) / 32) l.length
  ⟨0, [], .nil, by omega, by omega, by first | (simp -dsimp only [↓bp, bq, br, seval, tbRefW]; done) | (simp -dsimp only [↓bp, bq, br, seval, tbRefW]; try rfl), ⟨by simp [AS.setBox], by simp [AS.setBox, nn.1, hSb], .nil (hle.setBox (hle.fresh hbx).1 _), trivial, trivial, nn.1, (hle.fresh hbx).1, h4.1⟩, rfl, rfl⟩ ?_
 have ho := (hle.fresh hbx).1
 clear nn hbx hle hSb
 rintro n e σ2 ⟨i, L, v, hi, rfl, h7, hT, hv, hl⟩
 simp -dsimp only [↓bp, bq, br, seval, tbRefW] at h7
 have hbx2 := hT.box
 have hb42 := hT.res
 by_cases hlt : (i : Int) < l.length
 ·obtain ⟨d, hx⟩ : ∃ d, l[i]? = some d := ⟨_, List.getElem?_eq_getElem (by omega)⟩
  have hlt' := eq_true hlt
  have hq : (i : Int).tdiv 32 = ((i / 32 : Nat) : Int) := rfl
  have hr : (i : Int).tmod 32 = ((i % 32 : Nat) : Int) := rfl
  have hwq : IntKind.i64.wrap ((i / 32 : Nat) : Int) = ((i / 32 : Nat) : Int) := wrap_nat (by omega) (by omega)
  have hwr : IntKind.i64.wrap ((i % 32 : Nat) : Int) = ((i % 32 : Nat) : Int) := wrap_nat (by omega) (by omega)
  have hwi : IntKind.i64.wrap ((i : Int) + 1) = ((i + 1 : Nat) : Int) := by rw [wrap_nat (by omega) (by omega)]; rfl
  have hur : IntKind.u64.wrap ((i % 32 : Nat) : Int) = ((i % 32 : Nat) : Int) := u64k (by omega)
  have htk := take_succ_get _ _ _ hx
  have hbnd : L.length <= 40 := by omega
  have hbt : bv (l.take (i + 1)) = bv (l.take i) + 2 ^ i * d.toNat := by
   rw [htk, bv_append, List.length_take, Nat.min_eq_left (by omega)]
   simp [bv]
  have hlti : val L < 2 ^ i := by
   rw [hv]
   refine Nat.lt_of_lt_of_le (bv_lt _) (Nat.pow_le_pow_right (by omega) ?_)
   rw [List.length_take]; omega
  have hnext : ∀ (L1 : List UInt32) (σ5 : AS) (v5 : AV), TB σ σ5 b4 bx [.int .u8 0, .bool false, .nil, .str [], .int .i64 0, .nil, .nil] false L1 v5 -> val L1 = bv (l.take (i + 1)) -> L1.length = i / 32 + 1 -> ∃ m, m < l.length - i /\ ∃ (i_1 : Nat) (L : List UInt32) (v : AV), i_1 <= l.length /\ m = l.length - i_1 /\ AV.int .i64 ((i + 1 : Nat) : Int) = .int .i64 i_1 /\ TB σ σ5 b4 bx [.int .u8 0, .bool false, .nil, .str [], .int .i64 0, .nil, .nil] false L v /\ val L = bv (l.take i_1) /\ L.length = (i_1 + 31) / 32 :=
   fun L1 σ5 v5 h1 h2 h3 => ⟨l.length - (i + 1), by omega, i + 1, L1, v5, by omega, rfl, rfl, h1, h2, by omega⟩
  have hq32 : i % 32 < 32 := by omega
  by_cases h32 : i % 32 = 0
  ·have hc0 := eq_true (show ((i % 32 : Nat) : Int) = 0 by omega)
   cases d with
   | false =>
    have hfin : val (L ++ [0]) = bv (l.take (i + 1)) := by rw [val_append, hbt, hv]; simp [val]
    have hL1l : (L ++ [0]).length = i / 32 + 1 := by simp; omega
    clear hi hlt hcut h32 hlti hbt htk hq hwq hur hv hl hq32
    repeat' (first | refine xs ?_ ?_ <;> intros | (refine wn ?_; intro bx hbx; try simp only [fb] at hbx) | ((refine app_wb (ys := [.int .u32 0]) hT.buf tlmN (asrc_sl tlmE) (fun a ha => by simp at ha; subst ha; exact ⟨rfl, rfl⟩) (by simp; omega) (fun v3 σ3 hA => ?_); obtain ⟨r, rfl, hk, hT1⟩ := hT.app hA)) | refine wj ?_ | simp -dsimp only [↓bp, bq, br, seval, tbRefW, *] | refine wz ?_ | fail)
    all_goals exact hnext _ _ _ hT1 hfin hL1l
   | true =>
    have hL1l : (L ++ [0]).length = i / 32 + 1 := by simp; omega
    have hL1v : val (L ++ [0]) = bv (l.take i) := by rw [val_append, hv]; simp [val]
    have hap : ∀ {v3 : AV} {σ3 : AS}, WApp 1 47 σ σ2 v (L.map limA ++ [.int .u32 0]) v3 σ3 -> _ := fun {v3 σ3} hA => hT.app hA
    have hm : L.length + 1 = i / 32 + 1 := by omega
    rw [hm] at hap
    clear hm
    generalize L ++ [0] = L1 at *
    have hlti' : val L1 < 2 ^ i := by rw [hL1v, <- hv]; exact hlti
    obtain ⟨x, hx1⟩ : ∃ x, L1[i / 32]? = some x := ⟨_, List.getElem?_eq_getElem (by omega)⟩
    have hxt := top_bit hlti' hx1
    have hor := or_top hq32 hxt
    rw [Int.toNat_natCast] at hor
    have hp0 := eq_false (show ¬ ((i % 32 : Nat) : Int) < 0 by omega)
    have hfin := set_top hx1 hxt
    have hya : ((x.toNat + 2 ^ (i % 32) : Nat) : Int) = ((UInt32.ofNat (x.toNat + 2 ^ (i % 32))).toNat : Int) := by rw [UInt32.toNat_ofNat', Nat.mod_eq_of_lt (top_lt hxt)]
    rw [hya] at hor
    clear hya
    have hset := set_lims L1 (i / 32) (by omega) (UInt32.ofNat (x.toNat + 2 ^ (i % 32)))
    have hL2l : (L1.set (i / 32) (UInt32.ofNat (x.toNat + 2 ^ (i % 32)))).length = i / 32 + 1 := by rw [List.length_set]; exact hL1l
    have hdrop := lims_drop hx1
    have hcl : (L1.map limA).length = i / 32 + 1 := by rw [List.length_map]; exact hL1l
    rw [hL1v] at hfin
    have hfin : val (L1.set (i / 32) (UInt32.ofNat (x.toNat + 2 ^ (i % 32)))) = bv (l.take (i + 1)) := by rw [hfin, hbt]; simp
    have hne1 : L1 ≠ [] := fun e => by rw [e] at hL1l; simp at hL1l
    generalize UInt32.ofNat (x.toNat + 2 ^ (i % 32)) = y at *
    have hset' : ∀ (r : Nat) (σ5 : AS), TB σ σ5 b4 bx [.int .u8 0, .bool false, .nil, .str [], .int .i64 0, .nil, .nil] false L1 (.bs r (i / 32 + 1) 1 47) -> TB σ (σ5.setBox r ((L1.map limA).take (i / 32) ++ [AV.int .u32 y.toNat] ++ (L1.map limA).drop (i / 32 + 1))) b4 bx [.int .u8 0, .bool false, .nil, .str [], .int .i64 0, .nil, .nil] false (L1.set (i / 32) y) (.bs r (i / 32 + 1) 1 47) := fun r σ5 h5 => by
     have := h5.put hne1 (i / 32) y
     rw [<- hset] at this
     exact this
    have hit := eq_true (show ((i / 32 : Nat) : Int) < ((i / 32 + 1 : Nat) : Int) by omega)
    have hle0 := eq_true (show i / 32 + 1 <= (L1.map limA).length by omega)
    clear hi hlt hcut h32 hlti hbt htk hv hl hL1v hq32 hL1l hlti' hx1 hxt hset
    generalize i / 32 = q at *
    generalize i % 32 = p at *
    generalize 2 ^ p = pw at *
    repeat' (first | refine xs ?_ ?_ <;> intros | (refine wn ?_; intro bx hbx; try simp only [fb] at hbx) | ((refine app_wb (ys := [.int .u32 0]) hT.buf tlmN (asrc_sl tlmE) (fun a ha => by simp at ha; subst ha; exact ⟨rfl, rfl⟩) (by simp; omega) (fun v3 σ3 hA => ?_); obtain ⟨r, rfl, hk, hT1⟩ := hap hA; obtain ⟨r', er, hr1⟩ := hT1.row hne1; obtain ⟨rfl, -⟩ := AV.bs.inj er; have hT2 := hset' _ _ hT1; have hnr : (bx = r) = False := eq_false hT1.n1; have hnr' : (r = bx) = False := eq_false (Ne.symm hT1.n1); simp only [AS.setBox, hnr', if_false] at hr1; clear er hA hT1)) | refine wj ?_ | simp -dsimp only [↓bp, bq, br, seval, tbRefW, Nat.mul_one, *] | refine wz ?_ | fail)
    all_goals exact hnext _ _ _ hT2 hfin hL2l
  ·have hc0 := eq_false (show ¬ ((i % 32 : Nat) : Int) = 0 by omega)
   have hL1l : L.length = i / 32 + 1 := by omega
   cases d with
   | false =>
    have hfin : val L = bv (l.take (i + 1)) := by rw [hbt, hv]; simp
    clear hi hlt hcut h32 hlti hbt htk hq hwq hur hv hl hq32
    repeat' (first | refine xs ?_ ?_ <;> intros | (refine wn ?_; intro bx hbx; try simp only [fb] at hbx) | refine wj ?_ | simp -dsimp only [↓bp, bq, br, seval, tbRefW, *] | refine wz ?_ | fail)
    all_goals exact hnext _ _ _ hT hfin hL1l
   | true =>
    have hL1v := hv
    obtain ⟨L1, hLL⟩ : ∃ L1, L1 = L := ⟨_, rfl⟩
    rw [<- hLL] at hL1l hL1v hT
    have hlti' : val L1 < 2 ^ i := by rw [hL1v, <- hv]; exact hlti
    obtain ⟨x, hx1⟩ : ∃ x, L1[i / 32]? = some x := ⟨_, List.getElem?_eq_getElem (by omega)⟩
    have hxt := top_bit hlti' hx1
    have hor := or_top hq32 hxt
    rw [Int.toNat_natCast] at hor
    have hp0 := eq_false (show ¬ ((i % 32 : Nat) : Int) < 0 by omega)
    have hfin := set_top hx1 hxt
    have hya : ((x.toNat + 2 ^ (i % 32) : Nat) : Int) = ((UInt32.ofNat (x.toNat + 2 ^ (i % 32))).toNat : Int) := by rw [UInt32.toNat_ofNat', Nat.mod_eq_of_lt (top_lt hxt)]
    rw [hya] at hor
    clear hya
    have hset := set_lims L1 (i / 32) (by omega) (UInt32.ofNat (x.toNat + 2 ^ (i % 32)))
    have hL2l : (L1.set (i / 32) (UInt32.ofNat (x.toNat + 2 ^ (i % 32)))).length = i / 32 + 1 := by rw [List.length_set]; exact hL1l
    have hdrop := lims_drop hx1
    have hcl : (L1.map limA).length = i / 32 + 1 := by rw [List.length_map]; exact hL1l
    rw [hL1v] at hfin
    have hfin : val (L1.set (i / 32) (UInt32.ofNat (x.toNat + 2 ^ (i % 32)))) = bv (l.take (i + 1)) := by rw [hfin, hbt]; simp
    have hne1 : L1 ≠ [] := fun e => by rw [e] at hL1l; simp at hL1l
    generalize UInt32.ofNat (x.toNat + 2 ^ (i % 32)) = y at *
    have hset' : ∀ (r : Nat) (σ5 : AS), TB σ σ5 b4 bx [.int .u8 0, .bool false, .nil, .str [], .int .i64 0, .nil, .nil] false L1 (.bs r (i / 32 + 1) 1 47) -> TB σ (σ5.setBox r ((L1.map limA).take (i / 32) ++ [AV.int .u32 y.toNat] ++ (L1.map limA).drop (i / 32 + 1))) b4 bx [.int .u8 0, .bool false, .nil, .str [], .int .i64 0, .nil, .nil] false (L1.set (i / 32) y) (.bs r (i / 32 + 1) 1 47) := fun r σ5 h5 => by
     have := h5.put hne1 (i / 32) y
     rw [<- hset] at this
     exact this
    have hit := eq_true (show ((i / 32 : Nat) : Int) < ((i / 32 + 1 : Nat) : Int) by omega)
    have hle0 := eq_true (show i / 32 + 1 <= (L1.map limA).length by omega)
    obtain ⟨r, rfl, hr1⟩ := hT.row hne1
    rw [hL1l] at hT hbx2
    have hT2 := hset' _ _ hT
    have hnr : (bx = r) = False := eq_false hT.n1
    have hnr' : (r = bx) = False := eq_false (Ne.symm hT.n1)
    clear hi hlt hcut h32 hlti hbt htk hv hl hL1v hq32 hL1l hlti' hx1 hxt hset hLL hT
    generalize i / 32 = q at *
    generalize i % 32 = p at *
    generalize 2 ^ p = pw at *
    repeat' (first | refine xs ?_ ?_ <;> intros | (refine wn ?_; intro bx hbx; try simp only [fb] at hbx) | refine wj ?_ | simp -dsimp only [↓bp, bq, br, seval, tbRefW, Nat.mul_one, *] | refine wz ?_ | fail)
    all_goals exact hnext _ _ _ hT2 hfin hL2l
 ·have : i = l.length := by omega
  subst this
  rw [List.take_length] at hv
  have hLL := limbs_eq hv hl
  subst hLL
  have hirr := eq_false (Int.lt_irrefl (l.length : Int))
  have hfin : WBuf 1 47 σ (σ2.setBox b4 [.int .u8 1, .bool false, v, .str [], .int .i64 0, .nil, .nil]) v ((limbsB l).map limA) := hT.buf.setOther h4.1 hT.n2 _
  clear hlt hi hv hl hT
  repeat' (first | refine xs ?_ ?_ <;> intros | (refine wn ?_; intro bx hbx; try simp only [fb] at hbx) | refine wj ?_ | simp -dsimp only [↓bp, bq, br, seval, tbRefW, ares_cons2, ares1_tmp, ares1_cell, aresk_some, *] | refine wz ?_ | fail)
  exact finishW_some _ (AS.le.refl _) ⟨v, rfl, hfin⟩
theorem rmade_pure (l0 : List Bool) (hl0 : l0.length <= 100000) (neg : Bool) (hc : (cutB l0).length <= 1024) : Pure Tryz.prog G 109 [bools l0, .bool neg] (.tup [(intT (neg && decide (0 < (cutB l0).length)) (limbsB (cutB l0))).enc, .bool true]) := by
 cases neg with
 | false => exact rmade_a G l0 hl0 hc
 | true =>
  by_cases h : 0 < (cutB l0).length
  ·rw [decide_eq_true h]; exact rmade_b G l0 hl0 hc h
  ·rw [decide_eq_false h]; exact rmade_c G l0 hl0 hc h
end
set_option maxRecDepth 20000
section
def tbRefX := And.intro (And.intro (And.intro (And.intro @tf3 (And.intro @tf4 @tf5)) (And.intro @tf47 (And.intro @tf128 @tf2))) (And.intro (And.intro @tf9 (And.intro @tf23 @tf22)) (And.intro @tf24 (And.intro @tf26 @tf129)))) (And.intro (And.intro (And.intro @tf106 (And.intro @Term.flat_enc @Term.isv_enc)) (And.intro @Term.fold_enc (And.intro @isv_bools @flat_bools))) (And.intro (And.intro @len_bools (And.intro @ix_bools @isv_lims)) (And.intro (And.intro @flat_lims @len_lims) (And.intro @isv_encs @flat_encs))))
variable (G : Nat -> AV)
theorem bit_of {m : Nat} (h : m < 18446744073709551616) : decide (IntKind.u64.wrap ↑(BitVec.ofInt IntKind.u64.bits (m : Int) &&& BitVec.ofInt IntKind.u64.bits 1).toNat = 1) = decide (m % 2 = 1) := by
 have e : (BitVec.ofInt IntKind.u64.bits (m : Int) &&& BitVec.ofInt IntKind.u64.bits 1).toNat = m &&& 1 := by
  show (BitVec.ofInt 64 (m : Int) &&& BitVec.ofInt 64 1).toNat = _
  rw [BitVec.toNat_and, BitVec.ofInt_natCast, BitVec.toNat_ofNat]
  have e1 : (BitVec.ofInt 64 1).toNat = 1 := by decide
  rw [e1, Nat.mod_eq_of_lt h]
 rw [e, Nat.and_one_is_mod, u64k (by omega), Bool.eq_iff_iff, decide_eq_true_eq, decide_eq_true_eq]
 omega
theorem shr_of (m : Nat) : (m : Int).fdiv (2 ^ min 1 IntKind.u64.bits) = ((m / 2 : Nat) : Int) := by
 have hm : min 1 IntKind.u64.bits = 1 := by have : IntKind.u64.bits = 64 := rfl; omega
 rw [hm, Int.fdiv_eq_ediv_of_nonneg _ (by decide)]
 simp
def ofT (n : Int) : Term := intT (decide (n < 0)) (limbsB (cutB (bitsN n.natAbs)))
theorem ofT_len {n : Int} (h0 : -9223372036854775808 <= n) (h1 : n <= 9223372036854775807) : (bitsN n.natAbs).length <= 64 := by
 refine bitsN_len 64 _ ?_
 have : (2 : Nat) ^ 64 = 18446744073709551616 := by decide
 omega
theorem ofT_neg {n : Int} : (decide (n < 0) && decide (0 < (cutB (bitsN n.natAbs)).length)) = decide (n < 0) := by
 by_cases h : n < 0
 ·have h2 : 0 < (cutB (bitsN n.natAbs)).length := by
   refine Nat.pos_of_ne_zero fun e => ?_
   have := (cut_len _).1 e
   rw [bitsN_bv] at this
   omega
  simp [h, h2]
 ·simp [h]
theorem ofT_wr {n : Int} (h0 : -9223372036854775808 <= n) (h1 : n <= 9223372036854775807) : wr (ofT n) = true := by
 refine wr_made (Nat.le_trans (cutB_len _) (Nat.le_trans (ofT_len h0 h1) (by omega))) fun h => ?_
 have := ofT_neg (n := n)
 rw [h, Bool.true_and] at this
 exact of_decide_eq_true this
theorem ofT_said (n : Int) : wsaid (ofT n) = itoa n := by
 have h1 : (ofT n).neg = decide (n < 0) := rfl
 have h2 : (ofT n).limbs = limbsB (cutB (bitsN n.natAbs)) := rfl
 unfold wsaid itoa
 rw [h1, h2, limbsB_val, bv_cut, bitsN_bv]
 by_cases h : n < 0 <;> simp [h]
theorem ofT_bulk {n : Int} (h0 : -9223372036854775808 <= n) (h1 : n <= 9223372036854775807) : (ofT n).bulk <= 1000000 := by
 have h := limbsB_len (cutB (bitsN n.natAbs))
 have h2 := cutB_len (bitsN n.natAbs)
 have h3 := ofT_len h0 h1
 have e : (ofT n).bulk = _ := (ofT n).bulk_eq
 have e1 : (ofT n).limbs = limbsB (cutB (bitsN n.natAbs)) := rfl
 have e2 : (ofT n).text = [] := rfl
 have e3 : (ofT n).items = [] := rfl
 have e4 : (ofT n).tail = [] := rfl
 rw [e, e1, e2, e3, e4]
 simp only [List.length_nil, bulks]
 omega
set_option maxHeartbeats 2000000 in
theorem rof_pure (n : Int) (h0 : -9223372036854775808 <= n) (h1 : n <= 9223372036854775807) : Pure Tryz.prog G 65 [.int .i64 n] (ofT n).enc := by
 have hlen := ofT_len h0 h1
 have hmade := rmade_pure G (bitsN n.natAbs) (by omega) (decide (n < 0)) (Nat.le_trans (cutB_len _) (by omega))
 rw [ofT_neg] at hmade
 have hmade : Pure Tryz.prog G 109 [bools (bitsN n.natAbs), .bool (decide (n < 0))] (.tup [(ofT n).enc, .bool true]) := hmade
 generalize hO : ofT n = O at *
 clear hO
 obtain ⟨N, hN⟩ : ∃ N, N = n.natAbs := ⟨_, rfl⟩
 rw [<- hN] at hlen hmade
 have hN64 : N < 18446744073709551616 := by omega
 have hu : ∀ k : Int, IntKind.u64.wrap k = k % 18446744073709551616 := fun k => by first | rfl | simp [IntKind.wrap]
 refine Pure.of_le fun σ => ?_
 refine Tri.of_awp mixed Tryz.func65 rfl (by kernel_rfl) (by kernel_rfl) (by simp [Tryz.ntmps65]) Tryz.results65 ?_
 simp -dsimp only [↓bp, bq, br, seval, tbRefX]
 refine newT_plain fun b2 hb2 => ?_
 obtain ⟨S, hS⟩ : ∃ S, S = σ.setBox b2 [.int .u8 0, .bool false, .nil, .str [], .int .i64 0, .nil, .nil] := ⟨_, rfl⟩
 have hSb : S.box b2 = some [.int .u8 0, .bool false, .nil, .str [], .int .i64 0, .nil, .nil] := by rw [hS]; simp [AS.setBox]
 have hle : σ.le S := by rw [hS]; exact (AS.le.refl σ).setBox hb2.1 _
 rw [<- hS]
 clear hS
 by_cases hn : n < 0
 ·have hw1 : IntKind.u64.wrap n = (((n + 18446744073709551616).toNat : Nat) : Int) := by rw [hu]; omega
  have hw2 : IntKind.u64.wrap (0 - (((n + 18446744073709551616).toNat : Nat) : Int)) = (N : Int) := by rw [hu]; omega
  have hn' := eq_true hn
  rw [decide_eq_true hn] at hmade
  clear hu hN h0 h1 hn
  repeat' (first | refine xs ?_ ?_ <;> intros | (refine wn ?_; intro bx hbx; try simp only [fb] at hbx) | refine wj ?_ | simp -dsimp only [↓bp, bq, br, seval, tbRefX, *] | refine wz ?_ | fail)
  refine loop_intro (fun k e σ' => ∃ (m : Nat) (B : List Bool) (v : AV), m = k /\ m < 18446744073709551616 /\ e 3 = .int .u64 m /\ e 4 = v /\ Buf 1 S σ' v (B.map AV.bool) /\ B ++ bitsN m = bitsN N) N
   ⟨N, [], .nil, rfl, hN64, by first | (simp -dsimp only [↓bp, bq, br, seval, tbRefX]; done) | (simp -dsimp only [↓bp, bq, br, seval, tbRefX]; try rfl), by first | (simp -dsimp only [↓bp, bq, br, seval, tbRefX]; done) | (simp -dsimp only [↓bp, bq, br, seval, tbRefX]; try rfl), .nil (AS.le.refl S), rfl⟩ ?_
  clear hN64
  rintro k e σ2 ⟨m, B, v, rfl, hm, h3, h4, hB, hBB⟩
  simp -dsimp only [↓bp, bq, br, seval, tbRefX] at h3 h4
  have hSb2 := hB.le.box _ _ hSb
  have hBl : B.length <= 64 := by have := congrArg List.length hBB; rw [List.length_append] at this; omega
  by_cases hz : m = 0
  ·subst hz
   rw [bitsN_zero, List.append_nil] at hBB
   subst hBB
   have hp := hmade.lessArgs (.cons hB.told (.cons (Le.refl _) .nil))
   have hc0 := eq_false (show ¬ (0 : Int) < ((0 : Nat) : Int) by omega)
   have hle2 := hle.trans hB.le
   clear hmade hB hBl
   repeat' (first | refine xs ?_ ?_ <;> intros | ((first | refine xh ?_ | refine xi ?_); intro bx hbx; (try simp only [fb] at hbx); try (have nn := fresh_ne (c := bx) hSb2 (by simp only [hbx]))) | refine wp hp ?_ | refine wj ?_ | simp -dsimp only [↓bp, bq, br, seval, tbRefX, *] | refine wz ?_ | fail)
   all_goals exact finish_le (Le.refl _) ((hle2.setBox (hle2.fresh hbx).1 _).setBox hb2.1 _)
  ·have hc0 := eq_true (show (0 : Int) < (m : Int) by omega)
   have hbit := bit_of hm
   have hshr := shr_of m
   have hst := bitsN_step hz
   have hfin : (B ++ [decide (m % 2 = 1)]) ++ bitsN (m / 2) = bitsN N := by rw [<- hBB, hst]; simp
   have hlt : m / 2 < m := by omega
   have hm2 : m / 2 < 18446744073709551616 := by omega
   generalize decide (m % 2 = 1) = d at *
   clear hmade hst hBB hz hm
   repeat' (first | refine xs ?_ ?_ <;> intros | (refine wn ?_; intro bx hbx; try simp only [fb] at hbx) | (refine build_one tbB (a := .bool d) rfl rfl (by omega) ?_) | (refine app_buf (ys := [.bool d]) hB tbB (asrc_sl tbBE) (fun a ha => by simp at ha; subst ha; rfl) (by simp; omega) (fun v5 σ5 hB5 hx5 => ?_)) | refine wj ?_ | simp -dsimp only [↓bp, bq, br, seval, tbRefX, *] | refine wz ?_ | fail)
   all_goals exact ⟨m / 2, hlt, m / 2, B ++ [d], v5, rfl, hm2, rfl, rfl, by rw [List.map_append]; exact hB5, hfin⟩
 ·have hw1 : IntKind.u64.wrap n = (N : Int) := by rw [hu]; omega
  have hn' := eq_false hn
  rw [decide_eq_false hn] at hmade
  clear hu hN h0 h1 hn
  repeat' (first | refine xs ?_ ?_ <;> intros | (refine wn ?_; intro bx hbx; try simp only [fb] at hbx) | refine wj ?_ | simp -dsimp only [↓bp, bq, br, seval, tbRefX, *] | refine wz ?_ | fail)
  refine loop_intro (fun k e σ' => ∃ (m : Nat) (B : List Bool) (v : AV), m = k /\ m < 18446744073709551616 /\ e 3 = .int .u64 m /\ e 4 = v /\ Buf 1 S σ' v (B.map AV.bool) /\ B ++ bitsN m = bitsN N) N
   ⟨N, [], .nil, rfl, hN64, by first | (simp -dsimp only [↓bp, bq, br, seval, tbRefX]; done) | (simp -dsimp only [↓bp, bq, br, seval, tbRefX]; try rfl), by first | (simp -dsimp only [↓bp, bq, br, seval, tbRefX]; done) | (simp -dsimp only [↓bp, bq, br, seval, tbRefX]; try rfl), .nil (AS.le.refl S), rfl⟩ ?_
  clear hN64
  rintro k e σ2 ⟨m, B, v, rfl, hm, h3, h4, hB, hBB⟩
  simp -dsimp only [↓bp, bq, br, seval, tbRefX] at h3 h4
  have hSb2 := hB.le.box _ _ hSb
  have hBl : B.length <= 64 := by have := congrArg List.length hBB; rw [List.length_append] at this; omega
  by_cases hz : m = 0
  ·subst hz
   rw [bitsN_zero, List.append_nil] at hBB
   subst hBB
   have hp := hmade.lessArgs (.cons hB.told (.cons (Le.refl _) .nil))
   have hc0 := eq_false (show ¬ (0 : Int) < ((0 : Nat) : Int) by omega)
   have hle2 := hle.trans hB.le
   clear hmade hB hBl
   repeat' (first | refine xs ?_ ?_ <;> intros | ((first | refine xh ?_ | refine xi ?_); intro bx hbx; (try simp only [fb] at hbx); try (have nn := fresh_ne (c := bx) hSb2 (by simp only [hbx]))) | refine wp hp ?_ | refine wj ?_ | simp -dsimp only [↓bp, bq, br, seval, tbRefX, *] | refine wz ?_ | fail)
   all_goals exact finish_le (Le.refl _) ((hle2.setBox (hle2.fresh hbx).1 _).setBox hb2.1 _)
  ·have hc0 := eq_true (show (0 : Int) < (m : Int) by omega)
   have hbit := bit_of hm
   have hshr := shr_of m
   have hst := bitsN_step hz
   have hfin : (B ++ [decide (m % 2 = 1)]) ++ bitsN (m / 2) = bitsN N := by rw [<- hBB, hst]; simp
   have hlt : m / 2 < m := by omega
   have hm2 : m / 2 < 18446744073709551616 := by omega
   generalize decide (m % 2 = 1) = d at *
   clear hmade hst hBB hz hm
   repeat' (first | refine xs ?_ ?_ <;> intros | (refine wn ?_; intro bx hbx; try simp only [fb] at hbx) | (refine build_one tbB (a := .bool d) rfl rfl (by omega) ?_) | (refine app_buf (ys := [.bool d]) hB tbB (asrc_sl tbBE) (fun a ha => by simp at ha; subst ha; rfl) (by simp; omega) (fun v5 σ5 hB5 hx5 => ?_)) | refine wj ?_ | simp -dsimp only [↓bp, bq, br, seval, tbRefX, *] | refine wz ?_ | fail)
   all_goals exact ⟨m / 2, hlt, m / 2, B ++ [d], v5, rfl, hm2, rfl, rfl, by rw [List.map_append]; exact hB5, hfin⟩
theorem rnum_pure (n : Int) (h0 : -9223372036854775808 <= n) (h1 : n <= 9223372036854775807) : Pure Tryz.prog G 87 [.int .i64 n] (.str (itoa n)) := by
 have hp := rof_pure G n h0 h1
 have hq := rwtext_pure G (ofT n) (ofT_bulk h0 h1)
 rw [ofT_wr h0 h1, if_pos rfl, ofT_said] at hq
 clear h0 h1
 intro σ
 refine Tri.of_awp mixed Tryz.func87 rfl (by kernel_rfl) (by kernel_rfl) (by simp [Tryz.ntmps87]) Tryz.results87 ?_
 repeat' (first | refine xs ?_ ?_ <;> intros | (refine wn ?_; intro bx hbx; try simp only [fb] at hbx) | refine wp hp ?_ | refine wp hq ?_ | refine wj ?_ | simp -dsimp only [↓bp, bq, br, seval, tbRefX, *] | refine wz ?_ | fail)
 all_goals rfl
end
set_option maxRecDepth 20000
section
def tbRefU := And.intro (And.intro (And.intro @tf3 @tf4) (And.intro @tf5 @tf9)) (And.intro (And.intro @tf45 @tf44) (And.intro @isv_byteA @flat_byteA))
variable (G : Nat -> AV)
theorem rword_pure (s : List UInt8) : Pure Tryz.prog G 169 [.str s] (.bool (words.contains s)) := by
 intro σ
 have hwl : words.length = 19 := rfl
 have hW : AV.sl .full [.str [97, 102, 116, 101, 114], .str [97, 110, 100], .str [97, 110, 100, 97, 108, 115, 111], .str [98, 101, 103, 105, 110], .str [99, 97, 115, 101], .str [100, 105, 118], .str [101, 110, 100], .str [102, 117, 110], .str [105, 102], .str [110, 111, 116], .str [111, 102], .str [111, 114], .str [111, 114, 101, 108, 115, 101], .str [114, 101, 99, 101, 105, 118, 101], .str [114, 101, 109], .str [116, 114, 121], .str [99, 97, 116, 99, 104], .str [119, 104, 101, 110], .str [120, 111, 114]] [] = .sl .full (words.map AV.str) [] := rfl
 generalize words = W at *
 refine Tri.of_awp mixed Tryz.func169 rfl (by kernel_rfl) (by kernel_rfl) (by simp [Tryz.ntmps169]) Tryz.results169 ?_
 repeat' (first | refine xs ?_ ?_ <;> intros | (refine wn ?_; intro bx hbx; try simp only [fb] at hbx) | refine wj ?_ | simp -dsimp only [↓bp, bq, br, seval, tbRefU, *] | refine wz ?_ | fail)
 refine loop_keep mixed (fun n e => ∃ i : Nat, i <= (W).length /\ n = (W).length - i /\ e 4 = .int .i64 i /\ (W.take i).contains s = false) (W).length
   ⟨0, by omega, by omega, by simp -dsimp only [↓bp, bq, br, seval, tbRefU]; first | done | rfl, by simp⟩ ?_
 rintro n v ⟨i, hi, rfl, h4, hct⟩
 simp -dsimp only [↓bp, bq, br, seval, tbRefU] at h4
 simp -dsimp only [↓bp, bq, br, seval, tbRefU, h4]
 refine condW_dec (fun hlt => ?_) (fun hge => ?_)
 ·obtain ⟨w, hx⟩ : ∃ w, W[i]? = some w := ⟨_, List.getElem?_eq_getElem (by omega)⟩
  have hwi : IntKind.i64.wrap ((i : Int) + 1) = ((i + 1 : Nat) : Int) := by rw [wrap_nat (by omega) (by omega)]; rfl
  have hil : i < W.length := (List.getElem?_eq_some_iff.1 hx).1
  have htk := take_succ_get _ _ _ hx
  clear hi hlt
  by_cases hws : w = s
  ·subst hws
   have hm : W.contains w = true := by simpa using List.mem_of_getElem? hx
   rw [hm]
   clear hct htk hm
   repeat' (first | refine xs ?_ ?_ <;> intros | (refine wn ?_; intro bx hbx; try simp only [fb] at hbx) | refine wj ?_ | simp -dsimp only [↓bp, bq, br, seval, tbRefU, *] | refine wz ?_ | fail)
   all_goals rfl
  ·have hnx : (W.take (i + 1)).contains s = false := by
    rw [htk, Bool.eq_false_iff]
    intro h
    rw [List.contains_iff_mem, List.mem_append] at h
    rcases h with h | h
    ·rw [<- List.contains_iff_mem, hct] at h; cases h
    ·simp at h; exact hws h.symm
   clear hct htk
   repeat' (first | refine xs ?_ ?_ <;> intros | (refine wn ?_; intro bx hbx; try simp only [fb] at hbx) | refine wj ?_ | simp -dsimp only [↓bp, bq, br, seval, tbRefU, *] | refine wz ?_ | fail)
   all_goals exact ⟨W.length - (i + 1), by omega, i + 1, by omega, by omega, rfl, hnx⟩
 ·have : i = W.length := by omega
  subst this
  rw [List.take_length] at hct
  rw [hct]
  clear hi hge hct
  repeat' (first | refine xs ?_ ?_ <;> intros | (refine wn ?_; intro bx hbx; try simp only [fb] at hbx) | refine wj ?_ | simp -dsimp only [↓bp, bq, br, seval, tbRefU, *] | refine wz ?_ | fail)
  all_goals rfl
theorem plainA_form {s : List UInt8} {c : UInt8} (h0 : s[0]? = some c) : plainA s = (decide (97 <= c.toNat) && decide (c.toNat <= 122) && !words.contains s && s.all innerC) := by
 cases s with
 | nil => simp at h0
 | cons d l => simp at h0; subst h0; rfl
theorem inner_false {s : List UInt8} {i : Nat} {c : UInt8} (h : s[i]? = some c) (hc : innerC c = false) : s.all innerC = false := by
 rw [Bool.eq_false_iff]
 intro h2
 rw [List.all_eq_true] at h2
 have := h2 c (List.mem_of_getElem? h)
 rw [hc] at this; cases this
set_option maxHeartbeats 2000000 in
theorem rplain_pure (s : List UInt8) (hs : s.length <= 1000000000) : Pure Tryz.prog G 127 [.str s] (.bool (plainA s)) := by
 have hword := rword_pure G s
 intro σ
 refine Tri.of_awp mixed Tryz.func127 rfl (by kernel_rfl) (by kernel_rfl) (by simp [Tryz.ntmps127]) Tryz.results127 ?_
 repeat' (first | refine xs ?_ ?_ <;> intros | (refine wn ?_; intro bx hbx; try simp only [fb] at hbx) | refine wj ?_ | simp -dsimp only [↓bp, bq, br, seval, tbRefU, *] | refine wz ?_ | fail)
 refine loop_keep mixed (fun n e => ∃ i : Nat, i <= (s).length /\ n = (s).length - i /\ e 3 = .int .i64 i /\ (0 < i -> ∃ c, s[0]? = some c /\ 97 <= c.toNat /\ c.toNat <= 122) /\ (s.take i).all innerC = true) (s).length
   ⟨0, by omega, by omega, by simp -dsimp only [↓bp, bq, br, seval, tbRefU]; first | done | rfl, ⟨fun h => absurd h (by omega), rfl⟩⟩ ?_
 rintro n v ⟨i, hi, rfl, h3, ⟨hf, hal⟩⟩
 simp -dsimp only [↓bp, bq, br, seval, tbRefU] at h3
 simp -dsimp only [↓bp, bq, br, seval, tbRefU, h3]
 refine condW_dec (fun hlt => ?_) (fun hge => ?_)
 ·obtain ⟨c, hx⟩ : ∃ c, s[i]? = some c := ⟨_, List.getElem?_eq_getElem (by omega)⟩
  have hwi : IntKind.i64.wrap ((i : Int) + 1) = ((i + 1 : Nat) : Int) := by rw [wrap_nat (by omega) (by omega)]; rfl
  have hil : i < s.length := (List.getElem?_eq_some_iff.1 hx).1
  have htk := take_succ_get _ _ _ hx
  have hnext : innerC c = true -> (i = 0 -> 97 <= c.toNat /\ c.toNat <= 122) -> ((0 < i + 1 -> ∃ c, s[0]? = some c /\ 97 <= c.toNat /\ c.toNat <= 122) /\ (s.take (i + 1)).all innerC = true) := fun hc h0 => by
   refine ⟨fun _ => ?_, by rw [htk, List.all_append, hal]; simp [hc]⟩
   by_cases e : i = 0
   ·subst e; exact ⟨c, hx, h0 rfl⟩
   ·exact hf (by omega)
  have hno1 : i = 0 -> ¬ (97 <= c.toNat /\ c.toNat <= 122) -> plainA s = false := fun e h => by
   subst e
   rw [plainA_form hx]
   by_cases a : 97 <= c.toNat
   ·have : ¬ c.toNat <= 122 := fun b => h ⟨a, b⟩
    simp [this]
   ·simp [a]
  have hno2 : innerC c = false -> plainA s = false := fun h => by
   have h1 := inner_false hx h
   obtain ⟨d, hd⟩ : ∃ d, s[0]? = some d := ⟨_, List.getElem?_eq_getElem (by omega)⟩
   rw [plainA_form hd, h1, Bool.and_false]
  clear hi hlt htk hf hal hs hword
  have hN : ∀ n : Nat, ((n : Int) <= c.toNat) = (n <= c.toNat) := fun n => by simp
  by_cases hlow : 97 <= c.toNat /\ c.toNat <= 122
  ·have a1 := eq_true (show (97 : Int) <= c.toNat by omega)
   have a2 := eq_true (show (c.toNat : Int) <= 122 by omega)
   have hn := hnext (by unfold innerC; simp [hlow]) (fun _ => hlow)
   clear hnext hno1 hno2 hN
   repeat' (first | refine xs ?_ ?_ <;> intros | (refine wn ?_; intro bx hbx; try simp only [fb] at hbx) | refine wj ?_ | simp -dsimp only [↓bp, bq, br, seval, tbRefU, *] | refine wz ?_ | fail)
   all_goals exact ⟨s.length - (i + 1), by omega, i + 1, by omega, rfl, rfl, hn⟩
  ·by_cases e0 : i = 0
   ·have hp := hno1 e0 hlow
    rw [hp]
    clear hnext hno1 hno2 hN
    have b0 := eq_true (show (i : Int) = 0 by omega)
    by_cases a : 97 <= c.toNat
    ·have a1 := eq_true (show (97 : Int) <= c.toNat by omega)
     have a2 := eq_false (show ¬ (c.toNat : Int) <= 122 by omega)
     clear e0 hlow
     repeat' (first | refine xs ?_ ?_ <;> intros | (refine wn ?_; intro bx hbx; try simp only [fb] at hbx) | refine wj ?_ | simp -dsimp only [↓bp, bq, br, seval, tbRefU, *] | refine wz ?_ | fail)
     all_goals rfl
    ·have a1 := eq_false (show ¬ (97 : Int) <= c.toNat by omega)
     clear e0 hlow
     repeat' (first | refine xs ?_ ?_ <;> intros | (refine wn ?_; intro bx hbx; try simp only [fb] at hbx) | refine wj ?_ | simp -dsimp only [↓bp, bq, br, seval, tbRefU, *] | refine wz ?_ | fail)
     all_goals rfl
   ·have b0 := eq_false (show ¬ (i : Int) = 0 by omega)
    have hlo : (97 <= (c.toNat : Int)) = False \/ ((97 <= (c.toNat : Int)) = True /\ ((c.toNat : Int) <= 122) = False) := by
     by_cases a : 97 <= c.toNat
     ·exact .inr ⟨eq_true (by omega), eq_false (by omega)⟩
     ·exact .inl (eq_false (by omega))
    cases hin : innerC c with
    | true =>
     have hn := hnext hin (fun e => absurd e e0)
     clear hnext hno1 hno2 hN
     unfold innerC at hin
     simp only [Bool.or_eq_true, Bool.and_eq_true, decide_eq_true_eq] at hin
     rcases hlo with a1 | ⟨a1, a2⟩
     ·by_cases d1 : 65 <= c.toNat /\ c.toNat <= 90
      ·have a3 := eq_true (show (65 : Int) <= c.toNat by omega)
       have a4 := eq_true (show (c.toNat : Int) <= 90 by omega)
       clear hin hlow
       repeat' (first | refine xs ?_ ?_ <;> intros | (refine wn ?_; intro bx hbx; try simp only [fb] at hbx) | refine wj ?_ | simp -dsimp only [↓bp, bq, br, seval, tbRefU, *] | refine wz ?_ | fail)
       all_goals exact ⟨s.length - (i + 1), by omega, i + 1, by omega, rfl, rfl, hn⟩
      ·by_cases d2 : 48 <= c.toNat /\ c.toNat <= 57
       ·have a3 := eq_false (show ¬ (65 : Int) <= c.toNat by omega)
        have a4 := eq_true (show (48 : Int) <= c.toNat by omega)
        have a5 := eq_true (show (c.toNat : Int) <= 57 by omega)
        clear hin hlow
        repeat' (first | refine xs ?_ ?_ <;> intros | (refine wn ?_; intro bx hbx; try simp only [fb] at hbx) | refine wj ?_ | simp -dsimp only [↓bp, bq, br, seval, tbRefU, *] | refine wz ?_ | fail)
        all_goals exact ⟨s.length - (i + 1), by omega, i + 1, by omega, rfl, rfl, hn⟩
       ·have a1n : ¬ (97 : Int) <= c.toNat := of_eq_false a1
        have h3 : c.toNat = 95 \/ c.toNat = 64 := by omega
        have a4 := eq_true (show (48 : Int) <= c.toNat by omega)
        have a5 := eq_false (show ¬ (c.toNat : Int) <= 57 by omega)
        rcases h3 with h3 | h3
        ·have a3 := eq_true (show (65 : Int) <= c.toNat by omega)
         have a6 := eq_false (show ¬ (c.toNat : Int) <= 90 by omega)
         have a7 := eq_true (show (c.toNat : Int) = 95 by omega)
         clear hin hlow d1 d2 h3
         repeat' (first | refine xs ?_ ?_ <;> intros | (refine wn ?_; intro bx hbx; try simp only [fb] at hbx) | refine wj ?_ | simp -dsimp only [↓bp, bq, br, seval, tbRefU, *] | refine wz ?_ | fail)
         all_goals exact ⟨s.length - (i + 1), by omega, i + 1, by omega, rfl, rfl, hn⟩
        ·have a3 := eq_false (show ¬ (65 : Int) <= c.toNat by omega)
         have a7 := eq_false (show ¬ (c.toNat : Int) = 95 by omega)
         have a8 := eq_true (show (c.toNat : Int) = 64 by omega)
         clear hin hlow d1 d2 h3
         repeat' (first | refine xs ?_ ?_ <;> intros | (refine wn ?_; intro bx hbx; try simp only [fb] at hbx) | refine wj ?_ | simp -dsimp only [↓bp, bq, br, seval, tbRefU, *] | refine wz ?_ | fail)
         all_goals exact ⟨s.length - (i + 1), by omega, i + 1, by omega, rfl, rfl, hn⟩
     ·exfalso
      have b1 : 97 <= (c.toNat : Int) := of_eq_true a1
      have b2 : ¬ (c.toNat : Int) <= 122 := of_eq_false a2
      omega
    | false =>
     have hp := hno2 hin
     rw [hp]
     clear hnext hno1 hno2 hN
     have hin : ¬ (innerC c = true) := by rw [hin]; simp
     unfold innerC at hin
     simp only [Bool.or_eq_true, Bool.and_eq_true, decide_eq_true_eq] at hin
     have a7 := eq_false (show ¬ (c.toNat : Int) = 95 by omega)
     have a8 := eq_false (show ¬ (c.toNat : Int) = 64 by omega)
     have h65 : ((65 <= (c.toNat : Int)) = False) \/ ((65 <= (c.toNat : Int)) = True /\ ((c.toNat : Int) <= 90) = False) := by
      by_cases a : 65 <= c.toNat
      ·exact .inr ⟨eq_true (by omega), eq_false (by omega)⟩
      ·exact .inl (eq_false (by omega))
     have h48 : ((48 <= (c.toNat : Int)) = False) \/ ((48 <= (c.toNat : Int)) = True /\ ((c.toNat : Int) <= 57) = False) := by
      by_cases a : 48 <= c.toNat
      ·exact .inr ⟨eq_true (by omega), eq_false (by omega)⟩
      ·exact .inl (eq_false (by omega))
     clear hin hlow
     rcases hlo with a1 | ⟨a1, a2⟩ <;> rcases h65 with a3 | ⟨a3, a4⟩ <;> rcases h48 with a5 | ⟨a5, a6⟩
     all_goals
      repeat' (first | refine xs ?_ ?_ <;> intros | (refine wn ?_; intro bx hbx; try simp only [fb] at hbx) | refine wj ?_ | simp -dsimp only [↓bp, bq, br, seval, tbRefU, *] | refine wz ?_ | fail)
      all_goals rfl
 ·have : i = s.length := by omega
  subst this
  rw [List.take_length] at hal
  clear hi hge
  by_cases hne : s = []
  ·subst hne
   have hp : plainA [] = false := rfl
   rw [hp]
   clear hal hf
   repeat' (first | refine xs ?_ ?_ <;> intros | (refine wn ?_; intro bx hbx; try simp only [fb] at hbx) | refine wj ?_ | simp -dsimp only [↓bp, bq, br, seval, tbRefU, *] | refine wz ?_ | fail)
   all_goals rfl
  ·obtain ⟨c, hx, h1, h2⟩ := hf (List.length_pos_iff.2 hne)
   have hp : plainA s = !words.contains s := by rw [plainA_form hx, hal]; simp [h1, h2]
   rw [hp]
   clear hal hf hp h1 h2 hx
   have hne := eq_false hne
   repeat' (first | refine xs ?_ ?_ <;> intros | (refine wn ?_; intro bx hbx; try simp only [fb] at hbx) | refine wp hword ?_ | refine wj ?_ | simp -dsimp only [↓bp, bq, br, seval, tbRefU, *] | refine wz ?_ | fail)
   all_goals rfl
end
set_option maxRecDepth 20000
section
def tbRefU2 := And.intro (And.intro (And.intro @tf3 @tf4) (And.intro @tf5 @tf9)) (And.intro (And.intro @tf45 @tf44) (And.intro @isv_byteA @flat_byteA))
variable (G : Nat -> AV)
def OB (σ0 σ : AS) (v : AV) (s : List UInt8) : Prop := (v = .sl .full (bytesA s) [] /\ σ0.le σ) \/ (Buf 1 σ0 σ v (bytesA s) /\ s ≠ [])
theorem flat1b {s : List UInt8} : ∀ a, a ∈ bytesA s -> (flat a).length = 1 := fun a ha => by
 obtain ⟨c, _, rfl⟩ := List.mem_map.1 ha
 rfl
theorem obN : aelt Tryz.prog 45 = some (5, 1, 1) := tf45.2.2.2.2.2.2
theorem obE : el Tryz.prog 45 = some 5 := tf45.2.2.2.1
theorem app_ob {σ0 σ : AS} {v : AV} {s r : List UInt8} {K : AV -> AS -> Prop} {d : Dum σ} {d' : Dum K} (h : OB σ0 σ v s) (hr : r ≠ []) (hl : s.length + r.length <= 140737488355328) (hK : ∀ v' σ', OB σ0 σ' v' (s ++ r) -> K v' σ') :
  appW Tryz.prog σ 45 45 v (.sl .full (bytesA r) []) K d d' := by
 have hne : bytesA r ≠ [] := by simpa [bytesA] using hr
 have hb : ((bytesA s).length + (bytesA r).length) * 1 <= 140737488355328 := by rw [bytesA_len, bytesA_len]; omega
 rcases h with ⟨rfl, hle⟩ | ⟨hB, _⟩
 ·exact app_full hle flat1b obN (asrc_sl obE) flat1b hb (fun e => absurd e hne) (fun v' σ' hB _ => hK v' σ' (.inr ⟨by rwa [app_bytes] at hB, by simp [hr]⟩))
 ·exact app_buf hB obN (asrc_sl obE) flat1b hb (fun v' σ' hB _ => hK v' σ' (.inr ⟨by rwa [app_bytes] at hB, by simp [hr]⟩))
theorem div16 (c : UInt8) : IntKind.u8.wrap ((c.toNat : Int).tdiv 16) = ((c.toNat / 16 : Nat) : Int) := by
 have h : (c.toNat : Int).tdiv 16 = ((c.toNat / 16 : Nat) : Int) := rfl
 have := c.toNat_lt
 rw [h, IntKind.wrap_u8]; omega
theorem mod16 (c : UInt8) : (c.toNat : Int).tmod 16 = ((c.toNat % 16 : Nat) : Int) := rfl
set_option maxHeartbeats 2000000 in
theorem ratom_pure (s : List UInt8) (hs : s.length <= 1000000000) : Pure Tryz.prog G 86 [.str s] (.str (atomT s)) := by
 have hp := rplain_pure G s hs
 unfold atomT
 refine Pure.of_le fun σ => ?_
 cases hpl : plainA s with
 | true =>
  rw [hpl] at hp
  simp only [if_true]
  refine Tri.of_awp mixed Tryz.func86 rfl (by kernel_rfl) (by kernel_rfl) (by simp [Tryz.ntmps86]) Tryz.results86 ?_
  repeat' (first | refine xs ?_ ?_ <;> intros | (refine wn ?_; intro bx hbx; try simp only [fb] at hbx) | refine wp hp ?_ | refine wj ?_ | simp -dsimp only [↓bp, bq, br, seval, tbRefU2, *] | refine wz ?_ | fail)
  all_goals exact finish_le (Le.refl _) (AS.le.refl σ)
 | false =>
  rw [hpl] at hp
  simp only [Bool.false_eq_true, if_false]
  refine Tri.of_awp mixed Tryz.func86 rfl (by kernel_rfl) (by kernel_rfl) (by simp [Tryz.ntmps86]) Tryz.results86 ?_
  repeat' (first | refine xs ?_ ?_ <;> intros | (refine wn ?_; intro bx hbx; try simp only [fb] at hbx) | refine wp hp ?_ | refine wj ?_ | simp -dsimp only [↓bp, bq, br, seval, tbRefU2, *] | refine wz ?_ | fail)
  refine loop_intro (fun n e σ' => ∃ (i : Nat) (v : AV), i <= s.length /\ n = s.length - i /\ e 4 = .int .i64 i /\ e 3 = v /\ OB σ σ' v (39 :: (s.take i).flatMap quoC)) s.length
   ⟨0, _, by omega, by omega, by first | (simp -dsimp only [↓bp, bq, br, seval, tbRefU2]; done) | (simp -dsimp only [↓bp, bq, br, seval, tbRefU2]; try rfl), by first | (simp -dsimp only [↓bp, bq, br, seval, tbRefU2]; done) | (simp -dsimp only [↓bp, bq, br, seval, tbRefU2]; try rfl), .inl ⟨rfl, AS.le.refl σ⟩⟩ ?_
  clear hp hpl
  rintro n e σ' ⟨i, v, hi, rfl, h4, h3, hB⟩
  simp -dsimp only [↓bp, bq, br, seval, tbRefU2] at h4 h3
  by_cases hlt : (i : Int) < s.length
  ·obtain ⟨c, hc⟩ : ∃ c, s[i]? = some c := ⟨_, List.getElem?_eq_getElem (by omega)⟩
   have hts : (s.take (i + 1)).flatMap quoC = (s.take i).flatMap quoC ++ quoC c := by rw [take_succ_get _ _ _ hc, List.flatMap_append]; simp
   have hq := quoCs_len (s.take i)
   have hti : (s.take i).length = i := by rw [List.length_take]; omega
   have hlen : (39 :: (s.take i).flatMap quoC).length <= 5000000000 := by simp only [List.length_cons]; omega
   have hw : IntKind.i64.wrap ((i : Int) + 1) = ((i + 1 : Nat) : Int) := by rw [wrap_nat (by omega) (by omega)]; rfl
   have hnext : ∀ v2 s2, OB σ s2 v2 (39 :: (s.take i).flatMap quoC ++ quoC c) -> ∃ m, m < s.length - i /\ ∃ i_1 v', i_1 <= s.length /\ m = s.length - i_1 /\ AV.int .i64 ((i + 1 : Nat) : Int) = .int .i64 i_1 /\ v2 = v' /\ OB σ s2 v' (39 :: (s.take i_1).flatMap quoC) := fun v2 s2 h2 =>
    ⟨s.length - (i + 1), by omega, i + 1, v2, by omega, rfl, rfl, rfl, by rw [hts]; simpa using h2⟩
   clear hts hq hti hi hs
   generalize 39 :: (s.take i).flatMap quoC = out at *
   by_cases k1 : c.toNat = 39 \/ c.toNat = 92
   ·have hqc : quoC c = [92] ++ [c] := by unfold quoC; rw [if_pos k1]; rfl
    rw [hqc] at hnext
    have k1' : (c.toNat : Int) = 39 \/ (c.toNat : Int) = 92 := by omega
    clear hqc k1
    rcases k1' with k1' | k1'
    ·have kk := eq_true k1'
     clear k1'
     repeat' (first | refine xs ?_ ?_ <;> intros | (refine wn ?_; intro bx hbx; try simp only [fb] at hbx) | (refine app_ob (r := [92, c]) hB (by simp) (by simp only [List.length_cons, List.length_nil]; omega) (fun v2 s2 hB2 => ?_)) | refine wj ?_ | simp -dsimp only [↓bp, bq, br, seval, tbRefU2, hw, *] | refine wz ?_ | fail)
     all_goals exact hnext _ _ (by simpa using hB2)
    ·have kk := eq_true k1'
     have kk2 := eq_false (show ¬ (c.toNat : Int) = 39 by omega)
     clear k1'
     repeat' (first | refine xs ?_ ?_ <;> intros | (refine wn ?_; intro bx hbx; try simp only [fb] at hbx) | (refine app_ob (r := [92, c]) hB (by simp) (by simp only [List.length_cons, List.length_nil]; omega) (fun v2 s2 hB2 => ?_)) | refine wj ?_ | simp -dsimp only [↓bp, bq, br, seval, tbRefU2, hw, *] | refine wz ?_ | fail)
     all_goals exact hnext _ _ (by simpa using hB2)
   ·have j1 := eq_false (show ¬ (c.toNat : Int) = 39 by omega)
    have j2 := eq_false (show ¬ (c.toNat : Int) = 92 by omega)
    by_cases k2 : c.toNat = 10
    ·have hqc : quoC c = [92, 110] := by unfold quoC; rw [if_neg k1, if_pos k2]
     rw [hqc] at hnext
     have j3 := eq_true (show (c.toNat : Int) = 10 by omega)
     clear hqc k1 k2
     repeat' (first | refine xs ?_ ?_ <;> intros | (refine wn ?_; intro bx hbx; try simp only [fb] at hbx) | (refine app_ob (r := [92, 110]) hB (by simp) (by simp only [List.length_cons, List.length_nil]; omega) (fun v2 s2 hB2 => ?_)) | refine wj ?_ | simp -dsimp only [↓bp, bq, br, seval, tbRefU2, hw, *] | refine wz ?_ | fail)
     all_goals exact hnext _ _ hB2
    ·have j3 := eq_false (show ¬ (c.toNat : Int) = 10 by omega)
     by_cases k3 : c.toNat < 32 \/ 126 < c.toNat
     ·have hqc : quoC c = [92, 120, hexD (c.toNat / 16), hexD (c.toNat % 16)] := by unfold quoC; rw [if_neg k1, if_neg k2, if_pos k3]
      rw [hqc] at hnext
      have d16 := div16 c
      have m16 := mod16 c
      have x1 : ([48, 49, 50, 51, 52, 53, 54, 55, 56, 57, 97, 98, 99, 100, 101, 102] : List UInt8)[c.toNat / 16]? = some (hexD (c.toNat / 16)) := hex_at _ (by have := c.toNat_lt; omega)
      have x2 : ([48, 49, 50, 51, 52, 53, 54, 55, 56, 57, 97, 98, 99, 100, 101, 102] : List UInt8)[c.toNat % 16]? = some (hexD (c.toNat % 16)) := hex_at _ (by omega)
      clear hqc k1 k2
      have hk3 : ((c.toNat : Int) < 32) = True \/ (((c.toNat : Int) < 32) = False /\ ((126 : Int) < c.toNat) = True) := by
       by_cases a : c.toNat < 32
       ·exact .inl (eq_true (by omega))
       ·exact .inr ⟨eq_false (by omega), eq_true (by omega)⟩
      clear k3
      rcases hk3 with j4 | ⟨j4, j5⟩
      all_goals
       repeat' (first | refine xs ?_ ?_ <;> intros | (refine wn ?_; intro bx hbx; try simp only [fb] at hbx) | (refine app_ob (r := [92, 120, hexD (c.toNat / 16), hexD (c.toNat % 16)]) hB (by simp) (by simp only [List.length_cons, List.length_nil]; omega) (fun v2 s2 hB2 => ?_)) | refine wj ?_ | simp -dsimp only [↓bp, bq, br, seval, tbRefU2, hw, *] | refine wz ?_ | fail)
       all_goals exact hnext _ _ hB2
     ·have hqc : quoC c = [c] := by unfold quoC; rw [if_neg k1, if_neg k2, if_neg k3]
      rw [hqc] at hnext
      have j4 := eq_false (show ¬ (c.toNat : Int) < 32 by omega)
      have j5 := eq_false (show ¬ (126 : Int) < c.toNat by omega)
      clear hqc k1 k2 k3
      repeat' (first | refine xs ?_ ?_ <;> intros | (refine wn ?_; intro bx hbx; try simp only [fb] at hbx) | (refine app_ob (r := [c]) hB (by simp) (by simp only [List.length_cons, List.length_nil]; omega) (fun v2 s2 hB2 => ?_)) | refine wj ?_ | simp -dsimp only [↓bp, bq, br, seval, tbRefU2, hw, *] | refine wz ?_ | fail)
      all_goals exact hnext _ _ hB2
  ·have : i = s.length := by omega
   subst this
   have hq := quoCs_len s
   rw [List.take_length] at hB
   have hirr := eq_false (Int.lt_irrefl (s.length : Int))
   clear hlt hi
   have hfin : ∀ v' σ2, OB σ σ2 v' (39 :: s.flatMap quoC ++ [39]) -> ∃ g, v' = .sl g (bytesA (quoted s)) [] /\ σ.le σ2 := fun v' σ2 h => by
    have e : 39 :: s.flatMap quoC ++ [39] = quoted s := rfl
    rw [e] at h
    rcases h with ⟨h1, h2⟩ | ⟨h1, h2⟩
    ·exact ⟨_, h1, h2⟩
    ·rcases h1.isNil with ⟨h3, _⟩ | ⟨b, h3⟩
     ·exact absurd h3 (by simpa [bytesA] using h2)
     ·exact ⟨_, h3, h1.le⟩
   have hby := bytesOf_bytesA (quoted s)
   repeat' (first | refine xs ?_ ?_ <;> intros | (refine wn ?_; intro bx hbx; try simp only [fb] at hbx) | ((refine app_ob (r := [39]) hB (by simp) (by simp only [List.length_cons, List.length_nil]; omega) (fun v2 s2 hB2 => ?_); obtain ⟨g, rfl, hle2⟩ := hfin v2 s2 hB2)) | refine wj ?_ | simp -dsimp only [↓bp, bq, br, seval, tbRefU2, *] | refine wz ?_ | fail)
   all_goals exact finish_le (Le.refl _) hle2
end
end Go.Proofs.YtdhbdhopnpmboaaGreatDoor
