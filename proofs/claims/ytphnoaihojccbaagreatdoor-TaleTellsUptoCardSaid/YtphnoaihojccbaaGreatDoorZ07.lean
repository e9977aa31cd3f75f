/- A plain right term is told by its text alone. -/
import Derived.Test.YtphnoaihojccbaaGreatDoorZ06
import Derived.Test.YtphnoaihojccbaaGreatDoorZ04
import Derived.Shelf.Strings.Builder1
import Derived.Shelf.Strings.Builder2
import Derived.Shelf.Strings.OnBuilder
import Derived.Shelf.Strings.BuilderF
import Derived.Shelf.Strings.BuilderK
import Derived.Shelf.Strconv.Itoa0
import Derived.Shelf.Strconv.Itoa1
import Derived.Shelf.LaysM
import Derived.Shelf.Strconv.Itoa2
import Derived.Shelf.Strconv.Itoa3
import Derived.Test.YtphnoaihojccbaaGreatDoorProg
import Derived.Lib.AppendIntMem
import Derived.Test.YtphnoaihojccbaaGreatDoorZ05
set_option linter.unusedVariables false
set_option linter.unusedSimpArgs false
set_option linter.defProp false
namespace Go.Proofs.YtphnoaihojccbaaGreatDoor
open Go Go.Av
def back : List UInt8 → Nat
  | [] => 0
  | c :: l => (c.toNat - 48) + 10 * back l
theorem val_inj : ∀ {a b : List UInt32}, a.length = b.length → val a = val b → a = b
  | [], [], _, _ => rfl
  | x :: a, y :: b, hl, h => by
    simp only [val] at h
    have hx := x.toNat_lt
    have hy := y.toNat_lt
    have h1 : x.toNat = y.toNat := by omega
    have h2 : val a = val b := by omega
    rw [UInt32.toNat_inj.1 h1, val_inj (by simpa using hl) h2]
mutual
/-- is there no ref, fun or pid in a term? -/
def plainT : Term → Bool
  | .mk k g l s n ks ts => !(decide ((k.toNat : Int) = 3) || decide ((k.toNat : Int) = 4) || decide ((k.toNat : Int) = 5)) && plainTs ks && plainTs ts
def plainTs : List Term → Bool
  | [] => true
  | x :: l => plainT x && plainTs l
end
def Good (l : List Term) : Prop := ∀ x, x ∈ l → right x = true ∧ plainT x = true
theorem Good.tl {a : Term} {l : List Term} (h : Good (a :: l)) : Good l := fun x hx => h x (by simp [hx])
end Go.Proofs.YtphnoaihojccbaaGreatDoor
namespace Go.Proofs.YtphnoaihojccbaaGreatDoor
open Go Go.Av
def lineT (t : Term) : List UInt8 := if right t = true then text t else [63]
def atomTm (s : List UInt8) : Term := .mk 2 false [] s 0 [] []
def outL (t : Term) : List UInt8 := 111 :: ([117, 116, 32] ++ lineT t)
def endL (e : Ended) : List UInt8 := 101 :: ([110, 100, 101, 100, 32] ++ (itoa e.pid ++ 32 :: lineT e.reason))
def namL (n : Named) : List UInt8 := 110 :: ([97, 109, 101, 32] ++ (lineT (atomTm n.name) ++ 32 :: itoa n.pid))
def verL (n : Int) : List UInt8 := 118 :: ([101, 114, 100, 105, 99, 116, 32] ++ itoa n)
def speL (n : Int) : List UInt8 := 115 :: ([112, 101, 110, 116, 32] ++ itoa n)
def cloL (n : Int) : List UInt8 := 99 :: ([108, 111, 99, 107, 32] ++ itoa n)
def tlines (s : Seen) : List (List UInt8) := s.out.map outL ++ (s.ended.map endL ++ (s.names.map namL ++ [verL s.verdict, speL s.spent, cloL s.clock]))
theorem tlines_len (s : Seen) : (tlines s).length = s.out.length + s.ended.length + s.names.length + 3 := by
  simp only [tlines, List.length_append, List.length_map, List.length_cons, List.length_nil]; omega
end Go.Proofs.YtphnoaihojccbaaGreatDoor
namespace Go.Proofs
open Go.Shelf
def Tryz.lays156_ren : Go.Shelf.Ren := ⟨fun | 156 => 30 | 165 => 52 | 166 => 53 | 169 => 54 | 240 => 94 | 241 => 95 | 276 => 133 | 277 => 134 | n => n, fun | 31 => 31 | 9 => 9 | 3 => 3 | 4 => 4 | 0 => 0 | 20 => 20 | 72 => 95 | 76 => 99 | 70 => 93 | 37 => 86 | 75 => 98 | 127 => 125 | 164 => 200 | 5 => 5 | 80 => 101 | n => n, fun | n => n⟩
theorem Tryz.lays156 : Go.Proofs.Lays.n156 Tryz.prog Tryz.lays156_ren := {
  mixed := by kernel_rfl
  f156 := Tryz.func30.trans (congrArg some (by kernel_rfl))
  f165 := Tryz.func52.trans (congrArg some (by kernel_rfl))
  f166 := Tryz.func53.trans (congrArg some (by kernel_rfl))
  f169 := Tryz.func54.trans (congrArg some (by kernel_rfl))
  f240 := Tryz.func94.trans (congrArg some (by kernel_rfl))
  f241 := Tryz.func95.trans (congrArg some (by kernel_rfl))
  f276 := Tryz.func133.trans (congrArg some (by kernel_rfl))
  f277 := Tryz.func134.trans (congrArg some (by kernel_rfl))
  t0 := Tryz.underlying0
  a0 := Tryz.isAgg0
  z0 := Tryz.sizeOf0
  v0 := Tryz.zeroValue0
  t3 := Tryz.underlying3
  a3 := Tryz.isAgg3
  z3 := Tryz.sizeOf3
  v3 := Tryz.zeroValue3
  t4 := Tryz.underlying4
  a4 := Tryz.isAgg4
  z4 := Tryz.sizeOf4
  v4 := Tryz.zeroValue4
  t9 := Tryz.underlying9
  a9 := Tryz.isAgg9
  z9 := Tryz.sizeOf9
  v9 := Tryz.zeroValue9
  t20 := Tryz.underlying20
  a20 := Tryz.isAgg20
  z20 := Tryz.sizeOf20
  v20 := Tryz.zeroValue20
  t31 := Tryz.underlying31
  a31 := Tryz.isAgg31
  z31 := Tryz.sizeOf31
  v31 := Tryz.zeroValue31
  t37 := Tryz.underlying86
  a37 := Tryz.isAgg86
  z37 := Tryz.sizeOf86
  v37 := Tryz.zeroValue86
  t70 := Tryz.underlying93
  a70 := Tryz.isAgg93
  z70 := Tryz.sizeOf93
  v70 := Tryz.zeroValue93
  t72 := Tryz.underlying95
  a72 := Tryz.isAgg95
  z72 := Tryz.sizeOf95
  v72 := Tryz.zeroValue95
  t75 := Tryz.underlying98
  a75 := Tryz.isAgg98
  z75 := Tryz.sizeOf98
  v75 := Tryz.zeroValue98
  t76 := Tryz.underlying99
  a76 := Tryz.isAgg99
  z76 := Tryz.sizeOf99
  v76 := Tryz.zeroValue99
  t127 := Tryz.underlying125
  a127 := Tryz.isAgg125
  z127 := Tryz.sizeOf125
  v127 := Tryz.zeroValue125
  t164 := Tryz.underlying200
  a164 := Tryz.isAgg200
  z164 := Tryz.sizeOf200
  v164 := Tryz.zeroValue200 }
theorem Tryz.Builder_Extra_156 : Builder.Extra Tryz.prog Tryz.lays156_ren := {
  sizeBuilder := by kernel_rfl
  liesBuilder := by kernel_rfl
  t5 := Tryz.underlying5
  a5 := Tryz.isAgg5
  z5 := Tryz.sizeOf5
  v5 := Tryz.zeroValue5
  infoByte := by kernel_rfl
  cellsByte := by kernel_rfl
  sizeByte := by kernel_rfl
  neB5 := by decide }
open Go.RowKit in
theorem Tryz.strings_Join (bk o c : Nat) (xs : List ByteArray) (sep : ByteArray) (w : World) (hcells : ∀ (j : Nat) x, xs[j]? = some x → w.cell? ⟨bk, o + j, none⟩ = some (.string x)) (hbk : bk < w.heap.size) (hN : xs.length ≤ 140737488355328) (hcap : xs.length ≤ c) (hlen : (Lib.join (xs.map (·.data.toList)) sep.data.toList).length ≤ 140737488355328) :
    Calls Tryz.prog 30 #[.slice (some ⟨bk, o, none⟩) xs.length c, .string sep] w fun e w' => e = .returned (.string ⟨(Lib.join (xs.map (·.data.toList)) sep.data.toList).toArray⟩) ∧ Below w.heap.size w w' := Any.strings_Join Tryz.lays156 Tryz.Builder_Extra_156 bk o c xs sep w hcells hbk hN hcap hlen
def Tryz.laysM171_ren : Go.Shelf.Ren := ⟨fun | 171 => 32 | 243 => 57 | 246 => 103 | 283 => 143 | 284 => 144 | 285 => 145 | 286 => 146 | 129 => 164 | 317 => 163 | 318 => 165 | 319 => 166 | 320 => 167 | 337 => 171 | 338 => 172 | n => n, fun | 3 => 3 | 9 => 9 | 2 => 2 | 4 => 4 | 171 => 211 | 0 => 0 | 53 => 137 | 37 => 86 | 5 => 5 | 173 => 214 | 212 => 230 | 51 => 85 | 20 => 20 | 213 => 231 | 46 => 138 | 232 => 237 | 233 => 238 | n => n, fun | 17 => 2 | 18 => 4 | 19 => 5 | n => n⟩
theorem Tryz.laysM171 : Go.Proofs.LaysM.n171 Tryz.prog Tryz.laysM171_ren := {
  mixed := by kernel_rfl
  f129 := Tryz.func164.trans (congrArg some (by kernel_rfl))
  f171 := Tryz.func32.trans (congrArg some (by kernel_rfl))
  f243 := Tryz.func57.trans (congrArg some (by kernel_rfl))
  f246 := Tryz.func103.trans (congrArg some (by kernel_rfl))
  f283 := Tryz.func143.trans (congrArg some (by kernel_rfl))
  f284 := Tryz.func144.trans (congrArg some (by kernel_rfl))
  f285 := Tryz.func145.trans (congrArg some (by kernel_rfl))
  f286 := Tryz.func146.trans (congrArg some (by kernel_rfl))
  f317 := Tryz.func163.trans (congrArg some (by kernel_rfl))
  f318 := Tryz.func165.trans (congrArg some (by kernel_rfl))
  f319 := Tryz.func166.trans (congrArg some (by kernel_rfl))
  f320 := Tryz.func167.trans (congrArg some (by kernel_rfl))
  f337 := Tryz.func171.trans (congrArg some (by kernel_rfl))
  f338 := Tryz.func172.trans (congrArg some (by kernel_rfl))
  t0 := Tryz.underlying0
  a0 := Tryz.isAgg0
  z0 := Tryz.sizeOf0
  v0 := Tryz.zeroValue0
  t2 := Tryz.underlying2
  a2 := Tryz.isAgg2
  z2 := Tryz.sizeOf2
  v2 := Tryz.zeroValue2
  t3 := Tryz.underlying3
  a3 := Tryz.isAgg3
  z3 := Tryz.sizeOf3
  v3 := Tryz.zeroValue3
  t4 := Tryz.underlying4
  a4 := Tryz.isAgg4
  z4 := Tryz.sizeOf4
  v4 := Tryz.zeroValue4
  t5 := Tryz.underlying5
  a5 := Tryz.isAgg5
  z5 := Tryz.sizeOf5
  v5 := Tryz.zeroValue5
  t9 := Tryz.underlying9
  a9 := Tryz.isAgg9
  z9 := Tryz.sizeOf9
  v9 := Tryz.zeroValue9
  t20 := Tryz.underlying20
  a20 := Tryz.isAgg20
  z20 := Tryz.sizeOf20
  v20 := Tryz.zeroValue20
  t37 := Tryz.underlying86
  a37 := Tryz.isAgg86
  z37 := Tryz.sizeOf86
  v37 := Tryz.zeroValue86
  t46 := Tryz.underlying138
  a46 := Tryz.isAgg138
  z46 := Tryz.sizeOf138
  v46 := Tryz.zeroValue138
  t51 := Tryz.underlying85
  a51 := Tryz.isAgg85
  z51 := Tryz.sizeOf85
  v51 := Tryz.zeroValue85
  t53 := Tryz.underlying137
  a53 := Tryz.isAgg137
  z53 := Tryz.sizeOf137
  v53 := Tryz.zeroValue137
  t171 := Tryz.underlying211
  a171 := Tryz.isAgg211
  z171 := Tryz.sizeOf211
  v171 := Tryz.zeroValue211
  t173 := Tryz.underlying214
  a173 := Tryz.isAgg214
  z173 := Tryz.sizeOf214
  v173 := Tryz.zeroValue214
  t212 := Tryz.underlying230
  a212 := Tryz.isAgg230
  z212 := Tryz.sizeOf230
  v212 := Tryz.zeroValue230
  t213 := Tryz.underlying231
  a213 := Tryz.isAgg231
  z213 := Tryz.sizeOf231
  t232 := Tryz.underlying237
  a232 := Tryz.isAgg237
  z232 := Tryz.sizeOf237
  v232 := Tryz.zeroValue237
  t233 := Tryz.underlying238
  a233 := Tryz.isAgg238
  z233 := Tryz.sizeOf238
  v233 := Tryz.zeroValue238
  g17 := by kernel_rfl
  g18 := by kernel_rfl
  g19 := by kernel_rfl
  i0 := by kernel_rfl
  i2 := by kernel_rfl
  i3 := by kernel_rfl
  i4 := by kernel_rfl
  i5 := by kernel_rfl
  i9 := by kernel_rfl
  i20 := by kernel_rfl
  i37 := by kernel_rfl
  i46 := by kernel_rfl
  i51 := by kernel_rfl
  i53 := by kernel_rfl
  i171 := by kernel_rfl
  i173 := by kernel_rfl
  i212 := by kernel_rfl
  i232 := by kernel_rfl
  i233 := by kernel_rfl
  m17 := by kernel_rfl
  m18 := by kernel_rfl
  m19 := by kernel_rfl }
open Go.RowKit Go.Sort Go.Lib in
theorem Tryz.strconv_Itoa (n : Int) (h0 : -9223372036854775808 ≤ n) (h1 : n ≤ 9223372036854775807) (w : World) (htab : Lib.TabIs Tryz.prog w "internal/strconv.uint64pow10" .u64 Lib.pow10Tab) :
    Calls Tryz.prog 32 #[.int .i64 n] w fun e w' => e = .returned (.string ⟨(Lib.itoa n).toArray⟩) ∧ ∃ k os, w' = grow (w.drewN k) os := Any.strconv_Itoa Tryz.laysM171 n h0 h1 w htab
end Go.Proofs
namespace Go.Proofs.YtphnoaihojccbaaGreatDoor
open Go Go.Av Go.RowKit
variable {G : Nat → AV}
theorem decDigits_eq (n : Nat) : Lib.decDigits n = decT n := by
  have key : ∀ n, n ≠ 0 → Lib.decDigits n = (digs n).reverse := by
    intro n
    induction n using Nat.strongRecOn with
    | _ n ih =>
      intro h0
      rw [Lib.decDigits, digs_step h0]
      by_cases h : n < 10
      · rw [dif_pos h]
        have : n / 10 = 0 := by omega
        rw [this, digs]
        simp
        congr 1; omega
      · rw [dif_neg h, ih (n / 10) (by omega) (by omega)]
        simp
  unfold decT
  by_cases h0 : n = 0
  · subst h0; rw [if_pos rfl, Lib.decDigits]; rfl
  · rw [if_neg h0, key n h0]
theorem libitoa_eq (n : Int) : Lib.itoa n = itoa n := by
  unfold Lib.itoa itoa
  split
  · rw [decDigits_eq]; rfl
  · rw [decDigits_eq]
    have : n.toNat = n.natAbs := by omega
    rw [this]; rfl
def powV : List Value := Lib.pow10Tab.map fun z => .int .u64 z
theorem itoa_pure (hp : G 2 = .tab powV) (n : Int) (h0 : -9223372036854775808 ≤ n) (h1 : n ≤ 9223372036854775807) : Pure Tryz.prog G 32 [.int .i64 n] (.str (itoa n)) := by
  refine Pure.of_calls (vals := [.int .i64 n]) (u := .string ⟨⟨itoa n⟩⟩) (by kernel_rfl) (fun K l h => ?_) (fun K => .str _) (fun K σ w hr => ?_)
  · match l, h with
    | [a], ⟨h1, _⟩ => rw [VR.int_iff] at h1; rw [h1]
  · have hg := hr.glob 2
    rw [hp] at hg
    have htab : Lib.TabIs Tryz.prog w "internal/strconv.uint64pow10" .u64 Lib.pow10Tab := by
      cases hg with
      | tab _ _ E fz hb hw =>
        have hblk := (hr.below.block _ hb).trans hw
        unfold Lib.TabIs World.var?
        rw [show Tryz.prog.globalNamed "internal/strconv.uint64pow10" = some 2 by kernel_rfl]
        simp [hblk, powV]
    refine (Tryz.strconv_Itoa n h0 h1 w htab).mono ?_
    rintro e w' ⟨he, k, os, hw⟩
    subst hw
    rw [libitoa_eq] at he
    exact ⟨he, Lib.below_grow _ _ (Nat.le_refl _) k os⟩
end Go.Proofs.YtphnoaihojccbaaGreatDoor
set_option maxRecDepth 20000
namespace Go.Proofs.YtphnoaihojccbaaGreatDoor
open Go Go.Av
def tbQuo2 := And.intro (And.intro (And.intro @tf3 (And.intro @tf4 @tf5)) (And.intro @tf9 (And.intro @tf86 @tf31))) (And.intro (And.intro @tf210 (And.intro @tf95 @tf93)) (And.intro @tf138 (And.intro @isv_byteA @flat_byteA)))
variable {G : Nat → AV}
/-- what the program's variables hold -/
structure Glob (G : Nat → AV) : Prop where
  words : G 0 = .rp (Proofs.YtphnoaihojccbaaGreatDoor.words.map AV.str)
theorem words_len : (words.map AV.str).length = 19 := rfl
theorem plainA_pure (hg : Glob G) (s : List UInt8) (hs : s.length ≤ 1000000000) : Pure Tryz.prog G 101 [.str s] (.bool (plainA s)) := by
  have hi := inner_pure G s hs
  have hc := contains_pure G words s (by decide)
  have hw := hg.words
  have h19 : rsk (some (19, 1)) (words.map AV.str) = some (texts words) := by
    show (if 19 = (words.map AV.str).length ∧ 19 ≤ maxLen then some (AV.sl .none (words.map AV.str) []) else none) = _
    exact if_pos ⟨words_len.symm, by unfold maxLen; decide⟩
  have ha : arrT Tryz.prog 210 = some (19, 1) := tf210.2.2.2.2.2.2
  have has : aslice Tryz.prog 210 (.rp (words.map AV.str)) none none = some (texts words) := by rw [aslice_rp, ha, h19]
  cases s with
  | nil =>
    intro σ
    clear hi hc
    refine Tri.of_awp mixed Tryz.func101 rfl (by kernel_rfl) (by kernel_rfl) (by simp [Tryz.ntmps101]) Tryz.results101 ?_
    repeat' (first | (with_reducible first | refine xa ?_ ?_ | refine xb ?_ ?_ | refine xc ?_ ?_ | refine xd ?_ ?_ | refine xe ?_ ?_) <;> intros | ((first | refine xh ?_ | refine xi ?_); intro bx hbx; (try simp only [fb] at hbx)) | refine xj ?_ | ((with_reducible refine And.intro ?_ ?_); omega) | refine bo_buildSlice (d' := ⟨⟩) ?_ | refine xk (by kernel_rfl) ?_ | refine xf ?_ (by repeat' first | exact lr _ | assumption | refine ls ?_ ?_ | refine lt ?_ ?_ | simp only [*]; done | exact lf ‹_› (by simp only [*])) | simp -dsimp only [↓bp, bq, br, seval, tbQuo2, *])
    all_goals rfl
  | cons c l =>
    have hp : plainA (c :: l) = (decide (97 ≤ c.toNat) && decide (c.toNat ≤ 122) && !words.contains (c :: l) && (c :: l).all innerC) := rfl
    have hx : (c :: l)[0]? = some c := rfl
    have hne : ¬ (c :: l) = [] := by simp
    rw [hp]
    generalize (c :: l) = s at *
    clear hp
    generalize words.contains s = wc at *
    generalize s.all innerC = si at *
    have e1 : ((97 : Int) ≤ c.toNat) ↔ 97 ≤ c.toNat := by omega
    have e2 : ((c.toNat : Int) ≤ 122) ↔ c.toNat ≤ 122 := by omega
    by_cases h1 : 97 ≤ c.toNat
    · have g1 : ¬ (c.toNat : Int) < 97 := by omega
      by_cases h2 : c.toNat ≤ 122
      · have g2 : ¬ (122 : Int) < c.toNat := by omega
        have q1 := decide_eq_true h1
        have q2 := decide_eq_true h2
        rw [q1, q2]
        clear h1 h2 e1 e2 q1 q2
        intro σ
        cases wc
        · refine Tri.of_awp mixed Tryz.func101 rfl (by kernel_rfl) (by kernel_rfl) (by simp [Tryz.ntmps101]) Tryz.results101 ?_
          repeat' (first | (with_reducible first | refine xa ?_ ?_ | refine xb ?_ ?_ | refine xc ?_ ?_ | refine xd ?_ ?_ | refine xe ?_ ?_) <;> intros | ((first | refine xh ?_ | refine xi ?_); intro bx hbx; (try simp only [fb] at hbx)) | refine Pure.use (hc) ?_ | refine Pure.head (hc) ?_ | refine Pure.use (hi) ?_ | refine Pure.head (hi) ?_ | refine xj ?_ | ((with_reducible refine And.intro ?_ ?_); omega) | refine bo_buildSlice (d' := ⟨⟩) ?_ | refine xk (by kernel_rfl) ?_ | refine xf ?_ (by repeat' first | exact lr _ | assumption | refine ls ?_ ?_ | refine lt ?_ ?_ | simp only [*]; done | exact lf ‹_› (by simp only [*])) | simp -dsimp only [↓bp, bq, br, seval, tbQuo2, *])
          all_goals rfl
        · refine Tri.of_awp mixed Tryz.func101 rfl (by kernel_rfl) (by kernel_rfl) (by simp [Tryz.ntmps101]) Tryz.results101 ?_
          repeat' (first | (with_reducible first | refine xa ?_ ?_ | refine xb ?_ ?_ | refine xc ?_ ?_ | refine xd ?_ ?_ | refine xe ?_ ?_) <;> intros | ((first | refine xh ?_ | refine xi ?_); intro bx hbx; (try simp only [fb] at hbx)) | refine Pure.use (hc) ?_ | refine Pure.head (hc) ?_ | refine Pure.use (hi) ?_ | refine Pure.head (hi) ?_ | refine xj ?_ | ((with_reducible refine And.intro ?_ ?_); omega) | refine bo_buildSlice (d' := ⟨⟩) ?_ | refine xk (by kernel_rfl) ?_ | refine xf ?_ (by repeat' first | exact lr _ | assumption | refine ls ?_ ?_ | refine lt ?_ ?_ | simp only [*]; done | exact lf ‹_› (by simp only [*])) | simp -dsimp only [↓bp, bq, br, seval, tbQuo2, *])
          all_goals rfl
      · have g2 : (122 : Int) < c.toNat := by omega
        have q2 := decide_eq_false h2
        rw [q2]
        simp only [Bool.and_false, Bool.false_and]
        clear h1 h2 e1 e2 q2
        intro σ
        refine Tri.of_awp mixed Tryz.func101 rfl (by kernel_rfl) (by kernel_rfl) (by simp [Tryz.ntmps101]) Tryz.results101 ?_
        repeat' (first | (with_reducible first | refine xa ?_ ?_ | refine xb ?_ ?_ | refine xc ?_ ?_ | refine xd ?_ ?_ | refine xe ?_ ?_) <;> intros | ((first | refine xh ?_ | refine xi ?_); intro bx hbx; (try simp only [fb] at hbx)) | refine Pure.use (hc) ?_ | refine Pure.head (hc) ?_ | refine Pure.use (hi) ?_ | refine Pure.head (hi) ?_ | refine xj ?_ | ((with_reducible refine And.intro ?_ ?_); omega) | refine bo_buildSlice (d' := ⟨⟩) ?_ | refine xk (by kernel_rfl) ?_ | refine xf ?_ (by repeat' first | exact lr _ | assumption | refine ls ?_ ?_ | refine lt ?_ ?_ | simp only [*]; done | exact lf ‹_› (by simp only [*])) | simp -dsimp only [↓bp, bq, br, seval, tbQuo2, *])
        all_goals rfl
    · have g1 : (c.toNat : Int) < 97 := by omega
      have q1 := decide_eq_false h1
      rw [q1]
      simp only [Bool.and_false, Bool.false_and]
      clear h1 e1 e2 q1
      intro σ
      refine Tri.of_awp mixed Tryz.func101 rfl (by kernel_rfl) (by kernel_rfl) (by simp [Tryz.ntmps101]) Tryz.results101 ?_
      repeat' (first | (with_reducible first | refine xa ?_ ?_ | refine xb ?_ ?_ | refine xc ?_ ?_ | refine xd ?_ ?_ | refine xe ?_ ?_) <;> intros | ((first | refine xh ?_ | refine xi ?_); intro bx hbx; (try simp only [fb] at hbx)) | refine Pure.use (hc) ?_ | refine Pure.head (hc) ?_ | refine Pure.use (hi) ?_ | refine Pure.head (hi) ?_ | refine xj ?_ | ((with_reducible refine And.intro ?_ ?_); omega) | refine bo_buildSlice (d' := ⟨⟩) ?_ | refine xk (by kernel_rfl) ?_ | refine xf ?_ (by repeat' first | exact lr _ | assumption | refine ls ?_ ?_ | refine lt ?_ ?_ | simp only [*]; done | exact lf ‹_› (by simp only [*])) | simp -dsimp only [↓bp, bq, br, seval, tbQuo2, *])
      all_goals rfl
theorem wb {σ0 σ : AS} {b : Nat} {xs : List UInt8} (h : Bl σ0 σ b xs) (hl : xs.length ≤ 1000000000) (c : UInt8) (n : Int) (hn : n = c.toNat) :
    Tri Tryz.prog G 98 [.ptr b 0, .int .u8 n] σ fun r σ' => Bl σ0 σ' b (xs ++ [c]) := by subst hn; exact writeByte_tri G h hl c
def hexT : List UInt8 := [48, 49, 50, 51, 52, 53, 54, 55, 56, 57, 97, 98, 99, 100, 101, 102]
theorem hex_at : ∀ k, k < 16 → hexT[k]? = some (hexD k) := by decide
theorem fdiv16 (c : UInt8) : ((c.toNat : Int).fdiv (2 ^ min 4 IntKind.u8.bits)) = ((c.toNat / 16 : Nat) : Int) := by
  have : ((2 : Int) ^ min 4 IntKind.u8.bits) = ((16 : Nat) : Int) := by decide
  rw [this, Int.fdiv_eq_ediv_of_nonneg _ (by omega)]; rfl
theorem and15 (c : UInt8) : IntKind.u8.wrap ((BitVec.ofInt IntKind.u8.bits (c.toNat : Int) &&& BitVec.ofInt IntKind.u8.bits 15).toNat : Int) = ((c.toNat % 16 : Nat) : Int) := by
  have hb : IntKind.u8.bits = 8 := rfl
  have hc := c.toNat_lt
  rw [hb, BitVec.toNat_and, BitVec.toNat_ofInt, BitVec.toNat_ofInt]
  have e1 : ((c.toNat : Int) % ((2 ^ 8 : Nat) : Int)).toNat = c.toNat := by omega
  have e2 : ((15 : Int) % ((2 ^ 8 : Nat) : Int)).toNat = 15 := by decide
  rw [e1, e2, show (15 : Nat) = 2 ^ 4 - 1 by decide, Nat.and_two_pow_sub_one_eq_mod, IntKind.wrap_u8]
  omega
end Go.Proofs.YtphnoaihojccbaaGreatDoor
set_option maxRecDepth 20000
namespace Go.Proofs.YtphnoaihojccbaaGreatDoor
open Go Go.Av
def tbQuo3 := And.intro (And.intro (And.intro @tf3 @tf4) (And.intro @tf5 (And.intro @tf9 @tf86))) (And.intro (And.intro @tf95 @tf93) (And.intro @tf138 (And.intro @isv_byteA @flat_byteA)))
variable {G : Nat → AV}
theorem quoC_len (c : UInt8) : (quoC c).length ≤ 4 := by
  unfold quoC; repeat' split
  all_goals simp
theorem quoCs_len (s : List UInt8) : (s.flatMap quoC).length ≤ 4 * s.length := by
  induction s with
  | nil => simp
  | cons c s ih => have := quoC_len c; simp only [List.flatMap_cons, List.length_append, List.length_cons]; omega
set_option maxHeartbeats 1000000 in
theorem quoted_pure (s : List UInt8) (hs : s.length ≤ 100000000) : Pure Tryz.prog G 102 [.str s] (.str (quoted s)) := by
  intro σ
  have hml : s.length ≤ maxLen := by unfold maxLen; omega
  refine Tri.of_awp mixed Tryz.func102 rfl (by kernel_rfl) (by kernel_rfl) (by simp [Tryz.ntmps102]) Tryz.results102 ?_
  simp -dsimp only [↓bp, bq, br, seval, tbQuo3]
  refine newT_ty (fun b hb => ?_)
  have hB0 : Bl σ ((σ.setBox b [.nilptr, .nil]).setTy b (95, 2)) b [] := Bld.start (AS.le.refl σ) hb
  simp only [List.length_cons, List.length_nil, Nat.zero_add, Nat.reduceAdd]
  generalize (σ.setBox b [.nilptr, .nil]).setTy b (95, 2) = σ0 at *
  repeat' (first | (with_reducible first | refine xa ?_ ?_ | refine xb ?_ ?_ | refine xc ?_ ?_ | refine xd ?_ ?_ | refine xe ?_ ?_) <;> intros | ((first | refine xh ?_ | refine xi ?_); intro bx hbx; (try simp only [fb] at hbx)) | ((refine Tri.mono (wb hB0 (by simp) 39 39 rfl) ?_; rintro r s1 hB1)) | refine xj ?_ | ((with_reducible refine And.intro ?_ ?_); omega) | refine bo_buildSlice (d' := ⟨⟩) ?_ | refine xk (by kernel_rfl) ?_ | refine xf ?_ (by repeat' first | exact lr _ | assumption | refine ls ?_ ?_ | refine lt ?_ ?_ | simp only [*]; done | exact lf ‹_› (by simp only [*])) | simp -dsimp only [↓bp, bq, br, seval, tbQuo3, hml, *])
  refine loop_intro (fun n e σ' => ∃ i : Nat, i ≤ s.length ∧ n = s.length - i ∧ e 10 = .int .i64 i ∧ Bl σ σ' b (39 :: (s.take i).flatMap quoC)) s.length ⟨0, by omega, by omega, by first | (simp -dsimp only [↓bp, bq, br, seval, tbQuo3]; done) | (simp -dsimp only [↓bp, bq, br, seval, tbQuo3]; try rfl), by simpa using hB1⟩ ?_
  rintro n v σ' ⟨i, hi, rfl, h10, hB⟩
  simp -dsimp only [↓bp, bq, br, seval, tbQuo3] at h10
  by_cases hlt : (i : Int) < s.length
  · obtain ⟨c, hc⟩ : ∃ c, s[i]? = some c := ⟨_, List.getElem?_eq_getElem (by omega)⟩
    have hts : (s.take (i + 1)).flatMap quoC = (s.take i).flatMap quoC ++ quoC c := by rw [take_succ_get _ _ _ hc, List.flatMap_append]; simp
    have hq := quoCs_len (s.take i)
    have hti : (s.take i).length = i := by rw [List.length_take]; omega
    have hlen : (39 :: (s.take i).flatMap quoC).length ≤ 500000000 := by simp only [List.length_cons]; omega
    have hw : IntKind.i64.wrap ((i : Int) + 1) = ((i + 1 : Nat) : Int) := by rw [wrap_nat (by omega) (by omega)]; rfl
    have hnext : ∀ s2 : AS, Bl σ s2 b (39 :: (s.take i).flatMap quoC ++ quoC c) → ∃ m, m < s.length - i ∧ ∃ i_1, i_1 ≤ s.length ∧ m = s.length - i_1 ∧ AV.int .i64 ((i + 1 : Nat) : Int) = .int .i64 i_1 ∧ Bl σ s2 b (39 :: (s.take i_1).flatMap quoC) := fun s2 h2 =>
      ⟨s.length - (i + 1), by omega, i + 1, by omega, rfl, rfl, by rw [hts]; simpa using h2⟩
    clear hts hq hti hi
    generalize 39 :: (s.take i).flatMap quoC = out at *
    by_cases k1 : c.toNat = 39 ∨ c.toNat = 92
    · have hqc : quoC c = [92] ++ [c] := by unfold quoC; rw [if_pos k1]; rfl
      rw [hqc] at hnext
      have k1' : (c.toNat : Int) = 39 ∨ (c.toNat : Int) = 92 := by omega
      clear hqc k1
      rcases k1' with k1' | k1'
      · have kk := eq_true k1'
        clear k1'
        repeat' (first | (with_reducible first | refine xa ?_ ?_ | refine xb ?_ ?_ | refine xc ?_ ?_ | refine xd ?_ ?_ | refine xe ?_ ?_) <;> intros | ((first | refine xh ?_ | refine xi ?_); intro bx hbx; (try simp only [fb] at hbx)) | ((refine Tri.mono (wb hB (by omega) 92 92 rfl) ?_; rintro r s1 hBB)) | ((refine Tri.mono (wb hBB (by simp; omega) c _ rfl) ?_; rintro r s2 hB2)) | refine xj ?_ | ((with_reducible refine And.intro ?_ ?_); omega) | refine bo_buildSlice (d' := ⟨⟩) ?_ | refine xk (by kernel_rfl) ?_ | refine xf ?_ (by repeat' first | exact lr _ | assumption | refine ls ?_ ?_ | refine lt ?_ ?_ | simp only [*]; done | exact lf ‹_› (by simp only [*])) | simp -dsimp only [↓bp, bq, br, seval, tbQuo3, hw, *])
        all_goals exact hnext _ (by simpa using hB2)
      · have kk := eq_true k1'
        have kk2 := eq_false (show ¬ (c.toNat : Int) = 39 by omega)
        clear k1'
        repeat' (first | (with_reducible first | refine xa ?_ ?_ | refine xb ?_ ?_ | refine xc ?_ ?_ | refine xd ?_ ?_ | refine xe ?_ ?_) <;> intros | ((first | refine xh ?_ | refine xi ?_); intro bx hbx; (try simp only [fb] at hbx)) | ((refine Tri.mono (wb hB (by omega) 92 92 rfl) ?_; rintro r s1 hBB)) | ((refine Tri.mono (wb hBB (by simp; omega) c _ rfl) ?_; rintro r s2 hB2)) | refine xj ?_ | ((with_reducible refine And.intro ?_ ?_); omega) | refine bo_buildSlice (d' := ⟨⟩) ?_ | refine xk (by kernel_rfl) ?_ | refine xf ?_ (by repeat' first | exact lr _ | assumption | refine ls ?_ ?_ | refine lt ?_ ?_ | simp only [*]; done | exact lf ‹_› (by simp only [*])) | simp -dsimp only [↓bp, bq, br, seval, tbQuo3, hw, *])
        all_goals exact hnext _ (by simpa using hB2)
    · have j1 := eq_false (show ¬ (c.toNat : Int) = 39 by omega)
      have j2 := eq_false (show ¬ (c.toNat : Int) = 92 by omega)
      by_cases k2 : c.toNat = 10
      · have hqc : quoC c = [92, 110] := by unfold quoC; rw [if_neg k1, if_pos k2]
        rw [hqc] at hnext
        have j3 := eq_true (show (c.toNat : Int) = 10 by omega)
        clear hqc k1 k2
        repeat' (first | (with_reducible first | refine xa ?_ ?_ | refine xb ?_ ?_ | refine xc ?_ ?_ | refine xd ?_ ?_ | refine xe ?_ ?_) <;> intros | ((first | refine xh ?_ | refine xi ?_); intro bx hbx; (try simp only [fb] at hbx)) | ((refine Tri.mono (writeString_tri _ hB [92, 110] (by simp; omega)) ?_; rintro r s2 hB2)) | refine xj ?_ | ((with_reducible refine And.intro ?_ ?_); omega) | refine bo_buildSlice (d' := ⟨⟩) ?_ | refine xk (by kernel_rfl) ?_ | refine xf ?_ (by repeat' first | exact lr _ | assumption | refine ls ?_ ?_ | refine lt ?_ ?_ | simp only [*]; done | exact lf ‹_› (by simp only [*])) | simp -dsimp only [↓bp, bq, br, seval, tbQuo3, hw, *])
        all_goals exact hnext _ (by simpa using hB2)
      · have j3 := eq_false (show ¬ (c.toNat : Int) = 10 by omega)
        by_cases k3 : c.toNat < 32 ∨ 126 < c.toNat
        · have hqc : quoC c = [92, 120] ++ [hexD (c.toNat / 16)] ++ [hexD (c.toNat % 16)] := by unfold quoC; rw [if_neg k1, if_neg k2, if_pos k3]; rfl
          rw [hqc] at hnext
          have hcl := c.toNat_lt
          have hx1 := hex_at (c.toNat / 16) (by omega)
          have hx2 := hex_at (c.toNat % 16) (by omega)
          unfold hexT at hx1 hx2
          have f1 := fdiv16 c
          have f2 := and15 c
          have hn1 : (0 : Int) ≤ ((c.toNat / 16 : Nat) : Int) := Int.natCast_nonneg _
          have hn2 : (0 : Int) ≤ ((c.toNat % 16 : Nat) : Int) := Int.natCast_nonneg _
          generalize c.toNat / 16 = d1 at *
          generalize c.toNat % 16 = d2 at *
          have k3' : (c.toNat : Int) < 32 ∨ ¬ (c.toNat : Int) < 32 ∧ 126 < (c.toNat : Int) := by omega
          clear hqc k1 k2 k3 hcl
          rcases k3' with k3 | ⟨k3, k4⟩
          · have k3 := eq_true k3
            repeat' (first | (with_reducible first | refine xa ?_ ?_ | refine xb ?_ ?_ | refine xc ?_ ?_ | refine xd ?_ ?_ | refine xe ?_ ?_) <;> intros | ((first | refine xh ?_ | refine xi ?_); intro bx hbx; (try simp only [fb] at hbx)) | ((refine Tri.mono (writeString_tri _ hB [92, 120] (by simp; omega)) ?_; rintro r s2 hB2)) | ((refine Tri.mono (wb hB2 (by simp; omega) (hexD d1) _ rfl) ?_; rintro r s3 hB3)) | ((refine Tri.mono (wb hB3 (by simp; omega) (hexD d2) _ rfl) ?_; rintro r s4 hB4)) | refine xj ?_ | ((with_reducible refine And.intro ?_ ?_); omega) | refine bo_buildSlice (d' := ⟨⟩) ?_ | refine xk (by kernel_rfl) ?_ | refine xf ?_ (by repeat' first | exact lr _ | assumption | refine ls ?_ ?_ | refine lt ?_ ?_ | simp only [*]; done | exact lf ‹_› (by simp only [*])) | simp -dsimp only [↓bp, bq, br, seval, tbQuo3, hw, *])
            all_goals exact hnext _ (by simpa using hB4)
          · have k3 := eq_false k3
            repeat' (first | (with_reducible first | refine xa ?_ ?_ | refine xb ?_ ?_ | refine xc ?_ ?_ | refine xd ?_ ?_ | refine xe ?_ ?_) <;> intros | ((first | refine xh ?_ | refine xi ?_); intro bx hbx; (try simp only [fb] at hbx)) | ((refine Tri.mono (writeString_tri _ hB [92, 120] (by simp; omega)) ?_; rintro r s2 hB2)) | ((refine Tri.mono (wb hB2 (by simp; omega) (hexD d1) _ rfl) ?_; rintro r s3 hB3)) | ((refine Tri.mono (wb hB3 (by simp; omega) (hexD d2) _ rfl) ?_; rintro r s4 hB4)) | refine xj ?_ | ((with_reducible refine And.intro ?_ ?_); omega) | refine bo_buildSlice (d' := ⟨⟩) ?_ | refine xk (by kernel_rfl) ?_ | refine xf ?_ (by repeat' first | exact lr _ | assumption | refine ls ?_ ?_ | refine lt ?_ ?_ | simp only [*]; done | exact lf ‹_› (by simp only [*])) | simp -dsimp only [↓bp, bq, br, seval, tbQuo3, hw, *])
            all_goals exact hnext _ (by simpa using hB4)
        · have hqc : quoC c = [c] := by unfold quoC; rw [if_neg k1, if_neg k2, if_neg k3]
          rw [hqc] at hnext
          have j4 := eq_false (show ¬ (c.toNat : Int) < 32 by omega)
          have j5 := eq_false (show ¬ (126 : Int) < c.toNat by omega)
          clear hqc k1 k2 k3
          repeat' (first | (with_reducible first | refine xa ?_ ?_ | refine xb ?_ ?_ | refine xc ?_ ?_ | refine xd ?_ ?_ | refine xe ?_ ?_) <;> intros | ((first | refine xh ?_ | refine xi ?_); intro bx hbx; (try simp only [fb] at hbx)) | ((refine Tri.mono (wb hB (by omega) c _ rfl) ?_; rintro r s2 hB2)) | refine xj ?_ | ((with_reducible refine And.intro ?_ ?_); omega) | refine bo_buildSlice (d' := ⟨⟩) ?_ | refine xk (by kernel_rfl) ?_ | refine xf ?_ (by repeat' first | exact lr _ | assumption | refine ls ?_ ?_ | refine lt ?_ ?_ | simp only [*]; done | exact lf ‹_› (by simp only [*])) | simp -dsimp only [↓bp, bq, br, seval, tbQuo3, hw, *])
          all_goals exact hnext _ (by simpa using hB2)
  · have : i = s.length := by omega
    subst this
    rw [List.take_length] at hB
    have hq := quoCs_len s
    clear hi
    repeat' (first | (with_reducible first | refine xa ?_ ?_ | refine xb ?_ ?_ | refine xc ?_ ?_ | refine xd ?_ ?_ | refine xe ?_ ?_) <;> intros | ((first | refine xh ?_ | refine xi ?_); intro bx hbx; (try simp only [fb] at hbx)) | ((refine Tri.mono (wb hB (by simp only [List.length_cons]; omega) 39 39 rfl) ?_; rintro r s1 hBB)) | ((refine Tri.mono (string_tri _ hBB (by simp only [List.length_append, List.length_cons, List.length_nil]; omega)) ?_; rintro r s2 ⟨rfl, rfl⟩)) | refine xj ?_ | ((with_reducible refine And.intro ?_ ?_); omega) | refine bo_buildSlice (d' := ⟨⟩) ?_ | refine xk (by kernel_rfl) ?_ | refine xf ?_ (by repeat' first | exact lr _ | assumption | refine ls ?_ ?_ | refine lt ?_ ?_ | simp only [*]; done | exact lf ‹_› (by simp only [*])) | simp -dsimp only [↓bp, bq, br, seval, tbQuo3, *])
    all_goals simp [quoted]
end Go.Proofs.YtphnoaihojccbaaGreatDoor
set_option maxRecDepth 20000
namespace Go.Proofs.YtphnoaihojccbaaGreatDoor
open Go Go.Av
variable (G : Nat → AV)
def ints (l : List Int) : AV := .sl .none (l.map fun n => .int .i64 n) []
end Go.Proofs.YtphnoaihojccbaaGreatDoor
set_option maxRecDepth 20000
namespace Go.Proofs.YtphnoaihojccbaaGreatDoor
open Go Go.Av
variable (G : Nat → AV)
end Go.Proofs.YtphnoaihojccbaaGreatDoor
