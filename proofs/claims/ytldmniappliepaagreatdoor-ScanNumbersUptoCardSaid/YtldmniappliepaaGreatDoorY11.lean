/- The tokens of a source, on bytes: what is to be told. -/
import Derived.Test.YtldmniappliepaaGreatDoorY09
import Derived.Test.YtldmniappliepaaGreatDoorY10
import Derived.Shelf.Strings.BuilderX
import Derived.Lib.Strings
import Derived.Lib.Slices
import Derived.Lib.Walk
import Derived.Lib.Builder
import Derived.Lib.AppendStr
import Derived.Lib.UnsafeStr
import Derived.Lib.MakeNoZero
import Derived.Laws.Externs
import Derived.Test.YtldmniappliepaaGreatDoorChecked
import Derived.KernelRfl
import Derived.Laws.Tables
set_option linter.unusedVariables false
set_option linter.unusedSimpArgs false
set_option linter.defProp false
namespace Go.Proofs.YtldmniappliepaaGreatDoor
open Go
def lowB (c : UInt8) : Bool := decide ((97 : Int) ≤ c.toNat) && decide ((c.toNat : Int) ≤ 122)
def highB (c : UInt8) : Bool := decide ((65 : Int) ≤ c.toNat) && decide ((c.toNat : Int) ≤ 90) || decide ((c.toNat : Int) = 95)
def digitB (c : UInt8) : Bool := decide ((48 : Int) ≤ c.toNat) && decide ((c.toNat : Int) ≤ 57)
def namedB (c : UInt8) : Bool := lowB c || highB c || digitB c || decide ((c.toNat : Int) = 64)
def hexB (c : UInt8) : Bool := digitB c || decide ((97 : Int) ≤ c.toNat) && decide ((c.toNat : Int) ≤ 102) || decide ((65 : Int) ≤ c.toNat) && decide ((c.toNat : Int) ≤ 70)
def hexV (c : UInt8) : Nat := if digitB c then c.toNat - 48 else if 97 ≤ c.toNat then c.toNat - 87 else c.toNat - 55
def blankB (c : UInt8) : Bool := c = 32 || c = 9 || c = 13 || c = 10
def escB (e : UInt8) : Option UInt8 := if e = 110 then some 10 else if e = 116 then some 9 else if e = 92 ∨ e = 39 ∨ e = 34 then some e else none
def qscan (q : UInt8) : List UInt8 → Option (List UInt8 × Nat)
  | [] => none
  | c :: r =>
    if c = q then some ([], 1)
    else if c.toNat < 32 then none
    else if c = 92 then match r with
      | [] => none
      | e :: r1 => match escB e with
        | some b => (qscan q r1).map fun p => (b :: p.1, p.2 + 2)
        | none => if e = 120 then match r1 with
            | h :: l :: r2 => if hexB h && hexB l then (qscan q r2).map fun p => (UInt8.ofNat (16 * hexV h + hexV l) :: p.1, p.2 + 4) else none
            | _ => none
          else none
    else (qscan q r).map fun p => (c :: p.1, p.2 + 1)
def scanWords : List (List UInt8) := [[97, 102, 116, 101, 114], [97, 110, 100], [97, 110, 100, 97, 108, 115, 111], [98, 101, 103, 105, 110], [99, 97, 115, 101], [100, 105, 118], [101, 110, 100], [102, 117, 110], [105, 102], [110, 111, 116], [111, 102], [111, 114], [111, 114, 101, 108, 115, 101], [114, 101, 99, 101, 105, 118, 101], [114, 101, 109], [116, 114, 121], [99, 97, 116, 99, 104], [119, 104, 101, 110], [120, 111, 114]]
def scanSigns : List (List UInt8) := [[61, 58, 61], [61, 47, 61], [45, 62], [60, 45], [124, 124], [61, 61], [47, 61], [61, 60], [62, 61], [43, 43], [45, 45], [40], [41], [123], [125], [91], [93], [44], [59], [58], [124], [61], [60], [62], [43], [45], [42], [47], [33]]
inductive Tk where
  | tok (k : Nat) (t : List UInt8) (n : Nat)
  | err (e : Nat)
deriving DecidableEq
def qMost (c : UInt8) : Nat := if c = 34 then 400 else 40
def qKind (c : UInt8) : Nat := if c = 34 then 4 else 2
def tokS : List UInt8 → Tk
  | [] => .err 200
  | c :: r =>
    if lowB c || highB c then
      if 40 < ((c :: r).takeWhile namedB).length then .err 201
      else .tok (if highB c then 3 else if scanWords.contains ((c :: r).takeWhile namedB) then 6 else 2) ((c :: r).takeWhile namedB) ((c :: r).takeWhile namedB).length
    else if digitB c then
      if 400 < ((c :: r).takeWhile digitB).length ∨ ((c :: r).takeWhile digitB).length < ((c :: r).takeWhile namedB).length then .err 201
      else .tok 1 ((c :: r).takeWhile digitB) ((c :: r).takeWhile digitB).length
    else if c = 39 ∨ c = 34 then match qscan c r with
      | none => .err 201
      | some p => if qMost c < p.1.length then .err 201 else .tok (qKind c) p.1 (p.2 + 1)
    else if c = 46 then match r with
      | [] => .tok 7 [46] 1
      | d :: _ => if d = 32 ∨ d = 9 ∨ d = 13 ∨ d = 10 ∨ d = 37 then .tok 7 [46] 1 else .err 200
    else match scanSigns.find? (fun g => g.isPrefixOf (c :: r)) with
      | some g => .tok 5 g g.length
      | none => .err 200
theorem tokS_cons (c : UInt8) (r : List UInt8) : tokS (c :: r) = (if lowB c || highB c then
      if 40 < ((c :: r).takeWhile namedB).length then .err 201
      else .tok (if highB c then 3 else if scanWords.contains ((c :: r).takeWhile namedB) then 6 else 2) ((c :: r).takeWhile namedB) ((c :: r).takeWhile namedB).length
    else if digitB c then
      if 400 < ((c :: r).takeWhile digitB).length ∨ ((c :: r).takeWhile digitB).length < ((c :: r).takeWhile namedB).length then .err 201
      else .tok 1 ((c :: r).takeWhile digitB) ((c :: r).takeWhile digitB).length
    else if c = 39 ∨ c = 34 then match qscan c r with
      | none => .err 201
      | some p => if qMost c < p.1.length then .err 201 else .tok (qKind c) p.1 (p.2 + 1)
    else if c = 46 then match r with
      | [] => .tok 7 [46] 1
      | d :: _ => if d = 32 ∨ d = 9 ∨ d = 13 ∨ d = 10 ∨ d = 37 then .tok 7 [46] 1 else .err 200
    else match scanSigns.find? (fun g => g.isPrefixOf (c :: r)) with
      | some g => .tok 5 g g.length
      | none => .err 200) := rfl
structure Tok where
  kind : Nat
  text : List UInt8
  pos : Nat
deriving DecidableEq
inductive Tks where
  | ok (l : List Tok)
  | bad (e : Nat) (pos : Nat)
deriving DecidableEq
def Tks.pre (l : List Tok) : Tks → Tks
  | .ok m => .ok (l ++ m)
  | .bad e p => .bad e p
theorem Tks.pre_nil (x : Tks) : x.pre [] = x := by cases x <;> simp [Tks.pre]
theorem Tks.pre_pre (l m : List Tok) (x : Tks) : (x.pre m).pre l = x.pre (l ++ m) := by cases x <;> simp [Tks.pre]
def notNL (c : UInt8) : Bool := !(c == 10)
def toksF : Nat → Nat → List UInt8 → Tks
  | 0, _, _ => .ok []
  | _ + 1, _, [] => .ok []
  | f + 1, pos, c :: r =>
    if blankB c then toksF f (pos + 1) r
    else if c = 37 then toksF f (pos + ((c :: r).takeWhile notNL).length) ((c :: r).drop ((c :: r).takeWhile notNL).length)
    else match tokS (c :: r) with
      | .err e => .bad e pos
      | .tok k t n => (toksF f (pos + n) ((c :: r).drop n)).pre [⟨k, t, pos⟩]
def lexAt (pos : Nat) (s : List UInt8) : Tks := toksF s.length pos s
def scanT (s : List UInt8) : Tks :=
  if 65536 < s.length then .bad 3 0
  else match lexAt 0 s with
    | .ok l => .ok (l ++ [⟨8, [], s.length⟩])
    | .bad e p => .bad e p
theorem qscan_cons (q c : UInt8) (r : List UInt8) : qscan q (c :: r) = (if c = q then some ([], 1)
    else if c.toNat < 32 then none
    else if c = 92 then match r with
      | [] => none
      | e :: r1 => match escB e with
        | some b => (qscan q r1).map fun p => (b :: p.1, p.2 + 2)
        | none => if e = 120 then match r1 with
            | h :: l :: r2 => if hexB h && hexB l then (qscan q r2).map fun p => (UInt8.ofNat (16 * hexV h + hexV l) :: p.1, p.2 + 4) else none
            | _ => none
          else none
    else (qscan q r).map fun p => (c :: p.1, p.2 + 1)) := by
  rw [qscan.eq_def]
theorem qscan_len (q : UInt8) : ∀ (m : Nat) (s : List UInt8), s.length ≤ m → ∀ p, qscan q s = some p → 0 < p.2 ∧ p.2 ≤ s.length ∧ p.1.length < p.2 := by
  intro m
  induction m with
  | zero => intro s hs p hp; cases s with | nil => simp [qscan] at hp | cons c r => simp at hs
  | succ m ih =>
    intro s hs p hp
    match s, hs, hp with
    | [], _, hp => simp [qscan] at hp
    | c :: r, hs, hp =>
      rw [qscan_cons] at hp
      simp only [List.length_cons] at hs ⊢
      split at hp
      · cases hp; simp
      split at hp
      · cases hp
      split at hp
      · split at hp
        · cases hp
        · rename_i e r1
          simp only [List.length_cons] at hs ⊢
          split at hp
          · rw [Option.map_eq_some_iff] at hp
            obtain ⟨x, hx, rfl⟩ := hp
            have := ih _ (by omega) x hx
            simp only [List.length_cons]; omega
          · split at hp
            · split at hp
              · simp only [List.length_cons] at hs ⊢
                split at hp
                · rw [Option.map_eq_some_iff] at hp
                  obtain ⟨x, hx, rfl⟩ := hp
                  have := ih _ (by omega) x hx
                  simp only [List.length_cons]; omega
                · cases hp
              · cases hp
            · cases hp
      · rw [Option.map_eq_some_iff] at hp
        obtain ⟨x, hx, rfl⟩ := hp
        have := ih _ (by omega) x hx
        simp only [List.length_cons]; omega
theorem takeWhile_len {p : UInt8 → Bool} (s : List UInt8) : (s.takeWhile p).length ≤ s.length := (List.takeWhile_prefix p).length_le
theorem takeWhile_pos {p : UInt8 → Bool} {c : UInt8} (r : List UInt8) (h : p c = true) : 0 < ((c :: r).takeWhile p).length := by
  rw [List.takeWhile_cons, if_pos h]; simp
theorem signs_pos : ∀ g, g ∈ scanSigns → 0 < g.length ∧ g.length ≤ 3 := by decide
theorem tokS_len {s : List UInt8} {k n : Nat} {t : List UInt8} (h : tokS s = .tok k t n) : 0 < n ∧ n ≤ s.length ∧ t.length ≤ n := by
  unfold tokS at h
  split at h
  · cases h
  rename_i c r
  have hw := takeWhile_len (p := namedB) (c :: r)
  have hd := takeWhile_len (p := digitB) (c :: r)
  split at h
  · rename_i hc
    split at h
    · cases h
    · cases h
      refine ⟨takeWhile_pos r ?_, hw, Nat.le_refl _⟩
      unfold namedB
      simp only [Bool.or_eq_true] at hc ⊢
      exact .inl (.inl hc)
  split at h
  · rename_i hc
    split at h
    · cases h
    · cases h
      exact ⟨takeWhile_pos r hc, hd, Nat.le_refl _⟩
  split at h
  · split at h
    · cases h
    · rename_i p hp
      split at h
      · cases h
      · cases h
        have := qscan_len c r.length r (Nat.le_refl _) p hp
        simp only [List.length_cons]; omega
  split at h
  · split at h
    · cases h; simp
    · split at h
      · cases h; simp
      · cases h
  split at h
  · rename_i g hg
    injection h with _ h4 h5
    subst h4 h5
    have h1 := List.mem_of_find?_eq_some hg
    have h2 := List.find?_some hg
    have h3 := (List.isPrefixOf_iff_prefix.1 h2).length_le
    exact ⟨(signs_pos g h1).1, h3, Nat.le_refl _⟩
  · cases h
theorem toksF_two : ∀ (f g : Nat) (pos : Nat) (s : List UInt8), s.length ≤ f → s.length ≤ g → toksF f pos s = toksF g pos s := by
  intro f
  induction f with
  | zero =>
    intro g pos s hs _
    cases s with
    | nil => cases g <;> rfl
    | cons c r => simp at hs
  | succ f ih =>
    intro g pos s hs hg
    match s, hs, hg with
    | [], _, _ => cases g <;> rfl
    | c :: r, hs, hg =>
      match g, hg with
      | 0, hg => simp at hg
      | g + 1, hg =>
        simp only [List.length_cons] at hs hg
        simp only [toksF]
        split
        · exact ih g _ _ (by omega) (by omega)
        split
        · rename_i hc
          have h1 : 0 < ((c :: r).takeWhile notNL).length := takeWhile_pos r (by subst hc; decide)
          have h2 : ((c :: r).drop ((c :: r).takeWhile notNL).length).length ≤ r.length := by rw [List.length_drop, List.length_cons]; omega
          exact ih g _ _ (by omega) (by omega)
        · split
          · rfl
          · rename_i k t n hk
            have h0 := tokS_len hk
            have h2 : ((c :: r).drop n).length ≤ r.length := by rw [List.length_drop, List.length_cons]; omega
            rw [ih g _ _ (by omega) (by omega)]
theorem lexAt_nil (pos : Nat) : lexAt pos [] = .ok [] := rfl
theorem lexAt_blank {pos : Nat} {c : UInt8} {r : List UInt8} (h : blankB c = true) : lexAt pos (c :: r) = lexAt (pos + 1) r := by
  unfold lexAt
  rw [List.length_cons, toksF, if_pos h]
theorem lexAt_note {pos : Nat} {r : List UInt8} : lexAt pos (37 :: r) = lexAt (pos + ((37 :: r).takeWhile notNL).length) ((37 :: r).drop ((37 :: r).takeWhile notNL).length) := by
  have h1 : 0 < (((37 : UInt8) :: r).takeWhile notNL).length := takeWhile_pos r (by decide)
  have e : lexAt pos (37 :: r) = toksF r.length (pos + ((37 :: r).takeWhile notNL).length) ((37 :: r).drop ((37 :: r).takeWhile notNL).length) := by
    unfold lexAt
    rw [List.length_cons, toksF, if_neg (by decide), if_pos rfl]
  rw [e]
  exact toksF_two _ _ _ _ (by rw [List.length_drop, List.length_cons]; omega) (Nat.le_refl _)
theorem lexAt_tok {pos : Nat} {c : UInt8} {r : List UInt8} {k n : Nat} {t : List UInt8} (h1 : blankB c = false) (h2 : c ≠ 37) (h : tokS (c :: r) = .tok k t n) : lexAt pos (c :: r) = (lexAt (pos + n) ((c :: r).drop n)).pre [⟨k, t, pos⟩] := by
  have h0 := tokS_len h
  have e : lexAt pos (c :: r) = (toksF r.length (pos + n) ((c :: r).drop n)).pre [⟨k, t, pos⟩] := by
    unfold lexAt
    rw [List.length_cons, toksF, if_neg (by rw [h1]; simp), if_neg h2, h]
  rw [e, toksF_two r.length _ _ _ (by rw [List.length_drop, List.length_cons]; omega) (Nat.le_refl _)]
  rfl
theorem lexAt_err {pos : Nat} {c : UInt8} {r : List UInt8} {e : Nat} (h1 : blankB c = false) (h2 : c ≠ 37) (h : tokS (c :: r) = .err e) : lexAt pos (c :: r) = .bad e pos := by
  unfold lexAt
  rw [List.length_cons, toksF, if_neg (by rw [h1]; simp), if_neg h2, h]
end Go.Proofs.YtldmniappliepaaGreatDoor
set_option maxRecDepth 20000
namespace Go.Proofs.YtldmniappliepaaGreatDoor
open Go Go.Av
def tbScnD := And.intro (And.intro (And.intro @tf3 @tf4) (And.intro @tf5 (And.intro @tf9 @tf43))) (And.intro (And.intro @tf23 (And.intro @tf41 @isv_rowOf)) (And.intro @flat_rowOf (And.intro @len_rowOf @ix_rowOf)))
variable (G : Nat → AV)
def Tok.enc (x : Tok) : AV := .agg [.int .u8 x.kind, .str x.text, .int .i64 x.pos]
theorem Tok.flat_enc (x : Tok) : flat x.enc = [.int .u8 x.kind, .str x.text, .int .i64 x.pos] := by simp only [Tok.enc, flat]
theorem Tok.isv_enc (x : Tok) : isv x.enc = true := by simp only [Tok.enc, isv]
theorem Tok.fold_enc (x : Tok) : AV.agg [.int .u8 x.kind, .str x.text, .int .i64 x.pos] = x.enc := by simp only [Tok.enc]
theorem Tok.len_flat (x : Tok) : (flat x.enc).length = 3 := by rw [x.flat_enc]; rfl
theorem Tok.ones (x : Tok) : ∀ d, d ∈ flat x.enc → Av.one d = true := fun d hd => by rw [x.flat_enc] at hd; simp at hd; rcases hd with rfl | rfl | rfl <;> rfl
theorem eqK_tok : eqK Tryz.prog 43 = some [.int .u8, .str, .int .i64] := by decide +kernel
theorem neqTok (x y : Tok) : abin Tryz.prog .neq 43 x.enc y.enc = some (.bool (decide (¬ x = y))) := by
  have e : fldEq [.int .u8, .str, .int .i64] [.int .u8 x.kind, .str x.text, .int .i64 x.pos] [.int .u8 y.kind, .str y.text, .int .i64 y.pos] = some (decide ((x.kind : Int) = y.kind) && (decide (x.text = y.text) && (decide ((x.pos : Int) = y.pos) && true))) := by
    rw [fe_int, fe_str, fe_int, fe_nil]; rfl
  unfold Tok.enc
  rw [abin_agg, eqK_tok]
  simp only [Option.bind_some, e]
  have : (decide ((x.kind : Int) = y.kind) && (decide (x.text = y.text) && (decide ((x.pos : Int) = y.pos) && true))) = decide (x = y) := by
    rw [Bool.eq_iff_iff]
    simp only [Bool.and_eq_true, decide_eq_true_eq, and_true]
    constructor
    · rintro ⟨h1, h2, h3⟩; cases x; cases y; simp only at h1 h2 h3; rw [h2, Int.ofNat_inj.1 h1, Int.ofNat_inj.1 h3]
    · rintro rfl; exact ⟨rfl, rfl, rfl⟩
  rw [this]
  simp [aeq]
set_option maxHeartbeats 1000000 in
theorem sameToks_pure (l r : List Tok) (hl : l.length ≤ 1000000000) (hr : r.length ≤ 1000000000) : Pure Tryz.prog G 8 [rowOf Tok.enc l, rowOf Tok.enc r] (.bool (decide (l = r))) := by
  intro σ
  refine Tri.of_awp mixed Tryz.func8 rfl (by kernel_rfl) (by kernel_rfl) (by simp [Tryz.ntmps8]) Tryz.results8 ?_
  repeat' (first | refine xs ?_ ?_ <;> intros | ((first | refine xh ?_ | refine xi ?_); intro bx hbx; (try simp only [fb] at hbx)) | refine xj ?_ | refine cv_plain ?_ | ((with_reducible refine And.intro ?_ ?_); omega) | refine bo_buildSlice (d' := ⟨⟩) ?_ | refine xk (by kernel_rfl) ?_ | refine xf ?_ (by repeat' first | exact lr _ | assumption | refine ls ?_ ?_ | refine lt ?_ ?_ | simp only [*]; done | simp only [fb, *, not_false_eq_true, and_self]; done | exact lf ‹_› (by simp only [*])) | refine finish_two ?_ (by repeat' first | exact lr _ | assumption | refine ls ?_ ?_ | refine lt ?_ ?_ | simp only [*]; done | simp only [fb, *, not_false_eq_true, and_self]; done | exact lf ‹_› (by simp only [*])) | simp -dsimp only [↓bp, bq, br, seval, tbScnD, Tok.flat_enc, Tok.isv_enc, Tok.fold_enc, *] | refine cv_any ?_)
  rotate_right
  · skip
    refine loop_keep mixed (fun n e => ∃ i : Nat, i ≤ (l).length ∧ n = (l).length - i ∧ e 5 = .int .i64 i ∧ l.take i = r.take i) (l).length
        ⟨0, by omega, by omega, by simp -dsimp only [↓bp, bq, br, seval, tbScnD, Tok.flat_enc, Tok.isv_enc, Tok.fold_enc]; first | done | rfl, rfl⟩ ?_
    rintro n v ⟨i, hi, rfl, h5, htk⟩
    simp -dsimp only [↓bp, bq, br, seval, tbScnD, Tok.flat_enc, Tok.isv_enc, Tok.fold_enc] at h5
    simp -dsimp only [↓bp, bq, br, seval, tbScnD, Tok.flat_enc, Tok.isv_enc, Tok.fold_enc, h5]
    refine condW_dec (fun hlt => ?_) (fun hge => ?_)
    · obtain ⟨x, hx⟩ : ∃ x, l[i]? = some x := ⟨_, List.getElem?_eq_getElem (by omega)⟩
      obtain ⟨y, hy⟩ : ∃ y, r[i]? = some y := ⟨_, List.getElem?_eq_getElem (by omega)⟩
      have hq := neqTok x y
      clear hi hlt
      repeat' (first | refine xs ?_ ?_ <;> intros | ((first | refine xh ?_ | refine xi ?_); intro bx hbx; (try simp only [fb] at hbx)) | refine xj ?_ | refine cv_plain ?_ | ((with_reducible refine And.intro ?_ ?_); omega) | refine bo_buildSlice (d' := ⟨⟩) ?_ | refine xk (by kernel_rfl) ?_ | refine xf ?_ (by repeat' first | exact lr _ | assumption | refine ls ?_ ?_ | refine lt ?_ ?_ | simp only [*]; done | simp only [fb, *, not_false_eq_true, and_self]; done | exact lf ‹_› (by simp only [*])) | refine finish_two ?_ (by repeat' first | exact lr _ | assumption | refine ls ?_ ?_ | refine lt ?_ ?_ | simp only [*]; done | simp only [fb, *, not_false_eq_true, and_self]; done | exact lf ‹_› (by simp only [*])) | simp -dsimp only [↓bp, bq, br, seval, tbScnD, Tok.flat_enc, Tok.isv_enc, Tok.fold_enc, hq, *] | refine cv_any ?_)
      · have hxy : l ≠ r := fun e => by subst e; rw [hx] at hy; simp only [Option.some.injEq] at hy; subst hy; simp_all
        simp [hxy]
      · have hxy : x = y := by simp_all
        subst hxy
        have hlt := (List.getElem?_eq_some_iff.1 hx).1
        exact ⟨l.length - (i + 1), by omega, i + 1, by omega, rfl, by rw [wrap_nat (by omega) (by omega)]; rfl, take_next htk hx hy⟩
    · have : i = l.length := by omega
      subst this
      have hlr : l = r := take_all (by omega) htk
      clear hi hge
      repeat' (first | refine xs ?_ ?_ <;> intros | ((first | refine xh ?_ | refine xi ?_); intro bx hbx; (try simp only [fb] at hbx)) | refine xj ?_ | refine cv_plain ?_ | ((with_reducible refine And.intro ?_ ?_); omega) | refine bo_buildSlice (d' := ⟨⟩) ?_ | refine xk (by kernel_rfl) ?_ | refine xf ?_ (by repeat' first | exact lr _ | assumption | refine ls ?_ ?_ | refine lt ?_ ?_ | simp only [*]; done | simp only [fb, *, not_false_eq_true, and_self]; done | exact lf ‹_› (by simp only [*])) | refine finish_two ?_ (by repeat' first | exact lr _ | assumption | refine ls ?_ ?_ | refine lt ?_ ?_ | simp only [*]; done | simp only [fb, *, not_false_eq_true, and_self]; done | exact lf ‹_› (by simp only [*])) | simp -dsimp only [↓bp, bq, br, seval, tbScnD, Tok.flat_enc, Tok.isv_enc, Tok.fold_enc, *] | refine cv_any ?_)
      all_goals simp [hlr]
  · have : l ≠ r := fun e => by subst e; simp_all
    simp [this]
end Go.Proofs.YtldmniappliepaaGreatDoor
namespace Go.Proofs.YtldmniappliepaaGreatDoor
open Go Go.RowKit
end Go.Proofs.YtldmniappliepaaGreatDoor
namespace Go.Av
open Go Go.RowKit
theorem fresh_ne {σ : AS} {b c : Nat} {z : List AV} (h : σ.box b = some z) (hc : σ.fresh c) : ¬ b = c ∧ ¬ c = b := by
  have : ¬ b = c := fun e => by subst e; rw [hc.1] at h; cases h
  exact ⟨this, fun e => this e.symm⟩
theorem Tri.back {P : Program} {G : Nat → AV} {f : FuncId} {args : List AV} {σ : AS} {Q : AV → Prop} (h : Tri P G f args σ fun r σ' => Q r ∧ σ.le σ') : Tri P G f args σ fun r σ' => Q r ∧ σ' = σ :=
  ⟨h.1, fun K w vals hr hv => (h.2 K w vals hr hv).mono fun e w' ⟨v, r, σ', K', he, ⟨hQ, hl⟩, h1, h2, h3⟩ => ⟨v, r, σ, K', he, ⟨hQ, rfl⟩, h1, h2.weaken hl, h3⟩⟩
inductive WBuf (n : Nat) (E : TypeId) (σ0 σ : AS) : AV → List AV → Prop
  | nil (h : σ0.le σ) : WBuf n E σ0 σ .nil []
  | row (b : Nat) (xs : List AV) (h : σ0.le σ) (h0 : σ0.box b = none) (h1 : σ0.tip b = none) (hb : σ.box b = some (xs.flatMap flat)) (hx : ∀ a, a ∈ xs → (flat a).length = n ∧ isv a = true) : WBuf n E σ0 σ (.bs b xs.length n E) xs
theorem WBuf.le {n : Nat} {E : TypeId} {σ0 σ : AS} {v : AV} {xs : List AV} (h : WBuf n E σ0 σ v xs) : σ0.le σ := by cases h <;> assumption
theorem flatMap_len {n : Nat} : ∀ (xs : List AV), (∀ a, a ∈ xs → (flat a).length = n) → (xs.flatMap flat).length = xs.length * n
  | [], _ => by simp
  | x :: xs, h => by
    rw [List.flatMap_cons, List.length_append, h x (by simp), flatMap_len xs fun a ha => h a (by simp [ha]), List.length_cons, Nat.succ_mul, Nat.add_comm]
theorem AS.le.delSet {σ0 σ : AS} (h : σ0.le σ) {b b' : Nat} (hb : σ0.box b = none) (hb' : σ0.box b' = none) (z : List AV) : σ0.le ((σ.delBox b).setBox b' z) := by
  refine ⟨fun i cs hi => ?_, fun i m hi => h.tip _ _ hi, h.ty⟩
  have h1 : i ≠ b := fun e => by subst e; rw [hb] at hi; cases hi
  have h2 : i ≠ b' := fun e => by subst e; rw [hb'] at hi; cases hi
  show (if i = b' then _ else if i = b then none else σ.box i) = some cs
  rw [if_neg h2, if_neg h1]; exact h.box _ _ hi
end Go.Av
namespace Go.Av
open Go Go.RowKit
variable {P : Program} {e : Env} {σ : AS}
end Go.Av
namespace Go.Av
open Go Go.RowKit
def notRow : AV → Nat → Prop
  | .bs r _ _ _, c => c ≠ r
  | _, _ => True
structure WApp (n : Nat) (E : TypeId) (σ0 σ : AS) (v : AV) (xs : List AV) (v' : AV) (σ' : AS) : Prop where
  buf : WBuf n E σ0 σ' v' xs
  keep : ∀ c z, σ.box c = some z → notRow v c → σ'.box c = some z ∧ notRow v' c
  ty : σ'.ty = σ.ty
  ne : v' ≠ .nil → v = .nil → xs ≠ []
theorem app_wb {P : Program} {n by_ : Nat} {σ0 σ : AS} {v x : AV} {xs ys : List AV} {t tx E : TypeId} {K : AV → AS → Prop} {d : Dum σ} {d' : Dum K} (hB : WBuf n E σ0 σ v xs) (he : aelt P t = some (E, n, by_)) (hs : asrc P tx x = some ys)
    (hys : ∀ a, a ∈ ys → (Av.flat a).length = n ∧ isv a = true) (hb : (xs.length + ys.length) * by_ ≤ 140737488355328) (hK : ∀ v' σ', WApp n E σ0 σ v (xs ++ ys) v' σ' → K v' σ') : appW P σ t tx v x K d d' := by
  cases hB with
  | nil h =>
    by_cases hy : ys = []
    · subst hy
      refine .inl ?_
      unfold aappend
      rw [he, hs]
      refine ⟨fun a ha => (by cases ha), by simp, fun _ => hK _ _ ⟨.nil h, fun c z hc _ => ⟨hc, trivial⟩, rfl, fun hn => absurd rfl hn⟩, fun hy => absurd rfl hy⟩
    · refine .inr (.inl ?_)
      unfold aappendM
      rw [he, hs]
      refine ⟨fun a ha => (hys a ha).1, hy, by simpa using hb, fun b hf => hK _ _ ⟨?_, fun c z hc _ => ?_, rfl, fun _ _ => by simpa using hy⟩⟩
      · have hf0 := h.fresh hf
        exact .row b ys (h.setBox hf0.1 _) hf0.1 hf0.2.1 (by simp [AS.setBox]) hys
      · have := fresh_ne hc hf
        exact ⟨by simp only [AS.setBox, if_neg this.1]; exact hc, this.1⟩
  | row b xs h h0 h1 hbx hx =>
    refine .inr (.inl ?_)
    unfold aappendM
    rw [he, hs]
    have hl := flatMap_len xs fun a ha => (hx a ha).1
    refine ⟨fun a ha => (hys a ha).1, ⟨rfl, rfl⟩, _, hbx, by rw [hl]; exact Nat.le_refl _, hb, fun b' hb' => ?_⟩
    have h0' : σ0.box b' = none ∧ σ0.tip b' = none := by
      rcases hb' with rfl | hf
      · exact ⟨h0, h1⟩
      · exact ⟨(h.fresh hf).1, (h.fresh hf).2.1⟩
    have e1 : (xs.flatMap flat).take (xs.length * n) ++ ys.flatMap flat = (xs ++ ys).flatMap flat := by
      rw [List.take_of_length_le (by rw [hl]; exact Nat.le_refl _), List.flatMap_append]
    have hK' := hK (.bs b' (xs ++ ys).length n E) ((σ.delBox b).setBox b' ((xs ++ ys).flatMap flat)) ⟨.row b' (xs ++ ys) (h.delSet h0 h0'.1 _) h0'.1 h0'.2 (by simp [AS.setBox]) fun a ha => by
      rcases List.mem_append.1 ha with ha | ha
      · exact hx a ha
      · exact hys a ha, fun c z hc hn => by
        have h2 : c ≠ b' := by
          rcases hb' with rfl | hf
          · exact hn
          · exact (fresh_ne hc hf).1
        refine ⟨?_, h2⟩
        show (if c = b' then _ else if c = b then none else σ.box c) = some z
        rw [if_neg h2, if_neg hn]; exact hc, rfl, fun _ hn => by cases hn⟩
    rw [← e1, List.length_append] at hK'
    exact hK'
theorem WBuf.setOther {n : Nat} {E : TypeId} {σ0 σ : AS} {v : AV} {xs : List AV} (h : WBuf n E σ0 σ v xs) {b : Nat} (hb : σ0.box b = none) (hn : notRow v b) (z : List AV) : WBuf n E σ0 (σ.setBox b z) v xs := by
  cases h with
  | nil h => exact .nil (h.setBox hb z)
  | row r xs h h0 h1 hbx hx => exact .row r xs (h.setBox hb z) h0 h1 (by simp only [AS.setBox, if_neg (Ne.symm hn)]; exact hbx) hx
theorem Tri.tupBs {P : Program} {G : Nat → AV} {f : FuncId} {args : List AV} {σ : AS} {n s : Nat} {E : TypeId} {xs rest : List AV} (hx : ∀ a, a ∈ xs → (flat a).length = s ∧ isv a = true) (hn : xs.length = n)
    (h : Tri P G f args σ fun r σ' => ∃ b, r = .tup (.bs b n s E :: rest) ∧ σ.le σ' ∧ σ.box b = none ∧ σ.tip b = none ∧ σ'.box b = some (xs.flatMap flat)) : Tri P G f args σ fun r σ' => Le r (.tup (.sl .none xs [] :: rest)) ∧ σ' = σ := by
  refine Tri.back (Tri.freezeRes h fun r σ' ⟨b, hr, hl, h0, h1, h2⟩ => ?_)
  subst hr
  refine ⟨b, n, s, xs, _, .tup (.sl (.own b) xs [] :: rest), h2, ⟨hn, rfl, hx⟩, Has.tup 0 (by simp) Has.bs, .tup _ _ (by simp) (fun j g1 g2 => ?_), Le.tup (.cons Le.gh (Les.refl rest)), AS.froze_le hl h0 h1⟩
  cases j with
  | zero => exact .here E
  | succ j => exact .same _
theorem WBuf.newBox {n : Nat} {E : TypeId} {σ0 σ : AS} {v : AV} {xs : List AV} (h : WBuf n E σ0 σ v xs) {c : Nat} (hc : σ.fresh c) (z : List AV) : WBuf n E σ0 (σ.setBox c z) v xs ∧ notRow v c := by
  have hc0 := h.le.fresh hc
  have hn : notRow v c := by
    cases h with
    | nil _ => trivial
    | row r xs h h0 h1 hbx hx => exact (fresh_ne hbx hc).2
  exact ⟨h.setOther hc0.1 hn z, hn⟩
theorem WBuf.len {P : Program} {n : Nat} {E : TypeId} {σ0 σ : AS} {v : AV} {xs : List AV} (h : WBuf n E σ0 σ v xs) {t : TypeId} : ablt P .len #[t] [v] = if (el P t).isSome then some (.int .i64 xs.length) else none := by
  cases h with
  | nil _ => rw [l_nil]; rfl
  | row r xs h h0 h1 hbx hx => rw [l_bs]
theorem WBuf.form {n : Nat} {E : TypeId} {σ0 σ : AS} {v : AV} {xs : List AV} (h : WBuf n E σ0 σ v xs) (hne : xs ≠ []) : ∃ r, v = .bs r xs.length n E ∧ σ.box r = some (xs.flatMap flat) ∧ σ0.box r = none ∧ σ0.tip r = none := by
  cases h with
  | nil _ => exact absurd rfl hne
  | row r xs h h0 h1 hbx hx => exact ⟨r, rfl, hbx, h0, h1⟩
def byteA (c : UInt8) : AV := .int .u8 c.toNat
def bytesA (s : List UInt8) : List AV := s.map byteA
structure Bld (T E : TypeId) (σ0 σ : AS) (b : Nat) (xs : List UInt8) : Prop where
  le : σ0.le σ
  out : σ0.box b = none
  ty : σ.ty b = some ((T : TyE), 2)
  box : ∃ p v, σ.box b = some [p, v] ∧ (p = .nilptr ∨ p = .ptr b 0) ∧ WBuf 1 E σ0 σ v (bytesA xs) ∧ notRow v b ∧ (v ≠ .nil → xs ≠ [])
end Go.Av
set_option maxRecDepth 100000
namespace Go.Proofs.YtldmniappliepaaGreatDoor
open Go Go.Av
theorem tf89 : tk Tryz.prog 89 = some (false, 1) ∧ sk Tryz.prog 89 = .oth ∧ (Tryz.prog.underlying 89).isSome = true ∧ el Tryz.prog 89 = none ∧ by_ Tryz.prog 89 = some 16 ∧ ifc Tryz.prog 89 = true := ⟨by kernel_rfl, by kernel_rfl, by kernel_rfl, by kernel_rfl, by kernel_rfl, by kernel_rfl⟩
end Go.Proofs.YtldmniappliepaaGreatDoor
set_option maxRecDepth 20000
namespace Go.Proofs.YtldmniappliepaaGreatDoor
open Go Go.Av
variable (G : Nat → AV)
theorem tfB : aelt Tryz.prog 37 = some (5, 1, 1) := tf37.2.2.2.2.2.2
theorem tfBE : el Tryz.prog 37 = some 5 := tf37.2.2.2.1
theorem bytesA_len (xs : List UInt8) : (bytesA xs).length = xs.length := by simp [bytesA]
end Go.Proofs.YtldmniappliepaaGreatDoor
set_option maxRecDepth 20000
namespace Go.Proofs.YtldmniappliepaaGreatDoor
open Go Go.Av
variable (G : Nat → AV)
end Go.Proofs.YtldmniappliepaaGreatDoor
set_option maxRecDepth 20000
namespace Go.Proofs.YtldmniappliepaaGreatDoor
open Go Go.Av
variable (G : Nat → AV)
def lastOk (l : List UInt32) : Bool := match l[l.length - 1]? with | some x => decide ((x.toNat : Int) ≠ 0) | none => false
def wr (t : Term) : Bool :=
  decide (t.knd = 1) && decide (t.text = []) && decide (t.num = 0) && decide ((t.items.length : Int) + t.tail.length = 0) && decide ((t.limbs.length : Int) ≤ 32) && (decide ((t.limbs.length : Int) = 0) && !t.neg || decide (0 < (t.limbs.length : Int)) && lastOk t.limbs)
def bare (t : Term) (text num items tail : Bool) : Bool :=
  !t.neg && decide ((t.limbs.length : Int) = 0) && (text || decide (t.text = [])) && (num || decide (t.num = 0)) && (items || decide ((t.items.length : Int) = 0)) && (tail || decide ((t.tail.length : Int) = 0))
end Go.Proofs.YtldmniappliepaaGreatDoor
set_option maxRecDepth 20000
namespace Go.Proofs.YtldmniappliepaaGreatDoor
open Go Go.Av
variable (G : Nat → AV)
def head (t : Term) : Int × Int × Bool :=
  if t.knd = 2 then (1, 0, bare t true false false false && decide ((t.text.length : Int) ≤ 40))
  else if t.knd = 3 ∨ t.knd = 5 then (1, 0, bare t false true false false && decide (0 ≤ t.num) && decide (t.num ≤ 1099511627776))
  else if t.knd = 4 then (2, 0, bare t false true true false && decide (0 ≤ t.num) && decide (t.num ≤ 16384))
  else if t.knd = 6 then (1, 0, bare t false false true false)
  else if t.knd = 7 then (1, 1, bare t false false true true && decide ((t.tail.length : Int) ≤ if (t.items.length : Int) < 1 then (t.items.length : Int) else 1) && t.tail.all fun x => decide (x.knd ≠ 7))
  else (1, 0, false)
mutual
def size : Term → Int
  | .mk k g l s n ks ts =>
    if (k.toNat : Int) = 1 then (if wr (.mk k g l s n ks ts) = true then 1 + l.length else 0) else
      let h := head (.mk k g l s n ks ts)
      let a := adds ks h.2.1 (h.1, h.2.2)
      let b := adds ts 0 a
      if b.2 = true then b.1 else 0
def adds : List Term → Int → Int × Bool → Int × Bool
  | [], _, a => a
  | k :: ks, each, a => if a.2 = true then adds ks each (a.1 + size k + each, decide (0 < size k) && decide (a.1 + size k + each ≤ 4096)) else a
end
end Go.Proofs.YtldmniappliepaaGreatDoor
