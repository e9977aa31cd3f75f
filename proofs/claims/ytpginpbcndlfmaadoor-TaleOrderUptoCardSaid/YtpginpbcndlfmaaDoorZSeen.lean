/- What is seen, as plain data and as abstract values. -/
import Derived.Test.YtpginpbcndlfmaaDoorZTermKit
set_option linter.unusedVariables false
set_option linter.unusedSimpArgs false
namespace Go.Proofs.YtpginpbcndlfmaaDoor
open Go Go.Av
structure Ended where
  pid : Int
  reason : Term
structure Named where
  name : List UInt8
  pid : Int
  deriving DecidableEq
structure Seen where
  out : List Term
  ended : List Ended
  names : List Named
  verdict : Int
  spent : Int
  clock : Int
def Ended.enc (e : Ended) : AV := .agg [.int .i64 e.pid, .int .u8 e.reason.knd, .bool e.reason.neg, lims e.reason.limbs, .str e.reason.text, .int .i64 e.reason.num, encs e.reason.items, encs e.reason.tail]
def encE (l : List Ended) : AV := .sl .none (l.map Ended.enc) []
def Named.enc (n : Named) : AV := .agg [.str n.name, .int .i64 n.pid]
def encN (l : List Named) : AV := .sl .none (l.map Named.enc) []
def Seen.enc (s : Seen) : AV := .agg [encs s.out, encE s.ended, encN s.names, .int .i64 s.verdict, .int .i64 s.spent, .int .i64 s.clock]
theorem Ended.flat_enc (e : Ended) : flat e.enc = [.int .i64 e.pid, .int .u8 e.reason.knd, .bool e.reason.neg, lims e.reason.limbs, .str e.reason.text, .int .i64 e.reason.num, encs e.reason.items, encs e.reason.tail] := by simp only [Ended.enc, flat]
theorem Ended.isv_enc (e : Ended) : isv e.enc = true := by simp only [Ended.enc, isv]
theorem Ended.fold_enc (e : Ended) : AV.agg [.int .i64 e.pid, .int .u8 e.reason.knd, .bool e.reason.neg, lims e.reason.limbs, .str e.reason.text, .int .i64 e.reason.num, encs e.reason.items, encs e.reason.tail] = e.enc := by simp only [Ended.enc]
theorem Named.flat_enc (n : Named) : flat n.enc = [.str n.name, .int .i64 n.pid] := by simp only [Named.enc, flat]
theorem Named.isv_enc (n : Named) : isv n.enc = true := by simp only [Named.enc, isv]
theorem Named.fold_enc (n : Named) : AV.agg [.str n.name, .int .i64 n.pid] = n.enc := by simp only [Named.enc]
theorem Seen.flat_enc (s : Seen) : flat s.enc = [encs s.out, encE s.ended, encN s.names, .int .i64 s.verdict, .int .i64 s.spent, .int .i64 s.clock] := by simp only [Seen.enc, flat]
theorem Seen.isv_enc (s : Seen) : isv s.enc = true := by simp only [Seen.enc, isv]
theorem Seen.fold_enc (s : Seen) : AV.agg [encs s.out, encE s.ended, encN s.names, .int .i64 s.verdict, .int .i64 s.spent, .int .i64 s.clock] = s.enc := by simp only [Seen.enc]
theorem isv_encE (l : List Ended) : isv (encE l) = true := by simp only [encE, isv, one]
theorem flat_encE (l : List Ended) : flat (encE l) = [encE l] := by simp only [encE, flat]
theorem isv_encN (l : List Named) : isv (encN l) = true := by simp only [encN, isv, one]
theorem flat_encN (l : List Named) : flat (encN l) = [encN l] := by simp only [encN, flat]
theorem len_encE {P : Program} {t : TypeId} (l : List Ended) : ablt P .len #[t] [encE l] = if (el P t).isSome then some (.int .i64 l.length) else none := by
  simp [encE, l_sl]
theorem len_encN {P : Program} {t : TypeId} (l : List Named) : ablt P .len #[t] [encN l] = if (el P t).isSome then some (.int .i64 l.length) else none := by
  simp [encN, l_sl]
theorem ix_encE {P : Program} {t : TypeId} {k : IntKind} (l : List Ended) (i : Nat) : aindexA P t (encE l) (.int k (i : Int)) = ixk ((el P t).bind (tk P)) ((l[i]?).map Ended.enc) := by
  simp [encE, aindexA_sl]
theorem ix_encN {P : Program} {t : TypeId} {k : IntKind} (l : List Named) (i : Nat) : aindexA P t (encN l) (.int k (i : Int)) = ixk ((el P t).bind (tk P)) ((l[i]?).map Named.enc) := by
  simp [encN, aindexA_sl]
theorem flat8 {l : List Ended} : ∀ a, a ∈ l.map Ended.enc → (flat a).length = 8 := fun a ha => by
  obtain ⟨x, _, rfl⟩ := List.mem_map.1 ha
  rw [x.flat_enc]; rfl
theorem flat2 {l : List Named} : ∀ a, a ∈ l.map Named.enc → (flat a).length = 2 := fun a ha => by
  obtain ⟨x, _, rfl⟩ := List.mem_map.1 ha
  rw [x.flat_enc]; rfl
theorem sl_encE {P : Program} {t : TypeId} (l : List Ended) (lo hi : Option AV) (ht : ((el P t).bind (tk P)) = some (true, 8)) : aslice P t (encE l) lo hi = match abnd lo 0, abnd hi l.length with
    | some a, some b => if a ≤ b ∧ b ≤ l.length then some (encE ((l.take b).drop a)) else none
    | _, _ => none := by
  unfold encE
  rw [aslice_sl, ht, List.length_map]
  cases abnd lo 0 with
  | none => cases abnd hi l.length <;> rfl
  | some a =>
    cases abnd hi l.length with
    | none => rfl
    | some b =>
      rw [slk_plain flat8]
      simp only [List.length_map, List.map_drop, List.map_take]
/-- how much is seen -/
def bulkE : List Ended → Nat
  | [] => 0
  | e :: l => e.reason.bulk + 1 + bulkE l
def bulkN : List Named → Nat
  | [] => 0
  | n :: l => n.name.length + 2 + bulkN l
def Seen.bulk (s : Seen) : Nat := bulks s.out + bulkE s.ended + bulkN s.names + 4
theorem bulkE_mem {l : List Ended} {e : Ended} (h : e ∈ l) : e.reason.bulk + 1 ≤ bulkE l := by
  induction l with
  | nil => cases h
  | cons x l ih =>
    simp only [bulkE]
    rcases List.mem_cons.1 h with rfl | h
    · omega
    · have := ih h; omega
theorem bulkN_mem {l : List Named} {e : Named} (h : e ∈ l) : e.name.length + 2 ≤ bulkN l := by
  induction l with
  | nil => cases h
  | cons x l ih =>
    simp only [bulkN]
    rcases List.mem_cons.1 h with rfl | h
    · omega
    · have := ih h; omega
theorem lenE_le (l : List Ended) : l.length ≤ bulkE l := by
  induction l with
  | nil => simp [bulkE]
  | cons x l ih => simp only [List.length_cons, bulkE]; omega
theorem lenN_le (l : List Named) : l.length ≤ bulkN l := by
  induction l with
  | nil => simp [bulkN]
  | cons x l ih => simp only [List.length_cons, bulkN]; omega
/-! what is seen: within, the same -/
def sameE (a b : Ended) : Bool := decide (a.pid = b.pid) && same a.reason b.reason
def samesE : List Ended → List Ended → Bool
  | [], [] => true
  | a :: l, b :: r => sameE a b && samesE l r
  | _, _ => false
theorem sameE_iff (a b : Ended) : sameE a b = true ↔ a = b := by
  unfold sameE
  simp only [Bool.and_eq_true, decide_eq_true_eq, same_iff]
  constructor
  · rintro ⟨h1, h2⟩; cases a; cases b; simp only at h1 h2; rw [h1, h2]
  · rintro rfl; exact ⟨rfl, rfl⟩
theorem samesE_iff : ∀ l r : List Ended, samesE l r = true ↔ l = r
  | [], [] => by simp [samesE]
  | [], _ :: _ => by simp [samesE]
  | _ :: _, [] => by simp [samesE]
  | a :: l, b :: r => by
    simp only [samesE, Bool.and_eq_true, sameE_iff, samesE_iff l r, List.cons.injEq]
def pre (l r : List Term) : Bool := decide ((l.length : Int) ≤ r.length) && sames l (r.take l.length)
def preE (l r : List Ended) : Bool := decide ((l.length : Int) ≤ r.length) && samesE l (r.take l.length)
theorem pre_iff (l r : List Term) : pre l r = true ↔ l <+: r := by
  unfold pre
  rw [Bool.and_eq_true, decide_eq_true_eq, sames_iff, List.prefix_iff_eq_take]
  constructor
  · exact fun h => h.2
  · intro h
    refine ⟨?_, h⟩
    have := congrArg List.length h
    rw [List.length_take] at this
    omega
theorem preE_iff (l r : List Ended) : preE l r = true ↔ l <+: r := by
  unfold preE
  rw [Bool.and_eq_true, decide_eq_true_eq, samesE_iff, List.prefix_iff_eq_take]
  constructor
  · exact fun h => h.2
  · intro h
    refine ⟨?_, h⟩
    have := congrArg List.length h
    rw [List.length_take] at this
    omega
def within (a b : Seen) : Bool := decide (a.spent ≤ b.spent) && (decide (a.clock ≤ b.clock) && (pre a.out b.out && preE a.ended b.ended))
def sameS (a b : Seen) : Bool := decide (a.verdict = b.verdict) && (decide (a.names = b.names) && (within a b && within b a))
theorem within_iff (a b : Seen) : within a b = true ↔ a.spent ≤ b.spent ∧ a.clock ≤ b.clock ∧ a.out <+: b.out ∧ a.ended <+: b.ended := by
  unfold within
  simp only [Bool.and_eq_true, decide_eq_true_eq, pre_iff, preE_iff]
theorem within_refl (a : Seen) : within a a = true := (within_iff a a).2 ⟨Int.le_refl _, Int.le_refl _, List.prefix_refl _, List.prefix_refl _⟩
theorem within_trans {a b c : Seen} (h : within a b = true) (k : within b c = true) : within a c = true := by
  rw [within_iff] at *
  exact ⟨Int.le_trans h.1 k.1, Int.le_trans h.2.1 k.2.1, h.2.2.1.trans k.2.2.1, h.2.2.2.trans k.2.2.2⟩
theorem pre_anti {α : Type} {l r : List α} (h : l <+: r) (k : r <+: l) : l = r := h.eq_of_length (Nat.le_antisymm h.length_le k.length_le)
theorem within_anti {a b : Seen} (h : within a b = true) (k : within b a = true) : a.spent = b.spent ∧ a.clock = b.clock ∧ a.out = b.out ∧ a.ended = b.ended := by
  rw [within_iff] at *
  exact ⟨Int.le_antisymm h.1 k.1, Int.le_antisymm h.2.1 k.2.1, pre_anti h.2.2.1 k.2.2.1, pre_anti h.2.2.2 k.2.2.2⟩
theorem sameS_iff (a b : Seen) : sameS a b = true ↔ a = b := by
  unfold sameS
  simp only [Bool.and_eq_true, decide_eq_true_eq]
  constructor
  · rintro ⟨h1, h2, h3, h4⟩
    obtain ⟨e1, e2, e3, e4⟩ := within_anti h3 h4
    cases a; cases b
    simp only at *
    rw [h1, h2, e1, e2, e3, e4]
  · rintro rfl; exact ⟨rfl, rfl, within_refl a, within_refl a⟩
/-- one cut off at its ends -/
def cutS (a : Seen) (p q : Nat) : Seen := { a with out := a.out.take p, ended := a.ended.take q }
theorem cutS_within (a : Seen) (p q : Nat) : within (cutS a p q) a = true := (within_iff _ _).2 ⟨Int.le_refl _, Int.le_refl _, List.take_prefix _ _, List.take_prefix _ _⟩
theorem take_pre {α : Type} (l : List α) (p : Nat) : l <+: l.take p ↔ (l.take p).length = l.length := by
  constructor
  · intro h; exact Nat.le_antisymm (by rw [List.length_take]; omega) h.length_le
  · intro h
    have e : l.take p = l := List.take_of_length_le (by rw [List.length_take] at h; omega)
    rw [e]; exact List.prefix_refl _
theorem within_cut (a : Seen) (p q : Nat) : within a (cutS a p q) = (decide (((a.out.take p).length : Int) = a.out.length) && decide (((a.ended.take q).length : Int) = a.ended.length)) := by
  rw [Bool.eq_iff_iff, within_iff]
  simp only [cutS, Bool.and_eq_true, decide_eq_true_eq, take_pre]
  constructor
  · rintro ⟨_, _, h1, h2⟩; omega
  · rintro ⟨h1, h2⟩; exact ⟨Int.le_refl _, Int.le_refl _, by omega, by omega⟩
end Go.Proofs.YtpginpbcndlfmaaDoor
