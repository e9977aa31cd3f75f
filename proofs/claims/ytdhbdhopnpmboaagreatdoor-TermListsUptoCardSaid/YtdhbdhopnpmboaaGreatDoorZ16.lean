/- The reference's text of a term. -/
import Derived.Test.YtdhbdhopnpmboaaGreatDoorZ15
import Derived.Test.YtdhbdhopnpmboaaGreatDoorZ12
import Derived.Test.YtdhbdhopnpmboaaGreatDoorZ13
import Derived.Test.YtdhbdhopnpmboaaGreatDoorZ11
import Derived.Test.YtdhbdhopnpmboaaGreatDoorZ14
import Derived.Test.YtdhbdhopnpmboaaGreatDoorZ07
import Derived.Test.YtdhbdhopnpmboaaGreatDoorZ08
import Derived.Test.YtdhbdhopnpmboaaGreatDoorZ06
set_option linter.unusedVariables false
set_option linter.unusedSimpArgs false
set_option maxRecDepth 20000
set_option linter.defProp false
namespace Go.Proofs.YtdhbdhopnpmboaaGreatDoor
open Go Go.Av
variable (G : Nat -> AV)
end Go.Proofs.YtdhbdhopnpmboaaGreatDoor
namespace Go.Proofs.YtdhbdhopnpmboaaGreatDoor
open Go Go.Av
structure LeX (S : Nat -> Prop) (σ σ' : AS) : Prop where
 box : ∀ b cs, ¬ S b -> σ.box b = some cs -> σ'.box b = some cs
 tip : ∀ b x, σ.tip b = some x -> σ'.tip b = some x
 ty : ∀ b x, σ.ty b = some x -> σ'.ty b = some x
theorem LeX.refl (S : Nat -> Prop) (σ : AS) : LeX S σ σ := ⟨fun _ _ _ h => h, fun _ _ h => h, fun _ _ h => h⟩
theorem LeX.set_in {S : Nat -> Prop} {σ σ' : AS} (h : LeX S σ σ') {b : Nat} (hb : S b) (cs : List AV) : LeX S σ (σ'.setBox b cs) :=
 ⟨fun i ds hi hd => by
   have hne : i ≠ b := fun e => hi (e ▸ hb)
   simp only [AS.setBox, if_neg hne]; exact h.box i ds hi hd, h.tip, h.ty⟩
theorem LeX.set_new {S : Nat -> Prop} {σ σ' : AS} (h : LeX S σ σ') {b : Nat} (hb : σ.box b = none) (cs : List AV) : LeX S σ (σ'.setBox b cs) :=
 ⟨fun i ds hi hd => by
   have hne : i ≠ b := fun e => by subst e; rw [hb] at hd; cases hd
   simp only [AS.setBox, if_neg hne]; exact h.box i ds hi hd, h.tip, h.ty⟩
theorem LeX.set_fresh {S : Nat -> Prop} {σ σ' : AS} (h : LeX S σ σ') {b : Nat} (hb : σ'.fresh b) (cs : List AV) : LeX S σ (σ'.setBox b cs) :=
 ⟨fun i ds hi hd => by
   have h1 := h.box i ds hi hd
   have hne : i ≠ b := fun e => by subst e; rw [hb.1] at h1; cases h1
   simp only [AS.setBox, if_neg hne]; exact h1, h.tip, h.ty⟩
theorem LeX.trans {S : Nat -> Prop} {a b c : AS} (h : LeX S a b) (k : LeX S b c) : LeX S a c :=
 ⟨fun i cs hi hd => k.box i cs hi (h.box i cs hi hd), fun i x hx => k.tip i x (h.tip i x hx), fun i x hx => k.ty i x (h.ty i x hx)⟩
abbrev Row := Option (Nat × Nat)
def rlen : Row -> Nat
 | none => 0
 | some (_, n) => n
def rowA (s : Nat) (E : TypeId) : Row -> AV
 | none => .nil
 | some (b, n) => .bs b n s E
theorem isv_rowA (s : Nat) (E : TypeId) (r : Row) : isv (rowA s E r) = true := by cases r <;> rfl
theorem flat_rowA (s : Nat) (E : TypeId) (r : Row) : flat (rowA s E r) = [rowA s E r] := by cases r <;> rfl
theorem one_rowA (s : Nat) (E : TypeId) (r : Row) : one (rowA s E r) = true := by cases r <;> rfl
def InS (rs : List Row) (b : Nat) : Prop := ∃ n, some (b, n) ∈ rs
def Distinct (rs : List Row) : Prop := ∀ (i j : Nat) (b n m : Nat), rs[i]? = some (some (b, n)) -> rs[j]? = some (some (b, m)) -> i = j
def cells (mk : Int -> Int -> AV) (k n : Nat) : List AV := (List.range n).flatMap fun (i : Nat) => flat (mk k i)
theorem cells_succ (mk : Int -> Int -> AV) (k n : Nat) : cells mk k (n + 1) = cells mk k n ++ flat (mk k n) := by simp [cells, List.range_succ]
theorem cells_len {mk : Int -> Int -> AV} {s : Nat} (h : ∀ k i, (flat (mk k i)).length = s) (k n : Nat) : (cells mk k n).length = n * s := by
 induction n with
 | zero => simp [cells]
 | succ n ih => rw [cells_succ, List.length_append, ih, h, Nat.add_mul, Nat.one_mul]
def Pre (σ : AS) (b : Nat) (l : List AV) (n : Nat) : Prop := ∃ cs, σ.box b = some cs /\ l <+: cs /\ n <= cs.length
theorem Pre.other {σ : AS} {b c : Nat} {l ds : List AV} {n : Nat} (h : Pre σ b l n) (hne : b ≠ c) : Pre (σ.setBox c ds) b l n := by
 obtain ⟨cs, h1, h2, h3⟩ := h
 exact ⟨cs, by simp only [AS.setBox, if_neg hne]; exact h1, h2, h3⟩
theorem Pre.new {σ : AS} {b c : Nat} {l ds : List AV} {n : Nat} (h : Pre σ b l n) (hc : σ.box c = none) : Pre (σ.setBox c ds) b l n := by
 refine h.other fun e => ?_
 subst e
 obtain ⟨cs, h1, _⟩ := h
 rw [hc] at h1; cases h1
theorem Pre.le {σ σ' : AS} {b : Nat} {l : List AV} {n : Nat} (h : Pre σ b l n) (hle : σ.le σ') : Pre σ' b l n := by
 obtain ⟨cs, h1, h2⟩ := h
 exact ⟨cs, hle.box _ _ h1, h2⟩
theorem pre_take {l cs : List AV} (h : l <+: cs) : cs.take l.length = l := (List.prefix_iff_eq_take.1 h).symm
theorem pre_step {mk : Int -> Int -> AV} {s : Nat} (hs : ∀ k i, (flat (mk k i)).length = s) {k i : Nat} {cs : List AV} (h : cells mk k i <+: cs) (hl : (i + 1) * s <= cs.length) :
  cells mk k (i + 1) <+: cs.take (i * s) ++ flat (mk k i) ++ cs.drop (i * s + s) /\ (cs.take (i * s) ++ flat (mk k i) ++ cs.drop (i * s + s)).length = cs.length := by
 have e : cs.take (i * s) = cells mk k i := by
  have := pre_take h
  rwa [cells_len hs] at this
 have hm : (i + 1) * s = i * s + s := by rw [Nat.add_mul, Nat.one_mul]
 constructor
 ·rw [e, cells_succ]
  exact List.prefix_append _ _
 ·simp only [List.length_append, List.length_take, List.length_drop, hs]
  omega
def Marked (mk : Int -> Int -> AV) (s : Nat) (rs : List Row) (σ : AS) (k : Nat) : Prop :=
 ∀ (j b n : Nat), rs[j]? = some (some (b, n)) -> Pre σ b (if j < k then cells mk j n else []) (n * s)
theorem Marked.other {mk : Int -> Int -> AV} {s : Nat} {rs : List Row} {σ : AS} {k : Nat} (h : Marked mk s rs σ k) {c : Nat} (hc : ¬ InS rs c) (ds : List AV) : Marked mk s rs (σ.setBox c ds) k := fun j b n hj =>
 (h j b n hj).other fun e => hc (by subst e; exact ⟨n, List.mem_of_getElem? hj⟩)
theorem Marked.fresh {mk : Int -> Int -> AV} {s : Nat} {rs : List Row} {σ : AS} {k : Nat} (h : Marked mk s rs σ k) {c : Nat} (hc : σ.box c = none) (ds : List AV) : Marked mk s rs (σ.setBox c ds) k := fun j b n hj => (h j b n hj).new hc
theorem Marked.notIn {mk : Int -> Int -> AV} {s : Nat} {rs : List Row} {σ : AS} {k : Nat} (h : Marked mk s rs σ k) {c : Nat} (hc : σ.box c = none) : ¬ InS rs c := by
 rintro ⟨n, hn⟩
 obtain ⟨j, hj⟩ := List.getElem?_of_mem hn
 obtain ⟨cs, h1, _⟩ := h j c n hj
 rw [hc] at h1; cases h1
theorem Marked.set {mk : Int -> Int -> AV} {s : Nat} {rs : List Row} (hd : Distinct rs) {σ : AS} {k k' b n : Nat} (h : Marked mk s rs σ k) (hk : rs[k']? = some (some (b, n))) {ds : List AV} (h1 : (if k' < k then cells mk k' n else []) <+: ds) (h2 : n * s <= ds.length) : Marked mk s rs (σ.setBox b ds) k := by
 intro j c m hj
 by_cases e : c = b
 ·subst e
  obtain rfl := hd j k' c m n hj hk
  rw [hk] at hj
  cases hj
  exact ⟨ds, by simp [AS.setBox], h1, h2⟩
 ·exact (h j c m hj).other e
theorem Marked.next {mk : Int -> Int -> AV} {s : Nat} {rs : List Row} {σ : AS} {k : Nat} (h : Marked mk s rs σ k) (hk : ∀ b n, rs[k]? = some (some (b, n)) -> Pre σ b (cells mk k n) (n * s)) : Marked mk s rs σ (k + 1) := by
 intro j b n hj
 by_cases e : j = k
 ·subst e
  rw [if_pos (by omega)]
  exact hk b n hj
 ·have := h j b n hj
  by_cases e2 : j < k
  ·rw [if_pos e2] at this; rw [if_pos (by omega)]; exact this
  ·rw [if_neg e2] at this; rw [if_neg (by omega)]; exact this
end Go.Proofs.YtdhbdhopnpmboaaGreatDoor
namespace Go.Av
open Go Go.RowKit
section
variable {P : Program} {e : Env} {σ : AS}
end
theorem AS.le.noBox {σ σ' : AS} (h : σ.le σ') {b : Nat} (hb : σ'.box b = none) : σ.box b = none := by
 cases e : σ.box b with
 | none => rfl
 | some z => rw [h.box _ _ e] at hb; cases hb
end Go.Av
namespace Go.Av
open Go Go.RowKit
end Go.Av
set_option maxRecDepth 20000
namespace Go.Proofs.YtdhbdhopnpmboaaGreatDoor
open Go Go.Av
variable (G : Nat -> AV)
theorem le_none {σ σ' : AS} (h : σ.le σ') {b : Nat} (hb : σ'.box b = none) : σ.box b = none := by
 cases e : σ.box b with
 | none => rfl
 | some z => rw [h.box _ _ e] at hb; cases hb
theorem le_noTip {σ σ' : AS} (h : σ.le σ') {b : Nat} (hb : σ'.tip b = none) : σ.tip b = none := by
 cases e : σ.tip b with
 | none => rfl
 | some z => rw [h.tip _ _ e] at hb; cases hb
theorem wbuf_one {n : Nat} {E : TypeId} {σ0 σ : AS} {v : AV} {l : List AV} (h : WBuf n E σ0 σ v l) : Av.one v = true /\ flat v = [v] /\ isv v = true := by cases h <;> exact ⟨rfl, rfl, rfl⟩
theorem set_other {σ : AS} {b c : Nat} {x z : List AV} (h : σ.box c = some z) (hne : c ≠ b) : (σ.setBox b x).box c = some z := by simp only [AS.setBox, if_neg hne]; exact h
theorem set_none {σ : AS} {b c : Nat} {x : List AV} (h : (σ.setBox b x).box c = none) : c ≠ b /\ σ.box c = none := by
 have h' : (if c = b then some x else σ.box c) = none := h
 by_cases e : c = b
 ·rw [if_pos e] at h'; cases h'
 ·rw [if_neg e] at h'; exact ⟨e, h'⟩
theorem lend_new {P : Program} {f : FuncId} {args args' : List AV} {σ : AS} {Q Q' : AV -> AS -> Prop} (h : Tri P G f args' σ.shut Q) (hl : Lends G σ args args')
  (hc : ∀ r s, Q r s -> (∀ b cs, s.box b = some cs -> σ.box b = none /\ σ.tip b = none) -> ∃ S : Nat -> Bool, ownV S r = true /\ (∀ b, S b = true -> ∃ cs, s.box b = some cs /\ ∀ c, c ∈ cs -> ownC S c = true) /\ Q' r (σ.join S s)) : Tri P G f args σ Q' := by
 refine ⟨h.1, fun K w vals hr hvl => ?_⟩
 refine (h.2 (K.lent σ w) w vals hr.lent (hl.vrl hr hvl)).mono ?_
 rintro e w' ⟨u, r, s, K', he, hQ, h1, h2, h3⟩
 have hbase : K'.base = w.heap.size := h3.base
 obtain ⟨S, hS1, hS2, hS3⟩ := hc r s hQ (fun b cs hb => by
  have h4 := (h2.box b cs hb).1
  rw [hbase] at h4
  have h5 := hr.fresh h4
  exact ⟨h5.1, h5.2.1⟩)
 have hj := hr.join h2 h3 S hS2
 refine ⟨u, r, _, _, he, hS3, ?_, hj, Ctx.le_join hr⟩
 refine ownV_vr hS1 (fun b x hSb hx => ?_) h1
 obtain ⟨cs, hc', _⟩ := hS2 b hSb
 have h4 := (h2.box b cs hc').1
 rw [hbase] at h4
 simp only [Ctx.join]
 rw [if_neg (by omega)]; exact hx
theorem make_wb {P : Program} {n by_ : Nat} {σ0 σ : AS} {t e : TypeId} {k k' : IntKind} {zz : List AV} (c : Nat) {c' : Int} (hc : c' = c) {K : AV -> AS -> Prop} {d : Dum σ} {d' : Dum K} (he : aelt P t = some (e, n, by_)) (hz : (el P t).bind (zc P) = some zz) (hb : c * by_ <= 140737488355328) (hle : σ0.le σ)
  (hK : ∀ v σ', WBuf n e σ0 σ' v [] -> K v σ') : makeW P σ t (.int k 0) (.int k' c') K d d' := by
 subst hc
 refine .inr ?_
 unfold amakeM
 rw [he, hz]
 refine ⟨by omega, by omega, by rw [<- Int.natCast_mul]; omega, fun b hf => ?_⟩
 have h0 : σ0.box b = none := by
  cases e : σ0.box b with
  | none => rfl
  | some cs => have := hle.box _ _ e; rw [hf.1] at this; cases this
 have h1 : σ0.tip b = none := by
  cases e : σ0.tip b with
  | none => rfl
  | some cs => have := hle.tip _ _ e; rw [hf.2.1] at this; cases this
 exact hK _ _ (.row b [] (hle.setBox h0 _) h0 h1 AS.set_get (fun a ha => by simp at ha))
end Go.Proofs.YtdhbdhopnpmboaaGreatDoor
set_option maxRecDepth 20000
namespace Go.Proofs.YtdhbdhopnpmboaaGreatDoor
open Go Go.Av
def restL : Bool -> List AV
 | true => lmarks
 | false => []
def restT : Bool -> List AV
 | true => marks.flatMap flat
 | false => []
def OwnL (σ : AS) (m : Bool) (l : List UInt32) (v : AV) (S : List Nat) : Prop := (m = false /\ l = [] /\ v = .nil /\ S = []) \/ ∃ b rest, v = .bs b l.length 1 47 /\ S = [b] /\ σ.box b = some (l.map limA ++ rest) /\ rest = restL m
mutual
def OwnT (σ : AS) (m : Bool) : Term -> AV -> List Nat -> Prop
 | .mk k g l s n ks ts, v, S => ∃ vl vk vt Sl Sk St, v = .agg [.int .u8 k.toNat, .bool g, vl, .str s, .int .i64 n, vk, vt] /\ S = Sl ++ (Sk ++ St) /\ OwnL σ m l vl Sl /\
  ((m = false /\ ks = [] /\ vk = .nil /\ Sk = []) \/ ∃ b cs rest S', vk = .bs b ks.length 7 26 /\ Sk = b :: S' /\ σ.box b = some (cs ++ rest) /\ rest = restT m /\ OwnCs σ m ks cs S') /\
  ((m = false /\ ts = [] /\ vt = .nil /\ St = []) \/ ∃ b cs rest S', vt = .bs b ts.length 7 26 /\ St = b :: S' /\ σ.box b = some (cs ++ rest) /\ rest = restT m /\ OwnCs σ m ts cs S')
def OwnCs (σ : AS) (m : Bool) : List Term -> List AV -> List Nat -> Prop
 | [], cs, S => cs = [] /\ S = []
 | t :: r, cs, S => ∃ v c' S1 S2, cs = flat v ++ c' /\ S = S1 ++ S2 /\ OwnT σ m t v S1 /\ OwnCs σ m r c' S2
end
def OwnR (σ : AS) (m : Bool) (ks : List Term) (v : AV) (S : List Nat) : Prop := (m = false /\ ks = [] /\ v = .nil /\ S = []) \/ ∃ b cs rest S', v = .bs b ks.length 7 26 /\ S = b :: S' /\ σ.box b = some (cs ++ rest) /\ rest = restT m /\ OwnCs σ m ks cs S'
theorem ownT_eq (σ : AS) (m : Bool) (t : Term) (v : AV) (S : List Nat) : OwnT σ m t v S ↔ ∃ vl vk vt Sl Sk St, v = .agg [.int .u8 t.knd, .bool t.neg, vl, .str t.text, .int .i64 t.num, vk, vt] /\ S = Sl ++ (Sk ++ St) /\ OwnL σ m t.limbs vl Sl /\ OwnR σ m t.items vk Sk /\ OwnR σ m t.tail vt St := by
 cases t
 simp only [OwnT, OwnR, Term.knd, Term.kind, Term.neg, Term.limbs, Term.text, Term.num, Term.items, Term.tail]
theorem OwnL.keep {σ σ' : AS} {m : Bool} {l : List UInt32} {v : AV} {S : List Nat} (h : OwnL σ m l v S) (hk : ∀ b, b ∈ S -> σ'.box b = σ.box b) : OwnL σ' m l v S := by
 rcases h with h | ⟨b, rest, rfl, rfl, hb, hm⟩
 ·exact .inl h
 ·exact .inr ⟨b, rest, rfl, rfl, by rw [hk b (by simp)]; exact hb, hm⟩
theorem ownCs_keep {σ σ' : AS} {m : Bool} : ∀ (l : List Term) (cs : List AV) (S : List Nat), (∀ t, t ∈ l -> ∀ v S, OwnT σ m t v S -> (∀ b, b ∈ S -> σ'.box b = σ.box b) -> OwnT σ' m t v S) -> OwnCs σ m l cs S -> (∀ b, b ∈ S -> σ'.box b = σ.box b) -> OwnCs σ' m l cs S
 | [], _, _, _, h, _ => by simpa only [OwnCs] using h
 | t :: r, cs, S, hP, h, hk => by
  simp only [OwnCs] at h ⊢
  obtain ⟨v, c', S1, S2, rfl, rfl, h1, h2⟩ := h
  exact ⟨v, c', S1, S2, rfl, rfl, hP t List.mem_cons_self v S1 h1 (fun b hb => hk b (List.mem_append_left _ hb)), ownCs_keep r c' S2 (fun t ht => hP t (List.mem_cons_of_mem _ ht)) h2 (fun b hb => hk b (List.mem_append_right _ hb))⟩
theorem ownT_keep {σ σ' : AS} {m : Bool} (t : Term) : ∀ (v : AV) (S : List Nat), OwnT σ m t v S -> (∀ b, b ∈ S -> σ'.box b = σ.box b) -> OwnT σ' m t v S := by
 refine Term.ind (P := fun t => ∀ (v : AV) (S : List Nat), OwnT σ m t v S -> (∀ b, b ∈ S -> σ'.box b = σ.box b) -> OwnT σ' m t v S) (fun t ih1 ih2 => ?_) t
 intro v S h hk
 rw [ownT_eq] at h ⊢
 obtain ⟨vl, vk, vt, Sl, Sk, St, rfl, rfl, h1, h2, h3⟩ := h
 refine ⟨vl, vk, vt, Sl, Sk, St, rfl, rfl, h1.keep fun b hb => hk b (by simp [hb]), ?_, ?_⟩
 ·rcases h2 with h2 | ⟨b, cs, rest, S', rfl, rfl, hb, hm, hc⟩
  ·exact .inl h2
  ·exact .inr ⟨b, cs, rest, S', rfl, rfl, by rw [hk b (by simp)]; exact hb, hm, ownCs_keep t.items cs S' ih1 hc fun c hc' => hk c (by simp [hc'])⟩
 ·rcases h3 with h3 | ⟨b, cs, rest, S', rfl, rfl, hb, hm, hc⟩
  ·exact .inl h3
  ·exact .inr ⟨b, cs, rest, S', rfl, rfl, by rw [hk b (by simp)]; exact hb, hm, ownCs_keep t.tail cs S' ih2 hc fun c hc' => hk c (by simp [hc'])⟩
theorem OwnCs.keep {σ σ' : AS} {m : Bool} {l : List Term} {cs : List AV} {S : List Nat} (h : OwnCs σ m l cs S) (hk : ∀ b, b ∈ S -> σ'.box b = σ.box b) : OwnCs σ' m l cs S := ownCs_keep l cs S (fun t _ => ownT_keep t) h hk
theorem OwnR.keep {σ σ' : AS} {m : Bool} {l : List Term} {v : AV} {S : List Nat} (h : OwnR σ m l v S) (hk : ∀ b, b ∈ S -> σ'.box b = σ.box b) : OwnR σ' m l v S := by
 rcases h with h | ⟨b, cs, rest, S', rfl, rfl, hb, hm, hc⟩
 ·exact .inl h
 ·exact .inr ⟨b, cs, rest, S', rfl, rfl, by rw [hk b (by simp)]; exact hb, hm, hc.keep fun c hc' => hk c (by simp [hc'])⟩
theorem OwnL.one {σ : AS} {m : Bool} {l : List UInt32} {v : AV} {S : List Nat} (h : OwnL σ m l v S) : Av.one v = true /\ flat v = [v] /\ isv v = true := by
 rcases h with ⟨_, _, rfl, _⟩ | ⟨b, rest, rfl, _⟩ <;> exact ⟨rfl, rfl, rfl⟩
theorem OwnR.one {σ : AS} {m : Bool} {l : List Term} {v : AV} {S : List Nat} (h : OwnR σ m l v S) : Av.one v = true /\ flat v = [v] /\ isv v = true := by
 rcases h with ⟨_, _, rfl, _⟩ | ⟨b, cs, rest, S', rfl, _⟩ <;> exact ⟨rfl, rfl, rfl⟩
theorem ownT_shape {σ : AS} {m : Bool} {t : Term} {v : AV} {S : List Nat} (h : OwnT σ m t v S) : (flat v).length = 7 /\ isv v = true /\ ∀ c, c ∈ flat v -> Av.one c = true := by
 rw [ownT_eq] at h
 obtain ⟨vl, vk, vt, Sl, Sk, St, rfl, rfl, h1, h2, h3⟩ := h
 refine ⟨rfl, rfl, fun c hc => ?_⟩
 simp only [flat, List.mem_cons, List.not_mem_nil, or_false] at hc
 rcases hc with rfl | rfl | rfl | rfl | rfl | rfl | rfl
 ·rfl
 ·rfl
 ·exact h1.one.1
 ·rfl
 ·rfl
 ·exact h2.one.1
 ·exact h3.one.1
theorem ownCs_len {σ : AS} {m : Bool} : ∀ (l : List Term) (cs : List AV) (S : List Nat), OwnCs σ m l cs S -> cs.length = l.length * 7
 | [], cs, S, h => by simp only [OwnCs] at h; rw [h.1]; rfl
 | t :: r, cs, S, h => by
  simp only [OwnCs] at h
  obtain ⟨v, c', S1, S2, rfl, rfl, h1, h2⟩ := h
  rw [List.length_append, (ownT_shape h1).1, ownCs_len r c' S2 h2, List.length_cons, Nat.succ_mul]; omega
section
variable {G : Nat -> AV}
theorem lim_cells (l : List UInt32) : (l.map limA).flatMap flat = l.map limA := by
 induction l with
 | nil => rfl
 | cons x l ih => rw [List.map_cons, List.flatMap_cons, flat_limA, ih]; rfl
theorem OwnL.lend {σ : AS} {m : Bool} {l : List UInt32} {v : AV} {S : List Nat} (h : OwnL σ m l v S) : Lend G σ v (lims l) := by
 rcases h with ⟨_, rfl, rfl, _⟩ | ⟨b, rest, rfl, _, hb, _⟩
 ·exact Lend.le (Lend.id _) Le.nil
 ·have hf := lim_cells l
  have h := Lend.row (G := G) (σ := σ) (b := b) (s := 1) (E := 47) (cs := l.map limA ++ rest) (ds := l.map limA) hb (by rw [List.take_left' rfl]; exact Lends.ids _) (by simp) (xs := l.map limA) (sp := []) (by rw [List.append_nil]; exact hf) (by omega) (fun e h => by
   rw [List.append_nil] at h
   obtain ⟨x, _, rfl⟩ := List.mem_map.1 h
   exact ⟨rfl, rfl, fun c hc => by rw [flat_limA] at hc; simp at hc; subst hc; rfl⟩)
  rw [List.length_map] at h
  exact h
theorem ownCs_lends {σ : AS} {m : Bool} : ∀ (l : List Term) (cs : List AV) (S : List Nat), (∀ t, t ∈ l -> ∀ v S, OwnT σ m t v S -> Lends G σ (flat v) (flat t.enc)) -> OwnCs σ m l cs S -> Lends G σ cs ((l.map Term.enc).flatMap flat)
 | [], cs, S, _, h => by simp only [OwnCs] at h; rw [h.1]; exact .nil
 | t :: r, cs, S, hP, h => by
  simp only [OwnCs] at h
  obtain ⟨v, c', S1, S2, rfl, rfl, h1, h2⟩ := h
  rw [List.map_cons, List.flatMap_cons]
  exact (hP t List.mem_cons_self v S1 h1).append (ownCs_lends r c' S2 (fun t ht => hP t (List.mem_cons_of_mem _ ht)) h2)
theorem ownR_lend {σ : AS} {m : Bool} (l : List Term) (hP : ∀ t, t ∈ l -> ∀ v S, OwnT σ m t v S -> Lends G σ (flat v) (flat t.enc)) (v : AV) (S : List Nat) (h : OwnR σ m l v S) : Lend G σ v (encs l) := by
 rcases h with ⟨_, rfl, rfl, _⟩ | ⟨b, cs, rest, S', rfl, _, hb, _, hc⟩
 ·exact Lend.le (Lend.id _) Le.nil
 ·have hL := ownCs_lends (G := G) l cs S' hP hc
  have hl := hL.length
  have h := Lend.row (G := G) (σ := σ) (b := b) (s := 7) (E := 26) (cs := cs ++ rest) (ds := (l.map Term.enc).flatMap flat) hb (by rw [List.take_left' hl]; exact hL) (by rw [List.length_append]; omega) (xs := l.map Term.enc) (sp := []) (by rw [List.append_nil]) (by omega) (fun e h => by
   rw [List.append_nil] at h
   obtain ⟨x, _, rfl⟩ := List.mem_map.1 h
   exact ⟨by rw [x.flat_enc]; rfl, x.isv_enc, ones x⟩)
  rw [List.length_map] at h
  exact h
theorem ownT_lends {σ : AS} {m : Bool} (t : Term) : ∀ (v : AV) (S : List Nat), OwnT σ m t v S -> Lends G σ (flat v) (flat t.enc) := by
 refine Term.ind (P := fun t => ∀ (v : AV) (S : List Nat), OwnT σ m t v S -> Lends G σ (flat v) (flat t.enc)) (fun t ih1 ih2 => ?_) t
 intro v S h
 rw [ownT_eq] at h
 obtain ⟨vl, vk, vt, Sl, Sk, St, rfl, rfl, h1, h2, h3⟩ := h
 rw [t.flat_enc]
 exact .cons (Lend.id _) (.cons (Lend.id _) (.cons h1.lend (.cons (Lend.id _) (.cons (Lend.id _) (.cons (ownR_lend t.items ih1 vk Sk h2) (.cons (ownR_lend t.tail ih2 vt St h3) .nil))))))
theorem own_lend_term {σ : AS} {m : Bool} {t : Term} {v : AV} {S : List Nat} (h : OwnT σ m t v S) : Lend G σ v t.enc := by
 have hl := ownT_lends (G := G) t v S h
 rw [ownT_eq] at h
 obtain ⟨vl, vk, vt, Sl, Sk, St, rfl, rfl, h1, h2, h3⟩ := h
 rw [<- Term.fold_enc]
 rw [t.flat_enc] at hl
 exact Lend.agg hl (fun c hc => by simp at hc; rcases hc with rfl | rfl | rfl | rfl | rfl | rfl | rfl <;> rfl)
theorem lm_one (l : List UInt32) (e : AV) (h : e ∈ l.map limA ++ lmarks) : (flat e).length = 1 /\ isv e = true /\ ∀ c, c ∈ flat e -> Av.one c = true := by
 rcases List.mem_append.1 h with h | h
 ·obtain ⟨x, _, rfl⟩ := List.mem_map.1 h
  exact ⟨rfl, rfl, fun c hc => by rw [flat_limA] at hc; simp at hc; subst hc; rfl⟩
 ·obtain ⟨x, _, rfl⟩ := List.mem_map.1 h
  exact ⟨rfl, rfl, fun c hc => by simp [flat, lmk, limA] at hc; subst hc; rfl⟩
theorem OwnL.lent {σ : AS} {l : List UInt32} {v : AV} {S : List Nat} (h : OwnL σ true l v S) : Lend G σ v (lentLims l) := by
 rcases h with ⟨h, _⟩ | ⟨b, rest, rfl, _, hb, hm⟩
 ·cases h
 ·obtain rfl := hm
  replace hb : σ.box b = some (l.map limA ++ lmarks) := hb
  have hf : (l.map limA ++ lmarks).flatMap flat = l.map limA ++ lmarks := by
   rw [List.flatMap_append, lim_cells]
   congr 1
  have h := Lend.row (G := G) (σ := σ) (b := b) (s := 1) (E := 47) (cs := l.map limA ++ lmarks) (ds := l.map limA ++ lmarks) hb (by rw [List.take_length]; exact Lends.ids _) (Nat.le_refl _) (xs := l.map limA) (sp := lmarks) hf (by omega) (fun e he => lm_one l e he)
  rw [List.length_map] at h
  exact h
theorem ownCs_lents {σ : AS} : ∀ (l : List Term) (cs : List AV) (S : List Nat), (∀ t, t ∈ l -> ∀ v S, OwnT σ true t v S -> Lends G σ (flat v) (flat t.lent)) -> OwnCs σ true l cs S -> Lends G σ cs ((l.map Term.lent).flatMap flat)
 | [], cs, S, _, h => by simp only [OwnCs] at h; rw [h.1]; exact .nil
 | t :: r, cs, S, hP, h => by
  simp only [OwnCs] at h
  obtain ⟨v, c', S1, S2, rfl, rfl, h1, h2⟩ := h
  rw [List.map_cons, List.flatMap_cons]
  exact (hP t List.mem_cons_self v S1 h1).append (ownCs_lents r c' S2 (fun t ht => hP t (List.mem_cons_of_mem _ ht)) h2)
theorem ownR_lent {σ : AS} (l : List Term) (hP : ∀ t, t ∈ l -> ∀ v S, OwnT σ true t v S -> Lends G σ (flat v) (flat t.lent)) (v : AV) (S : List Nat) (h : OwnR σ true l v S) : Lend G σ v (lents l) := by
 rcases h with ⟨h, _⟩ | ⟨b, cs, rest, S', rfl, _, hb, hm, hc⟩
 ·cases h
 ·obtain rfl := hm
  replace hb : σ.box b = some (cs ++ marks.flatMap flat) := hb
  have hL := (ownCs_lents (G := G) l cs S' hP hc).append (Lends.ids (G := G) (σ := σ) (marks.flatMap flat))
  have hl := hL.length
  have h := Lend.row (G := G) (σ := σ) (b := b) (s := 7) (E := 26) (cs := cs ++ marks.flatMap flat) (ds := (l.map Term.lent).flatMap flat ++ marks.flatMap flat) hb (by rw [<- hl, List.take_length]; exact hL) (by omega) (xs := l.map Term.lent) (sp := marks) (by rw [List.flatMap_append]) (by omega) (fun e h => by
   rcases List.mem_append.1 h with h | h
   ·obtain ⟨x, _, rfl⟩ := List.mem_map.1 h
    exact ⟨by rw [x.flat_lent]; rfl, x.isv_lent, fun c hc => by rw [x.flat_lent] at hc; simp at hc; rcases hc with rfl | rfl | rfl | rfl | rfl | rfl | rfl <;> rfl⟩
   ·obtain ⟨x, _, rfl⟩ := List.mem_map.1 h
    exact ⟨by rw [Term.flat_enc]; rfl, Term.isv_enc _, ones _⟩)
  rw [List.length_map] at h
  exact h
theorem ownT_lents {σ : AS} (t : Term) : ∀ (v : AV) (S : List Nat), OwnT σ true t v S -> Lends G σ (flat v) (flat t.lent) := by
 refine Term.ind (P := fun t => ∀ (v : AV) (S : List Nat), OwnT σ true t v S -> Lends G σ (flat v) (flat t.lent)) (fun t ih1 ih2 => ?_) t
 intro v S h
 rw [ownT_eq] at h
 obtain ⟨vl, vk, vt, Sl, Sk, St, rfl, rfl, h1, h2, h3⟩ := h
 rw [t.flat_lent]
 exact .cons (Lend.id _) (.cons (Lend.id _) (.cons h1.lent (.cons (Lend.id _) (.cons (Lend.id _) (.cons (ownR_lent t.items ih1 vk Sk h2) (.cons (ownR_lent t.tail ih2 vt St h3) .nil))))))
theorem own_lent_term {σ : AS} {t : Term} {v : AV} {S : List Nat} (h : OwnT σ true t v S) : Lend G σ v t.lent := by
 have hl := ownT_lents (G := G) t v S h
 rw [ownT_eq] at h
 obtain ⟨vl, vk, vt, Sl, Sk, St, rfl, rfl, h1, h2, h3⟩ := h
 rw [<- Term.fold_lent]
 rw [t.flat_lent] at hl
 exact Lend.agg hl (fun c hc => by simp at hc; rcases hc with rfl | rfl | rfl | rfl | rfl | rfl | rfl <;> rfl)
end
end Go.Proofs.YtdhbdhopnpmboaaGreatDoor
set_option maxRecDepth 20000
namespace Go.Proofs.YtdhbdhopnpmboaaGreatDoor
open Go Go.Av
def tbTreeL := And.intro (And.intro (And.intro (And.intro @tf3 @tf4) (And.intro @tf5 (And.intro @tf47 @tf9))) (And.intro (And.intro @tf23 (And.intro @tf22 @tf24)) (And.intro @tf26 (And.intro @Term.flat_enc @Term.isv_enc)))) (And.intro (And.intro (And.intro @Term.fold_enc (And.intro @isv_encs @flat_encs)) (And.intro @len_encs (And.intro @ix_encs @ix_encs'))) (And.intro (And.intro @isv_lims (And.intro @flat_lims @len_lims)) (And.intro @ix_lims (And.intro @ix_lims' @flat_limA))))
variable (G : Nat -> AV)
structure NewS (σ σ' : AS) (S : List Nat) : Prop where
 le : σ.le σ'
 fr : ∀ b, b ∈ S -> σ.box b = none /\ σ.tip b = none
 nd : S.Nodup
 on : ∀ b, b ∈ S -> ∃ z, σ'.box b = some z
theorem tfLZ : (el Tryz.prog 23).bind (zc Tryz.prog) = some [.int .u32 0] := by kernel_rfl
theorem tfTZ : (el Tryz.prog 24).bind (zc Tryz.prog) = some [.int .u8 0, .bool false, .nil, .str [], .int .i64 0, .nil, .nil] := by kernel_rfl
theorem lm_flat (l : List UInt32) (k : Nat) : (l.map limA ++ lmarksTo k).flatMap flat = l.map limA ++ lmarksTo k := by
 rw [List.flatMap_append, lim_cells]
 congr 1
 induction k with
 | zero => rfl
 | succ k ih => rw [lmarksTo_succ, List.flatMap_append, ih]; rfl
set_option maxHeartbeats 2000000 in
theorem lentlims_own (l : List UInt32) (hl : l.length <= 1000000000) (σ : AS) : Tri Tryz.prog G 37 [lims l] σ fun r σ' => ∃ S, OwnL σ' true l r S /\ NewS σ σ' S := by
 have hw0 : IntKind.i64.wrap ((l.length : Int) + 12) = l.length + 12 := wrap_nat (by omega) (by omega)
 refine Tri.of_awp mixed Tryz.func37 rfl (by kernel_rfl) (by kernel_rfl) (by simp [Tryz.ntmps37]) Tryz.results37 ?_
 repeat' (first | (refine wn ?_; intro bx hbx; try simp only [fb] at hbx) | (refine make_wb (l.length + 12) (by omega) tfL tfLZ (by omega) (AS.le.refl σ) (fun v σ1 hB1 => ?_)) | (refine app_wb (ys := l.map limA) hB1 tfL (asrc_sl tfLE) (fun a ha => ⟨flat1 a ha, by obtain ⟨x, _, rfl⟩ := List.mem_map.1 ha; rfl⟩) (by simp; omega) (fun v2 σ2 hA2 => ?_)) | refine wj ?_ | simp -dsimp only [↓bp, bq, br, seval, tbTreeL, *] | refine wz ?_ | fail)
 have hB2 := hA2.buf
 rw [List.nil_append] at hB2
 clear hA2 hB1
 refine loop_intro (fun n e σ' => ∃ (i : Nat) (v : AV), i <= 12 /\ n = 12 - i /\ e 4 = .int .i64 i /\ e 3 = v /\ WBuf 1 47 σ σ' v (l.map limA ++ lmarksTo i)) 12
  ⟨0, v2, by omega, by omega, by first | (simp -dsimp only [↓bp, bq, br, seval, tbTreeL]; done) | (simp -dsimp only [↓bp, bq, br, seval, tbTreeL]; try rfl), by first | (simp -dsimp only [↓bp, bq, br, seval, tbTreeL]; done) | (simp -dsimp only [↓bp, bq, br, seval, tbTreeL]; try rfl), by simpa [lmarksTo] using hB2⟩ ?_
 clear hB2
 rintro n e2 σ3 ⟨i, v3, hi2, rfl, h4, h3, hB3⟩
 simp -dsimp only [↓bp, bq, br, seval, tbTreeL] at h4 h3
 by_cases hlt : (i : Int) < 12
 ·have hlt' := eq_true hlt
  have hp := mark_pure G 1 i
  have hwi : IntKind.i64.wrap ((i : Int) + 1) = ((i + 1 : Nat) : Int) := by rw [wrap_nat (by omega) (by omega)]; rfl
  have hlen : (l.map limA ++ lmarksTo i).length <= 1000000012 := by rw [List.length_append, List.length_map, lmarksTo_len]; omega
  clear hw0
  repeat' (first | (refine wn ?_; intro bx hbx; try simp only [fb] at hbx) | refine wp hp ?_ | (refine app_wb (ys := [lmk (i : Int)]) hB3 tfL (asrc_sl tfLE) (fun a ha => by simp at ha; subst ha; exact ⟨rfl, rfl⟩) (by simp only [List.length_cons, List.length_nil]; omega) (fun v4 σ4 hA4 => ?_)) | refine wj ?_ | simp -dsimp only [↓bp, bq, br, seval, tbTreeL, *] | refine wz ?_ | fail)
  exact ⟨12 - (i + 1), by omega, i + 1, v4, by omega, rfl, rfl, rfl, by rw [lmarksTo_succ, <- List.append_assoc]; exact hA4.buf⟩
 ·have : i = 12 := by omega
  subst this
  have hlt' : (((12 : Nat) : Int) < 12) = False := by simp
  have hne : l.map limA ++ lmarksTo 12 ≠ [] := fun e => by have := congrArg List.length e; simp [lmarksTo_len] at this
  obtain ⟨r, hv, hr1, hr2, hr3⟩ := hB3.form hne
  have hle := hB3.le
  have hlen : (l.map limA ++ lmarksTo 12).length = l.length + 12 := by rw [List.length_append, List.length_map, lmarksTo_len]
  rw [hlen] at hv
  subst hv
  rw [lm_flat] at hr1
  have hll : l.length <= l.length + 12 := by omega
  clear hB3 hne hlen hw0 hlt hi2
  repeat' (first | (refine wn ?_; intro bx hbx; try simp only [fb] at hbx) | refine wj ?_ | simp -dsimp only [↓bp, bq, br, seval, tbTreeL, *] | refine wz ?_ | fail)
  all_goals exact finishW_some _ (AS.le.refl _) ⟨[r], .inr ⟨r, lmarks, rfl, rfl, hr1, rfl⟩, hle, fun b hb => by simp at hb; subst hb; exact ⟨hr2, hr3⟩, by simp, fun b hb => by simp at hb; subst hb; exact ⟨_, hr1⟩⟩
theorem OwnL.on {σ : AS} {m : Bool} {l : List UInt32} {v : AV} {S : List Nat} (h : OwnL σ m l v S) : ∀ b, b ∈ S -> ∃ z, σ.box b = some z := fun b hb => by
 rcases h with ⟨_, _, _, rfl⟩ | ⟨c, rest, _, rfl, hc, _⟩
 ·cases hb
 ·simp at hb; subst hb; exact ⟨_, hc⟩
theorem ownCs_on {σ : AS} {m : Bool} : ∀ (l : List Term) (cs : List AV) (S : List Nat), (∀ t, t ∈ l -> ∀ v S, OwnT σ m t v S -> ∀ b, b ∈ S -> ∃ z, σ.box b = some z) -> OwnCs σ m l cs S -> ∀ b, b ∈ S -> ∃ z, σ.box b = some z
 | [], _, _, _, h, b, hb => by simp only [OwnCs] at h; rw [h.2] at hb; cases hb
 | t :: r, cs, S, hP, h, b, hb => by
  simp only [OwnCs] at h
  obtain ⟨v, c', S1, S2, rfl, rfl, h1, h2⟩ := h
  rcases List.mem_append.1 hb with hb | hb
  ·exact hP t List.mem_cons_self v S1 h1 b hb
  ·exact ownCs_on r c' S2 (fun t ht => hP t (List.mem_cons_of_mem _ ht)) h2 b hb
theorem ownT_on {σ : AS} {m : Bool} (t : Term) : ∀ (v : AV) (S : List Nat), OwnT σ m t v S -> ∀ b, b ∈ S -> ∃ z, σ.box b = some z := by
 refine Term.ind (P := fun t => ∀ (v : AV) (S : List Nat), OwnT σ m t v S -> ∀ b, b ∈ S -> ∃ z, σ.box b = some z) (fun t ih1 ih2 => ?_) t
 intro v S h b hb
 rw [ownT_eq] at h
 obtain ⟨vl, vk, vt, Sl, Sk, St, rfl, rfl, h1, h2, h3⟩ := h
 rcases List.mem_append.1 hb with hb | hb
 ·exact h1.on b hb
 rcases List.mem_append.1 hb with hb | hb
 ·rcases h2 with ⟨_, _, _, rfl⟩ | ⟨c, cs, rest, S', _, rfl, hc, _, hO⟩
  ·cases hb
  ·rcases List.mem_cons.1 hb with rfl | hb
   ·exact ⟨_, hc⟩
   ·exact ownCs_on _ _ _ ih1 hO b hb
 ·rcases h3 with ⟨_, _, _, rfl⟩ | ⟨c, cs, rest, S', _, rfl, hc, _, hO⟩
  ·cases hb
  ·rcases List.mem_cons.1 hb with rfl | hb
   ·exact ⟨_, hc⟩
   ·exact ownCs_on _ _ _ ih2 hO b hb
theorem OwnCs.on {σ : AS} {m : Bool} {l : List Term} {cs : List AV} {S : List Nat} (h : OwnCs σ m l cs S) : ∀ b, b ∈ S -> ∃ z, σ.box b = some z := ownCs_on l cs S (fun t _ => ownT_on t) h
theorem same_le {σ σ' : AS} (h : σ.le σ') {S : List Nat} (ho : ∀ b, b ∈ S -> ∃ z, σ.box b = some z) : ∀ b, b ∈ S -> σ'.box b = σ.box b := fun b hb => by
 obtain ⟨z, hz⟩ := ho b hb
 rw [hz]; exact h.box _ _ hz
theorem ownCs_snoc {σ : AS} {m : Bool} {t : Term} {v : AV} {S1 : List Nat} (ht : OwnT σ m t v S1) : ∀ (l : List Term) (cs : List AV) (S : List Nat), OwnCs σ m l cs S -> OwnCs σ m (l ++ [t]) (cs ++ flat v) (S ++ S1)
 | [], cs, S, h => by
  simp only [OwnCs] at h
  obtain ⟨rfl, rfl⟩ := h
  simp only [List.nil_append, OwnCs]
  exact ⟨v, [], S1, [], by simp, by simp, ht, rfl, rfl⟩
 | x :: r, cs, S, h => by
  simp only [OwnCs] at h
  obtain ⟨w, c', S2, S3, rfl, rfl, h1, h2⟩ := h
  simp only [List.cons_append, OwnCs]
  exact ⟨w, c' ++ flat v, S2, S3 ++ S1, by simp, by simp, h1, ownCs_snoc ht r c' S3 h2⟩
theorem wbuf_le {n : Nat} {E : TypeId} {σ0 σ σ' : AS} {v : AV} {xs : List AV} (h : WBuf n E σ0 σ v xs) (hl : σ.le σ') : WBuf n E σ0 σ' v xs := by
 cases h with
 | nil h => exact .nil (h.trans hl)
 | row b xs h h0 h1 hb hx => exact .row b xs (h.trans hl) h0 h1 (hl.box _ _ hb) hx
theorem wbuf_notRow {n : Nat} {E : TypeId} {σ0 σ : AS} {v : AV} {xs : List AV} (h : WBuf n E σ0 σ v xs) {c : Nat} (hc : σ.box c = none) : notRow v c := by
 cases h with
 | nil h => trivial
 | row b xs h h0 h1 hb hx => exact fun e => by rw [e, hb] at hc; cases hc
theorem NewS.more {σ σ2 σ5 : AS} {S S1 : List Nat} (h : NewS σ σ2 S) (h1 : ∀ b, b ∈ S1 -> σ2.box b = none /\ σ2.tip b = none) (hd : S1.Nodup) (hl : σ.le σ5) (ho : ∀ b, b ∈ S ++ S1 -> ∃ z, σ5.box b = some z) : NewS σ σ5 (S ++ S1) := by
 refine ⟨hl, fun b hb => ?_, ?_, ho⟩
 ·rcases List.mem_append.1 hb with hb | hb
  ·exact h.fr b hb
  ·exact ⟨le_none h.le (h1 b hb).1, le_noTip h.le (h1 b hb).2⟩
 ·refine List.nodup_append.2 ⟨h.nd, hd, fun a ha b hb e => ?_⟩
  subst e
  obtain ⟨z, hz⟩ := h.on a ha
  rw [(h1 a hb).1] at hz; cases hz
set_option maxHeartbeats 4000000 in
theorem lentTs_own (l : List Term) (hl : l.length <= 1000000000) (hf : ∀ x, x ∈ l -> ∀ σ, Tri Tryz.prog G 8 [x.enc] σ fun r σ' => ∃ S, OwnT σ' true x r S /\ NewS σ σ' S) (σ : AS) : Tri Tryz.prog G 38 [encs l] σ fun r σ' => ∃ S, OwnR σ' true l r S /\ NewS σ σ' S := by
 have hw0 : IntKind.i64.wrap ((l.length : Int) + 12) = l.length + 12 := wrap_nat (by omega) (by omega)
 refine Tri.of_awp mixed Tryz.func38 rfl (by kernel_rfl) (by kernel_rfl) (by simp [Tryz.ntmps38]) Tryz.results38 ?_
 repeat' (first | (refine wn ?_; intro bx hbx; try simp only [fb] at hbx) | (refine make_wb (l.length + 12) (by omega) tfN tfTZ (by omega) (AS.le.refl σ) (fun v σ1 hB1 => ?_)) | refine wj ?_ | simp -dsimp only [↓bp, bq, br, seval, tbTreeL, *] | refine wz ?_ | fail)
 have hC0 : OwnCs σ1 true (l.take 0) (([] : List AV).flatMap flat) [] := by simp [OwnCs]
 have hN0 : NewS σ σ1 [] := ⟨hB1.le, by simp, by simp, by simp⟩
 refine loop_intro (fun n e σ' => ∃ (i : Nat) (v : AV) (vs : List AV) (S : List Nat), i <= l.length /\ n = l.length - i /\ e 4 = .int .i64 i /\ e 3 = v /\ WBuf 7 26 σ σ' v vs /\ vs.length = i /\ OwnCs σ' true (l.take i) (vs.flatMap flat) S /\ NewS σ σ' S /\ (∀ b, b ∈ S -> notRow v b)) l.length
  ⟨0, v, [], [], by omega, by omega, by first | (simp -dsimp only [↓bp, bq, br, seval, tbTreeL]; done) | (simp -dsimp only [↓bp, bq, br, seval, tbTreeL]; try rfl), by first | (simp -dsimp only [↓bp, bq, br, seval, tbTreeL]; done) | (simp -dsimp only [↓bp, bq, br, seval, tbTreeL]; try rfl), hB1, rfl, hC0, hN0, by simp⟩ ?_
 clear hB1 hC0 hN0
 rintro n e1 σ2 ⟨i, v2, vs, S, hi, rfl, h4, h3, hB, hvl, hO, hN, hR⟩
 simp -dsimp only [↓bp, bq, br, seval, tbTreeL] at h4 h3
 by_cases hlt : i < l.length
 ·have hlt' : ((i : Int) < l.length) = True := eq_true (by omega)
  obtain ⟨k, hk⟩ : ∃ k, l[i]? = some k := ⟨_, List.getElem?_eq_getElem hlt⟩
  have hc := hf k (List.mem_of_getElem? hk)
  have hwi : IntKind.i64.wrap ((i : Int) + 1) = ((i + 1 : Nat) : Int) := by rw [wrap_nat (by omega) (by omega)]; rfl
  clear hf hw0
  repeat' (first | (refine wn ?_; intro bx hbx; try simp only [fb] at hbx) | ((refine Tri.mono (hc _) ?_; rintro r σ3 ⟨S1, hO1, hN1⟩; have hsh := ownT_shape hO1; obtain ⟨vl, vk, vt, Sl, Sk, St, rfl, hSS, g1, g2, g3⟩ := (ownT_eq _ _ _ _ _).1 hO1; obtain ⟨a1, a2, a7⟩ := g1.one; obtain ⟨a3, a4, a8⟩ := g2.one; obtain ⟨a5, a6, a9⟩ := g3.one)) | refine wj ?_ | simp -dsimp only [↓bp, bq, br, seval, tbTreeL, *] | refine wz ?_ | fail)
  have hl3 := hN1.le
  have hl4 : σ2.le (σ3.setBox bx [.int .u8 k.knd, .bool k.neg, vl, .str k.text, .int .i64 k.num, vk, vt]) := hl3.setBox (le_none hl3 hbx.1) _
  have hB4 := wbuf_le hB hl4
  have hR1 : ∀ b, b ∈ S1 -> notRow v2 b := fun b hb => wbuf_notRow hB (hN1.fr b hb).1
  have hK4 : ∀ b, b ∈ S ++ S1 -> ∃ z, (σ3.setBox bx [.int .u8 k.knd, .bool k.neg, vl, .str k.text, .int .i64 k.num, vk, vt]).box b = some z /\ notRow v2 b := fun b hb => by
   rcases List.mem_append.1 hb with hb | hb
   ·obtain ⟨z, hz⟩ := hN.on b hb
    exact ⟨z, hl4.box _ _ hz, hR b hb⟩
   ·obtain ⟨z, hz⟩ := hN1.on b hb
    exact ⟨z, set_other hz (fun e => by rw [e, hbx.1] at hz; cases hz), hR1 b hb⟩
  have hO4 : OwnCs (σ3.setBox bx [.int .u8 k.knd, .bool k.neg, vl, .str k.text, .int .i64 k.num, vk, vt]) true (l.take i) (vs.flatMap flat) S := hO.keep (same_le hl4 hO.on)
  have hO14 : OwnT (σ3.setBox bx [.int .u8 k.knd, .bool k.neg, vl, .str k.text, .int .i64 k.num, vk, vt]) true k (.agg [.int .u8 k.knd, .bool k.neg, vl, .str k.text, .int .i64 k.num, vk, vt]) S1 := ownT_keep k _ S1 hO1 fun b hb => by
   obtain ⟨z, hz⟩ := hN1.on b hb
   rw [hz]
   exact set_other hz (fun e => by rw [e, hbx.1] at hz; cases hz)
  clear hc g1 g2 g3 hO hO1 hSS hl3
  repeat' (first | (refine wn ?_; intro bx hbx; try simp only [fb] at hbx) | ((refine app_wb (ys := [.agg [.int .u8 k.knd, .bool k.neg, vl, .str k.text, .int .i64 k.num, vk, vt]]) hB4 tfN (asrc_sl tfE) (fun a ha => by simp at ha; subst ha; exact ⟨hsh.1, hsh.2.1⟩) (by simp; omega) (fun v5 σ5 hA => ?_))) | refine wj ?_ | simp -dsimp only [↓bp, bq, br, seval, tbTreeL, *] | refine wz ?_ | fail)
  have hK5 : ∀ b, b ∈ S ++ S1 -> σ5.box b = (σ3.setBox bx [.int .u8 k.knd, .bool k.neg, vl, .str k.text, .int .i64 k.num, vk, vt]).box b /\ notRow v5 b := fun b hb => by
   obtain ⟨z, hz, hn⟩ := hK4 b hb
   obtain ⟨h1, h2⟩ := hA.keep b z hz hn
   exact ⟨by rw [h1, hz], h2⟩
  have hC5 : OwnCs σ5 true (l.take (i + 1)) ((vs ++ [AV.agg [.int .u8 k.knd, .bool k.neg, vl, .str k.text, .int .i64 k.num, vk, vt]]).flatMap flat) (S ++ S1) := by
   rw [take_succ_get _ _ _ hk, List.flatMap_append, List.flatMap_cons, List.flatMap_nil, List.append_nil]
   exact ownCs_snoc (ownT_keep k _ S1 hO14 fun b hb => (hK5 b (List.mem_append_right _ hb)).1) _ _ _ (hO4.keep fun b hb => (hK5 b (List.mem_append_left _ hb)).1)
  exact ⟨l.length - (i + 1), by omega, i + 1, v5, vs ++ [AV.agg [.int .u8 k.knd, .bool k.neg, vl, .str k.text, .int .i64 k.num, vk, vt]], S ++ S1, by omega, rfl, rfl, rfl, hA.buf, by simp [hvl], hC5, hN.more hN1.fr hN1.nd hA.buf.le (fun b hb => by obtain ⟨z, hz, _⟩ := hK4 b hb; exact ⟨z, by rw [(hK5 b hb).1, hz]⟩), fun b hb => (hK5 b hb).2⟩
 ·have : i = l.length := by omega
  subst this
  have hlt' : ((l.length : Int) < l.length) = False := eq_false (by omega)
  rw [List.take_length] at hO
  clear hf hw0 hlt hi
  repeat' (first | (refine wn ?_; intro bx hbx; try simp only [fb] at hbx) | refine wj ?_ | simp -dsimp only [↓bp, bq, br, seval, tbTreeL, *] | refine wz ?_ | fail)
  refine loop_intro (fun n e σ' => ∃ (i : Nat) (v : AV), i <= 12 /\ n = 12 - i /\ e 6 = .int .i64 i /\ e 3 = v /\ WBuf 7 26 σ σ' v (vs ++ marksTo 1 i) /\ OwnCs σ' true l (vs.flatMap flat) S /\ (∀ b, b ∈ S -> notRow v b)) 12
   ⟨0, v2, by omega, by omega, by first | (simp -dsimp only [↓bp, bq, br, seval, tbTreeL]; done) | (simp -dsimp only [↓bp, bq, br, seval, tbTreeL]; try rfl), by first | (simp -dsimp only [↓bp, bq, br, seval, tbTreeL]; done) | (simp -dsimp only [↓bp, bq, br, seval, tbTreeL]; exact h3), by simpa [marksTo] using hB, hO, hR⟩ ?_
  clear hB hO hR
  rintro n e2 σ3 ⟨j, v3, hj, rfl, h6, h3', hB, hO, hR⟩
  simp -dsimp only [↓bp, bq, br, seval, tbTreeL] at h6 h3'
  by_cases hltj : (j : Int) < 12
  ·have hlt12 := eq_true hltj
   have hp := markTerm_pure G 1 j
   have hwj : IntKind.i64.wrap ((j : Int) + 1) = ((j + 1 : Nat) : Int) := by rw [wrap_nat (by omega) (by omega)]; rfl
   have hlen : (vs ++ marksTo 1 j).length <= 1000000012 := by rw [List.length_append, marksTo_len]; omega
   repeat' (first | (refine wn ?_; intro bx hbx; try simp only [fb] at hbx) | refine wp hp ?_ | ((refine app_wb (ys := [(markT 1 (j : Int)).enc]) hB tfN (asrc_sl tfE) (fun a ha => by simp at ha; subst ha; exact ⟨by rw [Term.flat_enc]; rfl, Term.isv_enc _⟩) (by simp only [List.length_cons, List.length_nil]; omega) (fun v5 σ5 hA => ?_))) | refine wj ?_ | simp -dsimp only [↓bp, bq, br, seval, tbTreeL, *] | refine wz ?_ | fail)
   have hK5 : ∀ b, b ∈ S -> σ5.box b = σ3.box b /\ notRow v5 b := fun b hb => by
    obtain ⟨z, hz⟩ := hO.on b hb
    obtain ⟨h1, h2⟩ := hA.keep b z hz (hR b hb)
    exact ⟨by rw [h1, hz], h2⟩
   exact ⟨12 - (j + 1), by omega, j + 1, v5, by omega, rfl, rfl, rfl, by rw [marksTo_succ, <- List.append_assoc]; exact hA.buf, hO.keep fun b hb => (hK5 b hb).1, fun b hb => (hK5 b hb).2⟩
  ·have : j = 12 := by omega
   subst this
   have hlt12 : (((12 : Nat) : Int) < 12) = False := by simp
   have hne : vs ++ marksTo 1 12 ≠ [] := fun e => by have := congrArg List.length e; simp [marksTo_len] at this
   obtain ⟨r, hv, hr1, hr2, hr3⟩ := hB.form hne
   have hle := hB.le
   have hlen : (vs ++ marksTo 1 12).length = l.length + 12 := by rw [List.length_append, hvl, marksTo_len]
   rw [hlen] at hv
   subst hv
   rw [List.flatMap_append] at hr1
   have hll : l.length <= l.length + 12 := by omega
   have hOn : ∀ b, b ∈ r :: S -> ∃ z, σ3.box b = some z := fun b hb => by
    rcases List.mem_cons.1 hb with rfl | hb
    ·exact ⟨_, hr1⟩
    ·exact hO.on b hb
   have hNew : NewS σ σ3 (r :: S) := ⟨hle, fun b hb => by
    rcases List.mem_cons.1 hb with rfl | hb
    ·exact ⟨hr2, hr3⟩
    ·exact hN.fr b hb, List.nodup_cons.2 ⟨fun hb => hR r hb rfl, hN.nd⟩, hOn⟩
   have hFin : OwnR σ3 true l (.bs r l.length 7 26) (r :: S) := .inr ⟨r, _, _, S, rfl, rfl, hr1, rfl, hO⟩
   clear hB hne hlen hj hltj hR hN hr1 hr2 hr3 hvl hO hOn
   repeat' (first | (refine wn ?_; intro bx hbx; try simp only [fb] at hbx) | refine wj ?_ | simp -dsimp only [↓bp, bq, br, seval, tbTreeL, *] | refine wz ?_ | fail)
   all_goals exact finishW_some _ (AS.le.refl _) ⟨_, hFin, hNew⟩
theorem lent_own (t : Term) (hb : t.bulk <= 1000000000) (σ : AS) : Tri Tryz.prog G 8 [t.enc] σ fun r σ' => ∃ S, OwnT σ' true t r S /\ NewS σ σ' S := by
 revert hb σ
 refine Term.ind (P := fun t => t.bulk <= 1000000000 -> ∀ σ, Tri Tryz.prog G 8 [t.enc] σ fun r σ' => ∃ S, OwnT σ' true t r S /\ NewS σ σ' S) (fun t ih1 ih2 hb => ?_) t
 have hl1 := fun σ => lentTs_own G t.items (by have := len_items t; omega) (fun x hx => ih1 x hx (by have := bulk_item hx; omega)) σ
 have hl2 := fun σ => lentTs_own G t.tail (by have := len_tail t; omega) (fun x hx => ih2 x hx (by have := bulk_tail hx; omega)) σ
 have hl3 := fun σ => lentlims_own G t.limbs (by have := len_limbs t; omega) σ
 clear ih1 ih2
 intro σ
 refine Tri.of_awp mixed Tryz.func8 rfl (by kernel_rfl) (by kernel_rfl) (by simp [Tryz.ntmps8]) Tryz.results8 ?_
 simp -dsimp only [↓bp, bq, br, seval, tbTreeL]
 refine newW_intro fun b1 hb1 => ?_
 simp -dsimp only [↓bp, bq, br, seval, tbTreeL]
 refine newT_plain fun b2 hb2 => ?_
 simp only [fb] at hb2
 obtain ⟨hb2, hn1, hn2⟩ := hb2
 obtain ⟨A0, hA0⟩ : ∃ S, S = (σ.setBox b1 [.int .u8 t.knd, .bool t.neg, lims t.limbs, .str t.text, .int .i64 t.num, encs t.items, encs t.tail]).setBox b2 [.int .u8 0, .bool false, .nil, .str [], .int .i64 0, .nil, .nil] := ⟨_, rfl⟩
 have l0 : σ.le A0 := by rw [hA0]; exact ((AS.le.refl σ).setBox hb1.1 _).setBox hb2.1 _
 have e1 : A0.box b1 = some [.int .u8 t.knd, .bool t.neg, lims t.limbs, .str t.text, .int .i64 t.num, encs t.items, encs t.tail] := by rw [hA0]; simp [AS.setBox, hn1, hn2]
 have e2 : A0.box b2 = some [.int .u8 0, .bool false, .nil, .str [], .int .i64 0, .nil, .nil] := by rw [hA0]; simp [AS.setBox]
 rw [<- hA0]
 clear hA0
 repeat' (first | (refine wn ?_; intro bx hbx; try simp only [fb] at hbx) | refine wj ?_ | simp -dsimp only [↓bp, bq, br, seval, tbTreeL, *] | refine wz ?_ | fail)
 refine Tri.mono (hl3 _) ?_
 rintro vl s1 ⟨Sl, hL, hN1⟩
 obtain ⟨a1, a2, a7⟩ := hL.one
 have f1 := hN1.le.box _ _ e1
 have f2 := hN1.le.box _ _ e2
 have n1 : ∀ b, b ∈ Sl -> b ≠ b1 /\ b ≠ b2 := fun b hb => ⟨fun e => (by rw [e] at hb; rw [(hN1.fr b1 hb).1] at e1; cases e1), fun e => (by rw [e] at hb; rw [(hN1.fr b2 hb).1] at e2; cases e2)⟩
 have N1 : ∀ C, NewS σ (s1.setBox b1 C) Sl := fun C => ⟨(l0.trans hN1.le).setBox hb1.1 _, fun b hb => ⟨le_none l0 (hN1.fr b hb).1, le_noTip l0 (hN1.fr b hb).2⟩, hN1.nd, fun b hb => by
  obtain ⟨z, hz⟩ := hN1.on b hb
  exact ⟨z, set_other hz (n1 b hb).1⟩⟩
 clear hl3 e1 e2
 repeat' (first | (refine wn ?_; intro bx hbx; try simp only [fb] at hbx) | refine wj ?_ | simp -dsimp only [↓bp, bq, br, seval, tbTreeL, *] | refine wz ?_ | fail)
 refine Tri.mono (hl1 _) ?_
 rintro vk s2 ⟨Sk, hK, hN2⟩
 obtain ⟨a3, a4, a8⟩ := hK.one
 have g1 := hN2.le.box b1 _ AS.set_get
 have g2 := hN2.le.box b2 _ (set_other f2 hn1)
 have n2 : ∀ b, b ∈ Sk -> b ≠ b1 /\ b ≠ b2 := fun b hb => ⟨fun e => (by rw [e] at hb; have := (hN2.fr b1 hb).1; rw [AS.set_get] at this; cases this), fun e => by rw [e] at hb; have := (hN2.fr b2 hb).1; rw [set_other f2 hn1] at this; cases this⟩
 clear hl1 f1 f2
 repeat' (first | (refine wn ?_; intro bx hbx; try simp only [fb] at hbx) | refine wj ?_ | simp -dsimp only [↓bp, bq, br, seval, tbTreeL, *] | refine wz ?_ | fail)
 refine Tri.mono (hl2 _) ?_
 rintro vt s3 ⟨St, hT, hN3⟩
 obtain ⟨a5, a6, a9⟩ := hT.one
 have k1 := hN3.le.box b1 _ AS.set_get
 have k2 := hN3.le.box b2 _ (set_other g2 hn1)
 have n3 : ∀ b, b ∈ St -> b ≠ b1 /\ b ≠ b2 := fun b hb => ⟨fun e => (by rw [e] at hb; have := (hN3.fr b1 hb).1; rw [AS.set_get] at this; cases this), fun e => by rw [e] at hb; have := (hN3.fr b2 hb).1; rw [set_other g2 hn1] at this; cases this⟩
 clear hl2 g1 g2
 repeat' (first | (refine wn ?_; intro bx hbx; try simp only [fb] at hbx) | refine wj ?_ | simp -dsimp only [↓bp, bq, br, seval, tbTreeL, *] | refine wz ?_ | fail)
 have on1 : ∀ b, b ∈ Sl -> ∃ z, s1.box b = some z /\ s2.box b = some z /\ s3.box b = some z := fun b hb => by
  obtain ⟨z, hz⟩ := hN1.on b hb
  have h2 := hN2.le.box b z (set_other hz (n1 b hb).1)
  have h3 := hN3.le.box b z (set_other h2 (n1 b hb).1)
  exact ⟨z, hz, h2, h3⟩
 have on2 : ∀ b, b ∈ Sk -> ∃ z, s2.box b = some z /\ s3.box b = some z := fun b hb => by
  obtain ⟨z, hz⟩ := hN2.on b hb
  exact ⟨z, hz, hN3.le.box b z (set_other hz (n2 b hb).1)⟩
 have t1 := (l0.trans hN1.le).setBox hb1.1 [.int .u8 t.knd, .bool t.neg, vl, .str t.text, .int .i64 t.num, encs t.items, encs t.tail]
 have t2 := (t1.trans hN2.le).setBox hb1.1 [.int .u8 t.knd, .bool t.neg, vl, .str t.text, .int .i64 t.num, vk, encs t.tail]
 have t3 := ((t2.trans hN3.le).setBox hb1.1 [.int .u8 t.knd, .bool t.neg, vl, .str t.text, .int .i64 t.num, vk, vt]).setBox hb2.1 [.int .u8 t.knd, .bool t.neg, vl, .str t.text, .int .i64 t.num, vk, vt]
 have M1 := N1 [.int .u8 t.knd, .bool t.neg, vl, .str t.text, .int .i64 t.num, encs t.items, encs t.tail]
 have M2 := M1.more hN2.fr hN2.nd t2 (fun b hb => by
  rcases List.mem_append.1 hb with hb | hb
  ·obtain ⟨z, _, hz, _⟩ := on1 b hb
   exact ⟨z, set_other hz (n1 b hb).1⟩
  ·obtain ⟨z, hz, _⟩ := on2 b hb
   exact ⟨z, set_other hz (n2 b hb).1⟩)
 have M3 := M2.more hN3.fr hN3.nd t3 (fun b hb => by
  rcases List.mem_append.1 hb with hb | hb
  ·rcases List.mem_append.1 hb with hb | hb
   ·obtain ⟨z, _, _, hz⟩ := on1 b hb
    exact ⟨z, set_other (set_other hz (n1 b hb).1) (n1 b hb).2⟩
   ·obtain ⟨z, _, hz⟩ := on2 b hb
    exact ⟨z, set_other (set_other hz (n2 b hb).1) (n2 b hb).2⟩
  ·obtain ⟨z, hz⟩ := hN3.on b hb
   exact ⟨z, set_other (set_other hz (n3 b hb).1) (n3 b hb).2⟩)
 rw [List.append_assoc] at M3
 refine finishW_some _ (AS.le.refl _) ⟨_, (ownT_eq _ _ _ _ _).2 ⟨vl, vk, vt, Sl, Sk, St, rfl, rfl, hL.keep fun b hb => ?_, hK.keep fun b hb => ?_, hT.keep fun b hb => ?_⟩, M3⟩
 ·obtain ⟨z, hz, _, h3⟩ := on1 b hb
  rw [hz]
  exact set_other (set_other h3 (n1 b hb).1) (n1 b hb).2
 ·obtain ⟨z, hz, h3⟩ := on2 b hb
  rw [hz]
  exact set_other (set_other h3 (n2 b hb).1) (n2 b hb).2
 ·obtain ⟨z, hz⟩ := hN3.on b hb
  rw [hz]
  exact set_other (set_other hz (n3 b hb).1) (n3 b hb).2
end Go.Proofs.YtdhbdhopnpmboaaGreatDoor
set_option maxRecDepth 20000
namespace Go.Proofs.YtdhbdhopnpmboaaGreatDoor
open Go Go.Av
def OwnIn (s : AS) (P : Nat -> Bool) (cs : List AV) (S : List Nat) : Prop := (∀ c, c ∈ cs -> ownC P c = true) /\ ∀ b, b ∈ S -> ∃ ds, s.box b = some ds /\ ∀ c, c ∈ ds -> ownC P c = true
theorem OwnL.inn {s : AS} {l : List UInt32} {v : AV} {S : List Nat} (h : OwnL s false l v S) (P : Nat -> Bool) (hP : ∀ b, b ∈ S -> P b = true) : OwnIn s P [v] S := by
 rcases h with ⟨_, rfl, rfl, rfl⟩ | ⟨b, rest, rfl, rfl, hb, rfl⟩
 ·exact ⟨fun c hc => by simp at hc; subst hc; rfl, fun b hb => by cases hb⟩
 ·refine ⟨fun c hc => by simp at hc; subst hc; exact hP b (by simp), fun c hc => ?_⟩
  simp at hc; subst hc
  refine ⟨_, hb, fun c hc => ?_⟩
  simp only [restL, List.append_nil] at hc
  obtain ⟨x, _, rfl⟩ := List.mem_map.1 hc
  rfl
theorem ownCs_inn {s : AS} : ∀ (l : List Term) (cs : List AV) (S : List Nat), (∀ t, t ∈ l -> ∀ v S, OwnT s false t v S -> ∀ P : Nat -> Bool, (∀ b, b ∈ S -> P b = true) -> OwnIn s P (flat v) S) -> OwnCs s false l cs S -> ∀ P : Nat -> Bool, (∀ b, b ∈ S -> P b = true) -> OwnIn s P cs S
 | [], cs, S, _, h, P, _ => by
  simp only [OwnCs] at h
  obtain ⟨rfl, rfl⟩ := h
  exact ⟨fun c hc => (by cases hc), fun b hb => (by cases hb)⟩
 | t :: r, cs, S, hQ, h, P, hP => by
  simp only [OwnCs] at h
  obtain ⟨v, c', S1, S2, rfl, rfl, h1, h2⟩ := h
  obtain ⟨p1, p2⟩ := hQ t List.mem_cons_self v S1 h1 P (fun b hb => hP b (List.mem_append_left _ hb))
  obtain ⟨q1, q2⟩ := ownCs_inn r c' S2 (fun t ht => hQ t (List.mem_cons_of_mem _ ht)) h2 P (fun b hb => hP b (List.mem_append_right _ hb))
  refine ⟨fun c hc => ?_, fun b hb => ?_⟩
  ·rcases List.mem_append.1 hc with hc | hc
   ·exact p1 c hc
   ·exact q1 c hc
  ·rcases List.mem_append.1 hb with hb | hb
   ·exact p2 b hb
   ·exact q2 b hb
theorem ownR_inn {s : AS} (l : List Term) (hQ : ∀ t, t ∈ l -> ∀ v S, OwnT s false t v S -> ∀ P : Nat -> Bool, (∀ b, b ∈ S -> P b = true) -> OwnIn s P (flat v) S) (v : AV) (S : List Nat) (h : OwnR s false l v S) (P : Nat -> Bool) (hP : ∀ b, b ∈ S -> P b = true) : OwnIn s P [v] S := by
 rcases h with ⟨_, rfl, rfl, rfl⟩ | ⟨b, cs, rest, S', rfl, rfl, hb, rfl, hc⟩
 ·exact ⟨fun c hc => by simp at hc; subst hc; rfl, fun b hb => by cases hb⟩
 ·obtain ⟨p1, p2⟩ := ownCs_inn l cs S' hQ hc P (fun b hb => hP b (List.mem_cons_of_mem _ hb))
  refine ⟨fun c hc => by simp at hc; subst hc; exact hP b List.mem_cons_self, fun c hc => ?_⟩
  rcases List.mem_cons.1 hc with rfl | hc
  ·exact ⟨_, hb, fun d hd => by simp only [restT, List.append_nil] at hd; exact p1 d hd⟩
  ·exact p2 c hc
theorem ownT_inn {s : AS} (t : Term) : ∀ (v : AV) (S : List Nat), OwnT s false t v S -> ∀ P : Nat -> Bool, (∀ b, b ∈ S -> P b = true) -> OwnIn s P (flat v) S := by
 refine Term.ind (P := fun t => ∀ (v : AV) (S : List Nat), OwnT s false t v S -> ∀ P : Nat -> Bool, (∀ b, b ∈ S -> P b = true) -> OwnIn s P (flat v) S) (fun t ih1 ih2 => ?_) t
 intro v S h P hP
 rw [ownT_eq] at h
 obtain ⟨vl, vk, vt, Sl, Sk, St, rfl, rfl, h1, h2, h3⟩ := h
 obtain ⟨a1, a2⟩ := h1.inn P (fun b hb => hP b (by simp [hb]))
 obtain ⟨b1, b2⟩ := ownR_inn t.items ih1 vk Sk h2 P (fun b hb => hP b (by simp [hb]))
 obtain ⟨c1, c2⟩ := ownR_inn t.tail ih2 vt St h3 P (fun b hb => hP b (by simp [hb]))
 refine ⟨fun c hc => ?_, fun b hb => ?_⟩
 ·simp only [flat, List.mem_cons, List.not_mem_nil, or_false] at hc
  rcases hc with rfl | rfl | rfl | rfl | rfl | rfl | rfl
  ·rfl
  ·rfl
  ·exact a1 _ (by simp)
  ·rfl
  ·rfl
  ·exact b1 _ (by simp)
  ·exact c1 _ (by simp)
 ·rcases List.mem_append.1 hb with hb | hb
  ·exact a2 b hb
  rcases List.mem_append.1 hb with hb | hb
  ·exact b2 b hb
  ·exact c2 b hb
theorem own_lendT {P : Program} {G : Nat -> AV} {f : FuncId} {args args' : List AV} {t : Term} {σ : AS} (h : Tri P G f args' σ.shut fun r s => ∃ S, OwnT s false t r S /\ NewS σ.shut s S) (hl : Lends G σ args args') : Tri P G f args σ fun r s => ∃ S, OwnT s false t r S /\ NewS σ s S :=
 lend_new G h hl fun r s ⟨S, hO, hN⟩ hn => by
  have hin := ownT_inn t r S hO (fun b => decide (b ∈ S)) (fun b hb => by simpa using hb)
  have hk : ∀ b, b ∈ S -> (σ.join (fun b => decide (b ∈ S)) s).box b = s.box b := fun b hb => by
   obtain ⟨z, hz⟩ := hN.on b hb
   simp only [AS.join, (hn b z hz).1]
   simp [hb]
  refine ⟨fun b => decide (b ∈ S), ?_, fun b hb => hin.2 b (by simpa using hb), S, ownT_keep t r S hO hk, AS.le_join _ _ _, fun b hb => ?_, hN.nd, fun b hb => ?_⟩
  ·have h2 := (ownT_eq _ _ _ _ _).1 hO
   obtain ⟨vl, vk, vt, Sl, Sk, St, rfl, _⟩ := h2
   simp only [ownV, List.all_eq_true]
   exact hin.1
  ·obtain ⟨z, hz⟩ := hN.on b hb
   exact hn b z hz
  ·obtain ⟨z, hz⟩ := hN.on b hb
   exact ⟨z, by rw [hk b hb, hz]⟩
end Go.Proofs.YtdhbdhopnpmboaaGreatDoor
