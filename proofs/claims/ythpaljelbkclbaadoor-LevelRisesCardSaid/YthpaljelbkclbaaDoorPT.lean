/-
  TYPED DATA, and how it lies in cells.
-/
import Derived.Test.YthpaljelbkclbaaDoorAbsLst
namespace Go.Abs
open Go

/-! ### lists -/
inductive F2 {α γ : Type} (R : α → γ → Prop) : List α → List γ → Prop
  | nil : F2 R [] []
  | cons {a : α} {b : γ} {l : List α} {r : List γ} (h : R a b) (t : F2 R l r) : F2 R (a :: l) (b :: r)
theorem F2.length {α γ : Type} {R : α → γ → Prop} {l : List α} {r : List γ} (h : F2 R l r) : l.length = r.length := by
  induction h with
  | nil => rfl
  | cons _ _ ih => simp [ih]
theorem F2.mono {α γ : Type} {R S : α → γ → Prop} (hRS : ∀ a b, R a b → S a b) {l : List α} {r : List γ} (h : F2 R l r) : F2 S l r := by
  induction h with
  | nil => exact .nil
  | cons h _ ih => exact .cons (hRS _ _ h) ih
theorem F2.append {α γ : Type} {R : α → γ → Prop} {l l' : List α} {r r' : List γ} (h : F2 R l r) (h' : F2 R l' r') : F2 R (l ++ l') (r ++ r') := by
  induction h with
  | nil => exact h'
  | cons h _ ih => exact .cons h ih
theorem F2.get {α γ : Type} {R : α → γ → Prop} {l : List α} {r : List γ} (h : F2 R l r) {i : Nat} {b : γ} (hb : r[i]? = some b) : ∃ a, l[i]? = some a ∧ R a b := by
  induction h generalizing i with
  | nil => simp at hb
  | cons h _ ih => cases i with
    | zero => simp at hb; subst hb; exact ⟨_, rfl, h⟩
    | succ i => simp at hb; simpa using ih hb

/-- The place of the first that is so; -1: none. -/
def idx {α : Type} (p : α → Bool) (l : List α) : Int := match l.findIdx? p with
  | some i => (i : Int)
  | none => -1
theorem idx_hit {α : Type} {p : α → Bool} {l : List α} {i : Nat} {x : α} (hx : l[i]? = some x) (hp : p x = true) (hn : ∀ (j : Nat) (y : α), j < i → l[j]? = some y → p y = false) : idx p l = i := by
  have : l.findIdx? p = some i := by
    rw [List.findIdx?_eq_some_iff_getElem]
    obtain ⟨hi, rfl⟩ := List.getElem?_eq_some_iff.1 hx
    refine ⟨hi, hp, fun j hj => ?_⟩
    have := hn j _ hj (List.getElem?_eq_getElem (by omega))
    simpa using this
  unfold idx; rw [this]
theorem idx_none {α : Type} {p : α → Bool} {l : List α} (hn : ∀ (j : Nat) (y : α), l[j]? = some y → p y = false) : idx p l = -1 := by
  have : l.findIdx? p = none := by
    rw [List.findIdx?_eq_none_iff]
    intro x hx
    obtain ⟨j, hj⟩ := List.getElem?_of_mem hx
    exact hn j x hj
  unfold idx; rw [this]
theorem idx_any {α : Type} (p : α → Bool) (l : List α) : decide (0 ≤ idx p l) = l.any p := by
  unfold idx
  cases h : l.findIdx? p with
  | some i =>
    rw [List.findIdx?_eq_some_iff_getElem] at h
    obtain ⟨hi, hp, _⟩ := h
    have : l.any p = true := List.any_eq_true.2 ⟨l[i], List.getElem_mem hi, hp⟩
    rw [this]; simp
  | none =>
    rw [List.findIdx?_eq_none_iff] at h
    have : l.any p = false := by rw [List.any_eq_false]; intro x hx; simp [h x hx]
    rw [this]; simp
theorem idx_range {α : Type} (p : α → Bool) (l : List α) : idx p l = -1 ∨ ∃ (i : Nat) (x : α), idx p l = i ∧ l[i]? = some x ∧ p x = true := by
  unfold idx
  cases h : l.findIdx? p with
  | some i =>
    rw [List.findIdx?_eq_some_iff_getElem] at h
    obtain ⟨hi, hp, _⟩ := h
    exact .inr ⟨i, l[i], rfl, List.getElem?_eq_getElem hi, hp⟩
  | none => exact .inl rfl

def tabGet {α : Type} (l : List (Int × α)) (n : Int) : Option α := match l with
  | [] => none
  | (m, v) :: l => if n = m then some v else tabGet l n
theorem assoc_map {α : Type} (f : α → AV) (n : Int) : ∀ l : List (Int × α), assoc (l.map fun p => (p.1, f p.2)) n = (tabGet l n).map f
  | [] => rfl
  | (m, v) :: l => by
    simp only [List.map_cons, assoc, tabGet]
    by_cases h : n = m
    · simp only [if_pos h]; rfl
    · simp only [if_neg h]; exact assoc_map f n l
theorem lkM_str (l : List (Int × List UInt8)) (n : Int) : lkM true (.str []) (assoc (l.map fun p => (p.1, .str p.2)) n) = .tuple [.str ((tabGet l n).getD []), .bool (tabGet l n).isSome] := by
  rw [assoc_map AV.str]; cases tabGet l n <;> rfl
/-! ### entries, logs -/
structure Ent where
  term : Int
  index : Int
  kind : Int
  client : Int
  seq : Int
  block : Int
  many : Int
  node : Int
  level : Int
  data : List UInt8
  old : List UInt8
  deriving DecidableEq
def Ent.cells (e : Ent) : List AV := [.int .u64 e.term, .int .u64 e.index, .int .i64 e.kind, .int .u64 e.client, .int .u64 e.seq, .int .u64 e.block, .int .u64 e.many, .int .i64 e.node, .int .i64 e.level, .str e.data, .str e.old]
theorem Ent.cells_len (e : Ent) : e.cells.length = 11 := rfl
theorem Ent.c0 (e : Ent) : e.cells[0]? = some (.int .u64 e.term) := rfl
theorem Ent.c1 (e : Ent) : e.cells[1]? = some (.int .u64 e.index) := rfl
theorem Ent.c2 (e : Ent) : e.cells[2]? = some (.int .i64 e.kind) := rfl
theorem Ent.c3 (e : Ent) : e.cells[3]? = some (.int .u64 e.client) := rfl
theorem Ent.c4 (e : Ent) : e.cells[4]? = some (.int .u64 e.seq) := rfl
theorem Ent.c5 (e : Ent) : e.cells[5]? = some (.int .u64 e.block) := rfl
theorem Ent.c6 (e : Ent) : e.cells[6]? = some (.int .u64 e.many) := rfl
theorem Ent.c7 (e : Ent) : e.cells[7]? = some (.int .i64 e.node) := rfl
theorem Ent.c8 (e : Ent) : e.cells[8]? = some (.int .i64 e.level) := rfl
theorem Ent.c9 (e : Ent) : e.cells[9]? = some (.str e.data) := rfl
theorem Ent.c10 (e : Ent) : e.cells[10]? = some (.str e.old) := rfl
theorem Ent.take (e : Ent) : List.take 11 e.cells = e.cells := rfl
theorem Ent.over (a b c d f g h i j k l : AV) (e : Ent) : splice [a, b, c, d, f, g, h, i, j, k, l] 0 e.cells = e.cells := rfl
theorem Ent.over' (e' e : Ent) : splice e'.cells 0 e.cells = e.cells := rfl
attribute [go_sem] Ent.take Ent.over Ent.over' Nat.sub_zero Ent.cells_len Ent.c0 Ent.c1 Ent.c2 Ent.c3 Ent.c4 Ent.c5 Ent.c6 Ent.c7 Ent.c8 Ent.c9 Ent.c10
abbrev Ents (σ : St) (v : AV) (l : List Ent) : Prop := SlR σ v 11 (l.map Ent.cells)
/-- A slice of things that lie in cells. -/
theorem SlR.atM {α : Type} {enc : α → List AV} {σ : St} {v : AV} {esz : Nat} {l : List α} (h : SlR σ v esz (l.map enc)) {i : Nat} {x : α} (hx : l[i]? = some x) :
    ∃ id off cap, v = .slice id off l.length cap esz ∧ id < σ.next ∧ i < l.length ∧ ldN (cellsOf σ id) (off + i * esz) esz = some (enc x) ∧ (0 < esz → ld1 (cellsOf σ id) (off + i * esz) = (enc x)[0]?) ∧ (∀ f, f < esz → ld1 (cellsOf σ id) (off + i * esz + f) = (enc x)[f]?) := by
  obtain ⟨id, off, cap, h1, h2, h3, h4, h5, h6⟩ := h.at_ (i := i) (x := enc x) (by rw [List.getElem?_map, hx]; rfl)
  rw [List.length_map] at h1 h3
  exact ⟨id, off, cap, h1, h2, h3, h4, h5, h6⟩
theorem SlR.slenM {α : Type} {enc : α → List AV} {σ : St} {v : AV} {esz : Nat} {l : List α} (h : SlR σ v esz (l.map enc)) : Abs.slen v = l.length := by rw [h.slen, List.length_map]
def ic (n : Int) : List AV := [.int .i64 n]
theorem ic_len (n : Int) : (ic n).length = 1 := rfl
theorem ic_0 (n : Int) : (ic n)[0]? = some (.int .i64 n) := rfl
attribute [go_sem] ic_len ic_0
abbrev Ints (σ : St) (v : AV) (l : List Int) : Prop := SlR σ v 1 (l.map ic)

structure Lg where
  base : Int
  bterm : Int
  l : List Ent

/-! ### messages -/
structure Mg where
  kind : Int
  from_ : Int
  to : Int
  term : Int
  index : Int
  prev : Int
  commit : Int
  mark : Int
  ok : Bool
  entries : List Ent
  snap : List UInt8
def Mg.cells (m : Mg) (ev : AV) : List AV := [.int .i64 m.kind, .int .i64 m.from_, .int .i64 m.to, .int .u64 m.term, .int .u64 m.index, .int .u64 m.prev, .int .u64 m.commit, .int .u64 m.mark, .bool m.ok, ev, .str m.snap]
/-- A message as it lies in cells. -/
def MgR (σ : St) (cs : List AV) (m : Mg) : Prop := ∃ ev, cs = m.cells ev ∧ Ents σ ev m.entries
theorem MgR.len {σ : St} {cs : List AV} {m : Mg} (h : MgR σ cs m) : cs.length = 11 := by obtain ⟨ev, rfl, _⟩ := h; rfl
theorem MgR.ext {σ σ' : St} {F : List Nat} {cs : List AV} {m : Mg} (h : MgR σ cs m) (he : Ext [] F σ σ') : MgR σ' cs m := by obtain ⟨ev, h1, h2⟩ := h; exact ⟨ev, h1, h2.ext he⟩
/-- A function that asks: it leaves all as it was. -/
def Asks (C : Cfg) {α : Type} (enc : α → AV) (l : List α) (σ : St) (f : AV) (p : α → Bool) : Prop :=
  ∀ x ∈ l, ∀ σ1, Ext [] [] σ σ1 → ∃ σ2, callV (W C) f [enc x] σ1 = some (.bool (p x), σ2) ∧ Ext [] [] σ1 σ2
theorem Asks.mono {C : Cfg} {α : Type} {enc : α → AV} {l : List α} {σ σ' : St} {f : AV} {p : α → Bool} (h : Asks C enc l σ f p) (he : Ext [] [] σ σ') : Asks C enc l σ' f p := fun x hx σ1 h1 => h x hx σ1 (he.trans h1)
end Go.Abs
