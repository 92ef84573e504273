/-
  HOW THE ABSTRACT STORE STANDS FOR A WORLD: values, objects, the store; what a step leaves alone.
-/
import Derived.Test.YthpaljelbkclbaaDoorAbsLem
import Derived.Laws.Sem
import Derived.Laws.World
import Derived.Laws.Cells
namespace Go.Abs
open Go

/-- Where an object lies: its block, the place in it, how many cells the block has. -/
abbrev Pl := Nat → Option (Nat × Nat × Nat)

def Pl.le (ρ ρ' : Pl) : Prop := ∀ id p, ρ id = some p → ρ' id = some p
theorem Pl.le.refl (ρ : Pl) : Pl.le ρ ρ := fun _ _ h => h
theorem Pl.le.trans {ρ ρ' ρ'' : Pl} (h : Pl.le ρ ρ') (h' : Pl.le ρ' ρ'') : Pl.le ρ ρ'' := fun id p e => h' id p (h id p e)

def Pl.upd (ρ : Pl) (id : Nat) (p : Nat × Nat × Nat) : Pl := fun j => if j = id then some p else ρ j
theorem Pl.upd_same (ρ : Pl) (id : Nat) (p : Nat × Nat × Nat) : ρ.upd id p id = some p := by simp [Pl.upd]
theorem Pl.le_upd {ρ : Pl} {id : Nat} (p : Nat × Nat × Nat) (h : ρ id = none) : Pl.le ρ (ρ.upd id p) := fun j q e => by
  unfold Pl.upd
  split
  · rename_i hj; subst hj; rw [h] at e; cases e
  · exact e

mutual
/-- An abstract value stands for a value. -/
inductive VR (ρ : Pl) : AV → Value → Prop
  | bool (b : Bool) : VR ρ (.bool b) (.bool b)
  | int (k : IntKind) (n : Int) : VR ρ (.int k n) (.int k n)
  | str (s : List UInt8) : VR ρ (.str s) (.string ⟨⟨s⟩⟩)
  | nilPtr : VR ρ .nilPtr (.pointer none)
  | ptr {id off b o sz : Nat} (h : ρ id = some (b, o, sz)) : VR ρ (.ptr id off) (.pointer (some ⟨b, o + off, none⟩))
  | nilSlice : VR ρ .nilSlice (.slice none 0 0)
  | slice {id off len cap esz b o sz cap' : Nat} (h : ρ id = some (b, o, sz)) (hl : len ≤ cap) (hc : cap ≤ cap') (hz : o + off + cap' * esz ≤ sz) :
      VR ρ (.slice id off len cap esz) (.slice (some ⟨b, o + off, none⟩) len cap')
  | sliceE {id off esz : Nat} (a : Addr) : VR ρ (.slice id off 0 0 esz) (.slice (some a) 0 0)
  | nilMap : VR ρ .nilMap (.map none)
  | map {id b sz : Nat} (h : ρ id = some (b, 0, sz)) : VR ρ (.map id) (.map (some b))
  | nilFunc : VR ρ .nilFunc .nilFunc
  | fn {f : FuncId} {xs ys : List AV} {xs' ys' : Array Value} (h : VRs ρ xs xs'.toList) (h' : VRs ρ ys ys'.toList) : VR ρ (.fn f xs ys) (.func (.func f) xs' ys')
  | yield {id b sz : Nat} (h : ρ id = some (b, 0, sz)) : VR ρ (.yield id) (.func (.yield b) #[] #[])
  | nilIface : VR ρ .nilIface .nilIface
  | agg {cs : List AV} {cs' : Array Value} (h : VRs ρ cs cs'.toList) (h1 : ∀ c ∈ cs, c.one = true) : VR ρ (.agg cs) (.agg cs')
  | tuple {vs : List AV} {vs' : Array Value} (h : VRs ρ vs vs'.toList) : VR ρ (.tuple vs) (.tuple vs')
inductive VRs (ρ : Pl) : List AV → List Value → Prop
  | nil : VRs ρ [] []
  | cons {v : AV} {x : Value} {l : List AV} {r : List Value} (h : VR ρ v x) (t : VRs ρ l r) : VRs ρ (v :: l) (x :: r)
end

mutual
theorem VR.mono {ρ ρ' : Pl} (hle : Pl.le ρ ρ') : ∀ {v : AV} {x : Value}, VR ρ v x → VR ρ' v x
  | _, _, .bool b => .bool b
  | _, _, .int k n => .int k n
  | _, _, .str s => .str s
  | _, _, .nilPtr => .nilPtr
  | _, _, .ptr h => .ptr (hle _ _ h)
  | _, _, .nilSlice => .nilSlice
  | _, _, .slice h hl hc hz => .slice (hle _ _ h) hl hc hz
  | _, _, .sliceE a => .sliceE a
  | _, _, .nilMap => .nilMap
  | _, _, .map h => .map (hle _ _ h)
  | _, _, .nilFunc => .nilFunc
  | _, _, .fn h h' => .fn (VRs.mono hle h) (VRs.mono hle h')
  | _, _, .yield h => .yield (hle _ _ h)
  | _, _, .nilIface => .nilIface
  | _, _, .agg h h1 => .agg (VRs.mono hle h) h1
  | _, _, .tuple h => .tuple (VRs.mono hle h)
theorem VRs.mono {ρ ρ' : Pl} (hle : Pl.le ρ ρ') : ∀ {l : List AV} {r : List Value}, VRs ρ l r → VRs ρ' l r
  | _, _, .nil => .nil
  | _, _, .cons h t => .cons (VR.mono hle h) (VRs.mono hle t)
end

section lists
variable {ρ : Pl}

theorem VRs.length {l : List AV} {r : List Value} (h : VRs ρ l r) : l.length = r.length := by
  induction l generalizing r with
  | nil => cases h; rfl
  | cons v l ih => cases h with
    | cons h t => simp [ih t]

theorem VRs.get {l : List AV} {r : List Value} (h : VRs ρ l r) {i : Nat} {v : AV} (hv : l[i]? = some v) : ∃ x, r[i]? = some x ∧ VR ρ v x := by
  induction l generalizing r i with
  | nil => simp at hv
  | cons w l ih => cases h with
    | cons h t => cases i with
      | zero => simp at hv; subst hv; exact ⟨_, rfl, h⟩
      | succ i => simp at hv; simpa using ih t hv

theorem VRs.get' {l : List AV} {r : List Value} (h : VRs ρ l r) {i : Nat} {x : Value} (hx : r[i]? = some x) : ∃ v, l[i]? = some v ∧ VR ρ v x := by
  have hlt : i < r.length := (List.getElem?_eq_some_iff.1 hx).1
  have hl : i < l.length := by rw [h.length]; exact hlt
  obtain ⟨x', hx', hv⟩ := h.get (List.getElem?_eq_getElem hl)
  rw [hx] at hx'; cases hx'
  exact ⟨_, List.getElem?_eq_getElem hl, hv⟩

theorem VRs.of_get {l : List AV} {r : List Value} (hl : l.length = r.length) (h : ∀ (i : Nat) (v : AV) (x : Value), l[i]? = some v → r[i]? = some x → VR ρ v x) : VRs ρ l r := by
  induction l generalizing r with
  | nil => cases r with
    | nil => exact .nil
    | cons x r => simp at hl
  | cons v l ih => cases r with
    | nil => simp at hl
    | cons x r => exact .cons (h 0 v x rfl rfl) (ih (by simpa using hl) fun i v x hv hx => h (i + 1) v x (by simpa using hv) (by simpa using hx))

theorem VRs.append {l m : List AV} {r s : List Value} (h : VRs ρ l r) (h' : VRs ρ m s) : VRs ρ (l ++ m) (r ++ s) := by
  induction l generalizing r with
  | nil => cases h; exact h'
  | cons v l ih => cases h with
    | cons h t => exact .cons h (ih t)

theorem VRs.take {l : List AV} {r : List Value} (h : VRs ρ l r) (n : Nat) : VRs ρ (l.take n) (r.take n) := by
  induction n generalizing l r with
  | zero => simp; exact .nil
  | succ n ih => cases h with
    | nil => simp; exact .nil
    | cons h t => exact .cons h (ih t)

theorem VRs.drop {l : List AV} {r : List Value} (h : VRs ρ l r) (n : Nat) : VRs ρ (l.drop n) (r.drop n) := by
  induction n generalizing l r with
  | zero => simpa using h
  | succ n ih => cases h with
    | nil => simp; exact .nil
    | cons h t => exact ih t

theorem VRs.set {l : List AV} {r : List Value} (h : VRs ρ l r) (n : Nat) {v : AV} {x : Value} (hv : VR ρ v x) : VRs ρ (l.set n v) (r.set n x) := by
  induction n generalizing l r with
  | zero => cases h with
    | nil => exact .nil
    | cons h t => exact .cons hv t
  | succ n ih => cases h with
    | nil => exact .nil
    | cons h t => exact .cons h (ih t)

theorem VR.undef : VR ρ .undef undef := .tuple .nil

theorem VRs.getD {l : List AV} {r : List Value} (h : VRs ρ l r) (n : Nat) : VR ρ (l.getD n .undef) (r.getD n undef) := by
  rw [List.getD_eq_getElem?_getD, List.getD_eq_getElem?_getD]
  cases hn : l[n]? with
  | none =>
    have : r[n]? = none := by
      rw [List.getElem?_eq_none_iff] at hn ⊢
      rw [← h.length]; exact hn
    rw [this]; exact VR.undef
  | some v =>
    obtain ⟨x, hx, hv⟩ := h.get hn
    rw [hx]; exact hv

theorem VRs.replicate (n : Nat) {v : AV} {x : Value} (hv : VR ρ v x) : VRs ρ (List.replicate n v) (List.replicate n x) := by
  induction n with
  | zero => exact .nil
  | succ n ih => exact .cons hv ih

/-- A value of one cell stands for one. -/
theorem VR.one {v : AV} {x : Value} (h : VR ρ v x) : v.one = x.oneCell' := by cases h <;> rfl

theorem VR.cells {v : AV} {x : Value} (h : VR ρ v x) (ht : ∀ vs, v ≠ .tuple vs) : VRs ρ v.cells x.cells.toList ∧ ∀ c ∈ v.cells, c.one = true := by
  cases h with
  | agg h h1 => exact ⟨h, h1⟩
  | tuple h => exact absurd rfl (ht _)
  | bool b => exact ⟨.cons (.bool b) .nil, by simp [AV.cells, AV.one]⟩
  | int k n => exact ⟨.cons (.int k n) .nil, by simp [AV.cells, AV.one]⟩
  | str s => exact ⟨.cons (.str s) .nil, by simp [AV.cells, AV.one]⟩
  | nilPtr => exact ⟨.cons .nilPtr .nil, by simp [AV.cells, AV.one]⟩
  | ptr h => exact ⟨.cons (.ptr h) .nil, by simp [AV.cells, AV.one]⟩
  | nilSlice => exact ⟨.cons .nilSlice .nil, by simp [AV.cells, AV.one]⟩
  | slice h hl hc hz => exact ⟨.cons (.slice h hl hc hz) .nil, by simp [AV.cells, AV.one]⟩
  | sliceE a => exact ⟨.cons (.sliceE a) .nil, by simp [AV.cells, AV.one]⟩
  | nilMap => exact ⟨.cons .nilMap .nil, by simp [AV.cells, AV.one]⟩
  | map h => exact ⟨.cons (.map h) .nil, by simp [AV.cells, AV.one]⟩
  | nilFunc => exact ⟨.cons .nilFunc .nil, by simp [AV.cells, AV.one]⟩
  | fn h h' => exact ⟨.cons (.fn h h') .nil, by simp [AV.cells, AV.one]⟩
  | yield h => exact ⟨.cons (.yield h) .nil, by simp [AV.cells, AV.one]⟩
  | nilIface => exact ⟨.cons .nilIface .nil, by simp [AV.cells, AV.one]⟩

theorem VRs.one {l : List AV} {r : List Value} (h : VRs ρ l r) (h1 : ∀ c ∈ l, c.one = true) : ∀ x ∈ r, x.oneCell' = true := by
  induction l generalizing r with
  | nil => cases h; simp
  | cons v l ih => cases h with
    | cons h t =>
      intro x hx
      rcases List.mem_cons.1 hx with rfl | hx
      · rw [← h.one]; exact h1 _ (by simp)
      · exact ih t (fun c hc => h1 c (by simp [hc])) x hx
end lists

/-! ### Constants -/
theorem ofVal1_one {v : Value} {a : AV} (h : ofVal1 v = some a) : a.one = true := by
  unfold ofVal1 at h
  split at h <;> first | (cases h; rfl) | cases h

theorem VR.ofVal1 {ρ : Pl} {v : Value} {a : AV} (h : ofVal1 v = some a) : VR ρ a v := by
  unfold Go.Abs.ofVal1 at h
  split at h <;> cases h
  · exact .bool _
  · exact .int _ _
  · exact .str _
  · exact .nilPtr
  · exact .nilSlice
  · exact .nilMap
  · exact .nilFunc
  · exact .nilIface

theorem ofVals_cons (v : Value) (l : List Value) : ofVals (v :: l) = match ofVal1 v with
    | some a => match ofVals l with
      | some r => some (a :: r)
      | none => none
    | none => none := rfl

theorem VRs.ofVals {ρ : Pl} {l : List Value} {r : List AV} (h : ofVals l = some r) : VRs ρ r l ∧ ∀ c ∈ r, c.one = true := by
  induction l generalizing r with
  | nil => cases h; exact ⟨.nil, by simp⟩
  | cons v l ih =>
    rw [ofVals_cons] at h
    split at h
    · rename_i a ha
      split at h
      · rename_i r' hr
        cases h
        obtain ⟨h1, h2⟩ := ih hr
        exact ⟨.cons (.ofVal1 ha) h1, fun c hc => by
          rcases List.mem_cons.1 hc with rfl | hc
          · exact ofVal1_one ha
          · exact h2 c hc⟩
      · cases h
    · cases h

theorem VR.ofVal {ρ : Pl} {v : Value} {a : AV} (h : ofVal v = some a) : VR ρ a v := by
  unfold Go.Abs.ofVal at h
  split at h
  · split at h
    · rename_i l hl
      cases h
      obtain ⟨h1, h2⟩ := VRs.ofVals (ρ := ρ) hl
      exact .agg h1 h2
    · cases h
  · rename_i cs
    split at h
    · rename_i hcs
      cases h
      have : cs = #[] := by cases cs; simp_all
      subst this
      exact VR.undef
    · cases h
  · exact .ofVal1 h

/-! ### Objects -/

def ER (ρ : Pl) (e : AEntry) (e' : MapEntry) : Prop := VR ρ e.key e'.key ∧ VR ρ e.val e'.val ∧ e.born = e'.born

inductive ERs (ρ : Pl) : List AEntry → List MapEntry → Prop
  | nil : ERs ρ [] []
  | cons {e : AEntry} {e' : MapEntry} {l : List AEntry} {r : List MapEntry} (h : ER ρ e e') (t : ERs ρ l r) : ERs ρ (e :: l) (e' :: r)

theorem ERs.mono {ρ ρ' : Pl} (hle : Pl.le ρ ρ') {l : List AEntry} {r : List MapEntry} (h : ERs ρ l r) : ERs ρ' l r := by
  induction h with
  | nil => exact .nil
  | cons h _ ih => exact .cons ⟨h.1.mono hle, h.2.1.mono hle, h.2.2⟩ ih

/-- The record of a range over a function: its function's number is not looked at. -/
def LR (ρ : Pl) (l : ALoop) (l' : Loop) : Prop :=
  l.state = l'.state ∧ l.pending = l'.pending ∧ VRs ρ l.tmps l'.tmps.toList ∧ l.params = l'.params.toList ∧ l.assign = l'.assign ∧ l.body = l'.body ∧
    ∃ sz, ρ l.defers = some (l'.defers, 0, sz)

/-- What lies at a block stands for an object. -/
def ObjR (ρ : Pl) (ob : AObj) (o sz : Nat) (x : Option Obj) : Prop :=
  match ob with
  | .cells vs fz _ => ∃ c t fr, x = some (.cells c t fr) ∧ c.size = sz ∧ o + vs.length ≤ sz ∧
      (∀ i v, vs[i]? = some v → v.one = true ∧ ∃ y, c[o + i]? = some y ∧ VR ρ v y) ∧ (∀ i, o + fz ≤ i → i < sz → (fr.1 ≤ i && i < fr.2) = false)
  | .map es clock => o = 0 ∧ ∃ es', x = some (.map es' clock) ∧ ERs ρ es es'.toList
  | .mapIter m since seen stepped => o = 0 ∧ ∃ m', x = some (.mapIter m' since seen.toArray stepped) ∧ (match m with
      | none => m' = none
      | some r => ∃ b sz, ρ r = some (b, 0, sz) ∧ m' = some b)
  | .loop l => o = 0 ∧ ∃ l', x = some (.loop l') ∧ LR ρ l l'
  | .deferred => o = 0 ∧ x = some (.deferred (some []))
  | .dead => True

def AObj.alive : AObj → Bool
  | .dead => false
  | _ => true

/-- May it be written? -/
def AObj.rw : AObj → Bool
  | .dead => false
  | .cells _ _ ro => !ro
  | _ => true

theorem ObjR.mono {ρ ρ' : Pl} (hle : Pl.le ρ ρ') {ob : AObj} {o sz : Nat} {x : Option Obj} (h : ObjR ρ ob o sz x) : ObjR ρ' ob o sz x := by
  cases ob with
  | cells vs fz ro =>
    obtain ⟨c, t, fr, hx, hs, hl, hc, hf⟩ := h
    exact ⟨c, t, fr, hx, hs, hl, fun i v hv => let ⟨a, y, b, d⟩ := hc i v hv; ⟨a, y, b, d.mono hle⟩, hf⟩
  | map es clock =>
    obtain ⟨ho, es', hx, h⟩ := h
    exact ⟨ho, es', hx, h.mono hle⟩
  | mapIter m since seen stepped =>
    obtain ⟨ho, m', hx, h⟩ := h
    refine ⟨ho, m', hx, ?_⟩
    cases m with
    | none => exact h
    | some r => obtain ⟨b, sz, hr, e⟩ := h; exact ⟨b, sz, hle _ _ hr, e⟩
  | loop l =>
    obtain ⟨ho, l', hx, h1, h2, h3, h4, h5, h6, sz, h7⟩ := h
    exact ⟨ho, l', hx, h1, h2, h3.mono hle, h4, h5, h6, sz, hle _ _ h7⟩
  | deferred => exact h
  | dead => trivial

/-! ### The store -/

/-- Two objects of one block, at their places in it: one of them at most may be written, and where it may the other one has no cells. -/
def Apart (o : Nat) (ob : AObj) (o' : Nat) (ob' : AObj) : Prop :=
  match ob, ob' with
  | .dead, _ => True
  | _, .dead => True
  | .cells vs fz ro, .cells vs' fz' ro' => (ro = true ∨ ro' = true) ∧ (ro = false → o' + vs'.length ≤ o + fz) ∧ (ro' = false → o + vs.length ≤ o' + fz')
  | _, _ => False

theorem Apart.dead_left {o : Nat} {o' : Nat} {ob' : AObj} : Apart o .dead o' ob' := by unfold Apart; split <;> first | trivial | contradiction
theorem Apart.dead_right {o : Nat} {ob : AObj} {o' : Nat} : Apart o ob o' .dead := by cases ob <;> trivial
theorem Apart.symm {o : Nat} {ob : AObj} {o' : Nat} {ob' : AObj} (h : Apart o ob o' ob') : Apart o' ob' o ob := by
  cases ob <;> cases ob' <;> first | trivial | (exact ⟨h.1.symm, h.2.2, h.2.1⟩) | (cases h; done)
/-- Beside a living object that has no cells nothing lives. -/
theorem Apart.lone {o : Nat} {ob : AObj} {o' : Nat} {ob' : AObj} (h : Apart o ob o' ob') (ha : ob.alive = true) (hn : ∀ vs fz ro, ob ≠ .cells vs fz ro) : ob' = .dead := by
  cases ob' with
  | dead => rfl
  | _ => cases ob <;> first | exact absurd rfl (hn _ _ _) | (cases ha; done) | (cases h; done)

structure Rep (ρ : Pl) (σ : St) (w : World) : Prop where
  dom : ∀ id p, ρ id = some p → id < σ.next ∧ p.1 < w.heap.size
  obj : ∀ id b o sz ob, ρ id = some (b, o, sz) → σ.get id = some ob → ObjR ρ ob o sz w.heap[b]?
  inj : ∀ id id' b o sz o' sz' ob ob', id ≠ id' → ρ id = some (b, o, sz) → ρ id' = some (b, o', sz') → σ.get id = some ob → σ.get id' = some ob' → Apart o ob o' ob'

/-- A block that an object that may be written stands for. -/
def Own (ρ : Pl) (σ : St) (b : Nat) : Prop := ∃ id o sz ob, ρ id = some (b, o, sz) ∧ σ.get id = some ob ∧ ob.rw = true

/-- What a step leaves alone: every block that no writable object stands for. -/
def Keep (ρ : Pl) (σ : St) (w : World) (ρ' : Pl) (σ' : St) (w' : World) : Prop :=
  w.heap.size ≤ w'.heap.size ∧ ∀ b, b < w.heap.size → ¬ Own ρ σ b → w'.heap[b]? = w.heap[b]? ∧ ¬ Own ρ' σ' b

theorem Keep.refl (ρ : Pl) (σ : St) (w : World) : Keep ρ σ w ρ σ w := ⟨Nat.le_refl _, fun _ _ h => ⟨rfl, h⟩⟩
theorem Keep.trans {ρ ρ' ρ'' : Pl} {σ σ' σ'' : St} {w w' w'' : World} (h : Keep ρ σ w ρ' σ' w') (h' : Keep ρ' σ' w' ρ'' σ'' w'') : Keep ρ σ w ρ'' σ'' w'' :=
  ⟨Nat.le_trans h.1 h'.1, fun b hb ho => by
    obtain ⟨e, ho'⟩ := h.2 b hb ho
    obtain ⟨e', ho''⟩ := h'.2 b (Nat.lt_of_lt_of_le hb h.1) ho'
    exact ⟨e'.trans e, ho''⟩⟩

/-- The store and the world have gone on. -/
structure Step (ρ : Pl) (σ : St) (w : World) (ρ' : Pl) (σ' : St) (w' : World) : Prop where
  le : Pl.le ρ ρ'
  rep : Rep ρ' σ' w'
  keep : Keep ρ σ w ρ' σ' w'
  next : σ.next ≤ σ'.next
  old : ∀ id, id < σ.next → ρ' id = ρ id
  env : w'.os = w.os ∧ w'.output = w.output

theorem Step.refl {ρ : Pl} {σ : St} {w : World} (h : Rep ρ σ w) : Step ρ σ w ρ σ w := ⟨.refl _, h, .refl _ _ _, Nat.le_refl _, fun _ _ => rfl, rfl, rfl⟩
theorem Step.trans {ρ ρ' ρ'' : Pl} {σ σ' σ'' : St} {w w' w'' : World} (h : Step ρ σ w ρ' σ' w') (h' : Step ρ' σ' w' ρ'' σ'' w'') : Step ρ σ w ρ'' σ'' w'' :=
  ⟨h.le.trans h'.le, h'.rep, h.keep.trans h'.keep, Nat.le_trans h.next h'.next, fun id hid => (h'.old id (Nat.lt_of_lt_of_le hid h.next)).trans (h.old id hid), h'.env.1.trans h.env.1, h'.env.2.trans h.env.2⟩

/-- One block of a world turned. -/
def _root_.Go.World.putObj_ (w : World) (b : Nat) (x : Obj) : World := { w with heap := w.heap.setIfInBounds b x }

theorem heap_put (w : World) (b b' : Nat) (x : Obj) : (w.putObj_ b x).heap[b']? = if b' = b ∧ b < w.heap.size then some x else w.heap[b']? := by
  unfold Go.World.putObj_
  simp only [Array.getElem?_setIfInBounds]
  by_cases e : b = b'
  · subst e
    by_cases h : b < w.heap.size
    · simp [h]
    · simp [h]
  · simp [e, Ne.symm e]
@[simp] theorem size_put (w : World) (b : Nat) (x : Obj) : (w.putObj_ b x).heap.size = w.heap.size := by simp [Go.World.putObj_]

theorem heap_alloc (w : World) (b : Nat) (x : Obj) : (w.alloc x).heap[b]? = if b = w.heap.size then some x else w.heap[b]? := by
  simp only [World.alloc, Array.getElem?_push]

section moves
variable {ρ : Pl} {σ : St} {w : World}

theorem Rep.drew (h : Rep ρ σ w) (n : Nat) : Rep ρ σ { w with drawn := n } := ⟨h.dom, h.obj, h.inj⟩
theorem Keep.drew (n : Nat) : Keep ρ σ w ρ σ { w with drawn := n } := ⟨Nat.le_refl _, fun _ _ h => ⟨rfl, h⟩⟩
theorem Step.drew (h : Rep ρ σ w) (n : Nat) : Step ρ σ w ρ σ { w with drawn := n } := ⟨.refl _, h.drew n, .drew n, Nat.le_refl _, fun _ _ => rfl, rfl, rfl⟩

theorem Rep.none_of_next (h : Rep ρ σ w) : ρ σ.next = none := by
  cases e : ρ σ.next with
  | none => rfl
  | some p => exact absurd (h.dom _ _ e).1 (Nat.lt_irrefl _)

/-- What a turned object has to keep: with cells: its kind, its head of cells that may be frozen, and, of its block, all that stands ahead of what it may write. -/
def Keeps (o : Nat) (ob ob' : AObj) (old : Option Obj) (x : Obj) : Prop :=
  match ob with
  | .cells _ fz _ => (∃ vs', ob' = .cells vs' fz false) ∧ ∀ c t fr, old = some (.cells c t fr) → ∃ c', x = .cells c' t fr ∧ c'.size = c.size ∧ ∀ i, i < o + fz → c'[i]? = c[i]?
  | _ => True

/-- What stands ahead of what is written stays. -/
theorem ObjR.ahead {ρ : Pl} {vs : List AV} {fz k o sz : Nat} {ro : Bool} {old x : Obj} (h : ObjR ρ (.cells vs fz ro) o sz (some old))
    (hk : ∀ c t fr, old = .cells c t fr → ∃ c', x = .cells c' t fr ∧ c'.size = c.size ∧ ∀ i, i < k → c'[i]? = c[i]?) (hl : o + vs.length ≤ k) : ObjR ρ (.cells vs fz ro) o sz (some x) := by
  obtain ⟨c, t, fr, hx, hs, hlen, hc, hf⟩ := h
  cases hx
  obtain ⟨c', rfl, hs', hcc⟩ := hk _ _ _ rfl
  refine ⟨c', t, fr, rfl, hs'.trans hs, hlen, fun i v hv => ?_, hf⟩
  obtain ⟨h1, y, hy, hr⟩ := hc i v hv
  have hi := (List.getElem?_eq_some_iff.1 hv).1
  exact ⟨h1, y, by rw [hcc _ (by omega)]; exact hy, hr⟩

/-- An object turned, and its block with it. -/
theorem Step.put (h : Rep ρ σ w) {id b o sz : Nat} {ob ob' : AObj} {x : Obj} (hρ : ρ id = some (b, o, sz)) (hg : σ.get id = some ob) (hrw : ob.rw = true)
    (hk : Keeps o ob ob' w.heap[b]? x) (hx : ObjR ρ ob' o sz (some x)) : Step ρ σ w ρ (σ.set id ob') (w.putObj_ b x) := by
  have ha : ob.alive = true := by cases ob <;> first | rfl | cases hrw
  have hid := St.get_lt hg
  have hb := (h.dom _ _ hρ).2
  have oth : ∀ j o' sz' ob'', j ≠ id → ρ j = some (b, o', sz') → σ.get j = some ob'' → ObjR ρ ob'' o' sz' (some x) ∧ Apart o ob' o' ob'' := by
    intro j o' sz' ob'' e hj hg'
    have hap := h.inj id j _ _ _ _ _ _ _ (Ne.symm e) hρ hj hg hg'
    have hold := h.obj _ _ _ _ _ hj hg'
    cases ob with
    | cells vs fz ro =>
      obtain ⟨⟨vs', rfl⟩, hc⟩ := hk
      cases ob'' with
      | dead => exact ⟨trivial, Apart.dead_right⟩
      | cells vs2 fz2 ro2 =>
        cases ro with
        | true => cases hrw
        | false =>
        obtain ⟨h1, h2, h3⟩ := hap
        have h2 := h2 rfl
        have hro : ro2 = true := by simpa using h1
        subst hro
        refine ⟨?_, .inr rfl, fun _ => h2, fun h => by cases h⟩
        obtain ⟨ox, hox⟩ : ∃ ox, w.heap[b]? = some ox := ⟨_, Array.getElem?_eq_getElem hb⟩
        rw [hox] at hold hc
        exact ObjR.ahead hold (fun c t fr e => hc c t fr (by rw [e])) h2
      | _ => cases hap
    | _ =>
      have := hap.lone ha (fun _ _ _ e => by cases e)
      subst this
      exact ⟨trivial, Apart.dead_right⟩
  refine ⟨.refl _, ⟨fun j p hj => ?_, fun j b' o' sz' ob'' hj hg' => ?_, ?_⟩, ⟨?_, ?_⟩, Nat.le_refl _, fun _ _ => rfl, rfl, rfl⟩
  · have := h.dom j p hj; simpa using this
  · rw [St.get_set] at hg'
    rw [heap_put]
    by_cases e : j = id
    · subst e
      rw [hρ] at hj; cases hj
      rw [if_pos rfl, if_pos hid] at hg'; cases hg'
      rw [if_pos ⟨rfl, hb⟩]; exact hx
    · rw [if_neg e] at hg'
      by_cases e' : b' = b
      · subst e'
        rw [if_pos ⟨rfl, hb⟩]
        exact (oth j _ _ _ e hj hg').1
      · rw [if_neg (fun hh => e' hh.1)]; exact h.obj _ _ _ _ _ hj hg'
  · intro j j' b' o1 s1 o2 s2 ob1 ob2 hne hj hj' hg1 hg2
    rw [St.get_set] at hg1 hg2
    by_cases e1 : j = id
    · subst e1
      rw [if_pos rfl, if_pos hid] at hg1; cases hg1
      rw [if_neg (Ne.symm hne)] at hg2
      rw [hρ] at hj; cases hj
      exact (oth j' _ _ _ (Ne.symm hne) hj' hg2).2
    · rw [if_neg e1] at hg1
      by_cases e2 : j' = id
      · subst e2
        rw [if_pos rfl, if_pos hid] at hg2; cases hg2
        rw [hρ] at hj'; cases hj'
        exact (oth j _ _ _ e1 hj hg1).2.symm
      · rw [if_neg e2] at hg2
        exact h.inj _ _ _ _ _ _ _ _ _ hne hj hj' hg1 hg2
  · simp
  · intro b' hb' ho
    rw [heap_put]
    by_cases e' : b' = b
    · subst e'
      exact absurd ⟨id, o, sz, ob, hρ, hg, hrw⟩ ho
    · refine ⟨if_neg (fun hh => e' hh.1), fun ⟨j, o1, s1, ob1, hj, hg1, hr1⟩ => ho ?_⟩
      rw [St.get_set] at hg1
      by_cases e : j = id
      · subst e; rw [hρ] at hj; cases hj; exact absurd rfl e'
      · rw [if_neg e] at hg1; exact ⟨j, o1, s1, ob1, hj, hg1, hr1⟩

/-- A new object in a new block. -/
theorem Step.alloc (h : Rep ρ σ w) {ob : AObj} {x : Obj} (sz : Nat) (hx : ∀ ρ', Pl.le ρ ρ' → ObjR ρ' ob 0 sz (some x)) :
    Step ρ σ w (ρ.upd σ.next (w.heap.size, 0, sz)) (σ.push ob) (w.alloc x) := by
  have hn := h.none_of_next
  have hle := Pl.le_upd (ρ := ρ) (w.heap.size, 0, sz) hn
  refine ⟨hle, ⟨fun j p hj => ?_, fun j b o sz' ob' hj hg => ?_, ?_⟩, ⟨?_, ?_⟩, Nat.le_succ _, fun id hid => if_neg (Nat.ne_of_lt hid), rfl, rfl⟩
  · unfold Pl.upd at hj
    split at hj
    · cases hj; rename_i e; subst e; simp
    · have := h.dom j p hj; simp; omega
  · rw [St.get_push] at hg
    rw [heap_alloc]
    unfold Pl.upd at hj
    by_cases e : j = σ.next
    · rw [if_pos e] at hj hg; cases hj; cases hg
      rw [if_pos rfl]; exact hx _ hle
    · rw [if_neg e] at hj hg
      have := (h.dom _ _ hj).2
      rw [if_neg (by simp at this; omega)]
      exact (h.obj _ _ _ _ _ hj hg).mono hle
  · intro j j' b o1 s1 o2 s2 ob1 ob2 hne hj hj' hg1 hg2
    rw [St.get_push] at hg1 hg2
    unfold Pl.upd at hj hj'
    by_cases e1 : j = σ.next
    · by_cases e2 : j' = σ.next
      · exact absurd (e1.trans e2.symm) hne
      · rw [if_pos e1] at hj; rw [if_neg e2] at hj'
        cases hj
        exact absurd (h.dom _ _ hj').2 (Nat.lt_irrefl _)
    · rw [if_neg e1] at hj hg1
      by_cases e2 : j' = σ.next
      · rw [if_pos e2] at hj'
        cases hj'
        exact absurd (h.dom _ _ hj).2 (Nat.lt_irrefl _)
      · rw [if_neg e2] at hj' hg2
        exact h.inj _ _ _ _ _ _ _ _ _ hne hj hj' hg1 hg2
  · simp
  · intro b hb ho
    rw [heap_alloc, if_neg (by omega)]
    refine ⟨rfl, fun ⟨j, o1, s1, ob1, hj, hg1, hr1⟩ => ho ?_⟩
    rw [St.get_push] at hg1
    unfold Pl.upd at hj
    by_cases e : j = σ.next
    · rw [if_pos e] at hj; cases hj; exact absurd hb (Nat.lt_irrefl _)
    · rw [if_neg e] at hj hg1; exact ⟨j, o1, s1, ob1, hj, hg1, hr1⟩

/-- An object is given up. -/
theorem Step.drop (h : Rep ρ σ w) (id : Nat) : Step ρ σ w ρ (σ.set id .dead) w := by
  refine ⟨.refl _, ⟨fun j p hj => by simpa using h.dom j p hj, fun j b o sz ob hj hg => ?_, ?_⟩, ⟨Nat.le_refl _, ?_⟩, Nat.le_refl _, fun _ _ => rfl, rfl, rfl⟩
  · rw [St.get_set] at hg
    split at hg
    · split at hg
      · cases hg; trivial
      · cases hg
    · exact h.obj _ _ _ _ _ hj hg
  · intro j j' b o1 s1 o2 s2 ob1 ob2 hne hj hj' hg1 hg2
    rw [St.get_set] at hg1 hg2
    split at hg1
    · split at hg1
      · cases hg1; exact Apart.dead_left
      · cases hg1
    · split at hg2
      · split at hg2
        · cases hg2; exact Apart.dead_right
        · cases hg2
      · exact h.inj _ _ _ _ _ _ _ _ _ hne hj hj' hg1 hg2
  · intro b hb ho
    refine ⟨rfl, fun ⟨j, o1, s1, ob1, hj, hg1, hr1⟩ => ho ?_⟩
    rw [St.get_set] at hg1
    split at hg1
    · split at hg1
      · cases hg1; cases hr1
      · cases hg1
    · exact ⟨j, o1, s1, ob1, hj, hg1, hr1⟩

/-- What is left of an object that was appended to: nothing, or its head, not to be written any more. -/
def Left (k fz : Nat) (vs : List AV) (ob : AObj) : Prop := ob = .dead ∨ ob = .cells (vs.take k) fz true

theorem Left.rw {k fz : Nat} {vs : List AV} {ob : AObj} (h : Left k fz vs ob) : ob.rw = false := by rcases h with rfl | rfl <;> rfl

/-- The head of an object stays to be read, or it is given up. -/
theorem Step.leave (h : Rep ρ σ w) {id fz : Nat} {vs : List AV} (k : Nat) (hg : σ.get id = some (.cells vs fz false)) {left : AObj} (hl : Left k fz vs left) : Step ρ σ w ρ (σ.set id left) w := by
  rcases hl with rfl | rfl
  · exact Step.drop h id
  have hid := St.get_lt hg
  refine ⟨.refl _, ⟨fun j p hj => by simpa using h.dom j p hj, fun j b o sz ob hj hg' => ?_, ?_⟩, ⟨Nat.le_refl _, ?_⟩, Nat.le_refl _, fun _ _ => rfl, rfl, rfl⟩
  · rw [St.get_set] at hg'
    by_cases e : j = id
    · subst e
      rw [if_pos rfl, if_pos hid] at hg'; cases hg'
      obtain ⟨c, t, fr, hx, hs, hlen, hc, hf⟩ := h.obj _ _ _ _ _ hj hg
      refine ⟨c, t, fr, hx, hs, by rw [List.length_take]; omega, fun i v hv => ?_, hf⟩
      rw [List.getElem?_take] at hv
      split at hv
      · exact hc i v hv
      · cases hv
    · rw [if_neg e] at hg'; exact h.obj _ _ _ _ _ hj hg'
  · have one : ∀ j b o s o' s' ob', j ≠ id → ρ id = some (b, o, s) → ρ j = some (b, o', s') → σ.get j = some ob' → Apart o (.cells (vs.take k) fz true) o' ob' := by
      intro j b o s o' s' ob' e hr hj hg'
      have hap := h.inj id j _ _ _ _ _ _ _ (Ne.symm e) hr hj hg hg'
      cases ob' with
      | dead => trivial
      | cells vs2 fz2 ro2 =>
        obtain ⟨h1, h2, h3⟩ := hap
        exact ⟨.inl rfl, fun h => (by cases h), fun h => by rw [List.length_take]; have := h3 h; omega⟩
      | _ => cases hap
    intro j j' b o1 s1 o2 s2 ob1 ob2 hne hj hj' hg1 hg2
    rw [St.get_set] at hg1 hg2
    by_cases e1 : j = id
    · subst e1
      rw [if_pos rfl, if_pos hid] at hg1; cases hg1
      rw [if_neg (Ne.symm hne)] at hg2
      exact one j' _ _ _ _ _ _ (Ne.symm hne) hj hj' hg2
    · rw [if_neg e1] at hg1
      by_cases e2 : j' = id
      · subst e2
        rw [if_pos rfl, if_pos hid] at hg2; cases hg2
        exact (one j _ _ _ _ _ _ e1 hj' hj hg1).symm
      · rw [if_neg e2] at hg2
        exact h.inj _ _ _ _ _ _ _ _ _ hne hj hj' hg1 hg2
  · intro b hb ho
    refine ⟨rfl, fun ⟨j, o1, s1, ob1, hj, hg1, hr1⟩ => ho ?_⟩
    rw [St.get_set] at hg1
    by_cases e : j = id
    · subst e
      rw [if_pos rfl, if_pos hid] at hg1; cases hg1; cases hr1
    · rw [if_neg e] at hg1; exact ⟨j, o1, s1, ob1, hj, hg1, hr1⟩

/-- An object is appended to in place: another one takes its block over; what is written stands behind its head of k cells. -/
theorem Step.take (h : Rep ρ σ w) {id b o sz fz fz' k o' : Nat} {vs vs' : List AV} {left : AObj} {x : Obj} (hρ : ρ id = some (b, o, sz)) (hg : σ.get id = some (.cells vs fz false)) (hl : Left k fz vs left)
    (hfk : fz ≤ k) (ho' : o + fz ≤ o' + fz') (hok : left ≠ .dead → o + k ≤ o' + fz')
    (hk : ∀ c t fr, w.heap[b]? = some (.cells c t fr) → ∃ c', x = .cells c' t fr ∧ c'.size = c.size ∧ ∀ i, i < o + k → c'[i]? = c[i]?)
    (hx : ∀ ρ', Pl.le ρ ρ' → ObjR ρ' (.cells vs' fz' false) o' sz (some x)) :
    Step ρ σ w (ρ.upd σ.next (b, o', sz)) ((σ.set id left).push (.cells vs' fz' false)) (w.putObj_ b x) := by
  have hn := h.none_of_next
  have hle := Pl.le_upd (ρ := ρ) (b, o', sz) hn
  have hid := St.get_lt hg
  have hb := (h.dom _ _ hρ).2
  have hs1 := Step.leave h k hg hl
  have h1 := hs1.rep
  obtain ⟨ox, hox⟩ : ∃ ox, w.heap[b]? = some ox := ⟨_, Array.getElem?_eq_getElem hb⟩
  have hold := h.obj _ _ _ _ _ hρ hg
  rw [hox] at hk hold
  -- the others of the block
  have oth : ∀ j o2 sz2 ob2, ρ j = some (b, o2, sz2) → (σ.set id left).get j = some ob2 → ObjR ρ ob2 o2 sz2 (some x) ∧ Apart o' (.cells vs' fz' false) o2 ob2 := by
    intro j o2 sz2 ob2 hj hg2
    by_cases e : j = id
    · subst e
      rw [St.get_set, if_pos rfl, if_pos hid] at hg2; cases hg2
      rw [hρ] at hj; cases hj
      rcases hl with rfl | rfl
      · exact ⟨trivial, Apart.dead_right⟩
      · have h2 := h1.obj j b o sz (.cells (vs.take k) fz true) hρ (by rw [St.get_set, if_pos rfl, if_pos hid])
        rw [hox] at h2
        refine ⟨ObjR.ahead h2 (fun c t fr e => hk c t fr (by rw [e])) (by rw [List.length_take]; omega), .inr rfl, fun _ => ?_, fun h => by cases h⟩
        have := hok (fun h => by cases h)
        rw [List.length_take]; omega
    · rw [St.get_set, if_neg e] at hg2
      have hap := h.inj id j _ _ _ _ _ _ _ (Ne.symm e) hρ hj hg hg2
      have h2 := h.obj _ _ _ _ _ hj hg2
      rw [hox] at h2
      cases ob2 with
      | dead => exact ⟨trivial, Apart.dead_right⟩
      | cells vs2 fz2 ro2 =>
        obtain ⟨g1, g2, g3⟩ := hap
        have g2 := g2 rfl
        have hro : ro2 = true := by simpa using g1
        subst hro
        exact ⟨ObjR.ahead h2 (fun c t fr e => hk c t fr (by rw [e])) (by omega), .inr rfl, fun _ => by omega, fun h => by cases h⟩
      | _ => cases hap
  refine ⟨hle, ⟨fun j p hj => ?_, fun j b' o1 sz' ob'' hj hg' => ?_, ?_⟩, ⟨?_, ?_⟩, Nat.le_succ _, fun id hid => if_neg (Nat.ne_of_lt hid), rfl, rfl⟩
  · unfold Pl.upd at hj
    split at hj
    · cases hj; rename_i e; subst e; simp; exact hb
    · have := h.dom j p hj; simp; omega
  · rw [heap_put]
    unfold Pl.upd at hj
    rw [St.get_push] at hg'
    by_cases e : j = σ.next
    · rw [if_pos e] at hj; cases hj
      rw [if_pos (show j = (σ.set id left).next from e)] at hg'; cases hg'
      rw [if_pos ⟨rfl, hb⟩]; exact hx _ hle
    · rw [if_neg e] at hj
      rw [if_neg (show ¬ j = (σ.set id left).next from e)] at hg'
      by_cases eb : b' = b
      · subst eb
        rw [if_pos ⟨rfl, hb⟩]; exact (oth j _ _ _ hj hg').1.mono hle
      · rw [if_neg (fun hh => eb hh.1)]; exact (h1.obj _ _ _ _ _ hj hg').mono hle
  · intro j j' b' o1 s1 o2 s2 ob1 ob2 hne hj hj' hg1 hg2
    unfold Pl.upd at hj hj'
    rw [St.get_push] at hg1 hg2
    by_cases e1 : j = σ.next
    · have e2 : j' ≠ σ.next := fun e => hne (e1.trans e.symm)
      rw [if_pos e1] at hj; cases hj
      rw [if_neg e2] at hj'
      rw [if_pos (show j = (σ.set id left).next from e1)] at hg1; cases hg1
      rw [if_neg (show ¬ j' = (σ.set id left).next from e2)] at hg2
      exact (oth j' _ _ _ hj' hg2).2
    · rw [if_neg e1] at hj
      rw [if_neg (show ¬ j = (σ.set id left).next from e1)] at hg1
      by_cases e2 : j' = σ.next
      · rw [if_pos e2] at hj'; cases hj'
        rw [if_pos (show j' = (σ.set id left).next from e2)] at hg2; cases hg2
        exact (oth j _ _ _ hj hg1).2.symm
      · rw [if_neg e2] at hj'
        rw [if_neg (show ¬ j' = (σ.set id left).next from e2)] at hg2
        exact h1.inj _ _ _ _ _ _ _ _ _ hne hj hj' hg1 hg2
  · simp
  · intro b' hb' ho
    have eb : b' ≠ b := fun e => ho ⟨id, o, sz, _, by rw [e]; exact hρ, hg, rfl⟩
    rw [heap_put, if_neg (fun hh => eb hh.1)]
    refine ⟨rfl, fun ⟨j, o1, s1, ob1, hj, hg1, hr1⟩ => ?_⟩
    unfold Pl.upd at hj
    rw [St.get_push] at hg1
    by_cases e : j = σ.next
    · rw [if_pos e] at hj; cases hj; exact absurd rfl eb
    · rw [if_neg e] at hj
      rw [if_neg (show ¬ j = (σ.set id left).next from e)] at hg1
      exact (hs1.keep.2 b' hb' ho).2 ⟨j, o1, s1, ob1, hj, hg1, hr1⟩

/-- An object that nobody knows yet is laid beside. -/
theorem Rep.push (h : Rep ρ σ w) (ob : AObj) : Rep ρ (σ.push ob) w := by
  have hn := h.none_of_next
  have key : ∀ j p, ρ j = some p → j ≠ σ.next := fun j p hj e => by rw [e, hn] at hj; cases hj
  refine ⟨fun j p hj => by have := h.dom j p hj; simp; omega, fun j b o sz ob' hj hg => ?_, ?_⟩
  · rw [St.get_push, if_neg (key j _ hj)] at hg; exact h.obj _ _ _ _ _ hj hg
  · intro j j' b o1 s1 o2 s2 ob1 ob2 hne hj hj' hg1 hg2
    rw [St.get_push, if_neg (key _ _ hj)] at hg1
    rw [St.get_push, if_neg (key _ _ hj')] at hg2
    exact h.inj _ _ _ _ _ _ _ _ _ hne hj hj' hg1 hg2

theorem Step.push (h : Rep ρ σ w) (ob : AObj) : Step ρ σ w ρ (σ.push ob) w := by
  have hn := h.none_of_next
  refine ⟨.refl _, h.push ob, ⟨Nat.le_refl _, fun b _ ho => ⟨rfl, fun ⟨id, o, sz, ob', h1, h2, h3⟩ => ho ⟨id, o, sz, ob', h1, ?_, h3⟩⟩⟩, Nat.le_succ _, fun _ _ => rfl, rfl, rfl⟩
  rw [St.get_push] at h2
  split at h2
  · rename_i e; rw [e, hn] at h1; cases h1
  · exact h2

/-- An object that was laid beside comes to its block. -/
theorem Step.fill {ρ0 : Pl} {σ0 : St} {w0 : World} (h0 : Step ρ0 σ0 w0 ρ σ w) {id : Nat} {ob : AObj} {x : Obj} (sz : Nat) (hid : σ0.next ≤ id) (hρ : ρ id = none) (hg : σ.get id = some ob)
    (hx : ∀ ρ', Pl.le ρ ρ' → ObjR ρ' ob 0 sz (some x)) : Step ρ0 σ0 w0 (ρ.upd id (w.heap.size, 0, sz)) σ (w.alloc x) := by
  have h := h0.rep
  have hle := Pl.le_upd (ρ := ρ) (w.heap.size, 0, sz) hρ
  have hrep : Rep (ρ.upd id (w.heap.size, 0, sz)) σ (w.alloc x) := by
    refine ⟨fun j p hj => ?_, fun j b o sz' ob' hj hg' => ?_, ?_⟩
    · unfold Pl.upd at hj
      split at hj
      · cases hj; rename_i e; subst e; exact ⟨St.get_lt hg, by simp⟩
      · have := h.dom j p hj; exact ⟨this.1, by simp; omega⟩
    · rw [heap_alloc]
      unfold Pl.upd at hj
      by_cases e : j = id
      · rw [if_pos e] at hj; cases hj
        rw [e, hg] at hg'; cases hg'
        rw [if_pos rfl]; exact hx _ hle
      · rw [if_neg e] at hj
        have := (h.dom _ _ hj).2
        rw [if_neg (by simp at this; omega)]
        exact (h.obj _ _ _ _ _ hj hg').mono hle
    · intro j j' b o1 s1 o2 s2 ob1 ob2 hne hj hj' hg1 hg2
      unfold Pl.upd at hj hj'
      by_cases e1 : j = id
      · by_cases e2 : j' = id
        · exact absurd (e1.trans e2.symm) hne
        · rw [if_pos e1] at hj; rw [if_neg e2] at hj'
          cases hj
          exact absurd (h.dom _ _ hj').2 (Nat.lt_irrefl _)
      · rw [if_neg e1] at hj
        by_cases e2 : j' = id
        · rw [if_pos e2] at hj'
          cases hj'
          exact absurd (h.dom _ _ hj).2 (Nat.lt_irrefl _)
        · rw [if_neg e2] at hj'
          exact h.inj _ _ _ _ _ _ _ _ _ hne hj hj' hg1 hg2
  have hkeep : Keep ρ σ w (ρ.upd id (w.heap.size, 0, sz)) σ (w.alloc x) := by
    refine ⟨by simp, fun b hb ho => ?_⟩
    rw [heap_alloc, if_neg (by omega)]
    refine ⟨rfl, fun ⟨j, o1, s1, ob1, hj, hg1, hr1⟩ => ho ?_⟩
    unfold Pl.upd at hj
    by_cases e : j = id
    · rw [if_pos e] at hj; cases hj; exact absurd hb (Nat.lt_irrefl _)
    · rw [if_neg e] at hj; exact ⟨j, o1, s1, ob1, hj, hg1, hr1⟩
  refine ⟨h0.le.trans hle, hrep, h0.keep.trans hkeep, h0.next, fun j hj => ?_, h0.env⟩
  rw [← h0.old j hj]
  exact if_neg (by omega)

end moves
end Go.Abs
