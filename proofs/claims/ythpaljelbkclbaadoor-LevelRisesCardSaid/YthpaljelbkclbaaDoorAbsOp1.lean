/-
  THE ABSTRACT MACHINE IS RIGHT, 1: types; loads and stores; new objects; addresses; slices.
-/
import Derived.Test.YthpaljelbkclbaaDoorAbsRel
import Derived.Laws.IdiomCopy
import Derived.ChangeKeysEq
namespace Go.Abs
open Go

/-- What the table of types says is so. -/
def TRel (P : Program) (T : TT) : Prop := ∀ t i, T t = some i → P.underlying t = some i.desc ∧ i.agg = isAggD i.desc ∧
  ∃ j, P.info? t = some j ∧ j.size = i.size ∧ j.bytes = i.bytes ∧ ∀ z, i.zero = some z → ∃ y, j.zero = some y ∧ ofVal y = some z ∧ ∀ vs, z ≠ .tuple vs

/-- A step of the model comes to a value and a world, of which R holds. -/
def Gets {α : Type} (P : Program) (s : Sem α) (w : World) (R : α → World → Prop) : Prop := ∃ x w', s.run P w = .ok x w' ∧ R x w'

theorem Gets.bind {α β : Type} {P : Program} {s : Sem α} {f : α → Sem β} {w : World} {R : α → World → Prop} {Q : β → World → Prop}
    (h : Gets P s w R) (hf : ∀ x w', R x w' → Gets P (f x) w' Q) : Gets P (s >>= f) w Q := by
  obtain ⟨x, w', hr, hx⟩ := h
  obtain ⟨y, w'', hr', hy⟩ := hf x w' hx
  exact ⟨y, w'', by rw [Sem.run_bind, hr]; exact hr', hy⟩

theorem Gets.pure {α : Type} {P : Program} {x : α} {w : World} {R : α → World → Prop} (h : R x w) : Gets P (Pure.pure x) w R := ⟨x, w, rfl, h⟩
theorem Gets.of {α : Type} {P : Program} {s : Sem α} {w w' : World} {x : α} {R : α → World → Prop} (h : s.run P w = .ok x w') (hr : R x w') : Gets P s w R := ⟨x, w', h, hr⟩
theorem Gets.mono {α : Type} {P : Program} {s : Sem α} {w : World} {R R' : α → World → Prop} (h : Gets P s w R) (hr : ∀ x w', R x w' → R' x w') : Gets P s w R' :=
  let ⟨x, w', e, r⟩ := h; ⟨x, w', e, hr _ _ r⟩

theorem Gets.bind_of {α β : Type} {P : Program} {s : Sem α} {f : α → Sem β} {w w' : World} {x : α} {Q : β → World → Prop}
    (h : s.run P w = .ok x w') (hf : Gets P (f x) w' Q) : Gets P (s >>= f) w Q := by
  obtain ⟨y, w'', hr', hy⟩ := hf
  exact ⟨y, w'', by rw [Sem.run_bind, h]; exact hr', hy⟩

/-- The step comes to a value that v stands for, and the store is σ' then. -/
def GetsV (P : Program) (ρ : Pl) (σ : St) (w : World) (s : Sem Value) (v : AV) (σ' : St) : Prop := Gets P s w fun x w' => ∃ ρ', Step ρ σ w ρ' σ' w' ∧ VR ρ' v x
def GetsU (P : Program) (ρ : Pl) (σ : St) (w : World) (s : Sem Unit) (σ' : St) : Prop := Gets P s w fun _ w' => ∃ ρ', Step ρ σ w ρ' σ' w'

section types
variable {P : Program} {T : TT} (hT : TRel P T)
include hT

theorem run_under {t : TypeId} {i : TyI} (h : T t = some i) (w : World) : (underlying t).run P w = .ok i.desc w := run_underlying (hT t i h).1 w

theorem run_size {t : TypeId} {i : TyI} (h : T t = some i) (w : World) : (sizeOf t).run P w = .ok i.size w := by
  obtain ⟨_, _, j, hj, hs, _⟩ := hT t i h
  rw [run_sizeOf w hj, Program.cellsOf, hj]; simp [hs]

theorem run_info {t : TypeId} {i : TyI} (h : T t = some i) (w : World) : ∃ j : TypeInfo, (typeInfo t).run P w = .ok j w ∧ j.bytes = i.bytes := by
  obtain ⟨_, _, j, hj, _, hb, _⟩ := hT t i h
  exact ⟨j, run_typeInfo w hj, hb⟩

theorem run_agg {t : TypeId} {i : TyI} (h : T t = some i) (w : World) : (isAgg t).run P w = .ok i.agg w := by
  have hu := run_under hT h w
  rw [(hT t i h).2.1]
  unfold isAgg
  rw [Sem.run_bind, hu]
  simp only [Result.andThen_ok]
  cases i.desc <;> rfl

theorem run_zero {t : TypeId} {i : TyI} {z : AV} (h : T t = some i) (hz : i.zero = some z) (w : World) : ∃ y, (zeroValue t).run P w = .ok y w ∧ ofVal y = some z ∧ ∀ vs, z ≠ .tuple vs := by
  obtain ⟨_, _, j, hj, _, _, hzz⟩ := hT t i h
  obtain ⟨y, hy, ho⟩ := hzz z hz
  refine ⟨y, ?_, ho⟩
  unfold zeroValue
  rw [Sem.run_bind, run_typeInfo w hj]
  simp [hy]
end types

/-! ### Memory -/
section memory
variable {P : Program} {ρ : Pl} {σ : St} {w : World}

theorem add_eq (b o n : Nat) : (⟨b, o, none⟩ : Addr).add n = ⟨b, o + n, none⟩ := by
  unfold Addr.add
  split
  · rename_i h; subst h; rfl
  · rfl

theorem cellsOf_eq {id : Nat} {vs : List AV} (h : cellsOf σ id = some vs) : ∃ fz ro, σ.get id = some (.cells vs fz ro) := by
  unfold cellsOf at h
  split at h
  · rename_i fz ro hg; cases h; exact ⟨fz, ro, hg⟩
  · cases h

theorem Rep.cell (h : Rep ρ σ w) {id b o sz : Nat} {vs : List AV} (hρ : ρ id = some (b, o, sz)) (hg : cellsOf σ id = some vs) {i : Nat} {v : AV} (hv : vs[i]? = some v) :
    v.one = true ∧ ∃ y, w.cell? ⟨b, o + i, none⟩ = some y ∧ VR ρ v y := by
  obtain ⟨fz, ro, hg⟩ := cellsOf_eq hg
  obtain ⟨c, t, fr, hx, hs, hl, hc, hf⟩ := h.obj _ _ _ _ _ hρ hg
  obtain ⟨h1, y, hy, hr⟩ := hc i v hv
  exact ⟨h1, y, by simp [World.cell?, hx, hy], hr⟩

/-- Cells of an object, as they are loaded. -/
theorem Rep.cells (h : Rep ρ σ w) {id b o sz : Nat} {vs : List AV} (hρ : ρ id = some (b, o, sz)) (hg : cellsOf σ id = some vs) (off n : Nat) (hn : off + n ≤ vs.length) :
    ∃ ys : List Value, (loadCells ⟨b, o + off, none⟩ n).run P w = .ok ys.toArray w ∧ VRs ρ ((vs.drop off).take n) ys ∧ ∀ c ∈ (vs.drop off).take n, c.one = true := by
  have key : ∀ j, j < n → ∃ y, w.cell? ⟨b, o + off + j, none⟩ = some y ∧ ∃ v, vs[off + j]? = some v ∧ VR ρ v y ∧ v.one = true := by
    intro j hj
    obtain ⟨h1, y, hy, hr⟩ := h.cell hρ hg (List.getElem?_eq_getElem (show off + j < vs.length by omega))
    exact ⟨y, by rw [Nat.add_assoc]; exact hy, _, List.getElem?_eq_getElem (by omega), hr, h1⟩
  let f : Nat → Value := fun j => (w.cell? ⟨b, o + off + j, none⟩).getD undef
  refine ⟨(List.range n).map f, ?_, ?_, ?_⟩
  · exact run_loadCells w _ n f (fun j hj => by
      obtain ⟨y, hy, _⟩ := key j hj
      rw [add_eq]; simp [f, hy])
  · refine VRs.of_get (by simp; omega) fun i v x hv hx => ?_
    have hi : i < n := by
      have := (List.getElem?_eq_some_iff.1 hx).1
      simpa using this
    obtain ⟨y, hy, v', hv', hr, _⟩ := key i hi
    rw [List.getElem?_take_of_lt hi, List.getElem?_drop, hv'] at hv
    cases hv
    simp [hi, f, hy] at hx
    subst hx; exact hr
  · intro c hc
    obtain ⟨i, hi⟩ := List.getElem?_of_mem hc
    have hin : i < n := by
      have := (List.getElem?_eq_some_iff.1 hi).1
      simp at this; omega
    obtain ⟨y, hy, v', hv', hr, h1⟩ := key i hin
    rw [List.getElem?_take_of_lt hin, List.getElem?_drop, hv'] at hi
    cases hi; exact h1

theorem loadN_eq {id off n : Nat} {l : List AV} (h : loadN σ id off n = some l) : ∃ vs, cellsOf σ id = some vs ∧ (n = 0 ∨ off + n ≤ vs.length) ∧ l = (vs.drop off).take n := by
  unfold loadN at h
  split at h
  · rename_i vs hv
    rw [takeK_eq, ldrop_eq] at h
    split at h
    · rename_i hn
      cases h
      refine ⟨vs, hv, ?_, rfl⟩
      simp at hn; omega
    · cases h
  · cases h

theorem load1_eq {id off : Nat} {v : AV} (h : load1 σ id off = some v) : ∃ vs, cellsOf σ id = some vs ∧ vs[off]? = some v := by
  unfold load1 at h
  split at h
  · rename_i vs hv
    rw [ldrop_eq] at h
    split at h
    · rename_i v' l hd
      cases h
      refine ⟨vs, hv, ?_⟩
      have : (vs.drop off)[0]? = some v := by rw [hd]; rfl
      simpa [List.getElem?_drop] using this
    · cases h
  · cases h

theorem splice_length {α : Type} (l : List α) (n : Nat) (new : List α) (h : n + new.length ≤ l.length) : (splice l n new).length = l.length := by
  simp [splice]; omega

theorem splice_get {α : Type} (l : List α) (n : Nat) (new : List α) (h : n + new.length ≤ l.length) (i : Nat) :
    (splice l n new)[i]? = if n ≤ i ∧ i < n + new.length then new[i - n]? else l[i]? := by
  simp only [splice, List.append_assoc, List.getElem?_append, List.length_take, List.getElem?_take, List.getElem?_drop]
  have e : min n l.length = n := by omega
  rw [e]
  by_cases h1 : i < n
  · rw [if_pos h1, if_pos h1, if_neg (by omega)]
  · rw [if_neg h1]
    by_cases h2 : i - n < new.length
    · rw [if_pos h2, if_pos (by omega)]
    · rw [if_neg h2, if_neg (by omega)]
      congr 1; omega

/-- Cells written. -/
theorem run_storeCells_put (b t : Nat) (fr : Nat × Nat) : ∀ (vs : List Value) (o i : Nat) (c : Array Value) (w : World), w.heap[b]? = some (.cells c t fr) → o + i + vs.length ≤ c.size →
    (∀ j, o + i ≤ j → j < o + i + vs.length → (fr.1 ≤ j && j < fr.2) = false) → (∀ v ∈ vs, v.oneCell' = true) →
    ∃ c', (storeCells ⟨b, o, none⟩ vs i).run P w = .ok () (w.putObj_ b (.cells c' t fr)) ∧ c'.toList = splice c.toList (o + i) vs
  | [], o, i, c, w, hg, hl, _, _ => by
    refine ⟨c, ?_, by simp [splice]⟩
    simp only [storeCells, Sem.run_pure]
    congr 1
    unfold Go.World.putObj_
    have : w.heap.setIfInBounds b (.cells c t fr) = w.heap := by
      apply Array.ext_getElem?
      intro j
      rw [Array.getElem?_setIfInBounds]
      split
      · rename_i e; subst e
        split
        · exact hg.symm
        · rename_i hlt; rw [Array.getElem?_eq_none (by omega)]
      · rfl
    rw [this]
  | v :: vs, o, i, c, w, hg, hl, hf, h1 => by
    have hb : b < w.heap.size := (Array.getElem?_eq_some_iff.1 hg).1
    have hcell : (w.cell? ⟨b, o + i, none⟩).isSome = true := by simp [World.cell?, hg]; simp at hl; omega
    obtain ⟨u, hu⟩ := Option.isSome_iff_exists.1 hcell
    have hfz : w.frozen? ⟨b, o + i, none⟩ = false := by
      simp only [World.frozen?, hg]
      exact hf (o + i) (Nat.le_refl _) (by simp)
    have hset : w.setCell ⟨b, o + i, none⟩ v = w.putObj_ b (.cells (c.setIfInBounds (o + i) v) t fr) := by
      unfold World.setCell Go.World.putObj_
      congr 1
      apply Array.ext_getElem?
      intro j
      rw [Array.getElem?_modify, Array.getElem?_setIfInBounds]
      split
      · rename_i e; subst e
        rw [hg]; simp
      · rfl
    have hst : (store ((⟨b, o, none⟩ : Addr).add i) v).run P w = .ok () (w.putObj_ b (.cells (c.setIfInBounds (o + i) v) t fr)) := by
      rw [add_eq, run_store P w _ v _ (h1 v (by simp))]
      simp [hu, hfz, hset]
    have hg' : (w.putObj_ b (.cells (c.setIfInBounds (o + i) v) t fr)).heap[b]? = some (.cells (c.setIfInBounds (o + i) v) t fr) := by
      rw [heap_put, if_pos ⟨rfl, hb⟩]
    obtain ⟨c', hc', hl'⟩ := run_storeCells_put b t fr vs o (i + 1) (c.setIfInBounds (o + i) v) _ hg' (by simp at hl ⊢; omega) (fun j hj hj' => hf j (by omega) (by simp at hj' ⊢; omega)) (fun x hx => h1 x (by simp [hx]))
    refine ⟨c', ?_, ?_⟩
    · simp only [storeCells, Sem.run_bind, hst, Result.andThen_ok, hc']
      congr 1
      unfold Go.World.putObj_
      simp
    · rw [hl']
      have hlen : o + i < c.toList.length := by simp at hl ⊢; omega
      apply List.ext_getElem?
      intro j
      rw [splice_get _ _ _ (by simp at hl ⊢; omega), splice_get _ _ _ (by simp at hl ⊢; omega), Array.toList_setIfInBounds, List.getElem?_set]
      simp only [List.length_cons]
      rcases Nat.lt_trichotomy j (o + i) with h | h | h
      · rw [if_neg (by omega), if_neg (by omega), if_neg (by omega)]
      · subst h
        rw [if_neg (by omega), if_pos rfl, if_pos hlen, if_pos (by omega)]
        simp
      · by_cases hlt : j < o + (i + 1) + vs.length
        · rw [if_pos (by omega), if_pos (by omega)]
          have : j - (o + i) = (j - (o + (i + 1))) + 1 := by omega
          rw [this, List.getElem?_cons_succ]
        · rw [if_neg (by omega), if_neg (by omega), if_neg (by omega)]

/-- Cells of an object that may be written, written: whatever list of values stands for them. -/
theorem Step.store (h : Rep ρ σ w) {id b o sz fz : Nat} {vs vs' : List AV} (hρ : ρ id = some (b, o, sz)) (hg : σ.get id = some (.cells vs fz false)) (off : Nat) {l : List AV} {ys : List Value}
    (hl : VRs ρ l ys) (h1 : ∀ c ∈ l, c.one = true) (hfz : fz ≤ off) (hsz : o + off + l.length ≤ sz)
    (hvs : vs'.length ≤ max vs.length (off + l.length)) (hget : ∀ (i : Nat) (v : AV), vs'[i]? = some v → if off ≤ i ∧ i < off + l.length then l[i - off]? = some v else vs[i]? = some v) :
    ∃ w', (storeCells ⟨b, o + off, none⟩ ys).run P w = .ok () w' ∧ Step ρ σ w ρ (σ.set id (.cells vs' fz false)) w' := by
  obtain ⟨c, t, fr, hx, hs, hlen, hc, hf⟩ := h.obj _ _ _ _ _ hρ hg
  have hyl := hl.length
  obtain ⟨c', hrun, hc'⟩ := run_storeCells_put (P := P) b t fr ys (o + off) 0 c w hx (by omega) (fun j hj hj' => hf j (by omega) (by omega)) (hl.one h1)
  have hs' : c'.size = c.size := by rw [← Array.length_toList, hc', Nat.add_zero, splice_length _ _ _ (by simp; omega)]; simp
  refine ⟨_, hrun, Step.put h hρ hg rfl ⟨⟨vs', rfl⟩, fun c2 t2 fr2 e2 => ?_⟩ ⟨c', t, fr, rfl, ?_, ?_, ?_, hf⟩⟩
  · rw [hx] at e2; cases e2
    refine ⟨c', rfl, hs', fun i hi => ?_⟩
    have hcc : c'[i]? = (splice c.toList (o + off) ys)[i]? := by rw [← Array.getElem?_toList, hc', Nat.add_zero]
    rw [hcc, splice_get _ _ _ (by simp; omega), if_neg (by omega), Array.getElem?_toList]
  · rw [← Array.length_toList, hc', Nat.add_zero, splice_length _ _ _ (by simp; omega)]; simpa using hs
  · omega
  · intro i v hv
    have := hget i v hv
    have hcc : c'[o + i]? = (splice c.toList (o + off) ys)[o + i]? := by rw [← Array.getElem?_toList, hc', Nat.add_zero]
    rw [hcc, splice_get _ _ _ (by simp; omega)]
    by_cases hi : off ≤ i ∧ i < off + l.length
    · rw [if_pos hi] at this
      rw [if_pos (by omega)]
      refine ⟨h1 _ (List.mem_of_getElem? this), ?_⟩
      obtain ⟨y, hy, hr⟩ := hl.get this
      exact ⟨y, by rw [show o + i - (o + off) = i - off by omega]; exact hy, hr⟩
    · rw [if_neg hi] at this
      rw [if_neg (by omega), Array.getElem?_toList]
      exact hc i v this

theorem storeN_eq {id off : Nat} {l : List AV} {σ' : St} (h : storeN σ id off l = some σ') :
    ∃ vs fz, σ.get id = some (.cells vs fz false) ∧ fz ≤ off ∧ off + l.length ≤ vs.length ∧ σ' = σ.set id (.cells (splice vs off l) fz false) := by
  unfold storeN at h
  split at h
  · rename_i vs fz hg
    rw [boolC_none, nble, decide_eq_true_eq, spliceK_eq] at h
    obtain ⟨h1, h2⟩ := h
    split at h2
    · rename_i hl
      rw [St.setK_eq] at h2
      cases h2
      exact ⟨vs, fz, hg, h1, hl, rfl⟩
    · cases h2
  · cases h

theorem Step.storeN (h : Rep ρ σ w) {id b o sz off : Nat} {l : List AV} {ys : List Value} {σ' : St} (hρ : ρ id = some (b, o, sz)) (hs : storeN σ id off l = some σ')
    (hl : VRs ρ l ys) (h1 : ∀ c ∈ l, c.one = true) : ∃ w', (storeCells ⟨b, o + off, none⟩ ys).run P w = .ok () w' ∧ Step ρ σ w ρ σ' w' := by
  obtain ⟨vs, fz, hg, hfz, hlen, rfl⟩ := storeN_eq hs
  obtain ⟨c, t, fr, hx, hs', hlen', hc, hf⟩ := h.obj _ _ _ _ _ hρ hg
  refine Step.store h hρ hg off hl h1 hfz (by omega) (by rw [splice_length _ _ _ hlen]; omega) fun i v hv => ?_
  rw [splice_get _ _ _ hlen] at hv
  split at hv
  · rename_i hi; rw [if_pos hi]; exact hv
  · rename_i hi; rw [if_neg hi]; exact hv
end memory

/-! ### load, store, new -/
section ops
variable {P : Program} {T : TT} (hT : TRel P T) {ρ : Pl} {σ : St} {w : World}

include hT in
theorem load_run (h : Rep ρ σ w) {t : TypeId} {p v : AV} {x : Value} (hp : VR ρ p x) (hl : aLoad T σ t p = some v) : ∃ a y, x = .pointer (some a) ∧ (loadVar t a).run P w = .ok y w ∧ VR ρ v y := by
  unfold aLoad at hl
  split at hl
  · rename_i id off
    split at hl
    · rename_i i hi
      cases hp with
      | ptr hρ =>
      rename_i b o sz
      have hrun : ∀ y : Value, (loadVar t ⟨b, o + off, none⟩).run P w = .ok y w → VR ρ v y → ∃ a y, (Value.pointer (some ⟨b, o + off, none⟩)) = .pointer (some a) ∧ (loadVar t a).run P w = .ok y w ∧ VR ρ v y :=
        fun y hy hr => ⟨_, y, rfl, hy, hr⟩
      have ha := run_agg hT hi w
      cases hagg : i.agg
      · rw [hagg, boolC_false] at hl
        obtain ⟨vs, hv, hvi⟩ := load1_eq hl
        obtain ⟨_, y, hy, hr⟩ := h.cell hρ hv hvi
        refine hrun y ?_ hr
        unfold loadVar
        rw [Sem.run_bind, ha, hagg]
        simp [hy]
      · rw [hagg, boolC_true] at hl
        split at hl
        · rename_i l hl'
          cases hl
          obtain ⟨vs, hv, hn, rfl⟩ := loadN_eq hl'
          have hs := run_size hT hi w
          rcases hn with hn | hn
          · refine hrun (.agg #[]) ?_ ?_
            · unfold loadVar
              rw [Sem.run_bind, ha, hagg]
              simp [hs, hn, loadCells, loadCellsFrom]
            · rw [hn]; exact .agg (by simp; exact .nil) (by simp)
          · obtain ⟨ys, hys, hr, h1⟩ := Rep.cells (P := P) h hρ hv off i.size hn
            refine hrun (.agg ys.toArray) ?_ (.agg (by simpa using hr) h1)
            unfold loadVar
            rw [Sem.run_bind, ha, hagg]
            simp [hs, hys]
        · cases hl
    · cases hl
  · cases hl

include hT in
theorem load_sound (h : Rep ρ σ w) {t : TypeId} {p v : AV} {x : Value} (hp : VR ρ p x) (hl : aLoad T σ t p = some v) : GetsV P ρ σ w (Instr.loadAt t x) v σ := by
  obtain ⟨a, y, rfl, hy, hr⟩ := load_run (P := P) hT h hp hl
  exact ⟨y, w, by simpa [Instr.loadAt, Instr.sureAddr] using hy, ρ, .refl h, hr⟩

include hT in
theorem store_sound (h : Rep ρ σ w) {t : TypeId} {p v : AV} {x y : Value} {σ' : St} (hp : VR ρ p x) (hv : VR ρ v y) (hl : aStore T σ t p v = some σ') : GetsU P ρ σ w (Instr.storeAt t x y) σ' := by
  unfold aStore at hl
  split at hl
  · rename_i id off
    split at hl
    · cases hl
    · rename_i hnt
      split at hl
      · rename_i i hi
        rw [boolC_none, nbeq, decide_eq_true_eq, llen_eq] at hl
        obtain ⟨hlen, hl⟩ := hl
        cases hp with
        | ptr hρ =>
        rename_i b o sz
        obtain ⟨hc, h1⟩ := hv.cells (fun vs e => hnt vs e)
        obtain ⟨w', hw', hst⟩ := Step.storeN (P := P) h hρ hl hc h1
        refine ⟨(), w', ?_, ρ, hst⟩
        have hs := run_size hT hi w
        have hlc := hc.length
        simp only [Array.length_toList] at hlc
        simp [Instr.storeAt, Instr.sureAddr, storeVar, hs, ← hlc, hlen, hw']
      · cases hl
  · cases hl

theorem new_sound (h : Rep ρ σ w) {t : TypeId} {v r : AV} {x : Value} {σ' : St} (hv : VR ρ v x) (hl : oNew σ v = some (r, σ')) :
    ∃ a : Addr, (newVar t x).run P w = .ok a (w.alloc (.cells x.cells t)) ∧ ∃ ρ', Step ρ σ w ρ' σ' (w.alloc (.cells x.cells t)) ∧ VR ρ' r (.pointer (some a)) := by
  unfold oNew at hl
  split at hl
  · cases hl
  · rename_i hnt
    unfold aNew at hl
    rw [St.pushK_eq] at hl
    cases hl
    obtain ⟨hc, h1⟩ := hv.cells (fun vs e => hnt vs e)
    refine ⟨⟨w.heap.size, 0, none⟩, rfl, _, Step.alloc h x.cells.size fun ρ' hle => ?_, ?_⟩
    · refine ⟨x.cells, t, (0, 0), rfl, rfl, by have := hc.length; simp at this; omega, fun i v hvi => ?_, fun i _ _ => by simp⟩
      obtain ⟨y, hy, hr⟩ := hc.get hvi
      exact ⟨h1 _ (List.mem_of_getElem? hvi), y, by simpa using hy, hr.mono hle⟩
    · exact .ptr (Pl.upd_same _ _ _)

include hT in
theorem alloc_sound (h : Rep ρ σ w) {t : TypeId} {r : AV} {σ' : St} (hl : oAlloc T σ t = some (r, σ')) : GetsV P ρ σ w (Instr.alloc t true (.tuple #[])) r σ' := by
  unfold oAlloc at hl
  split at hl
  · rename_i i hi
    split at hl
    · rename_i z hz
      obtain ⟨y, hy, ho, _⟩ := run_zero hT hi hz w
      obtain ⟨a, ha, ρ', hs, hr⟩ := new_sound (P := P) (t := t) h (VR.ofVal ho) hl
      exact ⟨.pointer (some a), _, by simp [Instr.alloc, hy, ha], ρ', hs, hr⟩
    · cases hl
  · cases hl

theorem box_sound (h : Rep ρ σ w) {t : TypeId} {v r : AV} {x : Value} {σ' : St} (hv : VR ρ v x) (hl : oNew σ v = some (r, σ')) : GetsV P ρ σ w (Instr.box t x) r σ' := by
  obtain ⟨a, ha, ρ', hs, hr⟩ := new_sound (P := P) (t := t) h hv hl
  exact ⟨.pointer (some a), _, by simp [Instr.box, ha], ρ', hs, hr⟩

/-! ### addresses -/

theorem nthField_eq (fs : List Field) (n : Nat) : nthField fs n = fs[n]? := by
  unfold nthField
  rw [ldrop_eq]
  have : fs[n]? = (fs.drop n)[0]? := by simp [List.getElem?_drop]
  rw [this]
  cases fs.drop n <;> rfl

include hT in
theorem fieldOf_eq {s : TypeId} {f : Nat} {fd : Field} (h : fieldOf T s f = some fd) : ∃ fs : Array Field, (∀ w, (underlying s).run P w = .ok (.struct fs) w) ∧ fs[f]? = some fd := by
  unfold fieldOf at h
  split at h
  · rename_i i hi
    split at h
    · rename_i fs hd
      rw [nthField_eq] at h
      exact ⟨fs, fun w => by rw [run_under hT hi w, hd], by simpa using h⟩
    · cases h
  · cases h

include hT in
theorem fieldAddr_sound (h : Rep ρ σ w) {s : TypeId} {p v : AV} {x : Value} {f : Nat} (hp : VR ρ p x) (hl : aFieldAddr T s p f = some v) : GetsV P ρ σ w (Instr.fieldAt s x f) v σ := by
  unfold aFieldAddr at hl
  split at hl
  · rename_i id off
    split at hl
    · rename_i fd hfd
      split at hl
      · rename_i i hi
        obtain ⟨fs, hu, hf⟩ := fieldOf_eq hT hfd
        cases hp with
        | ptr hρ =>
        rename_i b o sz
        cases hn : i.size with
        | zero => rw [hn, natC_zero] at hl; cases hl
        | succ n =>
          rw [hn, natC_succ] at hl
          cases hl
          have hs := run_size hT hi w
          refine ⟨.pointer (some ⟨b, o + (off + fd.offset), none⟩), w, ?_, ρ, .refl h, .ptr hρ⟩
          simp [Instr.fieldAt, hu, hf, Instr.sureAddr, fieldPlace, hs, hn, add_eq, Nat.add_assoc]
      · cases hl
    · cases hl
  · cases hl

include hT in
theorem part_sound {t : TypeId} {i : TyI} (hi : T t = some i) {cs : List AV} {cs' : Array Value} {off : Nat} {v : AV} (hc : VRs ρ cs cs'.toList) (h1 : ∀ c ∈ cs, c.one = true) (hl : aPart i cs off = some v) :
    ∃ y, (part t cs' off).run P w = .ok y w ∧ VR ρ v y := by
  have ha := run_agg hT hi w
  unfold aPart at hl
  rw [ldrop_eq, takeK_eq] at hl
  cases hagg : i.agg
  · rw [hagg, boolC_false] at hl
    split at hl
    · rename_i v' l hd
      cases hl
      have : cs[off]? = some v := by
        have : (cs.drop off)[0]? = some v := by rw [hd]; rfl
        simpa [List.getElem?_drop] using this
      obtain ⟨y, hy, hr⟩ := hc.get this
      refine ⟨y, ?_, hr⟩
      unfold part
      rw [Sem.run_bind, ha, hagg]
      have hy' : cs'[off]? = some y := by simpa using hy
      simp [hy']
    · cases hl
  · rw [hagg, boolC_true] at hl
    split at hl
    · rename_i hn
      cases hl
      have hs := run_size hT hi w
      refine ⟨.agg (cs'.extract off (off + i.size)), ?_, .agg ?_ ?_⟩
      · unfold part
        rw [Sem.run_bind, ha, hagg]
        simp [hs]
      · have := (hc.drop off).take i.size
        rw [show (cs'.extract off (off + i.size)).toList = (cs'.toList.drop off).take i.size from by
          rw [Array.toList_extract, List.extract_eq_take_drop]; congr 1; omega]
        exact this
      · intro c hcm
        exact h1 c (List.mem_of_mem_drop (List.mem_of_mem_take hcm))
    · cases hl

include hT in
theorem field_sound (h : Rep ρ σ w) {t : TypeId} {p v : AV} {x : Value} {f : Nat} (hp : VR ρ p x) (hl : aField T t p f = some v) : GetsV P ρ σ w (Instr.field t x f) v σ := by
  unfold aField at hl
  split at hl
  · rename_i cs
    split at hl
    · rename_i fd hfd
      split at hl
      · rename_i i hi
        obtain ⟨fs, hu, hf⟩ := fieldOf_eq hT hfd
        cases hp with
        | agg hc h1 =>
        rename_i cs'
        obtain ⟨y, hy, hr⟩ := part_sound (w := w) hT hi hc h1 hl
        refine ⟨y, w, ?_, ρ, .refl h, hr⟩
        simp [Instr.field, hu, hf, asAgg, hy]
      · cases hl
    · cases hl
  · cases hl

theorem natBelow_eq {i : AV} {n m : Nat} (h : natBelow i n = some m) : ∃ k, i = .int k m ∧ m < n := by
  unfold natBelow at h
  split at h
  · rename_i k m'
    rw [boolC_none, nblt, decide_eq_true_eq] at h
    obtain ⟨h1, h2⟩ := h
    cases h2
    exact ⟨k, rfl, h1⟩
  · cases h

include hT in
theorem indexAddr_sound (h : Rep ρ σ w) {t : TypeId} {p ix v : AV} {x y : Value} (hp : VR ρ p x) (hi : VR ρ ix y) (hl : aIndexAddr T t p ix = some v) : GetsV P ρ σ w (Instr.indexAt t x y) v σ := by
  unfold aIndexAddr at hl
  split at hl
  · rename_i i hi'
    have hu := run_under hT hi' w
    split at hl
    · rename_i len elem hd
      split at hl
      · rename_i id off
        split at hl
        · rename_i e he
          split at hl
          · rename_i m hm
            obtain ⟨k, rfl, hlt⟩ := natBelow_eq hm
            cases hl
            cases hi
            cases hp with
            | ptr hρ =>
            rename_i b o sz
            refine ⟨.pointer (some ⟨b, o + (off + m * e.size), none⟩), w, ?_, ρ, .refl h, .ptr hρ⟩
            have hs := run_size hT he w
            simp [Instr.indexAt, asIntOf, hu, hd, Instr.sureAddr, hs, hlt, add_eq, Nat.add_assoc]
          · cases hl
        · cases hl
      · cases hl
    · rename_i elem hd
      split at hl
      · rename_i id off len cap esz
        split at hl
        · rename_i e he
          split at hl
          · rename_i m hm
            obtain ⟨k, rfl, hlt⟩ := natBelow_eq hm
            cases hl
            cases hi
            cases hp with
            | slice hρ q1 q2 q3 =>
              rename_i b o sz cap'
              refine ⟨.pointer (some ⟨b, o + (off + m * e.size), none⟩), w, ?_, ρ, .refl h, .ptr hρ⟩
              have hs := run_size hT he w
              simp [Instr.indexAt, asIntOf, hu, hd, hs, hlt, add_eq, Nat.add_assoc]
            | sliceE a => omega
          · cases hl
        · cases hl
      · cases hl
    · cases hl
  · cases hl
end ops
end Go.Abs
