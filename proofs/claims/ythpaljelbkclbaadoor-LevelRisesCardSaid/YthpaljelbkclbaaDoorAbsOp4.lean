/-
  THE ABSTRACT MACHINE IS RIGHT, 5: made slices, literals, conversions.
-/
import Derived.Test.YthpaljelbkclbaaDoorAbsOp3
namespace Go.Abs
open Go

section ops
variable {P : Program} {T : TT} (hT : TRel P T) {ρ : Pl} {σ : St} {w : World}

/-- A new object of cells, and a slice over it. -/
theorem newCells (h : Rep ρ σ w) {l : List AV} {ys : Array Value} (t : TypeId) (fr : Nat × Nat) (hl : VRs ρ l (ys.toList.take l.length)) (h1 : ∀ c ∈ l, c.one = true) (hf : ∀ i, i < ys.size → (fr.1 ≤ i && i < fr.2) = false) (fz : Nat := 0) :
    Step ρ σ w (ρ.upd σ.next (w.heap.size, 0, ys.size)) (σ.push (.cells l fz false)) (w.alloc (.cells ys t fr)) := by
  have hlen := hl.length
  simp at hlen
  refine Step.alloc h ys.size fun ρ' hle => ⟨ys, t, fr, rfl, rfl, by omega, fun i v hv => ?_, fun i _ hi => hf i hi⟩
  obtain ⟨y, hy, hr⟩ := hl.get hv
  have hi : i < l.length := (List.getElem?_eq_some_iff.1 hv).1
  rw [List.getElem?_take_of_lt hi] at hy
  exact ⟨h1 _ (List.mem_of_getElem? hv), y, by simpa using hy, hr.mono hle⟩

theorem rep_range (z : Array Value) (zc : List AV) (hz : VRs ρ zc z.toList) (n : Nat) (hn : 1 ≤ zc.length) :
    VRs ρ (repCells zc n) ((Array.range (n * zc.length)).map (fun i => z[i % z.size]!)).toList := by
  have hlen := hz.length
  simp at hlen
  induction n with
  | zero => rw [repCells_zero]; simp; exact .nil
  | succ n ih =>
    have : repCells zc (n + 1) = repCells zc n ++ zc := by
      clear ih
      induction n with
      | zero => simp [repCells_succ, repCells_zero]
      | succ n ih => rw [repCells_succ, ih, ← List.append_assoc, ← repCells_succ, ih]
    rw [this]
    have e : ((Array.range ((n + 1) * zc.length)).map (fun i => z[i % z.size]!)).toList = ((Array.range (n * zc.length)).map (fun i => z[i % z.size]!)).toList ++ z.toList := by
      apply List.ext_getElem?
      intro i
      simp only [Array.toList_map, Array.toList_range, List.getElem?_map, List.getElem?_append, List.length_map, List.length_range]
      by_cases h1 : i < n * zc.length
      · rw [if_pos h1, List.getElem?_range h1, List.getElem?_range (by rw [Nat.succ_mul]; omega)]
      · rw [if_neg h1]
        by_cases h2 : i < (n + 1) * zc.length
        · rw [List.getElem?_range h2]
          rw [Nat.succ_mul] at h2
          have hm : i % z.size = i - n * zc.length := by
            rw [← hlen]
            have : i = (i - n * zc.length) + n * zc.length := by omega
            rw [this, Nat.add_mul_mod_self_right, Nat.mod_eq_of_lt (by omega)]
            omega
          simp only [Option.map_some, hm]
          rw [getElem!_pos z (i - n * zc.length) (by omega)]
          simp [show i - n * zc.length < z.size by omega]
        · rw [List.getElem?_eq_none (by simp; omega)]
          rw [Nat.succ_mul] at h2
          rw [List.getElem?_eq_none (by simp; omega)]
          rfl
    rw [e]
    exact ih.append hz

theorem repCells_one {z : List AV} (h : ∀ c ∈ z, c.one = true) (n : Nat) : ∀ c ∈ repCells z n, c.one = true := by
  induction n with
  | zero => rw [repCells_zero]; simp
  | succ n ih =>
    rw [repCells_succ]
    intro c hc
    rcases List.mem_append.1 hc with hc | hc
    · exact h c hc
    · exact ih c hc

theorem zero_cells {y : Value} {z : AV} (h : ofVal y = some z) (hn : ∀ vs, z ≠ .tuple vs) : VRs ρ z.cells y.cells.toList ∧ ∀ c ∈ z.cells, c.one = true :=
  (VR.ofVal (ρ := ρ) h).cells hn

include hT in
theorem makeSlice_sound (h : Rep ρ σ w) {t : TypeId} {l c v : AV} {l' c' : Value} {σ' : St} (hl : VR ρ l l') (hc : VR ρ c c') (hm : aMakeSlice T σ t l c = some (v, σ')) : GetsV P ρ σ w (Instr.makeSlice t l' c') v σ' := by
  unfold aMakeSlice at hm
  split at hm
  · rename_i i hi
    split at hm
    · rename_i elem hd
      split at hm
      · rename_i e he
        split at hm
        · rename_i z hz
          split at hm
          · rename_i k ln
            split at hm
            · rename_i k' cp
              rw [boolC_none] at hm
              obtain ⟨hb, hm⟩ := hm
              simp only [Bool.and_eq_true, nble, nbeq, decide_eq_true_eq, llen_eq] at hb
              obtain ⟨⟨⟨⟨hle, hbig⟩, hb1⟩, hzl⟩, hs1⟩ := hb
              rw [St.pushK_eq] at hm
              cases hm
              cases hl; cases hc
              have hu := run_under hT hi w
              obtain ⟨j, hj, hjb⟩ := run_info hT he w
              have hs := run_size hT he w
              obtain ⟨y, hy, ho, hnt⟩ := run_zero hT he hz w
              obtain ⟨hzc, hz1⟩ := zero_cells (ρ := ρ) ho hnt
              have hcap : cp ≤ bigBytes := Nat.le_trans (Nat.le_mul_of_pos_right _ (by omega)) hbig
              unfold bigBytes at hcap hbig
              have hlw : IntKind.i64.wrap (ln : Int) = ln := by simp [IntKind.wrap, IntKind.bits, IntKind.signed]; omega
              have hcw : IntKind.i64.wrap (cp : Int) = cp := by simp [IntKind.wrap, IntKind.bits, IntKind.signed]; omega
              have hmul : (e.bytes : Int) * (cp : Int) = ((cp * e.bytes : Nat) : Int) := by rw [Int.mul_comm]; norm_cast
              by_cases hc0 : cp = 0
              · subst hc0
                obtain rfl : ln = 0 := by omega
                refine ⟨.slice (some ⟨w.heap.size, 0, none⟩) 0 0, w.alloc (.cells #[] elem), ?_, _, newCells h elem (0, 0) (l := repCells z.cells 0) (ys := #[]) (by rw [repCells_zero]; exact .nil) (by rw [repCells_zero]; simp) (by simp), .sliceE _⟩
                have hw0 : IntKind.i64.wrap (0 : Int) = 0 := rfl
                simp [Instr.makeSlice, hu, hd, asInt, asIntOf, hj, hs, newRow, hw0]
                rw [show Array.range 0 = #[] from by apply Array.ext'; simp]
                simp
              · refine ⟨.slice (some ⟨w.heap.size, 0, none⟩) ln cp, w.alloc (.cells ((Array.range (cp * e.size)).map (fun i => y.cells[i % y.cells.size]!)) elem), ?_, _,
                  newCells h elem (0, 0) (l := repCells z.cells cp) ?_ (repCells_one hz1 cp) (by simp), ?_⟩
                · have hn0 : ¬ cp * e.size = 0 := by
                    intro h0
                    rcases Nat.mul_eq_zero.1 h0 with h0 | h0 <;> omega
                  simp only [Instr.makeSlice, Sem.run_bind, hu, hd, Result.andThen_ok, asInt, asIntOf, Sem.run_pure, hj, Int.ofNat_eq_natCast, hlw, hcw, hjb, hmul]
                  rw [if_neg (by simp; omega)]
                  simp [hs, hn0, hy, newRow]
                · have := rep_range y.cells z.cells hzc cp (by omega)
                  rw [hzl] at this
                  rw [List.take_of_length_le (by rw [repCells_length, hzl]; simp)]
                  exact this
                · have := VR.slice (ρ := ρ.upd σ.next (w.heap.size, 0, cp * e.size)) (id := σ.next) (off := 0) (len := ln) (cap := cp) (esz := e.size) (cap' := cp) (b := w.heap.size) (o := 0) (sz := cp * e.size) (Pl.upd_same _ _ _) hle (Nat.le_refl _) (by omega)
                  simpa using this
            · cases hm
          · cases hm
        · cases hm
      · cases hm
    · cases hm
  · cases hm

/-! ### literals -/

inductive PRs (ρ : Pl) : List (Nat × AV) → List (Nat × Value) → Prop
  | nil : PRs ρ [] []
  | cons {i : Nat} {v : AV} {x : Value} {l : List (Nat × AV)} {r : List (Nat × Value)} (h : VR ρ v x) (t : PRs ρ l r) : PRs ρ ((i, v) :: l) ((i, x) :: r)

theorem aFill_cons (place : Nat → Option (Nat × Nat)) (p : Nat × AV) (l : List (Nat × AV)) (cells : List AV) : aFill place (p :: l) cells = match place p.1 with
    | some (off, size) => match p.2 with
      | .tuple _ => none
      | v => boolC none (spliceK none v.cells cells off (aFill place l)) (Nat.beq (llen v.cells) size)
    | none => none := rfl

theorem foldl_set (off : Nat) (l : List Value) : ∀ (k : Nat) (c : Array Value), off + k + l.length ≤ c.size →
    ((l.zipIdx k).foldl (fun (cs : Array Value) p => cs.setIfInBounds (off + p.2) p.1) c).toList = splice c.toList (off + k) l := by
  induction l with
  | nil => intro k c h; simp [splice]
  | cons x l ih =>
    intro k c h
    simp only [List.zipIdx_cons, List.foldl_cons]
    simp only [List.length_cons] at h
    rw [ih (k + 1) (c.setIfInBounds (off + k) x) (by simp; omega)]
    apply List.ext_getElem?
    intro i
    rw [splice_get _ _ _ (by simp; omega), splice_get _ _ _ (by simp; omega), Array.toList_setIfInBounds, List.getElem?_set]
    simp only [List.length_cons]
    rcases Nat.lt_trichotomy i (off + k) with h' | h' | h'
    · rw [if_neg (by omega), if_neg (by omega), if_neg (by omega)]
    · subst h'
      rw [if_neg (by omega), if_pos rfl, if_pos (by simp; omega), if_pos (by omega)]
      simp
    · by_cases hlt : i < off + (k + 1) + l.length
      · rw [if_pos (by omega), if_pos (by omega)]
        have : i - (off + k) = (i - (off + (k + 1))) + 1 := by omega
        rw [this, List.getElem?_cons_succ]
      · rw [if_neg (by omega), if_neg (by omega), if_neg (by omega)]

theorem splice_mem {α : Type} {l new : List α} {n : Nat} {x : α} (h : x ∈ splice l n new) : x ∈ l ∨ x ∈ new := by
  unfold splice at h
  rcases List.mem_append.1 h with h | h
  · rcases List.mem_append.1 h with h | h
    · exact .inl (List.mem_of_mem_take h)
    · exact .inr h
  · exact .inl (List.mem_of_mem_drop h)

theorem fill_sound {place : Nat → Option (Nat × Nat)} : ∀ {parts : List (Nat × AV)} {parts' : List (Nat × Value)} {cells r : List AV} {cells' : Array Value}, PRs ρ parts parts' → VRs ρ cells cells'.toList → (∀ c ∈ cells, c.one = true) →
    aFill place parts cells = some r → ∃ r', Instr.fill place cells' parts' = some r' ∧ VRs ρ r r'.toList ∧ (∀ c ∈ r, c.one = true) ∧ r.length = cells.length := by
  intro parts
  induction parts with
  | nil =>
    intro parts' cells r cells' hp hc h1 h
    cases hp
    cases h
    exact ⟨cells', rfl, hc, h1, rfl⟩
  | cons p parts ih =>
    intro parts' cells r cells' hp hc h1 h
    cases hp with
    | cons hv hp =>
    rename_i i v x parts'
    rw [aFill_cons] at h
    split at h
    · rename_i off size hpl
      simp only at hpl
      have hnt : ∀ vs, v ≠ .tuple vs := by
        intro vs e; subst e; cases h
      have h2 : boolC none (spliceK none v.cells cells off (aFill place parts)) (Nat.beq (llen v.cells) size) = some r := by
        cases v <;> first | exact h | exact absurd rfl (hnt _)
      rw [boolC_none, nbeq, decide_eq_true_eq, llen_eq, spliceK_eq] at h2
      obtain ⟨hlen, h2⟩ := h2
      split at h2
      · rename_i hle
        obtain ⟨hvc, hv1⟩ := hv.cells hnt
        have hl1 := hvc.length
        have hl2 := hc.length
        simp only [Array.length_toList] at hl1 hl2
        have hfold := foldl_set off x.cells.toList 0 cells' (by simp; omega)
        have hcc : VRs ρ (splice cells off v.cells) (splice cells'.toList off x.cells.toList) := by
          unfold splice
          have e : v.cells.length = x.cells.toList.length := by simp; omega
          rw [e]
          exact ((hc.take off).append hvc).append (hc.drop _)
        obtain ⟨r', hr', hrr, hr1, hrl⟩ := ih (cells' := x.cells.zipIdx.foldl (fun cs (c, j) => cs.setIfInBounds (off + j) c) cells') hp (by
            have : (x.cells.zipIdx.foldl (fun cs (c, j) => cs.setIfInBounds (off + j) c) cells').toList = splice cells'.toList off x.cells.toList := by
              rw [← Array.foldl_toList, Array.toList_zipIdx]
              simpa using hfold
            rw [this]; exact hcc) (fun c hcm => by
              rcases splice_mem hcm with hcm | hcm
              · exact h1 c hcm
              · exact hv1 c hcm) h2
        refine ⟨r', ?_, hrr, hr1, by rw [hrl, splice_length _ _ _ hle]⟩
        unfold Instr.fill
        simp only [hpl]
        rw [if_neg (by simp; omega)]
        exact hr'
      · cases h2
    · cases h

theorem knownFields_cons (f : Field) (l : List Field) : knownFields T (f :: l) = match T f.type with
    | some _ => knownFields T l
    | none => false := rfl

include hT in
theorem places_run : ∀ (fs : List Field), knownFields T fs = true → ∃ ps : List (Nat × Nat), (∀ w, ((fs.mapM fun (f : Field) => do pure (f.offset, ← sizeOf f.type)) : Sem (List (Nat × Nat))).run P w = .ok ps w) ∧ ps.length = fs.length ∧
      ∀ (i : Nat) (f : Field) (ty : TyI), fs[i]? = some f → T f.type = some ty → ps[i]? = some (f.offset, ty.size)
  | [], _ => ⟨[], fun w => by simp, rfl, by simp⟩
  | f :: fs, h => by
    rw [knownFields_cons] at h
    split at h
    · rename_i ty hty
      obtain ⟨ps, hps, hlen, hget⟩ := places_run fs h
      refine ⟨(f.offset, ty.size) :: ps, fun w => ?_, by simp [hlen], fun i f' ty' hf ht => ?_⟩
      · have hs := run_size hT hty w
        have hp := hps w
        simp only [List.mapM_cons, Sem.run_bind, hs, Result.andThen_ok, Sem.run_pure]
        rw [hp]; rfl
      · cases i with
        | zero => simp at hf; subst hf; rw [hty] at ht; cases ht; rfl
        | succ i => simp at hf; simpa using hget i f' ty' hf ht
    · cases h

theorem aFill_congr {place place' : Nat → Option (Nat × Nat)} (hp : ∀ i p, place i = some p → place' i = some p) : ∀ (parts : List (Nat × AV)) (cells r : List AV), aFill place parts cells = some r → aFill place' parts cells = some r := by
  intro parts
  induction parts with
  | nil => intro cells r h; exact h
  | cons p parts ih =>
    intro cells r h
    rw [aFill_cons] at h ⊢
    split at h
    · rename_i off size hpl
      rw [hp _ _ hpl]
      simp only
      split at h
      · cases h
      · rename_i hn
        have : ∀ x, boolC none (spliceK none p.2.cells cells off (aFill place parts)) x = some r → boolC none (spliceK none p.2.cells cells off (aFill place' parts)) x = some r := by
          intro x hx
          rw [boolC_none] at hx ⊢
          refine ⟨hx.1, ?_⟩
          have hx := hx.2
          rw [spliceK_eq] at hx ⊢
          split at hx
          · rename_i hl; rw [if_pos hl]; exact ih _ _ hx
          · cases hx
        exact this _ h
    · cases h

include hT in
theorem build_sound (h : Rep ρ σ w) {t : TypeId} {parts : List (Nat × AV)} {parts' : List (Nat × Value)} {v : AV} (hp : PRs ρ parts parts') (hl : aBuild T t parts = some v) :
    GetsV P ρ σ w (Instr.build t parts'.toArray) v σ := by
  unfold aBuild at hl
  split at hl
  · rename_i i hi
    split at hl
    · rename_i z hz
      obtain ⟨y, hy, ho, hnt⟩ := run_zero hT hi hz w
      obtain ⟨hzc, hz1⟩ := zero_cells (ρ := ρ) ho hnt
      have hu := run_under hT hi w
      split at hl
      · rename_i fs hd
        rw [boolC_none] at hl
        obtain ⟨hk, hl⟩ := hl
        split at hl
        · rename_i r hr
          cases hl
          obtain ⟨ps, hps, hplen, hpget⟩ := places_run (P := P) hT fs.toList hk
          have hr2 := aFill_congr (place' := fun i => ps[i]?) (fun i p hp => by
            unfold placeOf at hp
            rw [nthField_eq] at hp
            split at hp
            · rename_i f hf
              split at hp
              · rename_i ty hty
                cases hp
                exact hpget i f ty hf hty
              · cases hp
            · cases hp) _ _ _ hr
          obtain ⟨r', hr', hrr, hr1, _⟩ := fill_sound hp hzc hz1 hr2
          refine .pure h (x := .agg r') ?_ (.agg hrr hr1)
          have hmap : ((fs.mapM fun (f : Field) => do pure (f.offset, ← sizeOf f.type)) : Sem (Array (Nat × Nat))).run P w = .ok ps.toArray w := by
            rw [Array.mapM_eq_mapM_toList]
            simp only [Sem.run_map]
            rw [hps w]; rfl
          have hfill : Instr.fill (fun x => ps[x]?) y.cells parts' = some r' := hr'
          simp only [Instr.build, Sem.run_bind, hy, Result.andThen_ok, hu, hd]
          rw [hmap]
          simp [hfill]
        · cases hl
      · rename_i len elem hd
        split at hl
        · rename_i e he
          split at hl
          · rename_i r hr
            cases hl
            obtain ⟨r', hr', hrr, hr1, _⟩ := fill_sound hp hzc hz1 hr
            have hs := run_size hT he w
            refine .pure h (x := .agg r') ?_ (.agg hrr hr1)
            simp [Instr.build, hy, hu, hd, hs, hr']
          · cases hl
        · cases hl
      · cases hl
    · cases hl
  · cases hl

include hT in
theorem buildSlice_run {t : TypeId} {n : Nat} {parts : List (Nat × AV)} {parts' : List (Nat × Value)} {cs : List AV} {size : Nat} (hp : PRs ρ parts parts') (hl : sliceCells T t n parts = some (cs, size)) (w : World) :
    ∃ (r' : Array Value) (elem : TypeId), (Instr.buildSlice t n parts'.toArray).run P w = .ok (.slice (some ⟨w.heap.size, 0, none⟩) n n) (w.alloc (.cells r' elem)) ∧ VRs ρ cs r'.toList ∧ (∀ c ∈ cs, c.one = true) ∧ r'.size = n * size := by
  unfold sliceCells at hl
  split at hl
  · rename_i i hi
    have hu := run_under hT hi w
    split at hl
    · rename_i elem hd
      split at hl
      · rename_i e he
        have hs := run_size hT he w
        split at hl
        · rename_i z hz
          obtain ⟨y, hy, ho, hnt⟩ := run_zero hT he hz w
          obtain ⟨hzc, hz1⟩ := zero_cells (ρ := ρ) ho hnt
          rw [boolC_none] at hl
          obtain ⟨hb, hl⟩ := hl
          simp only [Bool.and_eq_true, nble, nbeq, decide_eq_true_eq, llen_eq] at hb
          obtain ⟨⟨hbig, hzl⟩, hs1⟩ := hb
          split at hl
          · rename_i cs hcs
            cases hl
            have hrep := rep_range y.cells z.cells hzc n (by omega)
            rw [hzl] at hrep
            obtain ⟨r', hr', hrr, hr1, hrl⟩ := fill_sound hp hrep (repCells_one hz1 n) hcs
            have hrsz : r'.size = n * e.size := by
              have := hrr.length
              simp at this
              rw [← this, hrl, repCells_length, hzl]
            refine ⟨r', elem, ?_, hrr, hr1, hrsz⟩
            by_cases hn0 : n * e.size = 0
            · have hn : n = 0 := by
                rcases Nat.mul_eq_zero.1 hn0 with hn | hn <;> omega
              subst hn
              have : Instr.fill (fun i => some (i * e.size, e.size)) ((Array.range (0 * e.size)).map (fun x => (#[] : Array Value)[x % (#[] : Array Value).size]!)) parts' = some r' := by
                rw [← hr']
                congr 1
                apply Array.ext'
                simp
              simp only [Nat.zero_mul] at this
              simp [Instr.buildSlice, hu, hd, hs, newRow]
              simp at this
              rw [this]
              rfl
            · simp [Instr.buildSlice, hu, hd, hs, hn0, show ¬ 2 ^ 24 < n * e.size by omega, hy, hr', newRow]
          · cases hl
        · cases hl
      · cases hl
    · cases hl
  · cases hl

include hT in
theorem buildSlice_sound (h : Rep ρ σ w) {t : TypeId} {n : Nat} {parts : List (Nat × AV)} {parts' : List (Nat × Value)} {v : AV} {σ' : St} (hp : PRs ρ parts parts') (hl : aBuildSlice T σ t n parts = some (v, σ')) :
    GetsV P ρ σ w (Instr.buildSlice t n parts'.toArray) v σ' := by
  unfold aBuildSlice at hl
  split at hl
  · rename_i cs size hcs
    rw [St.pushK_eq] at hl
    cases hl
    obtain ⟨r', elem, hrun, hrr, hr1, hsz⟩ := buildSlice_run (P := P) hT hp hcs w
    have hstep := newCells h elem (0, 0) (l := cs) (ys := r') (by
      rw [List.take_of_length_le (by have := hrr.length; simp at this ⊢; omega)]; exact hrr) hr1 (by simp)
    refine ⟨_, _, hrun, _, hstep, ?_⟩
    have := VR.slice (ρ := ρ.upd σ.next (w.heap.size, 0, r'.size)) (id := σ.next) (off := 0) (len := n) (cap := n) (esz := size) (cap' := n) (b := w.heap.size) (o := 0) (sz := r'.size) (Pl.upd_same _ _ _) (Nat.le_refl _) (Nat.le_refl _) (by omega)
    simpa using this
  · cases hl

/-! ### conversions -/

theorem bytesOf_cons (x : AV) (l : List AV) : bytesOf (x :: l) = match x with
    | .int .u8 n => match bytesOf l with
      | some r => some (UInt8.ofNat n.toNat :: r)
      | none => none
    | _ => none := rfl

theorem ofBytes_eq (s : List UInt8) : ofBytes s = s.map fun b => .int .u8 b.toNat := by
  induction s with
  | nil => rfl
  | cons b s ih => rw [List.map_cons, ← ih]; rfl

theorem ofBytes_rel (s : List UInt8) : VRs ρ (ofBytes s) (s.map fun b => .int .u8 b.toNat) := by
  rw [ofBytes_eq]
  induction s with
  | nil => exact .nil
  | cons b s ih => exact .cons (.int _ _) ih

theorem ofBytes_one (s : List UInt8) : ∀ c ∈ ofBytes s, c.one = true := by
  rw [ofBytes_eq]
  intro c hc
  obtain ⟨b, _, rfl⟩ := List.mem_map.1 hc
  rfl

include hT in
theorem isByte_eq {e : TypeId} (h : isByte T e = true) : P.underlying e = some (.int .u8) := by
  unfold isByte at h
  split at h
  · rename_i i hi
    split at h
    · rename_i hd; rw [(hT e i hi).1, hd]
    · cases h
  · cases h

theorem bytes_run : ∀ (l : List AV) (ys : List Value) (s : List UInt8) (acc : List UInt8), VRs ρ l ys → bytesOf l = some s →
    (forIn ys (⟨⟨acc⟩⟩ : ByteArray) fun c r => (match c with
      | .int .u8 n => pure (ForInStep.yield (r.push (UInt8.ofNat n.toNat)))
      | _ => do
        stuck "bytesToString: byte expected"
        pure (ForInStep.yield r) : Sem (ForInStep ByteArray))).run P w = .ok ⟨⟨acc ++ s⟩⟩ w
  | [], ys, s, acc, hl, hs => by
    cases hl; cases hs; simp
  | x :: l, ys, s, acc, hl, hs => by
    cases hl with
    | cons hx hl =>
    rename_i y ys
    rw [bytesOf_cons] at hs
    split at hs
    · rename_i n
      split at hs
      · rename_i r hr
        cases hs
        cases hx
        have ih := bytes_run l ys r (acc ++ [UInt8.ofNat n.toNat]) hl hr
        simp only [List.forIn_cons, Sem.run_bind, Sem.run_pure, Result.andThen_ok]
        have : (⟨⟨acc⟩⟩ : ByteArray).push (UInt8.ofNat n.toNat) = ⟨⟨acc ++ [UInt8.ofNat n.toNat]⟩⟩ := by
          apply ByteArray.ext
          simp [ByteArray.push]
        rw [this, ih]
        simp
      · cases hs
    · cases hs

theorem freeze_new (w : World) (c : Array Value) (t : TypeId) : (w.alloc (.cells c t)).freeze { block := w.heap.size, off := c.size } 1 = w.alloc (.cells c t (c.size, c.size + 1)) := by
  unfold World.freeze World.alloc
  simp only [Nat.one_ne_zero, if_false]
  congr 1
  apply Array.ext_getElem?
  intro j
  rw [Array.getElem?_modify]
  simp only [Array.getElem?_push]
  by_cases hj : w.heap.size = j
  · subst hj; simp
  · rw [if_neg hj, if_neg (Ne.symm hj), if_neg (Ne.symm hj)]

theorem stringToBytes_run (w : World) (e : TypeId) (s : List UInt8) (hs : s.length ≤ 4611686018427387904) : ∃ cap n, s.length ≤ cap ∧
    (Conv.stringToBytes e ⟨⟨s⟩⟩).run P w = .ok (.slice (some ⟨w.heap.size, 0, none⟩) s.length cap)
      (({ w with drawn := n }).alloc (.cells (((s.map fun (b : UInt8) => Value.int .u8 (b.toNat : Int)) ++ List.replicate (cap - s.length) (Value.int .u8 0)).toArray) e (cap, cap + 1))) := by
  have hq : ∀ t, s.length ≤ (Question.appendCap s.length 0 e).cut t := fun t => Nat.le_add_right _ _
  generalize hcap : (Question.appendCap s.length 0 e).cut (w.tape w.drawn (Question.appendCap s.length 0 e)) = cap at hq
  have hle : s.length ≤ cap := by rw [← hcap]; exact Nat.le_add_right _ _
  refine ⟨cap, w.drawn + 1, hle, ?_⟩
  have hsz : (((s.map fun (b : UInt8) => Value.int .u8 (b.toNat : Int)) ++ List.replicate (cap - s.length) (Value.int .u8 0)).toArray).size = cap := by simp; omega
  have hch : (choose (Question.appendCap s.length 0 e)).run P w = .ok cap { w with drawn := w.drawn + 1 } := by
    rw [run_choose, if_neg (by simp [Question.forced]), hcap]
  have harr : ((⟨⟨s⟩⟩ : ByteArray).data.map fun (b : UInt8) => Value.int .u8 (b.toNat : Int)) ++ Array.replicate (cap - s.length) (Value.int .u8 0) = ((s.map fun (b : UInt8) => Value.int .u8 (b.toNat : Int)) ++ List.replicate (cap - s.length) (Value.int .u8 0)).toArray := by
    apply Array.ext'
    simp
  simp only [Conv.stringToBytes, Sem.run_bind, bytes_size, hch, Result.andThen_ok]
  rw [harr]
  generalize ((s.map fun (b : UInt8) => Value.int .u8 (b.toNat : Int)) ++ List.replicate (cap - s.length) (Value.int .u8 0)).toArray = c at hsz
  have hf := freeze_new { w with drawn := w.drawn + 1 } c e
  have hsh : (({ w with drawn := w.drawn + 1 } : World).alloc (.cells c e)).shape? w.heap.size = some (e, c.size) := by
    simp [World.shape?, World.alloc]
  simp only [newRow, Sem.run_bind, run_newObj, Result.andThen_ok, Sem.run_pure, markStringish, run_shape]
  have hsh' : (⟨w.heap.push (Obj.cells c e), w.tape, w.drawn + 1, w.os, w.output⟩ : World).shape? w.heap.size = some (e, c.size) := hsh
  rw [hsh']
  simp only [run_freeze, Result.andThen_ok]
  rw [← hsz]
  exact congrArg _ hf

include hT in
set_option linter.unusedSectionVars false in
theorem convert_sound (h : Rep ρ σ w) {s d : TypeId} {x v : AV} {x' : Value} {σ' : St} (hx : VR ρ x x') (hl : aConvert T σ s d x = some (v, σ')) : GetsV P ρ σ w (convert s d x') v σ' := by
  unfold aConvert at hl
  split at hl
  · cases hl
  · rename_i si hsi
    have hus := run_under hT hsi w
    split at hl
    · cases hl
    · rename_i di hdi
      have hud := run_under hT hdi w
      split at hl
      · rename_i k hd
        split at hl
        · rename_i k' n
          cases hl; cases hx
          refine .pure h (x := .int k (k.wrap n)) ?_ (by rw [wrapA_eq]; exact .int _ _)
          simp only [convert, Sem.run_bind, hus, hud, Result.andThen_ok, hd]
          cases si.desc <;> rfl
        · cases hl
      · rename_i hd
        split at hl
        · rename_i b
          cases hl; cases hx
          refine .pure h (x := .string ⟨⟨b⟩⟩) ?_ (.str _)
          simp only [convert, Sem.run_bind, hus, hud, Result.andThen_ok, hd]
          cases si.desc <;> rfl
        · split at hl
          · rename_i e hsd
            rw [boolC_none] at hl
            obtain ⟨hb, hl⟩ := hl
            cases hl; cases hx
            have hue := run_underlying (isByte_eq hT hb) w
            refine .pure h (x := .string ⟨⟨[]⟩⟩) ?_ (.str _)
            simp only [convert, Sem.run_bind, hus, hud, Result.andThen_ok, hd, hsd, hue]
            rfl
          · cases hl
        · rename_i id off len cap esz
          split at hl
          · rename_i e hsd
            rw [boolC_none] at hl
            obtain ⟨hb, hl⟩ := hl
            have hue := run_underlying (isByte_eq hT hb) w
            split at hl
            · rename_i l hll
              split at hl
              · rename_i s' hs'
                cases hl
                have fin : ∀ (a : Addr) (len' cap' : Nat) (ys : List Value), (loadCells a len').run P w = .ok ys.toArray w → VRs ρ l ys →
                    (convert s d (.slice (some a) len' cap')).run P w = .ok (.string ⟨⟨s'⟩⟩) w := by
                  intro a len' cap' ys hys hr
                  have hb := bytes_run (P := P) (w := w) l ys s' [] hr hs'
                  simp only [convert, Sem.run_bind, hus, hud, Result.andThen_ok, hd, hsd, hue, Conv.bytesToString, hys]
                  rw [List.forIn_toArray]
                  refine Eq.trans (congrArg (fun r => Result.andThen r _) hb) ?_
                  rfl
                obtain ⟨vs, hvs, hn, rfl⟩ := loadN_eq hll
                cases hx with
                | slice hρ q1 q2 q3 =>
                  rename_i b o sz cap'
                  rcases hn with hn | hn
                  · subst hn
                    simp at hs'
                    refine .pure h (x := .string ⟨⟨s'⟩⟩) (fin _ _ _ [] (by simp [loadCells, loadCellsFrom]) (by simp; exact .nil)) (.str _)
                  · obtain ⟨ys, hys, hr, _⟩ := Rep.cells (P := P) h hρ hvs off len hn
                    exact .pure h (x := .string ⟨⟨s'⟩⟩) (fin _ _ _ ys hys hr) (.str _)
                | sliceE a =>
                  exact .pure h (x := .string ⟨⟨s'⟩⟩) (fin _ _ _ [] (by simp [loadCells, loadCellsFrom]) (by simp; exact .nil)) (.str _)
              · cases hl
            · cases hl
          · cases hl
        · cases hl
      · rename_i e hd
        split at hl
        · rename_i b
          rw [boolC_none] at hl
          obtain ⟨hb, hl⟩ := hl
          simp only [Bool.and_eq_true, nble, decide_eq_true_eq, llen_eq] at hb
          rw [St.pushK_eq] at hl
          cases hl; cases hx
          have hue := run_underlying (isByte_eq hT hb.1) w
          obtain ⟨cap, n, hle, hrun⟩ := stringToBytes_run (P := P) w e b hb.2
          have hd1 := Step.drew h n
          have hcs : (((b.map fun (b : UInt8) => Value.int .u8 (b.toNat : Int)) ++ List.replicate (cap - b.length) (Value.int .u8 0)).toArray).size = cap := by simp; omega
          have hst := newCells hd1.rep e (cap, cap + 1) (l := ofBytes b) (ys := ((b.map fun (b : UInt8) => Value.int .u8 (b.toNat : Int)) ++ List.replicate (cap - b.length) (Value.int .u8 0)).toArray)
            (by
              have hlen : (ofBytes b).length = b.length := by rw [ofBytes_eq]; simp
              rw [hlen, List.take_append_of_le_length (by simp), List.take_of_length_le (by simp)]
              exact ofBytes_rel b) (ofBytes_one b) (by intro i hi; rw [hcs] at hi; simp; omega)
          refine ⟨.slice (some ⟨w.heap.size, 0, none⟩) b.length cap, _, ?_, _, hd1.trans hst, ?_⟩
          · simp only [convert, Sem.run_bind, hus, hud, Result.andThen_ok, hd]
            cases si.desc <;> (simp only [Sem.run_bind, hue, Result.andThen_ok]; exact hrun)
          · rw [llen_eq]
            have := VR.slice (ρ := ρ.upd σ.next (w.heap.size, 0, cap)) (id := σ.next) (off := 0) (len := b.length) (cap := b.length) (esz := 1) (cap' := cap) (b := w.heap.size) (o := 0) (sz := cap) (Pl.upd_same _ _ _) (Nat.le_refl _) hle (by omega)
            simp only [hcs]
            simpa using this
        · cases hl
      · cases hl
end ops
end Go.Abs
