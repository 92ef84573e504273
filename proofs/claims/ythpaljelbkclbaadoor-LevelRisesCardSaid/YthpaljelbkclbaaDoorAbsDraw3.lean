/-
  THE ABSTRACT MACHINE IS RIGHT, 12: a region that draws its order comes, in whatever order, to what it comes to in the order of the text.
-/
import Derived.Test.YthpaljelbkclbaaDoorAbsDraw2
namespace Go.Abs
open Go

theorem newEnt_spec {i : Nat} {e : Nat × List AV × Option (Nat × Nat)} : ∀ {l : List (Nat × Nat × List AV × Option (Nat × Nat))}, newEnt i l = some e → (i, e) ∈ l
  | [], h => by cases h
  | p :: l, h => by
    have e1 : newEnt i (p :: l) = boolC (newEnt i l) (some p.2) (Nat.beq p.1 i) := rfl
    rw [e1, nbeq] at h
    by_cases hp : p.1 = i
    · rw [decide_eq_true hp, boolC_true] at h
      cases h; subst hp; simp
    · rw [decide_eq_false hp, boolC_false] at h
      simp [newEnt_spec h]

theorem layIs_spec {T : TT} {t : List AV} {o : Oper} {cs : List AV} {d : Option (Nat × Nat)} (h : layIs T t o cs d = true) : layOf T t o = some (cs, d) := by
  unfold layIs at h
  split at h
  · rename_i cs' d' hl
    rw [Bool.and_eq_true] at h
    have h1 := sameOnes_eq h.1
    have h2 : d' = d := by
      have := h.2
      unfold sameD at this
      split at this <;> split at this <;> first | (cases this; done) | rfl | skip
      rw [Bool.and_eq_true, nbeq, nbeq, decide_eq_true_eq, decide_eq_true_eq] at this
      rw [this.1, this.2]
    rw [hl, h1, h2]
  · cases h

theorem hoist_spec {C : Cfg} {ops : List Oper} {σ0 : St} : ∀ {l : List Oper} {i : Nat} {t : List AV} {σ : St} {k : List (Nat × Nat × List AV × Option (Nat × Nat)) → St → Res} {r : Exit × AAct × St}, hoistK C ops σ0 l i t σ k = some r →
    ∃ news σ1, k news σ1 = some r ∧ σ.next ≤ σ1.next ∧ (∀ ρ w, Rep ρ σ w → Step ρ σ w ρ σ1 w) ∧
      (∀ p ∈ news, σ.next ≤ p.2.1 ∧ i ≤ p.1) ∧ (∀ p ∈ news, ∀ q ∈ news, p.2.1 = q.2.1 → p.1 = q.1)
  | [], i, t, σ, k, r, h => ⟨[], σ, h, Nat.le_refl _, fun _ _ hr => .refl hr, by simp, by simp⟩
  | o :: l, i, t, σ, k, r, h => by
    have e : hoistK C ops σ0 (o :: l) i t σ k = match boolC none (layOf C.T t o) (hoistable ops i o) with
      | some (cs, d) => σ.pushK (.cells cs 0 false) fun σ' => hoistK C ops σ0 l (i + 1) (putL t o.dst (newVal σ.next d)) σ' (fun l σ'' => k ((i, σ.next, cs, d) :: l) σ'')
      | none => hoistK C ops σ0 l (i + 1) (putL t o.dst (quietV C ops o t σ0)) σ k := rfl
    rw [e] at h
    split at h
    · rename_i cs d hcs
      rw [St.pushK_eq] at h
      obtain ⟨news, σ1, h1, h2, h3, h4, h5⟩ := hoist_spec h
      have hnx : (σ.push (.cells cs 0 false)).next = σ.next + 1 := rfl
      refine ⟨(i, σ.next, cs, d) :: news, σ1, h1, by omega, fun ρ w hr => (Step.push hr _).trans (h3 _ _ (hr.push _)), ?_, ?_⟩
      · intro p hp
        rcases List.mem_cons.1 hp with rfl | hp
        · exact ⟨Nat.le_refl _, Nat.le_refl _⟩
        · obtain ⟨g1, g2⟩ := h4 p hp
          exact ⟨by omega, by omega⟩
      · intro p hp q hq hpq
        rcases List.mem_cons.1 hp with rfl | hp <;> rcases List.mem_cons.1 hq with rfl | hq
        · rfl
        · have := (h4 q hq).1; simp only at hpq; omega
        · have := (h4 p hp).1; simp only at hpq; omega
        · exact h5 p hp q hq hpq
    · obtain ⟨news, σ1, h1, h2, h3, h4, h5⟩ := hoist_spec h
      exact ⟨news, σ1, h1, h2, h3, fun p hp => ⟨(h4 p hp).1, by have := (h4 p hp).2; omega⟩, h5⟩

theorem tempsOk_spec {ops : List Oper} (h : tempsOk ops = true) {i : Nat} {o : Oper} (ho : ops[i]? = some o) : (∀ e ∈ o.after.toList, Region.binds .any e = true → e.on < i) ∧
    ∀ j p, j < i → ops[j]? = some p → (anc ops i).testBit j = true ∨ clash ops o p = false := by
  unfold tempsOk at h
  rw [forceL_eq, List.all_eq_true] at h
  have hlt := (List.getElem?_eq_some_iff.1 ho).1
  have := h i (List.mem_range.2 hlt)
  rw [ho] at this
  simp only [Bool.and_eq_true, List.all_eq_true] at this
  obtain ⟨h1, h2⟩ := this
  refine ⟨fun e he hb => ?_, fun j p hj hp => ?_⟩
  · have := h1 e he
    rw [hb, nblt] at this
    simpa using this
  · have := h2 j (List.mem_range.2 hj)
    rw [hp, lget_eq] at this
    simp only [Bool.or_eq_true, Bool.not_eq_true'] at this
    exact this

/-- Writes the operation this temporary? -/
def Wr (ops : Array Oper) (t j : Nat) : Prop := ∃ o, ops[j]? = some o ∧ o.dst = some t

theorem clash_of {ops : List Oper} {o p : Oper} {t : Nat} (h : clash ops o p = false) : (o.dst = some t → namesTmp ops p t = false) ∧ (p.dst = some t → namesTmp ops o t = false) := by
  unfold clash at h
  rw [Bool.or_eq_false_iff] at h
  refine ⟨fun ho => ?_, fun hp => ?_⟩
  · have := h.1; unfold writesTo at this; rw [ho] at this; exact this
  · have := h.2; unfold writesTo at this; rw [hp] at this; exact this

theorem names_dst {ops : List Oper} {o : Oper} {t : Nat} (h : o.dst = some t) : namesTmp ops o t = true := by
  unfold namesTmp optMem
  rw [h]; simp [nbeq]
theorem names_op {ops : List Oper} {o : Oper} {t : Nat} (h : Operand.tmp t ∈ o.op.operands.toList) : namesTmp ops o t = true := by
  unfold namesTmp
  have : List.any o.op.operands.toList (tmpIs t) = true := List.any_eq_true.2 ⟨_, h, by simp [tmpIs, nbeq]⟩
  rw [this]; simp
theorem names_guard {ops : List Oper} {o g : Oper} {j t : Nat} {want : Bool} (h : o.guard = some (j, want)) (hg : ops[j]? = some g) (hd : g.dst = some t) : namesTmp ops o t = true := by
  unfold namesTmp
  rw [h]; simp only [hg]
  simp [optMem, hd, nbeq]

section draw
variable {C : Cfg} (hC : CfgOK C) {ih : Evs} (hf : FSound C ih) (hr : RSound C ih) {F : Fence} {r : Bool} (hF : FOK F r) {ops : Array Oper}

/-- What holds on the way through a region: S: the operations that are done. -/
def DInv (ops : Array Oper) (rs : List Rc) (st : Nat → St) (news : List (Nat × Nat × List AV × Option (Nat × Nat))) (a : AAct) (act0 : Act) (ρ0 : Pl) (σ0 : St) (w0 : World) (S : Nat → Prop) (act : Act) (w : World) : Prop :=
  ∃ ρ m, m ≤ ops.size ∧ (∀ k rc, rs[k]? = some rc → rc.cls = 3 → (S k ↔ k < m)) ∧ Step ρ0 σ0 w0 ρ (st m) w ∧ act.tmps.size = a.tmps.length ∧ act.defers = act0.defers ∧
    (∀ t, t < a.tmps.length → (∀ j rj, S j → Wr ops t j → rs[j]? = some rj → (∀ j', S j' → Wr ops t j' → j' ≤ j) → VR ρ rj.v (act.tmps.getD t undef)) ∧
      ((∀ j, S j → ¬ Wr ops t j) → VR ρ (a.tmps.getD t .undef) (act.tmps.getD t undef))) ∧
    (∀ p ∈ news, ¬ S p.1 → ρ p.2.1 = none)

theorem putT_getD (l : List AV) (d : Option Tmp) (v : AV) (t : Nat) : (putT l d v).getD t .undef = if d = some t ∧ t < l.length then v else l.getD t .undef := by
  cases d with
  | none => simp [putT]
  | some d =>
    show (l.set d v).getD t .undef = _
    rw [List.getD_eq_getElem?_getD, List.getElem?_set, List.getD_eq_getElem?_getD]
    by_cases hd : d = t
    · subst hd
      by_cases ht : d < l.length
      · simp [ht]
      · simp [ht]
    · rw [if_neg hd, if_neg (by simp [hd])]

theorem putT_length (l : List AV) (d : Option Tmp) (v : AV) : (putT l d v).length = l.length := by
  cases d <;> simp [putT]

theorem aput_getD (act : Act) (d : Option Tmp) (x : Value) (t : Nat) : (act.put d x).tmps.getD t undef = if d = some t ∧ t < act.tmps.size then x else act.tmps.getD t undef := by
  cases d with
  | none => simp [Act.put]
  | some d =>
    show (act.tmps.setIfInBounds d x).getD t undef = _
    by_cases hd : d = t
    · subst hd
      by_cases ht : d < act.tmps.size
      · simp [ht]
      · simp [ht]
    · rw [if_neg (by simp [hd])]
      simp [Array.getElem?_setIfInBounds, hd]

theorem aput_size (act : Act) (d : Option Tmp) (x : Value) : (act.put d x).tmps.size = act.tmps.size := by
  cases d <;> simp [Act.put]

variable {rs : List Rc} {tm : Nat → List AV} {st : Nat → St} {a : AAct} {news : List (Nat × Nat × List AV × Option (Nat × Nat))} {act0 : Act} {ρ0 : Pl} {σ0 : St} {w0 : World}

/-- The last one that wrote a temporary. -/
theorem tm_last (h0 : tm 0 = a.tmps) (hlink : ∀ k o rc, ops[k]? = some o → rs[k]? = some rc → tm (k + 1) = putT (tm k) o.dst rc.v) (hlen : rs.length = ops.size) (t : Nat) : ∀ i, i ≤ ops.size →
    (tm i).length = a.tmps.length ∧
    ((∃ j rj, j < i ∧ Wr ops t j ∧ rs[j]? = some rj ∧ (t < a.tmps.length → (tm i).getD t .undef = rj.v) ∧ ∀ j', j' < i → Wr ops t j' → j' ≤ j) ∨
      ((∀ j, j < i → ¬ Wr ops t j) ∧ (tm i).getD t .undef = a.tmps.getD t .undef))
  | 0, _ => ⟨by rw [h0], .inr ⟨by omega, by rw [h0]⟩⟩
  | i + 1, hi => by
    obtain ⟨hl, hc⟩ := tm_last h0 hlink hlen t i (by omega)
    have ho : ops[i]? = some ops[i] := Array.getElem?_eq_getElem (by omega)
    have hrc : rs[i]? = some (rs[i]'(by omega)) := List.getElem?_eq_getElem (by omega)
    have htm := hlink i _ _ ho hrc
    refine ⟨by rw [htm, putT_length, hl], ?_⟩
    rw [htm, putT_getD]
    by_cases hd : ops[i].dst = some t
    · refine .inl ⟨i, _, by omega, ⟨_, ho, hd⟩, hrc, fun ht => by rw [if_pos ⟨hd, by omega⟩], fun j' hj' _ => by omega⟩
    · rw [if_neg (by simp [hd])]
      have hnw : ¬ Wr ops t i := fun ⟨o, h1, h2⟩ => by rw [ho] at h1; cases h1; exact hd h2
      rcases hc with ⟨j, rj, h1, h2, h3, h4, h5⟩ | ⟨h1, h2⟩
      · refine .inl ⟨j, rj, by omega, h2, h3, h4, fun j' hj' hw => ?_⟩
        by_cases e : j' = i
        · subst e; exact absurd hw hnw
        · exact h5 j' (by omega) hw
      · refine .inr ⟨fun j hj hw => ?_, h2⟩
        by_cases e : j = i
        · subst e; exact hnw hw
        · exact h1 j (by omega) hw

theorem st_first (hst : ∀ k rc, rs[k]? = some rc → rc.cls ≠ 3 → st (k + 1) = st k) (hlen : rs.length = ops.size) : ∀ d m, m + d ≤ ops.size → st m = st (m + d) ∨ ∃ p rp, m ≤ p ∧ p < m + d ∧ rs[p]? = some rp ∧ rp.cls = 3 ∧ st m = st p
  | 0, m, _ => .inl rfl
  | d + 1, m, h => by
    have hrc : rs[m]? = some (rs[m]'(by omega)) := List.getElem?_eq_getElem (by omega)
    by_cases hc : (rs[m]'(by omega)).cls = 3
    · exact .inr ⟨m, _, Nat.le_refl _, by omega, hrc, hc, rfl⟩
    · have e := hst m _ hrc hc
      rcases st_first hst hlen d (m + 1) (by omega) with h1 | ⟨p, rp, h1, h2, h3, h4, h5⟩
      · exact .inl (by rw [← e, h1]; congr 1; omega)
      · exact .inr ⟨p, rp, by omega, by omega, h3, h4, by rw [← e, h5]⟩

theorem st_last (hst : ∀ k rc, rs[k]? = some rc → rc.cls ≠ 3 → st (k + 1) = st k) (hlen : rs.length = ops.size) (m : Nat) : ∀ d, m + d ≤ ops.size → st (m + d) = st m ∨ ∃ p rp, m ≤ p ∧ p < m + d ∧ rs[p]? = some rp ∧ rp.cls = 3 ∧ st (m + d) = st (p + 1)
  | 0, _ => .inl rfl
  | d + 1, h => by
    have hrc : rs[m + d]? = some (rs[m + d]'(by omega)) := List.getElem?_eq_getElem (by omega)
    by_cases hc : (rs[m + d]'(by omega)).cls = 3
    · exact .inr ⟨m + d, _, by omega, by omega, hrc, hc, rfl⟩
    · have e := hst (m + d) _ hrc hc
      rcases st_last hst hlen m d (by omega) with h1 | ⟨p, rp, h1, h2, h3, h4, h5⟩
      · exact .inl (by rw [← Nat.add_assoc, e, h1])
      · exact .inr ⟨p, rp, h1, by omega, h3, h4, by rw [← Nat.add_assoc, e, h5]⟩
end draw
end Go.Abs
