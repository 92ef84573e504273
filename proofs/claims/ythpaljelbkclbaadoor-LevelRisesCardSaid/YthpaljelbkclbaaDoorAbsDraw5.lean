/-
  THE ABSTRACT MACHINE IS RIGHT, 14: regions.
-/
import Derived.Test.YthpaljelbkclbaaDoorAbsDraw4
namespace Go.Abs
open Go

section draw
variable {C : Cfg} (hC : CfgOK C) {ih : Evs} (hf : FSound C ih) (hr : RSound C ih) {F : Fence} {r : Bool} (hF : FOK F r) {ops : Array Oper}
  {rs : List Rc} {tm : Nat → List AV} {st : Nat → St} {a : AAct} {news : List (Nat × Nat × List AV × Option (Nat × Nat))} {act0 : Act} {ρ0 : Pl} {σ0 : St} {w0 : World}

/-- The operations that are listed. -/
def Ls (listed : Array Bool) (i : Nat) : Prop := listed.getD i false = true

theorem ls_set {listed : Array Bool} {i : Nat} (hi : i < listed.size) (j : Nat) : Ls (listed.setIfInBounds i true) j ↔ j = i ∨ Ls listed j := by
  unfold Ls
  simp only [Array.getD_eq_getD_getElem?, Array.getElem?_setIfInBounds]
  by_cases e : i = j
  · subst e; simp [hi]
  · simp [e, Ne.symm e]

theorem count_set : ∀ (l : List Bool) (i : Nat), l[i]? = some false → (l.set i true).count false + 1 = l.count false
  | [], i, h => by simp at h
  | b :: l, 0, h => by simp at h; subst h; simp
  | b :: l, i + 1, h => by
    have := count_set l i (by simpa using h)
    simp only [List.set_cons_succ, List.count_cons]
    omega

theorem count_zero : ∀ (l : List Bool), l.count false = 0 → ∀ (i : Nat) b, l[i]? = some b → b = true
  | [], _, i, b, h => by simp at h
  | c :: l, hc, i, b, h => by
    simp only [List.count_cons] at hc
    cases i with
    | zero => simp at h; subst h; cases c <;> simp at hc ⊢
    | succ i => exact count_zero l (by omega) i b (by simpa using h)

/-- At the end all is as in the order of the text. -/
theorem Known.done (K : Known C ih ops rs tm st a news σ0) {S : Nat → Prop} (hall : ∀ i, i < ops.size → S i) {act : Act} {w : World} (hd0 : DR ρ0 a.defers act0.defers) (hI : DInv ops rs st news a act0 ρ0 σ0 w0 S act w) :
    ∃ ρ', Step ρ0 σ0 w0 ρ' (st ops.size) w ∧ TR ρ' (tm ops.size) act ∧ DR ρ' a.defers act.defers := by
  obtain ⟨ρ, m, hm, hL, hst, hsz, hde, ht, hnew⟩ := hI
  have hm' : st m = st ops.size := by
    rcases st_first (ops := ops) K.same K.len (ops.size - m) m (by omega) with h | ⟨p, rp, h1, h2, h3, h4, h5⟩
    · rw [show m + (ops.size - m) = ops.size by omega] at h; exact h
    · have := (hL p rp h3 h4).1 (hall p (by omega)); omega
  rw [hm'] at hst
  have hlen := (tm_last (ops := ops) K.tm0 (fun k o rc h1 h2 => (K.at_ k o rc h1 h2).2.2.1) K.len 0 ops.size (Nat.le_refl _)).1
  refine ⟨ρ, hst, VRs.of_get (by rw [hlen]; simpa using hsz.symm) fun t v x hv hx => ?_, by rw [hde]; exact hd0.mono hst.le⟩
  have htl : t < a.tmps.length := by rw [← hlen]; exact (List.getElem?_eq_some_iff.1 hv).1
  have hxe : act.tmps.getD t undef = x := by
    have : act.tmps[t]? = some x := by simpa using hx
    simp [this]
  have hve : (tm ops.size).getD t .undef = v := by rw [List.getD_eq_getElem?_getD, hv]; rfl
  rw [← hxe, ← hve]
  rcases (tm_last (ops := ops) K.tm0 (fun k o rc h1 h2 => (K.at_ k o rc h1 h2).2.2.1) K.len t ops.size (Nat.le_refl _)).2 with ⟨j, rj, h1, h2, h3, h4, h5⟩ | ⟨h1, h2⟩
  · rw [h4 htl]
    exact (ht t htl).1 j rj (hall j h1) h2 h3 fun j' _ hw => h5 j' (by obtain ⟨o, ho, _⟩ := hw; exact (Array.getElem?_eq_some_iff.1 ho).1) hw
  · rw [h2]
    exact (ht t htl).2 fun j _ hw => h1 j (by obtain ⟨o, ho, _⟩ := hw; exact (Array.getElem?_eq_some_iff.1 ho).1) hw

include hC hf hr hF in
theorem Known.orders (K : Known C ih ops rs tm st a news σ0) {Q : Exit → Act → World → Prop}
    (hQ : ∀ act w, (∃ ρ', Step ρ0 σ0 w0 ρ' (st ops.size) w ∧ TR ρ' (tm ops.size) act ∧ DR ρ' a.defers act.defers) → Q .normal act w) (hd0 : DR ρ0 a.defers act0.defers) :
    ∀ (fuel : Nat) (listed : Array Bool) (act : Act) (w : World), listed.size = ops.size → listed.toList.count false = fuel → Closed ops (Ls listed) → DInv ops rs st news a act0 ρ0 σ0 w0 (Ls listed) act w →
      wpAnyIn F 0 C.P .any ops Q fuel listed act w := by
  have hall : ∀ (listed : Array Bool), listed.size = ops.size → Region.ready .any ops listed = [] → ∀ i, i < ops.size → Ls listed i := by
    intro listed hsz hrd i
    induction i using Nat.strongRecOn with
    | _ i ih' =>
      intro hi
      apply Classical.byContradiction
      intro hn
      have hmem : i ∈ Region.ready .any ops listed := by
        rw [mem_ready]
        refine ⟨?_, ops[i], Array.getElem?_eq_getElem hi, fun e he hb => ?_⟩
        · unfold Ls at hn
          simp [hsz, hi] at hn ⊢
          exact hn
        · have := (tempsOk_spec K.ok (i := i) (o := ops[i]) (by simp [hi])).1 e (by simpa using he) hb
          exact ih' e.on this (by omega)
      rw [hrd] at hmem; cases hmem
  intro fuel
  induction fuel with
  | zero =>
    intro listed act w hsz hcnt hcl hI
    have hr0 : ∀ i, i < ops.size → Ls listed i := by
      intro i hi
      have h1 : listed.toList[i]? = some (listed[i]'(by omega)) := by simp [hsz, hi]
      have := count_zero _ hcnt i _ h1
      unfold Ls
      simp [hsz, hi, this]
    refine ⟨?_, hQ _ _ (K.done hr0 hd0 hI)⟩
    rw [List.eq_nil_iff_forall_not_mem]
    intro i hi
    obtain ⟨h1, o, h2, _⟩ := mem_ready.1 hi
    have hlt := (Array.getElem?_eq_some_iff.1 h2).1
    have := hr0 i hlt
    unfold Ls at this
    simp [hsz, hlt] at this h1
    rw [this] at h1; cases h1
  | succ fuel ihf =>
    intro listed act w hsz hcnt hcl hI
    refine ⟨fun hrd => hQ _ _ (K.done (hall listed hsz hrd) hd0 hI), fun i hi => ?_⟩
    obtain ⟨h1, o, h2, h3⟩ := mem_ready.1 hi
    have hlt := (Array.getElem?_eq_some_iff.1 h2).1
    have hni : ¬ Ls listed i := by
      unfold Ls
      simp [hsz, hlt] at h1 ⊢
      exact h1
    have hlf : listed.toList[i]? = some false := by
      simp [hsz, hlt] at h1 ⊢
      exact h1
    have hstep := K.step hC hf hr hF (S' := Ls (listed.setIfInBounds i true)) (act := act) (w := w) (Q := Q) (next := wpAnyIn F 0 C.P .any ops Q fuel (listed.setIfInBounds i true)) hcl h2 hni (fun e he hb => h3 e he hb) (ls_set (by omega)) hI
      (fun act' w' hI' => ihf _ _ _ (by simpa using hsz) (by
        have := count_set _ i hlf
        rw [Array.toList_setIfInBounds]; omega) (fun j oj hoj hSj e he hb => by
        rw [ls_set (by omega)] at hSj ⊢
        rcases hSj with rfl | hSj
        · rw [h2] at hoj; cases hoj
          exact .inr (h3 e he hb)
        · exact .inr (hcl j oj hoj hSj e he hb)) hI')
    unfold wpOpIn
    rw [h2]
    exact hstep

include hC hf hr hF in
theorem draw_sound {act : Act} {ρ : Pl} {σ : St} {w : World} (h : Rep ρ σ w) (ha : AR ρ a act) {e : Exit} {a' : AAct} {σ' : St} (hl : drawC C ih ops.toList a σ = some (e, a', σ')) {id : Nat} :
    a'.inRound = a.inRound ∧ (Code.region id ops true).wpIn F 0 C.P (PostC ρ σ w e a' σ') act w := by
  unfold drawC at hl
  rw [boolC_none] at hl
  obtain ⟨hok, hl⟩ := hl
  obtain ⟨news, σ1, h1, h2, h3, h4, h5⟩ := hoist_spec hl
  rw [boolC_none] at h1
  obtain ⟨hfr, h1⟩ := h1
  obtain ⟨rfl, hde, hin, rs, htr⟩ := trace_of _ _ _ _ _ _ _ _ _ h1
  obtain ⟨hlen, hat⟩ := htr.at
  obtain ⟨tm, st, l1, l2, l3, l4, l5⟩ := htr.link
  have K : Known C ih ops rs tm st a news σ := by
    refine ⟨hok, by simpa using hlen, fun k o rc hk hrk => ?_, l1, by rw [l2]; exact h2, by rw [l2]; exact hfr, fun p hp => ?_, h5⟩
    · obtain ⟨g1, g2, g3, g4⟩ := l5 k o rc (by simpa using hk) hrk
      obtain ⟨mask, Dk, Dk', q1, q2, q3, q4, q5, q6⟩ := hat k o rc (by simpa using hk) hrk
      refine ⟨g1, g2, g3, g4, Dk, Dk', ?_, q3, fun j hj oj rj hoj hrj => ?_⟩
      · have hm : anc ops.toList k = mask := by
          unfold anc; rw [List.getD_eq_getElem?_getD, q1]; rfl
        rw [hm]
        rw [Nat.zero_add] at q2; exact q2
      · have := q6 j hj oj rj (by simpa using hoj) hrj
        rw [Nat.zero_add] at this; exact this
    · exact (h4 p hp).1
  refine ⟨hin, wpIn_region_any hC.hM ?_⟩
  have hstd := Step.drew h (w.drawn + 1)
  have hst1 : Step ρ σ w ρ (st 0) { w with drawn := w.drawn + 1 } := by rw [l2]; exact hstd.trans (h3 _ _ hstd.rep)
  have hno : ∀ i, ¬ Ls (Array.replicate ops.size false) i := by
    intro i hi
    unfold Ls at hi
    rw [Array.getD_eq_getD_getElem?, Array.getElem?_replicate] at hi
    split at hi <;> simp at hi
  refine K.orders (act0 := act) (ρ0 := ρ) (w0 := w) hC hf hr hF (fun act' w' ⟨ρ', g1, g2, g3⟩ => ⟨rfl, ρ', ?_, ⟨?_, ?_⟩⟩) ha.defers _ _ _ _ (by simp) (by simp) (fun i o _ hi => absurd hi (hno i)) ?_
  · refine ⟨ρ, 0, Nat.zero_le _, fun k rc _ _ => ⟨fun hk => absurd hk (hno k), fun hk => absurd hk (Nat.not_lt_zero _)⟩, hst1, ?_, rfl, fun t ht => ⟨fun j rj hj => absurd hj (hno j), fun _ => ha.tmps.getD t⟩, fun p hp _ => ?_⟩
    · have := VRs.length ha.tmps
      simpa using this.symm
    · have hge := (h4 _ hp).1
      cases hρ : ρ p.2.1 with
      | none => rfl
      | some q =>
        have := (h.dom _ _ hρ).1
        omega
  · have : st ops.size = σ' := by rw [← l4]; simp
    rw [← this]; exact g1
  · have : tm ops.size = a'.tmps := by rw [← l3]; simp
    rw [← this]; exact g2
  · rw [hde]; exact g3
end draw
end Go.Abs
