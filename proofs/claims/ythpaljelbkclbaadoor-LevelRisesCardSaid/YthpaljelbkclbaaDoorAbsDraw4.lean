/-
  THE ABSTRACT MACHINE IS RIGHT, 13: a region that draws its order, the proof.
-/
import Derived.Test.YthpaljelbkclbaaDoorAbsDraw3
namespace Go.Abs
open Go

section draw
variable {C : Cfg} (hC : CfgOK C) {ih : Evs} (hf : FSound C ih) (hr : RSound C ih) {F : Fence} {r : Bool} (hF : FOK F r) {ops : Array Oper}
  {rs : List Rc} {tm : Nat → List AV} {st : Nat → St} {a : AAct} {news : List (Nat × Nat × List AV × Option (Nat × Nat))} {act0 : Act} {ρ0 : Pl} {σ0 : St} {w0 : World}

/-- What is known of the run in the order of the text. -/
structure Known (C : Cfg) (ih : Evs) (ops : Array Oper) (rs : List Rc) (tm : Nat → List AV) (st : Nat → St) (a : AAct) (news : List (Nat × Nat × List AV × Option (Nat × Nat))) (σ0 : St) : Prop where
  ok : tempsOk ops.toList = true
  len : rs.length = ops.size
  at_ : ∀ k o rc, ops[k]? = some o → rs[k]? = some rc → rc.tmps = tm k ∧ rc.σ = st k ∧ tm (k + 1) = putT (tm k) o.dst rc.v ∧ st (k + 1) = rc.σ' ∧
    ∃ Dk Dk', S1 C ih ops.toList k (anc ops.toList k) o Dk rc.tmps rc.σ rc Dk' ∧ Dk.news = news ∧
      (∀ j, j < k → ∀ oj rj, ops[j]? = some oj → rs[j]? = some rj → (rj.cls = 3 → (j, rj.σ) ∈ Dk.loud) ∧ (rj.cls = 1 → (⟨j, oj.op, rj.tmps, rj.v⟩ : Seen) ∈ Dk.reads))
  tm0 : tm 0 = a.tmps
  next : σ0.next ≤ (st 0).next
  fresh : allFresh (st 0) 0 news = true
  new1 : ∀ p ∈ news, σ0.next ≤ p.2.1
  new2 : ∀ p ∈ news, ∀ q ∈ news, p.2.1 = q.2.1 → p.1 = q.1

theorem Known.same (K : Known C ih ops rs tm st a news σ0) (k : Nat) (rc : Rc) (hk : rs[k]? = some rc) (hc : rc.cls ≠ 3) : st (k + 1) = st k := by
  have hlt : k < ops.size := by have := (List.getElem?_eq_some_iff.1 hk).1; rw [K.len] at this; exact this
  obtain ⟨h1, h2, h3, h4, Dk, Dk', h5, _⟩ := K.at_ k _ rc (Array.getElem?_eq_getElem hlt) hk
  rw [h4, h5.grows.2.2.2.2.2.2.2 hc, h2]

theorem S1.inv {L : List Oper} {i mask : Nat} {o : Oper} {D D' : Draw} {t : List AV} {σ : St} {rc : Rc} (h : S1 C ih L i mask o D t σ rc D') (hc : rc.cls = 3) :
    allLoudIn mask D.loud = true ∧ readLate C rc.σ' mask D.reads = true ∧ allFresh rc.σ' mask D.news = true := by
  cases h with
  | loud g1 g2 g3 g4 g5 g6 => exact ⟨g4, g5, g6⟩
  | _ => cases hc

/-- The variables that are not laid yet are as they are laid. -/
theorem Known.freshAt (K : Known C ih ops rs tm st a news σ0) {S : Nat → Prop} (hcl : Closed ops S) {m : Nat} (hm : m ≤ ops.size) (hS : ∀ k rc, rs[k]? = some rc → rc.cls = 3 → (S k ↔ k < m))
    {i id : Nat} {cs : List AV} {d : Option (Nat × Nat)} (hn : (i, id, cs, d) ∈ news) (hi : ¬ S i) : (st m).get id = some (.cells cs 0 false) := by
  rcases st_last (ops := ops) K.same K.len 0 m (by omega) with h | ⟨p, rp, _, hp, hrp, hc, h⟩
  · rw [Nat.zero_add] at h
    rw [h]
    exact isFresh_eq (allFresh_spec K.fresh _ hn (by simp))
  · rw [Nat.zero_add] at h hp
    rw [h]
    have hlt : p < ops.size := by omega
    have hSp := (hS p rp hrp hc).2 hp
    have hnb : (anc ops.toList p).testBit i = false := by
      cases hb : (anc ops.toList p).testBit i
      · rfl
      · exact absurd (hcl.anc hSp hb) hi
    obtain ⟨h1, h2, h3, h4, Dk, Dk', h5, h6, _⟩ := K.at_ p _ rp (Array.getElem?_eq_getElem hlt) hrp
    rw [h4]
    have g6 := (h5.inv hc).2.2
    rw [h6] at g6
    exact isFresh_eq (allFresh_spec g6 _ hn hnb)

/-- The temporaries that an operation that comes up names. -/
theorem Known.named (K : Known C ih ops rs tm st a news σ0) {S : Nat → Prop} (hcl : Closed ops S) {act : Act} {ρ : Pl} {i : Nat} {o : Oper} (ho : ops[i]? = some o) (hi : ¬ S i)
    (hup : ∀ e ∈ o.after, Region.binds .any e = true → S e.on) (hsz : act.tmps.size = a.tmps.length)
    (ht : ∀ t, t < a.tmps.length → (∀ j rj, S j → Wr ops t j → rs[j]? = some rj → (∀ j', S j' → Wr ops t j' → j' ≤ j) → VR ρ rj.v (act.tmps.getD t undef)) ∧
      ((∀ j, S j → ¬ Wr ops t j) → VR ρ (a.tmps.getD t .undef) (act.tmps.getD t undef)))
    {t : Nat} (hnm : namesTmp ops.toList o t = true) : VR ρ ((tm i).getD t .undef) (act.tmps.getD t undef) := by
  have hlt : i < ops.size := (Array.getElem?_eq_some_iff.1 ho).1
  have hol : ops.toList[i]? = some o := by simpa using ho
  have hanc : ∀ j, (anc ops.toList i).testBit j = true → S j := by
    intro j hj
    obtain ⟨e, he, hb, hl, h3⟩ := (anc_bit hol j).1 hj
    have hse := hup e (by simpa using he) hb
    rcases h3 with rfl | h3
    · exact hse
    · exact hcl.anc hse h3
  have hlater : ∀ j, S j → Wr ops t j → i < j → False := by
    intro j hSj ⟨oj, hoj, hd⟩ hij
    have hojl : ops.toList[j]? = some oj := by simpa using hoj
    rcases (tempsOk_spec K.ok hojl).2 i o hij hol with hb | hc
    · exact hi (hcl.anc hSj hb)
    · have := (clash_of (t := t) hc).1 hd
      rw [hnm] at this; cases this
  have hnow : ∀ j, S j → j ≠ i := fun j hSj e => hi (e ▸ hSj)
  obtain ⟨hl, hcase⟩ := tm_last (ops := ops) K.tm0 (fun k o rc h1 h2 => (K.at_ k o rc h1 h2).2.2.1) K.len t i (by omega)
  by_cases htl : t < a.tmps.length
  · rcases hcase with ⟨j, rj, h1, h2, h3, h4, h5⟩ | ⟨h1, h2⟩
    · rw [h4 htl]
      obtain ⟨oj, hoj, hd⟩ := h2
      have hojl : ops.toList[j]? = some oj := by simpa using hoj
      have hSj : S j := by
        rcases (tempsOk_spec K.ok hol).2 j oj h1 hojl with hb | hc
        · exact hanc j hb
        · have := (clash_of (t := t) hc).2 hd
          rw [hnm] at this; cases this
      refine (ht t htl).1 j rj hSj ⟨oj, hoj, hd⟩ h3 fun j' hSj' hw => ?_
      by_cases hlt' : j' < i
      · exact h5 j' hlt' hw
      · have := hnow j' hSj'
        exact absurd (hlater j' hSj' hw (by omega)) id
    · rw [h2]
      refine (ht t htl).2 fun j hSj hw => ?_
      by_cases hlt' : j < i
      · exact h1 j hlt' hw
      · have := hnow j hSj
        exact hlater j hSj hw (by omega)
  · have e1 : (tm i).getD t .undef = .undef := by
      rw [List.getD_eq_getElem?_getD, List.getElem?_eq_none (by omega)]; rfl
    have e2 : act.tmps.getD t undef = undef := by
      have : ¬ t < act.tmps.size := by omega
      simp [this]
    rw [e1, e2]; exact VR.undef

/-- An operation is done: the invariant goes on. -/
theorem Known.after (K : Known C ih ops rs tm st a news σ0) {S S' : Nat → Prop} (hcl : Closed ops S) {act : Act} {ρ : Pl} {i : Nat} {o : Oper} {rc : Rc} (ho : ops[i]? = some o) (hrc : rs[i]? = some rc) (hi : ¬ S i)
    (hS' : ∀ j, S' j ↔ j = i ∨ S j) (hsz : act.tmps.size = a.tmps.length) (hde : act.defers = act0.defers)
    (ht : ∀ t, t < a.tmps.length → (∀ j rj, S j → Wr ops t j → rs[j]? = some rj → (∀ j', S j' → Wr ops t j' → j' ≤ j) → VR ρ rj.v (act.tmps.getD t undef)) ∧
      ((∀ j, S j → ¬ Wr ops t j) → VR ρ (a.tmps.getD t .undef) (act.tmps.getD t undef)))
    {ρ' : Pl} {m' : Nat} {w' : World} {x : Value} (hle : Pl.le ρ ρ') (hm' : m' ≤ ops.size) (hL : ∀ k rc, rs[k]? = some rc → rc.cls = 3 → (S' k ↔ k < m')) (hst : Step ρ0 σ0 w0 ρ' (st m') w')
    (hx : VR ρ' rc.v x) (hnew : ∀ p ∈ news, ¬ S' p.1 → ρ' p.2.1 = none) : DInv ops rs st news a act0 ρ0 σ0 w0 S' (act.put o.dst x) w' := by
  refine ⟨ρ', m', hm', hL, hst, by rw [aput_size]; exact hsz, by rw [aput_rest]; exact hde, fun t htl => ?_, hnew⟩
  have hol : ops.toList[i]? = some o := by simpa using ho
  have hlate : ∀ j, S j → Wr ops t j → o.dst = some t → j < i := by
    intro j hSj ⟨oj, hoj, hd⟩ hdo
    have hojl : ops.toList[j]? = some oj := by simpa using hoj
    rcases Nat.lt_trichotomy j i with h | h | h
    · exact h
    · exact absurd (h ▸ hSj) hi
    · rcases (tempsOk_spec K.ok hojl).2 i o h hol with hb | hc
      · exact absurd (hcl.anc hSj hb) hi
      · have := (clash_of (t := t) hc).1 hd
        rw [names_dst hdo] at this; cases this
  have hwi : Wr ops t i → o.dst = some t := fun ⟨o', h1, h2⟩ => by rw [ho] at h1; cases h1; exact h2
  rw [aput_getD, hsz]
  by_cases hd : o.dst = some t
  · rw [if_pos ⟨hd, htl⟩]
    refine ⟨fun j rj hSj hw hrj hmax => ?_, fun hno => absurd ⟨o, ho, hd⟩ (hno i ((hS' i).2 (.inl rfl)))⟩
    have hij := hmax i ((hS' i).2 (.inl rfl)) ⟨o, ho, hd⟩
    rcases (hS' j).1 hSj with rfl | hSj'
    · rw [hrc] at hrj; cases hrj; exact hx
    · have := hlate j hSj' hw hd; omega
  · rw [if_neg (fun h => hd h.1)]
    refine ⟨fun j rj hSj hw hrj hmax => ?_, fun hno => ((ht t htl).2 fun j hSj => hno j ((hS' j).2 (.inr hSj))).mono hle⟩
    rcases (hS' j).1 hSj with rfl | hSj'
    · exact absurd (hwi hw) hd
    · exact ((ht t htl).1 j rj hSj' hw hrj fun j' hj' hw' => hmax j' ((hS' j').2 (.inr hj')) hw').mono hle

include hC hf hr hF in
/-- One operation that comes up. -/
theorem Known.step (K : Known C ih ops rs tm st a news σ0) {S S' : Nat → Prop} (hcl : Closed ops S) {act : Act} {w : World} {i : Nat} {o : Oper} (ho : ops[i]? = some o) (hi : ¬ S i)
    (hup : ∀ e ∈ o.after, Region.binds .any e = true → S e.on) (hS' : ∀ j, S' j ↔ j = i ∨ S j) (hI : DInv ops rs st news a act0 ρ0 σ0 w0 S act w) {next : Act → World → Prop} {Q : Exit → Act → World → Prop}
    (hn : ∀ act' w', DInv ops rs st news a act0 ρ0 σ0 w0 S' act' w' → next act' w') :
    if Region.wanted o (yielded ops act.tmps) then o.wpIn F 0 C.P act w next Q else (∀ f, o.about C.P w act.eval = some f → F.fn f) ∧ next (act.put o.dst undef) w := by
  obtain ⟨ρ, m, hm, hL, hst, hsz, hde, ht, hnew⟩ := hI
  have hlt : i < ops.size := (Array.getElem?_eq_some_iff.1 ho).1
  have hol : ops.toList[i]? = some o := by simpa using ho
  have hrc : rs[i]? = some (rs[i]'(by rw [K.len]; exact hlt)) := List.getElem?_eq_getElem _
  generalize (rs[i]'(by rw [K.len]; exact hlt)) = rc at hrc
  obtain ⟨k1, k2, k3, k4, Dk, Dk', k5, k6, k7⟩ := K.at_ i o rc ho hrc
  have hnamed : ∀ t, namesTmp ops.toList o t = true → VR ρ ((tm i).getD t .undef) (act.tmps.getD t undef) := fun t hnm => K.named hcl ho hi hup hsz ht hnm
  have hot : OT ρ (tm i) act o.op := by
    intro x hx v hv
    unfold evT at hv
    split at hv
    · rename_i t
      cases hv
      rw [lget_eq]
      exact hnamed t (names_op hx)
    · exact .ofVal hv
    · cases hv
    · cases hv; exact .fn .nil .nil
  have hwant : wantedA ops.toList o (tm i) = Region.wanted o (yielded ops act.tmps) :=
    wanted_eq (ρ := ρ) fun j want hg g d hj hd => hnamed d (names_guard hg (by simpa using hj) hd)
  have hanc : ∀ j, (anc ops.toList i).testBit j = true → S j := by
    intro j hj
    obtain ⟨e, he, hb, hl, h3⟩ := (anc_bit hol j).1 hj
    have hse := hup e (by simpa using he) hb
    rcases h3 with rfl | h3
    · exact hse
    · exact hcl.anc hse h3
  have hLq : rc.cls ≠ 3 → ∀ k rk, rs[k]? = some rk → rk.cls = 3 → (S' k ↔ k < m) := by
    intro hc k rk hk hk3
    rw [hS', ← hL k rk hk hk3]
    refine ⟨fun h => h.resolve_left fun e => ?_, .inr⟩
    subst e; rw [hrc] at hk; cases hk; exact hc hk3
  have hnew' : ∀ p ∈ news, ¬ S' p.1 → ρ p.2.1 = none ∧ p.2.1 < (st m).next := by
    rintro ⟨i', id, cs, d⟩ hp h2
    have hns : ¬ S i' := fun h => h2 ((hS' i').2 (.inr h))
    exact ⟨hnew _ hp hns, St.get_lt (K.freshAt hcl hm hL hp hns)⟩
  -- what an operation comes to in this store, whatever it is
  have go : ∀ (s : St) (m' : Nat), stepOp C ih o.op (tm i) (st m) = some (rc.v, s) → s = st m' → m' ≤ ops.size → (∀ k rk, rs[k]? = some rk → rk.cls = 3 → (S' k ↔ k < m')) → o.wpIn F 0 C.P act w next Q := by
    intro s m' hs hsm hm' hL'
    refine oper_sound hC hf hr hst.rep hot hs hF fun x w' ρ' hst' hv => ?_
    subst hsm
    refine hn _ _ (K.after hcl ho hrc hi hS' hsz hde ht hst'.le hm' hL' (hst.trans hst') hv fun p h1 h2 => ?_)
    obtain ⟨g1, g2⟩ := hnew' p h1 h2
    rw [hst'.old _ g2]; exact g1
  rw [k1, k2] at k5
  rw [← hwant]
  generalize hrc' : rc = rc' at k5
  cases k5 with
  | hoist hid hlay =>
    rename_i id cs d
    rw [k6] at hid
    have hcs := newEnt_spec hid
    have n1 := K.new1 _ hcs
    have n3 := layIs_spec hlay
    have hfr := K.freshAt hcl hm hL hcs hi
    have hnone := hnew _ hcs hi
    -- the operation lays its cells
    have fin : ∀ (y : Value) (ys : Array Value) (t : TypeId), o.guard = none → (∀ c, o.op ≠ .defer c) → (execOp act.eval o).run C.P w = .ok (.value y) (w.alloc (.cells ys t)) → VRs ρ cs ys.toList → (∀ c ∈ cs, c.one = true) →
        (∀ ρ' : Pl, ρ' id = some (w.heap.size, 0, ys.size) → VR ρ' (newVal id d) y) →
        (if wantedA ops.toList o (tm i) then o.wpIn F 0 C.P act w next Q else (∀ f, o.about C.P w act.eval = some f → F.fn f) ∧ next (act.put o.dst undef) w) := by
      intro y ys t hg hnd hrun hys h1 hvr
      have hw : wantedA ops.toList o (tm i) = true := by unfold wantedA; rw [hg]
      rw [if_pos hw]
      refine ⟨fun f _ => hF.fn f, ?_⟩
      rw [Oper.semAt_eq _ _ _ hnd, hrun]
      have hfill := Step.fill (x := .cells ys t) hst ys.size n1 hnone hfr (fun ρ' hle => by
        have hln := hys.length
        rw [Array.length_toList] at hln
        refine ⟨ys, t, (0, 0), rfl, rfl, by rw [Nat.zero_add]; exact Nat.le_of_eq hln, fun i v hvi => ?_, fun i _ _ => by simp⟩
        obtain ⟨y', hy', hr'⟩ := hys.get hvi
        exact ⟨h1 _ (List.mem_of_getElem? hvi), y', by simpa using hy', hr'.mono hle⟩)
      refine hn _ _ (K.after hcl ho hrc hi hS' hsz hde ht (Pl.le_upd _ hnone) hm (hLq (by rw [hrc']; simp)) hfill (by rw [hrc']; exact hvr _ (Pl.upd_same _ _ _)) fun p h1 h2 => ?_)
      obtain ⟨g1, _⟩ := hnew' p h1 h2
      have hne : p.2.1 ≠ id := by
        intro e
        have := K.new2 _ h1 _ hcs e
        exact h2 ((hS' p.1).2 (.inl this))
      unfold Pl.upd
      rw [if_neg hne]; exact g1
    unfold layOf at n3
    split at n3
    · cases n3
    rename_i hg
    split at n3
    · rename_i t hop
      split at n3
      case h_2 => cases n3
      rename_i ti hti
      split at n3
      · cases n3
      · rename_i z hz hnt
        cases n3
        obtain ⟨y, hy, ho1, hnt1⟩ := run_zero (P := C.P) hC.hT hti hnt w
        obtain ⟨hzc, hz1⟩ := zero_cells (ρ := ρ) ho1 hnt1
        refine fin (.pointer (some ⟨w.heap.size, 0, none⟩)) y.cells t hg (by rw [hop]; simp) ?_ hzc hz1 fun ρ' hρ' => .ptr hρ'
        unfold execOp
        rw [hop]
        have hnv : (newVar t y).run C.P w = .ok ⟨w.heap.size, 0, none⟩ (w.alloc (.cells y.cells t)) := rfl
        simp [Instr.alloc, hy, hnv]
      · cases n3
    · rename_i t n parts hop
      split at n3
      case h_2 => cases n3
      rename_i l hl
      split at n3
      case h_2 => cases n3
      rename_i cs' size hsc
      cases n3
      have hol : OL ρ (tm i) act (parts.toList.map (·.2)) := OL.sub hot (by rw [hop]; simp [Op.operands])
      obtain ⟨r', elem, hrun, hrr, hr1, hsz'⟩ := buildSlice_run (P := C.P) hC.hT (evParts_sound hol hl) hsc w
      refine fin (.slice (some ⟨w.heap.size, 0, none⟩) n n) r' elem hg (by rw [hop]; simp) ?_ hrr hr1 fun ρ' hρ' => by
        have := VR.slice (ρ := ρ') (id := id) (off := 0) (len := n) (cap := n) (esz := size) (cap' := n) (b := w.heap.size) (o := 0) (sz := r'.size) hρ' (Nat.le_refl _) (Nat.le_refl _) (by omega)
        show VR ρ' (.slice id 0 n n size) _
        simpa using this
      unfold execOp
      rw [hop]
      have he : (parts.map fun (i, x) => (i, act.eval x)) = (parts.toList.map fun (i, x) => (i, act.eval x)).toArray := by apply Array.ext'; simp
      simp only [he, Sem.run_bind, hrun, Result.andThen_ok, Sem.run_pure]
    · cases n3
  | skip hid hw =>
    rw [if_neg (by rw [hw]; simp)]
    refine ⟨fun f _ => hF.fn f, hn _ _ (K.after hcl ho hrc hi hS' hsz hde ht (.refl _) hm (hLq (by rw [hrc']; simp)) hst (by rw [hrc']; exact VR.undef) fun p h1 h2 => (hnew' p h1 h2).1)⟩
  | pure hid hw hs hc =>
    rw [if_pos hw]
    rw [step_read (.inr hc)] at hs
    have := (pure_same hc hs (st m)).2
    refine go (st m) m ?_ rfl hm (hLq (by rw [hrc']; simp))
    rw [step_read (.inr hc), this, hrc']
  | read hid hw hs hc hnx he =>
    rename_i v s
    rw [if_pos hw]
    rw [step_read (.inl hc)] at hs
    have key : ∃ s', aOp C.T C.E (tm i) o.op (st m) = some (v, s') ∧ s'.next = (st m).next := by
      rcases Nat.le_total m i with hmi | hmi
      · rcases st_first (ops := ops) K.same K.len (i - m) m (by omega) with h | ⟨p, rp, h1, h2, h3, h4, h5⟩
        · rw [show m + (i - m) = i by omega] at h
          rw [h]; exact ⟨s, hs, hnx⟩
        · rw [h5]
          have hnS : ¬ S p := fun h => by have := (hL p rp h3 h4).1 h; omega
          have hnb : (anc ops.toList i).testBit p = false := by
            cases hb : (anc ops.toList i).testBit p
            · rfl
            · exact absurd (hanc p hb) hnS
          have hpl : p < ops.size := by omega
          have hin := (k7 p (by omega) _ rp (Array.getElem?_eq_getElem hpl) h3).1 h4
          have := readEarly_spec he _ hin hnb
          rw [(K.at_ p _ rp (Array.getElem?_eq_getElem hpl) h3).2.1] at this
          exact stillIs_eq this
      · rcases st_last (ops := ops) K.same K.len i (m - i) (by omega) with h | ⟨p, rp, h1, h2, h3, h4, h5⟩
        · rw [show i + (m - i) = m by omega] at h
          rw [h]; exact ⟨s, hs, hnx⟩
        · rw [show i + (m - i) = m by omega] at h5
          rw [h5]
          have hSp : S p := (hL p rp h3 h4).2 (by omega)
          have hpi : i < p := by
            rcases Nat.lt_or_eq_of_le h1 with h | h
            · exact h
            · subst h; exact absurd hSp hi
          have hnb : (anc ops.toList p).testBit i = false := by
            cases hb : (anc ops.toList p).testBit i
            · rfl
            · exact absurd (hcl.anc hSp hb) hi
          have hpl : p < ops.size := by omega
          obtain ⟨q1, q2, q3, q4, Dp, Dp', q5, q6, q7⟩ := K.at_ p _ rp (Array.getElem?_eq_getElem hpl) h3
          have hin := (q7 i hpi o rc ho hrc).2 (by rw [hrc'])
          have := readLate_spec (q5.inv h4).2.1 _ hin hnb
          rw [q4]
          have := stillIs_eq this
          rw [k1, hrc'] at this
          exact this
    obtain ⟨s', hs', hn'⟩ := key
    have hsame := read_same hc hs' hn'
    refine go (st m) m ?_ rfl hm (hLq (by rw [hrc']; simp))
    rw [step_read (.inl hc), hs', hsame, hrc']
  | loud hid hw hs hl hrl hfr =>
    rename_i v s
    rw [if_pos hw]
    have hearly : ∀ k rk, rs[k]? = some rk → rk.cls = 3 → k < i → S k := by
      intro k rk hk hk3 hki
      have hkl : k < ops.size := by omega
      have hin := (k7 k hki _ rk (Array.getElem?_eq_getElem hkl) hk).1 hk3
      exact hanc k (allLoudIn_spec hl _ hin)
    have hlate : ∀ k rk, rs[k]? = some rk → rk.cls = 3 → i < k → ¬ S k := by
      intro k rk hk hk3 hki hSk
      have hkl : k < ops.size := by have := (List.getElem?_eq_some_iff.1 hk).1; rw [K.len] at this; exact this
      obtain ⟨q1, q2, q3, q4, Dp, Dp', q5, q6, q7⟩ := K.at_ k _ rk (Array.getElem?_eq_getElem hkl) hk
      have hin := (q7 i hki o rc ho hrc).1 (by rw [hrc'])
      exact hi (hcl.anc hSk (allLoudIn_spec (q5.inv hk3).1 _ hin))
    have hsti : st m = st i := by
      rcases Nat.le_total m i with hmi | hmi
      · rcases st_first (ops := ops) K.same K.len (i - m) m (by omega) with h | ⟨p, rp, h1, h2, h3, h4, h5⟩
        · rw [show m + (i - m) = i by omega] at h; exact h
        · have := (hL p rp h3 h4).1 (hearly p rp h3 h4 (by omega)); omega
      · rcases st_last (ops := ops) K.same K.len i (m - i) (by omega) with h | ⟨p, rp, h1, h2, h3, h4, h5⟩
        · rw [show i + (m - i) = m by omega] at h; exact h
        · have hSp := (hL p rp h3 h4).2 (by omega)
          rcases Nat.lt_or_eq_of_le h1 with h | h
          · exact absurd hSp (hlate p rp h3 h4 h)
          · subst h; exact absurd hSp hi
    refine go s (i + 1) (by rw [hsti, hs, hrc']) (by rw [k4, hrc']) (by omega) fun k rk hk hk3 => ?_
    rw [hS']
    constructor
    · rintro (rfl | h)
      · omega
      · rcases Nat.lt_trichotomy k i with h' | h' | h'
        · omega
        · omega
        · exact absurd h (hlate k rk hk hk3 h')
    · intro h
      by_cases e : k = i
      · exact .inl e
      · exact .inr (hearly k rk hk hk3 (by omega))
end draw
end Go.Abs
