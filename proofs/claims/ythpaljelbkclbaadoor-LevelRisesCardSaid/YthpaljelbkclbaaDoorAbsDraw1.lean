/-
  THE ABSTRACT MACHINE IS RIGHT, 10: ancestors; what a region that draws has left behind, operation by operation.
-/
import Derived.Test.YthpaljelbkclbaaDoorAbsCtl
import Derived.OrdersIn
namespace Go.Abs
open Go

/-! ### ancestors -/

theorem maskOf_cons (masks : List Nat) (n : Nat) (e : Edge) (es : List Edge) : maskOf masks n (e :: es) =
    boolC (maskOf masks n es) (Nat.lor (Nat.lor (maskOf masks n es) (2 ^ e.on)) (lget masks (n - 1 - e.on) 0)) (Region.binds .any e && Nat.blt e.on n) := rfl

theorem maskOf_bit {R : List Nat} {n : Nat} (hn : n ≤ R.length) (j : Nat) : ∀ es : List Edge, (maskOf (R.take n).reverse n es).testBit j = true ↔
    ∃ e ∈ es, Region.binds .any e = true ∧ e.on < n ∧ (e.on = j ∨ (R.getD e.on 0).testBit j = true)
  | [] => by
    have : maskOf (R.take n).reverse n [] = 0 := rfl
    rw [this]; simp
  | e :: es => by
    rw [maskOf_cons, nblt]
    have ih := maskOf_bit hn j es
    by_cases hb : Region.binds .any e = true ∧ e.on < n
    · rw [show (Region.binds .any e && decide (e.on < n)) = true from by simp [hb.1, hb.2], boolC_true]
      have hl : lget (R.take n).reverse (n - 1 - e.on) 0 = R.getD e.on 0 := by
        rw [lget_eq, List.getD_eq_getElem?_getD, List.getD_eq_getElem?_getD]
        have h1 : n - 1 - e.on < (R.take n).length := by simp; omega
        rw [List.getElem?_reverse (by omega)]
        have : (R.take n).length - 1 - (n - 1 - e.on) = e.on := by simp; omega
        rw [this, List.getElem?_take_of_lt hb.2]
      rw [hl]
      show ((maskOf (R.take n).reverse n es ||| 2 ^ e.on ||| R.getD e.on 0).testBit j = true) ↔ _
      rw [Nat.testBit_or, Nat.testBit_or, Nat.testBit_two_pow, Bool.or_eq_true, Bool.or_eq_true, ih, decide_eq_true_eq]
      constructor
      · rintro ((⟨e', he, h⟩ | h) | h)
        · exact ⟨e', by simp [he], h⟩
        · exact ⟨e, by simp, hb.1, hb.2, .inl h⟩
        · exact ⟨e, by simp, hb.1, hb.2, .inr h⟩
      · rintro ⟨e', he, h1, h2, h3⟩
        rcases List.mem_cons.1 he with rfl | he
        · rcases h3 with h3 | h3
          · exact .inl (.inr h3)
          · exact .inr h3
        · exact .inl (.inl ⟨e', he, h1, h2, h3⟩)
    · rw [show (Region.binds .any e && decide (e.on < n)) = false from by
        cases h1 : Region.binds .any e
        · rfl
        · simp only [Bool.true_and, decide_eq_false_iff_not]; exact fun h2 => hb ⟨h1, h2⟩, boolC_false, ih]
      constructor
      · rintro ⟨e', he, h⟩; exact ⟨e', by simp [he], h⟩
      · rintro ⟨e', he, h1, h2, h3⟩
        rcases List.mem_cons.1 he with rfl | he
        · exact absurd ⟨h1, h2⟩ hb
        · exact ⟨e', he, h1, h2, h3⟩

theorem masksR_cons (o : Oper) (l : List Oper) (n : Nat) (acc : List Nat) : masksR (o :: l) n acc = masksR l (n + 1) (maskOf acc n o.after.toList :: acc) := by
  have : masksR (o :: l) n acc = forceNat (maskOf acc n o.after.toList) fun m => forceNat (n + 1) fun n => masksR l n (m :: acc) := rfl
  rw [this, forceNat_eq, forceNat_eq]

theorem masksR_spec : ∀ (l : List Oper) (n : Nat) (acc : List Nat), acc.length = n →
    ∃ R : List Nat, (masksR l n acc).reverse = R ∧ R.length = n + l.length ∧ R.take n = acc.reverse ∧ ∀ k o, l[k]? = some o → R.getD (n + k) 0 = maskOf (R.take (n + k)).reverse (n + k) o.after.toList
  | [], n, acc, h => ⟨acc.reverse, rfl, by simp [h], by rw [List.take_of_length_le (by simp [h])], by simp⟩
  | o :: l, n, acc, h => by
    obtain ⟨R, h1, h2, h3, h4⟩ := masksR_spec l (n + 1) (maskOf acc n o.after.toList :: acc) (by simp [h])
    refine ⟨R, by rw [masksR_cons]; exact h1, by rw [h2]; simp; omega, ?_, ?_⟩
    · have := congrArg (List.take n) h3
      rw [List.take_take, Nat.min_eq_left (by omega)] at this
      rw [this, List.reverse_cons, List.take_append_of_le_length (by simp [h]), List.take_of_length_le (by simp [h])]
    · intro k o' hk
      cases k with
      | zero =>
        simp at hk; subst hk
        have e1 : R.take n = acc.reverse := by
          have := congrArg (List.take n) h3
          rw [List.take_take, Nat.min_eq_left (by omega)] at this
          rw [this, List.reverse_cons, List.take_append_of_le_length (by simp [h]), List.take_of_length_le (by simp [h])]
        rw [Nat.add_zero, e1, List.reverse_reverse]
        have : R[n]? = (R.take (n + 1))[n]? := by rw [List.getElem?_take_of_lt (by omega)]
        rw [List.getD_eq_getElem?_getD, this, h3, List.reverse_cons, List.getElem?_append_right (by simp [h])]
        simp [h]
      | succ k =>
        have := h4 k o' (by simpa using hk)
        rw [show n + (k + 1) = n + 1 + k by omega]; exact this

/-- The ancestors of operation i, as a number. -/
noncomputable def anc (ops : List Oper) (i : Nat) : Nat := (masksOf ops).getD i 0

theorem masksOf_length (ops : List Oper) : (masksOf ops).length = ops.length := by
  obtain ⟨R, h1, h2, _⟩ := masksR_spec ops 0 [] rfl
  unfold masksOf; rw [h1, h2]; omega

theorem anc_bit {ops : List Oper} {i : Nat} {o : Oper} (ho : ops[i]? = some o) (j : Nat) : (anc ops i).testBit j = true ↔
    ∃ e ∈ o.after.toList, Region.binds .any e = true ∧ e.on < i ∧ (e.on = j ∨ (anc ops e.on).testBit j = true) := by
  obtain ⟨R, h1, h2, h3, h4⟩ := masksR_spec ops 0 [] rfl
  have hR : masksOf ops = R := h1
  have hlt := (List.getElem?_eq_some_iff.1 ho).1
  have := h4 i o ho
  rw [Nat.zero_add] at this
  unfold anc
  rw [hR, this]
  exact maskOf_bit (by omega) j _

theorem anc_none {ops : List Oper} {i : Nat} (h : ops[i]? = none) : anc ops i = 0 := by
  unfold anc
  rw [List.getD_eq_getElem?_getD, List.getElem?_eq_none]
  · rfl
  · rw [masksOf_length]; simpa using h

theorem anc_lt {ops : List Oper} : ∀ {i j : Nat}, (anc ops i).testBit j = true → j < i := by
  intro i
  induction i using Nat.strongRecOn with
  | _ i ih =>
    intro j h
    cases ho : ops[i]? with
    | none => rw [anc_none ho] at h; simp at h
    | some o =>
      obtain ⟨e, _, _, hlt, h3⟩ := (anc_bit ho j).1 h
      rcases h3 with h3 | h3
      · omega
      · have := ih _ hlt h3; omega

/-- A set of operations that holds, with each, what it waits for. -/
def Closed (ops : Array Oper) (S : Nat → Prop) : Prop := ∀ i o, ops[i]? = some o → S i → ∀ e ∈ o.after, Region.binds .any e = true → S e.on

theorem Closed.anc {ops : Array Oper} {S : Nat → Prop} (h : Closed ops S) : ∀ {i j : Nat}, S i → (anc ops.toList i).testBit j = true → S j := by
  intro i
  induction i using Nat.strongRecOn with
  | _ i ih =>
    intro j hi hb
    cases ho : ops.toList[i]? with
    | none => rw [anc_none ho] at hb; simp at hb
    | some o =>
      obtain ⟨e, he, hbd, hlt, h3⟩ := (anc_bit ho j).1 hb
      have hse := h i o (by simpa using ho) hi e (by simpa using he) hbd
      rcases h3 with rfl | h3
      · exact hse
      · exact ih _ hlt hse h3

/-! ### what is left behind -/

/-- Of an operation: the temporaries and the store ahead of it, its value, the store behind it; 0 pure · 1 a read · 2 laid ahead · 3 loud · 4 not wanted. -/
structure Rc where
  tmps : List AV
  σ : St
  v : AV
  σ' : St
  cls : Nat

section trace
variable (C : Cfg) (ih : Evs) (L : List Oper)

inductive S1 (i mask : Nat) (o : Oper) (D : Draw) (t : List AV) (σ : St) : Rc → Draw → Prop
  | hoist {id : Nat} {cs : List AV} {d : Option (Nat × Nat)} (h : newEnt i D.news = some (id, cs, d)) (hl : layIs C.T t o cs d = true) : S1 i mask o D t σ ⟨t, σ, newVal id d, σ, 2⟩ D
  | skip (h : newEnt i D.news = none) (hw : wantedA L o t = false) : S1 i mask o D t σ ⟨t, σ, .undef, σ, 4⟩ D
  | pure {v : AV} {s : St} (h : newEnt i D.news = none) (hw : wantedA L o t = true) (hs : stepOp C ih o.op t σ = some (v, s)) (hc : opClass o.op = 0) : S1 i mask o D t σ ⟨t, σ, v, σ, 0⟩ D
  | read {v : AV} {s : St} (h : newEnt i D.news = none) (hw : wantedA L o t = true) (hs : stepOp C ih o.op t σ = some (v, s)) (hc : opClass o.op = 1) (hn : s.next = σ.next)
      (he : readEarly C o.op t v mask D.loud = true) : S1 i mask o D t σ ⟨t, σ, v, σ, 1⟩ { loud := D.loud, reads := { at_ := i, op := o.op, tmps := t, val := v } :: D.reads, news := D.news }
  | loud {v : AV} {s : St} (h : newEnt i D.news = none) (hw : wantedA L o t = true) (hs : stepOp C ih o.op t σ = some (v, s))
      (hl : allLoudIn mask D.loud = true) (hr : readLate C s mask D.reads = true) (hf : allFresh s mask D.news = true) : S1 i mask o D t σ ⟨t, σ, v, s, 3⟩ { loud := (i, σ) :: D.loud, reads := D.reads, news := D.news }

def putT (t : List AV) (d : Option Tmp) (v : AV) : List AV := match d with
  | some d => t.set d v
  | none => t

inductive Trace : Nat → List Nat → Draw → List AV → St → List Oper → List Rc → List AV → St → Prop
  | nil {i : Nat} {ms : List Nat} {D : Draw} {t : List AV} {σ : St} : Trace i ms D t σ [] [] t σ
  | cons {i mask : Nat} {ms : List Nat} {D D' : Draw} {t t' : List AV} {σ σ' : St} {o : Oper} {l : List Oper} {rc : Rc} {rs : List Rc}
      (h : S1 C ih L i mask o D t σ rc D') (hr : Trace (i + 1) ms D' (putT t o.dst rc.v) rc.σ' l rs t' σ') : Trace i (mask :: ms) D t σ (o :: l) (rc :: rs) t' σ'

variable {C ih L}

theorem drawOps_cons (o : Oper) (l : List Oper) (i : Nat) (ms : List Nat) (D : Draw) (a : AAct) (σ : St) : drawOps C ih L (o :: l) i ms D a σ = match ms with
    | [] => none
    | mask :: ms => match newEnt i D.news with
      | some (id, cs, d) => boolC none (putK a o.dst (newVal id d) fun a' => drawOps C ih L l (i + 1) ms D a' σ) (layIs C.T a.tmps o cs d)
      | none => boolC (putK a o.dst .undef fun a' => drawOps C ih L l (i + 1) ms D a' σ)
        (drawOne C ih i mask o D a.tmps σ fun v σ' D' => putK a o.dst v fun a' => drawOps C ih L l (i + 1) ms D' a' σ') (wantedA L o a.tmps) := by
  cases ms <;> rfl

theorem put_tmps (a : AAct) (d : Option Tmp) (v : AV) : (a.put d v).tmps = putT a.tmps d v := by cases d <;> rfl

theorem trace_of : ∀ (l : List Oper) (i : Nat) (ms : List Nat) (D : Draw) (a : AAct) (σ : St) (e : Exit) (a' : AAct) (σ' : St), drawOps C ih L l i ms D a σ = some (e, a', σ') →
    e = .normal ∧ a'.defers = a.defers ∧ a'.inRound = a.inRound ∧ ∃ rs, Trace C ih L i ms D a.tmps σ l rs a'.tmps σ'
  | [], i, ms, D, a, σ, e, a', σ', h => by cases h; exact ⟨rfl, rfl, rfl, [], .nil⟩
  | o :: l, i, ms, D, a, σ, e, a', σ', h => by
    rw [drawOps_cons] at h
    split at h
    · cases h
    rename_i mask ms
    have next : ∀ {v : AV} {s : St} {D' : Draw} {cls : Nat}, S1 C ih L i mask o D a.tmps σ ⟨a.tmps, σ, v, s, cls⟩ D' → drawOps C ih L l (i + 1) ms D' (a.put o.dst v) s = some (e, a', σ') →
        e = .normal ∧ a'.defers = a.defers ∧ a'.inRound = a.inRound ∧ ∃ rs, Trace C ih L i (mask :: ms) D a.tmps σ (o :: l) rs a'.tmps σ' := by
      intro v s D' cls h1 h2
      obtain ⟨h3, h4, h5, rs, h6⟩ := trace_of l _ _ _ _ _ _ _ _ h2
      rw [put_tmps] at h6
      exact ⟨h3, h4.trans (put_rest _ _ _).1, h5.trans (put_rest _ _ _).2, _, .cons h1 h6⟩
    split at h
    · rename_i id cs d hid
      rw [boolC_none, putK_eq] at h
      exact next (.hoist hid h.1) h.2
    · rename_i hid
      cases hw : wantedA L o a.tmps
      · rw [hw, boolC_false, putK_eq] at h
        exact next (.skip hid hw) h
      · rw [hw, boolC_true] at h
        unfold drawOne at h
        split at h
        · cases h
        rename_i v s hs
        rw [forceAV_eq] at h
        split at h
        · rename_i hc
          simp only [putK_eq] at h
          exact next (.pure hid hw hs hc) h
        · rename_i hc
          simp only [boolC_none, putK_eq] at h
          obtain ⟨hb, h⟩ := h
          simp only [Bool.and_eq_true, nbeq, decide_eq_true_eq] at hb
          exact next (.read hid hw hs hc hb.1 hb.2) h
        · simp only [boolC_none, putK_eq] at h
          obtain ⟨hb, h⟩ := h
          simp only [Bool.and_eq_true] at hb
          exact next (.loud hid hw hs hb.1.1 hb.1.2 hb.2) h

theorem S1.grows {i mask : Nat} {o : Oper} {D D' : Draw} {t : List AV} {σ : St} {rc : Rc} (h : S1 C ih L i mask o D t σ rc D') :
    rc.tmps = t ∧ rc.σ = σ ∧ (∀ p ∈ D.loud, p ∈ D'.loud) ∧ (∀ s ∈ D.reads, s ∈ D'.reads) ∧ D'.news = D.news ∧ (rc.cls = 3 → (i, rc.σ) ∈ D'.loud) ∧
      (rc.cls = 1 → (⟨i, o.op, rc.tmps, rc.v⟩ : Seen) ∈ D'.reads) ∧ (rc.cls ≠ 3 → rc.σ' = rc.σ) := by
  cases h <;> simp <;> (intros; try (simp [*]))

/-- Of each operation: what was known ahead of it. -/
theorem Trace.at {i : Nat} {ms : List Nat} {D : Draw} {t t' : List AV} {σ σ' : St} {l : List Oper} {rs : List Rc} (h : Trace C ih L i ms D t σ l rs t' σ') :
    rs.length = l.length ∧ ∀ k o rc, l[k]? = some o → rs[k]? = some rc → ∃ mask Dk Dk', ms[k]? = some mask ∧ S1 C ih L (i + k) mask o Dk rc.tmps rc.σ rc Dk' ∧ Dk.news = D.news ∧
      (∀ p ∈ D.loud, p ∈ Dk.loud) ∧ (∀ s ∈ D.reads, s ∈ Dk.reads) ∧
      (∀ j, j < k → ∀ oj rj, l[j]? = some oj → rs[j]? = some rj → (rj.cls = 3 → (i + j, rj.σ) ∈ Dk.loud) ∧ (rj.cls = 1 → (⟨i + j, oj.op, rj.tmps, rj.v⟩ : Seen) ∈ Dk.reads)) := by
  induction h with
  | nil => exact ⟨rfl, by simp⟩
  | @cons i mask ms D D' t t' σ σ' o l rc rs h hr ih' =>
    obtain ⟨hlen, hat⟩ := ih'
    refine ⟨by simp [hlen], fun k o' rc' hk hrk => ?_⟩
    have hg := h.grows
    cases k with
    | zero =>
      simp at hk hrk; subst hk; subst hrk
      refine ⟨mask, D, D', by simp, by rw [hg.1, hg.2.1]; exact h, rfl, fun _ h => h, fun _ h => h, by simp⟩
    | succ k =>
      simp at hk hrk
      obtain ⟨m, Dk, Dk', h1, h2, h3, h4, h5, h6⟩ := hat k o' rc' hk hrk
      refine ⟨m, Dk, Dk', by simpa using h1, by rw [show i + (k + 1) = i + 1 + k by omega]; exact h2, h3.trans hg.2.2.2.2.1, fun p hp => h4 p (hg.2.2.1 p hp), fun s hs => h5 s (hg.2.2.2.1 s hs), fun j hj oj rj hoj hrj => ?_⟩
      cases j with
      | zero =>
        simp at hoj hrj; subst hoj; subst hrj
        exact ⟨fun hc => h4 _ (hg.2.2.2.2.2.1 hc), fun hc => h5 _ (hg.2.2.2.2.2.2.1 hc)⟩
      | succ j =>
        have := h6 j (by omega) oj rj (by simpa using hoj) (by simpa using hrj)
        rw [show i + (j + 1) = i + 1 + j by omega]; exact this

/-- The store and the temporaries from operation to operation. -/
theorem Trace.link {i : Nat} {ms : List Nat} {D : Draw} {t t' : List AV} {σ σ' : St} {l : List Oper} {rs : List Rc} (h : Trace C ih L i ms D t σ l rs t' σ') :
    ∃ (tm : Nat → List AV) (st : Nat → St), tm 0 = t ∧ st 0 = σ ∧ tm l.length = t' ∧ st l.length = σ' ∧ ∀ k o rc, l[k]? = some o → rs[k]? = some rc → rc.tmps = tm k ∧ rc.σ = st k ∧ tm (k + 1) = putT (tm k) o.dst rc.v ∧ st (k + 1) = rc.σ' := by
  induction h with
  | @nil i ms D t σ => exact ⟨fun _ => t, fun _ => σ, rfl, rfl, rfl, rfl, by simp⟩
  | @cons i mask ms D D' t t' σ σ' o l rc rs h hr ih' =>
    obtain ⟨tm, st, h1, h2, h3, h4, h5⟩ := ih'
    have hg := h.grows
    refine ⟨fun k => match k with | 0 => t | k + 1 => tm k, fun k => match k with | 0 => σ | k + 1 => st k, rfl, rfl, h3, h4, fun k o' rc' hk hrk => ?_⟩
    cases k with
    | zero =>
      simp at hk hrk; subst hk; subst hrk
      exact ⟨hg.1, hg.2.1, h1, h2⟩
    | succ k => exact h5 k o' rc' (by simpa using hk) (by simpa using hrk)
end trace
end Go.Abs
