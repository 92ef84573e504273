/-
  WHAT A RUN LEAVES AS IT WAS; slices: what is laid, appended, cut, read.
-/
import Derived.Test.YthpaljelbkclbaaDoorAbsSimp
namespace Go.Abs
open Go

theorem cellsOf_lt {σ : St} {id : Nat} {vs : List AV} (h : cellsOf σ id = some vs) : id < σ.next := by
  obtain ⟨fz, ro, hg⟩ := cellsOf_eq h
  exact St.get_lt hg

/-- σ' has all that σ had: but for the objects M; of the objects F the cells alone. -/
structure Ext (M F : List Nat) (σ σ' : St) : Prop where
  next : σ.next ≤ σ'.next
  get : ∀ id, id < σ.next → id ∉ M → id ∉ F → σ'.get id = σ.get id
  cells : ∀ id, id < σ.next → id ∉ M → cellsOf σ' id = cellsOf σ id
theorem Ext.refl (M F : List Nat) (σ : St) : Ext M F σ σ := ⟨Nat.le_refl _, fun _ _ _ _ => rfl, fun _ _ _ => rfl⟩
theorem Ext.trans {M F : List Nat} {σ σ' σ'' : St} (h : Ext M F σ σ') (h' : Ext M F σ' σ'') : Ext M F σ σ'' :=
  ⟨Nat.le_trans h.next h'.next, fun id hl hm hf => (h'.get id (Nat.lt_of_lt_of_le hl h.next) hm hf).trans (h.get id hl hm hf), fun id hl hm => (h'.cells id (Nat.lt_of_lt_of_le hl h.next) hm).trans (h.cells id hl hm)⟩
theorem Ext.of_get {M : List Nat} {σ σ' : St} (hn : σ.next ≤ σ'.next) (h : ∀ id, id < σ.next → id ∉ M → σ'.get id = σ.get id) : Ext M [] σ σ' :=
  ⟨hn, fun id hl hm _ => h id hl hm, fun id hl hm => by rw [cellsOf_get, cellsOf_get, h id hl hm]⟩
/-- Behind it only what is newer than σ, or may be turned, has been turned. -/
theorem Ext.new {M F M' F' : List Nat} {σ σ' σ'' : St} (h : Ext M F σ σ') (h' : Ext M' F' σ' σ'') (hm : ∀ i ∈ M', i ∈ M ∨ σ.next ≤ i) (hf : ∀ i ∈ F', i ∈ F ∨ i ∈ M ∨ σ.next ≤ i) : Ext M F σ σ'' :=
  ⟨Nat.le_trans h.next h'.next,
    fun id hl h1 h2 => (h'.get id (Nat.lt_of_lt_of_le hl h.next) (fun hi => by rcases hm id hi with h | h <;> first | exact h1 h | omega)
      (fun hi => by rcases hf id hi with h | h | h <;> first | exact h2 h | exact h1 h | omega)).trans (h.get id hl h1 h2),
    fun id hl h1 => (h'.cells id (Nat.lt_of_lt_of_le hl h.next) (fun hi => by rcases hm id hi with h | h <;> first | exact h1 h | omega)).trans (h.cells id hl h1)⟩
theorem Ext.push (M F : List Nat) (σ : St) (o : AObj) : Ext M F σ (σ.push o) :=
  ⟨by simp, fun id hl _ _ => St.get_push_ne σ o (by omega), fun id hl _ => cellsOf_push_ne σ o (by omega)⟩
theorem Ext.set {M F : List Nat} {σ : St} {i : Nat} (o : AObj) (h : i ∈ M ∨ σ.next ≤ i) : Ext M F σ (σ.set i o) :=
  ⟨by simp, fun id hl hm _ => St.get_set_ne σ o (fun e => by rcases h with h | h; exact hm (e ▸ h); omega), fun id hl hm => cellsOf_set_ne σ o (fun e => by rcases h with h | h; exact hm (e ▸ h); omega)⟩
theorem Ext.weaken {M F M' F' : List Nat} {σ σ' : St} (h : Ext M F σ σ') (hm : ∀ i ∈ M, i ∈ M') (hf : ∀ i ∈ F, i ∈ F') : Ext M' F' σ σ' :=
  ⟨h.next, fun id hl h1 h2 => h.get id hl (fun hi => h1 (hm _ hi)) (fun hi => h2 (hf _ hi)), fun id hl h1 => h.cells id hl fun hi => h1 (hm _ hi)⟩
theorem Ext.any {σ σ' : St} (M F : List Nat) (h : Ext [] [] σ σ') : Ext M F σ σ' := h.weaken (by simp) (by simp)
theorem Ext.pushR {M F : List Nat} {σ σ' : St} (h : Ext M F σ σ') (o : AObj) : Ext M F σ (σ'.push o) := h.trans (.push _ _ _ _)
theorem Ext.setR {M F : List Nat} {σ σ' : St} (h : Ext M F σ σ') {i : Nat} (o : AObj) (hi : i ∈ M ∨ σ.next ≤ i) : Ext M F σ (σ'.set i o) :=
  ⟨by simpa using h.next, fun id hl hm hf => (St.get_set_ne σ' o (fun e => by rcases hi with h | h; exact hm (e ▸ h); omega)).trans (h.get id hl hm hf),
    fun id hl hm => (cellsOf_set_ne σ' o (fun e => by rcases hi with h | h; exact hm (e ▸ h); omega)).trans (h.cells id hl hm)⟩
/-- The laws by which simp looks through. -/
theorem Ext.get0 {σ σ' : St} (h : Ext [] [] σ σ') {id : Nat} (hl : id < σ.next) : σ'.get id = σ.get id := h.get id hl (by simp) (by simp)
theorem Ext.cells0 {F : List Nat} {σ σ' : St} (h : Ext [] F σ σ') {id : Nat} (hl : id < σ.next) : cellsOf σ' id = cellsOf σ id := h.cells id hl (by simp)
theorem Ext.get1 {i : Nat} {σ σ' : St} (h : Ext [i] [] σ σ') {id : Nat} (hl : id < σ.next) (hi : id ≠ i) : σ'.get id = σ.get id := h.get id hl (by simpa using hi) (by simp)
theorem Ext.cells1 {i : Nat} {F : List Nat} {σ σ' : St} (h : Ext [i] F σ σ') {id : Nat} (hl : id < σ.next) (hi : id ≠ i) : cellsOf σ' id = cellsOf σ id := h.cells id hl (by simpa using hi)

theorem SlR.mono {M F : List Nat} {σ σ' : St} {v : AV} {esz : Nat} {xs : List (List AV)} (h : SlR σ v esz xs) (he : Ext M F σ σ') (hm : ∀ id off len cap e, v = .slice id off len cap e → id ∉ M) : SlR σ' v esz xs := by
  obtain ⟨hl, h⟩ := h
  refine ⟨hl, ?_⟩
  cases v with
  | nilSlice => exact h
  | slice id off len cap e =>
    obtain ⟨h1, h2, h3, h4⟩ := h
    refine ⟨h1, h2, h3, ?_⟩
    rcases h4 with h4 | ⟨vs, hv, hb, hf⟩
    · exact .inl h4
    · exact .inr ⟨vs, by rw [he.cells id (cellsOf_lt hv) (hm _ _ _ _ _ rfl)]; exact hv, hb, hf⟩
  | _ => exact h
theorem SlR.ext {F : List Nat} {σ σ' : St} {v : AV} {esz : Nat} {xs : List (List AV)} (h : SlR σ v esz xs) (he : Ext [] F σ σ') : SlR σ' v esz xs := h.mono he (by simp)

/-- A slice's object. -/
def sid : AV → List Nat
  | .slice id _ _ _ _ => [id]
  | _ => []
theorem sid_slice (i o l c e : Nat) : sid (.slice i o l c e) = [i] := rfl
theorem sid_nil : sid .nilSlice = [] := rfl
theorem SlR.mono' {M F : List Nat} {σ σ' : St} {v : AV} {esz : Nat} {xs : List (List AV)} (h : SlR σ v esz xs) (he : Ext M F σ σ') (hm : ∀ i ∈ sid v, i ∉ M) : SlR σ' v esz xs :=
  h.mono he fun id off len cap e hv => hm id (by rw [hv]; simp [sid])

/-- It may be appended to: it ends where its object ends, and nothing has been appended to it yet. -/
def App (σ : St) (v : AV) : Prop := match v with
  | .nilSlice => True
  | .slice id off len cap e => cap = len ∧ ∃ vs fz, σ.get id = some (.cells vs fz false) ∧ fz ≤ off + len * e ∧ vs.length = off + len * e
  | _ => False
theorem App.nil (σ : St) : App σ .nilSlice := trivial
theorem App.mono {M F : List Nat} {σ σ' : St} {v : AV} (h : App σ v) (he : Ext M F σ σ') (hm : ∀ i ∈ sid v, i ∉ M ∧ i ∉ F) : App σ' v := by
  cases v with
  | slice id off len cap e =>
    obtain ⟨h1, vs, fz, hg, h2⟩ := h
    have := hm id (by simp [sid])
    exact ⟨h1, vs, fz, by rw [he.get id (St.get_lt hg) this.1 this.2]; exact hg, h2⟩
  | _ => exact h

/-- A slice newly laid. -/
theorem SlR.new (σ : St) (esz : Nat) (xs : List (List AV)) (fz : Nat) (ro : Bool) (hx : ∀ x ∈ xs, x.length = esz) {n : Nat} (hn : n = xs.length) {cs : List AV} (hc : cs = xs.flatten) :
    SlR (σ.push (.cells cs fz ro)) (.slice σ.next 0 n n esz) esz xs := by
  subst hn hc
  refine ⟨hx, rfl, rfl, Nat.le_refl _, .inr ⟨xs.flatten, cellsOf_push_eq σ _ _ _ rfl, ?_, ?_⟩⟩
  · rw [flatten_len esz xs hx]; omega
  · rw [List.drop_zero, List.take_of_length_le (by rw [flatten_len esz xs hx]; omega)]
theorem App.new (σ : St) (esz n : Nat) (cs : List AV) (fz : Nat) (hf : fz ≤ n * esz) (hc : cs.length = n * esz) : App (σ.push (.cells cs fz false)) (.slice σ.next 0 n n esz) :=
  ⟨rfl, cs, fz, St.get_push_eq σ _ rfl, by omega, by omega⟩

theorem SlR.srcLen {σ : St} {v : AV} {esz : Nat} {xs : List (List AV)} (h : SlR σ v esz xs) : srcLen v = some xs.length := by
  obtain ⟨_, h⟩ := h
  cases v with
  | nilSlice => subst h; rfl
  | slice id off len cap e => obtain ⟨rfl, rfl, _⟩ := h; rfl
  | _ => cases h
theorem SlR.srcCells {σ : St} {v : AV} {esz : Nat} {xs : List (List AV)} (h : SlR σ v esz xs) (n : Nat) (hn : n ≤ xs.length) : srcCells σ esz n v = some (xs.take n).flatten := by
  obtain ⟨hl, h⟩ := h
  cases v with
  | nilSlice => subst h; simp [Abs.srcCells]
  | slice id off len cap e =>
    obtain ⟨rfl, rfl, hc, h⟩ := h
    show natC (some []) (fun _ => loadN σ id off (n * e)) (n * e) = _
    rcases h with rfl | ⟨vs, hv, hb, hf⟩
    · have : n = 0 := by simpa using hn
      subst this; rw [Nat.zero_mul]; rfl
    have hle : n * e ≤ xs.length * e := Nat.mul_le_mul_right _ hn
    have hres : (xs.take n).flatten = (vs.drop off).take (n * e) := by
      rw [← flatten_take e xs n hl, ← hf, List.take_take, Nat.min_eq_left hle]
    rw [hres]
    cases hne : n * e with
    | zero => rfl
    | succ m =>
      rw [natC_succ, loadN_ldN, hv, ldN_some, if_pos (by omega)]
  | _ => cases h

/-- How an append is carried out: the slice is left as it is, or a new object holds all. -/
theorem append_to {σ : St} {s : AV} {esz bytes : Nat} {xs : List (List AV)} (hs : SlR σ s esz xs) (ha : App σ s) {ys : List (List AV)} (hy : ∀ y ∈ ys, y.length = esz) (he : 1 ≤ esz)
    (hb : (2 * (xs.length + ys.length) + 1024) * bytes ≤ 281474976710656) (hl : xs.length + ys.length < 4611686018427387904) :
    ∃ v σ', aAppendTo σ s esz bytes ys.length false ys.flatten = some (v, σ') ∧ SlR σ' v esz (xs ++ ys) ∧ App σ' v ∧ Ext [] (sid s) σ σ' ∧ ((v = s ∧ σ' = σ) ∨ ∃ n, v = .slice σ.next 0 n n esz) ∧ σ'.next ≤ σ.next + 1 := by
  have hfl := flatten_len esz ys hy
  have hxs := hs.1
  have hall : ∀ x ∈ xs ++ ys, x.length = esz := by
    intro x hx
    rcases List.mem_append.1 hx with h | h
    · exact hxs _ h
    · exact hy _ h
  unfold aAppendTo
  rw [llen_eq, hfl, nbeq, decide_eq_true rfl, nble, decide_eq_true he]
  simp only [Bool.and_self, boolC_true]
  obtain ⟨_, h⟩ := hs
  cases s with
  | nilSlice =>
    subst h
    simp only [List.nil_append, List.length_nil, Nat.zero_add] at *
    unfold growNil
    cases hn : ys.length with
    | zero =>
      have : ys = [] := List.eq_nil_of_length_eq_zero hn
      subst this
      exact ⟨.nilSlice, σ, rfl, .nil σ esz, trivial, .refl _ _ _, .inl ⟨rfl, rfl⟩, by omega⟩
    | succ m =>
      rw [natC_succ, St.pushK_eq, ← hn, nble, nblt, bigBytes, decide_eq_true hb, decide_eq_true hl]
      simp only [Bool.and_self, boolC_true]
      exact ⟨_, _, rfl, .new σ esz ys 0 false hall rfl rfl, .new σ esz _ _ 0 (Nat.zero_le _) hfl, .push _ _ _ _, .inr ⟨_, rfl⟩, by simp⟩
  | slice id off len cap e =>
    obtain ⟨rfl, rfl, hc, h⟩ := h
    obtain ⟨rfl, vs, fz, hg, hfz, hvl⟩ := ha
    simp only
    rw [nbeq, decide_eq_true rfl, boolC_true]
    cases hn : ys.length with
    | zero =>
      have : ys = [] := List.eq_nil_of_length_eq_zero hn
      subst this
      rw [natC_zero, List.append_nil]
      exact ⟨_, σ, rfl, ⟨hxs, rfl, rfl, Nat.le_refl _, h⟩, ⟨rfl, vs, fz, hg, hfz, hvl⟩, .refl _ _ _, .inl ⟨rfl, rfl⟩, by omega⟩
    | succ m =>
      rw [natC_succ, ← hn, nble, decide_eq_false (by omega), boolC_false]
      unfold growOut
      rw [hg]
      simp only [nble, nblt, bigBytes]
      rw [decide_eq_true hfz, decide_eq_true hb, decide_eq_true hl, takeK_eq, ldrop_eq, if_pos (by rw [List.length_drop]; omega)]
      simp only [Bool.and_self, boolC_true, boolC_false, St.setK_eq, St.pushK_eq, lapp_eq, ltake_eq, maxN_eq]
      have hold : (vs.drop off).take (xs.length * e) = xs.flatten := by
        rcases h with rfl | ⟨vs', hv', hb', hf'⟩
        · simp
        · rw [cellsOf_get, hg, csOf_cells] at hv'
          cases hv'; exact hf'
      rw [hold, List.take_of_length_le (by omega)]
      have hcell : csOf (some (.cells vs fz true)) = csOf (some (.cells vs fz false)) := rfl
      refine ⟨_, _, rfl, ?_, ?_, ?_, .inr ⟨_, rfl⟩, by simp⟩
      · have := SlR.new (σ.set id (.cells vs fz true)) e (xs ++ ys) (max (fz - off) (xs.length * e)) false hall (n := xs.length + ys.length) (by simp) (cs := xs.flatten ++ ys.flatten) (by simp)
        simpa using this
      · have := App.new (σ.set id (.cells vs fz true)) e (xs.length + ys.length) (xs.flatten ++ ys.flatten) (max (fz - off) (xs.length * e)) (by rw [Nat.add_mul]; omega) (by rw [List.length_append, flatten_len e xs hxs, hfl, Nat.add_mul])
        simpa using this
      · have hlt := St.get_lt hg
        refine ⟨by simp, fun j hj _ hf => ?_, fun j hj _ => ?_⟩
        · rw [St.get_push_ne _ _ (by simp; omega), St.get_set_ne _ _ (by simpa [sid] using hf)]
        · rw [cellsOf_push_ne _ _ (by simp; omega)]
          by_cases hji : j = id
          · subst hji
            rw [cellsOf_set_eq _ _ _ _ rfl hlt, cellsOf_get, hg]; rfl
          · rw [cellsOf_set_ne _ _ hji]
  | _ => cases ha

/-- APPEND, of elements that stay to be read. -/
theorem append_keep {T : TT} {t t' e : TypeId} {i j i' : TyI} {z : AV} {esz bytes : Nat} (ht : T t = some i) (hd : i.desc = .slice e) (he : T e = some j) (hz : j.zero = some z) (hzl : Nat.beq (llen z.cells) j.size = true)
    (hes : j.size = esz) (hby : j.bytes = bytes) (hk : j.kill = false) (ht' : T t' = some i') (hsq : isSeq i'.desc = true) (h1 : 1 ≤ esz)
    {σ : St} {s x : AV} {xs ys : List (List AV)} (hs : SlR σ s esz xs) (ha : App σ s) (hx : SlR σ x esz ys)
    (hb : (2 * (xs.length + ys.length) + 1024) * bytes ≤ 281474976710656) (hl : xs.length + ys.length < 4611686018427387904) :
    ∃ v σ', aBuiltin T σ .append #[t, t'] [s, x] = some (v, σ') ∧ SlR σ' v esz (xs ++ ys) ∧ App σ' v ∧ Ext [] (sid s) σ σ' ∧ ((v = s ∧ σ' = σ) ∨ ∃ n, v = .slice σ.next 0 n n esz) ∧ σ'.next ≤ σ.next + 1 := by
  obtain ⟨v, σ', h, hr⟩ := append_to (bytes := bytes) hs ha hx.1 h1 hb hl
  refine ⟨v, σ', ?_, hr⟩
  show aAppend T σ #[t, t'] s x = _
  unfold aAppend
  have e0 : argType T #[t, t'] 0 = some i := ht
  have e1 : argType T #[t, t'] 1 = some i' := ht'
  rw [e0, e1]
  simp only [hd, he, hz, hsq, boolC_true, hx.srcLen, hes]
  rw [hx.srcCells _ (Nat.le_refl _)]
  simp only [List.take_length]
  rw [← hes, hzl, boolC_true, hes, hby, hk]
  exact h
/-- An element that is there: the slice is one; what is loaded of it, in whatever store has the object still. -/
theorem SlR.at_ {σ : St} {v : AV} {esz : Nat} {xs : List (List AV)} (h : SlR σ v esz xs) {i : Nat} {x : List AV} (hx : xs[i]? = some x) :
    ∃ id off cap, v = .slice id off xs.length cap esz ∧ id < σ.next ∧ i < xs.length ∧ ldN (cellsOf σ id) (off + i * esz) esz = some x ∧ (0 < esz → ld1 (cellsOf σ id) (off + i * esz) = x[0]?) ∧ (∀ f, f < esz → ld1 (cellsOf σ id) (off + i * esz + f) = x[f]?) := by
  obtain ⟨id, off, cap, rfl, vs, hv, hb, ht, hxl⟩ := h.get hx
  have hi := (List.getElem?_eq_some_iff.1 hx).1
  have : i * esz + esz ≤ xs.length * esz := by rw [← Nat.succ_mul]; exact Nat.mul_le_mul_right _ hi
  refine ⟨id, off, cap, rfl, cellsOf_lt hv, hi, ?_, fun hf => ?_, fun f hf => ?_⟩
  · rw [hv, ldN_some, if_pos (by omega), ht]
  · rw [hv, ld1_some, ← ht, List.getElem?_take_of_lt hf, List.getElem?_drop]; rfl
  · rw [hv, ld1_some, ← ht, List.getElem?_take_of_lt hf, List.getElem?_drop]
/-! ### loops -/
/-- A loop by an invariant and a number that falls. -/
theorem run_loop_inv (C : Cfg) {β : Type} {body : Code} {K : Exit → AAct → St → Option β} (Q : Option β → Prop) (I : Nat → AAct → St → Prop) (n : Nat) {a : AAct} {σ : St} (h0 : I n a σ)
    (hs : ∀ n a σ, I n a σ → (∀ m a' σ', m < n → I m a' σ' → Q (run C (.loop body) a' K σ')) → Q (run C body a (thenK C (.loop body) K) σ)) : Q (run C (.loop body) a K σ) := by
  induction n using Nat.strongRecOn generalizing a σ with
  | _ n ih =>
    rw [run_loop]
    exact hs n a σ h0 fun m a' σ' hm hI => ih m hm hI

/-! ### whole numbers -/
theorem wrap64 {n : Int} (h : -9223372036854775808 ≤ n) (h' : n < 9223372036854775808) : wrapA .i64 n = n := by
  have e : wrapA .i64 n = wrapS 9223372036854775808 18446744073709551616 n := rfl
  rw [e, wrapS_eq _ _ _ (by decide) (by decide)]
  split <;> omega
theorem wrapU64 {n : Int} (h : 0 ≤ n) (h' : n < 18446744073709551616) : wrapA .u64 n = n := by
  have e : wrapA .u64 n = wrapU 18446744073709551616 n := rfl
  rw [e, wrapU_eq]; omega
/-! ### appends that give the old slice up, or do not: all the same where it is new -/
theorem append_to_any {σ : St} {s : AV} {esz bytes : Nat} {xs : List (List AV)} (kill : Bool) (hs : SlR σ s esz xs) (ha : App σ s) {ys : List (List AV)} (hy : ∀ y ∈ ys, y.length = esz) (he : 1 ≤ esz)
    (hb : (2 * (xs.length + ys.length) + 1024) * bytes ≤ 281474976710656) (hl : xs.length + ys.length < 4611686018427387904) :
    ∃ v σ', aAppendTo σ s esz bytes ys.length kill ys.flatten = some (v, σ') ∧ SlR σ' v esz (xs ++ ys) ∧ App σ' v ∧ Ext (sid s) [] σ σ' ∧ ((v = s ∧ σ' = σ) ∨ ∃ n, v = .slice σ.next 0 n n esz) ∧ σ'.next ≤ σ.next + 1 := by
  cases kill with
  | false =>
    obtain ⟨v, σ', h1, h2, h3, h4, h5, h6⟩ := append_to hs ha hy he hb hl
    exact ⟨v, σ', h1, h2, h3, ⟨h4.next, fun id hl hm _ => h4.get id hl (by simp) hm, fun id hl _ => h4.cells id hl (by simp)⟩, h5, h6⟩
  | true =>
  have hfl := flatten_len esz ys hy
  have hxs := hs.1
  have hall : ∀ x ∈ xs ++ ys, x.length = esz := by
    intro x hx
    rcases List.mem_append.1 hx with h | h
    · exact hxs _ h
    · exact hy _ h
  unfold aAppendTo
  rw [llen_eq, hfl, nbeq, decide_eq_true rfl, nble, decide_eq_true he]
  simp only [Bool.and_self, boolC_true]
  obtain ⟨_, h⟩ := hs
  cases s with
  | nilSlice =>
    subst h
    simp only [List.nil_append, List.length_nil, Nat.zero_add] at *
    unfold growNil
    cases hn : ys.length with
    | zero =>
      have : ys = [] := List.eq_nil_of_length_eq_zero hn
      subst this
      exact ⟨.nilSlice, σ, rfl, .nil σ esz, trivial, .refl _ _ _, .inl ⟨rfl, rfl⟩, by omega⟩
    | succ m =>
      rw [natC_succ, St.pushK_eq, ← hn, nble, nblt, bigBytes, decide_eq_true hb, decide_eq_true hl]
      simp only [Bool.and_self, boolC_true]
      exact ⟨_, _, rfl, .new σ esz ys 0 false hall rfl rfl, .new σ esz _ _ 0 (Nat.zero_le _) hfl, .push _ _ _ _, .inr ⟨_, rfl⟩, by simp⟩
  | slice id off len cap e =>
    obtain ⟨rfl, rfl, hc, h⟩ := h
    obtain ⟨rfl, vs, fz, hg, hfz, hvl⟩ := ha
    simp only
    rw [nbeq, decide_eq_true rfl, boolC_true]
    cases hn : ys.length with
    | zero =>
      have : ys = [] := List.eq_nil_of_length_eq_zero hn
      subst this
      rw [natC_zero, List.append_nil]
      exact ⟨_, σ, rfl, ⟨hxs, rfl, rfl, Nat.le_refl _, h⟩, ⟨rfl, vs, fz, hg, hfz, hvl⟩, .refl _ _ _, .inl ⟨rfl, rfl⟩, by omega⟩
    | succ m =>
      rw [natC_succ, ← hn, nble, decide_eq_false (by omega), boolC_false]
      unfold growOut
      rw [hg]
      simp only [nble, nblt, bigBytes]
      rw [decide_eq_true hfz, decide_eq_true hb, decide_eq_true hl, takeK_eq, ldrop_eq, if_pos (by rw [List.length_drop]; omega)]
      simp only [Bool.and_self, boolC_true, boolC_false, St.setK_eq, St.pushK_eq, lapp_eq, ltake_eq, maxN_eq]
      have hold : (vs.drop off).take (xs.length * e) = xs.flatten := by
        rcases h with rfl | ⟨vs', hv', hb', hf'⟩
        · simp
        · rw [cellsOf_get, hg, csOf_cells] at hv'
          cases hv'; exact hf'
      rw [hold]
      refine ⟨_, _, rfl, ?_, ?_, ?_, .inr ⟨_, rfl⟩, by simp⟩
      · have := SlR.new (σ.set id .dead) e (xs ++ ys) (fz - off) false hall (n := xs.length + ys.length) (by simp) (cs := xs.flatten ++ ys.flatten) (by simp)
        simpa using this
      · have := App.new (σ.set id .dead) e (xs.length + ys.length) (xs.flatten ++ ys.flatten) (fz - off) (by rw [Nat.add_mul]; omega) (by rw [List.length_append, flatten_len e xs hxs, hfl, Nat.add_mul])
        simpa using this
      · exact (Ext.set _ (.inl (by simp [sid]))).pushR _
  | _ => cases ha

theorem append_any {T : TT} {t t' e : TypeId} {i j i' : TyI} {z : AV} {esz bytes : Nat} (ht : T t = some i) (hd : i.desc = .slice e) (he : T e = some j) (hz : j.zero = some z) (hzl : Nat.beq (llen z.cells) j.size = true)
    (hes : j.size = esz) (hby : j.bytes = bytes) (ht' : T t' = some i') (hsq : isSeq i'.desc = true) (h1 : 1 ≤ esz)
    {σ : St} {s x : AV} {xs ys : List (List AV)} (hs : SlR σ s esz xs) (ha : App σ s) (hx : SlR σ x esz ys)
    (hb : (2 * (xs.length + ys.length) + 1024) * bytes ≤ 281474976710656) (hl : xs.length + ys.length < 4611686018427387904) :
    ∃ v σ', aBuiltin T σ .append #[t, t'] [s, x] = some (v, σ') ∧ SlR σ' v esz (xs ++ ys) ∧ App σ' v ∧ Ext (sid s) [] σ σ' ∧ ((v = s ∧ σ' = σ) ∨ ∃ n, v = .slice σ.next 0 n n esz) ∧ σ'.next ≤ σ.next + 1 := by
  obtain ⟨v, σ', h, hr⟩ := append_to_any (bytes := bytes) j.kill hs ha hx.1 h1 hb hl
  refine ⟨v, σ', ?_, hr⟩
  show aAppend T σ #[t, t'] s x = _
  unfold aAppend
  have e0 : argType T #[t, t'] 0 = some i := ht
  have e1 : argType T #[t, t'] 1 = some i' := ht'
  rw [e0, e1]
  simp only [hd, he, hz, hsq, boolC_true, hx.srcLen, hes]
  rw [hx.srcCells _ (Nat.le_refl _)]
  simp only [List.take_length]
  rw [← hes, hzl, boolC_true, hes, hby]
  exact h

/-! ### slices held against nil, cut -/
def isNilS : AV → Bool
  | .nilSlice => true
  | _ => false
theorem isNilS_nil : isNilS .nilSlice = true := rfl
theorem isNilS_slice (i o l c e : Nat) : isNilS (.slice i o l c e) = false := rfl
theorem eql_nilS {T : TT} {E : List TypeId} {t e : TypeId} {i : TyI} (h : T t = some i) (hd : i.desc = .slice e) {v : AV} (hv : isSl v = true) : aBin T E .eql t v .nilSlice = some (.bool (isNilS v)) := by
  cases v <;> first
    | (cases hv; done)
    | (show aBin2 T E .eql t _ _ = _; unfold aBin2 aEq; rw [h]; simp only [hd]; rfl)
theorem neq_nilS {T : TT} {E : List TypeId} {t e : TypeId} {i : TyI} (h : T t = some i) (hd : i.desc = .slice e) {v : AV} (hv : isSl v = true) : aBin T E .neq t v .nilSlice = some (.bool (!isNilS v)) := by
  cases v <;> first
    | (cases hv; done)
    | (show aBin2 T E .neq t _ _ = _; unfold aBin2 aEq; rw [h]; simp only [hd]; rfl)

/-- A part of a slice: from the place a up to b. -/
theorem aSlice_sl {T : TT} {t e : TypeId} {i j : TyI} {esz : Nat} (h : T t = some i) (hd : i.desc = .slice e) (he : T e = some j) (hs : j.size = esz) {σ : St} {v : AV} {xs : List (List AV)} (hx : SlR σ v esz xs)
    {lo hi : Option AV} {a b : Nat} (hlo : (lo = none ∧ a = 0) ∨ ∃ k, lo = some (.int k (a : Int))) (hhi : (hi = none ∧ b = xs.length) ∨ ∃ k, hi = some (.int k (b : Int))) (hab : a ≤ b) (hb : b ≤ xs.length) :
    ∃ v', (∀ σ', aSlice T σ' t v lo hi = some v') ∧ SlR σ v' esz ((xs.take b).drop a) ∧ (∀ n ∈ sid v', n ∈ sid v) := by
  have hbd : ∀ len cap, len = xs.length → xs.length ≤ cap → bounds2 lo hi len cap = some (a, b) := by
    intro len cap hlen hcap
    have h1 : aBound hi len cap = some b := by
      rcases hhi with ⟨rfl, rfl⟩ | ⟨k, rfl⟩
      · rw [hlen]; rfl
      · show boolC none (some b) (Nat.ble b cap) = _
        rw [nble, decide_eq_true (by omega)]; rfl
    have h2 : aBound lo 0 b = some a := by
      rcases hlo with ⟨rfl, rfl⟩ | ⟨k, rfl⟩
      · rfl
      · show boolC none (some a) (Nat.ble a b) = _
        rw [nble, decide_eq_true hab]; rfl
    unfold bounds2
    rw [h1]; simp only; rw [h2]
  obtain ⟨hl, hx⟩ := hx
  unfold aSlice
  simp only [h, hd, he]
  have hmem : ∀ x ∈ (xs.take b).drop a, x.length = esz := fun x hx => hl x (List.mem_of_mem_take (List.mem_of_mem_drop hx))
  cases v with
  | nilSlice =>
    subst hx
    simp only [List.length_nil, Nat.le_zero] at hb
    subst hb
    rw [hbd 0 0 rfl (Nat.le_refl _)]
    exact ⟨.nilSlice, fun _ => rfl, ⟨hmem, by simp⟩, fun _ h => h⟩
  | slice id off len cap es =>
    obtain ⟨rfl, rfl, hc, hx⟩ := hx
    simp only
    rw [hbd _ _ rfl hc]
    simp only [hs]
    rw [nbeq, decide_eq_true rfl]
    refine ⟨.slice id (off + a * es) (b - a) (cap - a) es, fun _ => rfl, ⟨hmem, rfl, ?_, by omega, ?_⟩, fun _ h => h⟩
    · rw [List.length_drop, List.length_take]; omega
    · rcases hx with rfl | ⟨vs, hv, hvb, hf⟩
      · exact .inl (by simp)
      · refine .inr ⟨vs, hv, ?_, ?_⟩
        · have h1 : (b - a) * es + a * es = b * es := by rw [← Nat.add_mul]; congr 1; omega
          have h2 : b * es ≤ xs.length * es := Nat.mul_le_mul_right _ hb
          omega
        · have h1 : a * es + (b - a) * es = b * es := by rw [← Nat.add_mul]; congr 1; omega
          have h2 : b * es ≤ xs.length * es := Nat.mul_le_mul_right _ hb
          rw [← flatten_drop es (xs.take b) a (fun x hx => hl x (List.mem_of_mem_take hx)), ← flatten_take es xs b hl, ← hf, List.take_take, Nat.min_eq_left h2, List.drop_take, List.drop_drop]
          congr 1; omega
  | _ => cases hx

/-! ### struct and slice literals -/
def fillP (pl : Option (Nat × Nat)) (v : AV) (cs : List AV) (k : List AV → Option (List AV)) : Option (List AV) := match pl with
  | some (off, n) => match v with
    | .tuple _ => none
    | v => if v.cells.length = n then (if off + v.cells.length ≤ cs.length then k (splice cs off v.cells) else none) else none
  | none => none
theorem aFill_fillP (place : Nat → Option (Nat × Nat)) (i : Nat) (v : AV) (l : List (Nat × AV)) (cs : List AV) : aFill place ((i, v) :: l) cs = fillP (place i) v cs (aFill place l) := by
  rw [aFill_cons]
  unfold fillP
  cases place i with
  | none => rfl
  | some p =>
    obtain ⟨off, n⟩ := p
    cases v <;> simp only [spliceK_eq, nbeq, llen_eq, boolC_eq, Bool.cond_decide]
theorem fillP_one (off : Nat) {v : AV} (h : v.one = true) (cs : List AV) (k : List AV → Option (List AV)) : fillP (some (off, 1)) v cs k = if off + 1 ≤ cs.length then k (splice cs off [v]) else none := by
  unfold fillP
  cases v <;> first | (cases h; done) | rfl
theorem fillP_agg (off n : Nat) (vs cs : List AV) (k : List AV → Option (List AV)) : fillP (some (off, n)) (.agg vs) cs k = if vs.length = n then (if off + vs.length ≤ cs.length then k (splice cs off vs) else none) else none := rfl
def plS (s : Nat) : Nat → Option (Nat × Nat) := fun i => some (i * s, s)
theorem plS_eq (s i : Nat) : plS s i = some (i * s, s) := rfl
noncomputable def fieldsOf (T : TT) (t : TypeId) : List Field := match (tyOf T t).desc with
  | .struct fs => fs.toList
  | _ => []
theorem aBuild_at {T : TT} {t : TypeId} {i : TyI} {cs : List AV} {fs : Array Field} (h : T t = some i) (hz : i.zero = some (.agg cs)) (hd : i.desc = .struct fs) (hk : knownFields T fs.toList = true) (hf : fieldsOf T t = fs.toList) (ps : List (Nat × AV)) :
    aBuild T t ps = aggO (aFill (placeOf T (fieldsOf T t)) ps cs) := by rw [aBuild_struct h hz hd hk, hf]; rfl
noncomputable def sliceO (σ : St) (n e : Nat) (x : Option (List AV)) : Option (AV × St) := match x with
  | some cs => some (.slice σ.next 0 n n e, σ.push (.cells cs 0 false))
  | none => none
theorem sliceO_some (σ : St) (n e : Nat) (cs : List AV) : sliceO σ n e (some cs) = some (.slice σ.next 0 n n e, σ.push (.cells cs 0 false)) := rfl
theorem aBuildSlice_at {T : TT} {t e : TypeId} {i j : TyI} {z : AV} {n s : Nat} {cs : List AV} (h : T t = some i) (hd : i.desc = .slice e) (he : T e = some j) (hz : j.zero = some z) (hs : j.size = s) (hc : repCells z.cells n = cs)
    (hb : (Nat.ble (n * s) 16777216 && Nat.beq (llen z.cells) s && Nat.ble 1 s) = true) (σ : St) (ps : List (Nat × AV)) : aBuildSlice T σ t n ps = sliceO σ n s (aFill (plS s) ps cs) := by
  unfold aBuildSlice sliceCells
  rw [h]; simp only [hd, he, hz, hs, hb, boolC_true, hc]
  show (match (match aFill (plS s) ps cs with | some cs => some (cs, s) | none => none) with | some (cs, size) => _ | none => none) = _
  cases aFill (plS s) ps cs with
  | none => rfl
  | some l => simp only [St.pushK_eq]; rfl

theorem laySC_at {T : TT} {t e : TypeId} {i j : TyI} {z : AV} {n s : Nat} {cs : List AV} (h : T t = some i) (hd : i.desc = .slice e) (he : T e = some j) (hz : j.zero = some z) (hs : j.size = s) (hc : repCells z.cells n = cs)
    (hb : (Nat.ble (n * s) 16777216 && Nat.beq (llen z.cells) s && Nat.ble 1 s) = true) (ps : List (Nat × AV)) : laySC T t n ps = slC n s (aFill (plS s) ps cs) := by
  unfold laySC sliceCells
  rw [h]; simp only [hd, he, hz, hs, hb, boolC_true, hc]
  show (match (match aFill (plS s) ps cs with | some cs => some (cs, s) | none => none) with | some (cs, size) => _ | none => none) = _
  cases aFill (plS s) ps cs with
  | none => rfl
  | some l => rfl
theorem aConvert_int {T : TT} {s d : TypeId} {i j : TyI} {k' : IntKind} (h : T s = some i) (h' : T d = some j) (hd : j.desc = .int k') (σ : St) (k : IntKind) (n : Int) : aConvert T σ s d (.int k n) = some (.int k' (wrapA k' n), σ) := by
  unfold aConvert; rw [h, h']; simp only [hd]

/-! ### maps with whole numbers as keys -/
noncomputable def upM (o : Option AObj) (σ : St) (r : Nat) (k : AV) (v : AV) : Option St := match o with
  | some (.map es c) => match findA k es 0 with
    | some (some (i, _)) => some (σ.set r (.map (setVal v es i) c))
    | some none => some (σ.set r (.map (es ++ [{ key := k, val := v, born := c }]) (c + 1)))
    | none => none
  | _ => none
theorem upM_some (es : List AEntry) (c : Nat) (σ : St) (r : Nat) (k v : AV) : upM (some (.map es c)) σ r k v = match findA k es 0 with
    | some (some (i, _)) => some (σ.set r (.map (setVal v es i) c))
    | some none => some (σ.set r (.map (es ++ [{ key := k, val := v, born := c }]) (c + 1)))
    | none => none := rfl
theorem aMapUpdate_int {T : TT} {t kt et : TypeId} {i j : TyI} {ik : IntKind} (h : T t = some i) (hd : i.desc = .map kt et) (hk : T kt = some j) (hj : j.desc = .int ik) (σ : St) (r : Nat) (k : IntKind) (n : Int) (v : AV) :
    aMapUpdate T σ t (.map r) (.int k n) v = upM (σ.get r) σ r (.int k n) v := by
  unfold aMapUpdate upM
  rw [h]; simp only [hd, hk]
  cases σ.get r with
  | none => rfl
  | some o => cases o with
    | map es c =>
      simp only [hj]
      rw [show keyFits (.int ik) (.int k n) = true from rfl, boolC_true]
      cases hf : findA (.int k n) es 0 with
      | none => rfl
      | some x => cases x with
        | none => simp only [St.setK_eq, lapp_eq]
        | some p => simp only [St.setK_eq]
    | _ => rfl
theorem findA_nil (k : AV) (i : Nat) : findA k [] i = some none := rfl
theorem findA_int (k : IntKind) (n m : Int) (v : AV) (b : Nat) (es : List AEntry) (i : Nat) : findA (.int k n) ({ key := .int k m, val := v, born := b } :: es) i = if n = m then some (some (i, v)) else findA (.int k n) es (i + 1) := by
  rw [findA_cons]
  have : eqOne (.int k n) (.int k m) = some (decide (n = m)) := by
    show boolC none (some (eqI n m)) (eqKind k k) = _
    rw [eqKind_eq, eqI_eq, decide_eq_true rfl]; rfl
  simp only [this, boolC_eq, Bool.cond_decide]
def assoc (es : List (Int × AV)) (n : Int) : Option AV := match es with
  | [] => none
  | (m, v) :: es => if n = m then some v else assoc es n
def mkEs (k : IntKind) : List (Int × AV) → Nat → List AEntry
  | [], _ => []
  | (m, v) :: es, b => { key := .int k m, val := v, born := b } :: mkEs k es (b + 1)
theorem findA_mk (k : IntKind) (n : Int) : ∀ (es : List (Int × AV)) (b i : Nat), (match findA (.int k n) (mkEs k es b) i with | some (some (_, v)) => some (some v) | some none => some none | none => none) = some (assoc es n)
  | [], b, i => rfl
  | (m, v) :: es, b, i => by
    unfold mkEs assoc
    rw [findA_int]
    by_cases h : n = m
    · simp only [if_pos h]
    · simp only [if_neg h]; exact findA_mk k n es (b + 1) (i + 1)
def lkM (ok : Bool) (z : AV) (x : Option AV) : AV := bif ok then (.tuple [x.getD z, .bool x.isSome]) else x.getD z
theorem aLookup_int {T : TT} {t kt et : TypeId} {i j e : TyI} {ik : IntKind} {z : AV} (h : T t = some i) (hd : i.desc = .map kt et) (hk : T kt = some j) (hj : j.desc = .int ik) (he : T et = some e) (hz : e.zero = some z)
    {σ : St} {r : Nat} {k : IntKind} {es : List (Int × AV)} {b c : Nat} (hg : σ.get r = some (.map (mkEs k es b) c)) (n : Int) (ok : Bool) : aLookup T σ t (.map r) (.int k n) ok = some (lkM ok z (assoc es n)) := by
  unfold aLookup
  rw [h]; simp only [hd, hk, he, hz]
  have : entriesOf σ (.map r) = some (mkEs k es b) := by unfold entriesOf; simp only [hg]
  rw [this]; simp only [hj]
  show boolC none _ true = _
  rw [boolC_true]
  have := findA_mk k n es b 0
  revert this
  cases findA (.int k n) (mkEs k es b) 0 with
  | none => intro h; cases h
  | some x =>
    cases x with
    | none => intro h; simp only [Option.some.injEq] at h; rw [← h]; cases ok <;> rfl
    | some p => obtain ⟨q, v⟩ := p; intro h; simp only [Option.some.injEq] at h; rw [← h]; cases ok <;> rfl
theorem aBuiltin_min (T : TT) (σ : St) (ts : Array TypeId) (k : IntKind) (a b : Int) : aBuiltin T σ .min ts [.int k a, .int k b] = some (.int k (min a b), σ) := by
  have : aBuiltin T σ .min ts [.int k a, .int k b] = some (.int k (minI a b), σ) := rfl
  rw [this]; congr 3; unfold minI; rw [leI_eq, boolC_eq, Bool.cond_decide, Int.min_def]
theorem aBuiltin_max (T : TT) (σ : St) (ts : Array TypeId) (k : IntKind) (a b : Int) : aBuiltin T σ .max ts [.int k a, .int k b] = some (.int k (max a b), σ) := by
  have : aBuiltin T σ .max ts [.int k a, .int k b] = some (.int k (maxI a b), σ) := rfl
  rw [this]; congr 3; unfold maxI; rw [leI_eq, boolC_eq, Bool.cond_decide, Int.max_def]
theorem wrapU_range (n : Int) : 0 ≤ wrapA .u64 n ∧ wrapA .u64 n < 18446744073709551616 := by
  have e : wrapA .u64 n = wrapU 18446744073709551616 n := rfl
  rw [e, wrapU_eq]; omega
attribute [go_sem] aBuiltin_min aBuiltin_max
attribute [go_sem] isNilS_nil isNilS_slice aFill_nil aFill_fillP fillP_one fillP_agg plS_eq sliceO_some upM_some findA_nil findA_int
end Go.Abs
