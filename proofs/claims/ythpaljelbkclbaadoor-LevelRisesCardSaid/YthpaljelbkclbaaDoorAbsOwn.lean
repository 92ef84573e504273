/-
  SLICES OF WHOLE NUMBERS THAT HAVE THEIR OBJECT FOR THEMSELVES: they are written in place.
-/
import Derived.Test.YthpaljelbkclbaaDoorAbsRng
namespace Go.Abs
open Go
def iv (x : Int) : AV := .int .i64 x
theorem flat_ic : ∀ l : List Int, (l.map ic).flatten = l.map iv
  | [] => rfl
  | x :: l => by rw [List.map_cons, List.flatten_cons, flat_ic l]; rfl
theorem ic_all (l : List Int) : ∀ x ∈ l.map ic, x.length = 1 := by
  intro x hx
  obtain ⟨y, _, rfl⟩ := List.mem_map.1 hx
  rfl
def OwnI (σ : St) (v : AV) (l : List Int) : Prop := (v = .nilSlice ∧ l = []) ∨ ∃ id, v = .slice id 0 l.length l.length 1 ∧ σ.get id = some (.cells (l.map iv) 0 false)
theorem OwnI.nil (σ : St) : OwnI σ .nilSlice [] := .inl ⟨rfl, rfl⟩
theorem OwnI.ints {σ : St} {v : AV} {l : List Int} (h : OwnI σ v l) : Ints σ v l := by
  refine ⟨ic_all l, ?_⟩
  rcases h with ⟨rfl, rfl⟩ | ⟨id, rfl, hg⟩
  · rfl
  · refine ⟨rfl, by simp, Nat.le_refl _, .inr ⟨l.map iv, by rw [cellsOf_get, hg]; rfl, by simp, ?_⟩⟩
    rw [flat_ic]; simpa using List.take_of_length_le (by simp)
theorem OwnI.new {σ : St} {l : List Int} {n : Nat} (hn : n = l.length) {cs : List AV} (hc : cs = l.map iv) : OwnI (σ.push (.cells cs 0 false)) (.slice σ.next 0 n n 1) l := by
  subst hn hc
  exact .inr ⟨_, rfl, St.get_push_eq _ _ rfl⟩
theorem OwnI.mono {M : List Nat} {σ σ' : St} {v : AV} {l : List Int} (h : OwnI σ v l) (he : Ext M [] σ σ') (hm : ∀ i ∈ sid v, i ∉ M) : OwnI σ' v l := by
  rcases h with ⟨rfl, rfl⟩ | ⟨id, rfl, hg⟩
  · exact .nil _
  · exact .inr ⟨id, rfl, by rw [he.get id (St.get_lt hg) (hm id (by simp [sid])) (by simp)]; exact hg⟩
theorem OwnI.lt {σ : St} {v : AV} {l : List Int} (h : OwnI σ v l) : ∀ i ∈ sid v, i < σ.next := by
  rcases h with ⟨rfl, rfl⟩ | ⟨id, rfl, hg⟩
  · simp [sid]
  · intro i hi; simp only [sid, List.mem_singleton] at hi; subst hi; exact St.get_lt hg
theorem ownI_append_to {σ : St} {s : AV} {bytes : Nat} {l r : List Int} (h : OwnI σ s l) (hb : (2 * (l.length + r.length) + 1024) * bytes ≤ 281474976710656) (hl : l.length + r.length < 4611686018427387904) :
    ∃ v σ', aAppendTo σ s 1 bytes r.length true (r.map ic).flatten = some (v, σ') ∧ OwnI σ' v (l ++ r) ∧ Ext (sid s) [] σ σ' ∧ ((v = s ∧ σ' = σ) ∨ v = .slice σ.next 0 (l ++ r).length (l ++ r).length 1) := by
  have hfl : (r.map ic).flatten.length = r.length * 1 := by rw [flat_ic]; simp
  unfold aAppendTo
  rw [llen_eq, hfl, nbeq, decide_eq_true rfl, nble, decide_eq_true (Nat.le_refl 1)]
  simp only [Bool.and_self, boolC_true]
  rcases h with ⟨rfl, rfl⟩ | ⟨id, rfl, hg⟩
  · simp only [List.nil_append, List.length_nil, Nat.zero_add] at *
    unfold growNil
    cases hn : r.length with
    | zero =>
      have : r = [] := List.eq_nil_of_length_eq_zero hn
      subst this
      exact ⟨.nilSlice, σ, rfl, .nil σ, .refl _ _ _, .inl ⟨rfl, rfl⟩⟩
    | succ m =>
      rw [natC_succ, St.pushK_eq, ← hn, nble, nblt, bigBytes, decide_eq_true hb, decide_eq_true hl]
      simp only [Bool.and_self, boolC_true]
      exact ⟨_, _, rfl, .new rfl (flat_ic r), .push _ _ _ _, .inr rfl⟩
  · simp only
    rw [nbeq, decide_eq_true rfl, boolC_true]
    cases hn : r.length with
    | zero =>
      have : r = [] := List.eq_nil_of_length_eq_zero hn
      subst this
      rw [natC_zero, List.append_nil]
      exact ⟨_, σ, rfl, .inr ⟨id, rfl, hg⟩, .refl _ _ _, .inl ⟨rfl, rfl⟩⟩
    | succ m =>
      rw [natC_succ, ← hn, nble, decide_eq_false (by omega), boolC_false]
      unfold growOut
      rw [hg]
      simp only [nble, nblt, bigBytes]
      rw [decide_eq_true (Nat.zero_le _), decide_eq_true hb, decide_eq_true hl, takeK_eq, ldrop_eq, if_pos (by simp)]
      simp only [Bool.and_self, boolC_true, boolC_false, St.setK_eq, St.pushK_eq, lapp_eq, ltake_eq, maxN_eq]
      have h1 : ((l.map iv).drop 0).take (l.length * 1) = l.map iv := by simpa using List.take_of_length_le (by simp)
      rw [h1, flat_ic]
      refine ⟨_, _, rfl, ?_, ?_, .inr ?_⟩
      · have := OwnI.new (σ := σ.set id .dead) (l := l ++ r) (n := l.length + r.length) (by simp) (cs := l.map iv ++ r.map iv) (by simp)
        simpa using this
      · exact (Ext.set _ (.inl (by simp [sid]))).pushR _
      · simp
theorem ownI_append {T : TT} {t t' e : TypeId} {i j i' : TyI} {z : AV} {bytes : Nat} (ht : T t = some i) (hd : i.desc = .slice e) (he : T e = some j) (hz : j.zero = some z) (hzl : Nat.beq (llen z.cells) j.size = true)
    (hes : j.size = 1) (hby : j.bytes = bytes) (hk : j.kill = true) (ht' : T t' = some i') (hsq : isSeq i'.desc = true)
    {σ : St} {s x : AV} {l r : List Int} (hs : OwnI σ s l) (hx : Ints σ x r)
    (hb : (2 * (l.length + r.length) + 1024) * bytes ≤ 281474976710656) (hl : l.length + r.length < 4611686018427387904) :
    ∃ v σ', aBuiltin T σ .append #[t, t'] [s, x] = some (v, σ') ∧ OwnI σ' v (l ++ r) ∧ Ext (sid s) [] σ σ' ∧ ((v = s ∧ σ' = σ) ∨ v = .slice σ.next 0 (l ++ r).length (l ++ r).length 1) := by
  obtain ⟨v, σ', h, hr⟩ := ownI_append_to (bytes := bytes) hs hb hl
  refine ⟨v, σ', ?_, hr⟩
  show aAppend T σ #[t, t'] s x = _
  unfold aAppend
  have e0 : argType T #[t, t'] 0 = some i := ht
  have e1 : argType T #[t, t'] 1 = some i' := ht'
  rw [e0, e1]
  simp only [hd, he, hz, hsq, boolC_true, hx.srcLen, hes]
  rw [hx.srcCells _ (Nat.le_refl _)]
  simp only [List.length_map]
  rw [← hes, hzl, boolC_true, hes, hby, hk, show (r.map ic).take r.length = r.map ic by rw [List.take_of_length_le (by simp)]]
  exact h
/-- What one letter written leaves. -/
theorem splice_iv (l : List Int) (k : Nat) (x : Int) (h : k < l.length) : splice (l.map iv) k [iv x] = (l.set k x).map iv := by
  unfold splice
  apply List.ext_getElem?
  intro i
  by_cases h1 : i < k
  · rw [List.getElem?_append_left (by simp; omega), List.getElem?_append_left (by simp; omega), List.getElem?_take_of_lt h1]
    simp only [List.getElem?_map]
    rw [List.getElem?_set_ne (by omega)]
  · by_cases h2 : i = k
    · subst h2
      rw [List.append_assoc, List.getElem?_append_right (by simp; omega)]
      simp [h, Nat.min_eq_left (Nat.le_of_lt h)]
    · simp only [List.getElem?_map]
      rw [List.getElem?_set_ne (by omega)]
      rw [List.getElem?_append_right (by simp; omega)]
      rw [List.getElem?_drop, List.getElem?_map]
      simp only [List.length_append, List.length_take, List.length_map, List.length_singleton]
      congr 2; omega
/-! ### cut, cleared, copied, made -/
theorem aSlice_own {T : TT} {t e : TypeId} {i j : TyI} (h : T t = some i) (hd : i.desc = .slice e) (he : T e = some j) (hs : j.size = 1) {id off n cap a b : Nat} {lo hi : Option AV}
    (hlo : (lo = none ∧ a = 0) ∨ ∃ k, lo = some (.int k (a : Int))) (hhi : (hi = none ∧ b = n) ∨ ∃ k, hi = some (.int k (b : Int))) (hab : a ≤ b) (hb : b ≤ cap) (σ : St) :
    aSlice T σ t (.slice id off n cap 1) lo hi = some (.slice id (off + a) (b - a) (cap - a) 1) := by
  have hbd : bounds2 lo hi n cap = some (a, b) := by
    have h1 : aBound hi n cap = some b := by
      rcases hhi with ⟨rfl, rfl⟩ | ⟨k, rfl⟩
      · rfl
      · show boolC none (some b) (Nat.ble b cap) = _
        rw [nble, decide_eq_true (by omega)]; rfl
    have h2 : aBound lo 0 b = some a := by
      rcases hlo with ⟨rfl, rfl⟩ | ⟨k, rfl⟩
      · rfl
      · show boolC none (some a) (Nat.ble a b) = _
        rw [nble, decide_eq_true hab]; rfl
    unfold bounds2
    rw [h1]; simp only; rw [h2]
  unfold aSlice
  simp only [h, hd, he, hbd, hs]
  rw [nbeq, decide_eq_true rfl, Nat.mul_one]; rfl
theorem repCells_iv (x : Int) : ∀ n, repCells [iv x] n = (List.replicate n x).map iv
  | 0 => rfl
  | n + 1 => by
    show lapp [iv x] (repCells [iv x] n) = _
    rw [lapp_eq, repCells_iv x n, List.replicate_succ]; rfl
theorem aClear_own {T : TT} {t e : TypeId} {i j : TyI} (h : T t = some i) (hd : i.desc = .slice e) (he : T e = some j) (hz : j.zero = some (.int .i64 0)) {σ : St} {id off len cap : Nat} {l : List Int} (hg : σ.get id = some (.cells (l.map iv) 0 false))
    (h0 : 0 < len) (hl : off + len ≤ l.length) (ts : Array TypeId) (hts : ts.toList = [t]) :
    aBuiltin T σ .clear ts [.slice id off len cap 1] = some (.undef, σ.set id (.cells ((l.take off ++ List.replicate len 0 ++ l.drop (off + len)).map iv) 0 false)) := by
  show withUndef (aClear T σ ts (.slice id off len cap 1)) = _
  unfold aClear
  have e0 : argType T ts 0 = some i := by
    obtain ⟨ts⟩ := ts
    simp only at hts
    subst hts
    exact h
  obtain ⟨m, rfl⟩ : ∃ m, len = m + 1 := ⟨len - 1, by omega⟩
  rw [e0]
  simp only [natC_succ, hd, he, hz]
  rw [show repCells (AV.int .i64 0).cells (m + 1) = _ from repCells_iv 0 (m + 1), storeN_stN, hg, stN_some, if_pos (Nat.zero_le _), if_pos (by simp; omega)]
  have : splice (l.map iv) off ((List.replicate (m + 1) 0).map iv) = (l.take off ++ List.replicate (m + 1) 0 ++ l.drop (off + (m + 1))).map iv := by
    unfold splice; simp [List.map_take, List.map_drop]
  rw [this]; rfl
theorem aCopy_own {T : TT} {t e : TypeId} {i j : TyI} (h : T t = some i) (hd : i.desc = .slice e) (he : T e = some j) (hs : j.size = 1) {σ : St} {id off len cap : Nat} {l r : List Int} {x : AV} (hg : σ.get id = some (.cells (l.map iv) 0 false))
    (hx : Ints σ x r) (hl : off + len ≤ l.length) (ts : Array TypeId) (hts : ts.toList.head? = some t) :
    aBuiltin T σ .copy ts [.slice id off len cap 1, x] = some (.int .i64 (min r.length len : Nat), if 0 < min r.length len then σ.set id (.cells ((l.take off ++ r.take (min r.length len) ++ l.drop (off + min r.length len)).map iv) 0 false) else σ) := by
  show aCopy T σ ts (.slice id off len cap 1) x = _
  unfold aCopy
  have e0 : argType T ts 0 = some i := by
    obtain ⟨ts⟩ := ts
    cases ts with
    | nil => cases hts
    | cons a r => simp only [List.head?_cons, Option.some.injEq] at hts; subst hts; exact h
  rw [e0]
  have hm : minN (r.map ic).length len = min r.length len := by rw [minN_eq, List.length_map]
  simp only [hd, he, hx.srcLen, hs]
  rw [show srcLen (.slice id off len cap 1) = some len from rfl]
  simp only [hm]
  rw [hx.srcCells _ (by rw [List.length_map]; omega)]
  simp only
  have hf : ((r.map ic).take (min r.length len)).flatten = (r.take (min r.length len)).map iv := by rw [← List.map_take, flat_ic]
  rw [hf]
  by_cases h0 : 0 < min r.length len
  · rw [if_pos h0]
    have hlen : ((r.take (min r.length len)).map iv).length = min r.length len := by simp
    cases hc : (r.take (min r.length len)).map iv with
    | nil => rw [hc] at hlen; simp at hlen; omega
    | cons a c =>
      simp only [storeN_stN, hg, stN_some]
      rw [← hc, if_pos (Nat.zero_le _), if_pos (by rw [hlen]; simp; omega)]
      have : splice (l.map iv) off ((r.take (min r.length len)).map iv) = (l.take off ++ r.take (min r.length len) ++ l.drop (off + min r.length len)).map iv := by
        unfold splice; rw [hlen]; simp [List.map_take, List.map_drop]
      rw [this]; rfl
  · rw [if_neg h0]
    have : min r.length len = 0 := by omega
    rw [this]; rfl
theorem aMakeSlice_own {T : TT} {t e : TypeId} {i j : TyI} {bytes : Nat} (h : T t = some i) (hd : i.desc = .slice e) (he : T e = some j) (hz : j.zero = some (.int .i64 0)) (hs : j.size = 1) (hb : j.bytes = bytes) (hb1 : 1 ≤ bytes) {n : Nat} (hn : n * bytes ≤ bigBytes) (σ : St) (k k' : IntKind) :
    aMakeSlice T σ t (.int k (n : Int)) (.int k' (n : Int)) = some (.slice σ.next 0 n n 1, σ.push (.cells ((List.replicate n 0).map iv) 0 false)) := by
  unfold aMakeSlice
  simp only [h, hd, he, hz]
  show boolC none _ _ = _
  rw [hs, hb, nble, nble, nble, nble, llen_eq, nbeq, decide_eq_true (Nat.le_refl n), decide_eq_true hn, decide_eq_true hb1]
  rw [decide_eq_true (show (AV.int IntKind.i64 0).cells.length = 1 from rfl), decide_eq_true (Nat.le_refl 1)]
  simp only [Bool.and_self, boolC_true]
  rw [show repCells (AV.int .i64 0).cells n = _ from repCells_iv 0 n, St.pushK_eq]
end Go.Abs
