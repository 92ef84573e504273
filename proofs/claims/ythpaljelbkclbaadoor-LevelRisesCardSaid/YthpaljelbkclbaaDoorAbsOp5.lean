/-
  THE ABSTRACT MACHINE IS RIGHT, 6: maps; append, copy, len, cap, min, max.
-/
import Derived.Test.YthpaljelbkclbaaDoorAbsOp4
import Derived.Laws.Append
import Derived.Laws.StructEq
namespace Go.Abs
open Go

section ops
variable {P : Program} {T : TT} (hT : TRel P T) {ρ : Pl} {σ : St} {w : World}

/-! ### maps -/

theorem findA_cons (k : AV) (e : AEntry) (es : List AEntry) (i : Nat) : findA k (e :: es) i = match eqOne k e.key with
    | some b => boolC (findA k es (i + 1)) (some (some (i, e.val))) b
    | none => none := rfl

theorem find_sound {d : TypeDesc} {k : AV} {k' : Value} (hk : VR ρ k k') (hf : keyFits d k = true) : ∀ (es : List AEntry) (es' : List MapEntry) (i : Nat) (r : Option (Nat × AV)), ERs ρ es es' → findA k es i = some r →
    (match r with
      | some (j, v) => ∃ v', Instr.findNow d k' es' i = some (some (j, v')) ∧ VR ρ v v' ∧ i ≤ j ∧ ∃ e, es[j - i]? = some e ∧ e.key = k
      | none => Instr.findNow d k' es' i = some none)
  | [], _, i, r, h, hr => by
    cases h; cases hr; rfl
  | e :: es, _, i, r, h, hr => by
    cases h with
    | cons h t =>
    rename_i e' es'
    rw [findA_cons] at hr
    obtain ⟨hkey, hval, _⟩ := h
    split at hr
    · rename_i b hb
      obtain ⟨f1, f2, f3⟩ := keyFits_eq hf
      have hsn : Instr.sameNow d k' e'.key = some b ∧ (b = true → e.key = k) := by
        rcases eqOne_eq hb with ⟨p, q, rfl, hq, rfl⟩ | ⟨kd, p, q, rfl, hq, rfl⟩ | ⟨p, q, rfl, hq, rfl⟩
        · cases hk; rw [hq] at hkey; rw [f1 ⟨_, rfl⟩]
          generalize e'.key = ek at hkey ⊢
          cases hkey
          refine ⟨?_, fun hh => by rw [hq]; simp at hh; rw [hh]⟩
          simp [Instr.sameNow]
          cases p <;> cases q <;> rfl
        · cases hk; rw [hq] at hkey; obtain ⟨kk, hkk⟩ := f2 ⟨_, _, rfl⟩; rw [hkk]
          generalize e'.key = ek at hkey ⊢
          cases hkey
          refine ⟨?_, fun hh => by rw [hq]; simp at hh; rw [hh]⟩
          simp [Instr.sameNow]
          rw [Bool.eq_iff_iff]; simp
        · cases hk; rw [hq] at hkey; rw [f3 ⟨_, rfl⟩]
          generalize e'.key = ek at hkey ⊢
          cases hkey
          refine ⟨?_, fun hh => by rw [hq]; simp at hh; rw [hh]⟩
          simp [Instr.sameNow]
          rw [beq_toListBytes, bytes_toList, bytes_toList, Bool.eq_iff_iff]; simp
      obtain ⟨hsn, hke⟩ := hsn
      cases b
      · rw [boolC_false] at hr
        have ih := find_sound hk hf es es' (i + 1) r t hr
        have hfn : Instr.findNow d k' (e' :: es') i = Instr.findNow d k' es' (i + 1) := by
          simp only [Instr.findNow, hsn]
        rw [hfn]
        cases r with
        | none => exact ih
        | some jv =>
          obtain ⟨j, v⟩ := jv
          obtain ⟨v', h1, h2, h3, en, h4, h5⟩ := ih
          refine ⟨v', h1, h2, by omega, en, ?_, h5⟩
          rw [show j - i = (j - (i + 1)) + 1 by omega]
          simpa using h4
      · rw [boolC_true] at hr
        cases hr
        exact ⟨e'.val, by simp only [Instr.findNow, hsn], hval, Nat.le_refl _, e, by simp, hke rfl⟩
    · cases hr

theorem check_sound {t : TypeId} {d : TypeDesc} {k : AV} {k' : Value} (hd : ∀ w, (underlying t).run P w = .ok d w) (hk : VR ρ k k') (hf : keyFits d k = true) (b : Bool) :
    (Instr.checkKey b 10000 t k').run P w = .ok () w := by
  obtain ⟨f1, f2, f3⟩ := keyFits_eq hf
  rw [Instr.checkKey]
  simp only [Sem.run_bind, hd, Result.andThen_ok]
  cases hk with
  | int kk n => obtain ⟨kd, rfl⟩ := f2 ⟨_, _, rfl⟩; rfl
  | str s => obtain rfl := f3 ⟨_, rfl⟩; rfl
  | bool s => obtain rfl := f1 ⟨_, rfl⟩; rfl
  | _ => exfalso; revert hf; unfold keyFits; cases d <;> simp

theorem entries_sound (h : Rep ρ σ w) {m : AV} {m' : Value} {es : List AEntry} (hm : VR ρ m m') (he : entriesOf σ m = some es) :
    (m' = .map none ∧ es = []) ∨ ∃ b es' clock, m' = .map (some b) ∧ (getObj b).run P w = .ok (.map es' clock) w ∧ ERs ρ es es'.toList := by
  unfold entriesOf at he
  split at he
  · cases he; cases hm; exact .inl ⟨rfl, rfl⟩
  · rename_i r
    split at he
    · rename_i es0 clock hg
      cases he
      cases hm with
      | map hρ =>
      obtain ⟨_, es', hx, her⟩ := h.obj _ _ _ _ _ hρ hg
      refine .inr ⟨_, es', clock, rfl, ?_, her⟩
      simp [getObj, Sem.run, hx]
    · cases he
  · cases he

include hT in
theorem lookup_sound (h : Rep ρ σ w) {t : TypeId} {m k v : AV} {m' k' : Value} {ok : Bool} (hm : VR ρ m m') (hk : VR ρ k k') (hl : aLookup T σ t m k ok = some v) : GetsV P ρ σ w (Instr.lookup t m' k' ok) v σ := by
  unfold aLookup at hl
  split at hl
  · rename_i i hi
    split at hl
    · rename_i kt elem hd
      split at hl
      · rename_i kd hkd
        split at hl
        · rename_i ei hei
          split at hl
          · rename_i z hz
            split at hl
            · rename_i es hes
              rw [boolC_none] at hl
              obtain ⟨hf, hl⟩ := hl
              have hu := run_under hT hi w
              have huk := fun w => run_under (P := P) hT hkd w
              obtain ⟨y, hy, ho, hnt⟩ := run_zero hT hei hz w
              have hzr : VR ρ z y := .ofVal ho
              have hck := fun b => check_sound (P := P) (w := w) huk hk hf b
              have fin : ∀ (es' : List MapEntry) (r : Option (Nat × AV)), ERs ρ es es' → findA k es 0 = some r → ∃ r', (Instr.findKey kt k' es').run P w = .ok r' w ∧
                  (match r with
                    | some (_, v) => ∃ j v', r' = some (j, v') ∧ VR ρ v v'
                    | none => r' = none) := by
                intro es' r her hr
                have hfs := find_sound hk hf es es' 0 r her hr
                cases r with
                | none =>
                  refine ⟨none, ?_, rfl⟩
                  simp only [Instr.findKey, Sem.run_bind, huk, Result.andThen_ok]
                  simp only [hfs, Sem.run_pure]
                | some jv =>
                  obtain ⟨j, v⟩ := jv
                  obtain ⟨v', h1, h2, _⟩ := hfs
                  refine ⟨some (j, v'), ?_, j, v', rfl, h2⟩
                  simp only [Instr.findKey, Sem.run_bind, huk, Result.andThen_ok]
                  simp only [h1, Sem.run_pure]
              have hall : ∃ (es' : Array MapEntry), ERs ρ es es'.toList ∧ (∀ x, (Instr.findKey kt k' es'.toList).run P w = .ok x w → (match x with
                    | some (_, v) => (Instr.lookup t m' k' ok).run P w = .ok (if ok then .tuple #[v, .bool true] else v) w
                    | none => (Instr.lookup t m' k' ok).run P w = .ok (if ok then .tuple #[y, .bool false] else y) w)) := by
                rcases entries_sound (P := P) h hm hes with ⟨rfl, rfl⟩ | ⟨b, es', clock, rfl, hg, her⟩
                · refine ⟨#[], .nil, fun x hx => ?_⟩
                  cases x with
                  | none => simp only [Instr.lookup, Sem.run_bind, hu, hd, Result.andThen_ok, Sem.run_pure, hck, hx, hy]
                  | some x => obtain ⟨j, v⟩ := x; simp only [Instr.lookup, Sem.run_bind, hu, hd, Result.andThen_ok, Sem.run_pure, hck, hx]
                · refine ⟨es', her, fun x hx => ?_⟩
                  cases x with
                  | none => simp only [Instr.lookup, Sem.run_bind, hu, hd, Result.andThen_ok, Sem.run_pure, hck, hx, hy, hg]
                  | some x => obtain ⟨j, v⟩ := x; simp only [Instr.lookup, Sem.run_bind, hu, hd, Result.andThen_ok, Sem.run_pure, hck, hx, hg]
              obtain ⟨es', her, hrun⟩ := hall
              split at hl
              · rename_i j v0 hfa
                cases hl
                obtain ⟨r', hr', j', v', rfl, hv⟩ := fin es'.toList _ her hfa
                have := hrun _ hr'
                refine .pure h this ?_
                cases ok
                · exact hv
                · exact .tuple (.cons hv (.cons (.bool _) .nil))
              · rename_i hfa
                cases hl
                obtain ⟨r', hr', rfl⟩ := fin es'.toList _ her hfa
                have := hrun _ hr'
                refine .pure h this ?_
                cases ok
                · exact hzr
                · exact .tuple (.cons hzr (.cons (.bool _) .nil))
              · cases hl
            · cases hl
          · cases hl
        · cases hl
      · cases hl
    · cases hl
  · cases hl

theorem setVal_cons (v : AV) (e : AEntry) (es : List AEntry) (i : Nat) : setVal v (e :: es) i = natC ({ key := e.key, val := v, born := e.born } :: es) (fun m => e :: setVal v es m) i := rfl

theorem ERs.modify {v : AV} {v' k' : Value} (hv : VR ρ v v') : ∀ {es : List AEntry} {es' : List MapEntry} {i : Nat} {e : AEntry}, ERs ρ es es' → es[i]? = some e → VR ρ e.key k' →
    ERs ρ (setVal v es i) (es'.modify i fun e => { e with key := k', val := v' })
  | [], _, i, e, h, he, hk => by simp at he
  | e0 :: es, _, 0, e, .cons h t, he, hk => by
    simp at he; subst he
    rw [setVal_cons, natC_zero]
    exact .cons ⟨hk, hv, h.2.2⟩ t
  | e0 :: es, _, i + 1, e, .cons h t, he, hk => by
    rw [setVal_cons, natC_succ]
    simp only [List.getElem?_cons_succ] at he
    simp only [List.modify_succ_cons]
    exact .cons h (ERs.modify hv t he hk)

theorem ERs.append {es fs : List AEntry} {es' fs' : List MapEntry} (h : ERs ρ es es') (h' : ERs ρ fs fs') : ERs ρ (es ++ fs) (es' ++ fs') := by
  induction h with
  | nil => exact h'
  | cons h _ ih => exact .cons h ih

theorem ERs.get {es : List AEntry} {es' : List MapEntry} {i : Nat} {e : AEntry} (h : ERs ρ es es') (he : es[i]? = some e) : ∃ e', es'[i]? = some e' ∧ ER ρ e e' := by
  induction h generalizing i with
  | nil => simp at he
  | cons h t ih => cases i with
    | zero => simp at he; subst he; exact ⟨_, rfl, h⟩
    | succ i => simp at he; simpa using ih he

theorem ERs.length {es : List AEntry} {es' : List MapEntry} (h : ERs ρ es es') : es.length = es'.length := by
  induction h with
  | nil => rfl
  | cons h t ih => simp [ih]

theorem run_setObj_of {b : Nat} {x y : Obj} (hx : w.heap[b]? = some x) (hnc : ∀ c t fr, x ≠ .cells c t fr) : (setObj b y).run P w = .ok () (w.putObj_ b y) := by
  simp only [setObj, Sem.run, hx]
  cases x <;> first | rfl | exact absurd rfl (hnc _ _ _)

theorem stays_run {d : TypeDesc} {k : AV} {x y : Value} (hf : keyFits d k = true) (hx : VR ρ k x) (hy : VR ρ k y) : (Instr.keyThatStays x y).run P w = .ok y w := by
  cases hx with
  | int kk n => cases hy; simp [Instr.keyThatStays, Instr.sameBits]
  | str s => cases hy; simp [Instr.keyThatStays, Instr.sameBits, beq_toListBytes]
  | bool s => cases hy; simp [Instr.keyThatStays, Instr.sameBits]
  | _ => exfalso; revert hf; unfold keyFits; cases d <;> simp

include hT in
theorem mapUpdate_sound (h : Rep ρ σ w) {t : TypeId} {m k v : AV} {m' k' v' : Value} {σ' : St} (hm : VR ρ m m') (hk : VR ρ k k') (hv : VR ρ v v') (hl : aMapUpdate T σ t m k v = some σ') :
    GetsU P ρ σ w (Instr.mapUpdate t m' k' v') σ' := by
  unfold aMapUpdate at hl
  split at hl
  · rename_i r
    split at hl
    · rename_i i hi
      split at hl
      · rename_i kt elem hd
        split at hl
        · rename_i kd hkd
          split at hl
          · rename_i es clock hg
            rw [boolC_none] at hl
            obtain ⟨hf, hl⟩ := hl
            have hu := run_under hT hi w
            have huk := fun w => run_under (P := P) hT hkd w
            have hck := check_sound (P := P) (w := w) huk hk hf false
            cases hm with
            | map hρ =>
            rename_i b sz
            obtain ⟨_, es', hx, her⟩ := h.obj _ _ _ _ _ hρ hg
            have hgo : (getObj b).run P w = .ok (.map es' clock) w := by simp [getObj, Sem.run, hx]
            have hset : ∀ y, (setObj b y).run P w = .ok () (w.putObj_ b y) := fun y => run_setObj_of hx (by simp)
            split at hl
            · rename_i j v0 hfa
              rw [St.setK_eq] at hl
              cases hl
              obtain ⟨v1, hfn, _, _, e, he, hek⟩ := find_sound hk hf es es'.toList 0 _ her hfa
              rw [Nat.sub_zero] at he
              obtain ⟨e', he', hee⟩ := her.get he
              have hst := stays_run (P := P) (w := w) (x := e'.key) (y := k') hf (by rw [← hek]; exact hee.1) hk
              refine ⟨(), w.putObj_ b (.map (es'.modify j fun e => { e with key := k', val := v' }) clock), ?_, ρ, Step.put h hρ hg rfl trivial ⟨rfl, _, rfl, ?_⟩⟩
              · have he'' : es'[j]? = some e' := by simpa using he'
                simp only [Instr.mapUpdate, Sem.run_bind, hu, hd, Result.andThen_ok, hgo, hck, Instr.findKey, huk]
                simp only [hfn, Sem.run_pure, Result.andThen_ok, he'', Option.map_some, Option.getD_some, Sem.run_bind, hst, hset]
              · rw [Array.toList_modify]
                exact ERs.modify hv her he (by rw [hek]; exact hk)
            · rename_i hfa
              rw [St.setK_eq] at hl
              cases hl
              have hfn := find_sound hk hf es es'.toList 0 _ her hfa
              refine ⟨(), w.putObj_ b (.map (es'.push { key := k', val := v', born := clock }) (clock + 1)), ?_, ρ, Step.put h hρ hg rfl trivial ⟨rfl, _, rfl, ?_⟩⟩
              · simp only [Instr.mapUpdate, Sem.run_bind, hu, hd, Result.andThen_ok, hgo, hck, Instr.findKey, huk]
                simp only [hfn, Sem.run_pure, Result.andThen_ok, hset]
              · rw [lapp_eq, Array.toList_push]
                exact her.append (.cons ⟨hk, hv, rfl⟩ .nil)
            · cases hl
          · cases hl
        · cases hl
      · cases hl
    · cases hl
  · cases hl

theorem newMap_sound (h : Rep ρ σ w) {r : AV} {σ' : St} (hl : newMap σ = some (r, σ')) : GetsV P ρ σ w (do pure (.map (some (← newObj (.map #[] 0)))) : Sem Value) r σ' := by
  unfold newMap at hl
  rw [St.pushK_eq] at hl
  cases hl
  have hst := Step.alloc h (ob := .map [] 0) (x := .map #[] 0) 0 (fun ρ' _ => ⟨rfl, _, rfl, .nil⟩)
  exact ⟨.map (some w.heap.size), w.alloc (.map #[] 0), rfl, _, hst, .map (Pl.upd_same _ _ _)⟩

/-! ### builtins -/

theorem argType_eq {a : Array TypeId} {i : Nat} {ti : TyI} (h : argType T a i = some ti) : ∃ t, a[i]? = some t ∧ T t = some ti := by
  unfold argType at h
  rw [ldrop_eq] at h
  split at h
  · rename_i t l hd
    refine ⟨t, ?_, h⟩
    have : (a.toList.drop i)[0]? = some t := by rw [hd]; rfl
    simpa [List.getElem?_drop] using this
  · cases h

theorem srcLen_sound {x : AV} {x' : Value} {n : Nat} (hx : VR ρ x x') (h : srcLen x = some n) : (Builtin.lenOf x').run P w = .ok n w := by
  unfold srcLen at h
  split at h
  · cases h; cases hx; rfl
  · cases h; cases hx <;> rfl
  · cases h; cases hx; rw [llen_eq]; rfl
  · cases h

theorem src_sound (h : Rep ρ σ w) {x : AV} {x' : Value} {n m size : Nat} {l : List AV} (hx : VR ρ x x') (hn : srcLen x = some n) (hm : m ≤ n) (hl : srcCells σ size m x = some l) :
    ∃ ys : List Value, (Builtin.firstCells size m x').run P w = .ok ys.toArray w ∧ VRs ρ l ys ∧ ∀ c ∈ l, c.one = true := by
  unfold srcLen at hn
  unfold srcCells at hl
  split at hn
  · cases hn; cases hl; cases hx
    exact ⟨[], rfl, .nil, by simp⟩
  · rename_i id off len cap esz
    cases hn
    by_cases h0 : m * size = 0
    · simp only [h0, natC_zero] at hl
      cases hl
      refine ⟨[], ?_, .nil, by simp⟩
      cases hx <;> simp [Builtin.firstCells, h0, loadCells, loadCellsFrom]
    · obtain ⟨q, hq⟩ : ∃ q, m * size = q + 1 := ⟨m * size - 1, by omega⟩
      simp only [hq, natC_succ] at hl
      rw [← hq] at hl
      obtain ⟨vs, hvs, hlen, rfl⟩ := loadN_eq hl
      cases hx with
      | slice hρ q1 q2 q3 =>
        obtain ⟨ys, hr, hv, h1⟩ := Rep.cells (P := P) h hρ hvs off (m * size) (by omega)
        exact ⟨ys, hr, hv, h1⟩
      | sliceE a =>
        exfalso; apply h0; rw [Nat.le_zero.1 hm, Nat.zero_mul]
  · rename_i s
    cases hn; cases hx
    simp only [takeK_eq] at hl
    split at hl
    · cases hl
      refine ⟨_, ?_, ofBytes_rel _, ofBytes_one _⟩
      simp only [Builtin.firstCells, Sem.run_pure, bytes_extract]
      congr 1
      apply Array.ext'
      simp
    · cases hl
  · cases hn
end ops
end Go.Abs
