/-
  THE ABSTRACT MACHINE IS RIGHT, 8: operands; one operation that is no call.
-/
import Derived.Test.YthpaljelbkclbaaDoorAbsOp6
import Derived.CallsIn
namespace Go.Abs
open Go

/-- The temporaries of an activation stand for those of the model's. -/
def TR (ρ : Pl) (tmps : List AV) (act : Act) : Prop := VRs ρ tmps act.tmps.toList

/-- The operation comes to a value, or is a mere deed, and the store is σ' then. -/
def OpOK (P : Program) (ρ : Pl) (σ : St) (w : World) (s : Sem Next) (v : AV) (σ' : St) : Prop :=
  ∃ nx w' ρ' x, s.run P w = .ok nx w' ∧ Step ρ σ w ρ' σ' w' ∧ VR ρ' v x ∧ (nx = .value x ∨ (nx = .skip ∧ x = undef))

section ops
variable {P : Program} {T : TT} (hT : TRel P T) {ρ : Pl} {σ : St} {w : World}

theorem OpOK.ofV {s : Sem Value} {v : AV} {σ' : St} (h : GetsV P ρ σ w s v σ') : OpOK P ρ σ w (do pure (.value (← s))) v σ' := by
  obtain ⟨x, w', hr, ρ', hst, hv⟩ := h
  exact ⟨.value x, w', ρ', x, by simp [hr], hst, hv, .inl rfl⟩

theorem OpOK.ofU {s : Sem Unit} {σ' : St} (h : GetsU P ρ σ w s σ') : OpOK P ρ σ w (do s; pure .skip) .undef σ' := by
  obtain ⟨x, w', hr, ρ', hst⟩ := h
  exact ⟨.skip, w', ρ', undef, by simp [hr], hst, VR.undef, .inr ⟨rfl, rfl⟩⟩

theorem evT_sound {tmps : List AV} {act : Act} (ht : TR ρ tmps act) {x : Operand} {v : AV} (h : evT tmps x = some v) : VR ρ v (act.eval x) := by
  unfold evT at h
  split at h
  · rename_i t
    cases h
    rw [lget_eq]
    have := VRs.getD ht t
    simp only [Act.eval]
    rw [show act.tmps.getD t undef = act.tmps.toList.getD t undef from by simp [List.getD_eq_getElem?_getD]]
    exact this
  · exact .ofVal h
  · cases h
  · cases h; exact .fn .nil .nil

/-- What operands say stands for what they say in the model. -/
def OL (ρ : Pl) (tmps : List AV) (act : Act) (l : List Operand) : Prop := ∀ x ∈ l, ∀ v, evT tmps x = some v → VR ρ v (act.eval x)
def OT (ρ : Pl) (tmps : List AV) (act : Act) (o : Op) : Prop := OL ρ tmps act o.operands.toList

theorem OT.of {tmps : List AV} {act : Act} (ht : TR ρ tmps act) (o : Op) : OT ρ tmps act o := fun _ _ _ h => evT_sound ht h
theorem OL.sub {tmps : List AV} {act : Act} {l m : List Operand} (ht : OL ρ tmps act l) (h : ∀ x ∈ m, x ∈ l) : OL ρ tmps act m := fun x hx => ht x (h x hx)

theorem evs_cons (tmps : List AV) (x : Operand) (l : List Operand) : evs tmps (x :: l) = match evT tmps x with
    | some a => match evs tmps l with
      | some r => some (a :: r)
      | none => none
    | none => none := rfl

theorem evs_sound {tmps : List AV} {act : Act} : ∀ {l : List Operand} {vs : List AV}, OL ρ tmps act l → evs tmps l = some vs → VRs ρ vs (l.map act.eval)
  | [], vs, _, h => by cases h; exact .nil
  | x :: l, vs, ht, h => by
    rw [evs_cons] at h
    split at h
    · rename_i a ha
      split at h
      · rename_i r hr
        cases h
        exact .cons (ht _ (by simp) _ ha) (evs_sound (ht.sub fun _ h => by simp [h]) hr)
      · cases h
    · cases h

theorem evs_arr {tmps : List AV} {act : Act} {l : Array Operand} (ht : OL ρ tmps act l.toList) {vs : List AV} (h : evs tmps l.toList = some vs) : VRs ρ vs (l.map act.eval).toList := by
  rw [Array.toList_map]; exact evs_sound ht h

theorem evParts_cons (tmps : List AV) (p : Nat × Operand) (l : List (Nat × Operand)) : evParts tmps (p :: l) = match evT tmps p.2 with
    | some a => match evParts tmps l with
      | some r => some ((p.1, a) :: r)
      | none => none
    | none => none := rfl

theorem evParts_sound {tmps : List AV} {act : Act} : ∀ {l : List (Nat × Operand)} {vs : List (Nat × AV)}, OL ρ tmps act (l.map (·.2)) → evParts tmps l = some vs → PRs ρ vs (l.map fun (i, x) => (i, act.eval x))
  | [], vs, _, h => by cases h; exact .nil
  | (i, x) :: l, vs, ht, h => by
    rw [evParts_cons] at h
    split at h
    · rename_i a ha
      split at h
      · rename_i r hr
        cases h
        exact .cons (ht _ (by simp) _ ha) (evParts_sound (ht.sub fun _ h => by simp [List.mem_map.1 h]) hr)
      · cases h
    · cases h

theorem optEv_sound {tmps : List AV} {act : Act} {x : Option Operand} (ht : OL ρ tmps act x.toList) {v : Option AV} (h : optEv tmps x = some v) : OR ρ v (x.map act.eval) := by
  unfold optEv at h
  split at h
  · cases h; exact .none
  · split at h
    · rename_i v' hv
      cases h; exact .some (ht _ (by simp) _ hv)
    · cases h

theorem optEv_some {tmps : List AV} {act : Act} {x : Option Operand} (ht : OL ρ tmps act x.toList) {v : AV} (h : optEv tmps x = some (some v)) : ∃ y, x = some y ∧ VR ρ v (act.eval y) := by
  unfold optEv at h
  split at h
  · cases h
  · rename_i y
    split at h
    · rename_i v' hv
      cases h; exact ⟨y, rfl, ht _ (by simp) _ hv⟩
    · cases h

theorem ev1_eq {β : Type} {tmps : List AV} {x : Operand} {f : AV → Option β} {r : β} (h : ev1 tmps none x f = some r) : ∃ v, evT tmps x = some v ∧ f v = some r := by
  unfold ev1 at h
  split at h
  · rename_i v hv; exact ⟨v, hv, h⟩
  · cases h

theorem withSt_eq {σ σ' : St} {x : Option AV} {v : AV} (h : withSt σ x = some (v, σ')) : x = some v ∧ σ' = σ := by
  unfold withSt at h
  split at h
  · cases h; exact ⟨rfl, rfl⟩
  · cases h

theorem withUndef_eq {σ' : St} {x : Option St} {v : AV} (h : withUndef x = some (v, σ')) : x = some σ' ∧ v = .undef := by
  unfold withUndef at h
  split at h
  · cases h; exact ⟨rfl, rfl⟩
  · cases h

theorem two_eq {β : Type} {l : List AV} {f : AV → AV → Option β} {r : β} (h : two none l f = some r) : ∃ x y, l = [x, y] ∧ f x y = some r := by
  unfold two at h
  split at h
  · exact ⟨_, _, rfl, h⟩
  · cases h

theorem onlyOne_eq {β : Type} {l : List AV} {f : AV → Option β} {r : β} (h : onlyOne none l f = some r) : ∃ x, l = [x] ∧ f x = some r := by
  unfold onlyOne at h
  split at h
  · exact ⟨_, rfl, h⟩
  · cases h

theorem arr1 {a : Array Value} {x : AV} (h : VRs ρ [x] a.toList) : ∃ x', a = #[x'] ∧ VR ρ x x' := by
  obtain ⟨l⟩ := a
  cases h with
  | cons h t => cases t; exact ⟨_, rfl, h⟩

theorem arr2 {a : Array Value} {x y : AV} (h : VRs ρ [x, y] a.toList) : ∃ x' y', a = #[x', y'] ∧ VR ρ x x' ∧ VR ρ y y' := by
  obtain ⟨l⟩ := a
  cases h with
  | cons h t => cases t with
    | cons h' t => cases t; exact ⟨_, _, rfl, h, h'⟩

include hT in
theorem builtin_sound (h : Rep ρ σ w) {b : Builtin} {argTypes : Array TypeId} {ty : TypeId} {cs : Array Bool} {l : List AV} {args : Array Value} {v : AV} {σ' : St} (hx : VRs ρ l args.toList)
    (hl : aBuiltin T σ b argTypes l = some (v, σ')) : OpOK P ρ σ w (builtin b argTypes ty cs args) v σ' := by
  unfold aBuiltin at hl
  split at hl
  · obtain ⟨x, y, rfl, hl⟩ := two_eq hl
    obtain ⟨x', y', rfl, h1, h2⟩ := arr2 hx
    exact .ofV (append_sound hT h h1 h2 hl)
  · obtain ⟨x, y, rfl, hl⟩ := two_eq hl
    obtain ⟨x', y', rfl, h1, h2⟩ := arr2 hx
    exact .ofV (copy_sound hT h h1 h2 hl)
  · obtain ⟨x, rfl, hl⟩ := onlyOne_eq hl
    obtain ⟨x', rfl, h1⟩ := arr1 hx
    obtain ⟨hl2, rfl⟩ := withSt_eq hl
    exact .ofV (len_sound hT h h1 hl2)
  · obtain ⟨x, rfl, hl⟩ := onlyOne_eq hl
    obtain ⟨x', rfl, h1⟩ := arr1 hx
    obtain ⟨hl2, rfl⟩ := withSt_eq hl
    exact .ofV (cap_sound hT h h1 hl2)
  · obtain ⟨hl2, rfl⟩ := withSt_eq hl
    exact .ofV (min_sound h hx hl2)
  · obtain ⟨hl2, rfl⟩ := withSt_eq hl
    exact .ofV (max_sound h hx hl2)
  · obtain ⟨x, rfl, hl⟩ := onlyOne_eq hl
    obtain ⟨x', rfl, h1⟩ := arr1 hx
    obtain ⟨hl2, rfl⟩ := withUndef_eq hl
    exact .ofV (clear_sound hT h h1 hl2)
  · cases hl

include hT in
theorem op_sound {E : List TypeId} (hE : ∀ t ∈ E, EqOK P T t) (h : Rep ρ σ w) {tmps : List AV} {act : Act} {o : Oper} (ht : OT ρ tmps act o.op) {v : AV} {σ' : St} (hl : aOp T E tmps o.op σ = some (v, σ')) :
    OpOK P ρ σ w (execOp act.eval o) v σ' := by
  unfold aOp at hl
  unfold execOp
  split at hl <;> rename_i hop <;> first | (cases hl; done) | (rw [hop] at ht; rw [hop]; simp only)
  · obtain ⟨hl2, rfl⟩ := withSt_eq hl
    exact ⟨_, w, ρ, _, rfl, .refl h, ht _ (by simp [Op.operands]) _ hl2, .inl rfl⟩
  · obtain ⟨hl2, rfl⟩ := withSt_eq hl
    exact ⟨_, w, ρ, _, rfl, .refl h, ht _ (by simp [Op.operands]) _ hl2, .inl rfl⟩
  · -- pick
    rename_i c a b
    unfold oPick at hl
    obtain ⟨vc, hc, hl⟩ := ev1_eq hl
    have hvc := ht _ (by simp [Op.operands]) _ hc
    split at hl
    · rename_i t
      obtain ⟨va, ha, hl⟩ := ev1_eq hl
      obtain ⟨vb, hb, hl⟩ := ev1_eq hl
      have hva := ht _ (by simp [Op.operands]) _ ha
      have hvb := ht _ (by simp [Op.operands]) _ hb
      cases hl
      generalize act.eval c = c' at hvc
      cases hvc
      refine ⟨.value (if t then act.eval a else act.eval b), w, ρ, _, by simp [asBool], .refl h, ?_, .inl rfl⟩
      cases t
      · exact hvb
      · exact hva
    · cases hl
  · exact .ofV (alloc_sound hT h hl)
  · obtain ⟨x, hx, hl⟩ := ev1_eq hl
    exact .ofV (box_sound h (ht _ (by simp [Op.operands]) _ hx) hl)
  · rename_i t parts
    unfold oBuild at hl
    split at hl
    · rename_i l hp
      obtain ⟨hl2, rfl⟩ := withSt_eq hl
      have := build_sound hT h (evParts_sound (ht.sub (by simp [Op.operands])) hp) hl2
      refine .ofV ?_
      have he : (parts.map fun (i, x) => (i, act.eval x)) = (parts.toList.map fun (i, x) => (i, act.eval x)).toArray := by apply Array.ext'; simp
      rw [he]
      exact this
    · cases hl
  · rename_i t n parts
    unfold oBuildSlice at hl
    split at hl
    · rename_i l hp
      have := buildSlice_sound hT h (evParts_sound (ht.sub (by simp [Op.operands])) hp) hl
      refine .ofV ?_
      have he : (parts.map fun (i, x) => (i, act.eval x)) = (parts.toList.map fun (i, x) => (i, act.eval x)).toArray := by apply Array.ext'; simp
      rw [he]
      exact this
    · cases hl
  · obtain ⟨x, hx, hl⟩ := ev1_eq hl
    obtain ⟨hl2, rfl⟩ := withSt_eq hl
    exact .ofV (load_sound hT h (ht _ (by simp [Op.operands]) _ hx) hl2)
  · obtain ⟨x, hx, hl⟩ := ev1_eq hl
    obtain ⟨y, hy, hl⟩ := ev1_eq hl
    obtain ⟨hl2, rfl⟩ := withUndef_eq hl
    exact .ofU (store_sound hT h (ht _ (by simp [Op.operands]) _ hx) (ht _ (by simp [Op.operands]) _ hy) hl2)
  · rename_i x0
    obtain ⟨x, hx, hl⟩ := ev1_eq hl
    have hvx := ht _ (by simp [Op.operands]) _ hx
    generalize act.eval x0 = x' at hvx
    unfold oNilCheck at hl
    split at hl
    · cases hl; cases hvx with
      | ptr hρ => exact ⟨_, w, ρ, _, rfl, .refl h, .ptr hρ, .inl rfl⟩
    · cases hl; cases hvx with
      | fn h1 h2 => exact ⟨_, w, ρ, _, rfl, .refl h, .fn h1 h2, .inl rfl⟩
    · cases hl; cases hvx with
      | yield h1 => exact ⟨_, w, ρ, _, rfl, .refl h, .yield h1, .inl rfl⟩
    · cases hl
  · obtain ⟨x, hx, hl⟩ := ev1_eq hl
    obtain ⟨y, hy, hl⟩ := ev1_eq hl
    obtain ⟨hl2, rfl⟩ := withSt_eq hl
    exact .ofV (bin_sound hT hE h (ht _ (by simp [Op.operands]) _ hx) (ht _ (by simp [Op.operands]) _ hy) hl2 _ _)
  · obtain ⟨x, hx, hl⟩ := ev1_eq hl
    obtain ⟨hl2, rfl⟩ := withSt_eq hl
    exact .ofV (un_sound h (ht _ (by simp [Op.operands]) _ hx) hl2)
  · obtain ⟨x, hx, hl⟩ := ev1_eq hl
    exact .ofV (convert_sound hT h (ht _ (by simp [Op.operands]) _ hx) hl)
  · unfold oMakeFunc at hl
    split at hl
    · split at hl
      · rename_i a ha
        split at hl
        · rename_i b hb
          cases hl
          exact ⟨_, w, ρ, _, rfl, .refl h, .fn (evs_arr (ht.sub (by simp [Op.operands]; intro x hx; simp [hx])) ha) (evs_arr (ht.sub (by simp [Op.operands]; intro x hx; simp [hx])) hb), .inl rfl⟩
        · cases hl
      · cases hl
    · cases hl
  · rename_i t r
    unfold oMakeMap at hl
    split at hl
    · refine .ofV ?_
      exact newMap_sound h hl
    · rename_i r
      split at hl
      · rename_i i hi
        split at hl
        · rename_i kt vt hd
          obtain ⟨x, hx, hl⟩ := ev1_eq hl
          have hvx := ht _ (by simp [Op.operands]) _ hx
          split at hl
          · have hu := run_under (P := P) hT hi w
            rw [hd] at hu
            obtain ⟨y, w', hr, hy⟩ := newMap_sound (P := P) h hl
            refine .ofV ⟨y, w', ?_, hy⟩
            have hvi : ∀ k n x', VR ρ (.int k n) x' → x' = .int k n := fun k n x' hh => by cases hh; rfl
            have hvx := hvi _ _ _ hvx
            simp only [Instr.makeMap, Option.map_some, Sem.run_bind, hu, Result.andThen_ok, asInt, asIntOf, Sem.run_pure, hvx]
            simp only [Sem.run_bind, Sem.run_pure] at hr
            exact hr
          · cases hl
        · cases hl
      · cases hl
  · obtain ⟨x, hx, hl⟩ := ev1_eq hl
    obtain ⟨y, hy, hl⟩ := ev1_eq hl
    exact .ofV (makeSlice_sound hT h (ht _ (by simp [Op.operands]) _ hx) (ht _ (by simp [Op.operands]) _ hy) hl)
  · unfold oSlice at hl
    split at hl
    · obtain ⟨x, hx, hl⟩ := ev1_eq hl
      split at hl
      · rename_i lo hlo
        split at hl
        · rename_i hi hhi
          obtain ⟨hl2, rfl⟩ := withSt_eq hl
          exact .ofV (slice_sound hT h (ht _ (by simp [Op.operands]) _ hx) (optEv_sound (ht.sub (by simp [Op.operands]; intro x hx; simp [hx])) hlo) (optEv_sound (ht.sub (by simp [Op.operands]; intro x hx; simp [hx])) hhi) hl2)
        · cases hl
      · cases hl
    · obtain ⟨x, hx, hl⟩ := ev1_eq hl
      obtain ⟨mx, hmx, hl⟩ := ev1_eq hl
      split at hl
      · rename_i lo hlo
        split at hl
        · rename_i hi hhi
          obtain ⟨hl2, rfl⟩ := withSt_eq hl
          cases hi with
          | none => simp only [aSlice3] at hl2; repeat' split at hl2
                    all_goals first | (cases hl2; done) | skip
          | some hi =>
          obtain ⟨y, hy, hv⟩ := optEv_some (ht.sub (by simp [Op.operands]; intro x hx; simp [hx])) hhi
          subst hy
          exact .ofV (slice3_sound hT h (ht _ (by simp [Op.operands]) _ hx) (optEv_sound (ht.sub (by simp [Op.operands]; intro x hx; simp [hx])) hlo) hv (ht _ (by simp [Op.operands]) _ hmx) hl2)
        · cases hl
      · cases hl
  · obtain ⟨x, hx, hl⟩ := ev1_eq hl
    obtain ⟨hl2, rfl⟩ := withSt_eq hl
    exact .ofV (fieldAddr_sound hT h (ht _ (by simp [Op.operands]) _ hx) hl2)
  · obtain ⟨x, hx, hl⟩ := ev1_eq hl
    obtain ⟨hl2, rfl⟩ := withSt_eq hl
    exact .ofV (field_sound hT h (ht _ (by simp [Op.operands]) _ hx) hl2)
  · obtain ⟨x, hx, hl⟩ := ev1_eq hl
    obtain ⟨y, hy, hl⟩ := ev1_eq hl
    obtain ⟨hl2, rfl⟩ := withSt_eq hl
    exact .ofV (indexAddr_sound hT h (ht _ (by simp [Op.operands]) _ hx) (ht _ (by simp [Op.operands]) _ hy) hl2)
  · obtain ⟨x, hx, hl⟩ := ev1_eq hl
    obtain ⟨y, hy, hl⟩ := ev1_eq hl
    obtain ⟨hl2, rfl⟩ := withSt_eq hl
    exact .ofV (index_sound hT h (ht _ (by simp [Op.operands]) _ hx) (ht _ (by simp [Op.operands]) _ hy) hl2)
  · obtain ⟨x, hx, hl⟩ := ev1_eq hl
    obtain ⟨y, hy, hl⟩ := ev1_eq hl
    obtain ⟨hl2, rfl⟩ := withSt_eq hl
    exact .ofV (lookup_sound hT h (ht _ (by simp [Op.operands]) _ hx) (ht _ (by simp [Op.operands]) _ hy) hl2)
  · unfold oUpdate at hl
    obtain ⟨x, hx, hl⟩ := ev1_eq hl
    obtain ⟨y, hy, hl⟩ := ev1_eq hl
    obtain ⟨z, hz, hl⟩ := ev1_eq hl
    obtain ⟨hl2, rfl⟩ := withUndef_eq hl
    exact .ofU (mapUpdate_sound hT h (ht _ (by simp [Op.operands]) _ hx) (ht _ (by simp [Op.operands]) _ hy) (ht _ (by simp [Op.operands]) _ hz) hl2)
  · unfold oUpdate at hl
    obtain ⟨x, hx, hl⟩ := ev1_eq hl
    obtain ⟨y, hy, hl⟩ := ev1_eq hl
    obtain ⟨z, hz, hl⟩ := ev1_eq hl
    obtain ⟨hl2, rfl⟩ := withUndef_eq hl
    exact .ofU (mapUpdate_sound hT h (ht _ (by simp [Op.operands]) _ hx) (ht _ (by simp [Op.operands]) _ hy) (ht _ (by simp [Op.operands]) _ hz) hl2)
  · rename_i x0 i
    obtain ⟨x, hx, hl⟩ := ev1_eq hl
    have hvx := ht _ (by simp [Op.operands]) _ hx
    unfold oExtract at hl
    split at hl
    · rename_i vs
      rw [ldrop_eq] at hl
      split at hl
      · rename_i v' r hd
        cases hl
        generalize act.eval x0 = x' at hvx
        cases hvx with
        | tuple hvs =>
        have hv : vs[i]? = some v := by
          have : (vs.drop i)[0]? = some v := by rw [hd]; rfl
          simpa [List.getElem?_drop] using this
        obtain ⟨y, hy, hr⟩ := hvs.get hv
        refine .ofV (.pure h (x := y) ?_ hr)
        rw [Array.getElem?_toList] at hy
        simp [Instr.extract, hy]
      · cases hl
    · cases hl
  · rename_i c
    unfold oBuiltin at hl
    split at hl
    · rename_i b hb
      split at hl
      · rename_i l hargs
        obtain ⟨nx, w', ρ', x, hr, hst, hv, hnx⟩ := builtin_sound (P := P) hT h (b := b) (argTypes := c.argTypes) (ty := o.type) (cs := c.args.map fun | .const _ => true | _ => false) (evs_arr (ht.sub (by simp [Op.operands, Call.operands]; intro x hx; simp [hx])) hargs) hl
        refine ⟨nx, w', ρ', x, ?_, hst, hv, hnx⟩
        simp only [resolve, hb, Sem.run_bind, Sem.run_pure, Result.andThen_ok, invoke]
        exact hr
      · cases hl
    · cases hl
end ops
end Go.Abs
