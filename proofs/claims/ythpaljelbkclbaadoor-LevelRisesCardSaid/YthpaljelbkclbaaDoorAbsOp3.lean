/-
  THE ABSTRACT MACHINE IS RIGHT, 4: operators and conversions.
-/
import Derived.Test.YthpaljelbkclbaaDoorAbsOp2
import Derived.Test.YthpaljelbkclbaaDoorAbsNum
import Derived.Laws.StructEq
namespace Go.Abs
open Go

/-- The struct types that may be compared: plain fields, one behind the other; none that the model stands in for. -/
def EqOK (P : Program) (T : TT) (t : TypeId) : Prop :=
  P.stoodInHeld t = false ∧ P.eqGuardType P.depth t = false ∧ ∃ i fs, T t = some i ∧ i.desc = .struct fs ∧ plainFields T fs.toList 0 = true

theorem ltag_mem (l : List TypeId) (t : TypeId) (h : ltag l t = true) : t ∈ l := by
  induction l with
  | nil => cases h
  | cons x l ih =>
    have e : ltag (x :: l) t = boolC (ltag l t) true (Nat.beq x t) := rfl
    rw [e, nbeq] at h
    by_cases hx : x = t
    · subst hx; simp
    · simp only [hx, decide_false, boolC_false] at h
      exact List.mem_cons_of_mem _ (ih h)

section ops
variable {P : Program} {T : TT} (hT : TRel P T) {ρ : Pl} {σ : St} {w : World}

theorem GetsV.pure (h : Rep ρ σ w) {s : Sem Value} {v : AV} {x : Value} (hr : s.run P w = .ok x w) (hv : VR ρ v x) : GetsV P ρ σ w s v σ := ⟨x, w, hr, ρ, .refl h, hv⟩

theorem int_sound {op : BinOp} {k : IntKind} {a b : Int} {v : AV} {t : TypeId} (hs : isShift op = false) (hl : aInt op k a b = some v) :
    ∃ x, (binOp op t (.int k a) (.int k b)).run P w = .ok x w ∧ VR ρ v x := by
  unfold aInt at hl
  split at hl
  · cases hl; exact ⟨_, by simp [binOp, Op.intArith]; rfl, by rw [wrapA_eq]; exact .int _ _⟩
  · cases hl; exact ⟨_, by simp [binOp, Op.intArith]; rfl, by rw [wrapA_eq]; exact .int _ _⟩
  · cases hl; exact ⟨_, by simp [binOp, Op.intArith]; rfl, by rw [wrapA_eq]; exact .int _ _⟩
  · rw [boolC_none', eqI_eq, decide_eq_false_iff_not] at hl
    obtain ⟨hb, hl⟩ := hl
    cases hl; exact ⟨_, by simp [binOp, Op.intDiv, hb]; rfl, by rw [wrapA_eq]; exact .int _ _⟩
  · rw [boolC_none', eqI_eq, decide_eq_false_iff_not] at hl
    obtain ⟨hb, hl⟩ := hl
    cases hl; exact ⟨.int k (a.tmod b), by simp [binOp, Op.intDiv, hb], .int _ _⟩
  · cases hl; exact ⟨_, by simp [binOp, Op.intBits]; rfl, by rw [wrapA_eq, natOf_eq, natOf_eq]; exact .int _ _⟩
  · cases hl; exact ⟨_, by simp [binOp, Op.intBits]; rfl, by rw [wrapA_eq, natOf_eq, natOf_eq]; exact .int _ _⟩
  · cases hl; exact ⟨_, by simp [binOp, Op.intBits]; rfl, by rw [wrapA_eq, natOf_eq, natOf_eq]; exact .int _ _⟩
  · cases hl
    refine ⟨.int k (k.wrap ((BitVec.ofInt k.bits a &&& ~~~(BitVec.ofInt k.bits b)).toNat : Nat)), by simp [binOp, Op.intBits], ?_⟩
    rw [wrapA_eq, natOf_eq, natOf_eq, modA_eq]
    have : (BitVec.ofInt k.bits a &&& ~~~(BitVec.ofInt k.bits b)).toNat = Nat.land (BitVec.ofInt k.bits a).toNat (Nat.xor (BitVec.ofInt k.bits b).toNat (2 ^ k.bits - 1)) := by
      rw [BitVec.toNat_and, BitVec.not_def, BitVec.toNat_xor, BitVec.toNat_allOnes, Nat.xor_comm]
      rfl
    rw [this]; exact .int _ _
  · cases hl; exact ⟨_, by simp [binOp, Op.intCmp]; rfl, by rw [eqI_eq]; exact .bool _⟩
  · cases hl; exact ⟨.bool (a != b), by simp [binOp, Op.intCmp], by rw [not_eq, eqI_eq]; exact .bool _⟩
  · cases hl
    refine ⟨.bool (decide (a < b)), by simp [binOp, Op.intCmp], ?_⟩
    rw [not_eq, leI_eq, show (!decide (b ≤ a)) = decide (a < b) from by rw [Bool.eq_iff_iff]; simp]
    exact .bool _
  · cases hl; exact ⟨.bool (decide (a ≤ b)), by simp [binOp, Op.intCmp], by rw [leI_eq]; exact .bool _⟩
  · cases hl
    refine ⟨.bool (decide (a > b)), by simp [binOp, Op.intCmp], ?_⟩
    rw [not_eq, leI_eq, show (!decide (a ≤ b)) = decide (a > b) from by rw [Bool.eq_iff_iff]; simp]
    exact .bool _
  · cases hl; exact ⟨.bool (decide (a ≥ b)), by simp [binOp, Op.intCmp], by rw [leI_eq]; exact .bool _⟩
  · cases hl

theorem str_sound {op : BinOp} {a b : List UInt8} {v : AV} {t : TypeId} (hl : aStr op a b = some v) :
    ∃ x, (binOp op t (.string ⟨⟨a⟩⟩) (.string ⟨⟨b⟩⟩)).run P w = .ok x w ∧ VR ρ v x := by
  unfold aStr at hl
  have eq1 : (a == b) = decide (a = b) := by rw [Bool.eq_iff_iff]; simp
  split at hl
  · rw [boolC_none, nble, decide_eq_true_eq, llen_eq, llen_eq] at hl
    obtain ⟨hle, hl⟩ := hl
    cases hl
    refine ⟨.string ⟨⟨a ++ b⟩⟩, ?_, by rw [lapp_eq]; exact .str _⟩
    simp only [binOp, Op.stringOp, Sem.run_ite, bytes_size]
    rw [if_neg (by simp only [IntKind.max, IntKind.signed, IntKind.bits, if_true]; omega), Sem.run_pure, bytes_append]
  · cases hl; exact ⟨.bool (a == b), by simp [binOp, Op.stringOp], by rw [eqB_eq, eq1]; exact .bool _⟩
  · cases hl; exact ⟨.bool (!(a == b)), by simp [binOp, Op.stringOp], by rw [not_eq, eqB_eq, eq1]; exact .bool _⟩
  · cases hl; exact ⟨.bool (Op.bytesLess a b), by simp [binOp, Op.stringOp], by rw [lessB_eq]; exact .bool _⟩
  · cases hl; exact ⟨.bool (Op.bytesLess a b || a == b), by simp [binOp, Op.stringOp], by
      rw [lessB_eq, eqB_eq, eq1, boolC_eq]; cases Op.bytesLess a b <;> exact .bool _⟩
  · cases hl; exact ⟨.bool (!(Op.bytesLess a b || a == b)), by simp [binOp, Op.stringOp], by
      rw [not_eq, lessB_eq, eqB_eq, eq1, boolC_eq]; cases Op.bytesLess a b <;> exact .bool _⟩
  · cases hl; exact ⟨.bool (!(Op.bytesLess a b)), by simp [binOp, Op.stringOp], by rw [not_eq, lessB_eq]; exact .bool _⟩
  · cases hl

include hT in
theorem plain_one {t : TypeId} (h : plainT T t = true) : ∃ i, T t = some i ∧ i.agg = false ∧ (i.desc = .bool ∨ (∃ k, i.desc = .int k) ∨ i.desc = .string) := by
  unfold plainT at h
  split at h
  · rename_i i hi
    have ha := (hT t i hi).2.1
    split at h
    · rename_i hd; exact ⟨i, hi, by rw [ha, hd]; rfl, .inl hd⟩
    · rename_i k hd; exact ⟨i, hi, by rw [ha, hd]; rfl, .inr (.inl ⟨k, hd⟩)⟩
    · rename_i hd; exact ⟨i, hi, by rw [ha, hd]; rfl, .inr (.inr hd)⟩
    · cases h
  · cases h

theorem eqOne_eq {x y : AV} {b : Bool} (h : eqOne x y = some b) : (∃ p q, x = .bool p ∧ y = .bool q ∧ b = decide (p = q)) ∨ (∃ k p q, x = .int k p ∧ y = .int k q ∧ b = decide (p = q)) ∨
    (∃ p q, x = .str p ∧ y = .str q ∧ b = decide (p = q)) := by
  unfold eqOne at h
  split at h
  · split at h
    · cases h; exact .inl ⟨_, _, rfl, rfl, by rw [eqBool_eq]⟩
    · cases h
  · split at h
    · rw [boolC_none, eqKind_eq, decide_eq_true_eq] at h
      obtain ⟨rfl, h⟩ := h
      cases h; exact .inr (.inl ⟨_, _, _, rfl, rfl, by rw [eqI_eq]⟩)
    · cases h
  · split at h
    · cases h; exact .inr (.inr ⟨_, _, rfl, rfl, by rw [eqB_eq]⟩)
    · cases h
  · cases h

theorem keyFits_eq {d : TypeDesc} {x : AV} (h : keyFits d x = true) : ((∃ p, x = .bool p) → d = .bool) ∧ ((∃ k p, x = .int k p) → ∃ k, d = .int k) ∧ ((∃ p, x = .str p) → d = .string) := by
  unfold keyFits at h
  split at h
  · split at h
    · exact ⟨fun ⟨_, e⟩ => (by cases e), fun _ => ⟨_, rfl⟩, fun ⟨_, e⟩ => (by cases e)⟩
    · cases h
  · split at h
    · exact ⟨fun ⟨_, e⟩ => (by cases e), fun ⟨_, _, e⟩ => (by cases e), fun _ => rfl⟩
    · cases h
  · split at h
    · exact ⟨fun _ => rfl, fun ⟨_, _, e⟩ => (by cases e), fun ⟨_, e⟩ => (by cases e)⟩
    · cases h
  · cases h

include hT in
/-- Two cells of a plain type. -/
theorem eqOne_sound {t : TypeId} {i : TyI} (hi : T t = some i) {x y : AV} {x' y' : Value} {b : Bool} (hx : VR ρ x x') (hy : VR ρ y y') (h : eqOne x y = some b) (hf : keyFits i.desc x = true) (d : Nat) :
    (Op.equalIn (d + 1) t x' y').run P w = .ok b w := by
  obtain ⟨h1, h2, h3⟩ := keyFits_eq hf
  have hu := (hT t i hi).1
  rcases eqOne_eq h with ⟨p, q, rfl, rfl, rfl⟩ | ⟨k, p, q, rfl, rfl, rfl⟩ | ⟨p, q, rfl, rfl, rfl⟩
  · cases hx; cases hy
    rw [run_equalIn_bool w d t p q (by rw [hu, h1 ⟨_, rfl⟩])]
    congr 1
  · cases hx; cases hy
    obtain ⟨k', hk⟩ := h2 ⟨_, _, rfl⟩
    rw [run_equalIn_int w d t k k' p q (by rw [hu, hk])]
    congr 1
  · cases hx; cases hy
    rw [run_equalIn_string w d t _ _ (by rw [hu, h3 ⟨_, rfl⟩]), bytes_toList, bytes_toList]
    congr 1; rw [Bool.eq_iff_iff]; simp

theorem eqFieldsA_nil (xs ys : List AV) : eqFieldsA T [] xs ys = boolC none (some true) (isNil xs && isNil ys) := rfl
theorem eqFieldsA_cons (f : Field) (fs : List Field) (xs ys : List AV) : eqFieldsA T (f :: fs) xs ys = match xs with
    | [] => none
    | x :: xs => match ys with
      | [] => none
      | y :: ys => match T f.type with
        | some i => boolC none (match eqOne x y with
          | some b => boolC (some false) (eqFieldsA T fs xs ys) b
          | none => none) (keyFits i.desc x)
        | none => none := by
  cases xs <;> first | rfl | (cases ys <;> rfl)

theorem plainFields_cons (f : Field) (fs : List Field) (n : Nat) : plainFields T (f :: fs) n = (plainT T f.type && Nat.beq f.offset n && f.name != "_" && plainFields T fs (n + 1)) := rfl

include hT in
theorem eqFields_sound (d : Nat) {xs' ys' : Array Value} : ∀ (fs : List Field) (n : Nat) (xs ys : List AV) (b : Bool), plainFields T fs n = true → VRs ρ xs (xs'.toList.drop n) → VRs ρ ys (ys'.toList.drop n) →
    eqFieldsA T fs xs ys = some b → (Op.eqFields (d + 1) xs' ys' fs).run P w = .ok b w
  | [], n, xs, ys, b, _, _, _, h => by
    rw [eqFieldsA_nil, boolC_none] at h
    obtain ⟨_, h⟩ := h
    cases h; rfl
  | f :: fs, n, xs, ys, b, hp, hx, hy, h => by
    rw [plainFields_cons] at hp
    simp only [Bool.and_eq_true, nbeq, decide_eq_true_eq] at hp
    obtain ⟨⟨⟨hpt, ho⟩, hnm⟩, hps⟩ := hp
    obtain ⟨i, hi, hag, _⟩ := plain_one hT hpt
    rw [eqFieldsA_cons] at h
    cases xs with
    | nil => cases h
    | cons x xs => cases ys with
      | nil => cases h
      | cons y ys =>
        simp only [hi] at h
        rw [boolC_none] at h
        obtain ⟨hk, h⟩ := h
        split at h
        · rename_i r hr
          have get : ∀ {l : List AV} {v : AV} {zs : Array Value}, VRs ρ (v :: l) (zs.toList.drop n) → ∃ z, (part f.type zs f.offset).run P w = .ok z w ∧ VR ρ v z ∧ VRs ρ l (zs.toList.drop (n + 1)) := by
            intro l v zs hz
            cases hzs : zs.toList.drop n with
            | nil => rw [hzs] at hz; cases hz
            | cons z r =>
              rw [hzs] at hz
              cases hz with
              | cons hz1 hz2 =>
              have hzn : zs.toList[n]? = some z := by
                have : (zs.toList.drop n)[0]? = some z := by rw [hzs]; rfl
                simpa [List.getElem?_drop] using this
              have hr : zs.toList.drop (n + 1) = r := by
                have : (zs.toList.drop n).drop 1 = r := by rw [hzs]; rfl
                rw [List.drop_drop] at this; exact this
              have ha := run_agg hT hi w
              refine ⟨z, ?_, hz1, by rw [hr]; exact hz2⟩
              unfold part
              rw [Sem.run_bind, ha, hag, ho]
              have : zs[n]? = some z := by simpa using hzn
              simp [this]
          obtain ⟨x', hx', hxr, hxs⟩ := get hx
          obtain ⟨y', hy', hyr, hys⟩ := get hy
          have he := eqOne_sound (w := w) hT hi hxr hyr hr hk d
          have hnm' : f.name ≠ "_" := by simpa using hnm
          simp only [Op.eqFields, hnm', ne_eq, not_false_eq_true, if_true, Sem.run_bind, hx', Result.andThen_ok, hy', he]
          cases r with
          | false => rw [boolC_false] at h; cases h; rfl
          | true =>
            rw [boolC_true] at h
            exact eqFields_sound d fs (n + 1) xs ys b hps hxs hys h
        · cases h

include hT in
theorem eq_sound {E : List TypeId} (hE : ∀ t ∈ E, EqOK P T t) {t : TypeId} {x y : AV} {x' y' : Value} {b : Bool} (hx : VR ρ x x') (hy : VR ρ y y') (h : aEq T E t x y = some b) :
    (Op.equal t x' y').run P w = .ok b w ∧ ∀ op a c, (eqGuard op t a c x' y').run P w = .ok () w := by
  unfold aEq at h
  have noAgg : ∀ {x' y' : Value}, (∀ cs, x' ≠ .agg cs) → x' ≠ .nilIface → ∀ op a c, (eqGuard op t a c x' y').run P w = .ok () w := by
    intro x' y' h1 h2 op a c
    cases x' <;> first | exact absurd rfl (h1 _) | exact absurd rfl h2 | (cases op <;> simp [eqGuard])
  have top : ∀ {b : Bool} {x' y' : Value}, (∀ d, (Op.equalIn (d + 1) t x' y').run P w = .ok b w) → (Op.equal t x' y').run P w = .ok b w := fun h => h 9999
  split at h
  · rename_i i hi
    have hu := (hT t i hi).1
    split at h
    · rename_i hd
      split at h
      · cases h; cases hx; cases hy
        refine ⟨?_, noAgg (by simp) (by simp)⟩
        rw [Op.equal, Op.maxDepth, run_equalIn_bool w 9999 t _ _ (by rw [hu, hd]), eqBool_eq]
        congr 1
      · cases h
    · rename_i e hd
      split at h <;> cases h <;> cases hx <;> cases hy <;> exact ⟨top (fun d => by simp [Op.equalIn, run_underlying hu, hd]), noAgg (by simp) (by simp)⟩
    · rename_i e hd
      split at h <;> cases h <;> cases hx <;> cases hy <;> exact ⟨top (fun d => by simp [Op.equalIn, run_underlying hu, hd]), noAgg (by simp) (by simp)⟩
    · rename_i e hd
      split at h <;> cases h <;> cases hx <;> cases hy <;> exact ⟨top (fun d => by simp [Op.equalIn, run_underlying hu, hd]), noAgg (by simp) (by simp)⟩
    · rename_i e hd
      split at h <;> cases h <;> cases hx <;> cases hy <;> exact ⟨top (fun d => by simp [Op.equalIn, run_underlying hu, hd]), noAgg (by simp) (by simp)⟩
    · rename_i fs hd
      split at h
      · rw [boolC_none] at h
        obtain ⟨hm, h⟩ := h
        obtain ⟨hp, hg, i', fs', hi', hd', hpf⟩ := hE t (ltag_mem _ _ hm)
        rw [hi] at hi'
        cases hi'
        rw [hd] at hd'
        cases hd'
        cases hx with
        | agg hx hx1 =>
        cases hy with
        | agg hy hy1 =>
        have hfs : P.fieldsOf t = fs := by unfold Program.fieldsOf; rw [hu, hd]
        refine ⟨?_, fun op a c => run_eqGuard_agg w op t a c _ _ hg⟩
        rw [Op.equal, Op.maxDepth, run_equalIn_struct w 9999 t _ _ (by rw [hfs, hu, hd]) hp, hfs]
        exact eqFields_sound hT 9998 fs.toList 0 _ _ b hpf (by simpa using hx) (by simpa using hy) h
      · cases h
    · cases h
  · cases h

include hT in
theorem bin2_sound {E : List TypeId} (hE : ∀ t ∈ E, EqOK P T t) (h : Rep ρ σ w) {op : BinOp} {t : TypeId} {x y v : AV} {x' y' : Value} (hx : VR ρ x x') (hy : VR ρ y y') (hl : aBin2 T E op t x y = some v)
    (nb : ∀ op', (op' = .eql ∨ op' = .neq) → binOp op' t x' y' = (match op' with
        | .eql => do pure (.bool (← Op.equal t x' y'))
        | _ => do pure (.bool (!(← Op.equal t x' y'))))) (a c : Operand) :
    GetsV P ρ σ w (do eqGuard op t a c x' y'; binOp op t x' y') v σ := by
  unfold aBin2 at hl
  split at hl
  · split at hl
    · rename_i b hb
      cases hl
      obtain ⟨he, hg⟩ := eq_sound (w := w) hT hE hx hy hb
      refine .pure h (x := .bool b) ?_ (.bool _)
      rw [Sem.run_bind, hg, nb .eql (.inl rfl)]
      simp [he]
    · cases hl
  · split at hl
    · rename_i b hb
      cases hl
      obtain ⟨he, hg⟩ := eq_sound (w := w) hT hE hx hy hb
      refine .pure h (x := .bool (!b)) ?_ (by rw [not_eq]; exact .bool _)
      rw [Sem.run_bind, hg, nb .neq (.inr rfl)]
      simp [he]
    · cases hl
  · cases hl

include hT in
theorem bin_sound {E : List TypeId} (hE : ∀ t ∈ E, EqOK P T t) (h : Rep ρ σ w) {op : BinOp} {t : TypeId} {x y v : AV} {x' y' : Value} (hx : VR ρ x x') (hy : VR ρ y y') (hl : aBin T E op t x y = some v) (a c : Operand) :
    GetsV P ρ σ w (do eqGuard op t a c x' y'; binOp op t x' y') v σ := by
  cases hx with
  | int k m =>
    cases hy with
    | int k' m' =>
      replace hl : boolC (boolC none (aInt op k m m') (eqKind k k')) (aShift op k m m') (isShift op) = some v := hl
      have hg : (eqGuard op t a c (.int k m) (.int k' m')).run P w = .ok () w := by cases op <;> simp [eqGuard]
      cases hs : isShift op
      · rw [hs, boolC_false, boolC_none, eqKind_eq, decide_eq_true_eq] at hl
        obtain ⟨rfl, hl⟩ := hl
        obtain ⟨r, hr, hv⟩ := int_sound (P := P) (ρ := ρ) (w := w) (t := t) hs hl
        exact .pure h (by rw [Sem.run_bind, hg]; exact hr) hv
      · rw [hs, boolC_true] at hl
        obtain ⟨r, rfl, hr⟩ := aShift_eq hl
        refine .pure h (x := .int k r) ?_ (.int _ _)
        rw [Sem.run_bind, hg]
        cases op <;> first | (cases hs; done) | exact hr k' _ _
    | _ => cases hl
  | str s =>
    cases hy with
    | str s' =>
      have hl : aStr op s s' = some v := hl
      have hg : (eqGuard op t a c (.string ⟨⟨s⟩⟩) (.string ⟨⟨s'⟩⟩)).run P w = .ok () w := by cases op <;> simp [eqGuard]
      obtain ⟨r, hr, hv⟩ := str_sound (P := P) (ρ := ρ) (w := w) (t := t) hl
      exact .pure h (by rw [Sem.run_bind, hg]; exact hr) hv
    | _ => cases hl
  | bool b => exact bin2_sound hT hE h (.bool b) hy hl (fun op' ho => by rcases ho with rfl | rfl <;> (cases hy <;> rfl)) a c
  | nilPtr => exact bin2_sound hT hE h .nilPtr hy hl (fun op' ho => by rcases ho with rfl | rfl <;> (cases hy <;> rfl)) a c
  | ptr q => exact bin2_sound hT hE h (.ptr q) hy hl (fun op' ho => by rcases ho with rfl | rfl <;> (cases hy <;> rfl)) a c
  | nilSlice => exact bin2_sound hT hE h .nilSlice hy hl (fun op' ho => by rcases ho with rfl | rfl <;> (cases hy <;> rfl)) a c
  | slice q q1 q2 q3 => exact bin2_sound hT hE h (.slice q q1 q2 q3) hy hl (fun op' ho => by rcases ho with rfl | rfl <;> (cases hy <;> rfl)) a c
  | sliceE q => exact bin2_sound hT hE h (.sliceE q) hy hl (fun op' ho => by rcases ho with rfl | rfl <;> (cases hy <;> rfl)) a c
  | nilMap => exact bin2_sound hT hE h .nilMap hy hl (fun op' ho => by rcases ho with rfl | rfl <;> (cases hy <;> rfl)) a c
  | map q => exact bin2_sound hT hE h (.map q) hy hl (fun op' ho => by rcases ho with rfl | rfl <;> (cases hy <;> rfl)) a c
  | nilFunc => exact bin2_sound hT hE h .nilFunc hy hl (fun op' ho => by rcases ho with rfl | rfl <;> (cases hy <;> rfl)) a c
  | fn q q' => exact bin2_sound hT hE h (.fn q q') hy hl (fun op' ho => by rcases ho with rfl | rfl <;> (cases hy <;> rfl)) a c
  | yield q => exact bin2_sound hT hE h (.yield q) hy hl (fun op' ho => by rcases ho with rfl | rfl <;> (cases hy <;> rfl)) a c
  | nilIface => exact bin2_sound hT hE h .nilIface hy hl (fun op' ho => by rcases ho with rfl | rfl <;> (cases hy <;> rfl)) a c
  | agg q q1 => exact bin2_sound hT hE h (.agg q q1) hy hl (fun op' ho => by rcases ho with rfl | rfl <;> (cases hy <;> rfl)) a c
  | tuple q => exact bin2_sound hT hE h (.tuple q) hy hl (fun op' ho => by rcases ho with rfl | rfl <;> (cases hy <;> rfl)) a c

theorem un_sound (h : Rep ρ σ w) {op : UnOp} {x v : AV} {x' : Value} (hx : VR ρ x x') (hl : aUn op x = some v) : GetsV P ρ σ w (Op.unary op x') v σ := by
  cases hx with
  | int k n =>
    cases op with
    | neg =>
      have hl : some (AV.int k (wrapA k (0 - n))) = some v := hl
      cases hl
      exact .pure h (x := .int k (k.wrap (0 - n))) (by simp [Op.unary, Op.intArith]) (by rw [wrapA_eq]; exact .int _ _)
    | xor =>
      have hl : some (AV.int k (wrapA k (.ofNat (Nat.xor (natOf k n) (modA k - 1))))) = some v := hl
      cases hl
      refine .pure h (x := .int k (k.wrap ((BitVec.ofInt k.bits (if k.signed then -1 else k.max)) ^^^ (BitVec.ofInt k.bits n)).toNat)) (by simp only [Op.unary, Op.intBits, Sem.run_pure]) ?_
      rw [wrapA_eq, natOf_eq, modA_eq]
      have : (BitVec.ofInt k.bits (if k.signed then -1 else k.max)) = BitVec.allOnes k.bits := by cases k <;> rfl
      rw [this, BitVec.toNat_xor, BitVec.toNat_allOnes, Nat.xor_comm]
      exact .int _ _
    | not => cases hl
    | plus => cases hl
  | bool b =>
    cases op with
    | not =>
      have hl : some (AV.bool (boolC true false b)) = some v := hl
      cases hl
      exact .pure h (x := .bool (!b)) (by simp [Op.unary]) (by rw [not_eq]; exact .bool _)
    | neg => cases hl
    | xor => cases hl
    | plus => cases hl
  | _ => cases hl
end ops
end Go.Abs
