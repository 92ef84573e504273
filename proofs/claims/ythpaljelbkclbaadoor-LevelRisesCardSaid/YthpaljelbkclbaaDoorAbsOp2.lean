/-
  THE ABSTRACT MACHINE IS RIGHT, 2: indexes, slices, made slices, literals; numbers, strings, comparisons, conversions.
-/
import Derived.Test.YthpaljelbkclbaaDoorAbsOp1
import Derived.Laws.Strings
namespace Go.Abs
open Go

theorem bytes_get (l : List UInt8) (m : Nat) : (⟨⟨l⟩⟩ : ByteArray)[m]? = l[m]? := by
  by_cases h : m < l.length
  · rw [getElem?_pos (⟨⟨l⟩⟩ : ByteArray) m h, List.getElem?_eq_getElem h]; rfl
  · rw [getElem?_neg (⟨⟨l⟩⟩ : ByteArray) m h, List.getElem?_eq_none (by omega)]
theorem bytes_extract (l : List UInt8) (a b : Nat) : (⟨⟨l⟩⟩ : ByteArray).extract a b = ⟨⟨(l.drop a).take (b - a)⟩⟩ := by
  apply ByteArray.ext
  rw [ByteArray.data_extract]
  apply Array.ext'
  simp [List.extract_eq_take_drop]
theorem bytes_append (l m : List UInt8) : (⟨⟨l⟩⟩ : ByteArray) ++ ⟨⟨m⟩⟩ = ⟨⟨l ++ m⟩⟩ := by
  apply ByteArray.ext
  rw [ByteArray.data_append]
  apply Array.ext'
  simp
theorem bytes_size (l : List UInt8) : (⟨⟨l⟩⟩ : ByteArray).size = l.length := rfl
theorem bytes_toList (l : List UInt8) : (⟨⟨l⟩⟩ : ByteArray).toList = l := ByteArray.toList_eq _

theorem int_ofNat (m : Nat) : Int.ofNat m = (m : Int) := rfl

section ops
variable {P : Program} {T : TT} (hT : TRel P T) {ρ : Pl} {σ : St} {w : World}

include hT in
theorem index_sound (h : Rep ρ σ w) {t : TypeId} {p ix v : AV} {x y : Value} (hp : VR ρ p x) (hi : VR ρ ix y) (hl : aIndex T t p ix = some v) : GetsV P ρ σ w (Instr.index t x y) v σ := by
  unfold aIndex at hl
  split at hl
  · rename_i i hi'
    have hu := run_under hT hi' w
    split at hl
    · rename_i len elem hd
      split at hl
      · rename_i cs
        split at hl
        · rename_i e he
          split at hl
          · rename_i m hm
            obtain ⟨k, rfl, hlt⟩ := natBelow_eq hm
            cases hi
            cases hp with
            | agg hc h1 =>
            obtain ⟨z, hz, hr⟩ := part_sound (w := w) hT he hc h1 hl
            have hs := run_size hT he w
            refine ⟨z, w, ?_, ρ, .refl h, hr⟩
            simp [Instr.index, asIntOf, hu, hd, hs, hlt, hz]
          · cases hl
        · cases hl
      · cases hl
    · rename_i hd
      split at hl
      · rename_i s
        split at hl
        · rename_i k m
          rw [ldrop_eq] at hl
          split at hl
          · rename_i b l hb
            cases hl
            cases hi
            cases hp
            have hs : s[m]? = some b := by
              have : (s.drop m)[0]? = some b := by rw [hb]; rfl
              simpa [List.getElem?_drop] using this
            refine ⟨.int .u8 b.toNat, w, ?_, ρ, .refl h, .int _ _⟩
            simp [Instr.index, asIntOf, hu, hd, bytes_get, hs]
          · cases hl
        · cases hl
      · cases hl
    · cases hl
  · cases hl

/-! ### slices -/

/-- An optional bound, and what stands for it. -/
inductive OR (ρ : Pl) : Option AV → Option Value → Prop
  | none : OR ρ none none
  | some {v : AV} {x : Value} (h : VR ρ v x) : OR ρ (some v) (some x)

theorem bounds_sound {lo hi : Option AV} {lo' hi' : Option Value} (hlo : OR ρ lo lo') (hhi : OR ρ hi hi') {len cap cap' : Nat} (hc : cap ≤ cap') {l u : Nat} (isSlice : Bool)
    (hb : bounds2 lo hi len cap = some (l, u)) (w : World) :
    (Instr.sliceBounds isSlice len cap' lo' hi' none).run P w = .ok (l, u, cap') w ∧ l ≤ u ∧ (len ≤ cap → u ≤ cap) := by
  have key : ∀ {x : Option AV} {d y r : Nat}, aBound x d y = some r → (x = none ∧ r = d) ∨ ∃ k, x = some (.int k r) ∧ r ≤ y := by
    intro x d y r hx
    unfold aBound at hx
    split at hx
    · cases hx; exact .inl ⟨rfl, rfl⟩
    · rename_i k m
      rw [boolC_none, nble, decide_eq_true_eq] at hx
      obtain ⟨hle, hx⟩ := hx
      cases hx
      exact .inr ⟨k, rfl, hle⟩
    · cases hx
  unfold bounds2 at hb
  split at hb
  · rename_i u' hu
    split at hb
    · rename_i l' hl
      cases hb
      rcases key hu with ⟨rfl, rfl⟩ | ⟨k, rfl, hle⟩ <;> rcases key hl with ⟨rfl, rfl⟩ | ⟨k', rfl, hle'⟩
      · cases hlo; cases hhi
        exact ⟨by simp [Instr.sliceBounds], Nat.zero_le _, id⟩
      · cases hhi; cases hlo with
        | some hv =>
        cases hv
        exact ⟨by simp [Instr.sliceBounds, Instr.sliceBound, asIntOf, hle'], hle', id⟩
      · cases hlo; cases hhi with
        | some hv =>
        cases hv
        exact ⟨by simp [Instr.sliceBounds, Instr.sliceBound, asIntOf, show u ≤ cap' by omega], Nat.zero_le _, fun _ => hle⟩
      · cases hlo with
        | some hv =>
        cases hv
        cases hhi with
        | some hv =>
        cases hv
        exact ⟨by simp [Instr.sliceBounds, Instr.sliceBound, asIntOf, hle', show u ≤ cap' by omega], hle', fun _ => hle⟩
    · cases hb
  · cases hb

theorem bounds3_sound {lo : Option AV} {hi mx : AV} {lo' : Option Value} {hi' mx' : Value} (hlo : OR ρ lo lo') (hhi : VR ρ hi hi') (hmx : VR ρ mx mx') {len cap cap' : Nat} (hc : cap ≤ cap') {l u m : Nat}
    (hm : aBound (some mx) cap cap = some m) (hb : bounds2 lo (some hi) len m = some (l, u)) (w : World) :
    (Instr.sliceBounds true len cap' lo' (some hi') (some mx')).run P w = .ok (l, u, m) w ∧ l ≤ u ∧ u ≤ m ∧ m ≤ cap := by
  have key : ∀ {x : Option AV} {d y r : Nat}, aBound x d y = some r → (x = none ∧ r = d) ∨ ∃ k, x = some (.int k r) ∧ r ≤ y := by
    intro x d y r hx
    unfold aBound at hx
    split at hx
    · cases hx; exact .inl ⟨rfl, rfl⟩
    · rename_i k m
      rw [boolC_none, nble, decide_eq_true_eq] at hx
      obtain ⟨hle, hx⟩ := hx
      cases hx
      exact .inr ⟨k, rfl, hle⟩
    · cases hx
  obtain ⟨k, hk, hmc⟩ : ∃ k, mx = .int k m ∧ m ≤ cap := by
    rcases key hm with ⟨h, _⟩ | ⟨k, h, hle⟩
    · cases h
    · cases h; exact ⟨k, rfl, hle⟩
  subst hk
  cases hmx
  unfold bounds2 at hb
  split at hb
  · rename_i u' hu
    split at hb
    · rename_i l' hl
      cases hb
      obtain ⟨k2, hk2, hum⟩ : ∃ k, hi = .int k u ∧ u ≤ m := by
        rcases key hu with ⟨h, _⟩ | ⟨k, h, hle⟩
        · cases h
        · cases h; exact ⟨k, rfl, hle⟩
      subst hk2
      cases hhi
      rcases key hl with ⟨rfl, rfl⟩ | ⟨k', rfl, hle'⟩
      · cases hlo
        exact ⟨by simp [Instr.sliceBounds, Instr.sliceBound, asIntOf, show m ≤ cap' by omega, hum], Nat.zero_le _, hum, hmc⟩
      · cases hlo with
        | some hv =>
        cases hv
        exact ⟨by simp [Instr.sliceBounds, Instr.sliceBound, asIntOf, hle', show m ≤ cap' by omega, hum], hle', hum, hmc⟩
    · cases hb
  · cases hb

include hT in
theorem slice3_sound (h : Rep ρ σ w) {t : TypeId} {p v : AV} {x : Value} {lo : Option AV} {hi mx : AV} {lo' : Option Value} {hi' mx' : Value} (hp : VR ρ p x) (hlo : OR ρ lo lo') (hhi : VR ρ hi hi') (hmx : VR ρ mx mx')
    (hl : aSlice3 T t p lo (some hi) mx = some v) : GetsV P ρ σ w (Instr.sliceAt t x lo' (some hi') (some mx')) v σ := by
  unfold aSlice3 at hl
  split at hl
  case h_2 => cases hl
  rename_i i hi'
  have hu := run_under hT hi' w
  split at hl
  case h_2 => cases hl
  rename_i elem hd
  split at hl
  case h_2 => cases hl
  rename_i e he
  have hs := run_size hT he w
  split at hl
  case h_2 => cases hl
  rename_i id off len cap esz
  simp only at hl
  split at hl
  case h_2 => cases hl
  rename_i m hm
  split at hl
  case h_2 => cases hl
  rename_i l u hb
  rw [boolC_none, nbeq, decide_eq_true_eq] at hl
  obtain ⟨hesz, hl⟩ := hl
  cases hl
  cases hp with
  | slice hρ q1 q2 q3 =>
    rename_i b o sz cap'
    obtain ⟨hb, hlu, hum, hmc⟩ := bounds3_sound (P := P) hlo hhi hmx q2 hm hb w
    have hmul : o + (off + l * esz) + (m - l) * esz ≤ sz := by
      have h1 : l * esz + (m - l) * esz = m * esz := by rw [← Nat.add_mul]; congr 1; omega
      have h2 : m * esz ≤ cap' * esz := Nat.mul_le_mul_right _ (by omega)
      omega
    by_cases hml : m = l
    · have e1 : u - l = 0 := by omega
      have e3 : m - l = 0 := by omega
      rw [e1, e3]
      refine ⟨.slice (some ⟨b, o + off, none⟩) 0 0, w, ?_, ρ, .refl h, .sliceE _⟩
      simp [Instr.sliceAt, hu, hd, Instr.slice, hb, hs, if_pos hml, e1, e3]
    · refine ⟨.slice (some ⟨b, o + (off + l * esz), none⟩) (u - l) (m - l), w, ?_, ρ, .refl h, .slice hρ (by omega) (Nat.le_refl _) hmul⟩
      simp [Instr.sliceAt, hu, hd, Instr.slice, hb, hs, hml, add_eq, hesz, Nat.add_assoc]
  | sliceE a =>
    obtain ⟨hb, hlu, hum, hmc⟩ := bounds3_sound (P := P) hlo hhi hmx (Nat.le_refl 0) hm hb w
    obtain rfl : m = 0 := by omega
    obtain rfl : u = 0 := by omega
    obtain rfl : l = 0 := by omega
    refine ⟨.slice (some a) 0 0, w, ?_, ρ, .refl h, .sliceE _⟩
    simp [Instr.sliceAt, hu, hd, Instr.slice, hb, hs]

include hT in
theorem slice_sound (h : Rep ρ σ w) {t : TypeId} {p v : AV} {x : Value} {lo hi : Option AV} {lo' hi' : Option Value} (hp : VR ρ p x) (hlo : OR ρ lo lo') (hhi : OR ρ hi hi')
    (hl : aSlice T σ t p lo hi = some v) : GetsV P ρ σ w (Instr.sliceAt t x lo' hi' none) v σ := by
  unfold aSlice at hl
  split at hl
  · rename_i i hi'
    have hu := run_under hT hi' w
    split at hl
    · rename_i hd
      split at hl
      · rename_i s
        split at hl
        · rename_i l u hb
          rw [takeK_eq, ldrop_eq, llen_eq] at *
          split at hl
          · cases hl
            cases hp
            obtain ⟨hb, hlu, hu2⟩ := bounds_sound (P := P) hlo hhi (Nat.le_refl s.length) false hb w
            refine ⟨.string ((⟨⟨s⟩⟩ : ByteArray).extract l u), w, ?_, ρ, .refl h, ?_⟩
            · simp [Instr.sliceAt, hu, hd, Instr.slice, bytes_size, hb]
            · rw [bytes_extract]; exact .str _
          · cases hl
        · cases hl
      · cases hl
    · rename_i elem hd
      split at hl
      · rename_i e he
        have hs := run_size hT he w
        split at hl
        · split at hl
          · rename_i lu hb
            cases hl
            cases hp
            obtain ⟨l, u⟩ := lu
            obtain ⟨hb, hlu, hu2⟩ := bounds_sound (P := P) hlo hhi (Nat.le_refl 0) true hb w
            have := hu2 (Nat.le_refl 0)
            obtain rfl : u = 0 := by omega
            obtain rfl : l = 0 := by omega
            refine ⟨.slice none 0 0, w, ?_, ρ, .refl h, .nilSlice⟩
            simp [Instr.sliceAt, hu, hd, Instr.slice, hb, hs]
          · cases hl
        · rename_i id off len cap esz
          split at hl
          · rename_i l u hb
            rw [boolC_none, nbeq, decide_eq_true_eq] at hl
            obtain ⟨hesz, hl⟩ := hl
            cases hl
            cases hp with
            | slice hρ q1 q2 q3 =>
              rename_i b o sz cap'
              obtain ⟨hb, hlu, hu2⟩ := bounds_sound (P := P) hlo hhi q2 true hb w
              have hu3 := hu2 q1
              have hmul : o + (off + l * esz) + (cap' - l) * esz ≤ sz := by
                have : l * esz + (cap' - l) * esz = cap' * esz := by rw [← Nat.add_mul]; congr 1; omega
                omega
              by_cases hm : cap' = l
              · have e1 : u - l = 0 := by omega
                have e2 : cap - l = 0 := by omega
                have e3 : cap' - l = 0 := by omega
                rw [e1, e2]
                refine ⟨.slice (some ⟨b, o + off, none⟩) 0 0, w, ?_, ρ, .refl h, .sliceE _⟩
                simp [Instr.sliceAt, hu, hd, Instr.slice, hb, hs, if_pos hm, e1, e3]
              · refine ⟨.slice (some ⟨b, o + (off + l * esz), none⟩) (u - l) (cap' - l), w, ?_, ρ, .refl h, .slice hρ (by omega) (by omega) hmul⟩
                simp [Instr.sliceAt, hu, hd, Instr.slice, hb, hs, hm, add_eq, hesz, Nat.add_assoc]
            | sliceE a =>
              obtain ⟨hb, hlu, hu2⟩ := bounds_sound (P := P) hlo hhi (Nat.le_refl 0) true hb w
              have := hu2 (Nat.le_refl 0)
              obtain rfl : u = 0 := by omega
              obtain rfl : l = 0 := by omega
              refine ⟨.slice (some a) 0 0, w, ?_, ρ, .refl h, .sliceE _⟩
              simp [Instr.sliceAt, hu, hd, Instr.slice, hb, hs]
          · cases hl
        · cases hl
      · cases hl
    · rename_i m elem hd
      split at hl
      · rename_i e he
        have hs := run_size hT he w
        split at hl
        · rename_i id off
          split at hl
          · rename_i l u hb
            split at hl
            · rename_i vs hvs
              rw [boolC_none, nble, decide_eq_true_eq, llen_eq] at hl
              obtain ⟨hlen, hl⟩ := hl
              cases hl
              cases hp with
              | ptr hρ =>
              rename_i b o sz
              obtain ⟨fz, ro, hg⟩ := cellsOf_eq hvs
              obtain ⟨c, t', fr, hx, hsz, hle, _⟩ := h.obj _ _ _ _ _ hρ hg
              obtain ⟨hb, hlu, hu2⟩ := bounds_sound (P := P) hlo hhi (Nat.le_refl m) false hb w
              have hu3 := hu2 (Nat.le_refl m)
              have hmul : o + (off + l * e.size) + (m - l) * e.size ≤ sz := by
                have : l * e.size + (m - l) * e.size = m * e.size := by rw [← Nat.add_mul]; congr 1; omega
                omega
              by_cases hm : m = l
              · have e1 : u - l = 0 := by omega
                have e3 : m - l = 0 := by omega
                rw [e1, e3]
                refine ⟨.slice (some ⟨b, o + off, none⟩) 0 0, w, ?_, ρ, .refl h, .sliceE _⟩
                simp [Instr.sliceAt, hu, hd, Instr.sureAddr, hb, hs, if_pos hm, e1, e3]
              · refine ⟨.slice (some ⟨b, o + (off + l * e.size), none⟩) (u - l) (m - l), w, ?_, ρ, .refl h, .slice hρ (by omega) (Nat.le_refl _) hmul⟩
                simp [Instr.sliceAt, hu, hd, Instr.sureAddr, hb, hs, hm, add_eq, Nat.add_assoc]
            · cases hl
          · cases hl
        · cases hl
      · cases hl
    · cases hl
  · cases hl
end ops
end Go.Abs
