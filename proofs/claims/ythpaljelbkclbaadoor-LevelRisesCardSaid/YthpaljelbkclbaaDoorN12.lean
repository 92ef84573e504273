/-
  Part of a proof: see the last text of this claim.
-/
import Derived.Test.YthpaljelbkclbaaDoorT14
import Derived.Test.YthpaljelbkclbaaDoorTrydJoin
open Go Go.Abs Go.Proofs
set_option linter.unusedSimpArgs false
set_option linter.unusedVariables false
set_option maxRecDepth 100000
namespace R14
theorem idx_indexByte (c : UInt8) : ∀ l : List UInt8, idx (fun b => decide (b = c)) l = Lib.indexByte l c
  | [] => rfl
  | b :: l => by
    have ih := idx_indexByte c l
    unfold Lib.indexByte
    unfold idx at ih ⊢
    rw [List.findIdx?_cons]
    by_cases h : b = c
    · simp [h]
    · simp only [h, decide_false, Bool.false_eq_true, if_false]
      rw [← ih]
      have hb : (b == c) = false := by simpa using h
      rw [hb]
      cases hf : l.findIdx? (fun b => decide (b = c)) with
      | none => simp
      | some i => simp <;> omega
theorem vrs2 {ρ : Pl} {a b : AV} {args : Array Value} (h : VRs ρ [a, b] args.toList) : ∃ x y, args = #[x, y] ∧ VR ρ a x ∧ VR ρ b y := by
  obtain ⟨l⟩ := args
  simp only at h
  cases h with
  | cons h1 t => cases t with
    | cons h2 t => cases t with
      | nil => exact ⟨_, _, rfl, h1, h2⟩
theorem find100 : Extern.find Tryd.f100 = some Extern.BytealgIndexByte.indexByte := by kernel_rfl
theorem s100_ok {args : List AV} {σ σ' : St} {v : AV} (h : sumIndexByte args σ = some (v, σ')) {ρ : Pl} {w : World} {args' : Array Value} (hr : Rep ρ σ w) (ha : VRs ρ args args'.toList) : CallR Tryd.prog 100 args' w ρ σ v σ' := by
  unfold sumIndexByte at h
  split at h
  case h_2 => cases h
  rename_i s c
  cases h
  obtain ⟨x, y, rfl, hx, hy⟩ := vrs2 ha
  cases hx
  cases hy
  refine .inr ⟨.int .i64 (idx (fun b => decide (b = c.toNat.toUInt8)) s), w, ρ, ?_, .refl hr, .int _ _⟩
  rw [run_callFunc_extern Tryd.func100 (by kernel_rfl) (by kernel_rfl) (by kernel_rfl) find100, Lib.run_indexByteString, idx_indexByte]
  rfl
theorem cell_at {w : World} {b k : Nat} {c : Array Value} {t : TypeId} {fr : Nat × Nat} {y : Value} (h : w.heap[b]? = some (.cells c t fr)) (hy : c[k]? = some y) : w.cell? ⟨b, k, none⟩ = some y := by
  simp [World.cell?, h, hy]
theorem s29_ok {args : List AV} {σ σ' : St} {v : AV} (h : sumJoin args σ = some (v, σ')) {ρ : Pl} {w : World} {args' : Array Value} (hr : Rep ρ σ w) (ha : VRs ρ args args'.toList) : CallR Tryd.prog 29 args' w ρ σ v σ' := by
  unfold sumJoin at h
  split at h
  case h_2 => cases h
  rename_i id off len cap sep
  split at h
  case h_2 => cases h
  rename_i l hl
  split at h
  case h_2 => cases h
  rename_i xs hxs
  cases hb : Nat.ble len 1000000 && Nat.ble (Lib.join xs sep).length 1000000 with
  | false => rw [hb] at h; cases h
  | true =>
  rw [hb] at h
  cases h
  rw [Bool.and_eq_true] at hb
  have hb1 := Nat.le_of_ble_eq_true hb.1
  have hb2 := Nat.le_of_ble_eq_true hb.2
  obtain ⟨x, y, rfl, hx, hy⟩ := vrs2 ha
  cases hy
  have hl' := strsOf_get hxs
  obtain ⟨vs, hvs, hlen, hvl⟩ := loadN_eq hl
  refine .inl ⟨enter_run Tryd.func29 rfl (by kernel_rfl) _ _, ?_⟩
  cases hx with
  | sliceE a =>
    have hxs0 : xs = [] := by
      have : l = [] := by rw [hvl]; simp
      rw [this] at hl'
      cases xs with
      | nil => rfl
      | cons a r => simp at hl'
    subst hxs0
    refine (Tryd.strings_Join_none (some a) 0 ⟨⟨sep⟩⟩ w).mono ?_
    rintro e w' ⟨rfl, rfl⟩
    exact ⟨_, ρ, rfl, .refl hr, .str []⟩
  | slice hρ h1 h2 h3 =>
    rename_i b o sz cap'
    obtain ⟨fz, ro, hg⟩ := cellsOf_eq hvs
    obtain ⟨c, t, fr, hc, hcs, hcl, hcc, _⟩ := hr.obj _ _ _ _ _ hρ hg
    have hbk := (hr.dom _ _ hρ).2
    have hn : xs.length = len := by
      have : l.length = len := by rw [hvl, List.length_take, List.length_drop]; omega
      rw [hl'] at this; simpa using this
    subst hn
    have hj := Tryd.strings_Join b (o + off) cap' (xs.map fun s => (⟨⟨s⟩⟩ : ByteArray)) ⟨⟨sep⟩⟩ w (fun j x hx => by
      rw [List.getElem?_map] at hx
      cases hxj : xs[j]? with
      | none => rw [hxj] at hx; cases hx
      | some s =>
        rw [hxj] at hx
        simp only [Option.map_some, Option.some.injEq] at hx
        subst hx
        have hjl := (List.getElem?_eq_some_iff.1 hxj).1
        have hv : vs[off + j]? = some (.str s) := by
          have : l[j]? = some (.str s) := by rw [hl', List.getElem?_map, hxj]; rfl
          rw [hvl, List.getElem?_take_of_lt hjl, List.getElem?_drop] at this
          exact this
        obtain ⟨_, y, hy, hr'⟩ := hcc _ _ hv
        cases hr'
        exact cell_at hc (by rw [Nat.add_assoc]; exact hy)) hbk (by simp; omega) (by simp; omega) (by
      have : (xs.map fun s => (⟨⟨s⟩⟩ : ByteArray)).map (·.data.toList) = xs := by rw [List.map_map]; exact List.map_id _
      rw [this]
      exact Nat.le_trans hb2 (by decide))
    have hq : (xs.map fun s => (⟨⟨s⟩⟩ : ByteArray)).map (·.data.toList) = xs := by rw [List.map_map]; exact List.map_id _
    rw [hq, List.length_map] at hj
    refine hj.mono ?_
    rintro e w' ⟨rfl, hB⟩
    exact ⟨_, ρ, rfl, .grow hr hB.size hB.block ⟨hB.os, hB.output⟩, .str _⟩
theorem hF : ∀ f fn, FB.get f = some fn → Tryd.prog.funcs[f]? = some fn ∧ (fn.name == "runtime.NumGoroutine") = false := funcs_ok Tryd.prog (by kernel_rfl)
theorem hM : Tryd.prog.follows .mixedOrders = true := by kernel_rfl
theorem hT : TRel Tryd.prog cfg.T := (types_ok Tryd.prog).kill [3]
theorem cfg_ok : CfgOK cfg where
  hT := hT
  hE := fun t h => by cases h
  hF := hF
  hM := hM
  hS := fun f s hs args σ v σ' h ρ w args' hr ha => by
    have hs : sums f = some s := hs
    unfold sums at hs
    split at hs
    · rename_i hf
      cases hs
      have : f = 100 := Nat.eq_of_beq_eq_true hf
      subst this
      exact s100_ok h hr ha
    · split at hs
      · rename_i hf
        cases hs
        have : f = 29 := Nat.eq_of_beq_eq_true hf
        subst this
        exact s29_ok h hr ha
      · cases hs
end R14
