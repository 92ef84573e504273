/-
  THE ABSTRACT MACHINE IS RIGHT, 7: append, copy, len, cap, min, max.
-/
import Derived.Test.YthpaljelbkclbaaDoorAbsOp5
namespace Go.Abs
open Go

section ops
variable {P : Program} {T : TT} (hT : TRel P T) {ρ : Pl} {σ : St} {w : World}

theorem storeCells_nil (a : Addr) : (storeCells a []).run P w = .ok () w := rfl

/-- What an append does, where the arguments are known. -/
theorem append_fits {ty t0 t1 elem : TypeId} {argTypes : Array TypeId} {d1 : TypeDesc} {base : Option Addr} {sLen sCap n size : Nat} {x' : Value} {ys : List Value}
    (h0 : argTypes[0]? = some t0) (h1 : argTypes[1]? = some t1) (hu0 : (underlying t0).run P w = .ok (.slice elem) w) (hu1 : (underlying t1).run P w = .ok d1 w) (hi : d1 = .string ∨ ∃ e, d1 = .slice e)
    (hsz : (sizeOf elem).run P w = .ok size w) (hn : (Builtin.lenOf x').run P w = .ok n w) (hf : (Builtin.firstCells size n x').run P w = .ok ys.toArray w)
    (hfit : sLen + n ≤ sCap) {w' : World} (hs : match base with | some a => (storeCells (a.add (sLen * size)) ys).run P w = .ok () w' | none => w' = w) :
    (Builtin.append_ argTypes ty #[.slice base sLen sCap, x']).run P w = .ok (.slice base (sLen + n) sCap) w' := by
  rcases hi with rfl | ⟨e1, rfl⟩ <;> (
    cases base with
    | none => simp only at hs; subst hs; simp [Builtin.append_, h0, h1, hu0, hu1, hsz, hn, hfit, hf]
    | some a => simp only at hs; simp [Builtin.append_, h0, h1, hu0, hu1, hsz, hn, hfit, hf, hs])

theorem append_grows {ty t0 t1 elem : TypeId} {argTypes : Array TypeId} {d1 : TypeDesc} {base : Option Addr} {sLen sCap n size : Nat} {x' y : Value} {j : TypeInfo} {ys zs : List Value}
    (h0 : argTypes[0]? = some t0) (h1 : argTypes[1]? = some t1) (hu0 : (underlying t0).run P w = .ok (.slice elem) w) (hu1 : (underlying t1).run P w = .ok d1 w) (hi : d1 = .string ∨ ∃ e, d1 = .slice e)
    (hsz : (sizeOf elem).run P w = .ok size w) (hn : (Builtin.lenOf x').run P w = .ok n w) (hf1 : (Builtin.firstCells size n x').run P w.drew = .ok ys.toArray w.drew)
    (hj0 : (typeInfo elem).run P w = .ok j w) (hj1 : (typeInfo elem).run P w.drew = .ok j w.drew) (hz1 : (zeroValue elem).run P w.drew = .ok y w.drew)
    (ho1 : (Builtin.firstCells size sLen (.slice base sLen sCap)).run P w.drew = .ok zs.toArray w.drew)
    (hgr : sCap < sLen + n) (hbig : (2 * (sLen + n) + 1024) * j.bytes ≤ 281474976710656) (h62 : sLen + n < 4611686018427387904) :
    ∃ cap, sLen + n ≤ cap ∧ (Builtin.append_ argTypes ty #[.slice base sLen sCap, x']).run P w = .ok (.slice (some ⟨w.heap.size, 0, none⟩) (sLen + n) cap)
      (w.drew.alloc (.cells (zs.toArray ++ ys.toArray ++ Builtin.zeroCells y.cells (cap - (sLen + n))) elem)) := by
  refine ⟨(Question.appendCap (sLen + n) sCap elem).cut (w.tape w.drawn (Question.appendCap (sLen + n) sCap elem)), Nat.le_add_right _ _, ?_⟩
  have hb : Builtin.nextslicecap (sLen + n) sCap * j.bytes ≤ 2 ^ 48 := by
    refine Nat.le_trans (Nat.mul_le_mul_right _ (nextslicecap_le hgr)) (Nat.le_trans (Nat.mul_le_mul_right _ (by omega)) hbig)
  have hno : ¬ (sLen + n ≤ sCap) := by omega
  have hb' : ¬ (281474976710656 < Builtin.nextslicecap (sLen + n) sCap * j.bytes) := by simpa using hb
  have h63 : ¬ (9223372036854775807 < ((sLen : Int) + (n : Int))) := by omega
  rcases hi with rfl | ⟨e1, rfl⟩ <;> (
    simp [Builtin.append_, h0, h1, hu0, hu1, hsz, hn, hno, hj0, hb', h63, Question.forced, newRow, hf1, hj1, hz1, ho1, -Array.append_assoc])

theorem isSeq_eq {d : TypeDesc} (h : isSeq d = true) : d = .string ∨ ∃ e, d = .slice e := by
  cases d <;> first | exact .inl rfl | exact .inr ⟨_, rfl⟩ | cases h

theorem zeroCells_size (z : Array Value) (n : Nat) : (Builtin.zeroCells z n).size = n * z.size := by simp [Builtin.zeroCells]

include hT in
theorem append_sound (h : Rep ρ σ w) {argTypes : Array TypeId} {ty : TypeId} {s x v : AV} {s' x' : Value} {σ' : St} (hs : VR ρ s s') (hx : VR ρ x x') (hl : aAppend T σ argTypes s x = some (v, σ')) :
    GetsV P ρ σ w (Builtin.append_ argTypes ty #[s', x']) v σ' := by
  unfold aAppend at hl
  split at hl
  · cases hl
  rename_i st hst
  obtain ⟨t0, h0, hT0⟩ := argType_eq hst
  split at hl
  · cases hl
  rename_i xt hxt
  obtain ⟨t1, h1, hT1⟩ := argType_eq hxt
  split at hl
  case h_2 => cases hl
  rename_i elem hd
  split at hl
  case h_2 => cases hl
  rename_i e he
  split at hl
  case h_2 => cases hl
  rename_i z hz
  rw [boolC_none] at hl
  obtain ⟨hi, hl⟩ := hl
  have hi := isSeq_eq hi
  split at hl
  case h_2 => cases hl
  rename_i n hn
  split at hl
  case h_2 => cases hl
  rename_i new hnew
  rw [boolC_none, nbeq, decide_eq_true_eq, llen_eq] at hl
  obtain ⟨hzl, hl⟩ := hl
  unfold aAppendTo at hl
  rw [boolC_none] at hl
  obtain ⟨hb, hl⟩ := hl
  simp only [Bool.and_eq_true, nble, nbeq, decide_eq_true_eq, llen_eq] at hb
  obtain ⟨hnl, hs1⟩ := hb
  have hu0 := run_under (P := P) hT hT0 w
  rw [hd] at hu0
  have hu1 := run_under (P := P) hT hT1 w
  have hsz := run_size (P := P) hT he w
  have hlen := srcLen_sound (P := P) (w := w) hx hn
  obtain ⟨ys, hf, hv, hone⟩ := src_sound (P := P) h hx hn (Nat.le_refl _) hnew
  have hyl := hv.length
  obtain ⟨y, hy, ho, hnt⟩ := run_zero (P := P) hT he hz w
  have hzc := (zero_cells (ρ := ρ) ho hnt).1.length
  simp only [Array.length_toList] at hzc
  obtain ⟨j, hj, hjb⟩ := run_info (P := P) hT he w
  have hdr := h.drew (w.drawn + 1)
  obtain ⟨ys1, hf1, hv1, _⟩ := src_sound (P := P) hdr hx hn (Nat.le_refl _) hnew
  have hyl1 := hv1.length
  obtain ⟨y1, hy1, ho1, hnt1⟩ := run_zero (P := P) hT he hz w.drew
  have hzc1 := (zero_cells (ρ := ρ) ho1 hnt1).1.length
  simp only [Array.length_toList] at hzc1
  have hj0 := hj
  obtain ⟨j1, hj1, hjb1⟩ := run_info (P := P) hT he w.drew
  have hjj : j1 = j := by
    simp only [typeInfo, Sem.run_bind, run_program, Result.andThen_ok] at hj hj1
    revert hj hj1
    cases P.info? elem with
    | none => intro h1 h2; cases h1
    | some jj => intro h1 h2; cases h1; cases h2; rfl
  subst hjj
  have hgrow : ∀ (σ1 : St) (base : Option Addr) (len sCap : Nat) (old : List AV) (zs : List Value), (∀ w, Rep ρ σ w → Step ρ σ w ρ σ1 w) → σ1.next = σ.next →
      (Builtin.firstCells e.size len (.slice base len sCap)).run P w.drew = .ok zs.toArray w.drew → VRs ρ old zs → (∀ c ∈ old, c.one = true) → old.length = len * e.size → sCap < len + n →
      (2 * (len + n) + 1024) * e.bytes ≤ 281474976710656 → len + n < 4611686018427387904 → ∀ fz,
      GetsV P ρ σ w (Builtin.append_ argTypes ty #[.slice base len sCap, x']) (.slice σ.next 0 (len + n) (len + n) e.size) (σ1.push (.cells (old ++ new) fz false)) := by
    intro σ1 base len sCap old zs hσ hnx hzs hzv hz1 hol hlt hb2 hb3 fz
    obtain ⟨cap, hcap, hrun⟩ := append_grows (ty := ty) (base := base) (sLen := len) (sCap := sCap) (zs := zs) h0 h1 hu0 hu1 hi hsz hlen hf1 hj0 hj1 hy1 hzs hlt (by rw [hjb]; exact hb2) hb3
    have hst1 := (Step.drew h (w.drawn + 1)).trans (hσ _ hdr)
    have hzl' := hzv.length
    have hsize : (zs.toArray ++ ys1.toArray ++ Builtin.zeroCells y1.cells (cap - (len + n))).size = cap * e.size := by
      simp only [Array.size_append, zeroCells_size, List.size_toArray, ← hyl1, ← hzl', hnl, hol, ← hzc1, hzl]
      rw [← Nat.add_mul, ← Nat.add_mul]
      congr 1; omega
    have hst2 := newCells hst1.rep elem (0, 0) (l := old ++ new) (ys := zs.toArray ++ ys1.toArray ++ Builtin.zeroCells y1.cells (cap - (len + n))) (by
      have : (zs.toArray ++ ys1.toArray ++ Builtin.zeroCells y1.cells (cap - (len + n))).toList = (zs ++ ys1) ++ (Builtin.zeroCells y1.cells (cap - (len + n))).toList := by simp
      rw [this, List.take_append_of_le_length (by simp; omega), List.take_of_length_le (by simp; omega)]
      exact hzv.append hv1) (by
        intro c hc
        rcases List.mem_append.1 hc with hc | hc
        · exact hz1 c hc
        · exact hone c hc) (by simp) fz
    refine ⟨_, _, hrun, _, hst1.trans hst2, ?_⟩
    have := VR.slice (ρ := ρ.upd σ.next (w.heap.size, 0, cap * e.size)) (id := σ.next) (off := 0) (len := len + n) (cap := len + n) (esz := e.size) (cap' := cap) (b := w.heap.size) (o := 0) (sz := cap * e.size) (Pl.upd_same _ _ _) (Nat.le_refl _) (by omega) (by omega)
    rw [hsize, hnx]
    simpa using this
  split at hl
  · -- nil
    cases hs
    unfold growNil at hl
    by_cases hn0 : n = 0
    · subst hn0
      rw [natC_zero] at hl
      cases hl
      have := append_fits (ty := ty) (base := none) (sLen := 0) (sCap := 0) h0 h1 hu0 hu1 hi hsz hlen hf (Nat.le_refl _) (w' := w) rfl
      exact .pure h this .nilSlice
    · obtain ⟨m, rfl⟩ : ∃ m, n = m + 1 := ⟨n - 1, by omega⟩
      rw [natC_succ, boolC_none] at hl
      obtain ⟨hbig, hl⟩ := hl
      simp only [Bool.and_eq_true, nble, nblt, decide_eq_true_eq, bigBytes] at hbig
      rw [St.pushK_eq] at hl
      cases hl
      have := hgrow σ none 0 0 [] [] (fun w hw => .refl hw) rfl rfl .nil (by simp) (by simp) (by omega) (by rw [Nat.zero_add]; exact hbig.1) (by omega) 0
      simpa using this
  · rename_i id off len cp esz
    rw [boolC_none, nbeq, decide_eq_true_eq] at hl
    obtain ⟨rfl, hl⟩ := hl
    by_cases hn0 : n = 0
    · subst hn0
      rw [natC_zero] at hl
      cases hl
      have hy0 : ys = [] := List.eq_nil_of_length_eq_zero (by omega)
      subst hy0
      cases hs with
      | slice hρ q1 q2 q3 =>
        rename_i b o sz cap'
        have := append_fits (ty := ty) (base := some ⟨b, o + off, none⟩) (sLen := len) h0 h1 hu0 hu1 hi hsz hlen hf (sCap := cap') (by omega) (w' := w) (storeCells_nil _)
        exact .pure h this (.slice hρ q1 q2 q3)
      | sliceE a =>
        have := append_fits (ty := ty) (base := some a) (sLen := 0) h0 h1 hu0 hu1 hi hsz hlen hf (sCap := 0) (by omega) (w' := w) (storeCells_nil _)
        exact .pure h this (.sliceE a)
    · obtain ⟨m, hm⟩ : ∃ m, n = m + 1 := ⟨n - 1, by omega⟩
      rw [hm, natC_succ, ← hm] at hl
      by_cases hfit : len + n ≤ cp
      · rw [nble, decide_eq_true hfit, boolC_true] at hl
        unfold growIn at hl
        split at hl
        case h_2 => cases hl
        rename_i vs fz hg
        rw [boolC_none] at hl
        obtain ⟨hb, hl⟩ := hl
        simp only [Bool.and_eq_true, nble, decide_eq_true_eq, llen_eq] at hb
        obtain ⟨hb1, hb2⟩ := hb
        rw [St.setK_eq] at hl
        simp only [takeK_eq, if_pos hb1, lapp_eq, ldrop_eq, llen_eq] at hl
        cases hl
        cases hs with
        | sliceE a => omega
        | slice hρ q1 q2 q3 =>
        rename_i b o sz cap'
        have hmul : (len + n) * e.size ≤ cap' * e.size := Nat.mul_le_mul_right _ (by omega)
        rw [Nat.add_mul] at hmul
        obtain ⟨w', hst, hstep⟩ := Step.store (P := P) h hρ hg (off + len * e.size) (l := new) (ys := ys)
          (vs' := vs.take (off + len * e.size) ++ new ++ vs.drop (off + len * e.size + new.length)) hv hone hb2 (by omega)
          (by simp only [List.length_append, List.length_take, List.length_drop]; omega) (by
            intro i v hvi
            rw [List.append_assoc, List.getElem?_append] at hvi
            simp only [List.length_take, Nat.min_eq_left hb1] at hvi
            by_cases hi1 : i < off + len * e.size
            · rw [if_pos hi1, List.getElem?_take_of_lt hi1] at hvi
              rw [if_neg (by omega)]; exact hvi
            · rw [if_neg hi1, List.getElem?_append] at hvi
              by_cases hi2 : i - (off + len * e.size) < new.length
              · rw [if_pos hi2] at hvi
                rw [if_pos (by omega)]; exact hvi
              · rw [if_neg hi2, List.getElem?_drop] at hvi
                rw [if_neg (by omega), show i = off + len * e.size + new.length + (i - (off + len * e.size) - new.length) by omega]; exact hvi)
        have := append_fits (ty := ty) (base := some ⟨b, o + off, none⟩) (sLen := len) h0 h1 hu0 hu1 hi hsz hlen hf (sCap := cap') (by omega) (w' := w') (by
          show (storeCells ((⟨b, o + off, none⟩ : Addr).add (len * e.size)) ys).run P w = _
          rw [add_eq, Nat.add_assoc]; exact hst)
        exact ⟨_, _, this, ρ, hstep, .slice hρ (by omega) q2 q3⟩
      · rw [nble, decide_eq_false hfit, boolC_false] at hl
        unfold growOut at hl
        split at hl
        case h_2 => cases hl
        rename_i vs fz hg
        rw [boolC_none] at hl
        obtain ⟨hb, hl⟩ := hl
        simp only [Bool.and_eq_true, nble, nblt, decide_eq_true_eq, bigBytes] at hb
        obtain ⟨⟨hb1, hb2⟩, hb3⟩ := hb
        rw [takeK_eq, ldrop_eq] at hl
        split at hl
        case isFalse => cases hl
        rename_i hol
        simp only [List.length_drop] at hol
        obtain ⟨left, fz', hleft, hfz1, hfz2, hl⟩ : ∃ left fz', Left (off + len * e.size) fz vs left ∧ fz ≤ off + fz' ∧ (left ≠ .dead → len * e.size ≤ fz') ∧
            some (AV.slice σ.next 0 (len + n) (len + n) e.size, (σ.set id left).push (.cells ((vs.drop off).take (len * e.size) ++ new) fz' false)) = some (v, σ') := by
          cases hkl : e.kill
          · rw [hkl, boolC_false] at hl
            simp only [St.setK_eq, St.pushK_eq, lapp_eq, ltake_eq, maxN_eq] at hl
            exact ⟨_, _, .inr rfl, by omega, fun _ => by omega, hl⟩
          · rw [hkl, boolC_true] at hl
            simp only [St.setK_eq, St.pushK_eq, lapp_eq] at hl
            exact ⟨_, _, .inl rfl, by omega, fun h => absurd rfl h, hl⟩
        cases hl
        have hσ1 : ∀ w, Rep ρ σ w → Step ρ σ w ρ (σ.set id left) w := fun w hw => Step.leave hw _ hg hleft
        cases hs with
        | sliceE a =>
          have := hgrow _ (some a) 0 0 [] [] hσ1 rfl (by simp [Builtin.firstCells, loadCells, loadCellsFrom]) .nil (by simp) (by simp) (by omega) hb2 hb3 fz'
          simpa using this
        | slice hρ q1 q2 q3 =>
          rename_i b o sz cap'
          have hold : ∃ zs : List Value, (∀ cap'', (Builtin.firstCells e.size len (.slice (some ⟨b, o + off, none⟩) len cap'')).run P w.drew = .ok zs.toArray w.drew) ∧ VRs ρ ((vs.drop off).take (len * e.size)) zs ∧ ∀ c ∈ (vs.drop off).take (len * e.size), c.one = true := by
            by_cases h0 : len * e.size = 0
            · exact ⟨[], fun _ => by simp [Builtin.firstCells, h0, loadCells, loadCellsFrom], by rw [h0]; exact .nil, by rw [h0]; simp⟩
            · obtain ⟨zs, hzs, hzv, hz1⟩ := Rep.cells (P := P) hdr hρ (by unfold cellsOf; rw [hg]) off (len * e.size) (by omega)
              exact ⟨zs, fun _ => hzs, hzv, hz1⟩
          obtain ⟨zs, hzs, hzv, hz1⟩ := hold
          have hol' : ((vs.drop off).take (len * e.size)).length = len * e.size := by simp; omega
          by_cases hreal : len + n ≤ cap'
          · obtain ⟨c, t, fr, hxo, hsz', hlen', hc, hfr⟩ := h.obj _ _ _ _ _ hρ hg
            have hmul : (len + n) * e.size ≤ cap' * e.size := Nat.mul_le_mul_right _ hreal
            rw [Nat.add_mul] at hmul
            obtain ⟨c', hrun, hc'⟩ := run_storeCells_put (P := P) b t fr ys (o + off + len * e.size) 0 c w hxo (by omega) (fun j hj hj' => hfr j (by omega) (by omega)) (hv.one hone)
            have happ := append_fits (ty := ty) (base := some ⟨b, o + off, none⟩) (sLen := len) h0 h1 hu0 hu1 hi hsz hlen hf (sCap := cap') hreal (by
              show (storeCells ((⟨b, o + off, none⟩ : Addr).add (len * e.size)) ys).run P w = _
              rw [add_eq]; exact hrun)
            have hc's : c'.size = sz := by
              rw [← Array.length_toList, hc', Nat.add_zero, splice_length _ _ _ (by simp; omega)]; simpa using hsz'
            refine ⟨_, _, happ, _, Step.take h (o' := o + off) hρ hg hleft (by omega) (by omega) (fun hh => by have := hfz2 hh; omega) (fun c2 t2 fr2 e2 => ?_) (fun ρ' hle => ⟨c', t, fr, rfl, hc's, ?_, ?_, ?_⟩), ?_⟩
            · rw [hxo] at e2; cases e2
              refine ⟨c', rfl, hc's.trans hsz'.symm, fun i hi => ?_⟩
              have hcc : c'[i]? = (splice c.toList (o + off + len * e.size) ys)[i]? := by rw [← Array.getElem?_toList, hc', Nat.add_zero]
              rw [hcc, splice_get _ _ _ (by simp; omega), if_neg (by omega), Array.getElem?_toList]
            · rw [List.length_append, hol', hnl]; omega
            · intro i v hvi
              have hcc : c'[o + off + i]? = (splice c.toList (o + off + len * e.size) ys)[o + off + i]? := by rw [← Array.getElem?_toList, hc', Nat.add_zero]
              rw [hcc, splice_get _ _ _ (by simp; omega)]
              rw [List.getElem?_append, hol'] at hvi
              by_cases hi1 : i < len * e.size
              · rw [if_pos hi1, List.getElem?_take_of_lt hi1, List.getElem?_drop] at hvi
                rw [if_neg (by omega), Array.getElem?_toList, Nat.add_assoc]
                obtain ⟨p1, y2, p2, p3⟩ := hc _ _ hvi
                exact ⟨p1, y2, p2, p3.mono hle⟩
              · rw [if_neg hi1] at hvi
                have hlt : i - len * e.size < new.length := (List.getElem?_eq_some_iff.1 hvi).1
                rw [if_pos (by omega)]
                refine ⟨hone _ (List.mem_of_getElem? hvi), ?_⟩
                obtain ⟨y2, hy2, hr2⟩ := hv.get hvi
                exact ⟨y2, by rw [show o + off + i - (o + off + len * e.size) = i - len * e.size by omega]; exact hy2, hr2.mono hle⟩
            · intro i hi1 hi2
              exact hfr i (by omega) hi2
            · have := VR.slice (ρ := ρ.upd σ.next (b, o + off, sz)) (id := σ.next) (off := 0) (len := len + n) (cap := len + n) (esz := e.size) (cap' := cap') (b := b) (o := o + off) (sz := sz) (Pl.upd_same _ _ _) (Nat.le_refl _) hreal (by omega)
              simpa using this
          · exact hgrow _ _ _ _ _ zs hσ1 rfl (hzs _) hzv hz1 hol' (by omega) hb2 hb3 _
  · cases hl

include hT in
theorem copy_sound (h : Rep ρ σ w) {argTypes : Array TypeId} {ty : TypeId} {d x v : AV} {d' x' : Value} {σ' : St} (hd : VR ρ d d') (hx : VR ρ x x') (hl : aCopy T σ argTypes d x = some (v, σ')) :
    GetsV P ρ σ w (Builtin.copy_ argTypes ty #[d', x']) v σ' := by
  unfold aCopy at hl
  split at hl
  case h_2 => cases hl
  rename_i t ht
  obtain ⟨t0, h0, hT0⟩ := argType_eq ht
  split at hl
  case h_2 => cases hl
  rename_i elem hde
  split at hl
  case h_2 => cases hl
  rename_i e he
  split at hl
  case h_2 => cases hl
  rename_i sn hsn
  split at hl
  case h_2 => cases hl
  rename_i dn hdn
  split at hl
  case h_2 => cases hl
  rename_i cells hcells
  have hu0 := run_under (P := P) hT hT0 w
  rw [hde] at hu0
  have hsz := run_size (P := P) hT he w
  have hlx := srcLen_sound (P := P) (w := w) hx hsn
  rw [minN_eq] at hl hcells
  obtain ⟨ys, hf, hv, hone⟩ := src_sound (P := P) h hx hsn (Nat.min_le_left _ _) hcells
  have hmin : Nat.min sn dn = min sn dn := rfl
  split at hl
  · cases hl; cases hd; cases hdn
    simp only [Nat.min_zero] at hf
    refine .pure h (x := .int .i64 (min sn 0 : Nat)) ?_ (.int _ _)
    simp [Builtin.copy_, h0, hu0, hlx, hsz, hf, goInt]
  · rename_i id off len cap esz
    cases hdn
    cases cells with
    | nil =>
      cases hl
      cases hv
      cases hd with
      | slice hρ q1 q2 q3 =>
        refine .pure h (x := .int .i64 (min sn dn : Nat)) ?_ (.int _ _)
        simp only [Nat.min_def] at hf ⊢
        simp [Builtin.copy_, h0, hu0, hlx, hsz, hmin, Nat.min_def, hf, goInt, storeCells_nil]
      | sliceE a =>
        refine .pure h (x := .int .i64 (min sn 0 : Nat)) ?_ (.int _ _)
        simp only [Nat.min_zero] at hf
        simp [Builtin.copy_, h0, hu0, hlx, hsz, hf, goInt, storeCells_nil]
    | cons c cs =>
      simp only at hl
      split at hl
      case h_2 => cases hl
      rename_i σ1 hst
      cases hl
      cases hd with
      | sliceE a =>
        exfalso
        have : srcCells σ e.size (min sn 0) x = some [] := by
          rw [Nat.min_zero]
          unfold srcCells
          unfold srcLen at hsn
          split at hsn
          · rfl
          · simp [natC_zero]
          · simp [takeK_eq]; rfl
          · cases hsn
        rw [this] at hcells; cases hcells
      | slice hρ q1 q2 q3 =>
        rename_i b o sz cap'
        obtain ⟨w', hst', hstep⟩ := Step.storeN (P := P) h hρ hst hv hone
        refine ⟨.int .i64 (min sn dn : Nat), w', ?_, ρ, hstep, .int _ _⟩
        simp only [Nat.min_def] at hf ⊢
        simp [Builtin.copy_, h0, hu0, hlx, hsz, hmin, Nat.min_def, hf, goInt, hst']
  · cases hl

include hT in
theorem len_sound (h : Rep ρ σ w) {argTypes : Array TypeId} {ty : TypeId} {x v : AV} {x' : Value} (hx : VR ρ x x') (hl : aLen T σ argTypes x = some v) :
    GetsV P ρ σ w (Builtin.len_ argTypes ty #[x']) v σ := by
  unfold aLen at hl
  split at hl
  case h_2 => cases hl
  rename_i t ht
  obtain ⟨t0, h0, hT0⟩ := argType_eq ht
  have hu0 := run_under (P := P) hT hT0 w
  split at hl
  · rename_i hd
    rw [hd] at hu0
    split at hl
    · rename_i s
      cases hl; cases hx
      exact .pure h (x := .int .i64 s.length) (by simp [Builtin.len_, h0, hu0, goInt]; rfl) (by rw [llen_eq]; exact .int _ _)
    · cases hl
  · rename_i n e hd
    rw [hd] at hu0
    cases hl
    exact .pure h (x := .int .i64 n) (by simp [Builtin.len_, h0, hu0, goInt]) (.int _ _)
  · rename_i arr hd
    rw [hd] at hu0
    split at hl
    case h_2 => cases hl
    rename_i a ha
    have hua := run_under (P := P) hT ha w
    split at hl
    · rename_i n e hd'
      rw [hd'] at hua
      cases hl
      exact .pure h (x := .int .i64 n) (by simp [Builtin.len_, h0, hu0, hua, goInt]) (.int _ _)
    · cases hl
  · rename_i e hd
    rw [hd] at hu0
    split at hl
    · cases hl; cases hx
      exact .pure h (x := .int .i64 0) (by simp [Builtin.len_, h0, hu0, goInt]) (.int _ _)
    · rename_i id off len cap esz
      cases hl
      cases hx with
      | slice hρ q1 q2 q3 => exact .pure h (x := .int .i64 len) (by simp [Builtin.len_, h0, hu0, goInt]) (.int _ _)
      | sliceE a => exact .pure h (x := .int .i64 0) (by simp [Builtin.len_, h0, hu0, goInt]) (.int _ _)
    · cases hl
  · rename_i k e hd
    rw [hd] at hu0
    split at hl
    · rename_i es hes
      cases hl
      rw [llen_eq]
      rcases entries_sound (P := P) h hx hes with ⟨rfl, rfl⟩ | ⟨b, es', clock, rfl, hg, her⟩
      · exact .pure h (x := .int .i64 0) (by simp [Builtin.len_, h0, hu0, goInt]) (.int _ _)
      · have := her.length
        exact .pure h (x := .int .i64 es.length) (by simp [Builtin.len_, h0, hu0, hg, goInt, this]) (.int _ _)
    · cases hl
  · cases hl

include hT in
theorem cap_sound (h : Rep ρ σ w) {argTypes : Array TypeId} {ty : TypeId} {x v : AV} {x' : Value} (hx : VR ρ x x') (hl : aCap T argTypes x = some v) :
    GetsV P ρ σ w (Builtin.cap_ argTypes ty #[x']) v σ := by
  unfold aCap at hl
  split at hl
  case h_2 => cases hl
  rename_i t ht
  obtain ⟨t0, h0, hT0⟩ := argType_eq ht
  have hu0 := run_under (P := P) hT hT0 w
  split at hl
  · rename_i n e hd
    rw [hd] at hu0
    cases hl
    exact .pure h (x := .int .i64 n) (by simp [Builtin.cap_, h0, hu0, goInt]) (.int _ _)
  · rename_i e hd
    rw [hd] at hu0
    split at hl
    · cases hl; cases hx
      exact .pure h (x := .int .i64 0) (by simp [Builtin.cap_, h0, hu0, goInt]) (.int _ _)
    · cases hl
  · cases hl

theorem foldInts_cons (f : Int → Int → Int) (k : IntKind) (y : AV) (l : List AV) (x : Int) : foldInts f k (y :: l) x = match y with
    | .int _ y => foldInts f k l (f x y)
    | _ => none := rfl

theorem fold_sound {f : Int → Int → Int} {g : Value → Value → Sem Value} (hg : ∀ k j x y w, (g (.int k x) (.int j y)).run P w = .ok (.int k (f x y)) w) {k : IntKind} :
    ∀ {l : List AV} {r : List Value} {x : Int} {v : AV}, VRs ρ l r → foldInts f k l x = some v → ∃ y, (r.foldlM g (.int k x)).run P w = .ok y w ∧ VR ρ v y
  | [], _, x, v, .nil, hl => by cases hl; exact ⟨.int k x, rfl, .int _ _⟩
  | y :: l, _, x, v, .cons h t, hl => by
    rw [foldInts_cons] at hl
    split at hl
    · rename_i j y
      cases h
      obtain ⟨z, hz, hr⟩ := fold_sound hg t hl
      refine ⟨z, ?_, hr⟩
      rw [List.foldlM_cons, Sem.run_bind, hg]
      exact hz
    · cases hl

theorem min_sound (h : Rep ρ σ w) {a : Array TypeId} {ty : TypeId} {l : List AV} {r : Array Value} {v : AV} (hx : VRs ρ l r.toList) (hl : aMinMax minI l = some v) : GetsV P ρ σ w (Builtin.min_ a ty r) v σ := by
  unfold aMinMax at hl
  split at hl
  · rename_i k x l
    unfold Builtin.min_
    generalize r.toList = r at hx
    cases hx with
    | cons h1 t =>
    cases h1
    obtain ⟨y, hy, hr⟩ := fold_sound (P := P) (w := w) (f := minI) (g := Builtin.min2) (fun k j x y w => by
      simp only [Builtin.min2, Sem.run_pure, minI, leI_eq, boolC_eq]
      by_cases h : x ≤ y
      · rw [if_neg (by omega), decide_eq_true h]; rfl
      · rw [if_pos (by omega), decide_eq_false h]; rfl) t hl
    exact .pure h hy hr
  · cases hl

theorem max_sound (h : Rep ρ σ w) {a : Array TypeId} {ty : TypeId} {l : List AV} {r : Array Value} {v : AV} (hx : VRs ρ l r.toList) (hl : aMinMax maxI l = some v) : GetsV P ρ σ w (Builtin.max_ a ty r) v σ := by
  unfold aMinMax at hl
  split at hl
  · rename_i k x l
    unfold Builtin.max_
    generalize r.toList = r at hx
    cases hx with
    | cons h1 t =>
    cases h1
    obtain ⟨y, hy, hr⟩ := fold_sound (P := P) (w := w) (f := maxI) (g := Builtin.max2) (fun k j x y w => by
      simp only [Builtin.max2, Sem.run_pure, maxI, leI_eq, boolC_eq]
      by_cases h : x ≤ y
      · rw [decide_eq_true h]
        by_cases h' : y > x
        · rw [if_pos h']; rfl
        · rw [if_neg h']; have : x = y := by omega
          rw [this]; rfl
      · rw [if_neg (by omega), decide_eq_false h]; rfl) t hl
    exact .pure h hy hr
  · cases hl

include hT in
theorem clear_sound (h : Rep ρ σ w) {argTypes : Array TypeId} {ty : TypeId} {x : AV} {x' : Value} {σ' : St} (hx : VR ρ x x') (hl : aClear T σ argTypes x = some σ') :
    GetsV P ρ σ w (Builtin.clear_ argTypes ty #[x']) .undef σ' := by
  unfold aClear at hl
  split at hl
  case h_2 => cases hl
  rename_i t ht
  obtain ⟨t0, h0, hT0⟩ := argType_eq ht
  have hu0 := run_under (P := P) hT hT0 w
  have hpure : (do pure (Value.tuple #[]) : Sem Value).run P w = .ok undef w := rfl
  split at hl
  · cases hl; cases hx
    exact .pure h (x := undef) (by simp [Builtin.clear_, h0, hu0]; rfl) VR.undef
  · cases hl; cases hx
    exact .pure h (x := undef) (by simp [Builtin.clear_, h0, hu0]; rfl) VR.undef
  · rename_i r
    split at hl
    · rename_i es clock hg
      rw [St.setK_eq] at hl
      cases hl
      cases hx with
      | map hρ =>
      rename_i b sz
      obtain ⟨_, es', hxo, her⟩ := h.obj _ _ _ _ _ hρ hg
      have hgo : (getObj b).run P w = .ok (.map es' clock) w := by simp [getObj, Sem.run, hxo]
      have hset : ∀ y, (setObj b y).run P w = .ok () (w.putObj_ b y) := fun y => run_setObj_of hxo (by simp)
      refine ⟨undef, w.putObj_ b (.map #[] clock), ?_, ρ, Step.put h hρ hg rfl trivial ⟨rfl, _, rfl, .nil⟩, VR.undef⟩
      simp [Builtin.clear_, h0, hu0, hgo, hset]; rfl
    · cases hl
  · rename_i id off len cap esz
    by_cases hn0 : len = 0
    · subst hn0
      rw [natC_zero] at hl
      cases hl
      cases hx with
      | slice hρ q1 q2 q3 => exact .pure h (x := undef) (by simp [Builtin.clear_, h0, hu0]; rfl) VR.undef
      | sliceE a => exact .pure h (x := undef) (by simp [Builtin.clear_, h0, hu0]; rfl) VR.undef
    · obtain ⟨m, rfl⟩ : ∃ m, len = m + 1 := ⟨len - 1, by omega⟩
      rw [natC_succ] at hl
      split at hl
      · rename_i elem hd
        rw [hd] at hu0
        split at hl
        · rename_i e he
          split at hl
          · rename_i z hz
            rw [boolC_none] at hl
            obtain ⟨hb, hl⟩ := hl
            simp only [Bool.and_eq_true, nble, nbeq, decide_eq_true_eq, llen_eq] at hb
            obtain ⟨y, hy, ho, hnt⟩ := run_zero (P := P) hT he hz w
            obtain ⟨hzc, hz1⟩ := zero_cells (ρ := ρ) ho hnt
            have hzs : z.cells.length = y.cells.size := by simpa using hzc.length
            cases hx with
            | slice hρ q1 q2 q3 =>
            rename_i b o sz cap'
            have hrep := rep_range y.cells z.cells hzc (m + 1) (by omega)
            rw [hzs] at hrep
            obtain ⟨w', hst, hstep⟩ := Step.storeN (P := P) h hρ hl hrep (repCells_one hz1 _)
            refine ⟨undef, w', ?_, ρ, hstep, VR.undef⟩
            have hzr : Builtin.zeroCells y.cells (m + 1) = (Array.range ((m + 1) * y.cells.size)).map (fun i => y.cells[i % y.cells.size]!) := rfl
            rw [← hzr] at hst
            simp [Builtin.clear_, h0, hu0, hy, hst]; rfl
          · cases hl
        · cases hl
      · cases hl
  · cases hl
end ops
end Go.Abs
