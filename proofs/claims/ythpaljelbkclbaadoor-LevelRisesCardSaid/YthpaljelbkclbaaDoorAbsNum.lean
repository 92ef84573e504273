/-
  THE ABSTRACT MACHINE IS RIGHT, 3: its numbers are the model's.
-/
import Derived.Test.YthpaljelbkclbaaDoorAbsLem
namespace Go.Abs
open Go

theorem wrapS_eq (h m : Nat) (n : Int) (hm : m = 2 * h) (hh : 0 < h) : wrapS h m n = (if (n % (m : Int)) ≥ (h : Int) then n % (m : Int) - m else n % (m : Int)) := by
  unfold wrapS
  cases n with
  | ofNat x =>
    simp only [nblt]
    by_cases hx : x < h
    · simp only [hx, decide_true, boolC_true, Int.ofNat_eq_natCast]
      have : (x : Int) % (m : Int) = x := Int.emod_eq_of_lt (by omega) (by omega)
      rw [this, if_neg (by omega)]
    · simp only [hx, decide_false, boolC_false]
  | negSucc x =>
    simp only [nblt]
    by_cases hx : x < h
    · simp only [hx, decide_true, boolC_true]
      have : (Int.negSucc x) % (m : Int) = m - 1 - x := by
        rw [Int.negSucc_eq]
        have h1 : (-((x : Int) + 1)) % (m : Int) = (-((x : Int) + 1) + m) % (m : Int) := by simp
        rw [h1]
        rw [Int.emod_eq_of_lt (by omega) (by omega)]
        omega
      rw [this, if_pos (by omega), Int.negSucc_eq]
      omega
    · simp only [hx, decide_false, boolC_false]

theorem wrapU_eq (m : Nat) (n : Int) : wrapU m n = n % (m : Int) := by
  unfold wrapU
  cases n with
  | ofNat x => simp
  | negSucc x => rfl

theorem wrapA_eq (k : IntKind) (n : Int) : wrapA k n = k.wrap n := by
  cases k
  case i8 => exact (wrapS_eq 128 256 n rfl (by omega)).trans (by simp [IntKind.wrap, IntKind.bits, IntKind.signed])
  case i16 => exact (wrapS_eq 32768 65536 n rfl (by omega)).trans (by simp [IntKind.wrap, IntKind.bits, IntKind.signed])
  case i32 => exact (wrapS_eq 2147483648 4294967296 n rfl (by omega)).trans (by simp [IntKind.wrap, IntKind.bits, IntKind.signed])
  case i64 => exact (wrapS_eq 9223372036854775808 18446744073709551616 n rfl (by omega)).trans (by simp [IntKind.wrap, IntKind.bits, IntKind.signed])
  case u8 => exact (wrapU_eq 256 n).trans (by simp [IntKind.wrap, IntKind.bits, IntKind.signed])
  case u16 => exact (wrapU_eq 65536 n).trans (by simp [IntKind.wrap, IntKind.bits, IntKind.signed])
  case u32 => exact (wrapU_eq 4294967296 n).trans (by simp [IntKind.wrap, IntKind.bits, IntKind.signed])
  case u64 => exact (wrapU_eq 18446744073709551616 n).trans (by simp [IntKind.wrap, IntKind.bits, IntKind.signed])

theorem modA_eq (k : IntKind) : modA k = 2 ^ k.bits := by cases k <;> rfl
theorem bitsA_eq (k : IntKind) : bitsA k = k.bits := by cases k <;> rfl

theorem natOf_eq (k : IntKind) (n : Int) : natOf k n = (BitVec.ofInt k.bits n).toNat := by
  rw [BitVec.toNat_ofInt, ← modA_eq]
  unfold natOf
  cases n with
  | ofNat x => simp only [Int.ofNat_eq_natCast]; omega
  | negSucc x => rfl

theorem minN_eq (a b : Nat) : minN a b = min a b := by
  unfold minN
  rw [nble]
  by_cases h : a ≤ b
  · simp only [h, decide_true, boolC_true]; omega
  · simp only [h, decide_false, boolC_false]; omega
theorem maxN_eq (a b : Nat) : maxN a b = max a b := by
  unfold maxN
  rw [nble]
  by_cases h : a ≤ b
  · simp only [h, decide_true, boolC_true]; omega
  · simp only [h, decide_false, boolC_false]; omega

theorem aShift_eq {op : BinOp} {k : IntKind} {x y : Int} {v : AV} (h : aShift op k x y = some v) : ∃ n, v = .int k n ∧ ∀ (yk : IntKind) (P : Program) (w : World), (Op.shift op k x yk y).run P w = .ok (.int k n) w := by
  unfold aShift at h
  split at h
  · rename_i y'
    split at h
    · cases h
      refine ⟨_, rfl, fun yk P w => ?_⟩
      simp only [Op.shift, wrapA_eq, minN_eq, bitsA_eq, Int.ofNat_eq_natCast, Int.toNat_natCast]
      rw [if_neg (by omega)]
      simp
    · split at h
      · rename_i x'
        cases h
        refine ⟨_, rfl, fun yk P w => ?_⟩
        simp only [Op.shift, minN_eq, bitsA_eq, Int.ofNat_eq_natCast, Int.toNat_natCast]
        rw [if_neg (by omega)]
        simp only [Sem.run_pure]
        congr 2
        rw [Int.fdiv_eq_ediv_of_nonneg _ (by exact_mod_cast Nat.zero_le _)]
        norm_cast
      · cases h
        refine ⟨_, rfl, fun yk P w => ?_⟩
        simp only [Op.shift, minN_eq, bitsA_eq, Int.ofNat_eq_natCast, Int.toNat_natCast]
        rw [if_neg (by omega)]
        simp
    · cases h
  · cases h

end Go.Abs
