/-
  Plain facts on numbers bit by bit, for the laws on queries: no program in sight.
-/
import Derived.Test.YtpgdobomcdpdbaaMaskMath
import Derived.Laws.BitsLemmas
namespace Go.Proofs.Ytpgdobomcdpdbaa
open Go.RowKit

theorem wrap_toNat (X : BitVec 64) : IntKind.i64.wrap (X.toNat : Int) = X.toInt := by
  have h := X.isLt
  rw [IntKind.wrap_i64, BitVec.toInt_eq_toNat_cond]
  split <;> omega
theorem bits_and (a b : Int) : bits .and .i64 a b = (BitVec.ofInt 64 a &&& BitVec.ofInt 64 b).toInt := wrap_toNat _
theorem bits_or (a b : Int) : bits .or .i64 a b = (BitVec.ofInt 64 a ||| BitVec.ofInt 64 b).toInt := wrap_toNat _
theorem toInt_of {a : Int} (h : -9223372036854775808 ≤ a ∧ a ≤ 9223372036854775807) : (BitVec.ofInt 64 a).toInt = a := by
  rw [BitVec.toInt_ofInt]
  exact Int.bmod_eq_of_le (by omega) (by omega)

/-- what mask.Matches answers, bit by bit -/
def matchB (m a b c : Int) : Bool := (bits .and .i64 m a == a) && (bits .and .i64 m b == 0) && (c == 0 || bits .and .i64 m c != 0)

def Fits (a : Int) : Prop := -9223372036854775808 ≤ a ∧ a ≤ 9223372036854775807
theorem and_zero (m : Int) : bits .and .i64 m 0 = 0 := by rw [bits_and]; simp
theorem and_self' {m : Int} (h : Fits m) : bits .and .i64 m m = m := by rw [bits_and]; simp [toInt_of h]

theorem and_eq_iff {m a : Int} (h : Fits a) : bits .and .i64 m a = a ↔ BitVec.ofInt 64 m &&& BitVec.ofInt 64 a = BitVec.ofInt 64 a := by
  rw [bits_and]
  constructor
  · intro e
    apply BitVec.eq_of_toInt_eq
    rw [e, toInt_of h]
  · intro e; rw [e, toInt_of h]
theorem and_zero_iff {m a : Int} : bits .and .i64 m a = 0 ↔ BitVec.ofInt 64 m &&& BitVec.ofInt 64 a = 0#64 := by
  rw [bits_and, ← BitVec.toInt_zero (w := 64), BitVec.toInt_inj]

theorem ofInt_or (m n : Int) : BitVec.ofInt 64 (bits .or .i64 m n) = BitVec.ofInt 64 m ||| BitVec.ofInt 64 n := by
  rw [bits_or, BitVec.ofInt_toInt]

theorem bv_more {M K A : BitVec 64} (h : M &&& A = A) : (M ||| K) &&& A = A := by
  ext i hi
  have := congrArg (fun x => x.getLsbD i) h
  simp only [BitVec.getLsbD_and] at this
  simp only [BitVec.getElem_and, BitVec.getElem_or]
  rw [BitVec.getLsbD_eq_getElem hi, BitVec.getLsbD_eq_getElem hi] at this
  revert this
  cases M[i] <;> cases K[i] <;> cases A[i] <;> simp
theorem bv_less {M K A : BitVec 64} (h : (M ||| K) &&& A = 0#64) : M &&& A = 0#64 := by
  ext i hi
  have := congrArg (fun x => x.getLsbD i) h
  simp only [BitVec.getLsbD_and, BitVec.getLsbD_or] at this
  simp only [BitVec.getElem_and]
  rw [BitVec.getLsbD_eq_getElem hi, BitVec.getLsbD_eq_getElem hi, BitVec.getLsbD_eq_getElem hi] at this
  revert this
  cases M[i] <;> cases K[i] <;> cases A[i] <;> simp

theorem need_more {m more a c : Int} (ha : Fits a) (h : matchB m a 0 c = true) : matchB (bits .or .i64 m more) a 0 c = true := by
  simp only [matchB, Bool.and_eq_true, Bool.or_eq_true, beq_iff_eq, bne_iff_ne, ne_eq] at h ⊢
  obtain ⟨⟨h1, _⟩, h3⟩ := h
  refine ⟨⟨?_, and_zero _⟩, ?_⟩
  · rw [and_eq_iff ha] at h1 ⊢
    rw [ofInt_or]; exact bv_more h1
  · rcases h3 with h3 | h3
    · exact Or.inl h3
    · refine Or.inr fun e => h3 ?_
      rw [and_zero_iff] at e ⊢
      rw [ofInt_or] at e
      exact bv_less e
theorem not_less {m more b : Int} (h : matchB (bits .or .i64 m more) 0 b 0 = true) : matchB m 0 b 0 = true := by
  simp only [matchB, Bool.and_eq_true, Bool.or_eq_true, beq_iff_eq, bne_iff_ne, ne_eq] at h ⊢
  obtain ⟨⟨_, h2⟩, _⟩ := h
  refine ⟨⟨and_zero _, ?_⟩, Or.inl trivial⟩
  rw [and_zero_iff] at h2 ⊢
  rw [ofInt_or] at h2
  exact bv_less h2
theorem parts {m a b c : Int} : matchB m a b c = (matchB m a 0 0 && matchB m 0 b 0 && matchB m 0 0 c) := by
  simp [matchB, and_zero]
theorem matches_none (m : Int) : matchB m 0 0 0 = true := by simp [matchB, and_zero]
theorem matches_self {m : Int} (h : Fits m) : matchB m m 0 0 = true := by simp [matchB, and_zero, and_self' h]

end Go.Proofs.Ytpgdobomcdpdbaa
