/-
  Several texts in one (merged by a program of mine): MaskBits, BeastMath.
-/
import Derived.Test.YtpgcghnlepnoiaaGreatDoorTP2
import Derived.Laws.BitsLemmas
set_option linter.unusedVariables false
set_option linter.unusedSimpArgs false
set_option linter.unusedSectionVars false
/-
  Plain facts on numbers bit by bit, for the laws on queries: no program in sight.
-/
namespace Go.Proofs.YtpgcghnlepnoiaaGreatDoor
open Go.RowKit

theorem wrap_toNat (X : BitVec 64) : IntKind.i64.wrap (X.toNat : Int) = X.toInt := by
  have h := X.isLt
  rw [IntKind.wrap_i64, BitVec.toInt_eq_toNat_cond]
  split <;> omega
theorem bits_and (a b : Int) : bits .and .i64 a b = (BitVec.ofInt 64 a &&& BitVec.ofInt 64 b).toInt := wrap_toNat _
theorem bits_or (a b : Int) : bits .or .i64 a b = (BitVec.ofInt 64 a ||| BitVec.ofInt 64 b).toInt := wrap_toNat _
theorem toInt_of {a : Int} (h : -9223372036854775808 ≤ a ∧ a ≤ 9223372036854775807) : (BitVec.ofInt 64 a).toInt = a := by
  rw [BitVec.toInt_ofInt]
  exact Int.bmod_eq_of_le (by omega) (by omega)

/-- what mask.Matches answers, bit by bit -/
def matchB (m a b c : Int) : Bool := (bits .and .i64 m a == a) && (bits .and .i64 m b == 0) && (c == 0 || bits .and .i64 m c != 0)

def Fits (a : Int) : Prop := -9223372036854775808 ≤ a ∧ a ≤ 9223372036854775807
theorem and_zero (m : Int) : bits .and .i64 m 0 = 0 := by rw [bits_and]; simp
theorem and_self' {m : Int} (h : Fits m) : bits .and .i64 m m = m := by rw [bits_and]; simp [toInt_of h]

theorem and_eq_iff {m a : Int} (h : Fits a) : bits .and .i64 m a = a ↔ BitVec.ofInt 64 m &&& BitVec.ofInt 64 a = BitVec.ofInt 64 a := by
  rw [bits_and]
  constructor
  · intro e
    apply BitVec.eq_of_toInt_eq
    rw [e, toInt_of h]
  · intro e; rw [e, toInt_of h]
theorem and_zero_iff {m a : Int} : bits .and .i64 m a = 0 ↔ BitVec.ofInt 64 m &&& BitVec.ofInt 64 a = 0#64 := by
  rw [bits_and, ← BitVec.toInt_zero (w := 64), BitVec.toInt_inj]

theorem ofInt_or (m n : Int) : BitVec.ofInt 64 (bits .or .i64 m n) = BitVec.ofInt 64 m ||| BitVec.ofInt 64 n := by
  rw [bits_or, BitVec.ofInt_toInt]

theorem bv_more {M K A : BitVec 64} (h : M &&& A = A) : (M ||| K) &&& A = A := by
  ext i hi
  have := congrArg (fun x => x.getLsbD i) h
  simp only [BitVec.getLsbD_and] at this
  simp only [BitVec.getElem_and, BitVec.getElem_or]
  rw [BitVec.getLsbD_eq_getElem hi, BitVec.getLsbD_eq_getElem hi] at this
  revert this
  cases M[i] <;> cases K[i] <;> cases A[i] <;> simp
theorem bv_less {M K A : BitVec 64} (h : (M ||| K) &&& A = 0#64) : M &&& A = 0#64 := by
  ext i hi
  have := congrArg (fun x => x.getLsbD i) h
  simp only [BitVec.getLsbD_and, BitVec.getLsbD_or] at this
  simp only [BitVec.getElem_and]
  rw [BitVec.getLsbD_eq_getElem hi, BitVec.getLsbD_eq_getElem hi, BitVec.getLsbD_eq_getElem hi] at this
  revert this
  cases M[i] <;> cases K[i] <;> cases A[i] <;> simp

theorem need_more {m more a c : Int} (ha : Fits a) (h : matchB m a 0 c = true) : matchB (bits .or .i64 m more) a 0 c = true := by
  simp only [matchB, Bool.and_eq_true, Bool.or_eq_true, beq_iff_eq, bne_iff_ne, ne_eq] at h ⊢
  obtain ⟨⟨h1, _⟩, h3⟩ := h
  refine ⟨⟨?_, and_zero _⟩, ?_⟩
  · rw [and_eq_iff ha] at h1 ⊢
    rw [ofInt_or]; exact bv_more h1
  · rcases h3 with h3 | h3
    · exact Or.inl h3
    · refine Or.inr fun e => h3 ?_
      rw [and_zero_iff] at e ⊢
      rw [ofInt_or] at e
      exact bv_less e
theorem not_less {m more b : Int} (h : matchB (bits .or .i64 m more) 0 b 0 = true) : matchB m 0 b 0 = true := by
  simp only [matchB, Bool.and_eq_true, Bool.or_eq_true, beq_iff_eq, bne_iff_ne, ne_eq] at h ⊢
  obtain ⟨⟨_, h2⟩, _⟩ := h
  refine ⟨⟨and_zero _, ?_⟩, Or.inl trivial⟩
  rw [and_zero_iff] at h2 ⊢
  rw [ofInt_or] at h2
  exact bv_less h2
theorem parts {m a b c : Int} : matchB m a b c = (matchB m a 0 0 && matchB m 0 b 0 && matchB m 0 0 c) := by
  simp [matchB, and_zero]
theorem matches_none (m : Int) : matchB m 0 0 0 = true := by simp [matchB, and_zero]
theorem matches_self {m : Int} (h : Fits m) : matchB m m 0 0 = true := by simp [matchB, and_zero, and_self' h]

end Go.Proofs.YtpgcghnlepnoiaaGreatDoor

/-
  Beasts, queries and systems as plain data, and what the small checks answer: no program in sight.
-/
namespace Go.Proofs.YtpgcghnlepnoiaaGreatDoor
open Go.RowKit

structure Beast where
  k : Int
  v : List Int
def Beast.list (b : Beast) : List Int := b.k :: b.v
structure Query where
  need : Int
  nt : Int
  any : Int
def Query.list (q : Query) : List Int := [q.need, q.nt, q.any]
structure Sys where
  q : Query
  read : Int
  write : Int
  act : Int
  n : Int
def Sys.list (s : Sys) : List Int := [s.q.need, s.q.nt, s.q.any, s.read, s.write, s.act, s.n]

def isSetB (m : Int) : Bool := decide (0 ≤ m) && decide (m ≤ 255)
/-- the error of one value -/
def valErr (b : Beast) (j : Nat) : Int :=
  if b.k.toNat.testBit j = false ∧ b.v.getD j 0 ≠ 0 then 4 else if b.v.getD j 0 < -1000000000 ∨ 1000000000 < b.v.getD j 0 then 1 else 0
def firstErr : List Int → Int
  | [] => 0
  | e :: r => if e = 0 then firstErr r else e
def beastErr (b : Beast) : Int := if isSetB b.k then firstErr ((List.range 8).map (valErr b)) else 1
def queryErr (q : Query) : Int := if isSetB q.need && isSetB q.nt && isSetB q.any then 0 else 1
def sysErr (s : Sys) : Int :=
  if queryErr s.q ≠ 0 then queryErr s.q
  else if !(isSetB s.read) || !(isSetB s.write) || decide (s.act < 1) || decide (3 < s.act) || decide (s.n < -1000000) || decide (1000000 < s.n) then 1
  else if (decide (s.act = 3) && decide (s.n ≠ 0)) || (decide (s.act ≠ 2) && decide (s.read ≠ 0)) then 4 else 0
def matchQ (m : Int) (q : Query) : Bool := matchB m q.need q.nt q.any

theorem firstErr_append (l r : List Int) (h : ∀ e ∈ l, e = 0) : firstErr (l ++ r) = firstErr r := by
  induction l with
  | nil => rfl
  | cons a l ih =>
    rw [List.cons_append, firstErr, if_pos (h a (by simp)), ih fun e he => h e (by simp [he])]
/-- the first value that is wrong -/
theorem beastErr_at (b : Beast) (j : Nat) (hj : j < 8) (hs : isSetB b.k = true) (h0 : ∀ i, i < j → valErr b i = 0) (he : valErr b j ≠ 0) : beastErr b = valErr b j := by
  unfold beastErr
  rw [if_pos hs, show (8 : Nat) = j + (1 + (7 - j)) from by omega, List.range_add, List.map_append, firstErr_append _ _ (by simpa using h0), Nat.add_comm 1, List.range_succ_eq_map]
  simp [firstErr, he]
theorem beastErr_none (b : Beast) (hs : isSetB b.k = true) (h0 : ∀ i, i < 8 → valErr b i = 0) : beastErr b = 0 := by
  unfold beastErr
  rw [if_pos hs]
  have := firstErr_append ((List.range 8).map (valErr b)) [] (by simpa using h0)
  rw [List.append_nil] at this
  exact this
theorem beast_ok (b : Beast) (h : beastErr b = 0) : (0 ≤ b.k ∧ b.k ≤ 255) ∧ ∀ j, j < 8 → (b.k.toNat.testBit j = false → b.v.getD j 0 = 0) ∧ -1000000000 ≤ b.v.getD j 0 ∧ b.v.getD j 0 ≤ 1000000000 := by
  have hs : isSetB b.k = true := by
    unfold beastErr at h; split at h
    · assumption
    · simp at h
  refine ⟨by simpa [isSetB] using hs, ?_⟩
  have hall : ∀ j, j < 8 → valErr b j = 0 := by
    intro j
    induction j using Nat.strongRecOn with
    | ind j ih =>
      intro hj
      by_cases he : valErr b j = 0
      · exact he
      · have := beastErr_at b j hj hs (fun i hi => ih i hi (by omega)) he
        exact absurd (this.symm.trans h) he
  intro j hj
  have hv := hall j hj
  unfold valErr at hv
  split at hv
  · simp at hv
  · rename_i h1
    split at hv
    · simp at hv
    · rename_i h2
      refine ⟨fun hb => ?_, by omega⟩
      by_cases hz : b.v.getD j 0 = 0
      · exact hz
      · exact absurd ⟨hb, hz⟩ h1
theorem beast_mk (b : Beast) (hk : 0 ≤ b.k ∧ b.k ≤ 255) (h : ∀ j, j < 8 → (b.k.toNat.testBit j = false → b.v.getD j 0 = 0) ∧ -1000000000 ≤ b.v.getD j 0 ∧ b.v.getD j 0 ≤ 1000000000) : beastErr b = 0 := by
  refine beastErr_none b (by simpa [isSetB] using hk) fun j hj => ?_
  obtain ⟨h1, h2, h3⟩ := h j hj
  unfold valErr
  rw [if_neg (fun hh => hh.2 (h1 hh.1)), if_neg (by omega)]

def cutI (n : Int) : Int := if n < -1000000000 then -1000000000 else if 1000000000 < n then 1000000000 else n
/-- the kinds that a system writes, and reads, of a beast -/
def wl (b : Beast) (s : Sys) : List Nat := kinds (b.k.toNat &&& s.write.toNat)
def rl (b : Beast) (s : Sys) : List Nat := kinds (b.k.toNat &&& s.read.toNat)
def sumTo (b : Beast) (s : Sys) (l : List Nat) : Int := l.foldl (fun a k => a + b.v.getD k 0) s.n
def newVal (b : Beast) (s : Sys) (l : List Nat) (i : Nat) : Int :=
  if s.act = 1 then cutI (b.v.getD (l.getD i 0) 0 + s.n) else if s.act = 2 then cutI (sumTo b s (rl b s)) else b.v.getD (l.getD ((i + 1) % l.length) 0) 0
def outN (f : Nat → Int) (l : List Nat) (v : List Int) : Nat → List Int
  | 0 => v
  | i + 1 => (outN f l v i).set (l.getD i 0) (f i)
def doSys (b : Beast) (s : Sys) : Beast := if matchQ b.k s.q then ⟨b.k, outN (newVal b s (wl b s)) (wl b s) b.v (wl b s).length⟩ else b

def zeroBeast : Beast := ⟨0, [0, 0, 0, 0, 0, 0, 0, 0]⟩
def stepRes (b : Beast) (s : Sys) : Beast × Int := if sysErr s = 0 then if beastErr b = 0 then (doSys b s, 0) else (zeroBeast, beastErr b) else (zeroBeast, sysErr s)

theorem outN_len (f : Nat → Int) (l : List Nat) (v : List Int) (i : Nat) : (outN f l v i).length = v.length := by
  induction i with
  | zero => rfl
  | succ i ih => simp [outN, ih]

theorem getD_lt {l : List Nat} {j : Nat} (h : j < l.length) : l.getD j 0 = l[j] := by simp [List.getD, List.getElem?_eq_getElem h]
theorem getD_set (v : List Int) (i k : Nat) (x : Int) : (v.set i x).getD k 0 = if i = k ∧ k < v.length then x else v.getD k 0 := by
  simp only [List.getD, List.getElem?_set]
  by_cases h : i = k
  · subst h
    by_cases h2 : i < v.length
    · simp [h2]
    · simp [h2]
  · simp [h]
theorem outN_at (f : Nat → Int) (l : List Nat) (v : List Int) (hn : l.Nodup) : ∀ i, i ≤ l.length → ∀ j, j < i → l.getD j 0 < v.length → (outN f l v i).getD (l.getD j 0) 0 = f j := by
  intro i
  induction i with
  | zero => intro _ j hj; omega
  | succ i ih =>
    intro hi j hj hv
    unfold outN
    rw [getD_set, outN_len]
    by_cases hji : j = i
    · subst hji
      rw [if_pos ⟨rfl, hv⟩]
    · rw [if_neg]
      · exact ih (by omega) j (by omega) hv
      · rintro ⟨e, _⟩
        rw [getD_lt (show i < l.length by omega), getD_lt (show j < l.length by omega)] at e
        exact (List.pairwise_iff_getElem.1 (List.nodup_iff_pairwise_ne.1 hn) j i (by omega) (by omega) (by omega)) e.symm
theorem outN_not (f : Nat → Int) (l : List Nat) (v : List Int) (k : Nat) (hk : k ∉ l) : ∀ i, i ≤ l.length → (outN f l v i).getD k 0 = v.getD k 0 := by
  intro i
  induction i with
  | zero => intro _; rfl
  | succ i ih =>
    intro hi
    unfold outN
    rw [getD_set, if_neg]
    · exact ih (by omega)
    · rintro ⟨e, _⟩
      rw [getD_lt (show i < l.length by omega)] at e
      exact hk (e ▸ List.getElem_mem _)
theorem mem_getD {l : List Nat} {k : Nat} (h : k ∈ l) : ∃ j, j < l.length ∧ l.getD j 0 = k := by
  obtain ⟨j, hj, e⟩ := List.mem_iff_getElem.1 h
  exact ⟨j, hj, by simp [List.getD, List.getElem?_eq_getElem hj, e]⟩

theorem doSys_k (b : Beast) (s : Sys) : (doSys b s).k = b.k := by unfold doSys; split <;> rfl
theorem doSys_len (b : Beast) (s : Sys) : (doSys b s).v.length = b.v.length := by unfold doSys; split <;> simp [outN_len]
theorem wl_nodup (b : Beast) (s : Sys) : (wl b s).Nodup := kinds_nodup _
theorem mem_wl (b : Beast) (s : Sys) (k : Nat) : k ∈ wl b s ↔ k < 8 ∧ b.k.toNat.testBit k = true ∧ s.write.toNat.testBit k = true := by
  unfold wl; rw [mem_kinds, Nat.testBit_and, Bool.and_eq_true]
theorem doSys_not (b : Beast) (s : Sys) (k : Nat) (hk : k ∉ wl b s) : (doSys b s).v.getD k 0 = b.v.getD k 0 := by
  unfold doSys
  split
  · exact outN_not _ _ _ _ hk _ (Nat.le_refl _)
  · rfl
theorem doSys_at (b : Beast) (s : Sys) (hb : b.v.length = 8) (hq : matchQ b.k s.q = true) (j : Nat) (hj : j < (wl b s).length) : (doSys b s).v.getD ((wl b s).getD j 0) 0 = newVal b s (wl b s) j := by
  unfold doSys
  rw [if_pos hq]
  refine outN_at _ _ _ (wl_nodup b s) _ (Nat.le_refl _) j hj ?_
  have hm : (wl b s).getD j 0 ∈ wl b s := by simp [List.getD, List.getElem?_eq_getElem hj]
  have := ((mem_wl b s _).1 hm).1
  omega
theorem cutI_bound (n : Int) : -1000000000 ≤ cutI n ∧ cutI n ≤ 1000000000 := by unfold cutI; split <;> (try split) <;> omega
theorem doSys_ok (b : Beast) (s : Sys) (hb : b.v.length = 8) (he : beastErr b = 0) : beastErr (doSys b s) = 0 := by
  obtain ⟨hk, hv⟩ := beast_ok b he
  refine beast_mk _ (by rw [doSys_k]; exact hk) fun j hj => ?_
  rw [doSys_k]
  by_cases hm : matchQ b.k s.q = true ∧ j ∈ wl b s
  · have hq := hm.1
    have hm := hm.2
    obtain ⟨i, hi, hij⟩ := mem_getD hm
    have hat := doSys_at b s hb hq i hi
    rw [hij] at hat
    have hbit := ((mem_wl b s j).1 hm).2.1
    refine ⟨fun h => absurd (hbit.symm.trans h) (by simp), ?_⟩
    rw [hat]
    unfold newVal
    split
    · exact cutI_bound _
    · split
      · exact cutI_bound _
      · have hlt : (i + 1) % (wl b s).length < (wl b s).length := Nat.mod_lt _ (by omega)
        have hm2 : (wl b s).getD ((i + 1) % (wl b s).length) 0 ∈ wl b s := by simp [List.getD, List.getElem?_eq_getElem hlt]
        exact (hv _ ((mem_wl b s _).1 hm2).1).2
  · have hat : (doSys b s).v.getD j 0 = b.v.getD j 0 := by
      by_cases hq : matchQ b.k s.q = true
      · exact doSys_not b s j fun h => hm ⟨hq, h⟩
      · unfold doSys; rw [if_neg hq]
    rw [hat]
    exact hv j hj

theorem m8_and : ∀ a b : Int, 0 ≤ a ∧ a ≤ 255 → 0 ≤ b ∧ b ≤ 255 → bits .and .i64 a b = ((a.toNat &&& b.toNat : Nat) : Int) ∧ a.toNat &&& b.toNat < 256 := by
  have h : ∀ a b : Fin 256, bits .and .i64 (a.val : Int) (b.val : Int) = ((a.val &&& b.val : Nat) : Int) ∧ a.val &&& b.val < 256 := by
    intro a b
    have ha := a.isLt
    have hb := b.isLt
    have hlt : a.val &&& b.val < 256 := Nat.lt_of_le_of_lt Nat.and_le_left ha
    refine ⟨?_, hlt⟩
    rw [bits_and]
    have e1 : ∀ x : Nat, x < 256 → BitVec.ofInt 64 (x : Int) = BitVec.ofNat 64 x := fun x _ => by rw [BitVec.ofInt_natCast]
    rw [e1 _ ha, e1 _ hb, ← BitVec.ofNat_and, BitVec.toInt_eq_toNat_cond, BitVec.toNat_ofNat, Nat.mod_eq_of_lt (by omega)]
    rw [if_pos (by omega)]
  intro a b ha hb
  have := h ⟨a.toNat, by omega⟩ ⟨b.toNat, by omega⟩
  simp only [Int.toNat_of_nonneg ha.1, Int.toNat_of_nonneg hb.1] at this
  exact this

end Go.Proofs.YtpgcghnlepnoiaaGreatDoor
