/-
  When two systems clash, and what may be done in either order: no program in sight.
-/
import Derived.Test.YtmocljblfccglaaBeastMath
namespace Go.Proofs.Ytmocljblfccglaa
open Go.RowKit

def clashI (s t : Sys) : Bool := bits .or .i64 (bits .and .i64 s.write (bits .or .i64 t.read t.write)) (bits .and .i64 t.write s.read) != 0

theorem toInt_small {x : Nat} (h : x < 256) : (BitVec.ofNat 64 x).toInt = (x : Int) := by
  rw [BitVec.toInt_eq_toNat_cond, BitVec.toNat_ofNat, Nat.mod_eq_of_lt (by omega), if_pos (by omega)]
theorem ofInt_small {a : Int} (h : 0 ≤ a ∧ a ≤ 255) : BitVec.ofInt 64 a = BitVec.ofNat 64 a.toNat := by
  have := BitVec.ofInt_natCast 64 a.toNat
  rwa [Int.toNat_of_nonneg h.1] at this
theorem m8_or (a b : Int) (ha : 0 ≤ a ∧ a ≤ 255) (hb : 0 ≤ b ∧ b ≤ 255) : bits .or .i64 a b = ((a.toNat ||| b.toNat : Nat) : Int) ∧ a.toNat ||| b.toNat < 256 := by
  have hlt : a.toNat ||| b.toNat < 2 ^ 8 := Nat.or_lt_two_pow (by omega) (by omega)
  refine ⟨?_, hlt⟩
  rw [bits_or, ofInt_small ha, ofInt_small hb, ← BitVec.ofNat_or, toInt_small hlt]

theorem clash_iff {s t : Sys} (h1 : isSetB s.read = true) (h2 : isSetB s.write = true) (h3 : isSetB t.read = true) (h4 : isSetB t.write = true) :
    clashI s t = true ↔ ∃ k, k < 8 ∧ ((s.write.toNat.testBit k = true ∧ (t.read.toNat.testBit k = true ∨ t.write.toNat.testBit k = true)) ∨ (t.write.toNat.testBit k = true ∧ s.read.toNat.testBit k = true)) := by
  simp only [isSetB, Bool.and_eq_true, decide_eq_true_eq] at h1 h2 h3 h4
  obtain ⟨e1, l1⟩ := m8_or _ _ h3 h4
  obtain ⟨e2, l2⟩ := m8_and s.write ((t.read.toNat ||| t.write.toNat : Nat) : Int) h2 (by omega)
  obtain ⟨e3, l3⟩ := m8_and t.write s.read h4 h1
  unfold clashI
  rw [e1, e2, e3]
  obtain ⟨e4, l4⟩ := m8_or ((s.write.toNat &&& ((t.read.toNat ||| t.write.toNat : Nat) : Int).toNat : Nat) : Int) ((t.write.toNat &&& s.read.toNat : Nat) : Int) (by omega) (by omega)
  rw [e4]
  simp only [Int.toNat_natCast] at *
  generalize hX : (s.write.toNat &&& (t.read.toNat ||| t.write.toNat)) ||| (t.write.toNat &&& s.read.toNat) = X at *
  have hbit : ∀ k, X.testBit k = ((s.write.toNat.testBit k && (t.read.toNat.testBit k || t.write.toNat.testBit k)) || (t.write.toNat.testBit k && s.read.toNat.testBit k)) := by
    intro k; rw [← hX]; simp [Nat.testBit_or, Nat.testBit_and]
  constructor
  · intro h
    have hne : X ≠ 0 := by intro h0; rw [h0] at h; simp at h
    obtain ⟨k, hk⟩ := Nat.exists_testBit_of_ne_zero hne
    refine ⟨k, ?_, ?_⟩
    · apply Decidable.byContradiction
      intro hk8
      have hlt : X < 2 ^ k := Nat.lt_of_lt_of_le l4 (Nat.le_trans (by decide : 256 ≤ 2 ^ 8) (Nat.pow_le_pow_right (by omega) (by omega)))
      rw [Nat.testBit_lt_two_pow hlt] at hk
      exact absurd hk (by simp)
    · rw [hbit] at hk
      simpa using hk
  · rintro ⟨k, _, hk⟩
    have hk' : X.testBit k = true := by rw [hbit]; simpa using hk
    have hne : X ≠ 0 := by intro h0; rw [h0] at hk'; simp at hk'
    simp; omega
theorem clash_comm {s t : Sys} (h1 : isSetB s.read = true) (h2 : isSetB s.write = true) (h3 : isSetB t.read = true) (h4 : isSetB t.write = true) : clashI t s = clashI s t := by
  have a := clash_iff h1 h2 h3 h4
  have b := clash_iff h3 h4 h1 h2
  rw [Bool.eq_iff_iff, a, b]
  constructor
  · rintro ⟨k, hk, h⟩
    refine ⟨k, hk, ?_⟩
    rcases h with ⟨h, h' | h'⟩ | ⟨h, h'⟩
    · exact Or.inr ⟨h, h'⟩
    · exact Or.inl ⟨h', Or.inr h⟩
    · exact Or.inl ⟨h, Or.inl h'⟩
  · rintro ⟨k, hk, h⟩
    refine ⟨k, hk, ?_⟩
    rcases h with ⟨h, h' | h'⟩ | ⟨h, h'⟩
    · exact Or.inr ⟨h, h'⟩
    · exact Or.inl ⟨h', Or.inr h⟩
    · exact Or.inl ⟨h, Or.inl h'⟩

theorem beast_ext {a b : Beast} (hk : a.k = b.k) (ha : a.v.length = 8) (hb : b.v.length = 8) (h : ∀ k, k < 8 → a.v.getD k 0 = b.v.getD k 0) : a = b := by
  cases a with | mk ak av => cases b with | mk bk bv =>
  simp only at hk ha hb h
  subst hk
  congr 1
  apply List.ext_getElem (by omega)
  intro i h1 h2
  have := h i (by omega)
  simpa [List.getD, List.getElem?_eq_getElem h1, List.getElem?_eq_getElem h2] using this

theorem wl_k {b b' : Beast} (h : b'.k = b.k) (s : Sys) : wl b' s = wl b s := by unfold wl; rw [h]
theorem rl_k {b b' : Beast} (h : b'.k = b.k) (s : Sys) : rl b' s = rl b s := by unfold rl; rw [h]
theorem newVal_congr {b b' : Beast} {s : Sys} {l : List Nat} {i : Nat} (hk : b'.k = b.k) (hi : i < l.length) (h1 : ∀ k ∈ l, b'.v.getD k 0 = b.v.getD k 0) (h2 : s.act = 2 → ∀ k ∈ rl b s, b'.v.getD k 0 = b.v.getD k 0) : newVal b' s l i = newVal b s l i := by
  have hm : ∀ j, j < l.length → l.getD j 0 ∈ l := fun j hj => by simp [List.getD, List.getElem?_eq_getElem hj]
  unfold newVal
  split
  · rw [h1 _ (hm i hi)]
  · split
    · rename_i h
      rw [rl_k hk]
      have : ∀ (l : List Nat) (a : Int), (∀ k ∈ l, b'.v.getD k 0 = b.v.getD k 0) → l.foldl (fun a k => a + b'.v.getD k 0) a = l.foldl (fun a k => a + b.v.getD k 0) a := by
        intro l
        induction l with
        | nil => intro a _; rfl
        | cons k l ih => intro a h; rw [List.foldl_cons, List.foldl_cons, h k (by simp), ih _ fun q hq => h q (by simp [hq])]
      unfold sumTo
      rw [this _ _ (h2 h)]
    · exact h1 _ (hm _ (Nat.mod_lt _ (by omega)))
theorem mem_rl (b : Beast) (s : Sys) (k : Nat) : k ∈ rl b s ↔ k < 8 ∧ b.k.toNat.testBit k = true ∧ s.read.toNat.testBit k = true := by
  unfold rl; rw [mem_kinds, Nat.testBit_and, Bool.and_eq_true]

/-- two that do not clash may be done in either order -/
theorem apart (b : Beast) (s t : Sys) (hb : b.v.length = 8) (h1 : isSetB s.read = true) (h2 : isSetB s.write = true) (h3 : isSetB t.read = true) (h4 : isSetB t.write = true) (hc : clashI s t = false) :
    doSys (doSys b s) t = doSys (doSys b t) s := by
  have hno : ∀ k, k < 8 → ¬ ((s.write.toNat.testBit k = true ∧ (t.read.toNat.testBit k = true ∨ t.write.toNat.testBit k = true)) ∨ (t.write.toNat.testBit k = true ∧ s.read.toNat.testBit k = true)) := by
    intro k hk h
    have := (clash_iff h1 h2 h3 h4).2 ⟨k, hk, h⟩
    rw [hc] at this; exact absurd this (by simp)
  have hsk : (doSys b s).k = b.k := doSys_k b s
  have htk : (doSys b t).k = b.k := doSys_k b t
  by_cases hqs : matchQ b.k s.q = true
  · by_cases hqt : matchQ b.k t.q = true
    · refine beast_ext (by rw [doSys_k, hsk, doSys_k, htk]) (by rw [doSys_len, doSys_len, hb]) (by rw [doSys_len, doSys_len, hb]) fun k hk => ?_
      by_cases hks : k ∈ wl b s
      · have hkt : k ∉ wl b t := fun h => by
          have a := (mem_wl _ _ _).1 hks
          have c := (mem_wl _ _ _).1 h
          exact hno k hk (Or.inl ⟨a.2.2, Or.inr c.2.2⟩)
        obtain ⟨j, hj, hjk⟩ := mem_getD hks
        rw [doSys_not (doSys b s) t k (by rw [wl_k hsk]; exact hkt)]
        have a := doSys_at b s hb hqs j hj
        have c := doSys_at (doSys b t) s (by rw [doSys_len, hb]) (by rw [htk]; exact hqs) j (by rw [wl_k htk]; exact hj)
        rw [wl_k htk, hjk] at c
        rw [hjk] at a
        rw [a, c]
        refine (newVal_congr htk hj (fun i hi => doSys_not b t i fun h => ?_) (fun _ i hi => doSys_not b t i fun h => ?_)).symm
        · have a := (mem_wl _ _ _).1 hi
          have c := (mem_wl _ _ _).1 h
          exact hno i a.1 (Or.inl ⟨a.2.2, Or.inr c.2.2⟩)
        · have a := (mem_rl _ _ _).1 hi
          have c := (mem_wl _ _ _).1 h
          exact hno i a.1 (Or.inr ⟨c.2.2, a.2.2⟩)
      · rw [doSys_not (doSys b t) s k (by rw [wl_k htk]; exact hks)]
        by_cases hkt : k ∈ wl b t
        · obtain ⟨j, hj, hjk⟩ := mem_getD hkt
          have a := doSys_at b t hb hqt j hj
          have c := doSys_at (doSys b s) t (by rw [doSys_len, hb]) (by rw [hsk]; exact hqt) j (by rw [wl_k hsk]; exact hj)
          rw [wl_k hsk, hjk] at c
          rw [hjk] at a
          rw [a, c]
          refine newVal_congr hsk hj (fun i hi => doSys_not b s i fun h => ?_) (fun _ i hi => doSys_not b s i fun h => ?_)
          · have a := (mem_wl _ _ _).1 hi
            have c := (mem_wl _ _ _).1 h
            exact hno i a.1 (Or.inl ⟨c.2.2, Or.inr a.2.2⟩)
          · have a := (mem_rl _ _ _).1 hi
            have c := (mem_wl _ _ _).1 h
            exact hno i a.1 (Or.inl ⟨c.2.2, Or.inl a.2.2⟩)
        · rw [doSys_not (doSys b s) t k (by rw [wl_k hsk]; exact hkt), doSys_not b s k hks, doSys_not b t k hkt]
    · have e : ∀ b' : Beast, b'.k = b.k → doSys b' t = b' := fun b' h => by unfold doSys; rw [h, if_neg hqt]
      rw [e _ hsk, e b rfl]
  · have e : ∀ b' : Beast, b'.k = b.k → doSys b' s = b' := fun b' h => by unfold doSys; rw [h, if_neg hqs]
    rw [e _ htk, e b rfl]

end Go.Proofs.Ytmocljblfccglaa
