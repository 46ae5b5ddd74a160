/-
  Values that go round: no program in sight.
-/
import Derived.Test.YtmocljblfccglaaClashMath
namespace Go.Proofs.Ytmocljblfccglaa
open Go.RowKit

def swapS (m : Int) : Sys := ⟨⟨0, 0, 0⟩, 0, m, 3, 0⟩
def rotN (b : Beast) (m : Int) : Nat → Beast
  | 0 => b
  | j + 1 => doSys (rotN b m j) (swapS m)
/-- the sum of the first k values -/
def psum (v : List Int) : Nat → Int
  | 0 => 0
  | k + 1 => psum v k + v.getD k 0

theorem swap_err (m : Int) (h : 0 ≤ m ∧ m ≤ 255) : sysErr (swapS m) = 0 := by
  simp [sysErr, queryErr, swapS, isSetB, h.1, h.2]
theorem rotN_k (b : Beast) (m : Int) : ∀ j, (rotN b m j).k = b.k
  | 0 => rfl
  | j + 1 => (doSys_k _ _).trans (rotN_k b m j)
theorem rotN_len (b : Beast) (m : Int) : ∀ j, (rotN b m j).v.length = b.v.length
  | 0 => rfl
  | j + 1 => (doSys_len _ _).trans (rotN_len b m j)
theorem rotN_ok (b : Beast) (m : Int) (hb : b.v.length = 8) (he : beastErr b = 0) : ∀ j, beastErr (rotN b m j) = 0
  | 0 => he
  | j + 1 => doSys_ok _ _ ((rotN_len b m j).trans hb) (rotN_ok b m hb he j)

theorem matchQ_none (m k : Int) : matchQ k (swapS m).q = true := matches_none k
theorem swap_at (b : Beast) (m : Int) (hb : b.v.length = 8) (i : Nat) (hi : i < (wl b (swapS m)).length) :
    (doSys b (swapS m)).v.getD ((wl b (swapS m)).getD i 0) 0 = b.v.getD ((wl b (swapS m)).getD ((i + 1) % (wl b (swapS m)).length) 0) 0 := by
  rw [doSys_at b _ hb (matchQ_none _ _) i hi]
  unfold newVal
  rw [if_neg (by simp [swapS]), if_neg (by simp [swapS])]
theorem rotN_at (b : Beast) (m : Int) (hb : b.v.length = 8) : ∀ j i, i < (wl b (swapS m)).length →
    (rotN b m j).v.getD ((wl b (swapS m)).getD i 0) 0 = b.v.getD ((wl b (swapS m)).getD ((i + j) % (wl b (swapS m)).length) 0) 0 := by
  intro j
  induction j with
  | zero => intro i hi; rw [Nat.add_zero, Nat.mod_eq_of_lt hi]; rfl
  | succ j ih =>
    intro i hi
    have hw : wl (rotN b m j) (swapS m) = wl b (swapS m) := wl_k (rotN_k b m j) _
    have h := swap_at (rotN b m j) m ((rotN_len b m j).trans hb) i (by rw [hw]; exact hi)
    rw [hw] at h
    show (doSys (rotN b m j) (swapS m)).v.getD _ 0 = _
    rw [h, ih _ (Nat.mod_lt _ (by omega)), Nat.mod_add_mod]
    congr 2
    congr 1
    omega
theorem rotN_not (b : Beast) (m : Int) (k : Nat) (hk : k ∉ wl b (swapS m)) : ∀ j, (rotN b m j).v.getD k 0 = b.v.getD k 0
  | 0 => rfl
  | j + 1 => (doSys_not _ _ k (by rw [wl_k (rotN_k b m j)]; exact hk)).trans (rotN_not b m k hk j)
/-- as many times as there are, and they are where they were -/
theorem rotN_round (b : Beast) (m : Int) (hb : b.v.length = 8) : rotN b m (wl b (swapS m)).length = b := by
  refine beast_ext (rotN_k _ _ _) ((rotN_len _ _ _).trans hb) hb fun k _ => ?_
  by_cases hk : k ∈ wl b (swapS m)
  · obtain ⟨i, hi, hik⟩ := mem_getD hk
    have h := rotN_at b m hb (wl b (swapS m)).length i hi
    rw [Nat.add_mod_right, Nat.mod_eq_of_lt hi, hik] at h
    exact h
  · exact rotN_not b m k hk _

def isum : List Int → Int
  | [] => 0
  | a :: l => a + isum l
theorem isum_append (l r : List Int) : isum (l ++ r) = isum l + isum r := by
  induction l with
  | nil => simp [isum]
  | cons a l ih => simp [isum, ih]; omega
theorem isum_perm {l r : List Int} (h : l.Perm r) : isum l = isum r := by
  induction h with
  | nil => rfl
  | cons a _ ih => simp [isum, ih]
  | swap a b l => simp [isum]; omega
  | trans _ _ a b => exact a.trans b
theorem psum_isum (v : List Int) (k : Nat) : psum v k = isum ((List.range k).map fun i => v.getD i 0) := by
  induction k with
  | zero => rfl
  | succ k ih => rw [List.range_succ, List.map_append, isum_append, ← ih]; simp [psum, isum]
theorem split_sum (f : Nat → Int) (p : Nat → Bool) (l : List Nat) : isum (l.map f) = isum ((l.filter p).map f) + isum ((l.filter fun x => !p x).map f) := by
  induction l with
  | nil => rfl
  | cons a l ih =>
    cases h : p a <;> simp [h, isum, ih] <;> omega
theorem rot1_sum (f g : Nat → Int) (l : List Nat) (h : ∀ i, i < l.length → g (l.getD i 0) = f (l.getD ((i + 1) % l.length) 0)) : isum (l.map g) = isum (l.map f) := by
  have e : l.map g = (l.map f).drop 1 ++ (l.map f).take 1 := by
    apply List.ext_getElem
    · simp; omega
    · intro i h1 h2
      have hi : i < l.length := by simpa using h1
      have a := h i hi
      rw [getD_lt hi, getD_lt (Nat.mod_lt _ (by omega))] at a
      rw [List.getElem_map, a, List.getElem_append]
      by_cases hl : i + 1 < l.length
      · rw [dif_pos (by simp; omega)]
        simp only [Nat.mod_eq_of_lt hl, List.getElem_drop, List.getElem_map, Nat.add_comm]
      · have : i + 1 = l.length := by omega
        rw [dif_neg (by simp; omega)]
        have hz : i - (l.length - 1) = 0 := by omega
        simp [this, List.getElem_take, hz]
  rw [e, isum_perm List.perm_append_comm, List.take_append_drop]
theorem swap_sum (b : Beast) (m : Int) (hb : b.v.length = 8) : psum (doSys b (swapS m)).v 8 = psum b.v 8 := by
  rw [psum_isum, psum_isum, split_sum _ (fun k => (b.k.toNat &&& (swapS m).write.toNat).testBit k), split_sum (fun i => b.v.getD i 0) (fun k => (b.k.toNat &&& (swapS m).write.toNat).testBit k)]
  have h1 : isum ((wl b (swapS m)).map fun i => (doSys b (swapS m)).v.getD i 0) = isum ((wl b (swapS m)).map fun i => b.v.getD i 0) :=
    rot1_sum _ _ _ fun i hi => swap_at b m hb i hi
  have h2 : ((List.range 8).filter fun k => !(b.k.toNat &&& (swapS m).write.toNat).testBit k).map (fun i => (doSys b (swapS m)).v.getD i 0) = ((List.range 8).filter fun k => !(b.k.toNat &&& (swapS m).write.toNat).testBit k).map (fun i => b.v.getD i 0) := by
    apply List.map_congr_left
    intro k hk
    refine doSys_not b _ k fun h => ?_
    have a := (mem_kinds _ _).1 h
    rw [List.mem_filter, a.2] at hk
    simp at hk
  unfold wl kinds at h1
  rw [h1, h2]
theorem psum_bound (b : Beast) (he : beastErr b = 0) : ∀ k : Nat, k ≤ 8 → -1000000000 * (k : Int) ≤ psum b.v k ∧ psum b.v k ≤ 1000000000 * (k : Int) := by
  intro k
  induction k with
  | zero => intro _; simp [psum]
  | succ k ih =>
    intro hk
    have h1 := ih (by omega)
    have h2 := ((beast_ok b he).2 k (by omega)).2
    unfold psum
    omega

end Go.Proofs.Ytmocljblfccglaa
