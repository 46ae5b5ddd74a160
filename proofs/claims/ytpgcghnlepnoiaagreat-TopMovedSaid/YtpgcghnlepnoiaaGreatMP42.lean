/-
  Several texts in one (merged by a program of mine): FamGrow, FamUse.
-/
import Derived.Test.YtpgcghnlepnoiaaGreatMP41
set_option linter.unusedVariables false
set_option linter.unusedSimpArgs false
set_option linter.unusedSectionVars false
/-
  The closed fact 'related', and 'grown': a family by some ops.
-/
namespace Go.Proofs.YtpgcghnlepnoiaaGreat
open Go.RowKit

noncomputable def growR (m : Fam) (o : OpM) : Fam := if o.d = 5 then (adoptR m o.a o.t).1 else if o.d = 6 then (loosenR m o.a).1 else if o.d = 2 then goneR m o.a else m
noncomputable def growsR (os : List OpM) : Fam := os.foldl growR []
theorem growsR_snoc (os : List OpM) (o : OpM) : growsR (os ++ [o]) = growR (growsR os) o := by simp [growsR, List.foldl_append]
theorem growR_ok {m : Fam} (h : FamOk m) (o : OpM) : FamOk (growR m o) := by
  unfold growR
  split
  · exact h.adopt _ _
  · split
    · exact h.loosen _
    · split
      · exact h.gone _
      · exact h
theorem growR_len (m : Fam) (o : OpM) : (growR m o).length ≤ m.length + 1 := by
  unfold growR
  split
  · exact adopt_len _ _ _
  · split
    · exact Nat.le_succ_of_le (loosen_len _ _)
    · split
      · exact Nat.le_succ_of_le (gone_len _ _)
      · exact Nat.le_succ _
theorem grows_aux (os : List OpM) : ∀ m : Fam, FamOk m → FamOk (os.foldl growR m) ∧ (os.foldl growR m).length ≤ m.length + os.length := by
  induction os with
  | nil => exact fun m h => ⟨h, Nat.le_refl _⟩
  | cons o os ih =>
    intro m h
    have h1 := ih (growR m o) (growR_ok h o)
    have h2 := growR_len m o
    refine ⟨h1.1, ?_⟩
    have := h1.2
    rw [List.foldl_cons, List.length_cons]
    omega
theorem growsR_ok (os : List OpM) : FamOk (growsR os) := (grows_aux os [] FamOk.nil).1
theorem growsR_len (os : List OpM) : (growsR os).length ≤ os.length := by
  have := (grows_aux os [] FamOk.nil).2
  unfold growsR
  simpa using this


end Go.Proofs.YtpgcghnlepnoiaaGreat

/-
  Slices of handles and of bonds handed to vivariumref.Has and Eq; the closed fact 'related'.
-/
namespace Go.Proofs.YtpgcghnlepnoiaaGreat
open Go.RowKit

theorem mem_map_hL {x : Hd} {hs : List Hd} : decide (hL x ∈ hs.map hL) = decide (x ∈ hs) := by
  rw [Bool.eq_iff_iff, decide_eq_true_eq, decide_eq_true_eq, List.mem_map]
  constructor
  · rintro ⟨y, hy, e⟩
    rw [← hL_inj e]; exact hy
  · exact fun h => ⟨x, h, rfl⟩
theorem bL_inj {a b : Hd × Hd} (h : bL a = bL b) : a = b := by
  unfold bL at h
  injection h with h1 h
  injection h with h2 h
  injection h with h3 h
  injection h with h4 _
  exact Prod.ext (Prod.ext h1 h2) (Prod.ext h3 h4)

section
variable {G : Nat → Prop} {w0 w : World} {l : List Assn} {v u : Value}
theorem funder_in {p : Nat} {m : Fam} (h : In G w0 (FamA p m :: l) w) (hl : m.length ≤ 1099511627776) (a : Hd) :
    Calls Tryz.prog 31 #[.pointer (some ⟨p, 0, none⟩), hdV a] w fun e w' => ∃ v, e = .returned v ∧ In G w0 (RowH v (under m a) :: FamA p m :: l) w' := by
  obtain ⟨rk, R, hr⟩ := h.famOk.acyc
  exact funder_aux h.famOk hl rk R hr (R - rk a + 1) a (Nat.lt_succ_self _) h
end

def rm1 : Fam := [((2, 0), (1, 0))]
def rm2 : Fam := [((2, 0), (1, 0)), ((3, 0), (2, 0))]
theorem rel1 : adoptR [] (2, 0) (1, 0) = (rm1, 0) := by
  unfold adoptR
  rw [if_neg]
  · rfl
  · rintro (e | e)
    · simp at e
    · exact Up.none rfl e
theorem rel2 : adoptR rm1 (3, 0) (2, 0) = (rm2, 0) := by
  have hc : Chain rm1 (2, 0) [(1, 0)] := .cons rfl (.nil rfl)
  unfold adoptR
  rw [if_neg]
  · rfl
  · rintro (e | e)
    · simp at e
    · have := hc.mem.2 e
      simp at this
theorem rel3 : adoptR rm2 (1, 0) (3, 0) = (rm2, 8) := by
  unfold adoptR
  rw [if_pos (Or.inr (.more (p := (2, 0)) rfl (.one rfl)))]
theorem rel4 (hm : FamOk rm2) : under rm2 (1, 0) = [(2, 0), (3, 0)] := by
  have k1 : kids rm2 (1, 0) = [(2, 0)] := by unfold kids; rw [show kidsRaw rm2 (1, 0) = [(2, 0)] from by decide]; exact List.mergeSort_singleton _
  have k2 : kids rm2 (2, 0) = [(3, 0)] := by unfold kids; rw [show kidsRaw rm2 (2, 0) = [(3, 0)] from by decide]; exact List.mergeSort_singleton _
  have k3 : kids rm2 (3, 0) = [] := by unfold kids; rw [show kidsRaw rm2 (3, 0) = [] from by decide]; exact List.mergeSort_nil
  have u3 : under rm2 (3, 0) = [] := by rw [under_eq hm.nodup hm.acyc, k3]; rfl
  have u2 : under rm2 (2, 0) = [(3, 0)] := by rw [under_eq hm.nodup hm.acyc, k2]; simp [u3]
  rw [under_eq hm.nodup hm.acyc, k1]; simp [u2]


end Go.Proofs.YtpgcghnlepnoiaaGreat
