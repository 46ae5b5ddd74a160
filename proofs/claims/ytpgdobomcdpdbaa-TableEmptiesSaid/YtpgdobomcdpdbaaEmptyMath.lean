/-
  Plain facts for the law TableEmpties: a row cut out and the rows that stay are all the rows.
-/
import Derived.Test.YtpgdobomcdpdbaaTableFill
namespace Go.Proofs.Ytpgdobomcdpdbaa

theorem set_perm {α : Type} (d z : α) : ∀ (l : List α) (i : Nat), i < l.length → (l.getD i d :: l.set i z).Perm (z :: l)
  | [], _, h => by simp at h
  | a :: t, 0, _ => by simpa using List.Perm.swap z a t
  | a :: t, i + 1, h => by
    have h1 := set_perm d z t i (by simpa using h)
    have h2 : ((a :: t).getD (i + 1) d :: (a :: t).set (i + 1) z) = t.getD i d :: a :: t.set i z := by simp
    rw [h2]
    exact (List.Perm.swap a _ _).trans ((h1.cons a).trans (List.Perm.swap z a t))

theorem cutAt_perm {α : Type} (d : α) (l : List α) (i : Nat) (h : i < l.length) : (l.getD i d :: cutAt d l i).Perm l := by
  obtain ⟨l0, z, rfl⟩ : ∃ l0 z, l = l0 ++ [z] := ⟨l.dropLast, l.getLast (by intro e; rw [e] at h; simp at h), (List.dropLast_concat_getLast _).symm⟩
  have hl : (l0 ++ [z]).length - 1 = l0.length := by simp
  have hz : (l0 ++ [z]).getD l0.length d = z := by simp [List.getD]
  unfold cutAt
  rw [hl, hz]
  refine List.Perm.trans ?_ (List.perm_append_singleton z l0).symm
  by_cases hi : i < l0.length
  · have e1 : (l0 ++ [z]).getD i d = l0.getD i d := by simp [List.getD, List.getElem?_append_left hi]
    have e2 : ((l0 ++ [z]).set i z).take l0.length = l0.set i z := by
      rw [List.set_append_left _ _ hi]
      rw [show l0.length = (l0.set i z).length by simp, List.take_left]
    rw [e1, e2]
    exact set_perm d z l0 i hi
  · have he : i = l0.length := by simp at h; omega
    subst he
    have e2 : ((l0 ++ [z]).set l0.length z).take l0.length = l0 := by
      rw [List.set_append_right _ _ (by omega)]
      simp
    rw [hz, e2]

/-- the rows that are left: rows of the list, each in its place, no two of one slot, none of them seen -/
structure Left (rows cur : List RowM) (sn : List (Int × Bool)) : Prop where
  sub : ∀ r ∈ cur, ∃ j : Nat, j < rows.length ∧ r.h.1 = (j : Int) ∧ rows.getD j zeroRow = r
  nodup : (cur.map fun r => r.h.1).Nodup
  fresh : ∀ r ∈ cur, mget sn r.h.1 = none

theorem Left.step {rows cur : List RowM} {sn : List (Int × Bool)} (h : Left rows cur sn) {k : Nat} (hk : k < cur.length) : Left rows (cutAt zeroRow cur k) (mput sn (cur.getD k zeroRow).h.1 true) := by
  have hp := cutAt_perm zeroRow cur k hk
  have hn := (hp.map fun r : RowM => r.h.1).nodup_iff.2 h.nodup
  obtain ⟨h1, h2⟩ := List.nodup_cons.1 (show ((cur.getD k zeroRow).h.1 :: (cutAt zeroRow cur k).map fun r : RowM => r.h.1).Nodup from hn)
  refine ⟨fun r hr => h.sub r (hp.subset (List.mem_cons_of_mem _ hr)), h2, fun r hr => ?_⟩
  rw [mget_mput, if_neg (fun e => h1 (by rw [← e]; exact List.mem_map.2 ⟨r, hr, rfl⟩))]
  exact h.fresh r (hp.subset (List.mem_cons_of_mem _ hr))

theorem Left.fill (K : Int) (zs : List Int) (m : Nat) : Left (fillN K zs m) (fillN K zs m) [] := by
  have hg : ∀ j, j < m → (fillN K zs m).getD j zeroRow = fillRow K zs j := fun j hj => by simp [fillN, List.getD, List.getElem?_map, List.getElem?_range hj]
  refine ⟨fun r hr => ?_, ?_, fun r _ => rfl⟩
  · unfold fillN at hr
    obtain ⟨j, hj, rfl⟩ := List.mem_map.1 hr
    have hj := List.mem_range.1 hj
    exact ⟨j, by rw [fillN_len]; exact hj, rfl, hg j hj⟩
  · unfold fillN
    rw [List.map_map]
    refine List.Pairwise.map _ (fun a b hab e => ?_) List.nodup_range
    have : ((a : Int)) = (b : Int) := e
    omega

end Go.Proofs.Ytpgdobomcdpdbaa
