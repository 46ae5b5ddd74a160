/-
  Who goes with one that is killed, as plain data: by rounds over the bonds.
-/
import Derived.Test.YtjggdpnamakoeaaGreatZP45
set_option linter.unusedVariables false
set_option linter.unusedSimpArgs false
set_option linter.unusedSectionVars false
namespace Go.Proofs.YtjggdpnamakoeaaGreat

def stepG (S : List Hd) (b : Hd × Hd) : List Hd := if b.2 ∈ S then b.1 :: S else S
def roundG (B : Fam) (S : List Hd) : List Hd := B.foldl stepG S
def roundsG (B : Fam) (h : Hd) : Nat → List Hd
  | 0 => [h]
  | n + 1 => roundG B (roundsG B h n)
section
variable {B : Fam} {S : List Hd} {b : Hd × Hd} {c p h x : Hd}
theorem stepG_mono (hx : x ∈ S) : x ∈ stepG S b := by
  unfold stepG
  split
  · exact List.mem_cons_of_mem _ hx
  · exact hx
theorem foldG_mono (l : Fam) : ∀ S, x ∈ S → x ∈ l.foldl stepG S := by
  induction l with
  | nil => exact fun S h => h
  | cons b l ih => exact fun S h => ih _ (stepG_mono h)
theorem foldG_add (l : Fam) : ∀ S, (c, p) ∈ l → p ∈ S → c ∈ l.foldl stepG S := by
  induction l with
  | nil => intro S h; cases h
  | cons b l ih =>
    intro S h hp
    rw [List.foldl_cons]
    rcases List.mem_cons.1 h with e | e
    · refine foldG_mono l _ ?_
      rw [← e]
      unfold stepG
      rw [if_pos hp]
      exact List.mem_cons_self
    · exact ih _ e (stepG_mono hp)
theorem foldG_sound (hn : (mkeys B).Nodup) (l : Fam) : (∀ b ∈ l, b ∈ B) → ∀ S, (∀ x ∈ S, x = h ∨ Up B x h) → ∀ x ∈ l.foldl stepG S, x = h ∨ Up B x h := by
  induction l with
  | nil => exact fun _ S hS => hS
  | cons b l ih =>
    intro hl S hS
    refine ih (fun b hb => hl b (by simp [hb])) _ fun x hx => ?_
    unfold stepG at hx
    split at hx
    · rename_i hp
      rcases List.mem_cons.1 hx with e | e
      · have hg : mget B b.1 = some b.2 := (mget_iff hn).2 (hl b (by simp))
        rw [e]
        rcases hS _ hp with e2 | e2
        · exact Or.inr (.one (by rw [← e2]; exact hg))
        · exact Or.inr (.more hg e2)
      · exact hS x e
    · exact hS x hx
theorem rounds_sound (hn : (mkeys B).Nodup) (n : Nat) : ∀ x ∈ roundsG B h n, x = h ∨ Up B x h := by
  induction n with
  | zero => intro x hx; exact Or.inl (by simpa [roundsG] using hx)
  | succ n ih => exact foldG_sound hn B (fun _ hb => hb) _ ih
theorem rounds_mono {n m : Nat} (hnm : n ≤ m) (hx : x ∈ roundsG B h n) : x ∈ roundsG B h m := by
  induction hnm with
  | refl => exact hx
  | step _ ih => exact foldG_mono B _ ih
theorem rounds_chain (hn : (mkeys B).Nodup) {xs : List Hd} (hc : Chain B x xs) : ∀ d, (hd : d < xs.length) → xs[d] = h → x ∈ roundsG B h (d + 1) := by
  induction hc with
  | nil _ => intro d hd; simp at hd
  | cons hg _ ih =>
    intro d hd he
    have hm := (mget_iff hn).1 hg
    match d with
    | 0 =>
      refine foldG_add B _ hm ?_
      simp only [List.getElem_cons_zero] at he
      rw [he]
      simp [roundsG]
    | d + 1 =>
      refine foldG_add B _ hm ?_
      simp only [List.getElem_cons_succ] at he
      exact ih d (by simpa using hd) he
theorem rounds_iff (hm : FamOk B) : x ∈ roundsG B h B.length ↔ x = h ∨ Up B x h := by
  constructor
  · exact rounds_sound hm.nodup _ x
  · rintro (e | e)
    · rw [e]; exact rounds_mono (Nat.zero_le _) (by simp [roundsG])
    · obtain ⟨xs, hc⟩ := Chain.exists hm.acyc x
      have hx := hc.mem.2 e
      obtain ⟨d, hd, he⟩ := List.mem_iff_getElem.1 hx
      have hle := hc.le hm.acyc
      exact rounds_mono (by omega) (rounds_chain hm.nodup hc d hd he)
end
theorem killZ_rows {z : ZS} (hz : ZOk z) {h : Hd} (hl : z.live h = true) : (killZ z h).1.rows = z.rows.filter (fun r => !decide (r.h ∈ roundsG z.B h z.B.length)) ∧ (killZ z h).2 = 0 := by
  unfold killZ
  rw [if_pos hl]
  refine ⟨?_, rfl⟩
  simp only
  rw [kills_rows hz]
  congr 1
  funext r
  congr 1
  rw [decide_eq_decide, rounds_iff hz.fam]
  unfold killL
  rw [List.mem_append, List.mem_reverse, mem_under hz.fam.nodup hz.fam.acyc, List.mem_singleton]
  exact Or.comm
/-- who lives has a row -/
theorem live_row {z : ZS} (hz : ZOk z) {h : Hd} : z.live h = true ↔ h ∈ z.rows.map (·.h) := by
  unfold ZS.live ZS.rows
  rw [hz.w.lv, List.mem_map]
  constructor
  · rintro ⟨b, hb⟩
    exact ⟨⟨h, b⟩, (mem_allW hz.w).2 hb, rfl⟩
  · rintro ⟨r, hr, rfl⟩
    exact ⟨r.b, (mem_allW hz.w).1 hr⟩

/-! ### a set as a map of handles to true -/
def SetM (m : List (Hd × Bool)) (S : List Hd) : Prop := ∀ x, mget m x = if x ∈ S then some true else none
theorem SetM.nil : SetM [] [] := fun x => by simp [mget]
theorem SetM.put {m : List (Hd × Bool)} {S : List Hd} (h : SetM m S) (x : Hd) : SetM (mput m x true) (x :: S) := fun y => by
  rw [mget_mput, h y]
  by_cases e : y = x
  · rw [if_pos e, if_pos (by rw [e]; exact List.mem_cons_self)]
  · rw [if_neg e]
    by_cases e2 : y ∈ S
    · rw [if_pos e2, if_pos (List.mem_cons_of_mem _ e2)]
    · rw [if_neg e2, if_neg (by simp [e, e2])]
theorem SetM.isIn {m : List (Hd × Bool)} {S : List Hd} (h : SetM m S) {x : Hd} (hx : x ∈ S) : mget m x = some true := by rw [h x, if_pos hx]
theorem SetM.notIn {m : List (Hd × Bool)} {S : List Hd} (h : SetM m S) {x : Hd} (hx : x ∉ S) : mget m x = none := by rw [h x, if_neg hx]
/-- the handles of the first rows, the last one ahead -/
def handS (rs : List RowM) (k : Nat) : List Hd := ((rs.take k).map (·.h)).reverse
theorem handS_succ {rs : List RowM} {k : Nat} (hk : k < rs.length) : handS rs (k + 1) = rs[k].h :: handS rs k := by
  unfold handS
  rw [List.take_succ_eq_append_getElem hk, List.map_append, List.reverse_append]; rfl
theorem handS_all {rs : List RowM} {x : Hd} : x ∈ handS rs rs.length ↔ x ∈ rs.map (·.h) := by
  unfold handS
  rw [List.take_length, List.mem_reverse]
theorem foldG_succ (B : Fam) (S : List Hd) {j : Nat} (hj : j < B.length) : (B.take (j + 1)).foldl stepG S = stepG ((B.take j).foldl stepG S) B[j] := by
  rw [List.take_succ_eq_append_getElem hj, List.foldl_append]; rfl
theorem filter_succ {α : Type} (f : α → Bool) (rs : List α) {k : Nat} (hk : k < rs.length) : (rs.take (k + 1)).filter f = (rs.take k).filter f ++ if f rs[k] = true then [rs[k]] else [] := by
  rw [List.take_succ_eq_append_getElem hk, List.filter_append]
  congr 1
  by_cases h : f rs[k] = true
  · rw [if_pos h]; simp [h]
  · rw [if_neg h]; simp [h]

end Go.Proofs.YtjggdpnamakoeaaGreat
