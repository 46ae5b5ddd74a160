/-
  Several texts in one (merged by a program of mine): MapList, FamMath.
-/
import Derived.Below
set_option linter.unusedVariables false
set_option linter.unusedSimpArgs false
set_option linter.unusedSectionVars false
/-
  A map as a list of keys and values: plain facts.
-/
namespace Go.Proofs.YtpgcghnlepnoiaaGreatDoor

section
variable {κ ν : Type} [DecidableEq κ]
def mget (m : List (κ × ν)) (x : κ) : Option ν := (m.find? fun p => decide (p.1 = x)).map (·.2)
def mput (m : List (κ × ν)) (x : κ) (v : ν) : List (κ × ν) := if m.any (fun p => decide (p.1 = x)) then m.map (fun p => if p.1 = x then (x, v) else p) else m ++ [(x, v)]
def mdel (m : List (κ × ν)) (x : κ) : List (κ × ν) := m.filter fun p => !decide (p.1 = x)
def mkeys (m : List (κ × ν)) : List κ := m.map (·.1)

theorem mput_keys_of (m : List (κ × ν)) (x : κ) (v : ν) : mkeys (mput m x v) = if x ∈ mkeys m then mkeys m else mkeys m ++ [x] := by
  unfold mput mkeys
  have : (m.any fun p => decide (p.1 = x)) = decide (x ∈ m.map (·.1)) := by
    rw [Bool.eq_iff_iff]; simp
  rw [this]
  by_cases h : x ∈ m.map (·.1)
  · rw [if_pos (by simpa using h), if_pos h, List.map_map]
    apply List.map_congr_left
    intro p _
    simp only [Function.comp]
    split <;> simp_all
  · rw [if_neg (by simpa using h), if_neg h]; simp
theorem mput_nodup {m : List (κ × ν)} (h : (mkeys m).Nodup) (x : κ) (v : ν) : (mkeys (mput m x v)).Nodup := by
  rw [mput_keys_of]
  split
  · exact h
  · rename_i hx
    rw [List.nodup_append]
    exact ⟨h, by simp, fun a ha b hb e => hx (by rw [List.mem_singleton] at hb; rw [← hb, ← e]; exact ha)⟩
theorem mdel_nodup {m : List (κ × ν)} (h : (mkeys m).Nodup) (x : κ) : (mkeys (mdel m x)).Nodup := h.sublist (List.filter_sublist.map _)
theorem mem_mdel {m : List (κ × ν)} {x : κ} {p : κ × ν} : p ∈ mdel m x ↔ p ∈ m ∧ p.1 ≠ x := by simp [mdel]
theorem mget_none {m : List (κ × ν)} {x : κ} : mget m x = none ↔ x ∉ mkeys m := by
  unfold mget mkeys
  rw [Option.map_eq_none_iff, List.find?_eq_none]
  simp only [decide_eq_true_eq, List.mem_map, not_exists, not_and]
theorem mget_mem {m : List (κ × ν)} {x : κ} {v : ν} (h : mget m x = some v) : (x, v) ∈ m := by
  unfold mget at h
  obtain ⟨p, hp, rfl⟩ := Option.map_eq_some_iff.1 h
  have h1 := List.find?_some hp
  have h2 := List.mem_of_find?_eq_some hp
  have : p.1 = x := by simpa using h1
  rw [← this]; exact h2
theorem mget_of_mem {m : List (κ × ν)} (hn : (mkeys m).Nodup) {x : κ} {v : ν} (h : (x, v) ∈ m) : mget m x = some v := by
  induction m with
  | nil => simp at h
  | cons a m ih =>
    obtain ⟨h1, h2⟩ := List.nodup_cons.1 (show (a.1 :: mkeys m).Nodup from hn)
    unfold mget
    rw [List.find?_cons]
    rcases List.mem_cons.1 h with rfl | h'
    · simp
    · have hne : a.1 ≠ x := fun e => h1 (by rw [e]; exact List.mem_map.2 ⟨_, h', rfl⟩)
      rw [decide_eq_false hne]
      exact ih h2 h'
theorem mget_iff {m : List (κ × ν)} (hn : (mkeys m).Nodup) {x : κ} {v : ν} : mget m x = some v ↔ (x, v) ∈ m := ⟨mget_mem, mget_of_mem hn⟩
theorem mget_mput (m : List (κ × ν)) (x y : κ) (v : ν) : mget (mput m x v) y = if y = x then some v else mget m y := by
  unfold mput
  by_cases ha : (m.any fun p => decide (p.1 = x)) = true
  · rw [if_pos ha]
    by_cases hy : y = x
    · rw [if_pos hy]; subst hy
      obtain ⟨p, hp, hx⟩ := List.any_eq_true.1 ha
      clear ha
      induction m with
      | nil => simp at hp
      | cons a m ih =>
        unfold mget at ih ⊢
        rw [List.map_cons, List.find?_cons]
        by_cases h : a.1 = y
        · simp [h]
        · rw [if_neg h, decide_eq_false h]
          refine ih ?_
          rcases List.mem_cons.1 hp with rfl | h'
          · simp at hx; exact absurd hx h
          · exact h'
    · rw [if_neg hy]
      clear ha
      induction m with
      | nil => rfl
      | cons a m ih =>
        unfold mget at ih ⊢
        rw [List.map_cons, List.find?_cons, List.find?_cons]
        by_cases h : a.1 = x
        · have h2 : ¬ a.1 = y := fun e => hy (e.symm.trans h)
          have h3 : ¬ x = y := fun e => hy e.symm
          rw [if_pos h, decide_eq_false h2, decide_eq_false h3]
          exact ih
        · rw [if_neg h]
          split
          · rfl
          · exact ih
  · rw [if_neg ha]
    have hx : x ∉ mkeys m := fun h => ha (by
      obtain ⟨p, hp, e⟩ := List.mem_map.1 h
      exact List.any_eq_true.2 ⟨p, hp, by simpa using e⟩)
    unfold mget
    rw [List.find?_append]
    by_cases hy : y = x
    · rw [if_pos hy]; subst hy
      have := mget_none.2 hx
      unfold mget at this
      rw [Option.map_eq_none_iff] at this
      rw [this]; simp
    · rw [if_neg hy]
      have h3 : ¬ x = y := fun e => hy e.symm
      simp [h3]
theorem mget_mdel (m : List (κ × ν)) (x y : κ) : mget (mdel m x) y = if y = x then none else mget m y := by
  by_cases hy : y = x
  · rw [if_pos hy, mget_none]
    subst hy
    intro h
    obtain ⟨p, hp, e⟩ := List.mem_map.1 h
    exact (mem_mdel.1 hp).2 e
  · rw [if_neg hy]
    induction m with
    | nil => rfl
    | cons a m ih =>
      unfold mdel at ih ⊢
      rw [List.filter_cons]
      by_cases h : a.1 = x
      · have h2 : ¬ a.1 = y := fun e => hy (e.symm.trans h)
        rw [decide_eq_true h]
        simp only [Bool.not_true, Bool.false_eq_true, if_false]
        rw [ih]
        unfold mget
        rw [List.find?_cons, decide_eq_false h2]
      · rw [decide_eq_false h]
        simp only [Bool.not_false, if_true]
        unfold mget at ih ⊢
        rw [List.find?_cons, List.find?_cons]
        split
        · rfl
        · exact ih
theorem mput_len (m : List (κ × ν)) (x : κ) (v : ν) : (mput m x v).length ≤ m.length + 1 := by
  unfold mput; split <;> simp
theorem mdel_len (m : List (κ × ν)) (x : κ) : (mdel m x).length ≤ m.length := List.length_filter_le _ _
theorem mem_mput {m : List (κ × ν)} {x : κ} {v : ν} {p : κ × ν} (h : p ∈ mput m x v) : p = (x, v) ∨ (p ∈ m ∧ p.1 ≠ x) := by
  unfold mput at h
  split at h
  · obtain ⟨q, hq, e⟩ := List.mem_map.1 h
    split at e
    · exact Or.inl e.symm
    · rename_i hne; subst e; exact Or.inr ⟨hq, hne⟩
  · rename_i ha
    rw [List.mem_append] at h
    rcases h with h | h
    · exact Or.inr ⟨h, fun e => ha (List.any_eq_true.2 ⟨p, h, by simpa using e⟩)⟩
    · exact Or.inl (by simpa using h)
end

end Go.Proofs.YtpgcghnlepnoiaaGreatDoor

/-
  A family as a list of bonds (child, parent): who is above whom, and who is under whom; plain facts.
-/
namespace Go.Proofs.YtpgcghnlepnoiaaGreatDoor

abbrev Hd := Int × Int
abbrev Fam := List (Hd × Hd)

/-- strictly above -/
inductive Up (m : Fam) : Hd → Hd → Prop
  | one {a p : Hd} : mget m a = some p → Up m a p
  | more {a p q : Hd} : mget m a = some p → Up m p q → Up m a q

def Ranked (m : Fam) (rk : Hd → Nat) (R : Nat) : Prop := ∀ c p, mget m c = some p → rk p < rk c ∧ rk c ≤ R
def Acyc (m : Fam) : Prop := ∃ rk R, Ranked m rk R

section
variable {m m' : Fam} {rk : Hd → Nat} {R : Nat} {a b c h p q x y : Hd}
theorem Up.rank (hr : Ranked m rk R) (hu : Up m a q) : rk q < rk a := by
  induction hu with
  | one h => exact (hr _ _ h).1
  | more h _ ih => have := (hr _ _ h).1; omega
theorem Up.irrefl (ha : Acyc m) : ¬ Up m a a := fun h => by
  obtain ⟨rk, R, hr⟩ := ha
  have := h.rank hr; omega
theorem Up.trans (h1 : Up m a b) (h2 : Up m b c) : Up m a c := by
  induction h1 with
  | one h => exact .more h h2
  | more h _ ih => exact .more h (ih h2)
theorem Up.linear (h1 : Up m a x) : ∀ {y}, Up m a y → x = y ∨ Up m x y ∨ Up m y x := by
  induction h1 with
  | one h =>
    intro y h2
    cases h2 with
    | one h' => rw [h] at h'; exact Or.inl (Option.some.inj h')
    | more h' h2 => rw [h] at h'; cases Option.some.inj h'; exact Or.inr (Or.inl h2)
  | more h h1 ih =>
    intro y h2
    cases h2 with
    | one h' => rw [h] at h'; cases Option.some.inj h'; exact Or.inr (Or.inr h1)
    | more h' h2 => rw [h] at h'; cases Option.some.inj h'; exact ih h2
theorem Up.none (hn : mget m a = none) : ¬ Up m a x := fun h => by
  cases h with
  | one h => rw [hn] at h; cases h
  | more h _ => rw [hn] at h; cases h
theorem Up.mono (hs : ∀ c p, mget m c = some p → mget m' c = some p) (h : Up m a x) : Up m' a x := by
  induction h with
  | one h => exact .one (hs _ _ h)
  | more h _ ih => exact .more (hs _ _ h) ih
theorem Acyc.sub (ha : Acyc m) (hs : ∀ c p, mget m' c = some p → mget m c = some p) : Acyc m' := by
  obtain ⟨rk, R, hr⟩ := ha
  exact ⟨rk, R, fun c p h => hr c p (hs c p h)⟩
theorem Acyc.nil : Acyc [] := ⟨fun _ => 0, 0, fun c p h => by simp [mget] at h⟩
theorem Acyc.del (ha : Acyc m) (c : Hd) : Acyc (mdel m c) := ha.sub fun x p h => by
  rw [mget_mdel] at h
  split at h
  · cases h
  · exact h
/-- a new bond that closes no ring -/
theorem Acyc.put (ha : Acyc m) (hne : c ≠ p) (hnu : ¬ Up m p c) : Acyc (mput m c p) := by
  obtain ⟨rk, R, hr⟩ := ha
  classical
  have hp : ¬ (p = c ∨ Up m p c) := fun h => by rcases h with h | h; exact hne h.symm; exact hnu h
  refine ⟨fun x => if x = c ∨ Up m x c then rk x + (rk p + 1) else rk x, R + rk c + (rk p + 1), fun x y hxy => ?_⟩
  rw [mget_mput] at hxy
  by_cases hx : x = c
  · rw [if_pos hx] at hxy
    cases Option.some.inj hxy
    simp only
    rw [if_pos (Or.inl hx), if_neg hp, hx]
    exact ⟨by omega, by omega⟩
  · rw [if_neg hx] at hxy
    have h1 := hr x y hxy
    have hiff : (y = c ∨ Up m y c) ↔ (x = c ∨ Up m x c) := by
      constructor
      · rintro (e | e)
        · exact Or.inr (.one (e ▸ hxy))
        · exact Or.inr (.more hxy e)
      · rintro (e | e)
        · exact absurd e hx
        · cases e with
          | one e => rw [hxy] at e; exact Or.inl (Option.some.inj e)
          | more e e2 => rw [hxy] at e; cases Option.some.inj e; exact Or.inr e2
    simp only [hiff]
    split
    · exact ⟨by omega, by omega⟩
    · exact ⟨by omega, by omega⟩

/-- all that is above, in order -/
inductive Chain (m : Fam) : Hd → List Hd → Prop
  | nil {h : Hd} : mget m h = none → Chain m h []
  | cons {h p : Hd} {xs : List Hd} : mget m h = some p → Chain m p xs → Chain m h (p :: xs)
theorem Chain.exists (ha : Acyc m) (h : Hd) : ∃ xs, Chain m h xs := by
  obtain ⟨rk, R, hr⟩ := ha
  generalize hn : rk h = n
  induction n using Nat.strongRecOn generalizing h with
  | _ n ih =>
    cases hm : mget m h with
    | none => exact ⟨[], .nil hm⟩
    | some p =>
      obtain ⟨xs, hx⟩ := ih (rk p) (by have := (hr _ _ hm).1; omega) p rfl
      exact ⟨p :: xs, .cons hm hx⟩
theorem Chain.mem {xs : List Hd} (hc : Chain m h xs) : x ∈ xs ↔ Up m h x := by
  induction hc with
  | nil hn => simp [Up.none hn]
  | cons hm _ ih =>
    rw [List.mem_cons, ih]
    constructor
    · rintro (rfl | e)
      · exact .one hm
      · exact .more hm e
    · intro e
      cases e with
      | one e => rw [hm] at e; exact Or.inl (Option.some.inj e).symm
      | more e e2 => rw [hm] at e; cases Option.some.inj e; exact Or.inr e2
theorem nodup_le {α : Type} [BEq α] [LawfulBEq α] : ∀ {l l' : List α}, l.Nodup → (∀ x ∈ l, x ∈ l') → l.length ≤ l'.length
  | [], _, _, _ => by simp
  | a :: l, l', hn, hs => by
    obtain ⟨h1, h2⟩ := List.nodup_cons.1 hn
    have h3 := nodup_le (l' := l'.erase a) h2 fun x hx => (List.mem_erase_of_ne (fun e : x = a => h1 (by rw [← e]; exact hx))).2 (hs x (List.mem_cons_of_mem _ hx))
    have h4 := List.length_erase_of_mem (hs a List.mem_cons_self)
    have h5 := List.length_pos_of_mem (hs a List.mem_cons_self)
    rw [List.length_cons]; omega
theorem Chain.len {xs : List Hd} (hr : Ranked m rk R) (hc : Chain m h xs) : ∃ ks : List Hd, ks.length = xs.length ∧ ks.Nodup ∧ ∀ k ∈ ks, k ∈ mkeys m ∧ rk k ≤ rk h := by
  induction hc with
  | nil _ => exact ⟨[], rfl, List.nodup_nil, fun k hk => by simp at hk⟩
  | @cons h p xs hm _ ih =>
    obtain ⟨ks, h1, h2, h3⟩ := ih
    have h4 := (hr _ _ hm).1
    refine ⟨h :: ks, by simp [h1], List.nodup_cons.2 ⟨fun hk => ?_, h2⟩, fun k hk => ?_⟩
    · have := (h3 h hk).2; omega
    · rcases List.mem_cons.1 hk with rfl | hk
      · exact ⟨List.mem_map.2 ⟨_, mget_mem hm, rfl⟩, Nat.le_refl _⟩
      · have := h3 k hk; exact ⟨this.1, by omega⟩
theorem Chain.le {xs : List Hd} (ha : Acyc m) (hc : Chain m h xs) : xs.length ≤ m.length := by
  obtain ⟨rk, R, hr⟩ := ha
  obtain ⟨ks, h1, h2, h3⟩ := hc.len hr
  have := nodup_le h2 fun x hx => (h3 x hx).1
  rw [h1] at this
  simpa [mkeys] using this
theorem Chain.at_ {xs : List Hd} (hc : Chain m h xs) : ∀ k, k ≤ xs.length → Chain m ((h :: xs).getD k h) (xs.drop k) := by
  induction hc with
  | nil hn => intro k hk; have hk0 : k = 0 := Nat.le_zero.1 hk; subst hk0; exact Chain.nil hn
  | @cons h p xs hm hc ih =>
    intro k hk
    cases k with
    | zero => exact .cons hm hc
    | succ k =>
      have := ih k (by simpa using hk)
      have e : (h :: p :: xs).getD (k + 1) h = (p :: xs).getD k p := by
        simp only [List.getD_eq_getElem?_getD, List.getElem?_cons_succ]
        rw [List.getElem?_eq_getElem (show k < (p :: xs).length by simp at hk ⊢; omega)]; rfl
      rw [e]; exact this
theorem Chain.get {xs : List Hd} (hc : Chain m h xs) : mget m h = xs.head? := by
  cases hc with
  | nil hn => exact hn
  | cons hm _ => exact hm
end

/-- the order of handles -/
def hLt (a b : Hd) : Bool := decide (a.1 < b.1) || (decide (a.1 = b.1) && decide (a.2 < b.2))
def hLe (a b : Hd) : Bool := !hLt b a
theorem hLe_iff {a b : Hd} : hLe a b = true ↔ a.1 < b.1 ∨ a.1 = b.1 ∧ a.2 ≤ b.2 := by
  unfold hLe hLt
  simp only [Bool.not_eq_true', Bool.or_eq_false_iff, decide_eq_false_iff_not, Bool.and_eq_false_iff]
  constructor
  · rintro ⟨h1, h2 | h2⟩ <;> omega
  · intro h
    refine ⟨by omega, ?_⟩
    by_cases e : b.1 = a.1
    · exact Or.inr (by omega)
    · exact Or.inl e
theorem hLe_trans (a b c : Hd) (h1 : hLe a b = true) (h2 : hLe b c = true) : hLe a c = true := by
  rw [hLe_iff] at *; omega
theorem hLe_total (a b : Hd) : (hLe a b || hLe b a) = true := by
  rw [Bool.or_eq_true, hLe_iff, hLe_iff]; omega
theorem hLe_antisymm {a b : Hd} (h1 : hLe a b = true) (h2 : hLe b a = true) : a = b := by
  rw [hLe_iff] at *
  exact Prod.ext (by omega) (by omega)

/-- sorted lists of handles of one content are one -/
theorem sorted_eq {l l' : List Hd} (hp : l.Perm l') (h : l.Pairwise fun a b => hLe a b = true) (h' : l'.Pairwise fun a b => hLe a b = true) : l = l' :=
  List.Perm.eq_of_pairwise (fun _ _ _ _ h1 h2 => hLe_antisymm h1 h2) h h' hp
theorem sort_sorted (l : List Hd) : (l.mergeSort hLe).Pairwise fun a b => hLe a b = true := List.pairwise_mergeSort hLe_trans hLe_total l
theorem sort_perm {l l' : List Hd} (hp : l.Perm l') : l.mergeSort hLe = l'.mergeSort hLe :=
  sorted_eq ((List.mergeSort_perm l _).trans (hp.trans (List.mergeSort_perm l' _).symm)) (sort_sorted l) (sort_sorted l')
theorem sort_of_sorted {l l' : List Hd} (hp : l'.Perm l) (h : l'.Pairwise fun a b => hLe a b = true) : l' = l.mergeSort hLe :=
  sorted_eq (hp.trans (List.mergeSort_perm l _).symm) h (sort_sorted l)

/-- .. of a key -/
def kLe {α : Type} (key : α → Hd) (a b : α) : Bool := hLe (key a) (key b)
theorem ksort_sorted {α : Type} (key : α → Hd) (l : List α) : (l.mergeSort (kLe key)).Pairwise fun a b => kLe key a b = true :=
  List.pairwise_mergeSort (fun a b c => hLe_trans (key a) (key b) (key c)) (fun a b => hLe_total (key a) (key b)) l
theorem ksort_of_sorted {α : Type} (key : α → Hd) {l l' : List α} (hn : ∀ a ∈ l, ∀ b ∈ l, key a = key b → a = b) (hp : l'.Perm l) (h : l'.Pairwise fun a b => kLe key a b = true) : l' = l.mergeSort (kLe key) :=
  List.Perm.eq_of_pairwise (fun a b ha hb h1 h2 => hn a (hp.subset ha) b ((List.mergeSort_perm l _).subset hb) (hLe_antisymm h1 h2)) h (ksort_sorted key l) (hp.trans (List.mergeSort_perm l _).symm)

def kidsRaw (m : Fam) (h : Hd) : List Hd := (m.filter fun b => decide (b.2 = h)).map (·.1)
def kids (m : Fam) (h : Hd) : List Hd := (kidsRaw m h).mergeSort hLe
section
variable {m m' : Fam} {rk : Hd → Nat} {R : Nat} {a b c h p q x y : Hd}
theorem mem_kids (hn : (mkeys m).Nodup) : x ∈ kids m h ↔ mget m x = some h := by
  unfold kids kidsRaw
  rw [List.mem_mergeSort, List.mem_map, mget_iff hn]
  constructor
  · rintro ⟨b, hb, rfl⟩
    rw [List.mem_filter, decide_eq_true_eq] at hb
    rw [← hb.2]; exact hb.1
  · intro hm
    exact ⟨(x, h), List.mem_filter.2 ⟨hm, by simp⟩, rfl⟩
theorem kids_nodup (hn : (mkeys m).Nodup) (h : Hd) : (kids m h).Nodup :=
  (List.mergeSort_perm _ _).nodup_iff.2 (hn.sublist (List.filter_sublist.map _))
theorem kids_len (m : Fam) (h : Hd) : (kids m h).length ≤ m.length := by
  unfold kids kidsRaw
  rw [List.length_mergeSort, List.length_map]
  exact List.length_filter_le _ _

def underF (m : Fam) : Nat → Hd → List Hd
  | 0, _ => []
  | n + 1, h => (kids m h).flatMap fun c => c :: underF m n c
theorem flatMap_same {α β : Type} {f g : α → List β} : ∀ {l : List α}, (∀ x ∈ l, f x = g x) → l.flatMap f = l.flatMap g
  | [], _ => rfl
  | a :: l, h => by rw [List.flatMap_cons, List.flatMap_cons, h a List.mem_cons_self, flatMap_same fun x hx => h x (List.mem_cons_of_mem _ hx)]
theorem underF_stable (hn : (mkeys m).Nodup) (hr : Ranked m rk R) : ∀ (n n' : Nat) (h : Hd), R - rk h < n → R - rk h < n' → underF m n h = underF m n' h
  | 0, _, _, h1, _ => by omega
  | _, 0, _, _, h2 => by omega
  | n + 1, n' + 1, h, h1, h2 => by
    unfold underF
    refine flatMap_same fun c hc => ?_
    have := hr _ _ ((mem_kids hn).1 hc)
    rw [underF_stable hn hr n n' c (by omega) (by omega)]
open Classical in
noncomputable def depthOf (m : Fam) : Nat := if h : Acyc m then (Classical.choose (Classical.choose_spec h)) + 1 else 0
noncomputable def under (m : Fam) (h : Hd) : List Hd := underF m (depthOf m) h
theorem depthOf_spec (ha : Acyc m) : ∃ rk R, Ranked m rk R ∧ depthOf m = R + 1 := by
  refine ⟨Classical.choose ha, Classical.choose (Classical.choose_spec ha), Classical.choose_spec (Classical.choose_spec ha), ?_⟩
  unfold depthOf; rw [dif_pos ha]
/-- by whatever ranks -/
theorem underF_eq (hn : (mkeys m).Nodup) (ha : Acyc m) : ∃ rk R, Ranked m rk R ∧ ∀ n h, R - rk h < n → underF m n h = under m h := by
  obtain ⟨rk, R, hr, hd⟩ := depthOf_spec ha
  refine ⟨rk, R, hr, fun n h hlt => ?_⟩
  unfold under
  rw [hd]
  exact underF_stable hn hr _ _ h hlt (by omega)
theorem under_eq (hn : (mkeys m).Nodup) (ha : Acyc m) (h : Hd) : under m h = (kids m h).flatMap fun c => c :: under m c := by
  obtain ⟨rk, R, hr, hu⟩ := underF_eq hn ha
  rw [← hu (R - rk h + 1) h (by omega)]
  conv => lhs; unfold underF
  refine flatMap_same fun c hc => ?_
  have := hr _ _ ((mem_kids hn).1 hc)
  rw [hu (R - rk h) c (by omega)]
/-- by the ranks, from below -/
theorem under_induct (hn : (mkeys m).Nodup) (ha : Acyc m) (P : Hd → Prop) (step : ∀ h, (∀ c, mget m c = some h → P c) → P h) (h : Hd) : P h := by
  obtain ⟨rk, R, hr⟩ := ha
  generalize hk : R - rk h = k
  induction k using Nat.strongRecOn generalizing h with
  | _ k ih =>
    refine step h fun c hc => ?_
    have := hr _ _ hc
    exact ih (R - rk c) (by omega) c rfl
theorem mem_under (hn : (mkeys m).Nodup) (ha : Acyc m) : x ∈ under m h ↔ Up m x h := by
  refine under_induct hn ha (fun h => x ∈ under m h ↔ Up m x h) (fun h ih => ?_) h
  rw [under_eq hn ha, List.mem_flatMap]
  constructor
  · rintro ⟨c, hc, hx⟩
    have hm := (mem_kids hn).1 hc
    rcases List.mem_cons.1 hx with rfl | hx
    · exact .one hm
    · exact ((ih c hm).1 hx).trans (.one hm)
  · intro hu
    have : ∃ c, mget m c = some h ∧ (x = c ∨ Up m x c) := by
      clear ih
      induction hu with
      | one hm => exact ⟨_, hm, Or.inl rfl⟩
      | more hm _ ih =>
        obtain ⟨c, h1, h2 | h2⟩ := ih
        · exact ⟨c, h1, Or.inr (h2 ▸ .one hm)⟩
        · exact ⟨c, h1, Or.inr (.more hm h2)⟩
    obtain ⟨c, hm, hx⟩ := this
    refine ⟨c, (mem_kids hn).2 hm, ?_⟩
    rcases hx with rfl | hx
    · exact List.mem_cons_self
    · exact List.mem_cons_of_mem _ ((ih c hm).2 hx)
theorem nodup_flatMap {α β : Type} {f : α → List β} : ∀ {l : List α}, l.Nodup → (∀ x ∈ l, (f x).Nodup) → (∀ x ∈ l, ∀ y ∈ l, x ≠ y → ∀ z, z ∈ f x → z ∈ f y → False) → (l.flatMap f).Nodup
  | [], _, _, _ => by simp
  | a :: l, hn, h1, h2 => by
    obtain ⟨ha, hl⟩ := List.nodup_cons.1 hn
    rw [List.flatMap_cons, List.nodup_append]
    refine ⟨h1 a List.mem_cons_self, nodup_flatMap hl (fun x hx => h1 x (List.mem_cons_of_mem _ hx)) (fun x hx y hy => h2 x (List.mem_cons_of_mem _ hx) y (List.mem_cons_of_mem _ hy)), ?_⟩
    intro z hz z' hz' e
    subst e
    obtain ⟨y, hy, hzy⟩ := List.mem_flatMap.1 hz'
    exact h2 a List.mem_cons_self y (List.mem_cons_of_mem _ hy) (fun e => ha (e ▸ hy)) z hz hzy
theorem under_nodup (hn : (mkeys m).Nodup) (ha : Acyc m) (h : Hd) : (under m h).Nodup := by
  refine under_induct hn ha (fun h => (under m h).Nodup) (fun h ih => ?_) h
  rw [under_eq hn ha]
  have key : ∀ x z, z ∈ x :: under m x → z = x ∨ Up m z x := fun x z hz => by
    rcases List.mem_cons.1 hz with e | e
    · exact Or.inl e
    · exact Or.inr ((mem_under hn ha).1 e)
  refine nodup_flatMap (kids_nodup hn h) (fun c hc => ?_) (fun x hx y hy hne z h1 h2 => ?_)
  · rw [List.nodup_cons]
    exact ⟨fun e => Up.irrefl ha ((mem_under hn ha).1 e), ih c ((mem_kids hn).1 hc)⟩
  · have mx := (mem_kids hn).1 hx
    have my := (mem_kids hn).1 hy
    have apart : ∀ u v : Hd, mget m u = some h → mget m v = some h → ¬ Up m u v := fun u v hu hv e => by
      cases e with
      | one e => rw [hu] at e; cases Option.some.inj e; exact Up.irrefl ha (.one hv)
      | more e e2 => rw [hu] at e; cases Option.some.inj e; exact Up.irrefl ha ((Up.one hv).trans e2)
    rcases key x z h1 with e1 | e1 <;> rcases key y z h2 with e2 | e2
    · exact hne (e1.symm.trans e2)
    · rw [e1] at e2; exact apart x y mx my e2
    · rw [e2] at e1; exact apart y x my mx e1
    · rcases e1.linear e2 with e | e | e
      · exact hne e
      · exact apart x y mx my e
      · exact apart y x my mx e
theorem under_len (hn : (mkeys m).Nodup) (ha : Acyc m) (h : Hd) : (under m h).length ≤ m.length := by
  have := nodup_le (under_nodup hn ha h) (l' := mkeys m) fun x hx => by
    have hu := (mem_under hn ha).1 hx
    cases hu with
    | one h => exact List.mem_map.2 ⟨_, mget_mem h, rfl⟩
    | more h _ => exact List.mem_map.2 ⟨_, mget_mem h, rfl⟩
  simpa [mkeys] using this
end

open Classical in
/-- adopting -/
noncomputable def adoptR (m : Fam) (c p : Hd) : Fam × Int := if c = p ∨ Up m p c then (m, 8) else (mput m c p, 0)
def loosenR (m : Fam) (c : Hd) : Fam × Int := if (mget m c).isSome then (mdel m c, 0) else (m, 5)
def goneR (m : Fam) (h : Hd) : Fam := m.filter fun b => !(decide (b.1 = h) || decide (b.2 = h))
def bondsOf (m : Fam) : List (Hd × Hd) := m.mergeSort (kLe (·.1))

structure FamOk (m : Fam) : Prop where
  nodup : (mkeys m).Nodup
  acyc : Acyc m
section
variable {m : Fam} {c h p x y : Hd}
theorem FamOk.nil : FamOk [] := ⟨List.nodup_nil, Acyc.nil⟩
theorem FamOk.adopt (hm : FamOk m) (c p : Hd) : FamOk (adoptR m c p).1 := by
  unfold adoptR
  split
  · exact hm
  · rename_i h
    exact ⟨mput_nodup hm.nodup _ _, hm.acyc.put (fun e => h (Or.inl e)) fun e => h (Or.inr e)⟩
theorem FamOk.loosen (hm : FamOk m) (c : Hd) : FamOk (loosenR m c).1 := by
  unfold loosenR
  split
  · exact ⟨mdel_nodup hm.nodup _, hm.acyc.del c⟩
  · exact hm
theorem goneR_keys (hn : (mkeys m).Nodup) (h : Hd) : (mkeys (goneR m h)).Nodup := hn.sublist (List.filter_sublist.map _)
theorem mget_gone (hn : (mkeys m).Nodup) (h : Hd) : mget (goneR m h) x = some y ↔ mget m x = some y ∧ x ≠ h ∧ y ≠ h := by
  rw [mget_iff (goneR_keys hn h), mget_iff hn]
  unfold goneR
  rw [List.mem_filter]
  simp
theorem FamOk.gone (hm : FamOk m) (h : Hd) : FamOk (goneR m h) := ⟨goneR_keys hm.nodup h, hm.acyc.sub fun _ _ e => ((mget_gone hm.nodup h).1 e).1⟩
theorem bond_inj (hn : (mkeys m).Nodup) : ∀ a ∈ m, ∀ b ∈ m, a.1 = b.1 → a = b := fun a ha b hb e => by
  have h1 := mget_of_mem hn (x := a.1) (v := a.2) ha
  have h2 := mget_of_mem hn (x := b.1) (v := b.2) hb
  rw [e, h2] at h1
  exact Prod.ext e (Option.some.inj h1).symm
theorem mem_bonds {b : Hd × Hd} (hn : (mkeys m).Nodup) : b ∈ bondsOf m ↔ mget m b.1 = some b.2 := by
  unfold bondsOf
  rw [List.mem_mergeSort, mget_iff hn]
theorem bonds_len (m : Fam) : (bondsOf m).length = m.length := by unfold bondsOf; rw [List.length_mergeSort]
theorem bonds_gone (hn : (mkeys m).Nodup) (h : Hd) : bondsOf (goneR m h) = (bondsOf m).filter fun b => !(decide (b.1 = h) || decide (b.2 = h)) := by
  have hp : ((bondsOf m).filter fun b => !(decide (b.1 = h) || decide (b.2 = h))).Perm (goneR m h) := (List.mergeSort_perm m _).filter _
  exact (ksort_of_sorted (·.1) (bond_inj (goneR_keys hn h)) hp ((ksort_sorted (·.1) m).sublist List.filter_sublist)).symm
theorem kids_gone (hn : (mkeys m).Nodup) (h : Hd) : kids (goneR m h) h = [] := by
  apply List.eq_nil_iff_forall_not_mem.2
  intro x hx
  exact ((mget_gone hn h).1 ((mem_kids (goneR_keys hn h)).1 hx)).2.2 rfl
theorem gone_none (hn : (mkeys m).Nodup) (h : Hd) : mget (goneR m h) h = none := by
  cases e : mget (goneR m h) h with
  | none => rfl
  | some y => exact absurd rfl ((mget_gone hn h).1 e).2.1
theorem adopt_len (m : Fam) (c p : Hd) : (adoptR m c p).1.length ≤ m.length + 1 := by
  unfold adoptR
  split
  · exact Nat.le_succ _
  · exact mput_len m c p
theorem loosen_len (m : Fam) (c : Hd) : (loosenR m c).1.length ≤ m.length := by
  unfold loosenR
  split
  · exact mdel_len m c
  · exact Nat.le_refl _
theorem gone_len (m : Fam) (h : Hd) : (goneR m h).length ≤ m.length := List.length_filter_le _ _
end

end Go.Proofs.YtpgcghnlepnoiaaGreatDoor
