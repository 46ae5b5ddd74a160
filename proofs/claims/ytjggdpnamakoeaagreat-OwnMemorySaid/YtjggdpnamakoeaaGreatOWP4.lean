/-
  Several texts in one (merged by a program of mine): DiffMath, DiffMath2.
-/
import Derived.Test.YtjggdpnamakoeaaGreatOWP3
set_option linter.unusedVariables false
set_option linter.unusedSimpArgs false
set_option linter.unusedSectionVars false
/-
  What has changed between two lists of rows, as plain data: no program in sight.
-/
namespace Go.Proofs.YtjggdpnamakoeaaGreat

abbrev RowD := Hd × List Int
structure Chg where
  at_ : Hd
  old : List Int
  now : List Int
def toBeast (b : List Int) : Beast := ⟨b.getD 0 0, b.drop 1⟩
def noneB : List Int := [-1, 0, 0, 0, 0, 0, 0, 0, 0]
def zeroB : List Int := [0, 0, 0, 0, 0, 0, 0, 0, 0]
def rowMay (r : RowD) : Bool := decide (0 ≤ r.1.1) && decide (r.1.1 ≤ 59) && decide (0 ≤ r.1.2) && decide (r.1.2 ≤ 1000000) && decide (beastErr (toBeast r.2) = 0)
/-- the rows from the k-th on; 'prev' is the slot of the one before -/
def mayFrom : Option Int → List RowD → Bool
  | _, [] => true
  | prev, r :: l => rowMay r && (match prev with | none => true | some p => decide (p < r.1.1)) && mayFrom (some r.1.1) l
def mayD (l : List RowD) : Bool := mayFrom none l && decide (l.length ≤ 60)
def ofD (l : List RowD) : List RowD := l.foldl (fun m r => mput m r.1 r.2) []
def dget (m : List RowD) (h : Hd) : List Int := (mget m h).getD noneB
def allOf (x y : List RowD) : List RowD := y.foldl (fun m r => mput m r.1 r.2) x
def sortedKeys (m : List RowD) : List Hd := (mkeys m).mergeSort hLe
def chgAt (x y : List RowD) (h : Hd) : Chg := ⟨h, dget x h, dget y h⟩
def chgIs (c : Chg) : Bool := !decide (c.old = c.now)
def between (x y : List RowD) : List Chg := ((sortedKeys (allOf x y)).map (chgAt x y)).filter chgIs
def applyStep (m : List RowD) (c : Chg) : Except Int (List RowD) :=
  if c.old = c.now then .error 4 else if dget m c.at_ ≠ c.old then .error 5 else if c.now = noneB then .ok (mdel m c.at_) else .ok (mput m c.at_ c.now)
def applyL : List RowD → List Chg → Except Int (List RowD)
  | m, [] => .ok m
  | m, c :: cs => match applyStep m c with | .error e => .error e | .ok m' => applyL m' cs
def rowsOf (m : List RowD) : List RowD := (sortedKeys m).map fun h => (h, (mget m h).getD zeroB)
def betweenR (a b : List RowD) : List Chg × Int := if mayD a && mayD b then (between a b, 0) else ([], 4)
def applyR (l : List RowD) (c : List Chg) : List RowD × Int :=
  if mayD l = false then ([], 4) else if 120 < c.length then ([], 2) else
    match applyL l c with
    | .error e => ([], e)
    | .ok m => if mayD (rowsOf m) then (rowsOf m, 0) else ([], 4)
def swapC (c : Chg) : Chg := ⟨c.at_, c.now, c.old⟩
def invD (c : List Chg) : List Chg := c.reverse.map swapC

section
variable {m m' x y a b : List RowD} {h h' : Hd} {cs ds : List Chg}
theorem mayFrom_rows : ∀ {l : List RowD} {p : Option Int}, mayFrom p l = true → (∀ r ∈ l, rowMay r = true) ∧ l.Pairwise (fun r s => r.1.1 < s.1.1) ∧ ∀ q, p = some q → ∀ r ∈ l, q < r.1.1
  | [], _, _ => ⟨by simp, List.Pairwise.nil, by simp⟩
  | r :: l, p, hm => by
    unfold mayFrom at hm
    simp only [Bool.and_eq_true] at hm
    obtain ⟨⟨h1, h2⟩, h3⟩ := hm
    obtain ⟨g1, g2, g3⟩ := mayFrom_rows h3
    refine ⟨fun s hs => ?_, List.pairwise_cons.2 ⟨g3 _ rfl, g2⟩, fun q hq s hs => ?_⟩
    · rcases List.mem_cons.1 hs with rfl | hs
      · exact h1
      · exact g1 s hs
    · subst hq
      simp only [decide_eq_true_eq] at h2
      rcases List.mem_cons.1 hs with rfl | hs
      · exact h2
      · have := g3 _ rfl s hs; omega
theorem mayD_rows (hm : mayD a = true) : (∀ r ∈ a, rowMay r = true) ∧ a.Pairwise (fun r s => r.1.1 < s.1.1) ∧ a.length ≤ 60 := by
  unfold mayD at hm
  rw [Bool.and_eq_true, decide_eq_true_eq] at hm
  exact ⟨(mayFrom_rows hm.1).1, (mayFrom_rows hm.1).2.1, hm.2⟩
theorem keys_nodup (hp : a.Pairwise (fun r s => r.1.1 < s.1.1)) : (mkeys a).Nodup := by
  unfold mkeys
  rw [List.Nodup, List.pairwise_map]
  exact hp.imp fun {r s} h e => by rw [e] at h; omega
theorem keys_sorted (hp : a.Pairwise (fun r s => r.1.1 < s.1.1)) : (mkeys a).Pairwise (fun p q => hLe p q = true) := by
  unfold mkeys
  rw [List.pairwise_map]
  exact hp.imp fun {r s} h => by unfold hLe hLt; simp; omega
theorem foldl_mput : ∀ {l m : List RowD}, (mkeys (m ++ l)).Nodup → l.foldl (fun m r => mput m r.1 r.2) m = m ++ l
  | [], m, _ => by simp
  | r :: l, m, hn => by
    have h1 : r.1 ∉ mkeys m := by
      unfold mkeys at hn ⊢
      rw [List.map_append, List.nodup_append] at hn
      exact fun hm => hn.2.2 _ hm r.1 (by simp) rfl
    have h2 : mput m r.1 r.2 = m ++ [r] := by
      unfold mput
      rw [if_neg]
      intro ha
      obtain ⟨p, hp, e⟩ := List.any_eq_true.1 ha
      exact h1 (List.mem_map.2 ⟨p, hp, by simpa using e⟩)
    rw [List.foldl_cons, h2, foldl_mput (by rw [List.append_assoc]; exact hn), List.append_assoc, List.singleton_append]
theorem ofD_eq (hm : mayD a = true) : ofD a = a := by
  unfold ofD
  rw [foldl_mput (by simpa using keys_nodup (mayD_rows hm).2.1), List.nil_append]
def Clean (m : List RowD) : Prop := ∀ h b, mget m h = some b → b ≠ noneB
theorem mayD_clean (hm : mayD a = true) : Clean a := fun h b hb e => by
  have h1 := (mayD_rows hm).1 _ (mget_mem hb)
  subst e
  unfold rowMay at h1
  simp only [Bool.and_eq_true, decide_eq_true_eq] at h1
  have := (beast_ok _ h1.2).1
  simp [toBeast, noneB] at this
theorem mayD_nodup (hm : mayD a = true) : (mkeys a).Nodup := keys_nodup (mayD_rows hm).2.1
theorem clean_get (hc : Clean m) (h : Hd) : mget m h = if dget m h = noneB then none else some (dget m h) := by
  unfold dget
  cases e : mget m h with
  | none => simp
  | some b => simp [hc h b e]
theorem get_ext (h1 : Clean x) (h2 : Clean y) (he : ∀ h, dget x h = dget y h) (h : Hd) : mget x h = mget y h := by rw [clean_get h1, clean_get h2, he]

theorem mem_keys (m : List RowD) (h : Hd) : h ∈ mkeys m ↔ mget m h ≠ none := by rw [Ne, mget_none, Classical.not_not]
theorem sorted_of_same (hn : (mkeys m).Nodup) (hn' : (mkeys m').Nodup) (he : ∀ h, h ∈ mkeys m ↔ h ∈ mkeys m') : sortedKeys m = sortedKeys m' := by
  unfold sortedKeys
  exact sort_perm ((List.perm_ext_iff_of_nodup hn hn').2 he)
theorem rowsOf_eq (hb : mayD b = true) (hn : (mkeys m).Nodup) (he : ∀ h, mget m h = mget b h) : rowsOf m = b := by
  have h1 : sortedKeys m = mkeys b := by
    rw [sorted_of_same hn (mayD_nodup hb) fun h => by rw [mem_keys, mem_keys, he]]
    exact (sort_of_sorted (List.Perm.refl _) (keys_sorted (mayD_rows hb).2.1)).symm
  unfold rowsOf
  rw [h1]
  unfold mkeys
  rw [List.map_map]
  conv => rhs; rw [← List.map_id b]
  apply List.map_congr_left
  rintro ⟨h, v⟩ hr
  simp only [Function.comp, id]
  rw [he, mget_of_mem (mayD_nodup hb) hr]; rfl
theorem rowsOf_self (hb : mayD b = true) : rowsOf b = b := rowsOf_eq hb (mayD_nodup hb) fun _ => rfl

/-! ### one change after the other -/
def updF (f : Hd → List Int) (h : Hd) (v : List Int) : Hd → List Int := fun k => if k = h then v else f k
def fitsF : (Hd → List Int) → List Chg → Prop
  | _, [] => True
  | f, c :: cs => c.old ≠ c.now ∧ f c.at_ = c.old ∧ fitsF (updF f c.at_ c.now) cs
def endF : (Hd → List Int) → List Chg → (Hd → List Int)
  | f, [] => f
  | f, c :: cs => endF (updF f c.at_ c.now) cs
theorem fitsF_append : ∀ {cs : List Chg} {f : Hd → List Int}, fitsF f (cs ++ ds) ↔ fitsF f cs ∧ fitsF (endF f cs) ds
  | [], f => by simp [fitsF, endF]
  | c :: cs, f => by
    rw [List.cons_append, fitsF, fitsF, endF, fitsF_append]
    constructor
    · rintro ⟨h1, h2, h3, h4⟩; exact ⟨⟨h1, h2, h3⟩, h4⟩
    · rintro ⟨⟨h1, h2, h3⟩, h4⟩; exact ⟨h1, h2, h3, h4⟩
theorem endF_append : ∀ {cs : List Chg} {f : Hd → List Int}, endF f (cs ++ ds) = endF (endF f cs) ds
  | [], f => rfl
  | c :: cs, f => by rw [List.cons_append, endF, endF, endF_append]
theorem invD_cons (c : Chg) (cs : List Chg) : invD (c :: cs) = invD cs ++ [swapC c] := by simp [invD]
theorem invD_inv (cs : List Chg) : invD (invD cs) = cs := by
  unfold invD
  rw [← List.map_reverse, List.reverse_reverse, List.map_map]
  conv => rhs; rw [← List.map_id cs]
  exact List.map_congr_left fun c _ => rfl
theorem inv_fits : ∀ {cs : List Chg} {f : Hd → List Int}, fitsF f cs → fitsF (endF f cs) (invD cs) ∧ endF (endF f cs) (invD cs) = f
  | [], f, _ => ⟨trivial, rfl⟩
  | c :: cs, f, ⟨h1, h2, h3⟩ => by
    obtain ⟨g1, g2⟩ := inv_fits h3
    rw [invD_cons, fitsF_append, endF_append, endF, g2]
    refine ⟨⟨g1, fun e => h1 e.symm, by simp [updF, swapC], trivial⟩, ?_⟩
    funext k
    show updF (updF f c.at_ c.now) c.at_ c.old k = f k
    unfold updF
    by_cases e : k = c.at_
    · rw [if_pos e, e, h2]
    · rw [if_neg e, if_neg e]
theorem applyStep_ok {c : Chg} (hc : Clean m) (hn : (mkeys m).Nodup) (h1 : c.old ≠ c.now) (h2 : dget m c.at_ = c.old) :
    ∃ m', applyStep m c = .ok m' ∧ Clean m' ∧ (mkeys m').Nodup ∧ dget m' = updF (dget m) c.at_ c.now := by
  unfold applyStep
  rw [if_neg h1, if_neg (fun e => e h2)]
  by_cases e : c.now = noneB
  · rw [if_pos e]
    refine ⟨_, rfl, fun h b hb => ?_, mdel_nodup hn _, ?_⟩
    · rw [mget_mdel] at hb
      split at hb
      · cases hb
      · exact hc h b hb
    · funext k
      unfold updF dget
      rw [mget_mdel]
      split
      · rw [e]; rfl
      · rfl
  · rw [if_neg e]
    refine ⟨_, rfl, fun h b hb => ?_, mput_nodup hn _ _, ?_⟩
    · rw [mget_mput] at hb
      split at hb
      · cases Option.some.inj hb; exact e
      · exact hc h b hb
    · funext k
      unfold updF dget
      rw [mget_mput]
      split <;> rfl
theorem applyStep_err {c : Chg} {e : Int} (he : applyStep m c = .error e) : e = 4 ∨ e = 5 := by
  unfold applyStep at he
  split at he
  · cases he; exact Or.inl rfl
  · split at he
    · cases he; exact Or.inr rfl
    · split at he <;> cases he
theorem applyL_err : ∀ {cs : List Chg} {m : List RowD} {e : Int}, applyL m cs = .error e → e = 4 ∨ e = 5
  | [], m, e, he => by cases he
  | c :: cs, m, e, he => by
    unfold applyL at he
    split at he
    · rename_i e' h1; cases he; exact applyStep_err h1
    · exact applyL_err he
theorem applyL_ok : ∀ {cs : List Chg} {m : List RowD}, Clean m → (mkeys m).Nodup → fitsF (dget m) cs → ∃ m', applyL m cs = .ok m' ∧ Clean m' ∧ (mkeys m').Nodup ∧ dget m' = endF (dget m) cs
  | [], m, hc, hn, _ => ⟨m, rfl, hc, hn, rfl⟩
  | c :: cs, m, hc, hn, ⟨h1, h2, h3⟩ => by
    obtain ⟨m1, g1, g2, g3, g4⟩ := applyStep_ok hc hn h1 h2
    obtain ⟨m2, k1, k2, k3, k4⟩ := applyL_ok g2 g3 (cs := cs) (by rw [g4]; exact h3)
    refine ⟨m2, ?_, k2, k3, ?_⟩
    · unfold applyL; rw [g1]; exact k1
    · rw [k4, g4]; rfl
theorem applyL_fits : ∀ {cs : List Chg} {m m' : List RowD}, Clean m → (mkeys m).Nodup → applyL m cs = .ok m' → fitsF (dget m) cs
  | [], _, _, _, _, _ => trivial
  | c :: cs, m, m', hc, hn, he => by
    unfold applyL at he
    split at he
    · cases he
    · rename_i m1 h1
      have h2 : c.old ≠ c.now := fun e => by unfold applyStep at h1; rw [if_pos e] at h1; cases h1
      have h3 : dget m c.at_ = c.old := Classical.byContradiction fun e => by unfold applyStep at h1; rw [if_neg h2, if_pos e] at h1; cases h1
      obtain ⟨m2, g1, g2, g3, g4⟩ := applyStep_ok hc hn h2 h3
      rw [h1] at g1; cases g1
      have := applyL_fits g2 g3 he
      rw [g4] at this
      exact ⟨h2, h3, this⟩
/-- changes that lead from one list to another -/
theorem applyR_to (ha : mayD a = true) (hb : mayD b = true) (hl : cs.length ≤ 120) (hf : fitsF (dget a) cs) (he : endF (dget a) cs = dget b) : applyR a cs = (b, 0) := by
  obtain ⟨m, h1, h2, h3, h4⟩ := applyL_ok (mayD_clean ha) (mayD_nodup ha) hf
  have h5 : rowsOf m = b := rowsOf_eq hb h3 (get_ext h2 (mayD_clean hb) fun h => by rw [h4, he])
  unfold applyR
  rw [if_neg (by simp [ha]), if_neg (by omega), h1]
  simp only
  rw [h5, if_pos hb]

/-! ### the changes between two -/
theorem allOf_nodup (hn : (mkeys x).Nodup) : ∀ {y : List RowD}, (mkeys (allOf x y)).Nodup := by
  intro y
  unfold allOf
  induction y generalizing x with
  | nil => exact hn
  | cons r y ih => exact ih (mput_nodup hn _ _)
theorem mem_allOf {h : Hd} : ∀ {y x : List RowD}, h ∈ mkeys (allOf x y) ↔ h ∈ mkeys x ∨ h ∈ mkeys y
  | [], x => by simp [allOf, mkeys]
  | r :: y, x => by
    have := @mem_allOf h y (mput x r.1 r.2)
    unfold allOf at this ⊢
    rw [List.foldl_cons, this, mput_keys_of]
    unfold mkeys
    simp only [List.map_cons, List.mem_cons]
    by_cases e : r.1 ∈ List.map (fun x => x.fst) x
    · rw [if_pos e]
      constructor
      · rintro (h | h); exact Or.inl h; exact Or.inr (Or.inr h)
      · rintro (h | h | h); exact Or.inl h; exact Or.inl (by rw [h]; exact e); exact Or.inr h
    · rw [if_neg e]
      simp only [List.mem_append, List.mem_singleton]
      constructor
      · rintro ((h | h) | h); exact Or.inl h; exact Or.inr (Or.inl h); exact Or.inr (Or.inr h)
      · rintro (h | h | h); exact Or.inl (Or.inl h); exact Or.inl (Or.inr h); exact Or.inr h
theorem allOf_len : ∀ {y x : List RowD}, (allOf x y).length ≤ x.length + y.length
  | [], x => by simp [allOf]
  | r :: y, x => by
    have h1 := allOf_len (y := y) (x := mput x r.1 r.2)
    have h2 := mput_len x r.1 r.2
    unfold allOf at h1 ⊢
    rw [List.foldl_cons, List.length_cons]; omega
theorem mem_sorted : h ∈ sortedKeys m ↔ h ∈ mkeys m := by unfold sortedKeys; exact List.mem_mergeSort
theorem sorted_lt (hn : (mkeys m).Nodup) : (sortedKeys m).Pairwise fun p q => hLt p q = true := by
  have h1 : (sortedKeys m).Pairwise fun p q => hLe p q = true := sort_sorted _
  have h2 : (sortedKeys m).Nodup := (List.mergeSort_perm _ _).nodup_iff.2 hn
  exact h1.and h2 |>.imp fun {p q} ⟨h, hne⟩ => by
    unfold hLe hLt at *
    obtain ⟨p1, p2⟩ := p
    obtain ⟨q1, q2⟩ := q
    simp only [Bool.not_eq_true', Bool.or_eq_false_iff, Bool.and_eq_false_iff, decide_eq_false_iff_not, Bool.or_eq_true, Bool.and_eq_true, decide_eq_true_eq] at *
    have : ¬ (p1 = q1 ∧ p2 = q2) := fun e => hne (Prod.ext e.1 e.2)
    omega
end

end Go.Proofs.YtjggdpnamakoeaaGreat

/-
  The laws of what has changed, as plain data.
-/
namespace Go.Proofs.YtjggdpnamakoeaaGreat

section
variable {m m' x y a b : List RowD} {h h' : Hd} {cs ds : List Chg}
theorem fits_of : ∀ {cs : List Chg} {f g : Hd → List Int}, cs.Pairwise (fun c d => c.at_ ≠ d.at_) → (∀ c ∈ cs, c.old ≠ c.now ∧ f c.at_ = c.old ∧ g c.at_ = c.now) → (∀ k, (∀ c ∈ cs, c.at_ ≠ k) → f k = g k) →
    fitsF f cs ∧ endF f cs = g
  | [], f, g, _, _, h3 => ⟨trivial, funext fun k => h3 k (by simp)⟩
  | c :: cs, f, g, h1, h2, h3 => by
    obtain ⟨p1, p2⟩ := List.pairwise_cons.1 h1
    obtain ⟨c1, c2, c3⟩ := h2 c (by simp)
    have ih := fits_of (cs := cs) (f := updF f c.at_ c.now) (g := g) p2 (fun d hd => by
      obtain ⟨d1, d2, d3⟩ := h2 d (by simp [hd])
      refine ⟨d1, ?_, d3⟩
      unfold updF
      rw [if_neg (fun e => p1 d hd e.symm), d2]) (fun k hk => by
      unfold updF
      by_cases e : k = c.at_
      · rw [if_pos e, e, c3]
      · rw [if_neg e]
        exact h3 k fun d hd => by rcases List.mem_cons.1 hd with rfl | hd; exact fun e' => e e'.symm; exact hk d hd)
    exact ⟨⟨c1, c2, ih.1⟩, ih.2⟩
theorem mem_between {c : Chg} (hc : c ∈ between x y) : c = chgAt x y c.at_ ∧ c.old ≠ c.now ∧ c.at_ ∈ sortedKeys (allOf x y) := by
  unfold between at hc
  rw [List.mem_filter] at hc
  obtain ⟨h1, h2⟩ := hc
  obtain ⟨k, hk, rfl⟩ := List.mem_map.1 h1
  unfold chgIs at h2
  exact ⟨rfl, by simpa using h2, hk⟩
theorem between_lt (hn : (mkeys x).Nodup) : (between x y).Pairwise fun c d => hLt c.at_ d.at_ = true := by
  unfold between
  refine List.Pairwise.filter _ ?_
  rw [List.pairwise_map]
  exact sorted_lt (allOf_nodup hn)
theorem hLt_irrefl (a : Hd) : hLt a a = false := by unfold hLt; simp
theorem between_all (k : Hd) (hk : dget x k ≠ dget y k) : ∃ c ∈ between x y, c.at_ = k := by
  refine ⟨chgAt x y k, ?_, rfl⟩
  unfold between
  rw [List.mem_filter]
  refine ⟨List.mem_map.2 ⟨k, ?_, rfl⟩, by unfold chgIs chgAt; simp only [Bool.not_eq_true', decide_eq_false_iff_not]; exact hk⟩
  rw [mem_sorted, mem_allOf, mem_keys, mem_keys]
  refine Classical.byContradiction fun hno => hk ?_
  have h1 : mget x k = none := Classical.byContradiction fun e => hno (Or.inl e)
  have h2 : mget y k = none := Classical.byContradiction fun e => hno (Or.inr e)
  unfold dget
  rw [h1, h2]
theorem between_fits (hn : (mkeys x).Nodup) : fitsF (dget x) (between x y) ∧ endF (dget x) (between x y) = dget y := by
  refine fits_of ((between_lt hn).imp fun {c d} h e => ?_) (fun c hc => ?_) fun k hk => ?_
  · rw [e, hLt_irrefl] at h; cases h
  · obtain ⟨h1, h2, _⟩ := mem_between hc
    refine ⟨h2, ?_, ?_⟩
    · conv => rhs; rw [h1]
      rfl
    · conv => rhs; rw [h1]
      rfl
  · refine Classical.byContradiction fun e => ?_
    obtain ⟨c, hc, he⟩ := between_all k e
    exact hk c hc he
theorem sorted_len (m : List RowD) : (sortedKeys m).length = m.length := by unfold sortedKeys mkeys; rw [List.length_mergeSort, List.length_map]
theorem between_len : (between x y).length ≤ x.length + y.length := by
  have h1 := allOf_len (x := x) (y := y)
  unfold between
  refine Nat.le_trans (List.length_filter_le _ _) ?_
  rw [List.length_map, sorted_len]; exact h1
theorem between_swap (hx : (mkeys x).Nodup) (hy : (mkeys y).Nodup) : (between y x).length = (between x y).length := by
  have e1 : sortedKeys (allOf y x) = sortedKeys (allOf x y) := sorted_of_same (allOf_nodup hy) (allOf_nodup hx) fun h => by rw [mem_allOf, mem_allOf]; exact Or.comm
  unfold between
  rw [e1, List.filter_map, List.filter_map, List.length_map, List.length_map]
  congr 1
  apply List.filter_congr
  intro k _
  show (!decide (dget y k = dget x k)) = (!decide (dget x k = dget y k))
  congr 1
  rw [Bool.eq_iff_iff, decide_eq_true_eq, decide_eq_true_eq]
  exact eq_comm
theorem betweenR_ok {c : List Chg} (h : betweenR a b = (c, 0)) : mayD a = true ∧ mayD b = true ∧ c = between a b := by
  unfold betweenR at h
  split at h
  · rename_i hm
    rw [Bool.and_eq_true] at hm
    injection h with h1 _
    exact ⟨hm.1, hm.2, h1.symm⟩
  · injection h with _ h2; cases h2
theorem betweenR_err {c : List Chg} {e : Int} (h : betweenR a b = (c, e)) (he : e ≠ 0) : c = [] := by
  unfold betweenR at h
  split at h
  · injection h with _ h2; exact absurd h2.symm he
  · injection h with h1 _; exact h1.symm
theorem applyR_err {l x : List RowD} {c : List Chg} {e : Int} (h : applyR l c = (x, e)) (he : e ≠ 0) : x = [] := by
  unfold applyR at h
  split at h
  · injection h with h1 _; exact h1.symm
  · split at h
    · injection h with h1 _; exact h1.symm
    · split at h
      · injection h with h1 _; exact h1.symm
      · split at h
        · injection h with _ h2; exact absurd h2.symm he
        · injection h with h1 _; exact h1.symm
theorem between_120 (ha : mayD a = true) (hb : mayD b = true) : (between a b).length ≤ 120 := by
  have := between_len (x := a) (y := b)
  have := (mayD_rows ha).2.2
  have := (mayD_rows hb).2.2
  omega
theorem invD_len (cs : List Chg) : (invD cs).length = cs.length := by simp [invD]
/-- DiffBack -/
theorem diff_there (ha : mayD a = true) (hb : mayD b = true) : applyR a (between a b) = (b, 0) :=
  applyR_to ha hb (between_120 ha hb) (between_fits (mayD_nodup ha)).1 (between_fits (mayD_nodup ha)).2
theorem diff_back (ha : mayD a = true) (hb : mayD b = true) : applyR b (invD (between a b)) = (a, 0) := by
  obtain ⟨h1, h2⟩ := between_fits (x := a) (y := b) (mayD_nodup ha)
  obtain ⟨h3, h4⟩ := inv_fits h1
  rw [h2] at h3 h4
  exact applyR_to hb ha (by rw [invD_len]; exact between_120 ha hb) h3 h4
/-- DiffNone -/
theorem diff_none (ha : mayD a = true) (hb : mayD b = true) : (between a b).length = 0 ↔ a = b := by
  constructor
  · intro h
    have h0 := List.eq_nil_of_length_eq_zero h
    have h1 := diff_there ha hb
    rw [h0] at h1
    have h2 := applyR_to (cs := []) ha ha (by simp) trivial rfl
    rw [h2] at h1
    injection h1
  · rintro rfl
    rw [List.length_eq_zero_iff]
    refine List.eq_nil_iff_forall_not_mem.2 fun c hc => ?_
    obtain ⟨h1, h2, _⟩ := mem_between hc
    apply h2
    rw [h1]; rfl
/-- DiffThrough -/
theorem diff_through {c : List RowD} (ha : mayD a = true) (hb : mayD b = true) (hc : mayD c = true) (hl : (between a b).length + (between b c).length ≤ 120) : applyR a (between a b ++ between b c) = (c, 0) := by
  obtain ⟨h1, h2⟩ := between_fits (x := a) (y := b) (mayD_nodup ha)
  obtain ⟨h3, h4⟩ := between_fits (x := b) (y := c) (mayD_nodup hb)
  refine applyR_to ha hc (by rw [List.length_append]; exact hl) ?_ ?_
  · rw [fitsF_append, h2]; exact ⟨h1, h3⟩
  · rw [endF_append, h2, h4]
/-- DiffTwice -/
theorem applyR_back {l x : List RowD} {c : List Chg} (h : applyR l c = (x, 0)) : mayD x = true ∧ applyR x (invD c) = (l, 0) := by
  unfold applyR at h
  split at h
  · injection h with _ h2; cases h2
  · rename_i hl
    have hl : mayD l = true := by simpa using hl
    split at h
    · injection h with _ h2; cases h2
    · rename_i hc
      split at h
      · rename_i e he
        injection h with _ h2
        subst h2
        have := applyL_err he
        omega
      · rename_i m hm
        split at h
        · rename_i hx
          injection h with h1 _
          subst h1
          refine ⟨hx, ?_⟩
          have hf := applyL_fits (mayD_clean hl) (mayD_nodup hl) hm
          obtain ⟨m2, g1, g2, g3, g4⟩ := applyL_ok (mayD_clean hl) (mayD_nodup hl) hf
          rw [hm] at g1
          cases g1
          have hx1 : ∀ k, dget (rowsOf m) k = dget m k := fun k => by
            have hnd : (mkeys (rowsOf m)).Nodup := mayD_nodup hx
            have hk : mkeys (rowsOf m) = sortedKeys m := by
              unfold rowsOf mkeys
              rw [List.map_map]
              conv => rhs; rw [← List.map_id (sortedKeys m)]
              exact List.map_congr_left fun _ _ => rfl
            unfold dget
            cases e : mget m k with
            | none =>
              have : mget (rowsOf m) k = none := by
                rw [mget_none, hk, mem_sorted, mem_keys, e]; simp
              rw [this]
            | some v =>
              have : mget (rowsOf m) k = some v := by
                refine mget_of_mem hnd ?_
                unfold rowsOf
                refine List.mem_map.2 ⟨k, ?_, by rw [e]; rfl⟩
                rw [mem_sorted, mem_keys, e]; simp
              rw [this]
          have hfun : dget (rowsOf m) = endF (dget l) c := by rw [← g4]; exact funext hx1
          obtain ⟨k1, k2⟩ := inv_fits hf
          refine applyR_to hx hl (by rw [invD_len]; omega) (by rw [hfun]; exact k1) (by rw [hfun]; exact k2)
        · injection h with _ h2; cases h2
end

end Go.Proofs.YtjggdpnamakoeaaGreat
