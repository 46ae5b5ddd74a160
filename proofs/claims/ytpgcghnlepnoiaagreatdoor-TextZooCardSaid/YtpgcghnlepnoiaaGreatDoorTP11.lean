/-
  Several texts in one (merged by a program of mine): Open.
-/
import Derived.Test.YtpgcghnlepnoiaaGreatDoorTP10
import Derived.ProofKit
import Derived.OpenShut
import Derived.SizedLaws
import Derived.Deep.Slices
set_option linter.unusedVariables false
set_option linter.unusedSimpArgs false
set_option linter.unusedSectionVars false
/-
  Opening plain arguments: a value all of whose cells are ints, by itself or as a slice's element; and the last step of a law: it returns true, and below the old heap nothing has changed.
-/
namespace Go.Proofs.YtpgcghnlepnoiaaGreatDoor
open Go.RowKit Go.ChangeShapes Go.WideShapes Go.ChangeAt Go.Deep

/-- a type all of whose cells are ints -/
def flatB (P : Program) : Nat → TypeId → Bool
  | 0, _ => false
  | n + 1, t => match P.underlying t with
    | some (.int .i64) => P.cellsOf t == 1
    | some (.struct fs) => fs.toList.all (fun f => flatB P n f.type) && (List.range (P.cellsOf t)).all fun j => fs.toList.any fun f => decide (f.offset ≤ j) && decide (j < f.offset + P.cellsOf f.type)
    | some (.array m e) => flatB P n e && decide (P.cellsOf t = m * P.cellsOf e) && decide (0 < P.cellsOf e)
    | _ => false

def IntCells (cs : List Value) : Prop := ∀ c ∈ cs, ∃ x : Int, c = .int .i64 x ∧ Fits x

theorem fits_of_wf {x : Int} (h : (Lit.int .i64 x).wf = true) : Fits x := by
  simp only [Lit.wf, IntKind.min, IntKind.max, IntKind.signed, IntKind.bits, Bool.and_eq_true, decide_eq_true_eq, if_true] at h
  unfold Fits
  omega

section
variable {H : Type} {enc : TypeId × Value → H} {P : Program} {w : World} {base : Nat} {spare : Nat → Bool} {held : Bool}

theorem flat_trod : ∀ (n fuel : Nat) (t : TypeId) (cs : List Value) (y : DataW H × List MemPlace), flatB P n t = true →
    DataW.trod enc P w base spare held fuel t cs = some y → cs.length = P.cellsOf t ∧ IntCells cs
  | 0, _, _, _, _, h, _ => by simp [flatB] at h
  | n + 1, fuel, t, cs, y, h, ht => by
    unfold flatB at h
    split at h
    · rename_i hu
      obtain ⟨x, rfl, _, hw⟩ := DataW.trod_int hu ht
      refine ⟨by simpa using (beq_iff_eq.1 h).symm, fun c hc => ?_⟩
      rw [List.mem_singleton.1 hc]
      exact ⟨x, rfl, fits_of_wf hw⟩
    · rename_i fs hu
      obtain ⟨xs, m, _, _, hl, hxl, hf⟩ := DataW.trod_struct hu ht
      simp only [Bool.and_eq_true, List.all_eq_true] at h
      obtain ⟨h1, h2⟩ := h
      refine ⟨hl, fun c hc => ?_⟩
      obtain ⟨j, hj, hjc⟩ := List.mem_iff_getElem.1 hc
      have h3 := h2 j (by simp; omega)
      simp only [List.any_eq_true, Bool.and_eq_true, decide_eq_true_eq] at h3
      obtain ⟨f, hfm, hf1, hf2⟩ := h3
      obtain ⟨i, hi, hfi⟩ := List.mem_iff_getElem.1 hfm
      have h4 := hf i f (by rw [← hfi]; simp at hi; simp [Array.getElem?_eq_getElem hi])
      have hil : i < xs.length := by rw [hxl]; simpa using hi
      rw [List.getElem?_eq_getElem hil] at h4
      obtain ⟨_, h5⟩ := flat_trod n m f.type _ _ (h1 f hfm) h4
      refine h5 c ?_
      rw [List.mem_iff_getElem?]
      refine ⟨j - f.offset, ?_⟩
      rw [List.getElem?_take, if_pos (by omega), List.getElem?_drop, show f.offset + (j - f.offset) = j from by omega, List.getElem?_eq_getElem hj, hjc]
    · rename_i m e hu
      obtain ⟨xs, k, _, _, hl, hxl, hf⟩ := DataW.trod_array hu ht
      simp only [Bool.and_eq_true, decide_eq_true_eq] at h
      obtain ⟨⟨h1, h2⟩, h3⟩ := h
      refine ⟨hl, fun c hc => ?_⟩
      obtain ⟨j, hj, hjc⟩ := List.mem_iff_getElem.1 hc
      have hj' : j < m * P.cellsOf e := by omega
      have hjd : j / P.cellsOf e < m := (Nat.div_lt_iff_lt_mul h3).2 hj'
      have h4 := hf (j / P.cellsOf e) hjd
      have hil : j / P.cellsOf e < xs.length := by omega
      rw [List.getElem?_eq_getElem hil] at h4
      obtain ⟨_, h5⟩ := flat_trod n k e _ _ h1 h4
      refine h5 c ?_
      rw [List.mem_iff_getElem?]
      have h6 := Nat.div_add_mod j (P.cellsOf e)
      have h7 := Nat.mod_lt j h3
      rw [Nat.mul_comm] at h6
      refine ⟨j % P.cellsOf e, ?_⟩
      rw [List.getElem?_take, if_pos h7, List.getElem?_drop, h6, List.getElem?_eq_getElem hj, hjc]
    · cases h

theorem ints_of_cells {cs : List Value} (h : IntCells cs) : ∃ xs : List Int, cs = xs.map (Value.int .i64) ∧ xs.length = cs.length ∧ ∀ x ∈ xs, Fits x := by
  induction cs with
  | nil => exact ⟨[], rfl, rfl, by simp⟩
  | cons c cs ih =>
    obtain ⟨xs, h1, h2, h3⟩ := ih fun d hd => h d (by simp [hd])
    obtain ⟨x, hx, hf⟩ := h c (by simp)
    exact ⟨x :: xs, by simp [h1, hx], by simp [h2], by simpa using ⟨hf, h3⟩⟩

/-- a value of such a type (a struct) -/
theorem open_flat {r : Reach} {b0 : Nat} {t : TypeId} {fs : Array Field} {v : Value} {d : DataW H} {p : List MemPlace} (n : Nat) (hu : P.underlying t = some (.struct fs)) (hB : flatB P n t = true)
    (hv : Value.okWide P w r b0 t v) (h : DataW.Trod enc P w base spare held t v d p) : ∃ xs : List Int, v = .agg (xs.map (Value.int .i64)).toArray ∧ xs.length = P.cellsOf t ∧ ∀ x ∈ xs, Fits x := by
  obtain ⟨cs, rfl, hsz⟩ := okWide_struct hu hv
  obtain ⟨fuel, hf⟩ := h
  obtain ⟨h1, h2⟩ := flat_trod n fuel t _ _ hB hf
  obtain ⟨xs, h3, h4, h5⟩ := ints_of_cells h2
  refine ⟨xs, ?_, by rw [h4, h1], h5⟩
  rw [← h3]
  simp [Value.cells]

/-- a slice of such elements: its cells -/
theorem open_flats0 {t e : TypeId} {v : Value} {d : DataW H} {p : List MemPlace} (n : Nat) (ht : P.underlying t = some (.slice e)) (hB : flatB P n e = true) (hpos : 0 < P.cellsOf e)
    (hv : ∃ A len cap, v = .slice A len cap) (h : DataW.Trod enc P w base spare held t v d p) (hlt : ∀ x ∈ p, x.block < w.heap.size) :
    ∃ A len cap, v = .slice A len cap ∧ cap ≤ maxLen ∧ len ≤ cap ∧ (∃ elems sp, d = .slice elems sp ∧ elems.length = len ∨ len = 0) ∧ ∃ xs : List Int, Reads w w.heap.size (P.cellsOf e) A len (xs.map (Value.int .i64)) ∧ ∀ x ∈ xs, Fits x := by
  obtain ⟨A, len, cap, rfl⟩ := hv
  obtain ⟨fuel, hf⟩ := h
  rcases open_slice ht hf with ⟨hcs, hx⟩ | ⟨a, len', cap', m, k, D, Pl, hcs, hb, hl, hm, hmm, hx, hi⟩
  · simp only [Value.cells, List.cons.injEq, Value.slice.injEq, and_true] at hcs
    obtain ⟨rfl, rfl, rfl⟩ := hcs
    exact ⟨none, 0, 0, rfl, by decide, Nat.le_refl _, ⟨[], [], Or.inr rfl⟩, [], ⟨by simp, fun h0 => absurd h0 (by omega)⟩, by simp⟩
  · simp only [Value.cells, List.cons.injEq, Value.slice.injEq, and_true] at hcs
    obtain ⟨rfl, rfl, rfl⟩ := hcs
    have hlm : len ≤ m := by rw [hmm]; split <;> omega
    simp only [Prod.mk.injEq] at hx
    obtain ⟨rfl, rfl⟩ := hx
    refine ⟨_, _, _, rfl, hm, hl, ⟨_, _, Or.inl ⟨rfl, by simp⟩⟩, ?_⟩
    have hcell : ∀ j, j < len * P.cellsOf e → ∃ x : Int, w.cell? (a.add j) = some (.int .i64 x) ∧ Fits x := by
      intro j hj
      have hjd : j / P.cellsOf e < len := (Nat.div_lt_iff_lt_mul hpos).2 hj
      obtain ⟨cs', hc, ht'⟩ := hi (j / P.cellsOf e) (by omega)
      obtain ⟨_, h2⟩ := flat_trod n _ e _ _ hB ht'
      obtain ⟨_, hcl, hat⟩ := World.cells?_some hc
      have h7 := Nat.mod_lt j hpos
      have h8 := hat _ h7
      rw [Go.Deep.add_add, Nat.mul_comm, Nat.div_add_mod] at h8
      obtain ⟨x, hx, hfx⟩ := h2 _ (List.getElem_mem (show j % P.cellsOf e < cs'.length by omega))
      exact ⟨x, by rw [h8, List.getElem?_eq_getElem (by omega), hx], hfx⟩
    have hex : ∃ xs : List Int, xs.length = len * P.cellsOf e ∧ (∀ j x, xs[j]? = some x → w.cell? (a.add j) = some (.int .i64 x)) ∧ ∀ x ∈ xs, Fits x := by
      generalize len * P.cellsOf e = q at hcell
      induction q with
      | zero => exact ⟨[], rfl, by simp, by simp⟩
      | succ q ih =>
        obtain ⟨xs, h1, h2, h3⟩ := ih fun j hj => hcell j (by omega)
        obtain ⟨x, hx, hfx⟩ := hcell q (by omega)
        refine ⟨xs ++ [x], by simp [h1], ?_, by simpa using fun y hy => by rcases hy with hy | rfl; exact h3 y hy; exact hfx⟩
        intro j z hz
        rw [List.getElem?_append] at hz
        split at hz
        · exact h2 j z hz
        · have : j = q := by
            have := (List.getElem?_eq_some_iff.1 hz).1
            simp at this; omega
          subst this
          simp [h1] at hz
          rw [← hz]; exact hx
    obtain ⟨xs, h1, h2, h3⟩ := hex
    refine ⟨xs, ⟨by simp [h1], fun h0 => ?_⟩, h3⟩
    obtain ⟨x0, hx0, _⟩ := hcell 0 (Nat.mul_pos h0 hpos)
    obtain ⟨b, o, s⟩ := a
    have hs : s = none := by
      unfold World.cell? at hx0
      split at hx0
      · cases s with
        | none => rfl
        | some _ => simp [Addr.add] at hx0
      · cases hx0
    subst hs
    refine ⟨b, o, rfl, ?_, ?_⟩
    · exact World.block_lt_of_cell? w ⟨b, o, none⟩ (by simpa [Addr.add] using hx0)
    · intro j u hu
      rw [List.getElem?_map] at hu
      obtain ⟨x, hx, rfl⟩ := Option.map_eq_some_iff.1 hu
      have := h2 j x hx
      rwa [Addr.add_lit] at this
theorem open_flats {r : Reach} {b0 : Nat} {t e : TypeId} {v : Value} {d : DataW H} {p : List MemPlace} (n : Nat) (ht : P.underlying t = some (.slice e)) (hB : flatB P n e = true) (hpos : 0 < P.cellsOf e)
    (hv : Value.okWide P w r b0 t v) (h : DataW.Trod enc P w base spare held t v d p) (hlt : ∀ x ∈ p, x.block < w.heap.size) :
    ∃ A len cap, v = .slice A len cap ∧ cap ≤ maxLen ∧ len ≤ cap ∧ (∃ elems sp, d = .slice elems sp ∧ elems.length = len ∨ len = 0) ∧ ∃ xs : List Int, Reads w w.heap.size (P.cellsOf e) A len (xs.map (Value.int .i64)) ∧ ∀ x ∈ xs, Fits x :=
  open_flats0 n ht hB hpos (okWide_slice ht hv) h hlt

theorem trodAll_stays (hl : laidOutB P = true) : ∀ {ts : List TypeId} {vs : List Value} {ds : List (DataW H)} {ps : List MemPlace} {W W' : World}, (∀ t ∈ ts, P.readableRec t = true ∧ t < P.types.size) →
    DataW.TrodAll enc P W 0 (fun _ => true) true ts vs ds ps → Below W.heap.size W W' → (∀ x ∈ ps, x.block < W.heap.size) →
    DataW.TrodAll enc P W' 0 (fun b => decide (b < W.heap.size)) true ts vs ds ps
  | [], vs, ds, ps, W, W', _, h, _, _ => by
    obtain ⟨rfl, rfl, rfl⟩ := trodAll_nil h
    exact trodAll_mk0
  | t :: ts, vs, ds, ps, W, W', ht, h, hb, hlt => by
    obtain ⟨v, vs', d, ds', p, q, rfl, rfl, rfl, h1, h2⟩ := trodAll_cons h
    exact trodAll_cons_mk (Below.trod hl (ht t (by simp)).1 (ht t (by simp)).2 h1 hb fun x hx => hlt x (by simp [hx])) (trodAll_stays hl (fun u hu => ht u (by simp [hu])) h2 hb fun x hx => hlt x (by simp [hx]))

/-- a law's last step -/
theorem law_post {f : Func} {s : ChangeSpec} {W W' : World} {args : Array Value} {ds gs : List (DataW H)} {before : List MemPlace} {tb : TypeId} (hl : laidOutB P = true) (hts : ∀ t ∈ f.params.toList, P.readableRec t = true ∧ t < P.types.size)
    (hres : f.resultTypes = #[tb]) (htb : P.underlying tb = some .bool) (hvars : s.vars = []) (hs : s.fn H ds = { results := [.lit (.bool true)], args := ds })
    (hW : DataW.Whole enc P f.params.toList s.vars false W args.toList ds gs before) (hb : Below W.heap.size W W') : s.post enc P f false true false false W args (.bool true) W' := by
  have hW' := hW
  obtain ⟨p, q, hA, hV, rfl, hfz, hnd⟩ := hW
  rw [hvars] at hV
  obtain ⟨rfl, rfl⟩ := trodVars_none hV
  have hlt : ∀ x ∈ p ++ [], x.block < W.heap.size := fun x hx => hW'.lt x hx
  refine ⟨ds, [], p ++ [], [], p, [], hW', ?_, ?_, ?_, ?_, by simp⟩
  · rw [List.append_nil, hs, hres]
    exact trodAll_mk1 (shut_bool htb true)
  · rw [List.append_nil, hs]
    exact trodAll_stays hl hts hA hb fun x hx => hlt x (by simpa using hx)
  · rw [List.append_nil, hs, hvars]
    exact rfl
  · exact World.keptBut_mono (fun x hx => ⟨hx, by simp at hx; exact Or.inr (Or.inl hx)⟩) (hb.frame (· ∈ p ++ []))

end
end Go.Proofs.YtpgcghnlepnoiaaGreatDoor
