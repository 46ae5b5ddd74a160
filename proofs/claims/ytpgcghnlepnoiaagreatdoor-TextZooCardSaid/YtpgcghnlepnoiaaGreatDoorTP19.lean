/-
  Several texts in one (merged by a program of mine): MapMem, MapSep, HandleKey, FamMem, Lift2.
-/
import Derived.Test.YtpgcghnlepnoiaaGreatDoorTP18
import Derived.Maps.RangeWalk
set_option linter.unusedVariables false
set_option linter.unusedSimpArgs false
set_option linter.unusedSectionVars false
/-
  A map in memory as a list of keys and values; what is looked up, laid, taken out and ranged over.
-/
namespace Go.Proofs.YtpgcghnlepnoiaaGreatDoor
open Go.RowKit Go.MapKept Go.ChangeMaps

/-- the keys of a type: how a key lies in memory, and which keys there are -/
structure KeyOk (P : Program) (k : TypeId) {κ : Type} (ek : κ → Value) (good : κ → Prop) : Prop where
  inj : ∀ {a b : κ}, ek a = ek b → a = b
  check : ∀ (w : World) (em : Bool) (x : κ), good x → (Instr.checkKey em 10000 k (ek x)).run P w = .ok () w
  find : ∀ (w : World) (x : κ), good x → ∀ es : List MapEntry, (∀ e ∈ es, ∃ y, good y ∧ e.key = ek y) →
    ((Instr.findKey k (ek x) es).run P w = .ok none w ∧ ∀ e ∈ es, e.key ≠ ek x) ∨ ∃ j e, (Instr.findKey k (ek x) es).run P w = .ok (some (j, e.val)) w ∧ es[j]? = some e ∧ e.key = ek x
  stays : ∀ (w : World) (x : κ), (Instr.keyThatStays (ek x) (ek x)).run P w = .ok (ek x) w

/-- block b is a map that holds m -/
def MapAt {κ ν : Type} (ek : κ → Value) (ev : ν → Value) (good : κ → Prop) (w : World) (b : Nat) (m : List (κ × ν)) : Prop :=
  ∃ es clock, w.heap[b]? = some (.map es clock) ∧ Stamped es clock ∧ es.toList.map (fun e => (e.key, e.val)) = m.map (fun p => (ek p.1, ev p.2)) ∧ ∀ p ∈ m, good p.1

section
variable {κ ν : Type} {P : Program} {k : TypeId} {ek : κ → Value} {ev : ν → Value} {good : κ → Prop} {w w' : World} {b : Nat} {m : List (κ × ν)}

theorem MapAt.lt (h : MapAt ek ev good w b m) : b < w.heap.size := by
  obtain ⟨es, clock, hb, _⟩ := h
  exact (Array.getElem?_eq_some_iff.1 hb).1
theorem MapAt.block (h : MapAt ek ev good w b m) (hb : w'.heap[b]? = w.heap[b]?) : MapAt ek ev good w' b m := by
  obtain ⟨es, clock, h1, h2⟩ := h
  exact ⟨es, clock, hb.trans h1, h2⟩
theorem MapAt.only {F : Nat → Prop} (h : MapAt ek ev good w b m) (ho : Only F w w') (hF : ¬ F b) : MapAt ek ev good w' b m := h.block (ho.block b h.lt hF)
theorem MapAt.below {B : Nat} (h : MapAt ek ev good w b m) (hb : Below B w w') (hB : b < B) : MapAt ek ev good w' b m := h.block (hb.block b hB)
theorem MapAt.after (h : MapAt ek ev good w b m) (hb : Below w.heap.size w w') : MapAt ek ev good w' b m := h.below hb h.lt
theorem MapAt.keys_good (h : MapAt ek ev good w b m) : ∀ p ∈ m, good p.1 := by
  obtain ⟨es, clock, _, _, _, h4⟩ := h; exact h4
theorem MapAt.new (w : World) (ek : κ → Value) (ev : ν → Value) (good : κ → Prop) : MapAt ek ev good (w.alloc (.map #[] 0)) w.heap.size [] :=
  ⟨#[], 0, (MapKept.heap_alloc w _).1, stamped_empty 0, rfl, by simp⟩

theorem keys_of {es : List MapEntry} (h : es.map (fun e => (e.key, e.val)) = m.map (fun p => (ek p.1, ev p.2))) (hg : ∀ p ∈ m, good p.1) : ∀ e ∈ es, ∃ y, good y ∧ e.key = ek y := by
  intro e he
  have : (e.key, e.val) ∈ m.map (fun p => (ek p.1, ev p.2)) := by rw [← h]; exact List.mem_map.2 ⟨e, he, rfl⟩
  obtain ⟨p, hp, hpe⟩ := List.mem_map.1 this
  injection hpe with h1 h2
  exact ⟨p.1, hg p hp, h1.symm⟩
theorem MapAt.nodup (K : KeyOk P k ek good) (h : MapAt ek ev good w b m) : (mkeys m).Nodup := by
  obtain ⟨es, clock, _, hs, he, _⟩ := h
  have h1 : es.toList.map (·.key) = (mkeys m).map ek := by
    have := congrArg (List.map Prod.fst) he
    simpa [mkeys, Function.comp_def] using this
  have h2 := hs.2.2
  rw [h1] at h2
  exact (List.Pairwise.of_map ek (fun a b hne e => hne (by rw [e])) h2)
/-- the place of a key -/
theorem find_spec (K : KeyOk P k ek good) {es : List MapEntry} (he : es.map (fun e => (e.key, e.val)) = m.map (fun p => (ek p.1, ev p.2))) {x : κ} :
    (∀ e ∈ es, e.key ≠ ek x) ↔ x ∉ mkeys m := by
  have h1 : es.map (·.key) = (mkeys m).map ek := by
    have := congrArg (List.map Prod.fst) he
    simpa [mkeys, Function.comp_def] using this
  constructor
  · intro h hx
    have : ek x ∈ es.map (·.key) := by rw [h1]; exact List.mem_map.2 ⟨x, hx, rfl⟩
    obtain ⟨e, hee, h2⟩ := List.mem_map.1 this
    exact h e hee h2
  · intro h e hee hk
    have : e.key ∈ es.map (·.key) := List.mem_map.2 ⟨e, hee, rfl⟩
    rw [h1] at this
    obtain ⟨y, hy, h2⟩ := List.mem_map.1 this
    exact h (by rw [← K.inj (h2.trans hk)]; exact hy)
theorem find_at (K : KeyOk P k ek good) {es : List MapEntry} (he : es.map (fun e => (e.key, e.val)) = m.map (fun p => (ek p.1, ev p.2))) {x : κ} {j : Nat} {e : MapEntry} (hj : es[j]? = some e) (hk : e.key = ek x) :
    ∃ v, m[j]? = some (x, v) ∧ e.val = ev v := by
  have := congrArg (·[j]?) he
  simp only [List.getElem?_map, hj, Option.map_some] at this
  obtain ⟨p, hp, hpe⟩ := Option.map_eq_some_iff.1 this.symm
  injection hpe with h1 h2
  have : p.1 = x := K.inj (h1.trans hk)
  refine ⟨p.2, ?_, h2.symm⟩
  rw [hp, ← this]

theorem setBlock_only (w : World) (b : Nat) (o : Obj) : Only (· = b) w (setBlock w b o) :=
  ⟨rfl, rfl, rfl, by simp [setBlock], fun i _ hi => by simp [setBlock, Array.getElem?_setIfInBounds, Ne.symm hi]⟩

/-- 'len(m)' -/
theorem MapAt.len (h : MapAt ek ev good w b m) {t e : TypeId} (ht : P.underlying t = some (.map k e)) (ty : TypeId) : (Builtin.len_ #[t] ty #[.map (some b)]).run P w = .ok (.int .i64 m.length) w := by
  obtain ⟨es, clock, hb, _, he, _⟩ := h
  have : es.size = m.length := by have := congrArg List.length he; simpa using this
  simp [Builtin.len_, run_underlying ht, MapKept.run_getObj_map hb, goInt, Result.andThen, this]

/-- 'for k, v := range m' under way: 'left' is still to come -/
def RangeAt {κ ν : Type} (ek : κ → Value) (ev : ν → Value) (good : κ → Prop) (w : World) (b r : Nat) (m left : List (κ × ν)) : Prop :=
  ∃ es clock since seen c0, w.heap[b]? = some (.map es clock) ∧ Stamped es clock ∧ es.toList.map (fun e => (e.key, e.val)) = m.map (fun p => (ek p.1, ev p.2)) ∧ (∀ p ∈ m, good p.1) ∧
    w.heap[r]? = some (.mapIter (some b) since seen c0) ∧ (∀ x ∈ es.toList, x.born < since) ∧ since ≤ c0 ∧ since ≤ clock ∧
    (es.toList.filter fun e => !seen.contains e.born).map (fun e => (e.key, e.val)) = left.map (fun p => (ek p.1, ev p.2)) ∧ ∀ p ∈ left, p ∈ m
theorem RangeAt.map {r : Nat} {left : List (κ × ν)} (h : RangeAt ek ev good w b r m left) : MapAt ek ev good w b m := by
  obtain ⟨es, clock, since, seen, c0, h1, h2, h3, h4, _⟩ := h; exact ⟨es, clock, h1, h2, h3, h4⟩
theorem RangeAt.lt {r : Nat} {left : List (κ × ν)} (h : RangeAt ek ev good w b r m left) : r < w.heap.size := by
  obtain ⟨es, clock, since, seen, c0, h1, h2, h3, h4, h5, _⟩ := h; exact (Array.getElem?_eq_some_iff.1 h5).1
theorem RangeAt.ne {r : Nat} {left : List (κ × ν)} (h : RangeAt ek ev good w b r m left) : r ≠ b := by
  obtain ⟨es, clock, since, seen, c0, h1, h2, h3, h4, h5, _⟩ := h
  intro e; rw [e, h1] at h5; cases h5
theorem RangeAt.block {r : Nat} {left : List (κ × ν)} (h : RangeAt ek ev good w b r m left) (hb : w'.heap[b]? = w.heap[b]?) (hr : w'.heap[r]? = w.heap[r]?) : RangeAt ek ev good w' b r m left := by
  obtain ⟨es, clock, since, seen, c0, h1, h2, h3, h4, h5, h6⟩ := h
  exact ⟨es, clock, since, seen, c0, hb.trans h1, h2, h3, h4, hr.trans h5, h6⟩
theorem RangeAt.only {F : Nat → Prop} {r : Nat} {left : List (κ × ν)} (h : RangeAt ek ev good w b r m left) (ho : Only F w w') (hF : ¬ F b) (hR : ¬ F r) : RangeAt ek ev good w' b r m left :=
  h.block (ho.block b h.map.lt hF) (ho.block r h.lt hR)
theorem RangeAt.after {r : Nat} {left : List (κ × ν)} (h : RangeAt ek ev good w b r m left) (hb : Below w.heap.size w w') : RangeAt ek ev good w' b r m left :=
  h.block (hb.block b h.map.lt) (hb.block r h.lt)
theorem RangeAt.count {r : Nat} {left : List (κ × ν)} (h : RangeAt ek ev good w b r m left) : w.rangeLeft b r = left.length := by
  obtain ⟨es, clock, since, seen, c0, h1, h2, h3, h4, h5, h6, h7, h8, h9, _⟩ := h
  unfold World.rangeLeft
  rw [h1, h5]
  have := congrArg List.length h9
  simp only [List.length_map] at this
  rw [← this]
  simp only [leftOf]
  rw [← Array.length_toList, Array.toList_filter]

/-- 'range m' -/
theorem MapAt.range (h : MapAt ek ev good w b m) {t e : TypeId} (ht : P.underlying t = some (.map k e)) :
    ∃ w', (Instr.range t (.map (some b))).run P w = .ok (.pointer (some ⟨w.heap.size, 0, none⟩)) w' ∧ RangeAt ek ev good w' b w.heap.size m m ∧ Below w.heap.size w w' ∧ w'.heap.size = w.heap.size + 1 := by
  have hlt := h.lt
  obtain ⟨es, clock, hb, hs, he, hg⟩ := h
  refine ⟨_, run_range_map w t k e b es clock ht hb, ⟨es, clock, clock, #[], clock, ((MapKept.heap_alloc w _).2 b hlt).trans hb, hs, he, hg, (MapKept.heap_alloc w _).1, hs.1, Nat.le_refl _, Nat.le_refl _, ?_, fun p hp => hp⟩, (Below.refl _ _).alloc (Nat.le_refl _) _, by simp⟩
  have : (es.toList.filter fun e => !(#[] : Array Nat).contains e.born) = es.toList := List.filter_eq_self.2 fun e _ => by simp
  rw [this]; exact he

section
variable [DecidableEq κ]
/-- 'm[k]', 'v, ok := m[k]' -/
theorem MapAt.look (K : KeyOk P k ek good) (h : MapAt ek ev good w b m) {t e : TypeId} (ht : P.underlying t = some (.map k e)) {z : Value} (hz : (zeroValue e).run P w = .ok z w) {x : κ} (hx : good x) (c : Bool) :
    (Instr.lookup t (.map (some b)) (ek x) c).run P w = .ok (if c then .tuple #[(mget m x).elim z ev, .bool (mget m x).isSome] else (mget m x).elim z ev) w := by
  have hn := h.nodup K
  obtain ⟨es, clock, hb, hs, he, hg⟩ := h
  rcases K.find w x hx es.toList (keys_of he hg) with ⟨h1, h2⟩ | ⟨j, e0, h1, h2, h3⟩
  · have h4 : mget m x = none := mget_none.2 ((find_spec K he).1 h2)
    simp [Instr.lookup, run_underlying ht, MapKept.run_getObj_map hb, K.check w _ x hx, h1, hz, Result.andThen, h4]
  · obtain ⟨v, hv, hev⟩ := find_at K he h2 h3
    have h4 : mget m x = some v := mget_of_mem hn (List.mem_of_getElem? hv)
    simp [Instr.lookup, run_underlying ht, MapKept.run_getObj_map hb, K.check w _ x hx, h1, Result.andThen, h4, hev]

theorem map_set_eq {es : List MapEntry} {x : κ} {v u : ν} {j : Nat} (hn : (mkeys m).Nodup) (hj : m[j]? = some (x, u)) : m.map (fun p => if p.1 = x then (x, v) else p) = m.set j (x, v) := by
  apply List.ext_getElem?
  intro i
  rw [List.getElem?_map, List.getElem?_set]
  by_cases hi : j = i
  · subst hi
    have hl := (List.getElem?_eq_some_iff.1 hj).1
    rw [if_pos rfl, if_pos hl, hj]; simp
  · rw [if_neg hi]
    cases hmi : m[i]? with
    | none => rfl
    | some p =>
      have : p.1 ≠ x := by
        intro e
        have h1 : (mkeys m)[i]? = some x := by simp [mkeys, hmi, e]
        have h2 : (mkeys m)[j]? = some x := by simp [mkeys, hj]
        have hl := (List.getElem?_eq_some_iff.1 h2).1
        exact hi ((List.getElem?_inj hl hn).1 (h2.trans h1.symm))
      simp [this]

/-- 'm[k] = v' -/
theorem MapAt.store (K : KeyOk P k ek good) (h : MapAt ek ev good w b m) {t e : TypeId} (ht : P.underlying t = some (.map k e)) {x : κ} (hx : good x) (v : ν) :
    ∃ w', (Instr.mapUpdate t (.map (some b)) (ek x) (ev v)).run P w = .ok () w' ∧ MapAt ek ev good w' b (mput m x v) ∧ Only (· = b) w w' ∧ w'.heap.size = w.heap.size := by
  have hn := h.nodup K
  have hlt := h.lt
  obtain ⟨es, clock, hb, hs, he, hg⟩ := h
  have hgood : ∀ p ∈ mput m x v, good p.1 := fun p hp => by
    rcases mem_mput hp with rfl | ⟨hp, _⟩
    · exact hx
    · exact hg p hp
  have hsame : ∀ o, (setBlock w b o).heap[b]? = some o := fun o => by simp [setBlock, hlt]
  rcases K.find w x hx es.toList (keys_of he hg) with ⟨h1, h2⟩ | ⟨j, e0, h1, h2, h3⟩
  · have hnk := (find_spec K he).1 h2
    refine ⟨setBlock w b (.map (es.push ⟨ek x, ev v, clock⟩) (clock + 1)), ?_, ⟨_, _, hsame _, stamped_push hs h2, ?_, hgood⟩, setBlock_only _ _ _, by simp [setBlock]⟩
    · simp [Instr.mapUpdate, run_underlying ht, MapKept.run_getObj_map hb, K.check w false x hx, h1, MapKept.run_setObj_map _ hb, Result.andThen, setBlock]
    · unfold mput
      rw [if_neg, Array.toList_push, List.map_append, he, List.map_append]
      · rfl
      · intro ha
        obtain ⟨p, hp, e1⟩ := List.any_eq_true.1 ha
        exact hnk (List.mem_map.2 ⟨p, hp, by simpa using e1⟩)
  · obtain ⟨u, hu, heu⟩ := find_at K he h2 h3
    have hj : es[j]? = some e0 := by simpa using h2
    refine ⟨setBlock w b (.map (es.modify j (fun e' => { e' with key := ek x, val := ev v })) clock), ?_, ⟨_, _, hsame _, stamped_modify hs _ _ (fun _ _ => rfl) (fun e' _ he' => by rw [hj] at he'; cases he'; exact h3.symm), ?_, hgood⟩, setBlock_only _ _ _, by simp [setBlock]⟩
    · simp [Instr.mapUpdate, run_underlying ht, MapKept.run_getObj_map hb, K.check w false x hx, h1, hj, h3, K.stays w x, MapKept.run_setObj_map _ hb, Result.andThen, setBlock]
    · unfold mput
      rw [if_pos (List.any_eq_true.2 ⟨(x, u), List.mem_of_getElem? hu, by simp⟩), map_set_eq (es := es.toList) hn hu, Array.toList_modify, modify_eq_set _ _ _ _ h2, List.map_set, he, List.map_set]

theorem mdel_erase {x : κ} {u : ν} {j : Nat} (hn : (mkeys m).Nodup) (hj : m[j]? = some (x, u)) : mdel m x = m.eraseIdx j := by
  have hp : m.Pairwise (fun p q => p.1 ≠ q.1) := List.pairwise_map.1 hn
  exact filter_eq_eraseIdx (fun p : κ × ν => decide (p.1 = x)) m j (x, u) hj (by simp) (hp.imp fun hne ⟨h1, h2⟩ => hne (by rw [of_decide_eq_true h1, of_decide_eq_true h2]))
theorem mdel_id {x : κ} (h : x ∉ mkeys m) : mdel m x = m := by
  unfold mdel
  rw [List.filter_eq_self]
  intro p hp
  have : p.1 ≠ x := fun e => h (by rw [← e]; exact List.mem_map.2 ⟨p, hp, rfl⟩)
  simp [this]

/-- 'delete(m, k)' -/
theorem MapAt.drop (K : KeyOk P k ek good) (h : MapAt ek ev good w b m) {t e : TypeId} (ht : P.underlying t = some (.map k e)) {x : κ} (hx : good x) (ty : TypeId) :
    ∃ w', (Builtin.delete_ #[t, k] ty #[.map (some b), ek x]).run P w = .ok (.tuple #[]) w' ∧ MapAt ek ev good w' b (mdel m x) ∧ Only (· = b) w w' ∧ w'.heap.size = w.heap.size := by
  have hn := h.nodup K
  have hlt := h.lt
  obtain ⟨es, clock, hb, hs, he, hg⟩ := h
  have hgood : ∀ p ∈ mdel m x, good p.1 := fun p hp => hg p (mem_mdel.1 hp).1
  have hsame : ∀ o, (setBlock w b o).heap[b]? = some o := fun o => by simp [setBlock, hlt]
  rcases K.find w x hx es.toList (keys_of he hg) with ⟨h1, h2⟩ | ⟨j, e0, h1, h2, h3⟩
  · have hnk := (find_spec K he).1 h2
    refine ⟨setBlock w b (.map es clock), ?_, ⟨_, _, hsame _, hs, ?_, hgood⟩, setBlock_only _ _ _, by simp [setBlock]⟩
    · simp [Builtin.delete_, run_underlying ht, MapKept.run_getObj_map hb, K.check w _ x hx, h1, MapKept.run_setObj_map _ hb, Result.andThen, setBlock]
    · rw [mdel_id hnk]; exact he
  · obtain ⟨u, hu, heu⟩ := find_at K he h2 h3
    have hjl : j < es.toList.length := (List.getElem?_eq_some_iff.1 h2).1
    have hjs : j < es.size := by simpa using hjl
    have hsub : (es.eraseIdxIfInBounds j).toList = es.toList.eraseIdx j := by
      unfold Array.eraseIdxIfInBounds
      rw [dif_pos hjs]
      simp
    refine ⟨setBlock w b (.map (es.eraseIdxIfInBounds j) clock), ?_, ⟨_, _, hsame _, stamped_erase hs j, ?_, hgood⟩, setBlock_only _ _ _, by simp [setBlock]⟩
    · simp [Builtin.delete_, run_underlying ht, MapKept.run_getObj_map hb, K.check w _ x hx, h1, MapKept.run_setObj_map _ hb, Result.andThen, setBlock]
    · rw [hsub, mdel_erase hn hu, map_eraseIdx, map_eraseIdx, he]

/-- the step: nothing is left, or one of those that are left comes out -/
theorem RangeAt.step (K : KeyOk P k ek good) {r : Nat} {left : List (κ × ν)} (h : RangeAt ek ev good w b r m left) (ty : TypeId) :
    (left = [] ∧ (Instr.next (.pointer (some ⟨r, 0, none⟩)) false ty).run P w = .ok (.tuple #[.bool false]) w) ∨
    ∃ x v w', (x, v) ∈ left ∧ (Instr.next (.pointer (some ⟨r, 0, none⟩)) false ty).run P w = .ok (.tuple #[.bool true, ek x, ev v]) w' ∧
      RangeAt ek ev good w' b r m (mdel left x) ∧ Only (· = r) w w' ∧ w'.heap.size = w.heap.size ∧ (mdel left x).length < left.length ∧
      (Instr.entry (.pointer (some ⟨r, 0, none⟩))).run P w' = .ok (.tuple #[ek x, ev v]) w' := by
  classical
  have hne := h.ne
  have hltb := h.map.lt
  have hltr := h.lt
  obtain ⟨es, clock, since, seen, c0, h1, h2, h3, h4, h5, h6, h7, h8, h9, h10⟩ := h
  rcases run_next_at (P := P) w ty r b since c0 seen es clock h5 h1 h6 h7 with ⟨h0, hrun⟩ | ⟨e, he, w1, hw1, hrun⟩
  · refine Or.inl ⟨?_, hrun⟩
    have := congrArg List.length h9
    simp only [List.length_map] at this
    unfold leftOf at h0
    rw [← Array.length_toList, Array.toList_filter] at h0
    rw [h0] at this
    exact List.eq_nil_of_length_eq_zero this.symm
  · right
    unfold leftOf at he
    rw [Array.toList_filter] at he
    obtain ⟨hee, hse⟩ := List.mem_filter.1 he
    have hmem : (e.key, e.val) ∈ left.map (fun p => (ek p.1, ev p.2)) := by rw [← h9]; exact List.mem_map.2 ⟨e, he, rfl⟩
    obtain ⟨⟨x, v⟩, hp, hpe⟩ := List.mem_map.1 hmem
    injection hpe with hk1 hk2
    simp only at hk1 hk2
    have hb1 : w1.heap = w.heap := by rcases hw1 with rfl | rfl <;> rfl
    have hO1 : Only (· = r) w (setBlock w1 r (.mapIter (some b) since (seen.push e.born) clock)) := by
      have := setBlock_only w1 r (.mapIter (some b) since (seen.push e.born) clock)
      rcases hw1 with rfl | rfl
      · exact this
      · exact ⟨this.os, this.tape, this.output, this.size, this.block⟩
    have hr' : (setBlock w1 r (.mapIter (some b) since (seen.push e.born) clock)).heap[r]? = some (.mapIter (some b) since (seen.push e.born) clock) := by simp [setBlock, hb1, hltr]
    have hb' : (setBlock w1 r (.mapIter (some b) since (seen.push e.born) clock)).heap[b]? = some (.map es clock) := (hO1.block b hltb (fun e' => hne e'.symm)).trans h1
    have hdel : (es.toList.filter fun e' => !(seen.push e.born).contains e'.born).map (fun e => (e.key, e.val)) = (mdel left x).map (fun p => (ek p.1, ev p.2)) := by
      have hff : (es.toList.filter fun e' => !(seen.push e.born).contains e'.born) = (es.toList.filter fun e' => !seen.contains e'.born).filter fun e' => !decide (e'.key = ek x) := by
        rw [List.filter_filter]
        apply List.filter_congr
        intro e' he'
        have hiff : (e'.born = e.born) ↔ (e'.key = ek x) := by
          constructor
          · intro hbb
            have : e' = e := by
              have f1 := find_born e' _ h2.2.1 he'
              have f2 := find_born e _ h2.2.1 hee
              rw [hbb] at f1
              exact Option.some.inj (f1.symm.trans f2)
            rw [this, hk1]
          · intro hkk
            have := entry_eq_of_key ((stamped_iff es clock).1 h2).2.2 he' hee (hkk.trans hk1)
            rw [this]
        have : (seen.push e.born).contains e'.born = (seen.contains e'.born || decide (e'.key = ek x)) := by
          rw [Bool.eq_iff_iff]
          simp only [Array.contains_iff_mem, Array.mem_push, Bool.or_eq_true, decide_eq_true_eq]
          rw [hiff]
        rw [this, Bool.not_or, Bool.and_comm]
      rw [hff]
      unfold mdel
      have gen : ∀ (es : List MapEntry) (l : List (κ × ν)), es.map (fun e => (e.key, e.val)) = l.map (fun p => (ek p.1, ev p.2)) →
          (es.filter fun e' => !decide (e'.key = ek x)).map (fun e => (e.key, e.val)) = (l.filter fun p => !decide (p.1 = x)).map (fun p => (ek p.1, ev p.2)) := by
        intro es
        induction es with
        | nil => intro l hl; cases l with
          | nil => rfl
          | cons a l => simp at hl
        | cons a es ih => intro l hl; cases l with
          | nil => simp at hl
          | cons p l =>
            simp only [List.map_cons, List.cons.injEq] at hl
            have hap : (a.key = ek x) ↔ (p.1 = x) := by
              have := congrArg Prod.fst hl.1
              simp only at this
              rw [this]
              exact ⟨fun e => K.inj e, fun e => by rw [e]⟩
            rw [List.filter_cons, List.filter_cons]
            by_cases hx : p.1 = x
            · rw [decide_eq_true (hap.2 hx), decide_eq_true hx]; simpa using ih l hl.2
            · rw [decide_eq_false (fun e => hx (hap.1 e)), decide_eq_false hx]
              simp only [Bool.not_false, if_true, List.map_cons]
              rw [hl.1, ih l hl.2]
      exact gen _ _ h9
    refine ⟨x, v, _, hp, by rw [hk1, hk2]; exact hrun, ⟨es, clock, since, _, clock, hb', h2, h3, h4, hr', h6, h8, h8, hdel, fun p hp => h10 p (mem_mdel.1 hp).1⟩, hO1, by simp [setBlock, hb1], ?_, ?_⟩
    · unfold mdel
      exact List.length_filter_lt_length_iff_exists.2 ⟨(x, v), hp, by simp⟩
    · rw [hk1, hk2]
      exact run_entry_at _ r b since seen es clock e hr' hb' hee h2.2.1

/-- what is taken out of 'left', in front of the rest -/
theorem mdel_perm {left : List (κ × ν)} (hn : (mkeys left).Nodup) {x : κ} {v : ν} (h : (x, v) ∈ left) : left.Perm ((x, v) :: mdel left x) := by
  obtain ⟨j, hj⟩ := List.mem_iff_getElem?.1 h
  rw [mdel_erase hn hj]
  clear h hn
  induction left generalizing j with
  | nil => simp at hj
  | cons a l ih =>
    cases j with
    | zero => simp at hj; subst hj; exact List.Perm.refl _
    | succ j =>
      rw [List.eraseIdx_cons_succ]
      exact ((ih j (by simpa using hj)).cons a).trans (List.Perm.swap _ _ _)

/-- 'delete(m, k)' of what has come -/
theorem RangeAt.drop (K : KeyOk P k ek good) {r : Nat} {left : List (κ × ν)} (h : RangeAt ek ev good w b r m left) {t e : TypeId} (ht : P.underlying t = some (.map k e)) {x : κ} (hx : good x) (hxl : x ∉ mkeys left) (ty : TypeId) :
    ∃ w', (Builtin.delete_ #[t, k] ty #[.map (some b), ek x]).run P w = .ok (.tuple #[]) w' ∧ RangeAt ek ev good w' b r (mdel m x) left ∧ Only (· = b) w w' ∧ w'.heap.size = w.heap.size := by
  have hn := h.map.nodup K
  have hlt := h.map.lt
  have hrb := h.ne
  obtain ⟨es, clock, since, seen, c0, hb, hs, he, hg, h5, h6, h7, h8, h9, h10⟩ := h
  have hgood : ∀ p ∈ mdel m x, good p.1 := fun p hp => hg p (mem_mdel.1 hp).1
  have hsame : ∀ o, (setBlock w b o).heap[b]? = some o := fun o => by simp [setBlock, hlt]
  have hr' : ∀ o, (setBlock w b o).heap[r]? = some (.mapIter (some b) since seen c0) := fun o => ((setBlock_only w b o).block r (Array.getElem?_eq_some_iff.1 h5).1 hrb).trans h5
  have hl' : ∀ p ∈ left, p ∈ mdel m x := fun p hp => mem_mdel.2 ⟨h10 p hp, fun e => hxl (by rw [← e]; exact List.mem_map.2 ⟨p, hp, rfl⟩)⟩
  rcases K.find w x hx es.toList (keys_of he hg) with ⟨h1, h2⟩ | ⟨j, e0, h1, h2, h3⟩
  · have hnk := (find_spec K he).1 h2
    refine ⟨setBlock w b (.map es clock), ?_, ⟨es, clock, since, seen, c0, hsame _, hs, ?_, hgood, hr' _, h6, h7, h8, h9, hl'⟩, setBlock_only _ _ _, by simp [setBlock]⟩
    · simp [Builtin.delete_, run_underlying ht, MapKept.run_getObj_map hb, K.check w _ x hx, h1, MapKept.run_setObj_map _ hb, Result.andThen, setBlock]
    · rw [mdel_id hnk]; exact he
  · obtain ⟨u, hu, heu⟩ := find_at K he h2 h3
    have hjl : j < es.toList.length := (List.getElem?_eq_some_iff.1 h2).1
    have hjs : j < es.size := by simpa using hjl
    have hsub : (es.eraseIdxIfInBounds j).toList = es.toList.eraseIdx j := by
      unfold Array.eraseIdxIfInBounds
      rw [dif_pos hjs]
      simp
    refine ⟨setBlock w b (.map (es.eraseIdxIfInBounds j) clock), ?_, ⟨_, clock, since, seen, c0, hsame _, stamped_erase hs j, ?_, hgood, hr' _, ?_, h7, h8, ?_, hl'⟩, setBlock_only _ _ _, by simp [setBlock]⟩
    · simp [Builtin.delete_, run_underlying ht, MapKept.run_getObj_map hb, K.check w _ x hx, h1, MapKept.run_setObj_map _ hb, Result.andThen, setBlock]
    · rw [hsub, mdel_erase hn hu, map_eraseIdx, map_eraseIdx, he]
    · intro y hy
      rw [hsub] at hy
      exact h6 y ((List.eraseIdx_sublist _ _).subset hy)
    · rw [← h9, hsub]
      congr 1
      have hseen : seen.contains e0.born = true := by
        cases hc : seen.contains e0.born
        · exfalso
          have hmem : e0 ∈ es.toList.filter fun e => !seen.contains e.born := List.mem_filter.2 ⟨List.mem_of_getElem? h2, by rw [hc]; rfl⟩
          have : (e0.key, e0.val) ∈ left.map (fun p => (ek p.1, ev p.2)) := by rw [← h9]; exact List.mem_map.2 ⟨e0, hmem, rfl⟩
          obtain ⟨p, hp, hpe⟩ := List.mem_map.1 this
          injection hpe with q1 q2
          have : p.1 = x := K.inj (q1.trans h3)
          exact hxl (by rw [← this]; exact List.mem_map.2 ⟨p, hp, rfl⟩)
        · rfl
      have gen : ∀ (l : List MapEntry) (j : Nat), l[j]? = some e0 → (l.eraseIdx j).filter (fun e => !seen.contains e.born) = l.filter (fun e => !seen.contains e.born) := by
        intro l
        induction l with
        | nil => intro j hj; simp at hj
        | cons a l ih =>
          intro j hj
          cases j with
          | zero =>
            simp at hj; subst hj
            simp only [List.eraseIdx_cons_zero]
            rw [List.filter_cons, hseen]; simp
          | succ j =>
            simp only [List.eraseIdx_cons_succ, List.filter_cons]
            rw [ih j (by simpa using hj)]
      exact gen _ _ h2

/-! at the operation -/
theorem wpList_look (K : KeyOk P k ek good) {ops : Array Oper} {rest : List Oper} {o : Oper} {a : Act} {Q : Exit → Act → World → Prop} (hgd : o.guard = none) (mo xo : Operand) (t e : TypeId) (c : Bool) (hop : o.op = Op.lookup t mo xo c)
    (ht : P.underlying t = some (.map k e)) (z : Value) (hz : (zeroValue e).run P w = .ok z w) (b : Nat) (m : List (κ × ν)) (hm : a.eval mo = .map (some b)) (h : MapAt ek ev good w b m) (x : κ) (hx : a.eval xo = ek x) (hgx : good x)
    (val : Value) (hval : (if c then .tuple #[(mget m x).elim z ev, .bool (mget m x).isSome] else (mget m x).elim z ev) = val) (hK : wpList P ops Q rest (a.put o.dst val) w) : wpList P ops Q (o :: rest) a w := by
  refine wpList_plain hgd fun K' hK' => ?_
  have hrun := h.look K ht hz hgx c
  rw [hval] at hrun
  unfold Oper.wp
  simp [execOp, hop, hm, hx, hrun, Result.andThen]
  exact hK' _ _ hK
theorem wpList_store (K : KeyOk P k ek good) {ops : Array Oper} {rest : List Oper} {o : Oper} {a : Act} {Q : Exit → Act → World → Prop} (hgd : o.guard = none) (mo xo vo : Operand) (t e : TypeId) (hop : o.op = Op.mapUpdate t mo xo vo)
    (ht : P.underlying t = some (.map k e)) (b : Nat) (m : List (κ × ν)) (hm : a.eval mo = .map (some b)) (h : MapAt ek ev good w b m) (x : κ) (hx : a.eval xo = ek x) (hgx : good x) (v : ν) (hv : a.eval vo = ev v)
    (hK : ∀ w', MapAt ek ev good w' b (mput m x v) → Only (· = b) w w' → w'.heap.size = w.heap.size → wpList P ops Q rest (a.put o.dst undef) w') : wpList P ops Q (o :: rest) a w := by
  refine wpList_plain hgd fun K' hK' => ?_
  obtain ⟨w', hrun, h1, h2, h3⟩ := h.store K ht hgx v
  unfold Oper.wp
  simp [execOp, hop, hm, hx, hv, hrun, Result.andThen]
  exact hK' _ _ (hK w' h1 h2 h3)
theorem wpList_drop (K : KeyOk P k ek good) {ops : Array Oper} {rest : List Oper} {o : Oper} {a : Act} {Q : Exit → Act → World → Prop} (hgd : o.guard = none) (mo xo : Operand) (t e : TypeId) (hop : o.op = Op.call { callee := Callee.builtin Builtin.delete, args := #[mo, xo], argTypes := #[t, k] })
    (ht : P.underlying t = some (.map k e)) (b : Nat) (m : List (κ × ν)) (hm : a.eval mo = .map (some b)) (h : MapAt ek ev good w b m) (x : κ) (hx : a.eval xo = ek x) (hgx : good x)
    (hK : ∀ w', MapAt ek ev good w' b (mdel m x) → Only (· = b) w w' → w'.heap.size = w.heap.size → wpList P ops Q rest (a.put o.dst (.tuple #[])) w') : wpList P ops Q (o :: rest) a w := by
  refine wpList_plain hgd fun K' hK' => ?_
  obtain ⟨w', hrun, h1, h2, h3⟩ := h.drop K ht hgx o.type
  unfold Oper.wp
  simp [execOp, hop, resolve, invoke, builtin, hm, hx, hrun, Result.andThen]
  exact hK' _ _ (hK w' h1 h2 h3)
theorem wpList_nextOf (K : KeyOk P k ek good) {ops : Array Oper} {rest : List Oper} {o : Oper} {a : Act} {Q : Exit → Act → World → Prop} (hgd : o.guard = none) (it : Operand) (hop : o.op = Op.next it false)
    (b r : Nat) (m left : List (κ × ν)) (hit : a.eval it = .pointer (some ⟨r, 0, none⟩)) (h : RangeAt ek ev good w b r m left)
    (hDone : left = [] → wpList P ops Q rest (a.put o.dst (.tuple #[.bool false])) w)
    (hMore : ∀ x v w', (x, v) ∈ left → RangeAt ek ev good w' b r m (mdel left x) → Only (· = r) w w' → w'.heap.size = w.heap.size → (mdel left x).length < left.length →
      (Instr.entry (.pointer (some ⟨r, 0, none⟩))).run P w' = .ok (.tuple #[ek x, ev v]) w' → wpList P ops Q rest (a.put o.dst (.tuple #[.bool true, ek x, ev v])) w') : wpList P ops Q (o :: rest) a w := by
  refine wpList_plain hgd fun K' hK' => ?_
  unfold Oper.wp
  rcases h.step K o.type with ⟨h0, hrun⟩ | ⟨x, v, w', hx, hrun, h1, h2, h3, h4, h5⟩
  · simp [execOp, hop, hit, hrun, Result.andThen]
    exact hK' _ _ (hDone h0)
  · simp [execOp, hop, hit, hrun, Result.andThen]
    exact hK' _ _ (hMore x v w' hx h1 h2 h3 h4 h5)

end
theorem wpList_rangeOver {ops : Array Oper} {rest : List Oper} {o : Oper} {a : Act} {Q : Exit → Act → World → Prop} (hgd : o.guard = none) (mo : Operand) (t e : TypeId) (hop : o.op = Op.range t mo)
    (ht : P.underlying t = some (.map k e)) (b : Nat) (m : List (κ × ν)) (hm : a.eval mo = .map (some b)) (h : MapAt ek ev good w b m)
    (hK : ∀ w', RangeAt ek ev good w' b w.heap.size m m → Below w.heap.size w w' → w'.heap.size = w.heap.size + 1 → wpList P ops Q rest (a.put o.dst (.pointer (some ⟨w.heap.size, 0, none⟩))) w') : wpList P ops Q (o :: rest) a w := by
  refine wpList_plain hgd fun K' hK' => ?_
  obtain ⟨w', hrun, h1, h2, h3⟩ := h.range ht
  unfold Oper.wp
  simp [execOp, hop, hm, hrun, Result.andThen]
  exact hK' _ _ (hK w' h1 h2 h3)
end

/-- keys of an integer's type -/
theorem intKey {P : Program} {k : TypeId} (hk : P.underlying k = some (.int .i64)) : KeyOk P k (Value.int .i64) (fun x => (Lit.int .i64 x).wf = true) where
  inj h := by injection h
  check w em x hx := (Maps.int_keyed hk).check w em (Maps.keyOf_int_mk hk hx)
  find w x hx es hes := (Maps.int_keyed hk).find w (Maps.keyOf_int_mk hk hx) es fun e he => by
    obtain ⟨y, hy, e1⟩ := hes e he
    rw [e1]
    exact ⟨_, Maps.keyOf_int_mk hk hy⟩
  stays w x := by simp [Instr.keyThatStays, Instr.sameBits]

/-- keys of a struct's type all of whose cells are ints -/
theorem flatKey {P : Program} {k : TypeId} {fs : Array Field} {n : Nat} (d : Nat) (hd : d ≤ 9999) (hk : P.underlying k = some (.struct fs)) (hB : flatE P d k = true) (hc : P.cellsOf k = n) (hck : ∀ (w : World) (em : Bool) (xs : List Int), xs.length = n → (Instr.checkKey em 10000 k (.agg (ints xs))).run P w = .ok () w) :
    KeyOk P k (fun xs : List Int => .agg (ints xs)) (fun xs => xs.length = n) where
  inj h := by injection h with h; exact ints_inj h
  check := hck
  find w x hx es hes := by
    have hnone : ∀ (es : List MapEntry) (i : Nat), es ≠ [] → (∀ e ∈ es, ∃ y : List Int, y.length = n ∧ e.key = .agg (ints y)) → Instr.findNow (.struct fs) (.agg (ints x)) es i = none := by
      intro es i hne hes
      cases es with
      | nil => exact absurd rfl hne
      | cons e es => obtain ⟨y, _, e1⟩ := hes e (by simp); simp [Instr.findNow, e1, Instr.sameNow]
    have hask : ∀ (es : List MapEntry) (i : Nat), (∀ e ∈ es, ∃ y : List Int, y.length = n ∧ e.key = .agg (ints y)) →
        ((Instr.findAsking k (.agg (ints x)) es i).run P w = .ok none w ∧ ∀ e ∈ es, e.key ≠ .agg (ints x)) ∨ ∃ j e, (Instr.findAsking k (.agg (ints x)) es i).run P w = .ok (some (i + j, e.val)) w ∧ es[j]? = some e ∧ e.key = .agg (ints x) := by
      intro es
      induction es with
      | nil => intro i _; exact Or.inl ⟨by simp [Instr.findAsking], by simp⟩
      | cons e es ih =>
        intro i hes
        obtain ⟨y, hy, e1⟩ := hes e (by simp)
        have heq : (Op.equal k (.agg (ints x)) e.key).run P w = .ok (decide (x = y)) w := by
          rw [e1]
          have := eqIn_flat (P := P) d (10000 - d) k x y w hB (by rw [hc]; exact hx) (by rw [hc]; exact hy)
          rw [show 10000 - d + d = 10000 from by omega] at this
          have hv : ∀ zs : List Int, valOf P k zs = .agg (ints zs) := fun zs => by simp [valOf, hk]
          rw [hv, hv] at this
          exact this
        by_cases hxy : x = y
        · right
          refine ⟨0, e, ?_, rfl, by rw [e1, hxy]⟩
          rw [decide_eq_true hxy] at heq
          simp [Instr.findAsking, heq]
        · rw [decide_eq_false hxy] at heq
          rcases ih (i + 1) (fun e he => hes e (by simp [he])) with ⟨h1, h2⟩ | ⟨j, e', h1, h2, h3⟩
          · left
            refine ⟨by simp [Instr.findAsking, heq, h1], fun e' he' => ?_⟩
            rcases List.mem_cons.1 he' with rfl | he'
            · rw [e1]; intro h; injection h with h; exact hxy (ints_inj h).symm
            · exact h2 e' he'
          · right
            exact ⟨j + 1, e', by simp [Instr.findAsking, heq, h1]; omega, by simpa using h2, h3⟩
    cases es with
    | nil => left; simp [Instr.findKey, run_underlying hk, Instr.findNow]
    | cons e0 es =>
      have h0 := hnone (e0 :: es) 0 (by simp) hes
      rcases hask (e0 :: es) 0 hes with ⟨h1, h2⟩ | ⟨j, e, h1, h2, h3⟩
      · left; exact ⟨by simp only [Instr.findKey, Sem.run_bind, run_underlying hk, Result.andThen_ok, h0]; exact h1, h2⟩
      · right; exact ⟨j, e, by simp only [Instr.findKey, Sem.run_bind, run_underlying hk, Result.andThen_ok, h0]; simpa using h1, h2, h3⟩
  stays w x := by
    have : Instr.sameBits 10000 (.agg (ints x)) (.agg (ints x)) = true := by
      show ((ints x).size == (ints x).size && ((ints x).toList.zip (ints x).toList).all fun (a, b) => Instr.sameBits 9999 a b) = true
      simp only [beq_self_eq_true, Bool.true_and, List.all_eq_true]
      rintro ⟨a, b⟩ hab
      rw [ints_toList] at hab
      have : a = b ∧ ∃ q, a = .int .i64 q := by
        generalize x = l at hab
        induction l with
        | nil => simp at hab
        | cons q l ih => simp at hab; rcases hab with ⟨rfl, rfl⟩ | h; exact ⟨rfl, q, rfl⟩; exact ih (by simpa using h)
      obtain ⟨rfl, q, rfl⟩ := this
      simp [Instr.sameBits]
    simp [Instr.keyThatStays, this]

end Go.Proofs.YtpgcghnlepnoiaaGreatDoor

/-
  Maps, and ranges over them, among other things in memory.
-/
namespace Go.Proofs.YtpgcghnlepnoiaaGreatDoor
open Go.RowKit

/-- a map, among other things -/
def MapA {κ ν : Type} (ek : κ → Value) (ev : ν → Value) (good : κ → Prop) (b : Nat) (m : List (κ × ν)) : Assn where
  at_ w F := MapAt ek ev good w b m ∧ F b
  frame h ho hd := ⟨h.1.only ho (hd _ h.2), h.2⟩
  cut h hd := ⟨h.1, hd _ h.1.lt h.2⟩
/-- a range over a map under way -/
def RangeA {κ ν : Type} (ek : κ → Value) (ev : ν → Value) (good : κ → Prop) (b r : Nat) (m left : List (κ × ν)) : Assn where
  at_ w F := RangeAt ek ev good w b r m left ∧ F b ∧ F r
  frame h ho hd := ⟨h.1.only ho (hd _ h.2.1) (hd _ h.2.2), h.2⟩
  cut h hd := ⟨h.1, hd _ h.1.map.lt h.2.1, hd _ h.1.lt h.2.2⟩

section
variable {κ ν : Type} {ek : κ → Value} {ev : ν → Value} {good : κ → Prop} {b r : Nat} {m m' left left' : List (κ × ν)} {F : Nat → Prop} {w0 w w' : World} {l : List Assn}
theorem In.mapAt (h : In F w0 (MapA ek ev good b m :: l) w) : MapAt ek ev good w b m := h.sep.head.1
theorem In.mapped (h : In F w0 (MapA ek ev good b m :: l) w) (h1 : MapAt ek ev good w' b m') (h2 : Only (· = b) w w') : In F w0 (MapA ek ev good b m' :: l) w' := by
  obtain ⟨F1, hA, hF, hback⟩ := h.open_
  exact hback (A' := MapA ek ev good b m') ⟨h1, Or.inl hA.2⟩ (h2.mono fun k _ e => by rw [e]; exact hA.2)
theorem In.newMap (h : In F w0 l w) (ek : κ → Value) (ev : ν → Value) (good : κ → Prop) : In F w0 (MapA ek ev good w.heap.size [] :: l) (w.alloc (.map #[] 0)) :=
  h.new (A := MapA ek ev good w.heap.size []) ((Below.refl _ _).alloc (Nat.le_refl _) _) ⟨MapAt.new _ _ _ _, Nat.le_refl _⟩
theorem In.rangeAt (h : In F w0 (RangeA ek ev good b r m left :: l) w) : RangeAt ek ev good w b r m left := h.sep.head.1
theorem In.ranged (h : In F w0 (MapA ek ev good b m :: l) w) (hr : RangeAt ek ev good w' b w.heap.size m left) (hb : Below w.heap.size w w') (hs : w'.heap.size = w.heap.size + 1) : In F w0 (RangeA ek ev good b w.heap.size m left :: l) w' := by
  obtain ⟨F1, hA, hF, hback⟩ := h.open_
  exact hback (A' := RangeA ek ev good b w.heap.size m left) ⟨hr, Or.inl hA.2, Or.inr ⟨Nat.le_refl _, by omega⟩⟩ (Only.of_below hb)
theorem In.stepped (h : In F w0 (RangeA ek ev good b r m left :: l) w) (hr : RangeAt ek ev good w' b r m left') (ho : Only (· = r) w w') : In F w0 (RangeA ek ev good b r m left' :: l) w' := by
  obtain ⟨F1, hA, hF, hback⟩ := h.open_
  exact hback (A' := RangeA ek ev good b r m left') ⟨hr, Or.inl hA.2.1, Or.inl hA.2.2⟩ (ho.mono fun k _ e => by rw [e]; exact hA.2.2)
theorem In.rangeDropped (h : In F w0 (RangeA ek ev good b r m left :: l) w) (hr : RangeAt ek ev good w' b r m' left') (ho : Only (· = b) w w') : In F w0 (RangeA ek ev good b r m' left' :: l) w' := by
  obtain ⟨F1, hA, hF, hback⟩ := h.open_
  exact hback (A' := RangeA ek ev good b r m' left') ⟨hr, Or.inl hA.2.1, Or.inl hA.2.2⟩ (ho.mono fun k _ e => by rw [e]; exact hA.2.1)
theorem In.unranged (h : In F w0 (RangeA ek ev good b r m left :: l) w) : In F w0 (MapA ek ev good b m :: l) w := by
  obtain ⟨F1, hA, hF, hback⟩ := h.open_
  exact hback (A' := MapA ek ev good b m) ⟨hA.1.map, Or.inl hA.2.1⟩ Only.refl
theorem RangeAt.sub (h : RangeAt ek ev good w b r m left) : ∀ p ∈ left, p ∈ m := by
  obtain ⟨es, clock, since, seen, c0, _, _, _, _, _, _, _, _, _, h10⟩ := h; exact h10
end
theorem In.add0 {A : Assn} {F : Nat → Prop} {w0 w : World} {l : List Assn} (h : In F w0 l w) (ha : A.at_ w (fun _ => False)) : In F w0 (A :: l) w :=
  ⟨⟨fun _ => False, _, ha, h.sep, fun _ h => h.elim, fun k h => by rcases h with h | h; exact h.elim; exact h⟩, h.only⟩
/-- a slice of ints of one's own -/
abbrev IntsA (v : Value) (zs : List Int) : Assn := RowA 3 1 v zs.length (zs.map (Value.int .i64))
theorem In.intsAt {F : Nat → Prop} {w0 w : World} {l : List Assn} {v : Value} {zs : List Int} (h : In F w0 (IntsA v zs :: l) w) : ∃ A c, v = .slice A zs.length c ∧ ReadsI w w.heap.size A zs.length zs := by
  have : OwnI w 0 v zs := h.sep.head.1
  exact this.form
theorem own_base {w : World} {B : Nat} {e : TypeId} {size n : Nat} {v : Value} {xs : List Value} (h : w.ownsRow B e size v n xs) : w.ownsRow 0 e size v n xs :=
  ⟨h.1, by rcases h.2 with h | ⟨g, cap, cur, e, _, r⟩; exact Or.inl h; exact Or.inr ⟨g, cap, cur, e, Nat.zero_le _, r⟩⟩
theorem In.newInts {F : Nat → Prop} {w0 w w' : World} {l : List Assn} {v : Value} {zs : List Int} (h : In F w0 l w) (ho : OwnI w' w.heap.size v zs) (hb : Below w.heap.size w w') : In F w0 (IntsA v zs :: l) w' :=
  h.new hb ⟨own_base ho, fun k hk => (World.ownsRow.lt ho k hk).1⟩
theorem wf_small {x : Int} (h : -1000000000000 ≤ x ∧ x ≤ 1000000000000) : (Lit.int .i64 x).wf = true := WalkArith.wf_i64 (by omega)
theorem keyI : KeyOk Tryz.prog 3 (Value.int .i64) (fun x => (Lit.int .i64 x).wf = true) := intKey Tryz.underlying3
theorem zero_bool (w : World) : (zeroValue 4).run Tryz.prog w = .ok (.bool false) w := by kernel_rfl
abbrev goodI (x : Int) : Prop := (Lit.int .i64 x).wf = true
section
variable {κ ν : Type} [DecidableEq κ] {m : List (κ × ν)}
theorem mput_len_new {x : κ} {v : ν} (h : mget m x = none) : (mput m x v).length = m.length + 1 := by
  unfold mput
  rw [if_neg]
  · simp
  · intro ha
    obtain ⟨p, hp, e⟩ := List.any_eq_true.1 ha
    exact mget_none.1 h (List.mem_map.2 ⟨p, hp, by simpa using e⟩)
end

end Go.Proofs.YtpgcghnlepnoiaaGreatDoor

/-
  Handles as keys of a map.
-/
namespace Go.Proofs.YtpgcghnlepnoiaaGreatDoor
open Go.RowKit

theorem check_int (n : Nat) (em : Bool) (v : Value) (w : World) : (Instr.checkKey em (n + 1) 3 v).run Tryz.prog w = .ok () w := by
  unfold Instr.checkKey
  rw [Sem.run_bind, run_underlying Tryz.underlying3]
  rfl
theorem check_handle (w : World) (em : Bool) (xs : List Int) (h : xs.length = 2) : (Instr.checkKey em 10000 46 (.agg (ints xs))).run Tryz.prog w = .ok () w := by
  have p0 : (part 3 (ints xs) 0).run Tryz.prog w = .ok (.int .i64 (xs.getD 0 0)) w := by
    have := part_flat (P := Tryz.prog) w 1 3 xs 0 (by kernel_rfl) (by rw [show Tryz.prog.cellsOf 3 = 1 from by kernel_rfl]; omega)
    rw [this, show Tryz.prog.cellsOf 3 = 1 from by kernel_rfl]
    simp [valOf, Tryz.underlying3, seg, List.getD]
  have p1 : (part 3 (ints xs) 1).run Tryz.prog w = .ok (.int .i64 (xs.getD 1 0)) w := by
    have := part_flat (P := Tryz.prog) w 1 3 xs 1 (by kernel_rfl) (by rw [show Tryz.prog.cellsOf 3 = 1 from by kernel_rfl]; omega)
    rw [this, show Tryz.prog.cellsOf 3 = 1 from by kernel_rfl]
    simp [valOf, Tryz.underlying3, seg, List.getD]
  have c0 := fun v => check_int 9998 em v w
  rw [show (10000 : Nat) = (9998 + 1) + 1 from rfl]
  unfold Instr.checkKey
  rw [Sem.run_bind, run_underlying Tryz.underlying46]
  simp [p0, p1, c0]
theorem keyH : KeyOk Tryz.prog 46 (fun xs : List Int => .agg (ints xs)) (fun xs => xs.length = 2) :=
  flatKey 3 (by omega) Tryz.underlying46 (by kernel_rfl) (by kernel_rfl) check_handle

end Go.Proofs.YtpgcghnlepnoiaaGreatDoor

/-
  A family in memory: a struct that holds a map of handles.
-/
namespace Go.Proofs.YtpgcghnlepnoiaaGreatDoor
open Go.RowKit

def hdV (h : Hd) : Value := .agg (ints (hL h))
@[go_sem] theorem hdV_eq (a b : Int) : hdV (a, b) = .agg #[.int .i64 a, .int .i64 b] := rfl
theorem hL_inj {a b : Hd} (h : hL a = hL b) : a = b := by
  unfold hL at h
  injection h with h1 h2
  injection h2 with h2 _
  exact Prod.ext h1 h2
theorem keyHd : KeyOk Tryz.prog 46 hdV (fun _ => True) where
  inj h := hL_inj (keyH.inj h)
  check w em x _ := keyH.check w em (hL x) rfl
  find w x _ es he := keyH.find w (hL x) rfl es (fun e h => by obtain ⟨y, _, hy⟩ := he e h; exact ⟨hL y, rfl, hy⟩)
  stays w x := keyH.stays w (hL x)
theorem zero_handle (w : World) : (zeroValue 46).run Tryz.prog w = .ok (hdV (0, 0)) w := by kernel_rfl

abbrev FMap (b : Nat) (m : Fam) : Assn := MapA hdV hdV (fun _ => True) b m
abbrev RowH (v : Value) (hs : List Hd) : Assn := RowA 46 2 v hs.length (hs.flatMap hC)
theorem rowH_at {w : World} {v : Value} {hs : List Hd} (h : w.ownsRow 0 46 2 v hs.length (hs.flatMap hC)) : ∃ A c, v = .slice A hs.length c ∧ hs.length ≤ c ∧ c ≤ maxLen ∧ ∀ k, (hk : k < hs.length) → ∃ g, A = some ⟨g, 0, none⟩ ∧
    row? w g (k * 2) 2 = some (ints [hs[k].1, hs[k].2]) := by
  obtain ⟨A, c, rfl, hc1, hc2, hA⟩ := own_form h
  refine ⟨A, c, rfl, hc1, hc2, fun k hk => ?_⟩
  obtain ⟨g, rfl⟩ := hA (by omega)
  have hr := own_row h hk
  rw [flat_at hC_len hs k hk] at hr
  exact ⟨g, rfl, hr⟩
section
variable {G : Nat → Prop} {w0 w w' : World} {l : List Assn}
/-- one element more -/
theorem In.append1 {E : TypeId} {size n : Nat} {v v' : Value} {xs news : List Value} {o : Obj} (h : In G w0 (RowA E size v n xs :: l) w) (hown : w'.ownsRow 0 E size v' (n + 1) (xs ++ news)) (hg : (w.alloc o).grownBy w' v.ownBlock)
    (hor : v'.ownBlock = v.ownBlock ∨ v'.ownBlock = some (w.heap.size + 1)) : In G w0 (RowA E size v' (n + 1) (xs ++ news) :: l) w' := by
  obtain ⟨F1, ⟨h1, h2⟩, _, hback⟩ := h.open_
  refine hback (A' := RowA E size v' (n + 1) (xs ++ news)) ⟨hown, fun k hk => ?_⟩ ((Only.refl.alloc o).trans' (Only.grown (F := F1) hg fun k hk => h2 k hk) fun k _ hk => hk)
  rcases hor with e | e
  · exact Or.inl (h2 k (by rw [← e]; exact hk))
  · rw [hk] at e
    injection e with e
    exact Or.inr ⟨by omega, (World.ownsRow.lt hown k hk).2⟩
theorem In.appendH {v v' : Value} {cs : List Hd} {x : Hd} {o : Obj} (h : In G w0 (RowH v cs :: l) w) (hown : w'.ownsRow 0 46 2 v' (cs.length + 1) (cs.flatMap hC ++ [.int .i64 x.1, .int .i64 x.2])) (hg : (w.alloc o).grownBy w' v.ownBlock)
    (hor : v'.ownBlock = v.ownBlock ∨ v'.ownBlock = some (w.heap.size + 1)) : In G w0 (RowH v' (cs ++ [x]) :: l) w' := by
  have := h.append1 hown hg hor
  unfold RowH
  rw [List.length_append, List.flatMap_append]
  exact this
theorem In.rowAt {E : TypeId} {size n : Nat} {v : Value} {xs : List Value} (h : In G w0 (RowA E size v n xs :: l) w) : w.ownsRow 0 E size v n xs := h.sep.head.1
theorem In.nilRow (h : In G w0 l w) (E : TypeId) (size : Nat) : In G w0 (RowA E size (.slice none 0 0) 0 [] :: l) w :=
  h.add0 ⟨World.ownsRow_nil _ _ _ _, fun k hk => by simp [Value.ownBlock] at hk⟩
end
theorem handle_partsF : (Tryz.prog.info? 46).map (fun i => (i.zero, i.size, i.bytes)) = some (some (.agg #[.int .i64 0, .int .i64 0]), 2, 16) := by kernel_rfl
/-- a family -/
def FamA (p : Nat) (m : Fam) : Assn where
  at_ w F := FamOk m ∧ ∃ b, Sep [Box p 126 #[.map (some b)], FMap b m] w F
  frame h ho hd := by obtain ⟨h1, b, hs⟩ := h; exact ⟨h1, b, hs.frame ho hd⟩
  cut h hd := by obtain ⟨h1, b, hs⟩ := h; exact ⟨h1, b, hs.cut hd⟩
section
variable {G : Nat → Prop} {w0 w : World} {l : List Assn} {p b : Nat} {m : Fam}
theorem In.openFam (h : In G w0 (FamA p m :: l) w) : FamOk m ∧ ∃ b, In G w0 (Box p 126 #[.map (some b)] :: FMap b m :: l) w := by
  obtain ⟨⟨F1, F2, ⟨hm, b, hs⟩, h2, h3, h4⟩, ho⟩ := h
  exact ⟨hm, b, (Sep.join hs h2 h3).cut fun k _ hk => h4 k hk, ho⟩
theorem In.shutFam (hm : FamOk m) (h : In G w0 (Box p 126 #[.map (some b)] :: FMap b m :: l) w) : In G w0 (FamA p m :: l) w := by
  obtain ⟨hs, ho⟩ := h
  obtain ⟨F1, F2, h1, h2, h3, h4⟩ := Sep.part (l1 := [Box p 126 #[.map (some b)], FMap b m]) (l2 := l) hs
  exact ⟨⟨F1, F2, ⟨hm, b, h1⟩, h2, h3, h4⟩, ho⟩
theorem In.famOk (h : In G w0 (FamA p m :: l) w) : FamOk m := h.openFam.1
end

end Go.Proofs.YtpgcghnlepnoiaaGreatDoor

/-
  Beasts and systems as arguments.
-/
namespace Go.Proofs.YtpgcghnlepnoiaaGreatDoor
open Go.RowKit Go.ChangeShapes Go.WideShapes Go.ChangeAt Go.Deep

def Beast.Fit (b : Beast) : Prop := Fits b.k ∧ ∀ x ∈ b.v, Fits x
def Sys.Fit (s : Sys) : Prop := ∀ x ∈ s.list, Fits x

set_option maxRecDepth 100000 in
theorem open_beast {H : Type} {enc : TypeId × Value → H} {W : World} {r : Reach} {b0 : Nat} {v : Value} {d : DataW H} {p : List MemPlace}
    (hv : Value.okWide Tryz.prog W r b0 49 v) (h : DataW.Trod enc Tryz.prog W 0 (fun _ => true) true 49 v d p) :
    ∃ b : Beast, v = .agg (ints b.list) ∧ b.v.length = 8 ∧ b.Fit := by
  obtain ⟨xs, rfl, hl, hf⟩ := open_flat 4 Tryz.underlying49 (by kernel_rfl) hv h
  rw [beast_cells] at hl
  match xs, hl with
  | k :: vs, hl => exact ⟨⟨k, vs⟩, rfl, by simpa using hl, hf k (by simp), fun x hx => hf x (by simp [hx])⟩

end Go.Proofs.YtpgcghnlepnoiaaGreatDoor
