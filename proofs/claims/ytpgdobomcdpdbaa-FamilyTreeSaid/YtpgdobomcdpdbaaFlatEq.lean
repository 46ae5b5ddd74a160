/-
  '==' and '!=' on structs all of whose cells are ints: as their lists of ints.
-/
import Derived.Test.YtpgdobomcdpdbaaFlat
namespace Go.Proofs.Ytpgdobomcdpdbaa
open Go.RowKit

/-- fields that lie one behind the other, each of a type that 'ok' takes: where the last one ends -/
def fieldsE (P : Program) (ok : TypeId → Bool) : List Field → Nat → Option Nat
  | [], acc => some acc
  | f :: fs, acc => if (f.name != "_" && decide (f.offset = acc) && ok f.type) = true then fieldsE P ok fs (acc + P.cellsOf f.type) else none

def flatE (P : Program) : Nat → TypeId → Bool
  | 0, _ => false
  | n + 1, t => match P.underlying t with
    | some (.int .i64) => decide (P.cellsOf t = 1)
    | some (.struct fs) => !P.stoodInHeld t && (P.info? t).isSome && decide (fieldsE P (flatE P n) fs.toList 0 = some (P.cellsOf t))
    | some (.array m e) => (P.info? e).isSome && (P.info? t).isSome && flatE P n e && decide (P.cellsOf t = m * P.cellsOf e)
    | _ => false

/-- ints as a value of such a type -/
def valOf (P : Program) (t : TypeId) (xs : List Int) : Value := match P.underlying t with
  | some (.int _) => .int .i64 (xs.getD 0 0)
  | _ => .agg (ints xs)

def seg (xs : List Int) (a n : Nat) : List Int := (xs.drop a).take n
theorem seg_len {xs : List Int} {a n : Nat} (h : a + n ≤ xs.length) : (seg xs a n).length = n := by simp [seg]; omega
theorem seg_add (xs : List Int) (a n m : Nat) : seg xs a (n + m) = seg xs a n ++ seg xs (a + n) m := by
  unfold seg
  rw [List.take_add, List.drop_drop]
theorem seg_eq_add {xs ys : List Int} {a n m : Nat} (hx : a + n ≤ xs.length) (hy : a + n ≤ ys.length) : seg xs a (n + m) = seg ys a (n + m) ↔ seg xs a n = seg ys a n ∧ seg xs (a + n) m = seg ys (a + n) m := by
  rw [seg_add, seg_add]
  constructor
  · intro h; exact List.append_inj h (by rw [seg_len hx, seg_len hy])
  · rintro ⟨h1, h2⟩; rw [h1, h2]
theorem seg_all (xs : List Int) : seg xs 0 xs.length = xs := by simp [seg]

section
variable {P : Program}

theorem info_of_cells {t : TypeId} {n : Nat} (h : P.cellsOf t = n) (hp : 0 < n) : ∃ i, P.info? t = some i ∧ i.size = n := by
  unfold Program.cellsOf at h
  cases hi : P.info? t with
  | none => rw [hi] at h; simp at h; omega
  | some i => rw [hi] at h; exact ⟨i, rfl, by simpa using h⟩

theorem part_flat (w : World) (n : Nat) (t : TypeId) (xs : List Int) (o : Nat) (hB : flatE P n t = true) (hl : o + P.cellsOf t ≤ xs.length) :
    (part t (ints xs) o).run P w = .ok (valOf P t (seg xs o (P.cellsOf t))) w := by
  cases n with
  | zero => simp [flatE] at hB
  | succ n =>
    have agg : ∀ d, P.underlying t = some d → (match d with | .struct _ | .array _ _ => true | _ => false) = true → (P.info? t).isSome = true → (part t (ints xs) o).run P w = .ok (.agg (ints (seg xs o (P.cellsOf t)))) w := by
      intro d hu hd hi
      have hagg : (isAgg t).run P w = .ok true w := by
        unfold isAgg
        rw [Sem.run_bind, run_underlying hu w]
        cases d <;> simp_all
      obtain ⟨i, hq⟩ := Option.isSome_iff_exists.1 hi
      have hc : P.cellsOf t = i.size := by simp [Program.cellsOf, hq]
      simp [part, Sem.run_bind, hagg, sizeOf, typeInfo, hq, hc]
      apply Array.ext'
      rw [Array.toList_extract, ints_toList, ints_toList, List.extract_eq_take_drop, Nat.add_sub_cancel_left, seg, List.map_take, List.map_drop]
    unfold flatE at hB
    split at hB
    · rename_i hu
      have hc : P.cellsOf t = 1 := by simpa using hB
      rw [hc] at hl ⊢
      have hagg : (isAgg t).run P w = .ok false w := by
        unfold isAgg
        rw [Sem.run_bind, run_underlying hu w]
        rfl
      have ho : (ints xs)[o]? = some (.int .i64 (xs[o]'(by omega))) := ints_at (by omega)
      have hs : (seg xs o 1).getD 0 0 = xs[o]'(by omega) := by
        simp only [seg, List.getD, List.getElem?_take, Nat.zero_lt_one, if_true, List.getElem?_drop, Nat.add_zero]
        rw [List.getElem?_eq_getElem (by omega)]; rfl
      simp [part, Sem.run_bind, hagg, ho, valOf, hu]
      simpa using hs.symm
    · rename_i fs hu
      simp only [Bool.and_eq_true] at hB
      rw [agg _ hu rfl hB.1.2]
      simp [valOf, hu]
    · rename_i m e hu
      simp only [Bool.and_eq_true] at hB
      rw [agg _ hu rfl hB.1.1.2]
      simp [valOf, hu]
    · cases hB

theorem decide_and {p q : Prop} [Decidable p] [Decidable q] : decide (p ∧ q) = (decide p && decide q) := by
  by_cases hp : p <;> by_cases hq : q <;> simp [hp, hq]

theorem eqFields_flat (n d : Nat) (xs ys : List Int) (ih : ∀ (t : TypeId) (xs ys : List Int) (w : World), flatE P n t = true → xs.length = P.cellsOf t → ys.length = P.cellsOf t → (Op.equalIn (d + n) t (valOf P t xs) (valOf P t ys)).run P w = .ok (decide (xs = ys)) w) :
    ∀ (fs : List Field) (acc e : Nat) (w : World), fieldsE P (flatE P n) fs acc = some e → e ≤ xs.length → e ≤ ys.length → acc ≤ e ∧ (Op.eqFields (d + n) (ints xs) (ints ys) fs).run P w = .ok (decide (seg xs acc (e - acc) = seg ys acc (e - acc))) w
  | [], acc, e, w, h, _, _ => by
    simp only [fieldsE, Option.some.injEq] at h
    subst h
    exact ⟨Nat.le_refl _, by simp [Op.eqFields, seg]⟩
  | f :: fs, acc, e, w, h, hx, hy => by
    unfold fieldsE at h
    split at h
    · rename_i hc
      simp only [Bool.and_eq_true, bne_iff_ne, ne_eq, decide_eq_true_eq] at hc
      obtain ⟨⟨hn, ho⟩, hB⟩ := hc
      obtain ⟨hle, hr⟩ := eqFields_flat n d xs ys ih fs _ e w h hx hy
      have hse : e - acc = P.cellsOf f.type + (e - (acc + P.cellsOf f.type)) := by omega
      refine ⟨by omega, ?_⟩
      have h1 := part_flat (P := P) w n f.type xs acc hB (by omega)
      have h2 := part_flat (P := P) w n f.type ys acc hB (by omega)
      have h3 := ih f.type (seg xs acc (P.cellsOf f.type)) (seg ys acc (P.cellsOf f.type)) w hB (seg_len (by omega)) (seg_len (by omega))
      have hd : decide (seg xs acc (e - acc) = seg ys acc (e - acc)) = (decide (seg xs acc (P.cellsOf f.type) = seg ys acc (P.cellsOf f.type)) && decide (seg xs (acc + P.cellsOf f.type) (e - (acc + P.cellsOf f.type)) = seg ys (acc + P.cellsOf f.type) (e - (acc + P.cellsOf f.type)))) := by
        rw [← decide_and, hse]
        exact decide_eq_decide.2 (seg_eq_add (by omega) (by omega))
      rw [hd]
      simp only [Op.eqFields, ho, ne_eq, hn, not_false_eq_true, if_true, Sem.run_bind, h1, h2, h3, Result.andThen_ok]
      cases decide (seg xs acc (P.cellsOf f.type) = seg ys acc (P.cellsOf f.type))
      · simp
      · simpa using hr
    · cases h

theorem eqIn_flat : ∀ (n d : Nat) (t : TypeId) (xs ys : List Int) (w : World), flatE P n t = true → xs.length = P.cellsOf t → ys.length = P.cellsOf t →
    (Op.equalIn (d + n) t (valOf P t xs) (valOf P t ys)).run P w = .ok (decide (xs = ys)) w
  | 0, _, _, _, _, _, h, _, _ => by simp [flatE] at h
  | n + 1, d, t, xs, ys, w, hB, hx, hy => by
    have ih := eqIn_flat n d
    unfold flatE at hB
    split at hB
    · rename_i hu
      have hc : P.cellsOf t = 1 := by simpa using hB
      rw [hc] at hx hy
      match xs, hx, ys, hy with
      | [x], _, [y], _ =>
        have hv : ∀ z, valOf P t [z] = .int .i64 z := fun z => by simp [valOf, hu]
        rw [hv, hv, ← Nat.add_assoc, run_equalIn_int w _ t .i64 .i64 x y hu]
        congr 1
        rw [Bool.eq_iff_iff]
        simp
    · rename_i fs hu
      simp only [Bool.and_eq_true, Bool.not_eq_true', decide_eq_true_eq] at hB
      obtain ⟨⟨h1, _⟩, h2⟩ := hB
      have hf : P.fieldsOf t = fs := by simp [Program.fieldsOf, hu]
      have hv : ∀ z, valOf P t z = .agg (ints z) := fun z => by simp [valOf, hu]
      rw [hv, hv, ← Nat.add_assoc, run_equalIn_struct w (d + n) t (ints xs) (ints ys) (by rw [hf]; exact hu) h1, hf]
      obtain ⟨_, hr⟩ := eqFields_flat n d xs ys (fun t' xs' ys' w' => ih t' xs' ys' w') fs.toList 0 _ w h2 (by omega) (by omega)
      rw [hr, Nat.sub_zero]
      congr 1
      rw [← hx, seg_all, hx, ← hy, seg_all]
    · rename_i m e hu
      simp only [Bool.and_eq_true, decide_eq_true_eq] at hB
      obtain ⟨⟨⟨hi, _⟩, hB⟩, hc⟩ := hB
      obtain ⟨i, hq⟩ := Option.isSome_iff_exists.1 hi
      have hie : P.cellsOf e = i.size := by simp [Program.cellsOf, hq]
      have hv : ∀ z, valOf P t z = .agg (ints z) := fun z => by simp [valOf, hu]
      rw [hv, hv, ← Nat.add_assoc]
      simp only [Op.equalIn, Sem.run_bind, run_underlying hu, Result.andThen_ok, sizeOf, typeInfo, run_program, hq, Sem.run_pure]
      simp only [Std.Legacy.Range.forIn_eq_forIn_range', Std.Legacy.Range.size, Nat.sub_zero, Nat.add_one_sub_one, Nat.div_one]
      have key : ∀ (k a : Nat), a + k ≤ m → (Sem.run P (forIn (List.range' a k 1) ((none, ()) : Option Bool × Unit) fun i_1 __s => do
            let __do_lift ← part e (ints xs) (i_1 * i.size)
            let __do_lift_1 ← part e (ints ys) (i_1 * i.size)
            let __do_lift ← Op.equalIn (d + n) e __do_lift __do_lift_1
            if (!__do_lift) = true then pure (ForInStep.done (some false, ())) else pure (ForInStep.yield (none, ()))) w) =
          .ok (if seg xs (a * i.size) (k * i.size) = seg ys (a * i.size) (k * i.size) then (none, ()) else (some false, ())) w := by
        intro k
        induction k with
        | zero => intro a _; simp [seg]
        | succ k ihk =>
          intro a ha
          have hb1 : a * i.size + i.size ≤ m * i.size := by rw [← Nat.succ_mul]; exact Nat.mul_le_mul_right _ (by omega)
          have h1 := part_flat (P := P) w n e xs (a * i.size) hB (by rw [hx, hc, hie]; exact hb1)
          have h2 := part_flat (P := P) w n e ys (a * i.size) hB (by rw [hy, hc, hie]; exact hb1)
          have h3 := ih e (seg xs (a * i.size) (P.cellsOf e)) (seg ys (a * i.size) (P.cellsOf e)) w hB (seg_len (by rw [hx, hc, hie]; exact hb1)) (seg_len (by rw [hy, hc, hie]; exact hb1))
          have hsplit := seg_eq_add (xs := xs) (ys := ys) (a := a * i.size) (n := i.size) (m := k * i.size) (by rw [hx, hc, hie]; exact hb1) (by rw [hy, hc, hie]; exact hb1)
          rw [hie] at h1 h2 h3
          have hmul : (k + 1) * i.size = i.size + k * i.size := by rw [Nat.succ_mul, Nat.add_comm]
          have hadd : (a + 1) * i.size = a * i.size + i.size := Nat.succ_mul _ _
          rw [List.range'_succ, List.forIn_cons, hmul]
          simp only [Sem.run_bind, h1, h2, h3, Result.andThen_ok]
          by_cases hq' : seg xs (a * i.size) i.size = seg ys (a * i.size) i.size
          · have hkk := ihk (a + 1) (by omega)
            rw [hadd] at hkk
            simp only [hq', decide_true, Bool.not_true, Bool.false_eq_true, if_false, Sem.run_pure, Result.andThen_ok, hkk]
            congr 1
            by_cases hr : seg xs (a * i.size + i.size) (k * i.size) = seg ys (a * i.size + i.size) (k * i.size)
            · rw [if_pos hr, if_pos (hsplit.2 ⟨hq', hr⟩)]
            · rw [if_neg hr, if_neg (fun h => hr (hsplit.1 h).2)]
          · rw [if_neg (fun h => hq' (hsplit.1 h).1)]
            simp [hq']
      rw [key m 0 (by omega), Nat.zero_mul]
      have hxm : m * i.size = xs.length := by rw [hx, hc, hie]
      have hym : m * i.size = ys.length := by rw [hy, hc, hie]
      have hsx : seg xs 0 (m * i.size) = xs := by rw [hxm, seg_all]
      have hsy : seg ys 0 (m * i.size) = ys := by rw [hym, seg_all]
      rw [hsx, hsy]
      by_cases he : xs = ys
      · simp [he]
      · simp [he]
    · cases hB

theorem run_eql_flat (n : Nat) (t : TypeId) (xs ys : List Int) (w : World) (hn : n ≤ 10000) (hB : flatE P n t = true) (ha : valOf P t [] = .agg (ints [])) (hx : xs.length = P.cellsOf t) (hy : ys.length = P.cellsOf t) :
    (binOp .eql t (.agg (ints xs)) (.agg (ints ys))).run P w = .ok (.bool (decide (xs = ys))) w := by
  have hv : ∀ z, valOf P t z = .agg (ints z) := by
    intro z; unfold valOf at ha ⊢; split at ha
    · cases ha
    · rfl
  have h := eqIn_flat (P := P) n (10000 - n) t xs ys w hB hx hy
  rw [hv, hv, show 10000 - n + n = 10000 from by omega] at h
  rw [run_eql_struct, h]
  rfl
theorem run_neq_flat (n : Nat) (t : TypeId) (xs ys : List Int) (w : World) (hn : n ≤ 10000) (hB : flatE P n t = true) (ha : valOf P t [] = .agg (ints [])) (hx : xs.length = P.cellsOf t) (hy : ys.length = P.cellsOf t) :
    (binOp .neq t (.agg (ints xs)) (.agg (ints ys))).run P w = .ok (.bool (!decide (xs = ys))) w := by
  have hv : ∀ z, valOf P t z = .agg (ints z) := by
    intro z; unfold valOf at ha ⊢; split at ha
    · cases ha
    · rfl
  have h := eqIn_flat (P := P) n (10000 - n) t xs ys w hB hx hy
  rw [hv, hv, show 10000 - n + n = 10000 from by omega] at h
  rw [run_neq_struct, h]
  rfl
end

end Go.Proofs.Ytpgdobomcdpdbaa
