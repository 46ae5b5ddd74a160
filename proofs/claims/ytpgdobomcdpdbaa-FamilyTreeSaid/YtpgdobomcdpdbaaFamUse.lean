/-
  Slices of handles and of bonds handed to vivariumref.Has and Eq; the closed fact 'related'.
-/
import Derived.Test.YtpgdobomcdpdbaaFamGrow
import Derived.Test.YtpgdobomcdpdbaaFamUnder
import Derived.Test.YtpgdobomcdpdbaaHasHandle
import Derived.Test.YtpgdobomcdpdbaaHasBond
import Derived.Test.YtpgdobomcdpdbaaEqBond
namespace Go.Proofs.Ytpgdobomcdpdbaa
open Go.RowKit

theorem row_after {w w' : World} {g o n : Nat} {x : Array Value} (hb : Below w.heap.size w w') (h : row? w g o n = some x) : row? w' g o n = some x := by
  have hlt : g < w.heap.size := by
    unfold row? at h
    split at h
    · rename_i hg; exact (Array.getElem?_eq_some_iff.1 hg).1
    · cases h
  rw [row_below hb hlt]; exact h
theorem row_alloc {w : World} {g o n : Nat} {x : Array Value} (ob : Obj) (h : row? w g o n = some x) : row? (w.alloc ob) g o n = some x := row_after ((Below.refl _ _).alloc (Nat.le_refl _) _) h
theorem In.newLit {G : Nat → Prop} {w0 w : World} {l : List Assn} (h : In G w0 l w) (E : TypeId) (size n : Nat) (xs : List Value) (hl : xs.length = n * size) (hn : n ≤ maxLen) : In G w0 (RowA E size (.slice (some ⟨w.heap.size, 0, none⟩) n n) n xs :: l) (w.alloc (.cells xs.toArray E)) :=
  h.new (A := RowA E size (.slice (some ⟨w.heap.size, 0, none⟩) n n) n xs) ((Below.refl _ _).alloc (Nat.le_refl _) _)
    ⟨⟨hl, Or.inr ⟨w.heap.size, n, xs.toArray, rfl, Nat.zero_le _, heap_alloc_new w _, Nat.le_refl _, hn, by simpa using hl, by simp [← hl]⟩⟩, fun k hk => by simp [Value.ownBlock] at hk; omega⟩
theorem own_chunks {α : Type} {enc : α → List Value} {f : α → List Int} {size : Nat} {w : World} {E : TypeId} {v : Value} {xs : List α} (he : ∀ x, enc x = (f x).map (Value.int .i64)) (hf : ∀ x, (f x).length = size)
    (h : w.ownsRow 0 E size v xs.length (xs.flatMap enc)) : ∃ A c, v = .slice A xs.length c ∧ xs.length ≤ c ∧ c ≤ maxLen ∧ Chunks w w.heap.size size A (xs.map f) ∧ (0 < xs.length → ∃ g, A = some ⟨g, 0, none⟩) := by
  obtain ⟨A, c, rfl, hc1, hc2, hA⟩ := own_form h
  refine ⟨A, c, rfl, hc1, hc2, ⟨fun r hr => by obtain ⟨x, _, rfl⟩ := List.mem_map.1 hr; exact hf x, fun h0 => ?_⟩, hA⟩
  rw [List.length_map] at h0
  obtain ⟨g, rfl⟩ := hA h0
  refine ⟨g, 0, rfl, (h.lt g rfl).2, fun k r hr => ?_⟩
  rw [List.getElem?_map] at hr
  obtain ⟨x, hx, rfl⟩ := Option.map_eq_some_iff.1 hr
  obtain ⟨hk, rfl⟩ := List.getElem?_eq_some_iff.1 hx
  have := own_row h hk
  rw [flat_at (fun x => by rw [he, List.length_map, hf]) xs k hk, he] at this
  rw [Nat.zero_add]
  exact this
theorem Chunks.take {w : World} {B size : Nat} {A : Option Addr} {rs : List (List Int)} (h : Chunks w B size A rs) (k : Nat) : Chunks w B size A (rs.take k) := by
  refine ⟨fun r hr => h.1 r (List.mem_of_mem_take hr), fun h0 => ?_⟩
  obtain ⟨b, o, e, hb, hr⟩ := h.2 (by rw [List.length_take] at h0; omega)
  exact ⟨b, o, e, hb, fun j r hj => hr j r (by rw [List.getElem?_take] at hj; split at hj; exact hj; cases hj)⟩
theorem mem_map_hL {x : Hd} {hs : List Hd} : decide (hL x ∈ hs.map hL) = decide (x ∈ hs) := by
  rw [Bool.eq_iff_iff, decide_eq_true_eq, decide_eq_true_eq, List.mem_map]
  constructor
  · rintro ⟨y, hy, e⟩
    rw [← hL_inj e]; exact hy
  · exact fun h => ⟨x, h, rfl⟩
theorem bL_inj {a b : Hd × Hd} (h : bL a = bL b) : a = b := by
  unfold bL at h
  injection h with h1 h
  injection h with h2 h
  injection h with h3 h
  injection h with h4 _
  exact Prod.ext (Prod.ext h1 h2) (Prod.ext h3 h4)
theorem map_inj' {α β : Type} {f : α → β} (hf : ∀ a b, f a = f b → a = b) : ∀ {xs ys : List α}, xs.map f = ys.map f → xs = ys
  | [], [], _ => rfl
  | [], _ :: _, h => by simp at h
  | _ :: _, [], h => by simp at h
  | x :: xs, y :: ys, h => by
    rw [List.map_cons, List.map_cons] at h
    injection h with h1 h2
    rw [hf _ _ h1, map_inj' hf h2]

section
variable {G : Nat → Prop} {w0 w : World} {l : List Assn} {v u : Value}
theorem hasH_in {hs : List Hd} (h : In G w0 (RowH v hs :: l) w) (x : Hd) : Calls Try.prog 27 #[v, hdV x] w fun e w' => e = .returned (.bool (decide (x ∈ hs))) ∧ Below w.heap.size w w' := by
  obtain ⟨A, c, rfl, hc1, hc2, hch, _⟩ := own_chunks (f := hL) (fun _ => rfl) hL_len h.rowAt
  have := hasHandle_any A c (hs.map hL) (hL x) w hch (by rw [List.length_map]; omega) rfl
  rw [List.length_map, mem_map_hL] at this
  exact this
theorem hasH_take {hs : List Hd} {A : Option Addr} {c : Nat} {n : Nat} (h : In G w0 (RowH (.slice A n c) hs :: l) w) (hn : n = hs.length) (k c' : Nat) (hk : k ≤ hs.length) (x : Hd) : Calls Try.prog 27 #[.slice A k c', hdV x] w fun e w' => e = .returned (.bool (decide (x ∈ hs.take k))) ∧ Below w.heap.size w w' := by
  subst hn
  obtain ⟨A', c2, e, hc1, hc2, hch, _⟩ := own_chunks (f := hL) (fun _ => rfl) hL_len h.rowAt
  injection e with e1 e2 e3
  subst e1
  have hl : ((hs.map hL).take k).length = k := by rw [List.length_take, List.length_map]; omega
  have := hasHandle_any A c' ((hs.map hL).take k) (hL x) w (hch.take k) (by rw [hl]; omega) rfl
  rw [hl, ← List.map_take, mem_map_hL] at this
  exact this
theorem hasB_in {bs : List (Hd × Hd)} (h : In G w0 (RowB v bs :: l) w) (x : Hd × Hd) : Calls Try.prog 31 #[v, .agg (ints (bL x))] w fun e w' => e = .returned (.bool (decide (x ∈ bs))) ∧ Below w.heap.size w w' := by
  obtain ⟨A, c, rfl, hc1, hc2, hch, _⟩ := own_chunks (f := bL) (fun _ => rfl) bL_len h.rowAt
  have := hasBond_any A c (bs.map bL) (bL x) w hch (by rw [List.length_map]; omega) rfl
  have hd : decide (bL x ∈ bs.map bL) = decide (x ∈ bs) := by
    rw [Bool.eq_iff_iff, decide_eq_true_eq, decide_eq_true_eq, List.mem_map]
    exact ⟨fun ⟨y, hy, e⟩ => by rw [← bL_inj e]; exact hy, fun h => ⟨x, h, rfl⟩⟩
  rw [List.length_map, hd] at this
  exact this
theorem eqB_in {bs cs : List (Hd × Hd)} (h : In G w0 (RowB v bs :: RowB u cs :: l) w) : Calls Try.prog 30 #[v, u] w fun e w' => e = .returned (.bool (decide (bs = cs))) ∧ Below w.heap.size w w' := by
  obtain ⟨A, c, rfl, hc1, hc2, hch, _⟩ := own_chunks (f := bL) (fun _ => rfl) bL_len h.rowAt
  obtain ⟨A', c', rfl, hc1', hc2', hch', _⟩ := own_chunks (f := bL) (fun _ => rfl) bL_len h.swap.rowAt
  have := eqBond_any A A' c c' (bs.map bL) (cs.map bL) w hch hch' (by rw [List.length_map]; omega) (by rw [List.length_map]; omega)
  have hd : sameRows (bs.map bL) (cs.map bL) = decide (bs = cs) := by
    unfold sameRows
    rw [Bool.eq_iff_iff, decide_eq_true_eq, decide_eq_true_eq]
    exact ⟨fun h => map_inj' (fun _ _ => bL_inj) h, fun h => by rw [h]⟩
  rw [List.length_map, List.length_map, hd] at this
  exact this
theorem eqH_in {bs cs : List Hd} (h : In G w0 (RowH v bs :: RowH u cs :: l) w) : Calls Try.prog 53 #[v, u] w fun e w' => e = .returned (.bool (decide (bs = cs))) ∧ Below w.heap.size w w' := by
  obtain ⟨A, c, rfl, hc1, hc2, hch, _⟩ := own_chunks (f := hL) (fun _ => rfl) hL_len h.rowAt
  obtain ⟨A', c', rfl, hc1', hc2', hch', _⟩ := own_chunks (f := hL) (fun _ => rfl) hL_len h.swap.rowAt
  have := eqHandle_any A A' c c' (bs.map hL) (cs.map hL) w hch hch' (by rw [List.length_map]; omega) (by rw [List.length_map]; omega)
  have hd : sameRows (bs.map hL) (cs.map hL) = decide (bs = cs) := by
    unfold sameRows
    rw [Bool.eq_iff_iff, decide_eq_true_eq, decide_eq_true_eq]
    exact ⟨fun h => map_inj' (fun _ _ => hL_inj) h, fun h => by rw [h]⟩
  rw [List.length_map, List.length_map, hd] at this
  exact this
theorem funder_in {p : Nat} {m : Fam} (h : In G w0 (FamA p m :: l) w) (hl : m.length ≤ 1099511627776) (a : Hd) :
    Calls Try.prog 25 #[.pointer (some ⟨p, 0, none⟩), hdV a] w fun e w' => ∃ v, e = .returned v ∧ In G w0 (RowH v (under m a) :: FamA p m :: l) w' := by
  obtain ⟨rk, R, hr⟩ := h.famOk.acyc
  exact funder_aux h.famOk hl rk R hr (R - rk a + 1) a (Nat.lt_succ_self _) h
end

def rm1 : Fam := [((2, 0), (1, 0))]
def rm2 : Fam := [((2, 0), (1, 0)), ((3, 0), (2, 0))]
theorem rel1 : adoptR [] (2, 0) (1, 0) = (rm1, 0) := by
  unfold adoptR
  rw [if_neg]
  · rfl
  · rintro (e | e)
    · simp at e
    · exact Up.none rfl e
theorem rel2 : adoptR rm1 (3, 0) (2, 0) = (rm2, 0) := by
  have hc : Chain rm1 (2, 0) [(1, 0)] := .cons rfl (.nil rfl)
  unfold adoptR
  rw [if_neg]
  · rfl
  · rintro (e | e)
    · simp at e
    · have := hc.mem.2 e
      simp at this
theorem rel3 : adoptR rm2 (1, 0) (3, 0) = (rm2, 8) := by
  unfold adoptR
  rw [if_pos (Or.inr (.more (p := (2, 0)) rfl (.one rfl)))]
theorem rel4 (hm : FamOk rm2) : under rm2 (1, 0) = [(2, 0), (3, 0)] := by
  have k1 : kids rm2 (1, 0) = [(2, 0)] := by unfold kids; rw [show kidsRaw rm2 (1, 0) = [(2, 0)] from by decide]; exact List.mergeSort_singleton _
  have k2 : kids rm2 (2, 0) = [(3, 0)] := by unfold kids; rw [show kidsRaw rm2 (2, 0) = [(3, 0)] from by decide]; exact List.mergeSort_singleton _
  have k3 : kids rm2 (3, 0) = [] := by unfold kids; rw [show kidsRaw rm2 (3, 0) = [] from by decide]; exact List.mergeSort_nil
  have u3 : under rm2 (3, 0) = [] := by rw [under_eq hm.nodup hm.acyc, k3]; rfl
  have u2 : under rm2 (2, 0) = [(3, 0)] := by rw [under_eq hm.nodup hm.acyc, k2]; simp [u3]
  rw [under_eq hm.nodup hm.acyc, k1]; simp [u2]


end Go.Proofs.Ytpgdobomcdpdbaa
