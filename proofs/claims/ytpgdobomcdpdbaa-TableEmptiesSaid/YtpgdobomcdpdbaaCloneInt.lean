/-
  slices.Clone at []int (printed by wip/gen_clone.py).
-/
import Derived.Test.YtpgdobomcdpdbaaSep
namespace Go.Proofs.Ytpgdobomcdpdbaa
open Go.RowKit

theorem cloneInt_parts : (Try.prog.info? 3).map (fun i => (i.zero, i.size, i.bytes)) = some (some (.int .i64 0), 1, 8) := by kernel_rfl
set_option maxRecDepth 100000 in
theorem cloneInt_any (A : Option Addr) (n c : Nat) (xs : List Value) (w : World) (B : Nat) (h : Reads w B 1 A n xs) (h1 : ∀ u ∈ xs, u.oneCell' = true) (hA : (A = none ∧ n = 0 ∧ c = 0) ∨ ∃ b o, A = some ⟨b, o, none⟩) (hn : n ≤ 1000000) :
    Calls Try.prog 47 #[.slice A n c] w fun e w' => ∃ v, e = .returned v ∧ w'.ownsRow w.heap.size 3 1 v n xs ∧ Below w.heap.size w w' := by
  have H := Lib.hid h
  have H1 := Lib.hid h1
  clear h h1
  have he := fun w E hE n c n' c' a => Lib.run_eql_slice_nil (P := Try.prog) w 22 E a n c n' c' hE
  have he2 := fun w n c n' c' a => he w _ Try.underlying22 n c n' c' a
  clear he
  rcases hA with ⟨rfl, rfl, rfl⟩ | ⟨b, o, rfl⟩
  · have hx : Hid (xs = []) := by have := H.out.1; exact List.eq_nil_of_length_eq_zero (by omega)
    clear hn
    go_enter Try.func47, Try.ntmps47
    go_wp2_with fail
    go_ret
    exact ⟨_, rfl, by rw [hx.out]; exact World.ownsRow_nil _ _ _ _, Below.refl _ _⟩
  · skip
    have hcells : Hid (∀ j u, xs[j]? = some u → w.cell? ⟨b, o + j, none⟩ = some u) := by
      unfold Hid
      intro j u hu
      have hj := (List.getElem?_eq_some_iff.1 hu).1
      have hl := H.out.1
      obtain ⟨b', o', e, _, hc⟩ := H.out.2 (by rcases Nat.eq_zero_or_pos n with h | h; rw [h] at hl; omega; exact h)
      injection e with e
      injection e with e1 e2 e3
      subst e1; subst e2
      exact hc j u hu
    obtain ⟨i0, hi0, hz0, hz1, hz2⟩ := info_parts cloneInt_parts
    go_enter Try.func47, Try.ntmps47
    go_wp2_with (at_builtin; go_loud (refine wpList_append_own_at _ rfl _ _ _ rfl w.heap.size 3 i0 _ 1 8 Try.underlying22 hi0 hz0 hz1 hz2 rfl (by decide) _ 0 [] rfl ?_ ⟨b, o, none⟩ n c xs rfl H.out.1 ?_ H1.out (by unfold maxLen; omega) (by omega) (by simp) ?_))
    case refine_1 => exact ⟨rfl, Or.inr ⟨w.heap.size, 0, #[], rfl, Nat.le_refl _, heap_alloc_new w _, Nat.le_refl _, by decide, rfl, rfl⟩⟩
    case refine_2 =>
      intro j u hu
      have hj := hcells.out j u hu
      rw [Addr.add_lit]
      exact (((Below.refl w.heap.size w).alloc (Nat.le_refl _) _).cell (p := ⟨b, o + j, none⟩) (World.block_lt_of_cell? _ _ hj)).trans hj
    intro v' w' hown hg _ _
    have HB : Hid (Below w.heap.size w w') := ((Below.refl w.heap.size w).alloc (Nat.le_refl _) _).grown hg (by simp) (fun k hk => by simp [Value.ownBlock] at hk; omega)
    have HO := Lib.hid hown
    clear hown hg
    go_wp2_with fail
    go_ret
    exact ⟨_, rfl, HO.out, HB.out⟩

end Go.Proofs.Ytpgdobomcdpdbaa
