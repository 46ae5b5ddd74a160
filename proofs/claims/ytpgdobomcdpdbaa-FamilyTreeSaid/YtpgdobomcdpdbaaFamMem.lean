/-
  A family in memory: a struct that holds a map of handles.
-/
import Derived.Test.YtpgdobomcdpdbaaMapSep
import Derived.Test.YtpgdobomcdpdbaaHandleKey
import Derived.Test.YtpgdobomcdpdbaaHandles
import Derived.Test.YtpgdobomcdpdbaaSepMore
import Derived.Test.YtpgdobomcdpdbaaFamMath
namespace Go.Proofs.Ytpgdobomcdpdbaa
open Go.RowKit

def hdV (h : Hd) : Value := .agg (ints (hL h))
@[go_sem] theorem hdV_eq (a b : Int) : hdV (a, b) = .agg #[.int .i64 a, .int .i64 b] := rfl
theorem hL_inj {a b : Hd} (h : hL a = hL b) : a = b := by
  unfold hL at h
  injection h with h1 h2
  injection h2 with h2 _
  exact Prod.ext h1 h2
theorem keyHd : KeyOk Try.prog 36 hdV (fun _ => True) where
  inj h := hL_inj (keyH.inj h)
  check w em x _ := keyH.check w em (hL x) rfl
  find w x _ es he := keyH.find w (hL x) rfl es (fun e h => by obtain ⟨y, _, hy⟩ := he e h; exact ⟨hL y, rfl, hy⟩)
  stays w x := keyH.stays w (hL x)
theorem zero_handle (w : World) : (zeroValue 36).run Try.prog w = .ok (hdV (0, 0)) w := by kernel_rfl

abbrev FMap (b : Nat) (m : Fam) : Assn := MapA hdV hdV (fun _ => True) b m
abbrev RowH (v : Value) (hs : List Hd) : Assn := RowA 36 2 v hs.length (hs.flatMap hC)
/-- a family -/
def FamA (p : Nat) (m : Fam) : Assn where
  at_ w F := FamOk m ∧ ∃ b, Sep [Box p 106 #[.map (some b)], FMap b m] w F
  frame h ho hd := by obtain ⟨h1, b, hs⟩ := h; exact ⟨h1, b, hs.frame ho hd⟩
  cut h hd := by obtain ⟨h1, b, hs⟩ := h; exact ⟨h1, b, hs.cut hd⟩
section
variable {G : Nat → Prop} {w0 w : World} {l : List Assn} {p b : Nat} {m : Fam}
theorem In.openFam (h : In G w0 (FamA p m :: l) w) : FamOk m ∧ ∃ b, In G w0 (Box p 106 #[.map (some b)] :: FMap b m :: l) w := by
  obtain ⟨⟨F1, F2, ⟨hm, b, hs⟩, h2, h3, h4⟩, ho⟩ := h
  exact ⟨hm, b, (Sep.join hs h2 h3).cut fun k _ hk => h4 k hk, ho⟩
theorem In.shutFam (hm : FamOk m) (h : In G w0 (Box p 106 #[.map (some b)] :: FMap b m :: l) w) : In G w0 (FamA p m :: l) w := by
  obtain ⟨hs, ho⟩ := h
  obtain ⟨F1, F2, h1, h2, h3, h4⟩ := Sep.part (l1 := [Box p 106 #[.map (some b)], FMap b m]) (l2 := l) hs
  exact ⟨⟨F1, F2, ⟨hm, b, h1⟩, h2, h3, h4⟩, ho⟩
theorem In.famOk (h : In G w0 (FamA p m :: l) w) : FamOk m := h.openFam.1
end

end Go.Proofs.Ytpgdobomcdpdbaa
