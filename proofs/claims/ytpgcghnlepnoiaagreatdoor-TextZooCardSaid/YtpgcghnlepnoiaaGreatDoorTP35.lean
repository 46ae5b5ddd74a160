/-
  Several texts in one (merged by a program of mine): TextMem, TextPrint.
-/
import Derived.Test.YtpgcghnlepnoiaaGreatDoorTP34
import Derived.Deep.RegionHeld3
set_option linter.unusedVariables false
set_option linter.unusedSimpArgs false
set_option linter.unusedSectionVars false
/-
  A strings.Builder that a call has made, and what lies beside it.
-/
namespace Go.Proofs.YtpgcghnlepnoiaaGreatDoor
open Go.RowKit

/-- the builder in block b, made above w0, holds acc -/
def PB (w0 : World) (b : Nat) (acc : Bs) (W : World) : Prop := Lib.IsBuilderF 61 5 w0.heap.size b (Lib.byteCells acc) W ∧ Below w0.heap.size w0 W
theorem PB.below {w0 W : World} {b : Nat} {acc : Bs} (h : PB w0 b acc W) : Below w0.heap.size w0 W := h.2
theorem builderAt_below {w W : World} {B b : Nat} {p : Value} {bs : List Value} (h : Lib.BuilderAtF 61 5 B b p bs w) (hb : Below w.heap.size w W) : Lib.BuilderAtF 61 5 B b p bs W := by
  obtain ⟨h1, v, h2, h3, h4⟩ := h
  refine ⟨h1, v, (hb.block b (Array.getElem?_eq_some_iff.1 h2).1).trans h2, ?_, h4⟩
  rcases h3 with ⟨g1, g2⟩
  refine ⟨g1, ?_⟩
  rcases g2 with g2 | ⟨g, cap, cur, fz, e1, e2, e3, e4⟩
  · exact Or.inl g2
  · exact Or.inr ⟨g, cap, cur, fz, e1, e2, (hb.block g (Array.getElem?_eq_some_iff.1 e3).1).trans e3, e4⟩
theorem PB.grow {w0 w W : World} {b : Nat} {acc : Bs} (h : PB w0 b acc w) (hb : Below w.heap.size w W) : PB w0 b acc W :=
  ⟨h.1.elim (fun x => Or.inl (builderAt_below x hb)) (fun x => Or.inr (builderAt_below x hb)), h.2.trans (hb.mono h.2.size)⟩
theorem PB.new {w0 w : World} (h : Below w0.heap.size w0 w) : PB w0 w.heap.size [] (w.alloc (.cells #[.pointer none, .slice none 0 0] 61)) := by
  refine ⟨Or.inl ⟨h.size, .slice none 0 0, heap_alloc_new w _, ⟨rfl, Or.inl ⟨rfl, rfl⟩⟩, by simp [Value.ownBlock]⟩, h.alloc h.size _⟩
theorem PB.isB {w0 w : World} {b : Nat} {acc : Bs} (h : PB w0 b acc w) : ∃ cs, w.heap[b]? = some (.cells cs 61 (0, 0)) := by
  rcases h.1 with ⟨_, v, h2, _⟩ | ⟨_, v, h2, _⟩ <;> exact ⟨_, h2⟩
theorem PB.le {w0 w : World} {b : Nat} {acc : Bs} (h : PB w0 b acc w) : w0.heap.size ≤ b := by
  rcases h.1 with ⟨h1, _⟩ | ⟨h1, _⟩ <;> exact h1
theorem write_any {w0 w : World} {b : Nat} {acc : Bs} (h : PB w0 b acc w) (s : Bs) (hl : acc.length + s.length ≤ 1000000) :
    Calls Tryz.prog 20 #[.pointer (some ⟨b, 0, none⟩), .string (mkS s)] w fun e w' => e = .returned (.tuple #[.int .i64 s.length, .nilIface]) ∧ PB w0 b (acc ++ s) w' ∧ Lib.OthersKept 5 (some b) w w' := by
  refine (Tryz.Builder_WriteString_k w0.heap.size b (Lib.byteCells acc) (mkS s) w h.1 (by rw [Lib.byteCells_length, mkS_size]; omega) h.2.size).mono ?_
  rintro e w' ⟨rfl, h1, h2, h3⟩
  refine ⟨by rw [mkS_size], ⟨Or.inr ?_, h.2.trans h2⟩, h3⟩
  rw [Lib.byteCells_append]
  exact h1
theorem str_any {w0 w : World} {b : Nat} {acc : Bs} (h : PB w0 b acc w) :
    Calls Tryz.prog 24 #[.pointer (some ⟨b, 0, none⟩)] w fun e w' => e = .returned (.string (mkS acc)) ∧ Below w0.heap.size w0 w' :=
  (Tryz.Builder_String_any_k w0.heap.size b acc w h.1 h.2.size).mono fun e w' ⟨he, _, hb, _⟩ => ⟨he, h.2.trans hb⟩
theorem Blk.others {w0 w W : World} {b g : Nat} {acc : Bs} {t : TypeId} {cs : Array Value} (h : Blk w g t cs) (hp : PB w0 b acc w) (ho : Lib.OthersKept 5 (some b) w W) (h1 : t ≠ 61) (h2 : t ≠ 5) : Blk W g t cs := by
  refine ho g _ h ?_ ?_
  · intro e
    injection e with e
    subst e
    obtain ⟨cs', hc⟩ := hp.isB
    unfold Blk at h
    rw [h] at hc
    injection hc with hc
    injection hc with _ hc _
    exact h1 hc
  · intro c fz e
    injection e with _ e _
    exact h2 e
theorem OwnI.others {w0 w W : World} {b B : Nat} {acc : Bs} {v : Value} {zs : List Int} (h : OwnI w B v zs) (hp : PB w0 b acc w) (ho : Lib.OthersKept 5 (some b) w W) : OwnI W B v zs := by
  obtain ⟨h1, h2⟩ := h
  refine ⟨h1, ?_⟩
  rcases h2 with h2 | ⟨g, cap, cur, e1, e2, e3, e4⟩
  · exact Or.inl h2
  · exact Or.inr ⟨g, cap, cur, e1, e2, Blk.others e3 hp ho (by decide) (by decide), e4⟩
/-- a line of numbers that stand in the call -/
theorem line_new (word : Bs) (zs : List Int) (c : Nat) (W : World) (hG : Globs W) (hf : ∀ x ∈ zs, Fits x) (hl : zs.length ≤ 1000) (hw : word.length ≤ 1000) :
    Calls Tryz.prog 21 #[.string (mkS word), .slice (some ⟨W.heap.size, 0, none⟩) zs.length c] (W.alloc (.cells (ints zs) 3)) fun e w' => e = .returned (.string (mkS (word ++ nums zs))) ∧ Below W.heap.size W w' := by
  have hb : Below W.heap.size W (W.alloc (.cells (ints zs) 3)) := (Below.refl _ _).alloc (Nat.le_refl _) _
  have hr : ReadsI (W.alloc (.cells (ints zs) 3)) (W.alloc (.cells (ints zs) 3)).heap.size (some ⟨W.heap.size, 0, none⟩) zs.length zs := by
    rw [World.size_alloc]
    exact ReadsI.lit W zs
  refine (line_any word _ c zs _ (hG.below hb) hr hf hl hw).mono ?_
  rintro e w' ⟨he, hb2⟩
  exact ⟨he, hb.trans (hb2.mono hb.size)⟩

end Go.Proofs.YtpgcghnlepnoiaaGreatDoor

/-
  The contract of text.Print.
-/
namespace Go.Proofs.YtpgcghnlepnoiaaGreatDoor
open Go.RowKit

noncomputable def printR (s : StM) : Bs × Int :=
  match loadZ s with
  | (none, n) => ([], n)
  | (some _, _) => if riseB (s.rows.map fun x => x.h) = true ∧ riseB (s.bonds.map fun x => x.1) = true then (textS s, 0) else ([], 4)
def accR (s : StM) (k : Nat) : Bs := gensLine s.gens ++ [10] ++ (s.rows.take k).flatMap fun r => rowLine r ++ [10]
def accB (s : StM) (k : Nat) : Bs := accR s s.rows.length ++ (s.bonds.take k).flatMap fun r => bondLine r ++ [10]
theorem accR_zero (s : StM) : accR s 0 = gensLine s.gens ++ [10] := by simp [accR]
theorem accR_succ (s : StM) {k : Nat} (h : k < s.rows.length) : accR s (k + 1) = accR s k ++ (rowLine s.rows[k] ++ [10]) := by
  unfold accR
  rw [List.take_succ_eq_append_getElem h, List.flatMap_append]
  simp
theorem accB_zero (s : StM) : accB s 0 = accR s s.rows.length := by simp [accB]
theorem accB_succ (s : StM) {k : Nat} (h : k < s.bonds.length) : accB s (k + 1) = accB s k ++ (bondLine s.bonds[k] ++ [10]) := by
  unfold accB
  rw [List.take_succ_eq_append_getElem h, List.flatMap_append]
  simp
theorem accB_all (s : StM) : accB s s.bonds.length = textS s := by
  unfold accB accR textS lnes
  rw [List.take_length, List.take_length, List.flatMap_cons, List.flatMap_append, List.flatMap_map, List.flatMap_map, List.append_assoc]
def accK (base : Bs) (r : RowM) (j : Nat) : Bs := base ++ (wRow ++ nums [r.h.1, r.h.2]) ++ ((kinds r.b.k.toNat).take j).flatMap fun k => 32 :: kv k (r.b.v.getD k 0)
theorem accK_zero (base : Bs) (r : RowM) : accK base r 0 = base ++ (wRow ++ nums [r.h.1, r.h.2]) := by simp [accK]
theorem accK_succ (base : Bs) (r : RowM) {j : Nat} (h : j < (kinds r.b.k.toNat).length) : accK base r (j + 1) = accK base r j ++ 32 :: kv (kinds r.b.k.toNat)[j] (r.b.v.getD (kinds r.b.k.toNat)[j] 0) := by
  unfold accK
  rw [List.take_succ_eq_append_getElem h, List.flatMap_append]
  simp
theorem accK_all (base : Bs) (r : RowM) : accK base r (kinds r.b.k.toNat).length = base ++ rowLine r := by
  unfold accK rowLine kvs
  rw [List.take_length, List.append_assoc]
theorem bondsZ_none (lv : Hd → Bool) : ∀ (l : List (Hd × Hd)) (B : Fam) {n : Int}, bondsZ lv B l = (none, n) → n ≠ 0
  | [], B, n, h => by unfold bondsZ at h; cases h
  | b :: l, B, n, h => by
    unfold bondsZ at h
    split at h
    · injection h with _ h; omega
    · split at h
      · injection h with _ h; omega
      · split at h
        · rename_i h1
          injection h with _ h
          rw [← h]; exact h1
        · exact bondsZ_none lv l _ h
theorem loadZ_none {s : StM} {n : Int} (h : loadZ s = (none, n)) : n ≠ 0 := by
  unfold loadZ at h
  split at h
  · rename_i h1
    injection h with _ h
    have := loadWR_none h1
    omega
  · split at h
    · rename_i h1
      injection h with _ h
      rw [← h]; exact bondsZ_none _ _ _ h1
    · cases h
theorem m8_ok {k : Int} (h : 0 < k ∧ k < 256) : m8 k = k.toNat := by unfold m8; omega
theorem row_vals {b : Beast} (hb : beastErr b = 0) {k : Nat} (hk : k ∈ kinds b.k.toNat) : k < 8 ∧ Fits (b.v.getD k 0) := by
  obtain ⟨h1, h2⟩ := (beast_iff b).1 hb
  have := (mem_kinds _ _).1 hk
  have := (h2 k this.1).2
  exact ⟨by omega, ⟨by omega, by omega⟩⟩
theorem kv_len {b : Beast} (hb : beastErr b = 0) {k : Nat} (hk : k ∈ kinds b.k.toNat) : (kv k (b.v.getD k 0)).length ≤ 43 := by
  obtain ⟨h1, h2⟩ := row_vals hb hk
  have := itoa_len (fits_nat h1)
  have := itoa_len h2
  unfold kv
  simp only [List.length_append, List.length_cons]
  omega
theorem kvs_take_len {b : Beast} (hb : beastErr b = 0) : ∀ (l : List Nat), (∀ k ∈ l, k ∈ kinds b.k.toNat) → (l.flatMap fun k => 32 :: kv k (b.v.getD k 0)).length ≤ 44 * l.length
  | [], _ => by simp
  | k :: l, h => by
    have h1 := kv_len hb (h k List.mem_cons_self)
    have h2 := kvs_take_len hb l fun x hx => h x (List.mem_cons_of_mem _ hx)
    rw [List.flatMap_cons, List.length_append, List.length_cons, List.length_cons]
    omega
theorem rowLine_len {r : RowM} (h : Fits r.h.1 ∧ Fits r.h.2 ∧ beastErr r.b = 0 ∧ r.b.v.length = 8) : (rowLine r).length ≤ 399 := by
  have h1 := nums_len [r.h.1, r.h.2] (by simp [h.1, h.2.1])
  have h2 := kvs_take_len h.2.2.1 (kinds r.b.k.toNat) fun k hk => hk
  have h3 := kinds_len r.b.k.toNat
  unfold rowLine
  rw [List.length_append, List.length_append]
  have h4 : wRow.length = 3 := rfl
  have h5 : (kvs r.b).length = ((kinds r.b.k.toNat).flatMap fun k => 32 :: kv k (r.b.v.getD k 0)).length := rfl
  simp only [List.length_cons, List.length_nil] at h1
  omega
theorem bondLine_len {b : Hd × Hd} (h : Fits b.1.1 ∧ Fits b.1.2 ∧ Fits b.2.1 ∧ Fits b.2.2) : (bondLine b).length ≤ 92 := by
  have h1 := nums_len [b.1.1, b.1.2, b.2.1, b.2.2] (by simp [h])
  unfold bondLine
  rw [List.length_append]
  have h4 : wBond.length = 4 := rfl
  simp only [List.length_cons, List.length_nil] at h1
  omega
theorem bsFlat_le {α : Type} (f : α → Bs) (n : Nat) : ∀ (l : List α), (∀ x ∈ l, (f x).length ≤ n) → (l.flatMap f).length ≤ n * l.length
  | [], _ => by simp
  | x :: l, h => by
    have h1 := h x List.mem_cons_self
    have h2 := bsFlat_le f n l fun y hy => h y (List.mem_cons_of_mem _ hy)
    rw [List.flatMap_cons, List.length_append, List.length_cons, Nat.mul_succ]
    omega
theorem accR_len {s : StM} (h : StOk s) (hg : s.gens.length ≤ 60) (k : Nat) : (accR s k).length ≤ 2000 + 400 * s.rows.length := by
  have h1 := nums_len s.gens h.g
  have h2 := bsFlat_le (fun r => rowLine r ++ [10]) 400 (s.rows.take k) fun r hr => by
    have := rowLine_len (h.r r (List.mem_of_mem_take hr))
    simp only [List.length_append, List.length_cons, List.length_nil]; omega
  have h3 : (s.rows.take k).length ≤ s.rows.length := by rw [List.length_take]; omega
  have h4 : wGens.length = 4 := rfl
  unfold accR gensLine
  simp only [List.length_append, List.length_cons, List.length_nil]
  omega
theorem accB_len {s : StM} (h : StOk s) (hg : s.gens.length ≤ 60) (k : Nat) : (accB s k).length ≤ 2000 + 400 * s.rows.length + 100 * s.bonds.length := by
  have h1 := accR_len h hg s.rows.length
  have h2 := bsFlat_le (fun r => bondLine r ++ [10]) 100 (s.bonds.take k) fun r hr => by
    have := bondLine_len (h.b r (List.mem_of_mem_take hr))
    simp only [List.length_append, List.length_cons, List.length_nil]; omega
  have h3 : (s.bonds.take k).length ≤ s.bonds.length := by rw [List.length_take]; omega
  unfold accB
  rw [List.length_append]
  omega
theorem accK_len {base : Bs} {r : RowM} (h : Fits r.h.1 ∧ Fits r.h.2 ∧ beastErr r.b = 0 ∧ r.b.v.length = 8) (j : Nat) : (accK base r j).length ≤ base.length + 47 + 44 * 8 := by
  have h1 := nums_len [r.h.1, r.h.2] (by simp [h.1, h.2.1])
  have h2 := kvs_take_len h.2.2.1 ((kinds r.b.k.toNat).take j) fun k hk => List.mem_of_mem_take hk
  have h3 := kinds_len r.b.k.toNat
  have h4 : wRow.length = 3 := rfl
  have h5 : ((kinds r.b.k.toNat).take j).length ≤ (kinds r.b.k.toNat).length := by rw [List.length_take]; omega
  unfold accK
  simp only [List.length_append, List.length_cons, List.length_nil] at h1 ⊢
  omega
set_option maxHeartbeats 1000000 in
set_option maxRecDepth 100000 in
theorem print_any (gA rA bA : Option Addr) (gc rc bc : Nat) (s : StM) (w : World) (hG : Globs w) (hg : ReadsI w w.heap.size gA s.gens.length s.gens) (hr : RowsRd w w.heap.size rA s.rows) (hb : BondsRd w w.heap.size bA s.bonds)
    (hgl : s.gens.length ≤ maxLen) (hrl : s.rows.length ≤ maxLen) (hbl : s.bonds.length ≤ bc ∧ bc ≤ maxLen) :
    Calls Tryz.prog 7 #[.agg #[.slice gA s.gens.length gc, .slice rA s.rows.length rc, .slice bA s.bonds.length bc]] w fun e w' => e = .returned (.tuple #[.string (mkS (printR s).1), .int .i64 (printR s).2]) ∧ Below w.heap.size w w' := by
  obtain ⟨gens, rows, bs⟩ := s
  simp only at hg hr hb hgl hrl hbl ⊢
  have HG := Lib.hid hg
  have HR := Lib.hid hr
  have HB := Lib.hid hb
  have HL := Lib.hid hgl
  have HLR := Lib.hid hrl
  have HLB := Lib.hid hbl
  have HGL := Lib.hid hG
  clear hg hr hb hgl hrl hbl hG
  obtain ⟨pr, hpr⟩ : ∃ pr, printR ⟨gens, rows, bs⟩ = pr := ⟨_, rfl⟩
  rw [hpr]
  have HPR := Lib.hid hpr
  clear hpr
  go_enter Tryz.func7, Tryz.ntmps7
  go_upto_region 1 with (fail)
  refine wp_abs (fun W => Blk W w.heap.size 26 #[.slice gA gens.length gc, .slice rA rows.length rc, .slice bA bs.length bc] ∧ Below w.heap.size w W ∧ W.heap.size = w.heap.size + 1) ⟨Blk.new _ _ _, (Below.refl _ _).alloc (Nat.le_refl _) _, World.size_alloc _ _⟩ ?_
  intro w1 hw1
  obtain ⟨hk1, hb1, hs1⟩ := hw1
  have HB1 := Lib.hid hb1
  have hle : w.heap.size ≤ w1.heap.size := by omega
  have HZ := Lib.hid (zloadA_any gA rA bA gc rc bc ⟨gens, rows, bs⟩ w1 ((HG.out.below hb1).more hle) (Chunks.more (HR.out.below hb1) hle) (Chunks.more (HB.out.below hb1) hle) HL.out HLR.out HLB.out)
  have HGG : Hid (∀ W, Below w1.heap.size w1 W → Globs W ∧ ReadsI W w1.heap.size gA gens.length gens ∧ RowsRd W w1.heap.size rA rows ∧ BondsRd W w1.heap.size bA bs) := fun W h => by
    have h2 := hb1.trans (h.mono hle)
    exact ⟨HGL.out.below h2, (HG.out.below h2).more hle, Chunks.more (HR.out.below h2) hle, Chunks.more (HB.out.below h2) hle⟩
  have HEND : Hid (∀ W, Below w1.heap.size w1 W → Below w.heap.size w W) := fun W h => hb1.trans (h.mono hle)
  have HK1 := Lib.hid hk1
  have c0 : w1.cell? ⟨w.heap.size, 0, none⟩ = some (.slice gA gens.length gc) := hk1.cell 0
  have c1 : w1.cell? ⟨w.heap.size, 1, none⟩ = some (.slice rA rows.length rc) := hk1.cell 1
  have c2 : w1.cell? ⟨w.heap.size, 2, none⟩ = some (.slice bA bs.length bc) := hk1.cell 2
  have q0 : row? w1 w.heap.size 0 3 = some #[.slice gA gens.length gc, .slice rA rows.length rc, .slice bA bs.length bc] := by rw [hk1.row 0 3 (by simp)]; rfl
  have HLT : Hid (w.heap.size < w1.heap.size) := by unfold Hid; omega
  clear hk1 hb1 hs1 HG HR HB HGL HB1 hle
  generalize w.heap.size = sb at HK1 HLT q0 c0 c1 c2 ⊢
  obtain ⟨x, hx⟩ : ∃ x, loadZ ⟨gens, rows, bs⟩ = x := ⟨_, rfl⟩
  rw [hx] at HZ
  have HX := Lib.hid hx
  clear hx
  obtain ⟨oz, n⟩ := x
  cases oz with
  | none =>
    have hne := loadZ_none HX.out
    go_wp2_with fail
    refine HZ.out.mono ?_
    rintro e w2 ⟨hb2, rfl⟩
    have HB2 := Lib.hid hb2
    clear HZ hb2 c0 c1 c2 q0
    go_wp2_with fail
    go_ret2
    rw [← HPR.out]
    unfold printR
    rw [HX.out]
    exact ⟨rfl, HEND.out _ HB2.out⟩
  | some z =>
  go_wp2_with fail
  refine HZ.out.mono ?_
  rintro e w2 ⟨hb2, p, rfl, _⟩
  have HB2 := Lib.hid hb2
  obtain ⟨_, HST, _, hl2, hl3, _⟩ := loadZ_ok HX.out fun r hr => (HGG.out _ (Below.refl _ _)).2.2.1.len8 hr
  simp only at hl2 hl3
  have HFIN := HX
  clear hb2 HZ q0 c0 c1 c2
  have k2 := HK1.out.below HB2.out HLT.out
  have c0 : w2.cell? ⟨sb, 0, none⟩ = some (.slice gA gens.length gc) := k2.cell 0
  have c1 : w2.cell? ⟨sb, 1, none⟩ = some (.slice rA rows.length rc) := k2.cell 1
  have c2 : w2.cell? ⟨sb, 2, none⟩ = some (.slice bA bs.length bc) := k2.cell 2
  clear k2
  have HO1 : Hid (Calls Tryz.prog 16 #[.slice rA rows.length rc, .func (.func 17) #[] #[]] w2 fun e w' => e = .returned (.bool (riseB (rows.map fun x => x.h))) ∧ Below w2.heap.size w2 w') := rowsOrd_any rA rc rows w2 (Chunks.more (HGG.out _ HB2.out).2.2.1 HB2.out.size) (by omega)
  go_wp2_with fail
  refine HO1.out.mono ?_
  rintro e w3 ⟨rfl, hb3⟩
  have HB3 : Hid (Below w1.heap.size w1 w3) := HB2.out.trans (hb3.mono HB2.out.size)
  clear hb3 HO1 c0 c1 c2
  have k2 := HK1.out.below HB3.out HLT.out
  have c0 : w3.cell? ⟨sb, 0, none⟩ = some (.slice gA gens.length gc) := k2.cell 0
  have c1 : w3.cell? ⟨sb, 1, none⟩ = some (.slice rA rows.length rc) := k2.cell 1
  have c2 : w3.cell? ⟨sb, 2, none⟩ = some (.slice bA bs.length bc) := k2.cell 2
  clear k2
  have HO2 : Hid (Calls Tryz.prog 18 #[.slice bA bs.length bc, .func (.func 19) #[] #[]] w3 fun e w' => e = .returned (.bool (riseB (bs.map fun x => x.1))) ∧ Below w3.heap.size w3 w') := bondsOrd_any bA bc bs w3 (Chunks.more (HGG.out _ HB3.out).2.2.2 HB3.out.size) (by omega)
  have HPR2 : Hid (pr = if riseB (rows.map fun x => x.h) = true ∧ riseB (bs.map fun x => x.1) = true then (textS ⟨gens, rows, bs⟩, 0) else ([], 4)) := by
    have h := HPR.out
    unfold printR at h
    rw [HX.out] at h
    exact h.symm
  generalize riseB (rows.map fun x => x.h) = r1 at *
  generalize riseB (bs.map fun x => x.1) = r2 at *
  cases r1 with
  | false =>
    go_wp2_with fail
    go_ret2
    rw [HPR2.out]
    exact ⟨rfl, HEND.out _ HB3.out⟩
  | true =>
  go_wp2_with fail
  refine HO2.out.mono ?_
  rintro e w4 ⟨rfl, hb4⟩
  have HB4 : Hid (Below w1.heap.size w1 w4) := HB3.out.trans (hb4.mono HB3.out.size)
  clear hb4 HO2 c0 c1 c2
  cases r2 with
  | false =>
    go_wp2_with fail
    go_ret2
    rw [HPR2.out]
    exact ⟨rfl, HEND.out _ HB4.out⟩
  | true =>
  have k2 := HK1.out.below HB4.out HLT.out
  have HPR3 : Hid (pr = (textS ⟨gens, rows, bs⟩, 0)) := HPR2.out
  clear HPR HPR2 HX
  go_upto_region 7 with (fail)
  refine wp_abs (fun W => PB w1 w4.heap.size [] W ∧ Blk W sb 26 #[.slice gA gens.length gc, .slice rA rows.length rc, .slice bA bs.length bc]) ⟨PB.new HB4.out, k2.alloc _⟩ ?_
  generalize w4.heap.size = bb
  clear k2
  intro w5 hw5
  obtain ⟨hp5, k5⟩ := hw5
  have c0 : w5.cell? ⟨sb, 0, none⟩ = some (.slice gA gens.length gc) := k5.cell 0
  have hsz : (gensLine gens).length ≤ 1324 := by
    have h1 := nums_len gens HST.g
    have h4 : wGens.length = 4 := rfl
    unfold gensLine
    rw [List.length_append]
    omega
  have HLN : Hid (Calls Tryz.prog 21 #[.string ⟨#[103, 101, 110, 115]⟩, .slice gA gens.length gc] w5 fun e w' => e = .returned (.string (mkS (gensLine gens))) ∧ Below w5.heap.size w5 w') :=
    line_any wGens gA gc gens w5 (HGG.out _ hp5.below).1 ((HGG.out _ hp5.below).2.1.more hp5.below.size) HST.g (by omega) (by decide)
  have HP5 := Lib.hid hp5
  have hz1 : ¬ (9223372036854775807 < (mkS (gensLine gens)).size + 1) := by rw [mkS_size]; omega
  have HEQ : Hid (mkS (gensLine gens) ++ (⟨#[10]⟩ : ByteArray) = mkS (gensLine gens ++ [10])) := mkS_append _ [10]
  have HA0 : Hid ([] ++ (gensLine gens ++ [10]) = accR ⟨gens, rows, bs⟩ 0) := (accR_zero ⟨gens, rows, bs⟩).symm
  have HLEN : Hid (([] : Bs).length + (gensLine gens ++ [10]).length ≤ 1000000) := by unfold Hid; simp only [List.length_append, List.length_cons, List.length_nil]; omega
  clear hp5 k5 hsz
  generalize gensLine gens = gl at *
  go_wp2_with fail
  refine HLN.out.mono ?_
  rintro e w6 ⟨rfl, hb6⟩
  have HP6 := Lib.hid (HP5.out.grow hb6)
  clear hb6 HLN HP5 c0
  go_wp2_with fail
  rw [HEQ.out]
  refine (write_any HP6.out (gl ++ [10]) HLEN.out).mono ?_
  rintro e w7 ⟨rfl, hp7, _⟩
  rw [HA0.out] at hp7
  have HP7 := Lib.hid hp7
  have k7 := HK1.out.below hp7.below HLT.out
  have c1 : w7.cell? ⟨sb, 1, none⟩ = some (.slice rA rows.length rc) := k7.cell 1
  clear hp7 k7 HP6 HA0 HLEN HEQ hz1
  go_wp2_with fail
  go_loopw [39] (fun i w' => ∃ k : Nat, k ≤ rows.length ∧ i = .int .i64 k ∧ PB w1 bb (accR ⟨gens, rows, bs⟩ k) w') (fun i _ => rows.length - (intOf i).toNat)
  case atStart => exact ⟨0, Nat.zero_le _, rfl, HP7.out⟩
  case round =>
    clear HP7 c1
    obtain ⟨k, hk, rfl, hp⟩ := hrel
    have HP := Lib.hid hp
    clear hp
    by_cases hlt : k < rows.length
    · have hki : (k : Int) < rows.length := by omega
      obtain ⟨g, o, rfl, hgl, q1⟩ := RowsRd.at_ (HGG.out _ HP.out.below).2.2.1 (k := k) hlt
      have HRK := Lib.hid (HST.r rows[k] (List.getElem_mem hlt))
      have HSUC : Hid (accR ⟨gens, rows, bs⟩ (k + 1) = accR ⟨gens, rows, bs⟩ k ++ (rowLine rows[k] ++ [10])) := accR_succ ⟨gens, rows, bs⟩ hlt
      have HAL : Hid ((accR ⟨gens, rows, bs⟩ k).length ≤ 30000) := by
        have := accR_len HST (by assumption) k
        unfold Hid
        simp only at this
        omega
      generalize rows[k] = r at *
      generalize accR ⟨gens, rows, bs⟩ k = base at *
      have HR11 : Hid ((RowM.list r).length = 11) := by unfold Hid; simp [RowM.list, Beast.list, HRK.out.2.2.2]
      go_upto_region 11 with (fail)
      refine wp_abs (In (fun _ => False) wr [Box wr.heap.size 51 (ints (RowM.list r))]) ((In.nil wr (fun _ => False)).struct 51 [0, 0, 0, 0, 0, 0, 0, 0, 0, 0, 0] (RowM.list r) HR11.out) ?_
      generalize wr.heap.size = xb
      intro w8 hI8
      have hk8 := hI8.blk
      have hp8 : PB w1 bb base w8 := HP.out.grow hI8.below0
      obtain ⟨⟨s0, s1⟩, ⟨kk, vv⟩⟩ := r
      have e0 : w8.cell? ⟨xb, 0, none⟩ = some (.int .i64 s0) := hk8.cell 0
      have e1 : w8.cell? ⟨xb, 1, none⟩ = some (.int .i64 s1) := hk8.cell 1
      have HLN : Hid (Calls Tryz.prog 21 #[.string ⟨#[114, 111, 119]⟩, .slice (some ⟨w8.heap.size, 0, none⟩) 2 2] (w8.alloc (.cells #[.int .i64 s0, .int .i64 s1] 3)) fun e w' => e = .returned (.string (mkS (wRow ++ nums [s0, s1]))) ∧ Below w8.heap.size w8 w') :=
        line_new wRow [s0, s1] 2 w8 (HGG.out _ hp8.below).1 (by intro x hx; simp at hx; rcases hx with rfl | rfl; exact HRK.out.1; exact HRK.out.2.1) (by simp) (by decide)
      have HLW : Hid ((wRow ++ nums [s0, s1]).length ≤ 60) := by
        have h1 := nums_len [s0, s1] (by intro x hx; simp at hx; rcases hx with rfl | rfl; exact HRK.out.1; exact HRK.out.2.1)
        have h4 : wRow.length = 3 := rfl
        unfold Hid
        simp only [List.length_append, List.length_cons, List.length_nil] at h1 ⊢
        omega
      have HK0 : Hid (base ++ (wRow ++ nums [s0, s1]) = accK base ⟨(s0, s1), ⟨kk, vv⟩⟩ 0) := (accK_zero base ⟨(s0, s1), ⟨kk, vv⟩⟩).symm
      have HP8 := Lib.hid hp8
      have HK8 := Lib.hid hk8
      clear hp8 hk8 hI8 q1 HP
      generalize wRow ++ nums [s0, s1] = rl at *
      go_wp2_with fail
      refine HLN.out.mono ?_
      rintro e w9 ⟨rfl, hb9⟩
      have HP9 := Lib.hid (HP8.out.grow hb9)
      have HK9 := Lib.hid (HK8.out.after hb9)
      clear hb9 HLN HP8 HK8 e0 e1
      go_wp2_with fail
      refine (write_any HP9.out rl (by have := HAL.out; have := HLW.out; omega)).mono ?_
      rintro e w10 ⟨rfl, hp10, ho10⟩
      have hk10 := HK9.out.others HP9.out ho10 (by decide) (by decide)
      rw [HK0.out] at hp10
      have e2 : w10.cell? ⟨xb, 2, none⟩ = some (.int .i64 kk) := hk10.cell 2
      have HP10 := Lib.hid hp10
      have HK10 := Lib.hid hk10
      have HLS := Lib.hid (list_any kk w10)
      clear hp10 hk10 HP9 HK9 HK0 ho10
      go_wp2_with fail
      refine HLS.out.mono ?_
      rintro e w11 ⟨v, rfl, hown, hb11⟩
      obtain ⟨A, c, rfl, hrd⟩ := hown.form
      have HP11 := Lib.hid (HP10.out.grow hb11)
      have HK11 := Lib.hid (HK10.out.after hb11)
      have HOW := Lib.hid hown
      have hm8 : m8 kk = kk.toNat := by
        have h := (beast_iff _).1 HRK.out.2.2.1
        have h1 := h.1
        unfold m8; simp only at h1; omega
      have hkl : (kindsI (m8 kk)).length = (kinds kk.toNat).length := by unfold kindsI; rw [List.length_map, hm8]
      have HM8 := Lib.hid hm8
      have HKL := Lib.hid hkl
      have hk8 := kindsI_len (m8 kk)
      clear hown hrd hb11 HP10 HK10 HLS e2 hm8 hkl
      generalize w10.heap.size = B10 at *
      generalize hzs : kindsI (m8 kk) = zs at *
      have HZS := Lib.hid hzs
      clear hzs
      go_wp2_with fail
      go_loopw [57] (fun i w' => ∃ j : Nat, j ≤ zs.length ∧ i = .int .i64 j ∧ PB w1 bb (accK base ⟨(s0, s1), ⟨kk, vv⟩⟩ j) w' ∧ Blk w' xb 51 (ints (RowM.list ⟨(s0, s1), ⟨kk, vv⟩⟩)) ∧ OwnI w' B10 (.slice A zs.length c) zs) (fun i _ => zs.length - (intOf i).toNat)
      case atStart => exact ⟨0, Nat.zero_le _, rfl, HP11.out, HK11.out, HOW.out⟩
      case round =>
        clear HP11 HK11 HOW
        obtain ⟨j, hj, rfl, hp, hkx, how⟩ := hrel
        by_cases hlt2 : j < zs.length
        · have hji : (j : Int) < zs.length := by omega
          obtain ⟨A', c', eA, hrd⟩ := how.form
          injection eA with eA1 eA2 eA3
          subst eA1
          subst eA3
          clear eA2
          obtain ⟨lb, lo, rfl, _, _, hc⟩ := hrd.at_ hlt2
          obtain ⟨kn, hkn1, hkn2, hkn3⟩ : ∃ kn : Nat, zs[j] = (kn : Int) ∧ kn ∈ kinds kk.toNat ∧ accK base ⟨(s0, s1), ⟨kk, vv⟩⟩ (j + 1) = accK base ⟨(s0, s1), ⟨kk, vv⟩⟩ j ++ 32 :: kv kn (vv.getD kn 0) := by
            have hj2 : j < (kinds kk.toNat).length := by have := HKL.out; omega
            refine ⟨(kinds kk.toNat)[j], ?_, List.getElem_mem hj2, accK_succ base ⟨(s0, s1), ⟨kk, vv⟩⟩ hj2⟩
            have h1 := HZS.out
            rw [HM8.out] at h1
            unfold kindsI at h1
            subst h1
            simp
          rw [hkn1] at hc
          obtain ⟨hk8', hfx⟩ := row_vals HRK.out.2.2.1 hkn2
          have hk8i : (kn : Int) < 8 := by omega
          have hx3 : ∀ W, Blk W xb 51 (ints (RowM.list ⟨(s0, s1), ⟨kk, vv⟩⟩)) → W.cell? ⟨xb, 3 + kn, none⟩ = some (.int .i64 (vv.getD kn 0)) := fun W h => by
            rw [h.cell, ints_get]
            have h8 : vv.length = 8 := HRK.out.2.2.2
            have e : (RowM.list ⟨(s0, s1), ⟨kk, vv⟩⟩)[3 + kn]? = vv[kn]? := by rw [show 3 + kn = kn + 1 + 1 + 1 by omega]; rfl
            rw [e, List.getElem?_eq_getElem (by omega)]
            simp [List.getD, List.getElem?_eq_getElem (show kn < vv.length by omega)]
          have HX3 := Lib.hid hx3
          have HIT : Hid (∀ W, Below w1.heap.size w1 W → Calls Tryz.prog 23 #[.int .i64 (vv.getD kn 0)] W fun e w' => e = .returned (.string (mkS (Lib.itoa (vv.getD kn 0)))) ∧ Below W.heap.size W w') := fun W h => itoa_any _ hfx W (HGG.out _ h).1
          have hlq : (Lib.itoa (vv.getD kn 0)).length ≤ 21 := itoa_len hfx
          have hlp : (32 :: Lib.itoa kn).length ≤ 22 := by have := itoa_len (fits_nat hk8'); simp only [List.length_cons]; omega
          have HLN : Hid (Calls Tryz.prog 21 #[.string ⟨#[]⟩, .slice (some ⟨wr.heap.size, 0, none⟩) 1 1] (wr.drew.alloc (.cells #[.int .i64 (kn : Int)] 3)) fun e w' => e = .returned (.string (mkS (32 :: Lib.itoa kn))) ∧ Below wr.heap.size wr.drew w') := by
            have h := line_new [] [(kn : Int)] 1 wr.drew (HGG.out _ (hp.below.drew)).1 (by intro x hx; simp at hx; subst hx; exact fits_nat hk8') (by simp) (by simp)
            have e : ([] : Bs) ++ nums [(kn : Int)] = 32 :: Lib.itoa kn := by simp [nums]
            rw [e] at h
            exact h
          have HKV : Hid (32 :: kv kn (vv.getD kn 0) = (32 :: Lib.itoa kn) ++ ([61] ++ Lib.itoa (vv.getD kn 0))) := by unfold Hid kv; rfl
          have hkl : (accK base ⟨(s0, s1), ⟨kk, vv⟩⟩ j).length ≤ 31000 := by
            have h1 := accK_len (base := base) (r := ⟨(s0, s1), ⟨kk, vv⟩⟩) HRK.out j
            have h2 := HAL.out
            omega
          have HSC := Lib.hid hkn3
          have HPW := Lib.hid hp
          have HKX := Lib.hid hkx
          have HOW := Lib.hid how
          have s8 : wr.cell? ⟨xb, 3 + kn, none⟩ = some (.int .i64 (vv.getD kn 0)) := hx3 wr hkx
          clear hx3 hkn3 hkn1 hkn2 hp hkx how hrd hfx hk8'
          generalize vv.getD kn 0 = x at *
          generalize hp9 : 32 :: Lib.itoa kn = pp at *
          generalize hq9 : Lib.itoa x = qq at *
          generalize accK base ⟨(s0, s1), ⟨kk, vv⟩⟩ j = cur at *
          clear hp9 hq9
          have HW : Hid (∀ W, PB w1 bb cur W → Calls Tryz.prog 20 #[.pointer (some ⟨bb, 0, none⟩), .string (mkS pp ++ (⟨#[61]⟩ : ByteArray) ++ mkS qq)] W fun e w' => e = .returned (.tuple #[.int .i64 (pp ++ ([61] ++ qq)).length, .nilIface]) ∧ PB w1 bb (cur ++ (pp ++ ([61] ++ qq))) w' ∧ Lib.OthersKept 5 (some bb) W w') := fun W h => by
            have e : mkS pp ++ (⟨#[61]⟩ : ByteArray) ++ mkS qq = mkS (pp ++ ([61] ++ qq)) := by
              have e0 : (⟨#[61]⟩ : ByteArray) = mkS [61] := rfl
              rw [e0, mkS_append, mkS_append, List.append_assoc]
            rw [e]
            exact write_any h _ (by simp only [List.length_append, List.length_cons, List.length_nil]; omega)
          have hz1 : ¬ (9223372036854775807 < (mkS pp).size + 1) := by rw [mkS_size]; omega
          have hz2 : ¬ (9223372036854775807 < (mkS pp).size + (1 + (mkS qq).size)) := by rw [mkS_size, mkS_size]; omega
          have hz3 : ¬ (9223372036854775807 < (mkS pp).size + 1 + (mkS qq).size) := by rw [mkS_size, mkS_size]; omega
          go_upto_region 15 with (fail)
          have HPD : Hid (Below wr.heap.size wr wr.drew) := (Below.refl _ _).drew
          have HBT : Hid (∀ W, Below wr.heap.size wr W → PB w1 bb cur W ∧ Blk W xb 51 (ints (RowM.list ⟨(s0, s1), ⟨kk, vv⟩⟩)) ∧ OwnI W B10 (.slice (some ⟨lb, lo, none⟩) zs.length c) zs ∧ W.cell? ⟨xb, 3 + kn, none⟩ = some (.int .i64 x)) := fun W h => ⟨HPW.out.grow h, HKX.out.after h, HOW.out.kept h, HX3.out W (HKX.out.after h)⟩
          have sD : wr.drew.cell? ⟨xb, 3 + kn, none⟩ = some (.int .i64 x) := s8
          have sA : (wr.drew.alloc (.cells #[.int .i64 (kn : Int)] 3)).cell? ⟨xb, 3 + kn, none⟩ = some (.int .i64 x) := (HBT.out _ (HPD.out.alloc (Nat.le_refl _) _)).2.2.2
          go_region_held3 (fun W => W.cell? ⟨xb, 3 + kn, none⟩ = some (.int .i64 x)) (first | assumption | exact s8 | exact sA)
            (first
              | (go_at_call 20; refine (HW.out _ (HBT.out _ H13.out).1).mono ?_; rintro e w14 ⟨rfl, hp14, ho14⟩; have HP14 := Lib.hid hp14; have HK14 := Lib.hid ((HBT.out _ H13.out).2.1.others (HBT.out _ H13.out).1 ho14 (by decide) (by decide)); have HO14 := Lib.hid ((HBT.out _ H13.out).2.2.1.others (HBT.out _ H13.out).1 ho14); have s14 := HX3.out _ HK14.out; clear hp14 ho14)
              | (go_at_call 23; refine (HIT.out _ (HBT.out _ H12.out).1.below).mono ?_; rintro e w13 ⟨rfl, hb13⟩; have H13 : Hid (Below wr.heap.size wr w13) := H12.out.trans (hb13.mono H12.out.size); have s13 := (HBT.out _ H13.out).2.2.2; clear hb13)
              | (go_at_call 21; refine HLN.out.mono ?_; rintro e w12 ⟨rfl, hb12⟩; have H12 : Hid (Below wr.heap.size wr w12) := HPD.out.trans hb12; have s12 := (HBT.out _ H12.out).2.2.2; clear hb12))
          all_goals
            clear HLN HW HIT s12 s13 s14 sA sD s8 hz1 hz2 hz3
            go_wp2_with fail
            go_roundw
            case rel => exact ⟨j + 1, by omega, by go_num, by rw [HSC.out, HKV.out]; exact HP14.out, HK14.out, HO14.out⟩
            case measure => simp [intOf]; omega
        · have hjn : j = (kinds kk.toNat).length := by have := HKL.out; omega
          have hji : ¬ ((j : Int) < zs.length) := by omega
          rw [hjn] at hp
          have hall : accK base ⟨(s0, s1), ⟨kk, vv⟩⟩ (kinds kk.toNat).length = base ++ rowLine ⟨(s0, s1), ⟨kk, vv⟩⟩ := accK_all base ⟨(s0, s1), ⟨kk, vv⟩⟩
          rw [hall] at hp
          have HPW := Lib.hid hp
          have hrl := rowLine_len (r := ⟨(s0, s1), ⟨kk, vv⟩⟩) HRK.out
          have HW : Hid (Calls Tryz.prog 20 #[.pointer (some ⟨bb, 0, none⟩), .string ⟨#[10]⟩] wr fun e w' => e = .returned (.tuple #[.int .i64 ([10] : Bs).length, .nilIface]) ∧ PB w1 bb (base ++ rowLine ⟨(s0, s1), ⟨kk, vv⟩⟩ ++ [10]) w' ∧ Lib.OthersKept 5 (some bb) wr w') :=
            write_any HPW.out [10] (by have := HAL.out; simp only [List.length_append, List.length_cons, List.length_nil]; omega)
          have HSU : Hid (accR ⟨gens, rows, bs⟩ (k + 1) = base ++ rowLine ⟨(s0, s1), ⟨kk, vv⟩⟩ ++ [10]) := by
            unfold Hid
            rw [HSUC.out, List.append_assoc]
          clear hp hkx how hall hrl HSUC HPW
          go_wp2_with fail
          refine HW.out.mono ?_
          rintro e w15 ⟨rfl, hp15, _⟩
          have HP15 := Lib.hid hp15
          clear hp15 HW
          go_wp2_with fail
          go_roundw
          case rel => exact ⟨k + 1, by omega, by go_num, by rw [HSU.out]; exact HP15.out⟩
          case measure => simp [intOf]; omega
    · have hkn : k = rows.length := by omega
      subst hkn
      have h0 := (accB_zero ⟨gens, rows, bs⟩).symm
      simp only at h0
      rw [h0] at HP
      have k8 := HK1.out.below HP.out.below HLT.out
      have c2 : wr.cell? ⟨sb, 2, none⟩ = some (.slice bA bs.length bc) := k8.cell 2
      clear k8 h0
      go_wp2_with fail
      go_loopw [79] (fun i w' => ∃ k : Nat, k ≤ bs.length ∧ i = .int .i64 k ∧ PB w1 bb (accB ⟨gens, rows, bs⟩ k) w') (fun i _ => bs.length - (intOf i).toNat)
      case atStart => exact ⟨0, Nat.zero_le _, rfl, HP.out⟩
      case round =>
        clear HP c2
        obtain ⟨k, hk, rfl, hp⟩ := hrel
        have HP := Lib.hid hp
        clear hp
        by_cases hlt : k < bs.length
        · have hki : (k : Int) < bs.length := by omega
          obtain ⟨g, o, rfl, hgl, q1⟩ := BondsRd.at_ (HGG.out _ HP.out.below).2.2.2 (k := k) hlt
          have HRK := Lib.hid (HST.b bs[k] (List.getElem_mem hlt))
          have HSUC : Hid (accB ⟨gens, rows, bs⟩ (k + 1) = accB ⟨gens, rows, bs⟩ k ++ (bondLine bs[k] ++ [10])) := accB_succ ⟨gens, rows, bs⟩ hlt
          have HAL : Hid ((accB ⟨gens, rows, bs⟩ k).length ≤ 40000) := by
            have := accB_len HST (by assumption) k
            unfold Hid
            simp only at this
            omega
          generalize bs[k] = r at *
          generalize accB ⟨gens, rows, bs⟩ k = base at *
          obtain ⟨⟨x1, x2⟩, ⟨y1, y2⟩⟩ := r
          go_upto_region 22 with (fail)
          refine wp_abs (In (fun _ => False) wr [Box wr.heap.size 56 (ints [x1, x2, y1, y2])]) ((In.nil wr (fun _ => False)).struct 56 [0, 0, 0, 0] [x1, x2, y1, y2] rfl) ?_
          generalize wr.heap.size = xb
          intro w8 hI8
          have hk8 := hI8.blk
          have hp8 : PB w1 bb base w8 := HP.out.grow hI8.below0
          have e0 : w8.cell? ⟨xb, 0, none⟩ = some (.int .i64 x1) := hk8.cell 0
          have e1 : w8.cell? ⟨xb, 1, none⟩ = some (.int .i64 x2) := hk8.cell 1
          have e2 : w8.cell? ⟨xb, 2, none⟩ = some (.int .i64 y1) := hk8.cell 2
          have e3 : w8.cell? ⟨xb, 3, none⟩ = some (.int .i64 y2) := hk8.cell 3
          have hfit : ∀ x ∈ [x1, x2, y1, y2], Fits x := by
            intro x hx
            simp at hx
            obtain ⟨f1, f2, f3, f4⟩ := HRK.out
            rcases hx with rfl | rfl | rfl | rfl <;> assumption
          have HLN : Hid (Calls Tryz.prog 21 #[.string ⟨#[98, 111, 110, 100]⟩, .slice (some ⟨w8.heap.size, 0, none⟩) 4 4] (w8.alloc (.cells #[.int .i64 x1, .int .i64 x2, .int .i64 y1, .int .i64 y2] 3)) fun e w' => e = .returned (.string (mkS (bondLine ((x1, x2), (y1, y2))))) ∧ Below w8.heap.size w8 w') :=
            line_new wBond [x1, x2, y1, y2] 4 w8 (HGG.out _ hp8.below).1 hfit (by simp) (by decide)
          have hbl := bondLine_len (b := ((x1, x2), (y1, y2))) HRK.out
          have HP8 := Lib.hid hp8
          clear hp8 hk8 hI8 q1 HP hfit
          generalize bondLine ((x1, x2), (y1, y2)) = rl at *
          have hz1 : ¬ (9223372036854775807 < (mkS rl).size + 1) := by rw [mkS_size]; omega
          have HW : Hid (∀ W, PB w1 bb base W → Calls Tryz.prog 20 #[.pointer (some ⟨bb, 0, none⟩), .string (mkS rl ++ (⟨#[10]⟩ : ByteArray))] W fun e w' => e = .returned (.tuple #[.int .i64 (rl ++ [10]).length, .nilIface]) ∧ PB w1 bb (base ++ (rl ++ [10])) w' ∧ Lib.OthersKept 5 (some bb) W w') := fun W h => by
            have e : mkS rl ++ (⟨#[10]⟩ : ByteArray) = mkS (rl ++ [10]) := mkS_append _ [10]
            rw [e]
            exact write_any h _ (by have := HAL.out; simp only [List.length_append, List.length_cons, List.length_nil]; omega)
          go_wp2_with fail
          refine HLN.out.mono ?_
          rintro e w9 ⟨rfl, hb9⟩
          have HP9 := Lib.hid (HP8.out.grow hb9)
          clear hb9 HLN HP8 e0 e1 e2 e3
          go_wp2_with fail
          refine (HW.out _ HP9.out).mono ?_
          rintro e w10 ⟨rfl, hp10, _⟩
          rw [← HSUC.out] at hp10
          have HP10 := Lib.hid hp10
          clear hp10 HP9 HW
          go_wp2_with fail
          go_roundw
          case rel => exact ⟨k + 1, by omega, by go_num, HP10.out⟩
          case measure => simp [intOf]; omega
        · have hkn : k = bs.length := by omega
          subst hkn
          have h0 := accB_all ⟨gens, rows, bs⟩
          simp only at h0
          rw [h0] at HP
          have HSR := Lib.hid (str_any HP.out)
          clear h0
          go_wp2_with fail
          refine HSR.out.mono ?_
          rintro e w9 ⟨rfl, hb9⟩
          have HB9 := Lib.hid hb9
          clear hb9 HSR
          go_wp2_with fail
          go_ret2
          rw [HPR3.out]
          exact ⟨rfl, HEND.out _ HB9.out⟩

end Go.Proofs.YtpgcghnlepnoiaaGreatDoor
