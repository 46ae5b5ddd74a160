/-
  Several texts in one (merged by a program of mine): TextMath.
-/
import Derived.Test.YtpgcghnlepnoiaaGreatDoorTP26
import Derived.Lib.ItoaNum
import Derived.Lib.AtoiAll
import Derived.Lib.IndexMore
import Derived.Lib.Strings
set_option linter.unusedVariables false
set_option linter.unusedSimpArgs false
set_option linter.unusedSectionVars false
/-
  A state as text, as plain data: what is printed, what is parsed.
-/
namespace Go.Proofs.YtpgcghnlepnoiaaGreatDoor

abbrev Bs := List UInt8
def nums (l : List Int) : Bs := l.flatMap fun n => 32 :: Lib.itoa n
def kv (k : Nat) (x : Int) : Bs := Lib.itoa k ++ 61 :: Lib.itoa x
def kvs (b : Beast) : Bs := (kinds b.k.toNat).flatMap fun k => 32 :: kv k (b.v.getD k 0)
def wGens : Bs := [103, 101, 110, 115]
def wRow : Bs := [114, 111, 119]
def wBond : Bs := [98, 111, 110, 100]
def gensLine (g : List Int) : Bs := wGens ++ nums g
def rowLine (r : RowM) : Bs := wRow ++ nums [r.h.1, r.h.2] ++ kvs r.b
def bondLine (b : Hd × Hd) : Bs := wBond ++ nums [b.1.1, b.1.2, b.2.1, b.2.2]
def lnes (s : StM) : List Bs := gensLine s.gens :: (s.rows.map rowLine ++ s.bonds.map bondLine)
def textS (s : StM) : Bs := (lnes s).flatMap (· ++ [10])

/-! ### parsing -/
def linesOf : Bs → List Bs
  | [] => []
  | c :: l => if c = 10 then [10] :: linesOf l else match linesOf l with
    | [] => [[c]]
    | x :: r => (c :: x) :: r
def splitSp : Bs → List Bs
  | [] => [[]]
  | c :: l => if c = 32 then [] :: splitSp l else match splitSp l with
    | [] => [[c]]
    | x :: r => (c :: x) :: r
def numOf (w : Bs) : Int := match Lib.atoiAll w with
  | .ok v => v
  | .range => Lib.atoiSat w
  | _ => 0
def kvStep (b : Beast) (y : Bs) : Beast :=
  if 0 ≤ numOf (Lib.cut y [61]).1 ∧ numOf (Lib.cut y [61]).1 < 8 then ⟨((b.k.toNat ||| 2 ^ (numOf (Lib.cut y [61]).1).toNat : Nat) : Int), b.v.set (numOf (Lib.cut y [61]).1).toNat (numOf (Lib.cut y [61]).2.1)⟩ else b
def parseWords (s : StM) (w : List Bs) : StM :=
  if w.headD [] = wGens then ⟨(w.drop 1).map numOf, s.rows, s.bonds⟩
  else if w.headD [] = wRow ∧ 1 < (w.drop 1).length then ⟨s.gens, s.rows ++ [⟨(((w.drop 1).map numOf).getD 0 0, ((w.drop 1).map numOf).getD 1 0), (w.drop 3).foldl kvStep zeroBst⟩], s.bonds⟩
  else if w.headD [] = wBond ∧ (w.drop 1).length = 4 then ⟨s.gens, s.rows, s.bonds ++ [((((w.drop 1).map numOf).getD 0 0, ((w.drop 1).map numOf).getD 1 0), (((w.drop 1).map numOf).getD 2 0, ((w.drop 1).map numOf).getD 3 0))]⟩
  else s
def parseLine (s : StM) (x : Bs) : StM := parseWords s (splitSp (Lib.trimSuffix x [10]))
def stm0 : StM := ⟨[], [], []⟩
def parseT (t : Bs) : StM := (linesOf t).foldl parseLine stm0

/-! ### numerals -/
theorem parseUint_app : ∀ (a b : Bs) (acc : Nat), Lib.parseUint10 acc (a ++ b) = match Lib.parseUint10 acc a with
    | .ok x => Lib.parseUint10 x b
    | r => r
  | [], b, acc => rfl
  | c :: a, b, acc => by
    rw [List.cons_append, Lib.parseUint10, Lib.parseUint10]
    split
    · split
      · rfl
      · split
        · rfl
        · exact parseUint_app a b _
    · rfl
theorem digit_toNat {d : Nat} (h : d < 10) : (UInt8.ofNat (48 + d)).toNat = 48 + d := by
  rw [UInt8.toNat_ofNat']; omega
theorem decDigits_digit (u : Nat) : ∀ c ∈ Lib.decDigits u, 48 ≤ c.toNat ∧ c.toNat ≤ 57 := by
  induction u using Nat.strongRecOn with
  | _ u ih =>
    rw [Lib.decDigits]
    split
    · rename_i h
      intro c hc
      rw [List.mem_singleton] at hc
      rw [hc, digit_toNat h]; omega
    · rename_i h
      intro c hc
      rcases List.mem_append.1 hc with hc | hc
      · exact ih _ (by omega) c hc
      · rw [List.mem_singleton] at hc
        rw [hc, digit_toNat (by omega)]; omega
theorem decDigits_ne (u : Nat) : Lib.decDigits u ≠ [] := by
  rw [Lib.decDigits]
  split <;> simp
theorem parse_dec (u : Nat) (h : u < 18446744073709551616) : Lib.parseUint10 0 (Lib.decDigits u) = .ok u := by
  induction u using Nat.strongRecOn with
  | _ u ih =>
    rw [Lib.decDigits]
    split
    · rename_i h1
      rw [Lib.parseUint10, digit_toNat h1, if_pos (by omega), if_neg (by omega), if_neg (by omega), Lib.parseUint10]
      congr 1; omega
    · rename_i h1
      rw [parseUint_app, ih (u / 10) (by omega) (by omega)]
      simp only
      rw [Lib.parseUint10, digit_toNat (by omega), if_pos (by omega), if_neg (by omega), if_neg (by omega), Lib.parseUint10]
      congr 1; omega
theorem atoi_itoa {n : Int} (h0 : -9223372036854775808 ≤ n) (h1 : n ≤ 9223372036854775807) : Lib.atoiAll (Lib.itoa n) = .ok n := by
  unfold Lib.itoa
  split
  · rename_i hn
    unfold Lib.atoiAll
    have h45 : (45 : UInt8).toNat = 45 := rfl
    simp only [h45]
    have hm : Lib.parseMag (Lib.decDigits n.natAbs) = .ok n.natAbs := by
      unfold Lib.parseMag
      rw [if_neg (decDigits_ne _), parse_dec _ (by omega)]
    simp only [or_true, if_true]
    rw [hm]
    simp only [not_true, false_and, if_false, true_and]
    rw [if_neg (by omega)]
    congr 1; omega
  · rename_i hn
    have hm : Lib.parseMag (Lib.decDigits n.toNat) = .ok n.toNat := by
      unfold Lib.parseMag
      rw [if_neg (decDigits_ne _), parse_dec _ (by omega)]
    generalize hd : Lib.decDigits n.toNat = ds at *
    cases ds with
    | nil => exact absurd hd (decDigits_ne _)
    | cons c r =>
      have hc := decDigits_digit n.toNat c (by rw [hd]; exact List.mem_cons_self)
      unfold Lib.atoiAll
      simp only
      rw [if_neg (show ¬ (c.toNat = 43 ∨ c.toNat = 45) by omega), hm]
      simp only
      rw [if_neg (by omega), if_neg (by omega), if_neg (by omega)]
      congr 1; omega
theorem numOf_itoa {n : Int} (h : Fits n) : numOf (Lib.itoa n) = n := by
  unfold numOf
  rw [atoi_itoa h.1 h.2]
/-- a byte of a numeral -/
def numB (c : UInt8) : Prop := c ≠ 32 ∧ c ≠ 10 ∧ c ≠ 61
theorem itoa_bytes (n : Int) : ∀ c ∈ Lib.itoa n, numB c := by
  have hd : ∀ u, ∀ c ∈ Lib.decDigits u, numB c := fun u c hc => by
    have := decDigits_digit u c hc
    refine ⟨?_, ?_, ?_⟩ <;> (rintro rfl; revert this; decide)
  intro c hc
  unfold Lib.itoa at hc
  split at hc
  · rcases List.mem_cons.1 hc with rfl | hc
    · refine ⟨?_, ?_, ?_⟩ <;> decide
    · exact hd _ c hc
  · exact hd _ c hc

/-! ### splitting -/
theorem splitSp_ne (l : Bs) : splitSp l ≠ [] := by
  cases l with
  | nil => simp [splitSp]
  | cons c l =>
    unfold splitSp
    split
    · simp
    · split <;> simp
theorem splitSp_word : ∀ (w r : Bs), (∀ c ∈ w, c ≠ 32) → splitSp (w ++ 32 :: r) = w :: splitSp r
  | [], r, _ => by rw [List.nil_append, splitSp, if_pos rfl]
  | c :: w, r, h => by
    rw [List.cons_append, splitSp, if_neg (h c List.mem_cons_self), splitSp_word w r fun x hx => h x (List.mem_cons_of_mem _ hx)]
theorem splitSp_last : ∀ (w : Bs), (∀ c ∈ w, c ≠ 32) → splitSp w = [w]
  | [], _ => rfl
  | c :: w, h => by rw [splitSp, if_neg (h c List.mem_cons_self), splitSp_last w fun x hx => h x (List.mem_cons_of_mem _ hx)]
theorem splitSp_all : ∀ (w : Bs) (ws : List Bs), (∀ c ∈ w, c ≠ 32) → (∀ x ∈ ws, ∀ c ∈ x, c ≠ 32) → splitSp (w ++ ws.flatMap (32 :: ·)) = w :: ws
  | w, [], h, _ => by rw [List.flatMap_nil, List.append_nil, splitSp_last w h]
  | w, x :: ws, h, h2 => by
    rw [List.flatMap_cons, List.cons_append, splitSp_word w _ h, splitSp_all x ws (h2 x List.mem_cons_self) fun y hy => h2 y (List.mem_cons_of_mem _ hy)]
theorem linesOf_line : ∀ (x r : Bs), (∀ c ∈ x, c ≠ 10) → linesOf (x ++ 10 :: r) = (x ++ [10]) :: linesOf r
  | [], r, _ => by rw [List.nil_append, linesOf, if_pos rfl]; rfl
  | c :: x, r, h => by
    rw [List.cons_append, linesOf, if_neg (h c List.mem_cons_self), linesOf_line x r fun y hy => h y (List.mem_cons_of_mem _ hy)]
    rfl
theorem linesOf_all : ∀ (ls : List Bs), (∀ x ∈ ls, ∀ c ∈ x, c ≠ 10) → linesOf (ls.flatMap (· ++ [10])) = ls.map (· ++ [10])
  | [], _ => rfl
  | x :: ls, h => by
    rw [List.flatMap_cons, List.append_assoc, List.singleton_append, linesOf_line x _ (h x List.mem_cons_self), linesOf_all ls fun y hy => h y (List.mem_cons_of_mem _ hy), List.map_cons]
theorem trim_line (x : Bs) : Lib.trimSuffix (x ++ [10]) [10] = x := by
  unfold Lib.trimSuffix Lib.hasSuffix
  rw [if_pos (by rw [List.isSuffixOf_iff_suffix]; exact List.suffix_append _ _)]
  simp
theorem index_miss1 (c : UInt8) : ∀ (w : Bs), (∀ x ∈ w, x ≠ c) → Lib.index w [c] = -1
  | [], _ => rfl
  | x :: w, h => by
    have h1 : ([c] : Bs).isPrefixOf (x :: w) = false := by
      have := h x List.mem_cons_self
      simp [List.isPrefixOf, Ne.symm this]
    rw [Lib.index, h1, index_miss1 c w fun y hy => h y (List.mem_cons_of_mem _ hy)]
    rfl
theorem index_hit1 (c : UInt8) (r : Bs) : ∀ (w : Bs), (∀ x ∈ w, x ≠ c) → Lib.index (w ++ c :: r) [c] = w.length
  | [], _ => by
    have h1 : ([c] : Bs).isPrefixOf (c :: r) = true := by simp [List.isPrefixOf]
    rw [List.nil_append, Lib.index, if_pos h1]; rfl
  | x :: w, h => by
    have h1 : ([c] : Bs).isPrefixOf (x :: (w ++ c :: r)) = false := by
      have := h x List.mem_cons_self
      simp [List.isPrefixOf, Ne.symm this]
    have h2 := index_hit1 c r w fun y hy => h y (List.mem_cons_of_mem _ hy)
    rw [List.cons_append, Lib.index, h1, h2]
    have h3 : (((w.length : Nat) : Int) == -1) = false := by rw [beq_eq_false_iff_ne]; omega
    simp [h3]
theorem cut_kv (k : Nat) (x : Int) : Lib.cut (kv k x) [61] = (Lib.itoa k, Lib.itoa x, true) := by
  unfold kv Lib.cut
  rw [index_hit1 61 _ _ fun c hc => (itoa_bytes _ c hc).2.2, if_pos (by omega)]
  simp

/-! ### what was printed is parsed -/
theorem fits_nat {k : Nat} (h : k < 8) : Fits (k : Int) := ⟨by omega, by omega⟩
theorem kvStep_kv (b : Beast) (k : Nat) (hk : k < 8) (x : Int) (hx : Fits x) : kvStep b (kv k x) = ⟨((b.k.toNat ||| 2 ^ k : Nat) : Int), b.v.set k x⟩ := by
  unfold kvStep
  rw [cut_kv]
  simp only
  rw [numOf_itoa (fits_nat hk), numOf_itoa hx, if_pos ⟨by omega, by omega⟩]
  simp
theorem or_list : ∀ (l : List Nat) (a : Nat), (∀ k ∈ l, k < 8) → a < 256 → (l.foldl (fun m k => m ||| 2 ^ k) a) < 256 ∧ ∀ j, j < 8 → (l.foldl (fun m k => m ||| 2 ^ k) a).testBit j = (a.testBit j || decide (j ∈ l))
  | [], a, _, ha => ⟨ha, fun j _ => by simp⟩
  | k :: l, a, hl, ha => by
    have hk := hl k List.mem_cons_self
    have h1 := or_list l (a ||| 2 ^ k) (fun x hx => hl x (List.mem_cons_of_mem _ hx)) (or_bits a k 0 ha hk (by omega)).2
    rw [List.foldl_cons]
    refine ⟨h1.1, fun j hj => ?_⟩
    rw [h1.2 j hj, (or_bits a k j ha hk hj).1]
    by_cases e : k = j
    · subst e; simp
    · have e' : ¬ j = k := fun h => e h.symm
      simp [e, e']
theorem fold_kv (v : List Int) : ∀ (l : List Nat) (b : Beast), (∀ k ∈ l, k < 8 ∧ Fits (v.getD k 0)) → (l.map fun k => kv k (v.getD k 0)).foldl kvStep b = ⟨(((l.foldl (fun m k => m ||| 2 ^ k) b.k.toNat : Nat)) : Int), l.foldl (fun u k => u.set k (v.getD k 0)) b.v⟩ ∨ l = []
  | [], b, _ => Or.inr rfl
  | [k], b, h => by
    left
    rw [List.map_cons, List.map_nil, List.foldl_cons, List.foldl_nil, kvStep_kv b k (h k List.mem_cons_self).1 _ (h k List.mem_cons_self).2]
    rfl
  | k :: k' :: l, b, h => by
    left
    rcases fold_kv v (k' :: l) ⟨((b.k.toNat ||| 2 ^ k : Nat) : Int), b.v.set k (v.getD k 0)⟩ fun x hx => h x (List.mem_cons_of_mem _ hx) with h1 | h1
    · rw [List.map_cons, List.foldl_cons, kvStep_kv b k (h k List.mem_cons_self).1 _ (h k List.mem_cons_self).2, h1]
      simp only [Int.toNat_natCast]
      rfl
    · cases h1
theorem foldset_getD (v : List Int) : ∀ (l : List Nat) (u : List Int), u.length = 8 → (∀ k ∈ l, k < 8) → (l.foldl (fun u k => u.set k (v.getD k 0)) u).length = 8 ∧ ∀ j, (l.foldl (fun u k => u.set k (v.getD k 0)) u).getD j 0 = if j ∈ l then v.getD j 0 else u.getD j 0
  | [], u, hu, _ => ⟨hu, fun j => by simp⟩
  | k :: l, u, hu, hl => by
    have hk := hl k List.mem_cons_self
    obtain ⟨h1, h2⟩ := foldset_getD v l (u.set k (v.getD k 0)) (by rw [List.length_set, hu]) fun x hx => hl x (List.mem_cons_of_mem _ hx)
    rw [List.foldl_cons]
    refine ⟨h1, fun j => ?_⟩
    rw [h2 j, getD_set8 hu hk]
    by_cases e : j ∈ l
    · rw [if_pos e, if_pos (List.mem_cons_of_mem _ e)]
    · rw [if_neg e]
      by_cases e2 : j = k
      · subst e2; rw [if_pos rfl, if_pos List.mem_cons_self]
      · rw [if_neg e2, if_neg (by simp [e, e2])]
theorem beast_back (b : Beast) (hb : beastErr b = 0) (hv : b.v.length = 8) : ((kinds b.k.toNat).map fun k => kv k (b.v.getD k 0)).foldl kvStep zeroBst = b := by
  obtain ⟨h1, h2⟩ := (beast_iff b).1 hb
  have hl : ∀ k ∈ kinds b.k.toNat, k < 8 ∧ Fits (b.v.getD k 0) := fun k hk => by
    have := (mem_kinds _ _).1 hk
    have := (h2 k this.1).2
    exact ⟨by omega, ⟨by omega, by omega⟩⟩
  have hl8 : ∀ k ∈ kinds b.k.toNat, k < 8 := fun k hk => (hl k hk).1
  have hor := or_list (kinds b.k.toNat) 0 hl8 (by omega)
  have hset := foldset_getD b.v (kinds b.k.toNat) [0, 0, 0, 0, 0, 0, 0, 0] rfl hl8
  have e1 : (kinds b.k.toNat).foldl (fun m k => m ||| 2 ^ k) 0 = b.k.toNat := by
    apply Nat.eq_of_testBit_eq
    intro j
    by_cases hj : j < 8
    · rw [hor.2 j hj, Nat.zero_testBit, Bool.false_or]
      have := mem_kinds b.k.toNat j
      cases hb : b.k.toNat.testBit j
      · rw [decide_eq_false]
        intro hm
        rw [(this.1 hm).2] at hb; cases hb
      · exact decide_eq_true (this.2 ⟨hj, hb⟩)
    · have hp : (256 : Nat) ≤ 2 ^ j := by
        have := Nat.pow_le_pow_right (show 0 < 2 by decide) (show 8 ≤ j by omega)
        omega
      rw [Nat.testBit_lt_two_pow (by omega), Nat.testBit_lt_two_pow (by omega)]
  have e2 : (kinds b.k.toNat).foldl (fun u k => u.set k (b.v.getD k 0)) [0, 0, 0, 0, 0, 0, 0, 0] = b.v := by
    apply List.ext_getElem (by rw [hset.1, hv])
    intro j g1 g2
    have h3 := hset.2 j
    rw [List.getD_eq_getElem?_getD, List.getElem?_eq_getElem g1] at h3
    simp only [Option.getD_some] at h3
    rw [h3]
    have hg : b.v.getD j 0 = b.v[j] := by simp [List.getD, g2]
    by_cases hm : j ∈ kinds b.k.toNat
    · rw [if_pos hm, hg]
    · rw [if_neg hm, ← hg]
      have hj : j < 8 := by omega
      have h0 : b.k.toNat.testBit j = false := by
        cases hb : b.k.toNat.testBit j
        · rfl
        · exact absurd ((mem_kinds _ _).2 ⟨hj, hb⟩) hm
      rw [(h2 j hj).1 h0]
      have : j = 0 ∨ j = 1 ∨ j = 2 ∨ j = 3 ∨ j = 4 ∨ j = 5 ∨ j = 6 ∨ j = 7 := by omega
      rcases this with rfl | rfl | rfl | rfl | rfl | rfl | rfl | rfl <;> rfl
  rcases fold_kv b.v (kinds b.k.toNat) zeroBst hl with h | h
  · rw [h]
    show (⟨_, _⟩ : Beast) = b
    have e0 : zeroBst.k.toNat = 0 := rfl
    have e3 : zeroBst.v = [0, 0, 0, 0, 0, 0, 0, 0] := rfl
    rw [e0, e1, e3, e2]
    have : ((b.k.toNat : Nat) : Int) = b.k := by omega
    rw [this]
  · rw [h] at e1 e2 ⊢
    show zeroBst = b
    unfold zeroBst
    rw [List.foldl_nil] at e1 e2
    rw [e2]
    have : b.k = 0 := by omega
    rw [← this]
/-- the ints of a state fit -/
structure StOk (s : StM) : Prop where
  g : ∀ x ∈ s.gens, Fits x
  r : ∀ r ∈ s.rows, Fits r.h.1 ∧ Fits r.h.2 ∧ beastErr r.b = 0 ∧ r.b.v.length = 8
  b : ∀ b ∈ s.bonds, Fits b.1.1 ∧ Fits b.1.2 ∧ Fits b.2.1 ∧ Fits b.2.2
theorem nums_flat (l : List Int) : nums l = (l.map Lib.itoa).flatMap (32 :: ·) := by unfold nums; rw [List.flatMap_map]
theorem kvs_flat (b : Beast) : kvs b = ((kinds b.k.toNat).map fun k => kv k (b.v.getD k 0)).flatMap (32 :: ·) := by unfold kvs; rw [List.flatMap_map]
theorem kv_bytes (k : Nat) (x : Int) : ∀ c ∈ kv k x, c ≠ 32 ∧ c ≠ 10 := by
  intro c hc
  unfold kv at hc
  rcases List.mem_append.1 hc with hc | hc
  · exact ⟨(itoa_bytes _ c hc).1, (itoa_bytes _ c hc).2.1⟩
  · rcases List.mem_cons.1 hc with rfl | hc
    · decide
    · exact ⟨(itoa_bytes _ c hc).1, (itoa_bytes _ c hc).2.1⟩
theorem map_num {l : List Int} (h : ∀ x ∈ l, Fits x) : (l.map Lib.itoa).map numOf = l := by
  rw [List.map_map]
  conv => rhs; rw [← List.map_id l]
  exact List.map_congr_left fun x hx => numOf_itoa (h x hx)
theorem itoa_sp (l : List Int) : ∀ x ∈ l.map Lib.itoa, ∀ c ∈ x, c ≠ 32 := fun x hx c hc => by
  obtain ⟨n, _, rfl⟩ := List.mem_map.1 hx
  exact (itoa_bytes n c hc).1
theorem parse_gens (s : StM) (g : List Int) (h : ∀ x ∈ g, Fits x) : parseLine s (gensLine g ++ [10]) = ⟨g, s.rows, s.bonds⟩ := by
  unfold parseLine gensLine
  rw [trim_line, nums_flat, splitSp_all wGens _ (by decide) (itoa_sp g)]
  unfold parseWords
  rw [List.headD_cons, if_pos rfl, List.drop_succ_cons, List.drop_zero, map_num h]
theorem parse_row (s : StM) (r : RowM) (h : Fits r.h.1 ∧ Fits r.h.2 ∧ beastErr r.b = 0 ∧ r.b.v.length = 8) : parseLine s (rowLine r ++ [10]) = ⟨s.gens, s.rows ++ [r], s.bonds⟩ := by
  unfold parseLine rowLine
  rw [trim_line, nums_flat, kvs_flat, List.append_assoc, ← List.flatMap_append, splitSp_all wRow _ (by decide) (fun x hx => ?_)]
  · unfold parseWords
    rw [List.headD_cons, if_neg (by decide), if_pos ⟨rfl, by simp⟩]
    have e1 : (wRow :: (([r.h.1, r.h.2].map Lib.itoa) ++ (kinds r.b.k.toNat).map fun k => kv k (r.b.v.getD k 0))).drop 3 = (kinds r.b.k.toNat).map fun k => kv k (r.b.v.getD k 0) := rfl
    rw [e1, beast_back r.b h.2.2.1 h.2.2.2]
    have e2 : ((wRow :: (([r.h.1, r.h.2].map Lib.itoa) ++ (kinds r.b.k.toNat).map fun k => kv k (r.b.v.getD k 0))).drop 1).map numOf = numOf (Lib.itoa r.h.1) :: numOf (Lib.itoa r.h.2) :: ((kinds r.b.k.toNat).map fun k => kv k (r.b.v.getD k 0)).map numOf := rfl
    rw [e2, numOf_itoa h.1, numOf_itoa h.2.1]
    rfl
  · rcases List.mem_append.1 hx with hx | hx
    · exact itoa_sp _ x hx
    · obtain ⟨k, _, rfl⟩ := List.mem_map.1 hx
      exact fun c hc => (kv_bytes _ _ c hc).1
theorem parse_bond (s : StM) (b : Hd × Hd) (h : Fits b.1.1 ∧ Fits b.1.2 ∧ Fits b.2.1 ∧ Fits b.2.2) : parseLine s (bondLine b ++ [10]) = ⟨s.gens, s.rows, s.bonds ++ [b]⟩ := by
  unfold parseLine bondLine
  rw [trim_line, nums_flat, splitSp_all wBond _ (by decide) (itoa_sp _)]
  unfold parseWords
  rw [List.headD_cons, if_neg (by decide), if_neg (fun h => absurd h.1 (by decide)), if_pos ⟨rfl, by simp⟩, List.drop_succ_cons, List.drop_zero, map_num (by simpa using h)]
  rfl
theorem fold_rows : ∀ (l : List RowM) (s : StM), (∀ r ∈ l, Fits r.h.1 ∧ Fits r.h.2 ∧ beastErr r.b = 0 ∧ r.b.v.length = 8) → ((l.map rowLine).map (· ++ [10])).foldl parseLine s = ⟨s.gens, s.rows ++ l, s.bonds⟩
  | [], s, _ => by simp
  | r :: l, s, h => by
    rw [List.map_cons, List.map_cons, List.foldl_cons, parse_row s r (h r List.mem_cons_self), fold_rows l _ fun x hx => h x (List.mem_cons_of_mem _ hx)]
    simp
theorem fold_bonds : ∀ (l : List (Hd × Hd)) (s : StM), (∀ b ∈ l, Fits b.1.1 ∧ Fits b.1.2 ∧ Fits b.2.1 ∧ Fits b.2.2) → ((l.map bondLine).map (· ++ [10])).foldl parseLine s = ⟨s.gens, s.rows, s.bonds ++ l⟩
  | [], s, _ => by simp
  | r :: l, s, h => by
    rw [List.map_cons, List.map_cons, List.foldl_cons, parse_bond s r (h r List.mem_cons_self), fold_bonds l _ fun x hx => h x (List.mem_cons_of_mem _ hx)]
    simp
theorem nums_bytes (l : List Int) : ∀ c ∈ nums l, c ≠ 10 := by
  intro c hc
  unfold nums at hc
  obtain ⟨n, _, hc⟩ := List.mem_flatMap.1 hc
  rcases List.mem_cons.1 hc with rfl | hc
  · decide
  · exact (itoa_bytes n c hc).2.1
theorem kvs_bytes (b : Beast) : ∀ c ∈ kvs b, c ≠ 10 := by
  intro c hc
  unfold kvs at hc
  obtain ⟨k, _, hc⟩ := List.mem_flatMap.1 hc
  rcases List.mem_cons.1 hc with rfl | hc
  · decide
  · exact (kv_bytes _ _ c hc).2
theorem word_bytes : ∀ c : UInt8, c ∈ wGens ∨ c ∈ wRow ∨ c ∈ wBond → c ≠ 10 := by
  have h1 : ∀ c ∈ wGens, c ≠ 10 := by decide
  have h2 : ∀ c ∈ wRow, c ≠ 10 := by decide
  have h3 : ∀ c ∈ wBond, c ≠ 10 := by decide
  rintro c (h | h | h)
  · exact h1 c h
  · exact h2 c h
  · exact h3 c h
theorem lnes_bytes (s : StM) : ∀ x ∈ lnes s, ∀ c ∈ x, c ≠ 10 := by
  intro x hx c hc
  unfold lnes at hx
  rcases List.mem_cons.1 hx with rfl | hx
  · rcases List.mem_append.1 hc with hc | hc
    · exact word_bytes c (by first | exact Or.inl hc | exact Or.inr (Or.inl hc) | exact Or.inr (Or.inr hc))
    · exact nums_bytes _ c hc
  · rcases List.mem_append.1 hx with hx | hx
    · obtain ⟨r, _, rfl⟩ := List.mem_map.1 hx
      rcases List.mem_append.1 hc with hc | hc
      · rcases List.mem_append.1 hc with hc | hc
        · exact word_bytes c (by first | exact Or.inl hc | exact Or.inr (Or.inl hc) | exact Or.inr (Or.inr hc))
        · exact nums_bytes _ c hc
      · exact kvs_bytes _ c hc
    · obtain ⟨r, _, rfl⟩ := List.mem_map.1 hx
      rcases List.mem_append.1 hc with hc | hc
      · exact word_bytes c (by first | exact Or.inl hc | exact Or.inr (Or.inl hc) | exact Or.inr (Or.inr hc))
      · exact nums_bytes _ c hc
/-- THE TEXT OF A STATE IS PARSED AS THAT STATE -/
theorem parse_text (s : StM) (h : StOk s) : parseT (textS s) = s := by
  unfold parseT textS
  rw [linesOf_all _ (lnes_bytes s)]
  unfold lnes
  rw [List.map_cons, List.foldl_cons, parse_gens _ _ h.g, List.map_append, List.foldl_append, fold_rows _ _ h.r, fold_bonds _ _ h.b]
  rfl
/-- it ends with a line's end -/
theorem text_ends (s : StM) : ∃ l, textS s = l ++ [10] := by
  unfold textS
  have hne : lnes s ≠ [] := by unfold lnes; simp
  have e := List.dropLast_concat_getLast hne
  refine ⟨(lnes s).dropLast.flatMap (· ++ [10]) ++ (lnes s).getLast hne, ?_⟩
  conv => lhs; rw [← e]
  rw [List.flatMap_append, List.append_assoc]
  simp
theorem count_lines : ∀ (ls : List Bs), (∀ x ∈ ls, ∀ c ∈ x, c ≠ 10) → (ls.flatMap (· ++ [10])).count 10 = ls.length
  | [], _ => rfl
  | x :: ls, h => by
    have h0 : x.count 10 = 0 := List.count_eq_zero.2 fun hm => h x List.mem_cons_self 10 hm rfl
    rw [List.flatMap_cons, List.count_append, List.count_append, count_lines ls fun y hy => h y (List.mem_cons_of_mem _ hy), h0, List.length_cons]
    simp; omega
theorem text_count (s : StM) : (textS s).count 10 = 1 + s.rows.length + s.bonds.length := by
  unfold textS
  rw [count_lines _ (lnes_bytes s)]
  unfold lnes
  simp; omega

end Go.Proofs.YtpgcghnlepnoiaaGreatDoor
