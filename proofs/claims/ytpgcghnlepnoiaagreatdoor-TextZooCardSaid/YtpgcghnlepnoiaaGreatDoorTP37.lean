/-
  Several texts in one (merged by a program of mine): TextHeld, TextParse, TextParse2, TextTold, TextSame, TextBack, TextLinesLaw, TextZoo.
-/
import Derived.Test.YtpgcghnlepnoiaaGreatDoorTP36
import Derived.OrdersHeld
set_option linter.unusedVariables false
set_option linter.unusedSimpArgs false
set_option linter.unusedSectionVars false
/-
  A drawn region within a round: reads in text order, whatever is allocated between them; the rest by hand.
-/
namespace Go.Proofs.YtpgcghnlepnoiaaGreatDoor
open Go.RowKit

/-- the operations, in text order, yield in every world that meets S -/
def readsIf (P : Program) (ops : Array Oper) (S : World → Prop) (K : Act → Prop) : List Oper → Act → Prop
  | [], a => K a
  | o :: l, a => ∃ v, (Region.wanted o (yielded ops a.tmps) = true ∧ ∀ w, S w → (execOp a.eval o).run P w = .ok (.value v) w) ∧ readsIf P ops S K l (a.put o.dst v)
theorem readsIf_step {P : Program} {ops : Array Oper} {S : World → Prop} {K : Act → Prop} {o : Oper} {l : List Oper} {a : Act} {v : Value} (hw : Region.wanted o (yielded ops a.tmps) = true) (hv : ∀ w, S w → (execOp a.eval o).run P w = .ok (.value v) w)
    (h : readsIf P ops S K l (a.put o.dst v)) : readsIf P ops S K (o :: l) a := ⟨v, ⟨hw, hv⟩, h⟩
def orderB (ops : Array Oper) : Nat → Nat → Array Bool → Bool
  | 0, _, _ => true
  | n + 1, k, listed => Region.free .any ops listed k && (Region.ready .any ops listed).contains k && orderB ops n (k + 1) (listed.setIfInBounds k true)
def markN' : Nat → Nat → Array Bool → Array Bool
  | 0, _, listed => listed
  | n + 1, k, listed => markN' n (k + 1) (listed.setIfInBounds k true)
theorem held_reads {P : Program} {ops : Array Oper} {Q : Exit → Act → World → Prop} {S : World → Prop} {w : World} (hsel : Region.noSelect ops = true) (hQ : ∀ c a w, ¬ Q (.panic c) a w) (hS : S w) (fuel : Nat) :
    ∀ (l : List Oper) (k : Nat) (listed : Array Bool) (a : Act), (∀ j, j < l.length → ops[k + j]? = l[j]?) → orderB ops l.length k listed = true →
      readsIf P ops S (fun a' => wpAnyH P .any ops Q S fuel (markN' l.length k listed) a' w) l a → wpAnyH P .any ops Q S (l.length + fuel) listed a w
  | [], k, listed, a, _, _, h => by
    rw [List.length_nil, Nat.zero_add]
    exact h
  | o :: l, k, listed, a, hl, hb, h => by
    obtain ⟨v, hv, h⟩ := h
    rw [List.length_cons, orderB] at hb
    rw [Bool.and_eq_true, Bool.and_eq_true] at hb
    have h0 : ops[k]? = some o := by have := hl 0 (by simp); simpa using this
    rw [List.length_cons, Nat.add_right_comm]
    refine wpAnyH_take h0 hsel hb.1.1 hb.1.2 (fun c a w h => absurd h (hQ _ _ _)) (Or.inl hv) hS ?_
    refine held_reads hsel hQ hS fuel l (k + 1) _ _ (fun j hj => ?_) hb.2 h
    have := hl (j + 1) (by simp; omega)
    rw [List.getElem?_cons_succ] at this
    rw [← this]
    congr 1
    omega
/-- an allocation, then a last store -/
theorem wpIn_round_held {P : Program} {id lp m : Nat} {Q : Exit → Act → World → Prop} {a : Act} {w : World} {l : List Oper} (S : World → Prop) (n : Nat) (hm : P.follows .mixedOrders = true) (hd : noDefer l = true) (hno : ¬ LetsOut Q) (hsel : Region.noSelect l.toArray = true)
    (hQ : ∀ c a w, ¬ Q (.panic c) a w) (hn : n ≤ l.length) (hb : orderB l.toArray n 0 (Array.replicate l.toArray.size false) = true) (hS : S w.drew)
    (h : readsIf P l.toArray S (fun a' => wpAnyH P .any l.toArray Q S (l.length - n) (markN' n 0 (Array.replicate l.toArray.size false)) a' w.drew) (l.take n) a) : (Code.region id l.toArray true).wpIn (Fence.wide.inRound lp) m P Q a w := by
  refine wpIn_region_any hm (wpAny_round lp m (noDefer_spec hd) hno _ _ _ _ (wpAny_of_held (S := S) _ _ _ _ ?_))
  have hl : (l.take n).length = n := by rw [List.length_take]; omega
  have hsz : l.toArray.size = (l.take n).length + (l.length - n) := by rw [hl]; simp; omega
  have h1 := held_reads (P := P) (ops := l.toArray) (Q := Q) (S := S) (w := w.drew) hsel hQ hS (l.length - n) (l.take n) 0 (Array.replicate l.toArray.size false) a (fun j hj => by
    rw [hl] at hj
    rw [List.getElem?_take_of_lt hj, Nat.zero_add]
    simp) (by rw [hl]; exact hb) (by rw [hl]; exact h)
  rw [← hsz] at h1
  exact h1
/-- the same for operations in an order of one's own, not all that come before the first allocation -/
def readsAt (P : Program) (ops : Array Oper) (S : World → Prop) (K : Act → Prop) : List Nat → Act → Prop
  | [], a => K a
  | i :: l, a => ∃ o v, ops[i]? = some o ∧ (Region.wanted o (yielded ops a.tmps) = true ∧ ∀ w, S w → (execOp a.eval o).run P w = .ok (.value v) w) ∧ readsAt P ops S K l (a.put o.dst v)
theorem readsAt_step {P : Program} {ops : Array Oper} {S : World → Prop} {K : Act → Prop} {i : Nat} {o : Oper} {l : List Nat} {a : Act} {v : Value} (hi : ops[i]? = some o) (hw : Region.wanted o (yielded ops a.tmps) = true) (hv : ∀ w, S w → (execOp a.eval o).run P w = .ok (.value v) w)
    (h : readsAt P ops S K l (a.put o.dst v)) : readsAt P ops S K (i :: l) a := ⟨o, v, hi, ⟨hw, hv⟩, h⟩
theorem readsAt_stepL {P : Program} {ops : Array Oper} {l' : List Oper} (hops : l'.toArray = ops) {S : World → Prop} {K : Act → Prop} {i : Nat} {o : Oper} {l : List Nat} {a : Act} {v : Value} (hi : l'[i]? = some o) (hw : Region.wanted o (yielded ops a.tmps) = true) (hv : ∀ w, S w → (execOp a.eval o).run P w = .ok (.value v) w)
    (h : readsAt P ops S K l (a.put o.dst v)) : readsAt P ops S K (i :: l) a := readsAt_step (by subst hops; simpa using hi) hw hv h
def orderAt (ops : Array Oper) : List Nat → Array Bool → Bool
  | [], _ => true
  | i :: l, listed => Region.free .any ops listed i && (Region.ready .any ops listed).contains i && orderAt ops l (listed.setIfInBounds i true)
def markAt : List Nat → Array Bool → Array Bool
  | [], listed => listed
  | i :: l, listed => markAt l (listed.setIfInBounds i true)
theorem held_readsAt {P : Program} {ops : Array Oper} {Q : Exit → Act → World → Prop} {S : World → Prop} {w : World} (hsel : Region.noSelect ops = true) (hQ : ∀ c a w, ¬ Q (.panic c) a w) (hS : S w) (fuel : Nat) :
    ∀ (l : List Nat) (listed : Array Bool) (a : Act), orderAt ops l listed = true →
      readsAt P ops S (fun a' => wpAnyH P .any ops Q S fuel (markAt l listed) a' w) l a → wpAnyH P .any ops Q S (l.length + fuel) listed a w
  | [], listed, a, _, h => by
    rw [List.length_nil, Nat.zero_add]
    exact h
  | i :: l, listed, a, hb, h => by
    obtain ⟨o, v, h0, hv, h⟩ := h
    rw [orderAt] at hb
    rw [Bool.and_eq_true, Bool.and_eq_true] at hb
    rw [List.length_cons, Nat.add_right_comm]
    refine wpAnyH_take h0 hsel hb.1.1 hb.1.2 (fun c a w h => absurd h (hQ _ _ _)) (Or.inl hv) hS ?_
    exact held_readsAt hsel hQ hS fuel l _ _ hb.2 h
theorem wpIn_round_heldAt {P : Program} {id lp m : Nat} {Q : Exit → Act → World → Prop} {a : Act} {w : World} {l : List Oper} (S : World → Prop) (is : List Nat) (hm : P.follows .mixedOrders = true) (hd : noDefer l = true) (hno : ¬ LetsOut Q) (hsel : Region.noSelect l.toArray = true)
    (hQ : ∀ c a w, ¬ Q (.panic c) a w) (hn : is.length ≤ l.length) (hb : orderAt l.toArray is (Array.replicate l.toArray.size false) = true) (hS : S w.drew)
    (h : readsAt P l.toArray S (fun a' => wpAnyH P .any l.toArray Q S (l.length - is.length) (markAt is (Array.replicate l.toArray.size false)) a' w.drew) is a) : (Code.region id l.toArray true).wpIn (Fence.wide.inRound lp) m P Q a w := by
  refine wpIn_region_any hm (wpAny_round lp m (noDefer_spec hd) hno _ _ _ _ (wpAny_of_held (S := S) _ _ _ _ ?_))
  have hsz : l.toArray.size = is.length + (l.length - is.length) := by simp; omega
  have h1 := held_readsAt (P := P) (ops := l.toArray) (Q := Q) (S := S) (w := w.drew) hsel hQ hS (l.length - is.length) is (Array.replicate l.toArray.size false) a hb h
  rw [← hsz] at h1
  exact h1
/-- .. with the operations under a name -/
theorem wpIn_round_heldAs {P : Program} {id lp m : Nat} {Q : Exit → Act → World → Prop} {a : Act} {w : World} {l : List Oper} (S : World → Prop) (is : List Nat) (f : Nat) (M : Array Bool) (hm : P.follows .mixedOrders = true) (hd : noDefer l = true) (hno : ¬ LetsOut Q) (hsel : Region.noSelect l.toArray = true)
    (hQ : ∀ c a w, ¬ Q (.panic c) a w) (hn : is.length + f = l.length) (hb : orderAt l.toArray is (Array.replicate l.toArray.size false) = true) (hM : markAt is (Array.replicate l.toArray.size false) = M) (hS : S w.drew)
    (h : ∀ ops, l.toArray = ops → readsAt P ops S (fun a' => wpAnyH P .any ops Q S f M a' w.drew) is a) : (Code.region id l.toArray true).wpIn (Fence.wide.inRound lp) m P Q a w := by
  refine wpIn_round_heldAt S is hm hd hno hsel hQ (by omega) hb hS ?_
  rw [hM, show l.length - is.length = f from by omega]
  exact h _ rfl
theorem wpOp_do {P : Program} {ops : Array Oper} {Q : Exit → Act → World → Prop} {i : Nat} {o : Oper} {K : Act → World → Prop} {a : Act} {w : World} {l : List Oper} (hops : l.toArray = ops) (hi : l[i]? = some o) (hg : o.guard = none) (h : o.wp P a w K Q) : wpOp P ops Q i K a w := by
  unfold wpOp
  rw [show ops[i]? = some o from by subst hops; simpa using hi]
  simp only
  rw [if_pos (by simp [Region.wanted, hg])]
  exact Or.inl h
theorem wp_val {P : Program} {o : Oper} {a : Act} {w w' : World} {K : Act → World → Prop} {Q : Exit → Act → World → Prop} {v : Value} (h : (execOp a.eval o).run P w = .ok (.value v) w') (hK : K (a.put o.dst v) w') : o.wp P a w K Q := by
  unfold Oper.wp
  rw [h]
  exact hK
theorem wp_none {P : Program} {o : Oper} {a : Act} {w w' : World} {K : Act → World → Prop} {Q : Exit → Act → World → Prop} (h : (execOp a.eval o).run P w = .ok .skip w') (hK : K (a.put o.dst undef) w') : o.wp P a w K Q := by
  unfold Oper.wp
  rw [h]
  exact hK

end Go.Proofs.YtpgcghnlepnoiaaGreatDoor

/-
  The contract of text.parse.
-/
namespace Go.Proofs.YtpgcghnlepnoiaaGreatDoor
open Go.RowKit
attribute [local go_sem] Oper.semAt_some

/-- what has been parsed so far -/
def ParsedTo (S : StM) (st : Nat) (t : Bs) (L : List Assn) : Prop := ∃ (s : StM) (v1 v2 v3 : Value), L = [Box st 26 #[v1, v2, v3], IntsA v1 s.gens, RowsA v2 s.rows, RowB v3 s.bonds] ∧
  (linesOf t).foldl parseLine s = S ∧ s.rows.length + s.bonds.length + t.length ≤ 6000 ∧ ∀ r ∈ s.rows, r.b.v.length = 8
def strs (ws : List Bs) : Array Value := (ws.map fun z => Value.string (mkS z)).toArray
theorem splitSp_len : ∀ (y : Bs), (splitSp y).length ≤ y.length + 1 ∧ ∀ z ∈ splitSp y, z.length ≤ y.length
  | [] => ⟨Nat.le_refl _, by simp [splitSp]⟩
  | c :: y => by
    obtain ⟨h1, h2⟩ := splitSp_len y
    unfold splitSp
    split
    · refine ⟨by simp; omega, fun z hz => ?_⟩
      rcases List.mem_cons.1 hz with rfl | hz
      · simp
      · have := h2 z hz; simp; omega
    · split
      · rename_i h; rw [h] at h1 h2; exact ⟨by simp, fun z hz => by rw [List.mem_singleton] at hz; subst hz; simp⟩
      · rename_i x r h
        rw [h] at h1 h2
        refine ⟨by simp at h1 ⊢; omega, fun z hz => ?_⟩
        rcases List.mem_cons.1 hz with rfl | hz
        · have := h2 x List.mem_cons_self; simp; omega
        · have := h2 z (List.mem_cons_of_mem _ hz); simp; omega
theorem split_any (y : Bs) (hy : y.length ≤ 6000) (W : World) (hG : Globs W) : Calls Tryz.prog 49 #[.string (mkS y), .string ⟨#[32]⟩] W fun e w' =>
    e = .returned (.slice (some ⟨W.heap.size, 0, none⟩) (splitSp y).length (splitSp y).length) ∧ w' = W.alloc (.cells (strs (splitSp y)) 9) := by
  obtain ⟨m, hm⟩ := hG.max
  obtain ⟨h1, h2⟩ := split_sp y.length y (Nat.le_refl _)
  refine (Tryz.strings_Split (mkS y) (mkS [32]) m W (by rw [mkS_size]; omega) hm (by decide)).mono ?_
  rintro e w' ⟨he, hw⟩
  rw [h2] at he
  rw [h1, List.map_map] at hw
  exact ⟨he, hw⟩
theorem linesOf_ne : ∀ (t : Bs), ∀ z ∈ linesOf t, z ≠ []
  | [], z, h => by simp [linesOf] at h
  | c :: t, z, h => by
    unfold linesOf at h
    split at h
    · rcases List.mem_cons.1 h with rfl | h
      · simp
      · exact linesOf_ne t z h
    · split at h
      · rw [List.mem_singleton] at h; subst h; simp
      · rename_i x r hr
        rcases List.mem_cons.1 h with rfl | h
        · simp
        · exact linesOf_ne t z (by rw [hr]; exact List.mem_cons_of_mem _ h)
theorem eq_bytes (a b : Bs) : ((mkS a).toList == b) = decide (a = b) := by
  have h : (mkS a).toList = a := by rw [ByteArray.toList_eq]; rfl
  rw [h]
  by_cases e : a = b
  · subst e; simp
  · simp [e]
theorem bytes_no {a b : Bs} (h : ¬ a = b) : ((mkS a).toList == b) = false ∧ ¬ ((mkS a).toList = b) := by
  have h1 : (mkS a).toList = a := by rw [ByteArray.toList_eq]; rfl
  rw [h1]
  exact ⟨by simpa using h, h⟩
theorem bytes_yes {a b : Bs} (h : a = b) : (mkS a).toList = b := by
  have h1 : (mkS a).toList = a := by rw [ByteArray.toList_eq]; rfl
  rw [h1]; exact h
theorem parseWords_cons (s : StM) (hd : Bs) (tl : List Bs) : parseWords s (hd :: tl) = if hd = wGens then ⟨tl.map numOf, s.rows, s.bonds⟩
    else if hd = wRow ∧ 1 < tl.length then ⟨s.gens, s.rows ++ [⟨((tl.map numOf).getD 0 0, (tl.map numOf).getD 1 0), (tl.drop 2).foldl kvStep zeroBst⟩], s.bonds⟩
    else if hd = wBond ∧ tl.length = 4 then ⟨s.gens, s.rows, s.bonds ++ [(((tl.map numOf).getD 0 0, (tl.map numOf).getD 1 0), ((tl.map numOf).getD 2 0, (tl.map numOf).getD 3 0))]⟩ else s := rfl
theorem In.rowForm {F : Nat → Prop} {w0 w : World} {l : List Assn} {E : TypeId} {size n : Nat} {v : Value} {xs : List Value} (h : In F w0 (RowA E size v n xs :: l) w) : ∃ A c, v = .slice A n c ∧ n ≤ c ∧ c ≤ maxLen := by
  obtain ⟨F1, hA, _⟩ := h.open_
  obtain ⟨A, c, rfl, h1, h2, _⟩ := own_form hA.1
  exact ⟨A, c, rfl, h1, h2⟩
/-- the kinds of what is parsed -/
theorem kv_ok : ∀ (ys : List Bs) (b : Beast) (K : Nat), K < 256 → b.k = (K : Int) → b.v.length = 8 → ∃ K' : Nat, K' < 256 ∧ (ys.foldl kvStep b).k = (K' : Int) ∧ (ys.foldl kvStep b).v.length = 8
  | [], b, K, h1, h2, h3 => ⟨K, h1, h2, h3⟩
  | y :: ys, b, K, h1, h2, h3 => by
    rw [List.foldl_cons]
    unfold kvStep
    split
    · rename_i h
      refine kv_ok ys _ (b.k.toNat ||| 2 ^ (numOf (Lib.cut y [61]).1).toNat) ?_ rfl (by simpa using h3)
      rw [h2, Int.toNat_natCast]
      exact (or_bits K _ 0 h1 (by omega) (by omega)).2
    · exact kv_ok ys b K h1 h2 h3
theorem In.pairAt {F : Nat → Prop} {w0 w : World} {l : List Assn} {b o c : Nat} {q0 q1 : Int} (h : In F w0 (IntsA (.slice (some ⟨b, o, none⟩) 2 c) [q0, q1] :: l) w) :
    w.cell? ⟨b, o, none⟩ = some (.int .i64 q0) ∧ w.cell? ⟨b, o + 1, none⟩ = some (.int .i64 q1) := by
  obtain ⟨A, c', e, hr⟩ := h.intsAt
  injection e with e1 e2 e3
  subst e1
  obtain ⟨ib, io, eA, _, p0, n0⟩ := hr.at_ (k := 0) (by simp)
  cases eA
  obtain ⟨ib', io', eA, _, p1, n1⟩ := hr.at_ (k := 1) (by simp)
  cases eA
  exact ⟨n0, n1⟩
theorem In.quadAt {F : Nat → Prop} {w0 w : World} {l : List Assn} {b o c : Nat} {q0 q1 q2 q3 : Int} (h : In F w0 (IntsA (.slice (some ⟨b, o, none⟩) 4 c) [q0, q1, q2, q3] :: l) w) :
    w.cell? ⟨b, o, none⟩ = some (.int .i64 q0) ∧ w.cell? ⟨b, o + 1, none⟩ = some (.int .i64 q1) ∧ w.cell? ⟨b, o + 2, none⟩ = some (.int .i64 q2) ∧ w.cell? ⟨b, o + 3, none⟩ = some (.int .i64 q3) := by
  obtain ⟨A, c', e, hr⟩ := h.intsAt
  injection e with e1 e2 e3
  subst e1
  obtain ⟨ib, io, eA, _, p0, n0⟩ := hr.at_ (k := 0) (by simp)
  cases eA
  obtain ⟨ib', io', eA, _, p1, n1⟩ := hr.at_ (k := 1) (by simp)
  cases eA
  obtain ⟨ib', io', eA, _, p2, n2⟩ := hr.at_ (k := 2) (by simp)
  cases eA
  obtain ⟨ib', io', eA, _, p3, n3⟩ := hr.at_ (k := 3) (by simp)
  cases eA
  exact ⟨n0, n1, n2, n3⟩
theorem op_append1 {P : Program} {ops : Array Oper} {o : Oper} {a : Act} {w : World} {K : Act → World → Prop} {Q : Exit → Act → World → Prop}
    (hgd : o.guard = none) (s x : Operand) (t : TypeId) (ho : o.op = .call { callee := .builtin .append, args := #[s, x], argTypes := #[t, t] })
    (base : Nat) (e : TypeId) (i : TypeInfo) (z : Value) (size bytes : Nat) (ht : P.underlying t = some (.slice e)) (hi : P.info? e = some i) (hz : i.zero = some z)
    (hsize : i.size = size) (hby : i.bytes = bytes) (hzs : z.cells.size = size) (hsz : 0 < size)
    (v : Value) (n : Nat) (xs : List Value) (hs : a.eval s = v) (hown : w.ownsRow base e size v n xs)
    (news : List Value) (hx : a.eval x = .slice (some ⟨w.heap.size, 0, none⟩) 1 1) (hl : news.length = size) (h1 : ∀ u ∈ news, u.oneCell' = true)
    (h63 : n + 1 ≤ maxLen) (hbytes : (n + 1) * bytes ≤ 140737488355328) (hbase : base ≤ w.heap.size)
    (h : ∀ v' w', w'.ownsRow base e size v' (n + 1) (xs ++ news) → (w.alloc (.cells news.toArray e)).grownBy w' v.ownBlock → (v'.ownBlock = v.ownBlock ∨ v'.ownBlock = some (w.heap.size + 1)) → K (a.put o.dst v') w') :
    Oper.wp P o a (w.alloc (.cells news.toArray e)) K Q := by
  have h0 := step_append1 (P := P) (ops := ops) (o := o) (a := a) (w := w) (K := K) (Q := Q) (X := True) hgd s x t ho base e i z size bytes ht hi hz hsize hby hzs hsz v n xs hs hown news hx hl h1 h63 hbytes hbase h
  rwa [if_pos (by simp [Region.wanted, hgd])] at h0
theorem cut_len (y : Bs) : (Lib.cut y [61]).1.length ≤ y.length ∧ (Lib.cut y [61]).2.1.length ≤ y.length := by
  unfold Lib.cut
  split
  · exact ⟨by rw [List.length_take]; omega, by rw [List.length_drop]; omega⟩
  · exact ⟨Nat.le_refl _, Nat.zero_le _⟩
theorem cut_any (y : Bs) (hy : y.length ≤ 6000) (W : World) (hG : Globs W) : Calls Tryz.prog 52 #[.string (mkS y), .string ⟨#[61]⟩] W fun e w' =>
    e = .returned (.tuple #[.string (mkS (Lib.cut y [61]).1), .string (mkS (Lib.cut y [61]).2.1), .bool (Lib.cut y [61]).2.2]) ∧ ∃ n, w' = W.drewN n := by
  obtain ⟨m, hm⟩ := hG.max
  exact Tryz.strings_Cut (mkS y) (mkS [61]) m W (by rw [mkS_size]; omega) hm
@[go_sem] theorem build_row1 (a b : Int) (w : World) : (rowBuild 51 #[(0, .agg #[.int .i64 a, .int .i64 b])]).run Tryz.prog w = .ok (.agg #[.int .i64 a, .int .i64 b, .int .i64 0, .int .i64 0, .int .i64 0, .int .i64 0, .int .i64 0, .int .i64 0, .int .i64 0, .int .i64 0, .int .i64 0]) w := by kernel_rfl
theorem state_run {w : World} {g : Nat} {a b c : Value} (hq : row? w g 0 3 = some #[a, b, c]) :
    ((asAddr (.pointer (some ⟨g, 0, none⟩))).run Tryz.prog w).andThen (fun ad w' => (loadVar 26 ad).run Tryz.prog w') = .ok (.agg #[a, b, c]) w := by
  have h := run_load_state w g 0
  rw [hq] at h
  have h2 : (Instr.loadAt 26 (.pointer (some ⟨g, 0, none⟩))).run Tryz.prog w = .ok (.agg #[a, b, c]) w := h
  unfold Instr.loadAt at h2
  simp only [Sem.run_bind] at h2
  exact h2
/-- a struct result that lies in a cell -/
theorem leaves_state {fn : Func} {R : Ending → World → Prop} {p : Tmp} {tmps : Array Value} {w : World} (h : fn.results = #[.cell p 26]) {g : Nat} {a b c : Value} (hp : tmps.getD p undef = .pointer (some ⟨g, 0, none⟩))
    (hq : row? w g 0 3 = some #[a, b, c]) (hR : R (.returned (.agg #[a, b, c])) w) : LeavesInM Fence.wide 3 Tryz.prog fn tmps R [] .returning w := by
  refine ⟨.agg #[a, b, c], ?_, hR⟩
  have hp' : tmps[p]?.getD undef = .pointer (some ⟨g, 0, none⟩) := by simpa using hp
  simp [results, h, hp']
  exact state_run hq
set_option maxHeartbeats 1000000 in
set_option maxRecDepth 100000 in
theorem parse_any (t : Bs) (ht : t.length ≤ 6000) (w : World) (hG : Globs w) : Calls Tryz.prog 25 #[.string (mkS t)] w fun e w' =>
    ∃ v1 v2 v3, e = .returned (.agg #[v1, v2, v3]) ∧ In (fun _ => False) w [IntsA v1 (parseT t).gens, RowsA v2 (parseT t).rows, RowB v3 (parseT t).bonds] w' ∧ ∀ r ∈ (parseT t).rows, r.b.v.length = 8 := by
  have HG := Lib.hid hG
  clear hG
  refine (callsIn_wide (n := 3)).1 ?_
  refine callsIn_of_wp_marks Tryz.func25 rfl trivial ?_ rfl
  simp only [Tryz.ntmps25, List.size_toArray, List.length_cons, List.length_nil, Nat.reduceAdd, Nat.reduceSub, Array.replicate_succ, Array.replicate_zero, List.push_toArray, List.append_toArray, List.nil_append, List.cons_append]
  rw [wpIn_wide]
  go_upto_region 1 with (fail)
  have hI1 : In (fun _ => False) w [Box w.heap.size 26 #[.slice none 0 0, .slice none 0 0, .slice none 0 0], IntsA (.slice none 0 0) [], RowsA (.slice none 0 0) [], RowB (.slice none 0 0) []] (w.alloc (.cells #[.slice none 0 0, .slice none 0 0, .slice none 0 0] 26)) :=
    ((((In.nil w (fun _ => False)).nilRow 56 4).nilRow 51 11).nilRow 3 1).alloc 26 #[.slice none 0 0, .slice none 0 0, .slice none 0 0]
  generalize hst : w.heap.size = st at hI1 ⊢
  generalize w.alloc (.cells #[.slice none 0 0, .slice none 0 0, .slice none 0 0] 26) = w1 at *
  have HI1 := Lib.hid hI1
  have HLS := Lib.hid (lines_any (mkS t) w1)
  clear hI1 hst
  go_wp2_with fail
  refine HLS.out.mono ?_
  rintro e w2 ⟨rfl, rfl⟩
  clear HLS
  go_wp2_with fail
  have hI2 : In (fun _ => False) w (Box w1.heap.size 9 #[.string (mkS t)] :: [Box st 26 #[.slice none 0 0, .slice none 0 0, .slice none 0 0], IntsA (.slice none 0 0) [], RowsA (.slice none 0 0) [], RowB (.slice none 0 0) []]) (w1.alloc (.cells #[.string (mkS t)] 9)) := HI1.out.alloc 9 #[.string (mkS t)]
  generalize w1.heap.size = sb at *
  generalize w1.alloc (.cells #[.string (mkS t)] 9) = w3 at *
  clear HI1
  refine (wpIn_wide (n := 3)).1 ?_
  refine wpIn_rangeLines (sb := sb) (t := t) rfl (enters_of Tryz.func80 (by kernel_rfl) rfl) (lines_give sb) (by omega) (ParsedTo (parseT t) st) ⟨stm0, _, _, _, rfl, rfl, by simp [stm0]; exact ht, by simp [stm0]⟩ hI2 3 ?assign ?body ?done
  case assign =>
    intro l x W Kc hK
    simp only [List.setIfInBounds_toArray, List.set_cons_zero, List.set_cons_succ] at hK ⊢
    gi_wp2
    exact hK
  case body =>
    intro l x rest t' A1 A2 L W hx ht' hK hI
    simp only [List.setIfInBounds_toArray, List.set_cons_zero, List.set_cons_succ]
    obtain ⟨s, v1, v2, v3, rfl, hS, hn, h8⟩ := hK
    have hG := HG.out.below hI.below0
    have hxl : x.length ≤ 6000 := by
      have := congrArg List.length ht'
      rw [List.length_append] at this
      omega
    have hx0 : 0 < x.length := by
      have h1 := linesOf_ne t' x (by rw [hx]; exact List.mem_cons_self)
      cases x with
      | nil => exact absurd rfl h1
      | cons c x => simp
    have HNR : Hid (s.rows.length + s.bonds.length + 1 + rest.length ≤ 6000) := by
      have h1 := congrArg List.length ht'
      rw [List.length_append] at h1
      unfold Hid; omega
    have hnext : (linesOf rest).foldl parseLine (parseLine s x) = parseT t := by rw [← hS, hx, List.foldl_cons]
    have HT : Hid (∀ W, Calls Tryz.prog 50 #[.string (mkS x), .string ⟨#[10]⟩] W fun e w' => e = .returned (.string (mkS (Lib.trimSuffix x [10]))) ∧ w' = W) := fun W => Tryz.strings_TrimSuffix (mkS x) (mkS [10]) W (by rw [mkS_size]; omega)
    have HY6 : Hid ((Lib.trimSuffix x [10]).length ≤ 6000) := by
      unfold Hid Lib.trimSuffix
      split
      · rw [List.length_take]; omega
      · exact hxl
    have hyl : (Lib.trimSuffix x [10]).length ≤ 6000 := by
      unfold Lib.trimSuffix
      split
      · rw [List.length_take]; omega
      · exact hxl
    have HPL : Hid (parseLine s x = parseWords s (splitSp (Lib.trimSuffix x [10]))) := rfl
    generalize Lib.trimSuffix x [10] = y at *
    have HSPL : Hid (∀ W, Globs W → Calls Tryz.prog 49 #[.string (mkS y), .string ⟨#[32]⟩] W fun e w' => e = .returned (.slice (some ⟨W.heap.size, 0, none⟩) (splitSp y).length (splitSp y).length) ∧ w' = W.alloc (.cells (strs (splitSp y)) 9)) := fun W hG => split_any y hyl W hG
    have hsl : (splitSp y).length ≤ y.length + 1 ∧ ∀ z ∈ splitSp y, z.length ≤ y.length := splitSp_len y
    obtain ⟨hd, tl, hws⟩ : ∃ hd tl, splitSp y = hd :: tl := by
      cases h : splitSp y with
      | nil => exact absurd h (splitSp_ne y)
      | cons hd tl => exact ⟨hd, tl, rfl⟩
    rw [hws] at HSPL HPL hsl
    have HNEXT : Hid ((linesOf rest).foldl parseLine (parseWords s (hd :: tl)) = parseT t) := by rw [← HPL.out]; exact hnext
    clear hnext
    simp only [List.length_cons] at HSPL hsl
    have hi3 := hI.alloc 9 (strs (hd :: tl))
    have HI3 := Lib.hid hi3
    have HSW := Lib.hid hS
    have HN := Lib.hid hn
    have HE8 := Lib.hid h8
    have HSL := Lib.hid hsl
    have hG1 := HSPL.out W hG
    have HG1 := Lib.hid hG1
    clear hI hS hn h8 hws hG1 hsl HSPL
    have htl : (tl.length : Int) + 1 ≤ 7000 := by have := HSL.out.1; omega
    have hG3 := HG.out.below hi3.below0
    have hrds : ∀ o, (o = 1 ∨ tl = []) → ReadsS (W.alloc (.cells (strs (hd :: tl)) 9)) (W.alloc (.cells (strs (hd :: tl)) 9)).heap.size (some ⟨W.heap.size, o, none⟩) tl := fun o ho => by
      refine ⟨by simp, fun hz => ⟨W.heap.size, o, rfl, by rw [World.size_alloc]; omega, fun j u hu => ?_⟩⟩
      rcases ho with rfl | rfl
      · rw [hi3.blk.cell (1 + j)]
        unfold strs
        rw [Nat.add_comm 1 j]
        simpa using hu
      · cases hz
    have HNUM : Hid (∀ o, (o = 1 ∨ tl = []) → Calls Tryz.prog 51 #[.slice (some ⟨W.heap.size, o, none⟩) tl.length tl.length] (W.alloc (.cells (strs (hd :: tl)) 9)) (IsInts (W.alloc (.cells (strs (hd :: tl)) 9)) (tl.map numOf))) := fun o ho =>
      numbers_any _ _ tl _ hG3 (hrds o ho) (by have := HSL.out.1; omega) (fun z hz => by have := HSL.out.2 z (List.mem_cons_of_mem _ hz); omega)
    clear hG3 hrds hyl hi3
    generalize W.heap.size = wb at *
    generalize W.alloc (.cells (strs (hd :: tl)) 9) = W3 at *
    by_cases htl0 : tl = []
    · subst htl0
      have HN0 : Hid (Calls Tryz.prog 51 #[.slice (some ⟨wb, 0, none⟩) 0 0] W3 (IsInts W3 [])) := HNUM.out 0 (Or.inr rfl)
      clear HNUM
      gi_wp2_with (first
        | (refine ⟨trivial, ?_⟩; gi_at_call 50; refine (CallsIn.inRound l (callsIn_wide.2 (HT.out _))).mono ?_; rintro e w' ⟨rfl, rfl⟩)
        | (refine ⟨trivial, ?_⟩; gi_at_call 49; refine (CallsIn.inRound l (callsIn_wide.2 (HG1.out))).mono ?_; rintro e w' ⟨rfl, rfl⟩))
      refine ⟨trivial, ?_⟩
      refine (CallsIn.inRound l (callsIn_wide.2 HN0.out)).mono ?_
      rintro e w4 ⟨v4, rfl, hown, hb4⟩
      obtain ⟨A4, c4, rfl, hrd4⟩ := hown.form
      have hi4 := HI3.out.new (A := IntsA (.slice A4 0 c4) []) hb4 ⟨own_base hown, fun k hk => (World.ownsRow.lt hown k hk).1⟩
      have d0 : w4.cell? ⟨wb, 0, none⟩ = some (.string (mkS hd)) := hi4.swap.blk.cell 0
      have hst4 := (hi4.reorder 9 [5, 0, 1, 2, 3, 4, 6, 7, 8] rfl (by simp))
      have k0 : w4.cell? ⟨st, 0, none⟩ = some v1 := hst4.blk.cell 0
      have f0 : w4.frozen? ⟨st, 0, none⟩ = false := hst4.blk.frozen 0
      have HST4 := Lib.hid hst4
      have HI4 := Lib.hid hi4
      clear hi4 hst4 hown hb4 hrd4 HN0 HI3
      by_cases e1 : hd = wGens
      · have HNX : Hid (parseWords s (hd :: []) = ⟨[], s.rows, s.bonds⟩) := by unfold Hid parseWords; rw [List.headD_cons, if_pos e1]; rfl
        have q1 := bytes_yes (show hd = [103, 101, 110, 115] from e1)
        clear e1
        gi_wp2
        have hi5 := (HST4.out.set 0 (.slice A4 0 c4)).reorder 9 [2, 6, 3, 4, 5, 0, 1, 7, 8] rfl (by simp)
        refine ⟨_, ⟨⟨[], s.rows, s.bonds⟩, _, _, _, rfl, ?_, ?_, HE8.out⟩, hi5.drop.drop⟩
        · rw [← HNX.out]; exact HNEXT.out
        · have := HNR.out; simp only; omega
      · have HNX : Hid (parseWords s (hd :: []) = s) := by
          unfold Hid parseWords
          rw [List.headD_cons, if_neg e1, if_neg (fun h => by simp at h), if_neg (fun h => by simp at h)]
        obtain ⟨q1, q1'⟩ := bytes_no (show ¬ hd = [103, 101, 110, 115] from e1)
        clear e1
        have hend : ∃ L', ParsedTo (parseT t) st rest L' ∧ In (fun _ => False) w (A1 :: A2 :: Box sb 9 #[.string (mkS rest)] :: L') w4 := by
          refine ⟨_, ⟨s, _, _, _, rfl, ?_, ?_, HE8.out⟩, HI4.out.drop.drop⟩
          · rw [← HNX.out]; exact HNEXT.out
          · have := HNR.out; omega
        have HEND := Lib.hid hend
        clear hend
        by_cases e2 : hd = [114, 111, 119]
        · have q2 := bytes_yes e2
          clear e2 q1 q1'
          gi_wp2
          exact HEND.out
        · obtain ⟨q2, q2'⟩ := bytes_no e2
          clear e2
          by_cases e3 : hd = [98, 111, 110, 100]
          · have q3 := bytes_yes e3
            clear e3 q1 q1' q2 q2'
            gi_wp2
            exact HEND.out
          · obtain ⟨q3, q3'⟩ := bytes_no e3
            clear e3
            gi_wp2
            exact HEND.out
    · have HN1 : Hid (Calls Tryz.prog 51 #[.slice (some ⟨wb, 1, none⟩) tl.length tl.length] W3 (IsInts W3 (tl.map numOf))) := HNUM.out 1 (Or.inl rfl)
      clear HNUM
      gi_wp2_with (first
        | (refine ⟨trivial, ?_⟩; gi_at_call 50; refine (CallsIn.inRound l (callsIn_wide.2 (HT.out _))).mono ?_; rintro e w' ⟨rfl, rfl⟩)
        | (refine ⟨trivial, ?_⟩; gi_at_call 49; refine (CallsIn.inRound l (callsIn_wide.2 (HG1.out))).mono ?_; rintro e w' ⟨rfl, rfl⟩))
      refine ⟨trivial, ?_⟩
      refine (CallsIn.inRound l (callsIn_wide.2 HN1.out)).mono ?_
      rintro e w4 ⟨v4, rfl, hown, hb4⟩
      obtain ⟨A4, c4, rfl, hrd4⟩ := hown.form
      have hi4 := HI3.out.new (A := IntsA (.slice A4 (tl.map numOf).length c4) (tl.map numOf)) hb4 ⟨own_base hown, fun k hk => (World.ownsRow.lt hown k hk).1⟩
      rw [List.length_map] at hi4
      have d0 : w4.cell? ⟨wb, 0, none⟩ = some (.string (mkS hd)) := hi4.swap.blk.cell 0
      have hst4 := (hi4.reorder 9 [5, 0, 1, 2, 3, 4, 6, 7, 8] rfl (by simp))
      have k0 : w4.cell? ⟨st, 0, none⟩ = some v1 := hst4.blk.cell 0
      have f0 : w4.frozen? ⟨st, 0, none⟩ = false := hst4.blk.frozen 0
      have HST4 := Lib.hid hst4
      have HI4 := Lib.hid hi4
      have HRD := Lib.hid hrd4
      clear hi4 hst4 hown hb4 hrd4 HN1 HI3
      by_cases e1 : hd = wGens
      · have HNX : Hid (parseWords s (hd :: tl) = ⟨tl.map numOf, s.rows, s.bonds⟩) := by unfold Hid parseWords; rw [List.headD_cons, if_pos e1]; rfl
        have q1 := bytes_yes (show hd = [103, 101, 110, 115] from e1)
        clear e1
        gi_wp2
        have hi5 := (HST4.out.set 0 (.slice A4 tl.length c4)).reorder 9 [2, 6, 3, 4, 5, 0, 1, 7, 8] rfl (by simp)
        have hi6 := hi5.drop.drop
        have hlm : tl.length = (tl.map numOf).length := (List.length_map _).symm
        refine ⟨_, ⟨⟨tl.map numOf, s.rows, s.bonds⟩, _, _, _, rfl, ?_, ?_, HE8.out⟩, hi6⟩
        · rw [← HNX.out]; exact HNEXT.out
        · have := HNR.out; simp only; omega
      obtain ⟨q1, q1'⟩ := bytes_no (show ¬ hd = [103, 101, 110, 115] from e1)
      have hend : parseWords s (hd :: tl) = s → ∃ L', ParsedTo (parseT t) st rest L' ∧ In (fun _ => False) w (A1 :: A2 :: Box sb 9 #[.string (mkS rest)] :: L') w4 := fun hs => by
        refine ⟨_, ⟨s, _, _, _, rfl, ?_, ?_, HE8.out⟩, HI4.out.drop.drop⟩
        · rw [← hs]; exact HNEXT.out
        · have := HNR.out; omega
      have HEND := Lib.hid hend
      clear hend
      have hw1 : ∀ a : Bs, (hd :: tl).headD [] = a ↔ hd = a := fun a => Iff.rfl
      by_cases e2 : hd = [114, 111, 119]
      · have q2 := bytes_yes e2
        have e3 : ¬ hd = [98, 111, 110, 100] := by rw [e2]; decide
        by_cases hl1 : 1 < tl.length
        · have HNX : Hid (parseWords s (hd :: tl) = ⟨s.gens, s.rows ++ [⟨((tl.map numOf).getD 0 0, (tl.map numOf).getD 1 0), (tl.drop 2).foldl kvStep zeroBst⟩], s.bonds⟩) := by
            unfold Hid
            rw [parseWords_cons, if_neg e1, if_pos ⟨e2, hl1⟩]
          clear e1 e2 e3 HEND hw1
          obtain ⟨nb, no, rfl, _, g0, n0⟩ := HRD.out.at_ (k := 0) (by rw [List.length_map]; omega)
          obtain ⟨nb', no', eA, _, g1, n1⟩ := HRD.out.at_ (k := 1) (by rw [List.length_map]; omega)
          injection eA with eA
          injection eA with eA1 eA2
          subst eA1; subst eA2
          have hl2 : ((1 : Int) < tl.length) := by omega
          have hl3 : ((0 : Int) < tl.length) := by omega
          have HN0 : Hid ((tl.map numOf)[0] = (tl.map numOf).getD 0 0) := by unfold Hid; rw [List.getD_eq_getElem?_getD, List.getElem?_eq_getElem g0]; rfl
          have HN1 : Hid ((tl.map numOf)[1] = (tl.map numOf).getD 1 0) := by unfold Hid; rw [List.getD_eq_getElem?_getD, List.getElem?_eq_getElem g1]; rfl
          rw [HN0.out] at n0
          rw [HN1.out] at n1
          generalize (tl.map numOf).getD 0 0 = x0 at *
          generalize (tl.map numOf).getD 1 0 = x1 at *
          clear HN0 HN1
          have m0 : w4.cell? ⟨nb, no, none⟩ = some (.int .i64 x0) := n0
          clear n0
          have hn0 : 0 < tl.length := by omega
          have hn1 : 1 < tl.length := by omega
          gi_wp2
          refine wpIn_round_held (fun W => W.cell? ⟨nb, no, none⟩ = some (.int .i64 x0) ∧ W.cell? ⟨nb, no + 1, none⟩ = some (.int .i64 x1)) 8 (by kernel_rfl) (by kernel_rfl) (fun ⟨a, w, h⟩ => by have h1 := And.left (show Exit.outgrown = Exit.normal ∧ _ from h); cases h1) (by kernel_rfl) (fun c a w h => by have h1 := And.left (show Exit.panic c = Exit.normal ∧ _ from h); cases h1) (by decide) (by kernel_rfl) ⟨m0, n1⟩ ?_
          simp only [List.take_succ_cons, List.take_zero]
          iterate 8 (apply readsIf_step; rfl; (intro W hW; obtain ⟨hW1, hW2⟩ := hW; go_simp; rfl); simp only [Act.put, List.setIfInBounds_toArray, List.set_cons_zero, List.set_cons_succ])
          refine wpAnyH_all (rs := [8]) (by kernel_rfl) (by simp) ?_
          intro i hi
          rw [List.mem_singleton] at hi
          subst hi
          refine Or.inl ?_
          go_simp
          have f9 : fits (w4.drew.alloc (.cells #[.int .i64 0, .int .i64 0, .int .i64 0, .int .i64 0, .int .i64 0, .int .i64 0, .int .i64 0, .int .i64 0, .int .i64 0, .int .i64 0, .int .i64 0] 51)) w4.heap.size 0 11 = true := (Blk.new w4.drew 51 #[.int .i64 0, .int .i64 0, .int .i64 0, .int .i64 0, .int .i64 0, .int .i64 0, .int .i64 0, .int .i64 0, .int .i64 0, .int .i64 0, .int .i64 0]).fits 0 11 (by decide)
          refine wpAnyH_all (rs := [9]) (by kernel_rfl) (by simp) ?_
          intro i hi
          rw [List.mem_singleton] at hi
          subst hi
          refine Or.inl ?_
          go_simp
          have hnb : nb < w4.heap.size := World.block_lt_of_cell? _ _ m0
          have hbn := below_new_put w4 51 [0, 0, 0, 0, 0, 0, 0, 0, 0, 0, 0] [x0, x1, 0, 0, 0, 0, 0, 0, 0, 0, 0]
          refine ⟨⟨(hbn.cell (p := ⟨nb, no, none⟩) hnb).trans m0, (hbn.cell (p := ⟨nb, no + 1, none⟩) hnb).trans n1⟩, wpAnyH_done (by kernel_rfl) ?_ _⟩
          have hi8 : In (fun _ => False) w [Box w4.heap.size 51 (ints [x0, x1, 0, 0, 0, 0, 0, 0, 0, 0, 0]), IntsA (.slice (some ⟨nb, no, none⟩) tl.length c4) (tl.map numOf), Box wb 9 (strs (hd :: tl)), A1, A2, Box sb 9 #[.string (mkS rest)], Box st 26 #[v1, v2, v3], IntsA v1 s.gens, RowsA v2 s.rows, RowB v3 s.bonds] (putRow (w4.alloc (.cells #[.int .i64 0, .int .i64 0, .int .i64 0, .int .i64 0, .int .i64 0, .int .i64 0, .int .i64 0, .int .i64 0, .int .i64 0, .int .i64 0, .int .i64 0] 51)) w4.heap.size 0 [x0, x1, 0, 0, 0, 0, 0, 0, 0, 0, 0]).drew := (HI4.out.struct 51 [0, 0, 0, 0, 0, 0, 0, 0, 0, 0, 0] [x0, x1, 0, 0, 0, 0, 0, 0, 0, 0, 0] rfl).drew
          have HI8 := Lib.hid hi8
          clear hi8 f9 hbn m0 n1 HRD HST4 HI4 d0 k0 f0 q1 q1' q2 hnb
          generalize (putRow _ w4.heap.size 0 _).drew = W8 at *
          generalize w4.heap.size = rb at *
          have h3i : (3 : Int) ≤ (tl.length : Int) + 1 := by omega
          by_cases hz : tl.length = 2
          · obtain ⟨ta, tb, rfl⟩ : ∃ ta tb, tl = [ta, tb] := by
              match tl, hz with
              | [a, b], _ => exact ⟨a, b, rfl⟩
            clear hl1 hl2 hl3 hn0 hn1 htl htl0 h3i hz g0 g1
            have hB0 : ([ta, tb].drop 2).foldl kvStep zeroBst = zeroBst := rfl
            simp only [List.length_cons, List.length_nil, Nat.zero_add, Nat.reduceAdd] at HI8 ⊢
            gi_wp2
            gi_loopw [50] (fun i W => i = .int .i64 0 ∧ In (fun _ => False) w [Box rb 51 (ints (x0 :: x1 :: zeroBst.list)), IntsA (.slice (some ⟨nb, no, none⟩) 2 c4) ([ta, tb].map numOf), Box wb 9 (strs [hd, ta, tb]), A1, A2, Box sb 9 #[.string (mkS rest)], Box st 26 #[v1, v2, v3], IntsA v1 s.gens, RowsA v2 s.rows, RowB v3 s.bonds] W) (fun _ _ => 0)
            case atStart => exact ⟨rfl, HI8.out⟩
            case round =>
              obtain ⟨rfl, hI⟩ := hrel
              have HI := Lib.hid hI
              clear hI HI8
              have hbv : zeroBst.v.length = 8 := rfl
              rw [hB0] at HNX
              generalize hBB : zeroBst = B at *
              have HX11 : Hid ((x0 :: x1 :: B.list).length = 11) := by unfold Hid; simp [Beast.list, hbv]
              have HRC : Hid (rowC ⟨(x0, x1), B⟩ = (x0 :: x1 :: B.list).map (Value.int .i64)) := by unfold Hid rowC; rw [rowE_eq hbv]; rfl
              have HE8' : Hid (∀ r ∈ s.rows ++ [⟨(x0, x1), B⟩], r.b.v.length = 8) := fun r hr => by
                rcases List.mem_append.1 hr with h | h
                · exact HE8.out r h
                · rw [List.mem_singleton] at h; subst h; exact hbv
              have d3 : row? wr rb 0 11 = some (ints (x0 :: x1 :: B.list)) := HI.out.blk.row_all HX11.out
              have k1 : wr.cell? ⟨st, 1, none⟩ = some v2 := (HI.out.reorder 7 [6, 0, 1, 2, 3, 4, 5] rfl (by simp)).blk.cell 1
              have hrw : In (fun _ => False) w [RowsA v2 s.rows, Box st 26 #[v1, v2, v3], A1, A2, Box sb 9 #[.string (mkS rest)], IntsA v1 s.gens, RowB v3 s.bonds] wr := ((((HI.out.reorder 10 [8, 6, 3, 4, 5, 7, 9, 0, 1, 2] rfl (by simp)).perm (l' := [Box rb 51 (ints (x0 :: x1 :: B.list)), IntsA (.slice (some ⟨nb, no, none⟩) 2 c4) ([ta, tb].map numOf), Box wb 9 (strs [hd, ta, tb]), RowsA v2 s.rows, Box st 26 #[v1, v2, v3], A1, A2, Box sb 9 #[.string (mkS rest)], IntsA v1 s.gens, RowB v3 s.bonds]) (List.perm_append_comm (l₁ := [_, _, _, _, _, _, _]) (l₂ := [_, _, _]))).drop).drop).drop
              have HRW := Lib.hid hrw
              have HOW := Lib.hid hrw.rowAt
              have hone : ∀ u ∈ (x0 :: x1 :: B.list).map (Value.int .i64), u.oneCell' = true := by
                intro u hu; obtain ⟨y, _, rfl⟩ := List.mem_map.1 hu; rfl
              have HONE := Lib.hid hone
              have hrl : s.rows.length ≤ 6000 := by have := HNR.out; omega
              obtain ⟨i0, hi0, hz0, hz1, hz2⟩ := info_parts row_parts
              clear hrw hone HI hBB
              generalize hxs : x0 :: x1 :: B.list = xs at *
              have hxl : xs.length = 11 := HX11.out
              gi_wp2_with (gi_at_builtin; refine wpListIn_append1_at rfl _ _ 23 rfl 0 51 i0 _ 11 88 Tryz.underlying23 hi0 hz0 hz1 hz2 rfl (by decide) v2 s.rows.length _ rfl HOW.out (xs.map (Value.int .i64)) rfl (by rw [List.length_map]; exact HX11.out) HONE.out (by unfold maxLen; omega) (by omega) (Nat.zero_le _) ?_)
              intro v' w10 hown7 hg7 hat7
              have hi10 := In.append1 HRW.out hown7 hg7 hat7
              have hi11 : In (fun _ => False) w [RowsA v' (s.rows ++ [⟨(x0, x1), B⟩]), Box st 26 #[v1, v2, v3], A1, A2, Box sb 9 #[.string (mkS rest)], IntsA v1 s.gens, RowB v3 s.bonds] w10 := by
                unfold RowsA
                rw [List.length_append, List.flatMap_append, List.flatMap_cons, List.flatMap_nil, List.append_nil, HRC.out]
                exact hi10
              have e1 : w10.frozen? ⟨st, 1, none⟩ = false := hi11.swap.blk.frozen 1
              have k2 : w10.cell? ⟨st, 1, none⟩ = some v2 := hi11.swap.blk.cell 1
              obtain ⟨bA, cA, rfl, _, _⟩ := In.rowForm hi11
              rw [List.length_append] at hi11
              have HI11 := Lib.hid hi11
              clear hown7 hg7 hat7 hi10 hi11 d3 HOW HRW k1
              gi_wp2
              have hi12 : In (fun _ => False) w [A1, A2, Box sb 9 #[.string (mkS rest)], Box st 26 #[v1, .slice bA (s.rows.length + 1) cA, v3], IntsA v1 s.gens, RowsA (.slice bA (s.rows.length + 1) cA) (s.rows ++ [⟨(x0, x1), B⟩]), RowB v3 s.bonds] (w10.setCell ⟨st, 1, none⟩ (.slice bA (s.rows.length + 1) cA)) := (HI11.out.swap.set 1 (.slice bA (s.rows.length + 1) cA)).reorder 7 [2, 3, 4, 0, 5, 1, 6] rfl (by simp)
              refine ⟨_, ⟨⟨s.gens, s.rows ++ [⟨(x0, x1), B⟩], s.bonds⟩, _, _, _, rfl, ?_, ?_, HE8'.out⟩, hi12⟩
              · rw [← HNX.out]; exact HNEXT.out
              · have := HNR.out; simp only [List.length_append, List.length_cons, List.length_nil]; omega
          have hz1 : ¬ (tl.length + 1 = 3) := by omega
          gi_wp2
          have HL0 : Hid (3 + (tl.length - 2) = tl.length + 1) := by unfold Hid; omega
          have hm1 : ((tl.length - 2 : Nat) : Int) ≤ 7000 := by omega
          have HWS : Hid (∀ k, k < tl.length - 2 → ∃ y, (tl.drop 2)[k]? = some y ∧ (strs (hd :: tl))[3 + k]? = some (.string (mkS y)) ∧ y.length ≤ 6000) := by
            intro k hk
            have hlt : 2 + k < tl.length := by omega
            refine ⟨tl[2 + k], ?_, ?_, ?_⟩
            · rw [List.getElem?_drop, List.getElem?_eq_getElem hlt]
            · unfold strs
              rw [show 3 + k = (2 + k) + 1 from by omega]
              simp [hlt]
            · have := HSL.out.2 tl[2 + k] (List.mem_cons_of_mem _ (List.getElem_mem hlt))
              have := HY6.out
              omega
          generalize hmm : tl.length - 2 = m at *
          gi_loopw [50] (fun i W => ∃ k : Nat, k ≤ m ∧ i = .int .i64 k ∧ In (fun _ => False) w [Box rb 51 (ints (x0 :: x1 :: (((tl.drop 2).take k).foldl kvStep zeroBst).list)), IntsA (.slice (some ⟨nb, no, none⟩) tl.length c4) (tl.map numOf), Box wb 9 (strs (hd :: tl)), A1, A2, Box sb 9 #[.string (mkS rest)], Box st 26 #[v1, v2, v3], IntsA v1 s.gens, RowsA v2 s.rows, RowB v3 s.bonds] W) (fun i _ => m - (intOf i).toNat)
          case atStart => exact ⟨0, Nat.zero_le _, rfl, HI8.out⟩
          case round =>
            clear HI8
            obtain ⟨k, hk, rfl, hI⟩ := hrel
            obtain ⟨K, hK, hbk, hbv⟩ := kv_ok ((tl.drop 2).take k) zeroBst 0 (by decide) rfl rfl
            by_cases hlt : k < m
            · have hki : (k : Int) < m := by omega
              obtain ⟨z, hz0, hz2, hzl⟩ := HWS.out k hlt
              have HTK : Hid (((tl.drop 2).take (k + 1)).foldl kvStep zeroBst = kvStep (((tl.drop 2).take k).foldl kvStep zeroBst) z) := by
                unfold Hid
                rw [List.take_add_one, hz0]
                simp
              have d1 : wr.cell? ⟨wb, 3 + k, none⟩ = some (.string (mkS z)) := by
                rw [(hI.reorder 3 [2, 0, 1] rfl (by simp)).blk.cell (3 + k), hz2]
              generalize ((tl.drop 2).take k).foldl kvStep zeroBst = B at *
              have HI := Lib.hid hI
              have HGR := Lib.hid (HG.out.below hI.below0)
              have HCUT := Lib.hid (cut_any z hzl wr HGR.out)
              have hcl := cut_len z
              have hla : (Lib.cut z [61]).1.length ≤ 100000 := by omega
              have hlb : (Lib.cut z [61]).2.1.length ≤ 100000 := by omega
              have HKV : Hid (kvStep B z = if 0 ≤ numOf (Lib.cut z [61]).1 ∧ numOf (Lib.cut z [61]).1 < 8 then ⟨((B.k.toNat ||| 2 ^ (numOf (Lib.cut z [61]).1).toNat : Nat) : Int), B.v.set (numOf (Lib.cut z [61]).1).toNat (numOf (Lib.cut z [61]).2.1)⟩ else B) := rfl
              clear hI hz0 hz2 hzl hcl
              generalize (Lib.cut z [61]).1 = za at *
              generalize (Lib.cut z [61]).2.1 = zb at *
              generalize (Lib.cut z [61]).2.2 = zc at *
              gi_wp2_with (refine ⟨trivial, ?_⟩; gi_at_call 52; refine (CallsIn.inRound l (callsIn_wide.2 HCUT.out)).mono ?_; rintro e w' ⟨rfl, nn, rfl⟩)
              have hi9 := (HI.out.below (w' := wr.drewN nn) ⟨rfl, rfl, rfl, Nat.le_refl _, fun _ _ => rfl⟩).alloc 9 #[.string (mkS za), .string (mkS zb)]
              have hsz9 : wr.heap.size < ((wr.drewN nn).alloc (.cells #[.string (mkS za), .string (mkS zb)] 9)).heap.size := by rw [World.size_alloc]; exact Nat.lt_succ_self _
              have e9 : (wr.drewN nn).heap.size = wr.heap.size := rfl
              rw [e9] at hi9
              clear d1 HCUT HGR HI
              generalize (wr.drewN nn).alloc (.cells #[.string (mkS za), .string (mkS zb)] 9) = W9 at *
              generalize wr.heap.size = g9 at *
              have hrd9 : ReadsS W9 W9.heap.size (some ⟨g9, 0, none⟩) [za, zb] := by
                refine ⟨by simp, fun _ => ⟨g9, 0, rfl, hsz9, fun j u hu => ?_⟩⟩
                rw [hi9.blk.cell (0 + j), Nat.zero_add]
                simpa using hu
              have HN9 : Hid (Calls Tryz.prog 51 #[.slice (some ⟨g9, 0, none⟩) 2 2] W9 (IsInts W9 [numOf za, numOf zb])) := numbers_any (some ⟨g9, 0, none⟩) 2 [za, zb] W9 (HG.out.below hi9.below0) hrd9 (by simp) (fun q hq => by
                simp only [List.mem_cons, List.not_mem_nil, or_false] at hq
                rcases hq with rfl | rfl
                · exact hla
                · exact hlb)
              have HI9 := Lib.hid hi9
              clear hi9 hrd9 hsz9 e9 hla hlb
              generalize numOf za = q0 at *
              generalize numOf zb = q1 at *
              refine ⟨trivial, (CallsIn.inRound l (callsIn_wide.2 HN9.out)).mono ?_⟩
              rintro e W10 ⟨v10, rfl, hown, hb10⟩
              have hi10 := HI9.out.newInts hown hb10
              obtain ⟨A10, c10, rfl, hrd10⟩ := hown.form
              obtain ⟨ib, io, rfl, _, p0, n0⟩ := hrd10.at_ (k := 0) (by simp)
              obtain ⟨ib', io', eA, _, p1, n1⟩ := hrd10.at_ (k := 1) (by simp)
              injection eA with eA
              injection eA with eA1 eA2
              subst eA1; subst eA2
              have m0 : W10.cell? ⟨ib, io, none⟩ = some (.int .i64 q0) := n0
              have m1 : W10.cell? ⟨ib, io + 1, none⟩ = some (.int .i64 q1) := n1
              have HI10 := Lib.hid hi10
              clear n0 n1 p0 p1 hown hrd10 hb10 hi10 HI9 HN9
              by_cases hq0 : 0 ≤ q0
              · by_cases hq8 : q0 < 8
                · have hi11 : In (fun _ => False) w [Box rb 51 (ints (x0 :: x1 :: B.list)), IntsA (.slice (some ⟨ib, io, none⟩) 2 c10) [q0, q1], Box g9 9 #[.string (mkS za), .string (mkS zb)], IntsA (.slice (some ⟨nb, no, none⟩) tl.length c4) (tl.map numOf), Box wb 9 (strs (hd :: tl)), A1, A2, Box sb 9 #[.string (mkS rest)], Box st 26 #[v1, v2, v3], IntsA v1 s.gens, RowsA v2 s.rows, RowB v3 s.bonds] W10 := HI10.out.reorder 3 [2, 0, 1] rfl (by simp)
                  have b0 : W10.cell? ⟨rb, 2, none⟩ = some (.int .i64 K) := by rw [hi11.blk.cell 2]; simp [ints, Beast.list, hbk]
                  have e0 : W10.frozen? ⟨rb, 2, none⟩ = false := hi11.blk.frozen 2
                  have hor := or_bit K q0.toNat hK (by omega)
                  gi_wp2
                  refine wpIn_round_tail 10 (by kernel_rfl) (by kernel_rfl) (by kernel_rfl) (fun ⟨a, w, h⟩ => by have h1 := And.left (show Exit.outgrown = Exit.normal ∧ _ from h); cases h1) ?_
                  simp only [List.take_succ_cons, List.take_zero, List.drop_succ_cons, List.drop_zero]
                  repeat still_step
                  refine wpStill_nil ?_
                  go_wp2_with fail
                  rw [hor]
                  have hi12 := (hi11.set 2 (.int .i64 ((K ||| 2 ^ q0.toNat : Nat) : Int))).drew
                  rw [ints_set] at hi12
                  have eB : (x0 :: x1 :: B.list).set 2 ((K ||| 2 ^ q0.toNat : Nat) : Int) = x0 :: x1 :: ((K ||| 2 ^ q0.toNat : Nat) : Int) :: B.v := rfl
                  rw [eB] at hi12
                  clear eB hi11 HI10 b0 e0 hor m0 m1
                  generalize (World.setCell W10 ⟨rb, 2, none⟩ (.int .i64 ((K ||| 2 ^ q0.toNat : Nat) : Int))).drew = W12 at *
                  obtain ⟨m0, m1⟩ := hi12.swap.pairAt
                  have e0 : W12.frozen? ⟨rb, 3 + q0.toNat, none⟩ = false := hi12.blk.frozen _
                  have b0 : W12.cell? ⟨rb, 3 + q0.toNat, none⟩ = some (.int .i64 (B.v.getD q0.toNat 0)) := by
                    have hlen : 3 + q0.toNat < (x0 :: x1 :: ((K ||| 2 ^ q0.toNat : Nat) : Int) :: B.v).length := by simp; omega
                    rw [hi12.blk.cell _, ints_at hlen]
                    have hq : q0.toNat < B.v.length := by omega
                    simp [Nat.add_comm 3 q0.toNat, List.getD_eq_getElem?_getD, hq]
                  have hi13 := hi12.set (3 + q0.toNat) (.int .i64 q1)
                  rw [ints_set, Nat.add_comm 3 q0.toNat, List.set_cons_succ, List.set_cons_succ, List.set_cons_succ, Nat.add_comm q0.toNat 3] at hi13
                  have HKB : Hid (x0 :: x1 :: ((K ||| 2 ^ q0.toNat : Nat) : Int) :: B.v.set q0.toNat q1 = x0 :: x1 :: (kvStep B z).list) := by
                    unfold Hid
                    rw [HKV.out, if_pos ⟨hq0, hq8⟩]
                    unfold Beast.list
                    rw [hbk, Int.toNat_natCast]
                  rw [HKB.out, ← HTK.out] at hi13
                  have HI13 := Lib.hid hi13
                  clear hi12 hi13
                  gi_wp2
                  refine wpIn_round_tail 9 (by kernel_rfl) (by kernel_rfl) (by kernel_rfl) (fun ⟨a, w, h⟩ => by have h1 := And.left (show Exit.outgrown = Exit.normal ∧ _ from h); cases h1) ?_
                  simp only [List.take_succ_cons, List.take_zero, List.drop_succ_cons, List.drop_zero]
                  repeat still_step
                  refine wpStill_nil ?_
                  go_wp2_with fail
                  have hi15 : In (fun _ => False) w [Box rb 51 (ints (x0 :: x1 :: (((tl.drop 2).take (k + 1)).foldl kvStep zeroBst).list)), IntsA (.slice (some ⟨nb, no, none⟩) tl.length c4) (tl.map numOf), Box wb 9 (strs (hd :: tl)), A1, A2, Box sb 9 #[.string (mkS rest)], Box st 26 #[v1, v2, v3], IntsA v1 s.gens, RowsA v2 s.rows, RowB v3 s.bonds] (W12.setCell ⟨rb, 3 + q0.toNat, none⟩ (.int .i64 q1)).drew := (HI13.out.drew.swap.drop).swap.drop
                  generalize (World.setCell W12 ⟨rb, 3 + q0.toNat, none⟩ (.int .i64 q1)).drew = W14 at *
                  have HI15 := Lib.hid hi15
                  clear hi15 HI13 b0 e0 m0 m1
                  gi_wp2
                  go_roundw
                  case rel => exact ⟨k + 1, by omega, by go_num, HI15.out⟩
                  case measure => simp [intOf]; omega
                · have hi11 : In (fun _ => False) w [Box rb 51 (ints (x0 :: x1 :: B.list)), IntsA (.slice (some ⟨nb, no, none⟩) tl.length c4) (tl.map numOf), Box wb 9 (strs (hd :: tl)), A1, A2, Box sb 9 #[.string (mkS rest)], Box st 26 #[v1, v2, v3], IntsA v1 s.gens, RowsA v2 s.rows, RowB v3 s.bonds] W10 := (HI10.out.drop.drop)
                  have HSB : Hid (kvStep B z = B) := by unfold Hid; rw [HKV.out, if_neg (fun h => hq8 h.2)]
                  rw [← HSB.out, ← HTK.out] at hi11
                  have HI11 := Lib.hid hi11
                  clear hi11 HI10
                  gi_wp2
                  go_roundw
                  case rel => exact ⟨k + 1, by omega, by go_num, HI11.out⟩
                  case measure => simp [intOf]; omega
              · have hi11 : In (fun _ => False) w [Box rb 51 (ints (x0 :: x1 :: B.list)), IntsA (.slice (some ⟨nb, no, none⟩) tl.length c4) (tl.map numOf), Box wb 9 (strs (hd :: tl)), A1, A2, Box sb 9 #[.string (mkS rest)], Box st 26 #[v1, v2, v3], IntsA v1 s.gens, RowsA v2 s.rows, RowB v3 s.bonds] W10 := (HI10.out.drop.drop)
                have HSB : Hid (kvStep B z = B) := by unfold Hid; rw [HKV.out, if_neg (fun h => hq0 h.1)]
                rw [← HSB.out, ← HTK.out] at hi11
                have HI11 := Lib.hid hi11
                clear hi11 HI10
                gi_wp2
                go_roundw
                case rel => exact ⟨k + 1, by omega, by go_num, HI11.out⟩
                case measure => simp [intOf]; omega
            · have hkm : k = m := by omega
              subst hkm
              rw [List.take_of_length_le (by rw [List.length_drop]; omega)] at hI hbv hbk
              have HI := Lib.hid hI
              clear hI
              generalize hBB : (tl.drop 2).foldl kvStep zeroBst = B at *
              have HX11 : Hid ((x0 :: x1 :: B.list).length = 11) := by unfold Hid; simp [Beast.list, hbv]
              have HRC : Hid (rowC ⟨(x0, x1), B⟩ = (x0 :: x1 :: B.list).map (Value.int .i64)) := by unfold Hid rowC; rw [rowE_eq hbv]; rfl
              have HE8' : Hid (∀ r ∈ s.rows ++ [⟨(x0, x1), B⟩], r.b.v.length = 8) := fun r hr => by
                rcases List.mem_append.1 hr with h | h
                · exact HE8.out r h
                · rw [List.mem_singleton] at h; subst h; exact hbv
              have d3 : row? wr rb 0 11 = some (ints (x0 :: x1 :: B.list)) := HI.out.blk.row_all HX11.out
              have k1 : wr.cell? ⟨st, 1, none⟩ = some v2 := (HI.out.reorder 7 [6, 0, 1, 2, 3, 4, 5] rfl (by simp)).blk.cell 1
              have hrw : In (fun _ => False) w [RowsA v2 s.rows, Box st 26 #[v1, v2, v3], A1, A2, Box sb 9 #[.string (mkS rest)], IntsA v1 s.gens, RowB v3 s.bonds] wr := ((((HI.out.reorder 10 [8, 6, 3, 4, 5, 7, 9, 0, 1, 2] rfl (by simp)).perm (l' := [Box rb 51 (ints (x0 :: x1 :: B.list)), IntsA (.slice (some ⟨nb, no, none⟩) tl.length c4) (tl.map numOf), Box wb 9 (strs (hd :: tl)), RowsA v2 s.rows, Box st 26 #[v1, v2, v3], A1, A2, Box sb 9 #[.string (mkS rest)], IntsA v1 s.gens, RowB v3 s.bonds]) (List.perm_append_comm (l₁ := [_, _, _, _, _, _, _]) (l₂ := [_, _, _]))).drop).drop).drop
              have HRW := Lib.hid hrw
              have HOW := Lib.hid hrw.rowAt
              have hone : ∀ u ∈ (x0 :: x1 :: B.list).map (Value.int .i64), u.oneCell' = true := by
                intro u hu; obtain ⟨y, _, rfl⟩ := List.mem_map.1 hu; rfl
              have HONE := Lib.hid hone
              have hrl : s.rows.length ≤ 6000 := by have := HNR.out; omega
              obtain ⟨i0, hi0, hz0, hz1, hz2⟩ := info_parts row_parts
              clear hrw hone HI hBB
              generalize hxs : x0 :: x1 :: B.list = xs at *
              have hxl : xs.length = 11 := HX11.out
              gi_wp2_with (gi_at_builtin; refine wpListIn_append1_at rfl _ _ 23 rfl 0 51 i0 _ 11 88 Tryz.underlying23 hi0 hz0 hz1 hz2 rfl (by decide) v2 s.rows.length _ rfl HOW.out (xs.map (Value.int .i64)) rfl (by rw [List.length_map]; exact HX11.out) HONE.out (by unfold maxLen; omega) (by omega) (Nat.zero_le _) ?_)
              intro v' w10 hown7 hg7 hat7
              have hi10 := In.append1 HRW.out hown7 hg7 hat7
              have hi11 : In (fun _ => False) w [RowsA v' (s.rows ++ [⟨(x0, x1), B⟩]), Box st 26 #[v1, v2, v3], A1, A2, Box sb 9 #[.string (mkS rest)], IntsA v1 s.gens, RowB v3 s.bonds] w10 := by
                unfold RowsA
                rw [List.length_append, List.flatMap_append, List.flatMap_cons, List.flatMap_nil, List.append_nil, HRC.out]
                exact hi10
              have e1 : w10.frozen? ⟨st, 1, none⟩ = false := hi11.swap.blk.frozen 1
              have k2 : w10.cell? ⟨st, 1, none⟩ = some v2 := hi11.swap.blk.cell 1
              obtain ⟨bA, cA, rfl, _, _⟩ := In.rowForm hi11
              rw [List.length_append] at hi11
              have HI11 := Lib.hid hi11
              clear hown7 hg7 hat7 hi10 hi11 d3 HOW HRW k1
              gi_wp2
              have hi12 : In (fun _ => False) w [A1, A2, Box sb 9 #[.string (mkS rest)], Box st 26 #[v1, .slice bA (s.rows.length + 1) cA, v3], IntsA v1 s.gens, RowsA (.slice bA (s.rows.length + 1) cA) (s.rows ++ [⟨(x0, x1), B⟩]), RowB v3 s.bonds] (w10.setCell ⟨st, 1, none⟩ (.slice bA (s.rows.length + 1) cA)) := (HI11.out.swap.set 1 (.slice bA (s.rows.length + 1) cA)).reorder 7 [2, 3, 4, 0, 5, 1, 6] rfl (by simp)
              refine ⟨_, ⟨⟨s.gens, s.rows ++ [⟨(x0, x1), B⟩], s.bonds⟩, _, _, _, rfl, ?_, ?_, HE8'.out⟩, hi12⟩
              · rw [← HNX.out]; exact HNEXT.out
              · have := HNR.out; simp only [List.length_append, List.length_cons, List.length_nil]; omega
        · have HSM : Hid (parseWords s (hd :: tl) = s) := by
            unfold Hid
            rw [parseWords_cons, if_neg e1, if_neg (fun h => hl1 h.2), if_neg (fun h => e3 h.1)]
          have hl2 : ¬ ((1 : Int) < tl.length) := by omega
          have hl3 : ((tl.length : Int) ≤ 1) := by omega
          clear e1 e2 e3 hw1 q1 q1'
          gi_wp2
          exact HEND.out HSM.out
      · obtain ⟨q2, q2'⟩ := bytes_no e2
        by_cases e3 : hd = [98, 111, 110, 100]
        · have q3 := bytes_yes e3
          by_cases hl4 : tl.length = 4
          · have HNX : Hid (parseWords s (hd :: tl) = ⟨s.gens, s.rows, s.bonds ++ [(((tl.map numOf).getD 0 0, (tl.map numOf).getD 1 0), ((tl.map numOf).getD 2 0, (tl.map numOf).getD 3 0))]⟩) := by
              unfold Hid
              rw [parseWords_cons, if_neg e1, if_neg (fun h => e2 h.1), if_pos ⟨e3, hl4⟩]
            clear e1 e2 e3 HEND hw1
            obtain ⟨ta, tb, tc, td, rfl⟩ : ∃ ta tb tc td, tl = [ta, tb, tc, td] := by
              match tl, hl4 with
              | [a, b, c, d], _ => exact ⟨a, b, c, d, rfl⟩
            simp only [List.map_cons, List.map_nil, List.length_cons, List.length_nil, Nat.zero_add, Nat.reduceAdd, List.getD_cons_zero, List.getD_cons_succ] at HNX HI4 HRD ⊢
            clear hl4 htl htl0 HPL HSW HN HST4
            generalize numOf ta = z0 at *
            generalize numOf tb = z1 at *
            generalize numOf tc = z2 at *
            generalize numOf td = z3 at *
            obtain ⟨nb, no, rfl, _, _, n0⟩ := HRD.out.at_ (k := 0) (by simp)
            obtain ⟨nb', no', eA, _, _, n1⟩ := HRD.out.at_ (k := 1) (by simp)
            cases eA
            obtain ⟨nb', no', eA, _, _, n2⟩ := HRD.out.at_ (k := 2) (by simp)
            cases eA
            obtain ⟨nb', no', eA, _, _, n3⟩ := HRD.out.at_ (k := 3) (by simp)
            cases eA
            have m0 : w4.cell? ⟨nb, no, none⟩ = some (.int .i64 z0) := n0
            have m1 : w4.cell? ⟨nb, no + 1, none⟩ = some (.int .i64 z1) := n1
            have m2 : w4.cell? ⟨nb, no + 2, none⟩ = some (.int .i64 z2) := n2
            have m3 : w4.cell? ⟨nb, no + 3, none⟩ = some (.int .i64 z3) := n3
            clear n0 n1 n2 n3
            have k2 : w4.cell? ⟨st, 2, none⟩ = some v3 := (HI4.out.reorder 6 [5, 0, 1, 2, 3, 4] rfl (by simp)).blk.cell 2
            gi_wp2
            refine wpIn_round_heldAs (fun W => W.cell? ⟨nb, no, none⟩ = some (.int .i64 z0) ∧ W.cell? ⟨nb, no + 1, none⟩ = some (.int .i64 z1) ∧ W.cell? ⟨nb, no + 2, none⟩ = some (.int .i64 z2) ∧ W.cell? ⟨nb, no + 3, none⟩ = some (.int .i64 z3)) [0, 2, 3, 4, 5, 6, 7, 8, 9, 10, 11, 12, 13, 14, 15, 16] 5 #[true, false, true, true, true, true, true, true, true, true, true, true, true, true, true, true, true, false, false, false, false] (by kernel_rfl) (by kernel_rfl) (fun ⟨a, w, h⟩ => by have h1 := And.left (show Exit.outgrown = Exit.normal ∧ _ from h); cases h1) (by kernel_rfl) (fun c a w h => by have h1 := And.left (show Exit.panic c = Exit.normal ∧ _ from h); cases h1) rfl (by kernel_rfl) (by kernel_rfl) ⟨m0, m1, m2, m3⟩ ?_
            intro ops hops
            iterate 16 (apply readsAt_stepL hops; rfl; rfl; (intro W hW; obtain ⟨hW1, hW2, hW3, hW4⟩ := hW; go_simp; rfl); simp only [Act.put, List.setIfInBounds_toArray, List.set_cons_zero, List.set_cons_succ])
            have hnb : nb < w4.heap.size := World.block_lt_of_cell? _ _ m0
            have hbl : s.bonds.length ≤ 6000 := by have := HNR.out; omega
            obtain ⟨i0, hi0, hz0, hz1, hz2⟩ := info_parts bond_parts
            have hrw : In (fun _ => False) w [RowB v3 s.bonds, Box st 26 #[v1, v2, v3], A1, A2, Box sb 9 #[.string (mkS rest)], IntsA v1 s.gens, RowsA v2 s.rows, IntsA (.slice (some ⟨nb, no, none⟩) 4 c4) [z0, z1, z2, z3]] w4.drew := (((HI4.out.reorder 9 [8, 5, 2, 3, 4, 6, 7, 0, 1] rfl (by simp)).perm (l' := [Box wb 9 (strs [hd, ta, tb, tc, td]), RowB v3 s.bonds, Box st 26 #[v1, v2, v3], A1, A2, Box sb 9 #[.string (mkS rest)], IntsA v1 s.gens, RowsA v2 s.rows, IntsA (.slice (some ⟨nb, no, none⟩) 4 c4) [z0, z1, z2, z3]]) (List.perm_append_comm (l₁ := [_, _, _, _, _, _, _, _]) (l₂ := [_]))).drop).drew
            have HRW := Lib.hid hrw
            have HOW := Lib.hid hrw.rowAt
            clear hrw
            have hb17 : Below w4.heap.size w4 (w4.alloc (.cells #[.int .i64 z0, .int .i64 z1, .int .i64 z2, .int .i64 z3] 56)).drew := ((Below.refl _ _).alloc (Nat.le_refl _) _).drew
            have s17 := (show _ ∧ _ ∧ _ ∧ _ from ⟨(hb17.cell (p := ⟨nb, no, none⟩) hnb).trans m0, (hb17.cell (p := ⟨nb, no + 1, none⟩) hnb).trans m1, (hb17.cell (p := ⟨nb, no + 2, none⟩) hnb).trans m2, (hb17.cell (p := ⟨nb, no + 3, none⟩) hnb).trans m3⟩)
            have k17 : ((w4.alloc (.cells #[.int .i64 z0, .int .i64 z1, .int .i64 z2, .int .i64 z3] 56)).drew).cell? ⟨st, 2, none⟩ = some v3 := (hb17.cell (p := ⟨st, 2, none⟩) (World.block_lt_of_cell? _ _ k2)).trans k2
            clear hb17
            refine wpAnyH_all (rs := [1, 17]) (by rw [← hops]; kernel_rfl) (by simp) ?_
            intro i hi
            simp only [List.mem_cons, List.not_mem_nil, or_false] at hi
            rcases hi with rfl | rfl
            · refine wpOp_do hops rfl rfl (wp_val (by go_simp; exact ⟨rfl, rfl⟩) ?_)
              simp only [Act.put, List.setIfInBounds_toArray, List.set_cons_zero, List.set_cons_succ]
              refine ⟨⟨m0, m1, m2, m3⟩, ?_⟩
              refine wpAnyH_all (rs := [17]) (by rw [← hops]; kernel_rfl) (by simp) ?_
              intro i hi
              rw [List.mem_singleton] at hi
              subst hi
              refine wpOp_do hops rfl rfl (wp_val (by go_simp; exact ⟨rfl, rfl⟩) ?_)
              simp only [Act.put, List.setIfInBounds_toArray, List.set_cons_zero, List.set_cons_succ]
              refine ⟨s17, ?_⟩
              refine wpAnyH_all (rs := [18]) (by rw [← hops]; kernel_rfl) (by simp) ?_
              intro i hi
              rw [List.mem_singleton] at hi
              subst hi
              refine wpOp_do hops rfl rfl ?_
              refine op_append1 (ops := ops) (w := w4.drew) rfl (.tmp 111) (.tmp 127) 24 rfl 0 56 i0 _ 4 32 Tryz.underlying24 hi0 hz0 hz1 hz2 rfl (by decide) v3 s.bonds.length (s.bonds.flatMap bC) rfl HOW.out [.int .i64 z0, .int .i64 z1, .int .i64 z2, .int .i64 z3] rfl rfl (by simp [Value.oneCell']) (by unfold maxLen; omega) (by omega) (Nat.zero_le _) ?_
              intro v' w10 hown7 hg7 hat7
              simp only [Act.put, List.setIfInBounds_toArray, List.set_cons_zero, List.set_cons_succ]
              have hi10 := In.append1 HRW.out hown7 hg7 hat7
              have hi11 : In (fun _ => False) w [RowB v' (s.bonds ++ [((z0, z1), (z2, z3))]), Box st 26 #[v1, v2, v3], A1, A2, Box sb 9 #[.string (mkS rest)], IntsA v1 s.gens, RowsA v2 s.rows, IntsA (.slice (some ⟨nb, no, none⟩) 4 c4) [z0, z1, z2, z3]] w10 := by
                unfold RowB
                rw [List.length_append, List.flatMap_append, List.flatMap_cons, List.flatMap_nil, List.append_nil]
                exact hi10
              have e1 : w10.frozen? ⟨st, 2, none⟩ = false := hi11.swap.blk.frozen 2
              have k3 : w10.cell? ⟨st, 2, none⟩ = some v3 := hi11.swap.blk.cell 2
              obtain ⟨bA, cA, rfl, _, _⟩ := In.rowForm hi11
              rw [List.length_append] at hi11
              have s18 := (hi11.reorder 8 [7, 0, 1, 2, 3, 4, 5, 6] rfl (by simp)).quadAt
              have hi12 : In (fun _ => False) w [A1, A2, Box sb 9 #[.string (mkS rest)], Box st 26 #[v1, v2, .slice bA (s.bonds.length + 1) cA], IntsA v1 s.gens, RowsA v2 s.rows, RowB (.slice bA (s.bonds.length + 1) cA) (s.bonds ++ [((z0, z1), (z2, z3))]), IntsA (.slice (some ⟨nb, no, none⟩) 4 c4) [z0, z1, z2, z3]] (w10.setCell ⟨st, 2, none⟩ (.slice bA (s.bonds.length + 1) cA)) := (hi11.swap.set 2 (.slice bA (s.bonds.length + 1) cA)).reorder 8 [2, 3, 4, 0, 5, 6, 1, 7] rfl (by simp)
              have s20 := (hi12.reorder 8 [7, 0, 1, 2, 3, 4, 5, 6] rfl (by simp)).quadAt
              have HI12 := Lib.hid ((hi12.reorder 8 [7, 0, 1, 2, 3, 4, 5, 6] rfl (by simp)).drop)
              clear hown7 hg7 hat7 hi10 hi11 hi12 HOW HRW
              refine ⟨s18, ?_⟩
              refine wpAnyH_all (rs := [19]) (by rw [← hops]; kernel_rfl) (by simp) ?_
              intro i hi
              rw [List.mem_singleton] at hi
              subst hi
              refine wpOp_do hops rfl rfl (wp_val (by go_simp; exact ⟨rfl, rfl⟩) ?_)
              simp only [Act.put, List.setIfInBounds_toArray, List.set_cons_zero, List.set_cons_succ]
              refine ⟨s18, ?_⟩
              refine wpAnyH_all (rs := [20]) (by rw [← hops]; kernel_rfl) (by simp) ?_
              intro i hi
              rw [List.mem_singleton] at hi
              subst hi
              refine wpOp_do hops rfl rfl (wp_none (w' := w10.setCell ⟨st, 2, none⟩ (.slice bA (s.bonds.length + 1) cA)) (by go_simp) ?_)
              refine ⟨s20, wpAnyH_done (by rw [← hops]; kernel_rfl) ?_ _⟩
              gi_wp2
              refine ⟨_, ⟨⟨s.gens, s.rows, s.bonds ++ [((z0, z1), (z2, z3))]⟩, _, _, _, rfl, ?_, ?_, HE8.out⟩, HI12.out⟩
              · rw [← HNX.out]; exact HNEXT.out
              · have := HNR.out; simp only [List.length_append, List.length_cons, List.length_nil]; omega
            · refine wpOp_do hops rfl rfl (wp_val (by go_simp; exact ⟨rfl, rfl⟩) ?_)
              simp only [Act.put, List.setIfInBounds_toArray, List.set_cons_zero, List.set_cons_succ]
              refine ⟨s17, ?_⟩
              refine wpAnyH_all (rs := [1]) (by rw [← hops]; kernel_rfl) (by simp) ?_
              intro i hi
              rw [List.mem_singleton] at hi
              subst hi
              refine wpOp_do hops rfl rfl (wp_val (by go_simp; exact ⟨rfl, rfl⟩) ?_)
              simp only [Act.put, List.setIfInBounds_toArray, List.set_cons_zero, List.set_cons_succ]
              refine ⟨s17, ?_⟩
              refine wpAnyH_all (rs := [18]) (by rw [← hops]; kernel_rfl) (by simp) ?_
              intro i hi
              rw [List.mem_singleton] at hi
              subst hi
              refine wpOp_do hops rfl rfl ?_
              refine op_append1 (ops := ops) (w := w4.drew) rfl (.tmp 111) (.tmp 127) 24 rfl 0 56 i0 _ 4 32 Tryz.underlying24 hi0 hz0 hz1 hz2 rfl (by decide) v3 s.bonds.length (s.bonds.flatMap bC) rfl HOW.out [.int .i64 z0, .int .i64 z1, .int .i64 z2, .int .i64 z3] rfl rfl (by simp [Value.oneCell']) (by unfold maxLen; omega) (by omega) (Nat.zero_le _) ?_
              intro v' w10 hown7 hg7 hat7
              simp only [Act.put, List.setIfInBounds_toArray, List.set_cons_zero, List.set_cons_succ]
              have hi10 := In.append1 HRW.out hown7 hg7 hat7
              have hi11 : In (fun _ => False) w [RowB v' (s.bonds ++ [((z0, z1), (z2, z3))]), Box st 26 #[v1, v2, v3], A1, A2, Box sb 9 #[.string (mkS rest)], IntsA v1 s.gens, RowsA v2 s.rows, IntsA (.slice (some ⟨nb, no, none⟩) 4 c4) [z0, z1, z2, z3]] w10 := by
                unfold RowB
                rw [List.length_append, List.flatMap_append, List.flatMap_cons, List.flatMap_nil, List.append_nil]
                exact hi10
              have e1 : w10.frozen? ⟨st, 2, none⟩ = false := hi11.swap.blk.frozen 2
              have k3 : w10.cell? ⟨st, 2, none⟩ = some v3 := hi11.swap.blk.cell 2
              obtain ⟨bA, cA, rfl, _, _⟩ := In.rowForm hi11
              rw [List.length_append] at hi11
              have s18 := (hi11.reorder 8 [7, 0, 1, 2, 3, 4, 5, 6] rfl (by simp)).quadAt
              have hi12 : In (fun _ => False) w [A1, A2, Box sb 9 #[.string (mkS rest)], Box st 26 #[v1, v2, .slice bA (s.bonds.length + 1) cA], IntsA v1 s.gens, RowsA v2 s.rows, RowB (.slice bA (s.bonds.length + 1) cA) (s.bonds ++ [((z0, z1), (z2, z3))]), IntsA (.slice (some ⟨nb, no, none⟩) 4 c4) [z0, z1, z2, z3]] (w10.setCell ⟨st, 2, none⟩ (.slice bA (s.bonds.length + 1) cA)) := (hi11.swap.set 2 (.slice bA (s.bonds.length + 1) cA)).reorder 8 [2, 3, 4, 0, 5, 6, 1, 7] rfl (by simp)
              have s20 := (hi12.reorder 8 [7, 0, 1, 2, 3, 4, 5, 6] rfl (by simp)).quadAt
              have HI12 := Lib.hid ((hi12.reorder 8 [7, 0, 1, 2, 3, 4, 5, 6] rfl (by simp)).drop)
              clear hown7 hg7 hat7 hi10 hi11 hi12 HOW HRW
              refine ⟨s18, ?_⟩
              refine wpAnyH_all (rs := [19]) (by rw [← hops]; kernel_rfl) (by simp) ?_
              intro i hi
              rw [List.mem_singleton] at hi
              subst hi
              refine wpOp_do hops rfl rfl (wp_val (by go_simp; exact ⟨rfl, rfl⟩) ?_)
              simp only [Act.put, List.setIfInBounds_toArray, List.set_cons_zero, List.set_cons_succ]
              refine ⟨s18, ?_⟩
              refine wpAnyH_all (rs := [20]) (by rw [← hops]; kernel_rfl) (by simp) ?_
              intro i hi
              rw [List.mem_singleton] at hi
              subst hi
              refine wpOp_do hops rfl rfl (wp_none (w' := w10.setCell ⟨st, 2, none⟩ (.slice bA (s.bonds.length + 1) cA)) (by go_simp) ?_)
              refine ⟨s20, wpAnyH_done (by rw [← hops]; kernel_rfl) ?_ _⟩
              gi_wp2
              refine ⟨_, ⟨⟨s.gens, s.rows, s.bonds ++ [((z0, z1), (z2, z3))]⟩, _, _, _, rfl, ?_, ?_, HE8.out⟩, HI12.out⟩
              · rw [← HNX.out]; exact HNEXT.out
              · have := HNR.out; simp only [List.length_append, List.length_cons, List.length_nil]; omega
          · have HSM : Hid (parseWords s (hd :: tl) = s) := by
              unfold Hid
              rw [parseWords_cons, if_neg e1, if_neg (fun h => e2 h.1), if_neg (fun h => hl4 h.2)]
            have hl2 : ¬ ((tl.length : Int) = 4) := by omega
            have hl3 : ((tl.length : Int) == 4) = false := by simpa using hl2
            clear e1 e2 e3 hw1 q1 q1' q2 q2'
            gi_wp2
            exact HEND.out HSM.out
        · have HSM : Hid (parseWords s (hd :: tl) = s) := by
            unfold Hid
            rw [parseWords_cons, if_neg e1, if_neg (fun h => e2 h.1), if_neg (fun h => e3 h.1)]
          obtain ⟨q3, q3'⟩ := bytes_no e3
          clear e1 e2 e3 hw1
          gi_wp2
          exact HEND.out HSM.out
  case done =>
    intro D L W hK hI hD hID
    obtain ⟨s, v1, v2, v3, rfl, hS, _, h8⟩ := hK
    have hS' : s = parseT t := hS
    have HSP : Hid (parseT t = s) := hS'.symm
    clear hS' hS
    obtain ⟨B1, c1, rfl, _, _⟩ := In.rowForm hI.swap
    obtain ⟨B2, c2, rfl, _, _⟩ := In.rowForm (hI.reorder 3 [2, 0, 1] rfl (by simp))
    obtain ⟨B3, c3, rfl, _, _⟩ := In.rowForm hI.fourth
    have q : row? W st 0 3 = some #[.slice B1 s.gens.length c1, .slice B2 s.rows.length c2, .slice B3 s.bonds.length c3] := by rw [hI.blk.row 0 3 (by simp)]; rfl
    have f : fits W st 0 3 = true := hI.blk.fits 0 3 (by simp)
    have HI := Lib.hid hI
    have HID := Lib.hid hID
    have HE := Lib.hid h8
    clear hI hID h8 hD
    go_wp2_with fail
    have hi2 := HID.out.swap.putV [.slice B1 s.gens.length c1, .slice B2 s.rows.length c2, .slice B3 s.bonds.length c3] rfl
    have hk := hi2.swap.obj
    have hi3 := (hi2.swap.putO (.deferred none)).swap
    refine ⟨by simp, .inl ⟨D, _, rfl, run_takeDeferred hk, ?_⟩⟩
    refine leaves_state (p := 2) rfl (g := st) rfl (by rw [hi3.blk.row 0 3 (by simp)]; rfl) ?_
    rw [HSP.out]
    exact ⟨_, _, _, rfl, hi3.drop.drop, HE.out⟩

end Go.Proofs.YtpgcghnlepnoiaaGreatDoor

/-
  The contract of text.Parse.
-/
namespace Go.Proofs.YtpgcghnlepnoiaaGreatDoor
open Go.RowKit

theorem In.rowsRd {F : Nat → Prop} {w0 w : World} {l : List Assn} {A : Option Addr} {n c : Nat} {rows : List RowM} (h : In F w0 (RowsA (.slice A n c) rows :: l) w) (h8 : ∀ r ∈ rows, r.b.v.length = 8) : RowsRd w w.heap.size A rows := by
  obtain ⟨A', c', e, _, _, hr⟩ := h.rowsAt
  injection e with e1 e2 e3
  subst e1
  refine ⟨fun r hr => ?_, fun h0 => ?_⟩
  · obtain ⟨x, hx, rfl⟩ := List.mem_map.1 hr
    simp [RowM.list, Beast.list, h8 x hx]
  · rw [List.length_map] at h0
    obtain ⟨g, hA, h1⟩ := hr 0 h0
    refine ⟨g, 0, hA, row_lt h1, fun k r hk => ?_⟩
    rw [List.getElem?_map] at hk
    cases hx : rows[k]? with
    | none => rw [hx] at hk; cases hk
    | some x =>
      rw [hx] at hk
      cases hk
      have hlt := (List.getElem?_eq_some_iff.1 hx).1
      have hxe := (List.getElem?_eq_some_iff.1 hx).2
      obtain ⟨g', hA', h2⟩ := hr k hlt
      rw [hA] at hA'
      cases hA'
      rw [Nat.zero_add, h2]
      have : rows.getD k zeroRow = x := by simp [List.getD, hx]
      rw [this, rowE_eq (h8 x (by rw [← hxe]; exact List.getElem_mem hlt))]
theorem clip_any (A : Option Addr) (n c : Nat) (w : World) (hA : A = none → n = 0 ∧ c = 0) (hnc : n ≤ c) (hc : c ≤ maxLen) : Calls Tryz.prog 26 #[.slice A n c] w fun e w' => e = .returned (.slice A n n) ∧ w = w' := by
  unfold maxLen at hc
  have h1 : (n : Int) ≤ c := by omega
  have h2 : (c : Int) ≤ 9223372036854775807 := by omega
  go_enter Tryz.func26, Tryz.ntmps26
  cases A with
  | none =>
    obtain ⟨rfl, rfl⟩ := hA rfl
    go_wp2_with fail
    go_ret
    exact ⟨rfl, rfl⟩
  | some a =>
    clear hA
    go_wp2_with fail
    go_ret
    exact ⟨rfl, rfl⟩
theorem In.bondsRd {F : Nat → Prop} {w0 w : World} {l : List Assn} {A : Option Addr} {n c : Nat} {bs : List (Hd × Hd)} (h : In F w0 (RowB (.slice A n c) bs :: l) w) : BondsRd w w.heap.size A bs := by
  obtain ⟨F1, hA, _⟩ := h.open_
  have ho := hA.1
  obtain ⟨A', c', e, _, _, hg⟩ := own_form ho
  injection e with e1 e2 e3
  subst e1
  subst e2
  refine ⟨fun r hr => ?_, fun h0 => ?_⟩
  · obtain ⟨x, hx, rfl⟩ := List.mem_map.1 hr
    rfl
  · rw [List.length_map] at h0
    obtain ⟨g, rfl⟩ := hg h0
    refine ⟨g, 0, rfl, row_lt (own_row ho h0), fun k r hk => ?_⟩
    rw [List.getElem?_map] at hk
    cases hx : bs[k]? with
    | none => rw [hx] at hk; cases hk
    | some x =>
      rw [hx] at hk
      cases hk
      have hlt := (List.getElem?_eq_some_iff.1 hx).1
      have hxe := (List.getElem?_eq_some_iff.1 hx).2
      rw [Nat.zero_add, own_row ho hlt, flat_at bC_len bs k hlt, hxe]
      rfl
/-- what a call has made beside what there was -/
theorem In.beside {F : Nat → Prop} {w0 w w' : World} {l l2 : List Assn} (h : In F w0 l w) (h2 : In (fun _ => False) w l2 w') : In F w0 (l2 ++ l) w' := by
  have hb := h2.below0
  have hsz := hb.size
  have hs0 := h.only.size
  have s1 : Sep l w' (fun k => (F k ∨ w0.heap.size ≤ k) ∧ k < w.heap.size) := h.sep.frame (G := fun k => w.heap.size ≤ k) (Only.of_below hb) fun k a b => by omega
  refine ⟨(Sep.join h2.sep s1 fun k a b => ?_).cut fun k hk hf => ?_, h.only.trans (Only.of_below hb)⟩
  · rcases a.1 with a1 | a1
    · exact a1
    · omega
  · rcases hf with hf | hf
    · exact ⟨Or.inr (by rcases hf.1 with a1 | a1; exact a1.elim; omega), hk⟩
    · exact ⟨hf.1, hk⟩
/-- how text.Parse ends -/
def ParseEnd (w : World) (t : Bs) (e : Ending) (w' : World) : Prop := Below w.heap.size w w' ∧
  if 6000 < t.length then e = .returned (.tuple #[.agg #[.slice none 0 0, .slice none 0 0, .slice none 0 0], .int .i64 2])
  else if printR (parseT t) = (t, 0) then ∃ A1 A2 A3 c2 c3, e = .returned (.tuple #[.agg #[.slice A1 (parseT t).gens.length (parseT t).gens.length, .slice A2 (parseT t).rows.length c2, .slice A3 (parseT t).bonds.length c3], .int .i64 0]) ∧
    ReadsI w' w'.heap.size A1 (parseT t).gens.length (parseT t).gens ∧ RowsRd w' w'.heap.size A2 (parseT t).rows ∧ BondsRd w' w'.heap.size A3 (parseT t).bonds ∧
    (parseT t).gens.length ≤ maxLen ∧ (parseT t).rows.length ≤ c2 ∧ c2 ≤ maxLen ∧ (parseT t).bonds.length ≤ c3 ∧ c3 ≤ maxLen
  else e = .returned (.tuple #[.agg #[.slice none 0 0, .slice none 0 0, .slice none 0 0], .int .i64 9])
set_option maxHeartbeats 1000000 in
set_option maxRecDepth 100000 in
theorem Parse_any (t : Bs) (w : World) (hG : Globs w) : Calls Tryz.prog 8 #[.string (mkS t)] w (ParseEnd w t) := by
  have HG := Lib.hid hG
  have hsz : (mkS t).size = t.length := mkS_size t
  clear hG
  go_enter Tryz.func8, Tryz.ntmps8
  go_upto_region 1 with (fail)
  have hI1 := (In.nil w (fun _ => False)).alloc 26 #[.slice none 0 0, .slice none 0 0, .slice none 0 0]
  generalize w.heap.size = st at hI1 ⊢
  generalize w.alloc (.cells #[.slice none 0 0, .slice none 0 0, .slice none 0 0] 26) = w1 at *
  have HI1 := Lib.hid hI1
  have f1 : fits w1 st 0 3 = true := hI1.blk.fits 0 3 (by simp)
  clear hI1
  by_cases hl : 6000 < t.length
  · have hl1 : (6000 : Int) < (mkS t).size := by rw [hsz]; omega
    go_wp2_with fail
    have HE := HI1.out.putV [.slice none 0 0, .slice none 0 0, .slice none 0 0] rfl
    refine bodyPost_row_tmp rfl st 26 _ (.int .i64 2) _ rfl rfl HE.blk Tryz.underlying26 rfl state_info rfl ?_
    exact ⟨HE.below0, by rw [if_pos hl]⟩
  · have hl1 : ¬ ((6000 : Int) < (mkS t).size) := by rw [hsz]; omega
    have hl2 : ((mkS t).size : Int) ≤ 6000 := by rw [hsz]; omega
    have HPA := Lib.hid (parse_any t (by omega) w1 (HG.out.below HI1.out.below0))
    have HNL := Lib.hid hl
    clear hl
    go_wp2_with fail
    refine HPA.out.mono ?_
    rintro e w2 ⟨v1, v2, v3, rfl, hi2, h8⟩
    obtain ⟨B1, c1, rfl, g1, g1'⟩ := In.rowForm hi2
    obtain ⟨B2, c2, rfl, g2, g2'⟩ := In.rowForm hi2.swap
    obtain ⟨B3, c3, rfl, g3, g3'⟩ := In.rowForm hi2.third
    have hi3 := HI1.out.beside hi2
    have HI3 := Lib.hid hi3
    have H8 := Lib.hid h8
    clear hi2 hi3 h8 HPA HI1
    go_upto_region 4 with (fail)
    refine wp_abs (In (fun _ => False) w (Box w2.heap.size 26 #[.slice B1 (parseT t).gens.length c1, .slice B2 (parseT t).rows.length c2, .slice B3 (parseT t).bonds.length c3] :: _)) (HI3.out.newState _ _ _) ?_
    generalize w2.heap.size = sb
    clear HI3
    intro w3 hI3
    simp only [List.cons_append, List.nil_append] at hI3
    obtain ⟨A', c', eA, hrd⟩ := hI3.swap.intsAt
    injection eA with e1 e2 e3
    subst e1
    subst e3
    clear e2
    have hrr := In.rowsRd hI3.third H8.out
    have hrb := In.bondsRd hI3.fourth
    have hgl : (parseT t).gens.length ≤ maxLen := Nat.le_trans g1 g1'
    have hrl : (parseT t).rows.length ≤ maxLen := Nat.le_trans g2 g2'
    have HP := Lib.hid (print_any B1 B2 B3 c1 c2 c3 (parseT t) w3 (HG.out.below hI3.below0) hrd hrr hrb hgl hrl ⟨g3, g3'⟩)
    have q0 : row? w3 sb 0 3 = some #[.slice B1 (parseT t).gens.length c1, .slice B2 (parseT t).rows.length c2, .slice B3 (parseT t).bonds.length c3] := by rw [hI3.blk.row 0 3 (by simp)]; rfl
    have HI3 := Lib.hid hI3
    have HCP : Hid (∀ W, Calls Tryz.prog 26 #[.slice B1 (parseT t).gens.length c1] W fun e w' => e = .returned (.slice B1 (parseT t).gens.length (parseT t).gens.length) ∧ W = w') := fun W => clip_any B1 _ c1 W (fun hn => by
      obtain ⟨F1, hA, _⟩ := hI3.swap.open_
      obtain ⟨_, hA2⟩ := hA.1
      rcases hA2 with ⟨h1, h2⟩ | ⟨g, cap, cur, h1, _⟩
      · injection h1 with h1 h3 h4
        exact ⟨h2, h4⟩
      · injection h1 with h1
        rw [hn] at h1; cases h1) g1 g1'
    have HGS := Lib.hid (⟨g1, g1', g2, g2', g3, g3'⟩ : (parseT t).gens.length ≤ c1 ∧ c1 ≤ maxLen ∧ (parseT t).rows.length ≤ c2 ∧ c2 ≤ maxLen ∧ (parseT t).bonds.length ≤ c3 ∧ c3 ≤ maxLen)
    clear hI3 hrd hrr hrb hgl hrl g1 g1' g2 g2' g3 g3'
    generalize hps : parseT t = s at *
    have HPS := Lib.hid hps
    clear hps
    go_wp2_with fail
    refine HP.out.mono ?_
    rintro e w4 ⟨rfl, hb4⟩
    have hi4 := HI3.out.below hb4
    have q0 : row? w4 sb 0 3 = some #[.slice B1 s.gens.length c1, .slice B2 s.rows.length c2, .slice B3 s.bonds.length c3] := by rw [hi4.blk.row 0 3 (by simp)]; rfl
    have c0 : w4.cell? ⟨sb, 0, none⟩ = some (.slice B1 s.gens.length c1) := hi4.blk.cell 0
    have z0 : w4.frozen? ⟨sb, 0, none⟩ = false := hi4.blk.frozen 0
    have f4 : fits w4 st 0 3 = true := (hi4.reorder 5 [4, 0, 1, 2, 3] rfl (by simp)).blk.fits 0 3 (by simp)
    have HI4 := Lib.hid hi4
    clear hi4 hb4 HP HI3
    by_cases hok : printR s = (t, 0)
    · have HOK := Lib.hid hok
      rw [hok]
      clear hok
      have hi5 := HI4.out.set 0 (.slice B1 s.gens.length s.gens.length)
      have q5 : row? (w4.setCell ⟨sb, 0, none⟩ (.slice B1 s.gens.length s.gens.length)) sb 0 3 = some #[.slice B1 s.gens.length s.gens.length, .slice B2 s.rows.length c2, .slice B3 s.bonds.length c3] := by rw [hi5.blk.row 0 3 (by simp)]; rfl
      have f5 : fits (w4.setCell ⟨sb, 0, none⟩ (.slice B1 s.gens.length s.gens.length)) st 0 3 = true := (hi5.reorder 5 [4, 0, 1, 2, 3] rfl (by simp)).blk.fits 0 3 (by simp)
      have HI5 := Lib.hid hi5
      clear hi5 q0
      go_wp2_with fail
      refine (HCP.out w4).mono ?_
      rintro e w5 ⟨rfl, rfl⟩
      go_wp2_with fail
      have HE := (HI5.out.reorder 5 [4, 0, 1, 2, 3] rfl (by simp)).putV [.slice B1 s.gens.length s.gens.length, .slice B2 s.rows.length c2, .slice B3 s.bonds.length c3] rfl
      simp only [List.map_cons, List.map_nil, List.getD_cons_zero, List.getD_cons_succ, List.drop_succ_cons, List.drop_nil, List.append_nil] at HE
      refine bodyPost_row_tmp rfl st 26 _ (.int .i64 0) _ rfl rfl HE.blk Tryz.underlying26 rfl state_info rfl ?_
      refine ⟨HE.below0, ?_⟩
      rw [if_neg HNL.out, HPS.out, if_pos HOK.out]
      obtain ⟨A', c', eA, hrd⟩ := HE.third.intsAt
      injection eA with e1 e2 e3
      subst e1
      obtain ⟨k1, k2, k3, k4, k5, k6⟩ := HGS.out
      exact ⟨_, _, _, c2, c3, rfl, hrd, In.rowsRd HE.fourth H8.out, In.bondsRd HE.fifth, Nat.le_trans k1 k2, k3, k4, k5, k6⟩
    · have HOK := Lib.hid hok
      have hcase : (printR s).2 ≠ 0 ∨ ((printR s).2 = 0 ∧ ¬ (printR s).1 = t) := by
        by_cases h0 : (printR s).2 = 0
        · exact Or.inr ⟨h0, fun h1 => hok (Prod.ext h1 h0)⟩
        · exact Or.inl h0
      clear hok HCP q0 c0 z0
      generalize (printR s).1 = u at *
      generalize (printR s).2 = n at *
      have HE := Lib.hid ((HI4.out.reorder 5 [4, 0, 1, 2, 3] rfl (by simp)).putV [.slice none 0 0, .slice none 0 0, .slice none 0 0] rfl)
      rcases hcase with hn | ⟨rfl, hu⟩
      · go_wp2_with fail
        refine bodyPost_row_tmp rfl st 26 _ (.int .i64 9) _ rfl rfl HE.out.blk Tryz.underlying26 rfl state_info rfl ?_
        exact ⟨HE.out.below0, by rw [if_neg HNL.out, HPS.out, if_neg HOK.out]⟩
      · obtain ⟨u1, u2⟩ := bytes_no hu
        have u3 : ¬ (mkS u = mkS t) := fun e => hu (by have := congrArg (fun b => b.data.toList) e; exact this)
        have et : (mkS t).toList = t := by rw [ByteArray.toList_eq]; rfl
        rw [← et] at u1 u2
        clear hu et
        go_wp2_with fail
        refine bodyPost_row_tmp rfl st 26 _ (.int .i64 9) _ rfl rfl HE.out.blk Tryz.underlying26 rfl state_info rfl ?_
        exact ⟨HE.out.below0, by rw [if_neg HNL.out, HPS.out, if_neg HOK.out]⟩

end Go.Proofs.YtpgcghnlepnoiaaGreatDoor

/-
  The contract of vivariumkeep.told; what is printed and parsed, in plain words.
-/
namespace Go.Proofs.YtpgcghnlepnoiaaGreatDoor
open Go.RowKit

/-! ### plain laws -/
theorem print_cases (s : StM) (h8 : ∀ r ∈ s.rows, r.b.v.length = 8) : (printR s = (textS s, 0) ∧ StOk s) ∨ ((printR s).1 = [] ∧ (printR s).2 ≠ 0) := by
  unfold printR
  cases h : loadZ s with
  | mk z n =>
    cases z with
    | none =>
      right
      refine ⟨rfl, ?_⟩
      exact loadZ_none h
    | some z =>
      obtain ⟨_, h2, _⟩ := loadZ_ok h h8
      simp only
      split
      · exact Or.inl ⟨rfl, h2⟩
      · exact Or.inr ⟨rfl, by simp⟩
/-- what is printed is parsed as it was -/
theorem printed_back {s : StM} (h : printR s = (textS s, 0)) (hs : StOk s) : parseT (textS s) = s ∧ printR (parseT (textS s)) = (textS s, 0) := by
  have := parse_text s hs
  exact ⟨this, by rw [this]; exact h⟩
def toldS : StM := ⟨[4], [⟨(0, 4), ⟨2, [0, -3, 0, 0, 0, 0, 0, 0]⟩⟩], []⟩
theorem told_load : (loadZ toldS).1.isSome = true := by kernel_rfl
theorem told_bytes : textS toldS = [103, 101, 110, 115, 32, 52, 10, 114, 111, 119, 32, 48, 32, 52, 32, 49, 61, 45, 51, 10] := by
  have hk : kinds 2 = [1] := by kernel_rfl
  have i0 : Lib.itoa 0 = [48] := by simp [Lib.itoa, Lib.decDigits]
  have i1 : Lib.itoa 1 = [49] := by simp [Lib.itoa, Lib.decDigits]
  have i4 : Lib.itoa 4 = [52] := by simp [Lib.itoa, Lib.decDigits]
  have i3 : Lib.itoa (-3) = [45, 51] := by simp [Lib.itoa, Lib.decDigits]
  simp [textS, lnes, toldS, gensLine, rowLine, kvs, kv, nums, wGens, wRow, hk, i0, i1, i4, i3]
theorem told_text : printR toldS = ([103, 101, 110, 115, 32, 52, 10, 114, 111, 119, 32, 48, 32, 52, 32, 49, 61, 45, 51, 10], 0) := by
  have h1 := told_load
  unfold printR
  cases h : loadZ toldS with
  | mk z n =>
    rw [h] at h1
    cases z with
    | none => cases h1
    | some z =>
      have hr1 : riseB (toldS.rows.map fun x => x.h) = true := riseB_yes fun i hi => by simp [toldS] at hi
      have hr2 : riseB (toldS.bonds.map fun x => x.1) = true := riseB_yes fun i hi => by simp [toldS] at hi
      simp only
      rw [if_pos ⟨hr1, hr2⟩, told_bytes]
set_option maxHeartbeats 2000000 in
set_option maxRecDepth 100000 in
theorem told_any (w : World) (hG : Globs w) : Calls Tryz.prog 6 #[] w fun e w' => e = .returned (.bool true) ∧ Below w.heap.size w w' := by
  have HG := Lib.hid hG
  have hb1 : ∀ W, (Instr.buildSlice 22 1 #[(0, .int .i64 4)]).run Tryz.prog W = .ok (.slice (some ⟨W.heap.size, 0, none⟩) 1 1) (W.alloc (.cells (ints [4]) 3)) := fun W => by kernel_rfl
  have hb2 : ∀ W, (Instr.build 46 #[(1, .int .i64 4)]).run Tryz.prog W = .ok (.agg (ints [0, 4])) W := fun W => by kernel_rfl
  have hb3 : ∀ W, (Instr.build 47 #[(1, .int .i64 (-3))]).run Tryz.prog W = .ok (.agg (ints [0, -3, 0, 0, 0, 0, 0, 0])) W := fun W => by kernel_rfl
  have hb4 : ∀ W, (Instr.build 49 #[(0, .int .i64 2), (1, .agg (ints [0, -3, 0, 0, 0, 0, 0, 0]))]).run Tryz.prog W = .ok (.agg (ints [2, 0, -3, 0, 0, 0, 0, 0, 0])) W := fun W => by kernel_rfl
  have hb5 : ∀ W, (Instr.build 51 #[(0, .agg (ints [0, 4])), (1, .agg (ints [2, 0, -3, 0, 0, 0, 0, 0, 0]))]).run Tryz.prog W = .ok (.agg (ints [0, 4, 2, 0, -3, 0, 0, 0, 0, 0, 0])) W := fun W => by kernel_rfl
  have hb6 : ∀ W, (Instr.buildSlice 23 1 #[(0, .agg (ints [0, 4, 2, 0, -3, 0, 0, 0, 0, 0, 0]))]).run Tryz.prog W = .ok (.slice (some ⟨W.heap.size, 0, none⟩) 1 1) (W.alloc (.cells (ints [0, 4, 2, 0, -3, 0, 0, 0, 0, 0, 0]) 51)) := fun W => by kernel_rfl
  have hb7 : ∀ W (g g' : Nat), (Instr.build 26 #[(0, .slice (some ⟨g, 0, none⟩) 1 1), (1, .slice (some ⟨g', 0, none⟩) 1 1)]).run Tryz.prog W = .ok (.agg #[.slice (some ⟨g, 0, none⟩) 1 1, .slice (some ⟨g', 0, none⟩) 1 1, .slice none 0 0]) W := fun W g g' => by kernel_rfl
  have hi := ((In.nil w (fun _ => False)).alloc 3 #[.int .i64 4]).alloc 51 #[.int .i64 0, .int .i64 4, .int .i64 2, .int .i64 0, .int .i64 (-3), .int .i64 0, .int .i64 0, .int .i64 0, .int .i64 0, .int .i64 0, .int .i64 0]
  rw [World.size_alloc] at hi
  have hsz : w.heap.size + 1 < ((w.alloc (.cells #[.int .i64 4] 3)).alloc (.cells #[.int .i64 0, .int .i64 4, .int .i64 2, .int .i64 0, .int .i64 (-3), .int .i64 0, .int .i64 0, .int .i64 0, .int .i64 0, .int .i64 0, .int .i64 0] 51)).heap.size := by rw [World.size_alloc, World.size_alloc]; omega
  have hP := print_any (some ⟨w.heap.size, 0, none⟩) (some ⟨w.heap.size + 1, 0, none⟩) none 1 1 0 toldS _ (HG.out.below hi.below0) (by
      refine ⟨by simp [toldS], fun _ => ⟨w.heap.size, 0, rfl, by omega, fun j u hu => ?_⟩⟩
      rw [hi.swap.blk.cell (0 + j), Nat.zero_add]
      simpa [toldS] using hu) (by
      refine ⟨fun r hr => ?_, fun _ => ⟨w.heap.size + 1, 0, rfl, hsz, fun k r hk => ?_⟩⟩
      · simp only [toldS, List.map_cons, List.map_nil, List.mem_singleton] at hr
        subst hr; rfl
      · simp only [toldS, List.map_cons, List.map_nil] at hk
        cases k with
        | zero => cases hk; exact hi.blk.row_all rfl
        | succ k => simp at hk) (by
      refine ⟨fun r hr => ?_, fun h => ?_⟩
      · simp [toldS] at hr
      · simp [toldS] at h) (by decide) (by decide) ⟨by decide, by decide⟩
  rw [told_text] at hP
  have HP : Hid (Calls Tryz.prog 7 #[.agg #[.slice (some ⟨w.heap.size, 0, none⟩) 1 1, .slice (some ⟨w.heap.size + 1, 0, none⟩) 1 1, .slice none 0 0]] _ _) := hP
  have HB := Lib.hid hi.below0
  clear hP hi hsz
  go_enter Tryz.func6, Tryz.ntmps6
  go_wp2_with fail
  refine HP.out.mono ?_
  rintro e w2 ⟨rfl, hb⟩
  have HB2 : Hid (Below w.heap.size w w2) := HB.out.trans (hb.mono HB.out.size)
  have q1 : (mkS [103, 101, 110, 115, 32, 52, 10, 114, 111, 119, 32, 48, 32, 52, 32, 49, 61, 45, 51, 10]).toList = [103, 101, 110, 115, 32, 52, 10, 114, 111, 119, 32, 48, 32, 52, 32, 49, 61, 45, 51, 10] := bytes_yes rfl
  clear hb HB HP hb1 hb2 hb3 hb4 hb5 hb6 hb7
  go_wp2_with fail
  go_ret
  exact ⟨rfl, HB2.out⟩

end Go.Proofs.YtpgcghnlepnoiaaGreatDoor

/-
  The contract of vivariumref.Same, at two states that are read, and are one.
-/
namespace Go.Proofs.YtpgcghnlepnoiaaGreatDoor
open Go.RowKit

/-- a state that is read -/
structure StRd (w : World) (A1 A2 A3 : Option Addr) (s : StM) : Prop where
  g : ReadsI w w.heap.size A1 s.gens.length s.gens
  r : RowsRd w w.heap.size A2 s.rows
  b : BondsRd w w.heap.size A3 s.bonds
  gl : s.gens.length ≤ maxLen
  rl : s.rows.length ≤ maxLen
  bl : s.bonds.length ≤ maxLen
theorem StRd.below {w w' : World} {A1 A2 A3 : Option Addr} {s : StM} (h : StRd w A1 A2 A3 s) (hb : Below w.heap.size w w') : StRd w' A1 A2 A3 s :=
  ⟨(Reads.below h.g hb).more hb.size, (Chunks.below h.r hb).more hb.size, (Chunks.below h.b hb).more hb.size, h.gl, h.rl, h.bl⟩
theorem StRd.none (w : World) : StRd w none none none stm0 :=
  ⟨⟨rfl, fun h => absurd h (Nat.lt_irrefl _)⟩, ⟨fun r hr => (by cases hr), fun h => absurd h (Nat.lt_irrefl _)⟩, ⟨fun r hr => (by cases hr), fun h => absurd h (Nat.lt_irrefl _)⟩, Nat.zero_le _, Nat.zero_le _, Nat.zero_le _⟩
set_option maxHeartbeats 2000000 in
set_option maxRecDepth 100000 in
theorem same_rd {w : World} {A1 A2 A3 B1 B2 B3 : Option Addr} {s : StM} (c1 c2 c3 d1 d2 d3 : Nat) (h : StRd w A1 A2 A3 s) (h' : StRd w B1 B2 B3 s) :
    Calls Tryz.prog 9 #[.agg #[.slice A1 s.gens.length c1, .slice A2 s.rows.length c2, .slice A3 s.bonds.length c3], .agg #[.slice B1 s.gens.length d1, .slice B2 s.rows.length d2, .slice B3 s.bonds.length d3]] w fun e w' => e = .returned (.bool true) ∧ Below w.heap.size w w' := by
  have H := Lib.hid h
  have H' := Lib.hid h'
  clear h h'
  go_enter Tryz.func9, Tryz.ntmps9
  go_upto_region 1 with (fail)
  refine wp_abs (fun w' => Blk w' (w.heap.size + 1) 26 #[.slice B1 s.gens.length d1, .slice B2 s.rows.length d2, .slice B3 s.bonds.length d3] ∧ Blk w' w.heap.size 26 #[.slice A1 s.gens.length c1, .slice A2 s.rows.length c2, .slice A3 s.bonds.length c3] ∧ Below w.heap.size w w') ⟨by
    have := Blk.new (w.alloc (.cells #[.slice A1 s.gens.length c1, .slice A2 s.rows.length c2, .slice A3 s.bonds.length c3] 26)) 26 #[.slice B1 s.gens.length d1, .slice B2 s.rows.length d2, .slice B3 s.bonds.length d3]
    rwa [World.size_alloc] at this, (Blk.new w _ _).alloc _, ((Below.refl _ _).alloc (Nat.le_refl _) _).alloc (by simp) _⟩ ?_
  generalize w.heap.size + 1 = s2
  generalize hs1 : w.heap.size = s1
  rintro w1 ⟨hB2, hB1, hb⟩
  have a0 : w1.cell? ⟨s1, 0, none⟩ = some (.slice A1 s.gens.length c1) := hB1.cell 0
  have a1 : w1.cell? ⟨s1, 1, none⟩ = some (.slice A2 s.rows.length c2) := hB1.cell 1
  have b0 : w1.cell? ⟨s2, 0, none⟩ = some (.slice B1 s.gens.length d1) := hB2.cell 0
  have b1 : w1.cell? ⟨s2, 1, none⟩ = some (.slice B2 s.rows.length d2) := hB2.cell 1
  rw [← hs1] at hb
  have h1 := H.out.below hb
  have h1' := H'.out.below hb
  have hEG := eqI_any A1 B1 _ _ c1 d1 s.gens s.gens w1 _ _ h1.g h1'.g h1.gl h1.gl
  rw [decide_eq_true rfl] at hEG
  have HEG := Lib.hid hEG
  have hER := eqRow_any A2 B2 c2 d2 (s.rows.map RowM.list) (s.rows.map RowM.list) w1 h1.r h1'.r (by rw [List.length_map]; exact h1.rl) (by rw [List.length_map]; exact h1.rl)
  have hsr : ∀ l : List (List Int), sameRows l l = true := fun l => by unfold sameRows; exact decide_eq_true rfl
  rw [hsr, List.length_map] at hER
  have HER := Lib.hid hER
  have HB1 := Lib.hid hB1
  have HB2 := Lib.hid hB2
  have HB := Lib.hid hb
  clear h1 h1' hB1 hB2 hb hEG hER
  go_wp2_with fail
  refine HEG.out.mono ?_
  rintro e w2 ⟨rfl, rfl⟩
  go_wp2_with fail
  refine HER.out.mono ?_
  rintro e w2 ⟨rfl, hb2⟩
  have hB3 : Below w.heap.size w w2 := HB.out.trans (hb2.mono HB.out.size)
  have a2 : w2.cell? ⟨s1, 2, none⟩ = some (.slice A3 s.bonds.length c3) := (HB1.out.after hb2).cell 2
  have b2 : w2.cell? ⟨s2, 2, none⟩ = some (.slice B3 s.bonds.length d3) := (HB2.out.after hb2).cell 2
  have h2 := H.out.below hB3
  have h2' := H'.out.below hB3
  have hEB := eqBond_any A3 B3 c3 d3 (s.bonds.map bondE) (s.bonds.map bondE) w2 h2.b h2'.b (by rw [List.length_map]; exact h2.bl) (by rw [List.length_map]; exact h2.bl)
  rw [hsr, List.length_map] at hEB
  have HEB := Lib.hid hEB
  have HB3 := Lib.hid hB3
  clear h2 h2' hB3 hb2 HEG HER a0 a1 b0 b1 hEB hsr
  go_wp2_with fail
  refine HEB.out.mono ?_
  rintro e w3 ⟨rfl, hb3⟩
  have HB4 : Hid (Below w.heap.size w w3) := HB3.out.trans (hb3.mono HB3.out.size)
  clear hb3
  go_wp2_with fail
  go_ret
  exact ⟨rfl, HB4.out⟩

end Go.Proofs.YtpgcghnlepnoiaaGreatDoor

/-
  The walk of the law TextBack: a printed state is parsed unchanged, and a parsed text is printed unchanged.
-/
namespace Go.Proofs.YtpgcghnlepnoiaaGreatDoor
open Go.RowKit

theorem ParseEnd.rd {w w' : World} {t : Bs} {e : Ending} (h : ParseEnd w t e w') : Below w.heap.size w w' ∧ ∃ (s : StM) (A1 A2 A3 : Option Addr) (c1 c2 c3 : Nat) (n : Int), e = .returned (.tuple #[.agg #[.slice A1 s.gens.length c1, .slice A2 s.rows.length c2, .slice A3 s.bonds.length c3], .int .i64 n]) ∧ StRd w' A1 A2 A3 s ∧ s.bonds.length ≤ c3 ∧ c3 ≤ maxLen ∧
    ((n = 0 ∧ t.length ≤ 6000 ∧ s = parseT t ∧ printR s = (t, 0)) ∨ (n ≠ 0 ∧ s = stm0 ∧ A1 = none ∧ A2 = none ∧ A3 = none ∧ c1 = 0 ∧ c2 = 0 ∧ c3 = 0 ∧ ((n = 2 ∧ 6000 < t.length) ∨ (n = 9 ∧ t.length ≤ 6000 ∧ ¬ printR (parseT t) = (t, 0))))) := by
  obtain ⟨hb, h⟩ := h
  refine ⟨hb, ?_⟩
  by_cases h1 : 6000 < t.length
  · rw [if_pos h1] at h
    exact ⟨stm0, none, none, none, 0, 0, 0, 2, h, StRd.none _, Nat.le_refl _, Nat.zero_le _, Or.inr ⟨by decide, rfl, rfl, rfl, rfl, rfl, rfl, rfl, Or.inl ⟨rfl, h1⟩⟩⟩
  · rw [if_neg h1] at h
    by_cases h2 : printR (parseT t) = (t, 0)
    · rw [if_pos h2] at h
      obtain ⟨A1, A2, A3, c2, c3, he, k1, k2, k3, k4, k5, k6, k7, k8⟩ := h
      exact ⟨parseT t, A1, A2, A3, _, c2, c3, 0, he, ⟨k1, k2, k3, k4, Nat.le_trans k5 k6, Nat.le_trans k7 k8⟩, k7, k8, Or.inl ⟨rfl, by omega, rfl, h2⟩⟩
    · rw [if_neg h2] at h
      exact ⟨stm0, none, none, none, 0, 0, 0, 9, h, StRd.none _, Nat.le_refl _, Nat.zero_le _, Or.inr ⟨by decide, rfl, rfl, rfl, rfl, rfl, rfl, rfl, Or.inr ⟨rfl, by omega, h2⟩⟩⟩
theorem StRd.len8 {w : World} {A1 A2 A3 : Option Addr} {s : StM} (h : StRd w A1 A2 A3 s) : ∀ r ∈ s.rows, r.b.v.length = 8 := fun _ hr => RowsRd.len8 h.r hr
theorem print_rd {A1 A2 A3 : Option Addr} {c1 c2 c3 : Nat} {s : StM} {w : World} (hG : Globs w) (h : StRd w A1 A2 A3 s) (hc : s.bonds.length ≤ c3 ∧ c3 ≤ maxLen) :
    Calls Tryz.prog 7 #[.agg #[.slice A1 s.gens.length c1, .slice A2 s.rows.length c2, .slice A3 s.bonds.length c3]] w fun e w' => e = .returned (.tuple #[.string (mkS (printR s).1), .int .i64 (printR s).2]) ∧ Below w.heap.size w w' :=
  print_any A1 A2 A3 c1 c2 c3 s w hG h.g h.r h.b h.gl h.rl hc
set_option maxHeartbeats 2000000 in
set_option maxRecDepth 100000 in
theorem textBack_any (A1 A2 A3 : Option Addr) (c1 c2 c3 : Nat) (s : StM) (t : Bs) (w : World) (hG : Globs w) (h : StRd w A1 A2 A3 s) (hc : s.bonds.length ≤ c3 ∧ c3 ≤ maxLen) :
    Calls Tryz.prog 3 #[.agg #[.slice A1 s.gens.length c1, .slice A2 s.rows.length c2, .slice A3 s.bonds.length c3], .string (mkS t)] w fun e w' => e = .returned (.bool true) ∧ Below w.heap.size w w' := by
  have HG := Lib.hid hG
  have H := Lib.hid h
  have HC := Lib.hid hc
  have HPC := Lib.hid (print_cases s h.len8)
  clear hG h hc
  go_enter Tryz.func3, Tryz.ntmps3
  go_upto_region 1 with (fail)
  have hI1 := (In.nil w (fun _ => False)).alloc 26 #[.slice A1 s.gens.length c1, .slice A2 s.rows.length c2, .slice A3 s.bonds.length c3]
  generalize w.heap.size = sb at hI1 ⊢
  generalize w.alloc (.cells #[.slice A1 s.gens.length c1, .slice A2 s.rows.length c2, .slice A3 s.bonds.length c3] 26) = w1 at *
  have HI1 := Lib.hid hI1
  clear hI1
  go_wp2_with fail
  refine (told_any w1 (HG.out.below HI1.out.below0)).mono ?_
  rintro e w2 ⟨rfl, hb2⟩
  have hI2 := HI1.out.below hb2
  have q2 : row? w2 sb 0 3 = some #[.slice A1 s.gens.length c1, .slice A2 s.rows.length c2, .slice A3 s.bonds.length c3] := by rw [hI2.blk.row 0 3 (by simp)]; rfl
  have HI2 := Lib.hid hI2
  clear hI2 hb2 HI1
  go_wp2_with fail
  refine (print_rd (HG.out.below HI2.out.below0) (H.out.below HI2.out.below0) HC.out).mono ?_
  rintro e w3 ⟨rfl, hb3⟩
  have HI3 := Lib.hid (HI2.out.below hb3)
  clear hb3 q2 HI2
  have hcond : ∃ (u : Bs) (n : Int), printR s = (u, n) ∧ ((n = 0 ∧ u = textS s ∧ StOk s) ∨ (n ≠ 0 ∧ u = [])) := by
    rcases HPC.out with ⟨h1, h2⟩ | ⟨h1, h2⟩
    · exact ⟨_, _, h1, Or.inl ⟨rfl, rfl, h2⟩⟩
    · exact ⟨_, _, rfl, Or.inr ⟨h2, h1⟩⟩
  obtain ⟨u, n, hpr, hcase⟩ := hcond
  rw [hpr]
  have HPR := Lib.hid hpr
  clear hpr
  rcases hcase with ⟨rfl, hu, hok⟩ | ⟨hn, rfl⟩
  · have HU := Lib.hid hu
    have HOK := Lib.hid hok
    clear hu hok
    go_wp2_with fail
    refine (Parse_any u w3 (HG.out.below HI3.out.below0)).mono ?_
    rintro e w4 he
    obtain ⟨hb4, s', B1, B2, B3, d1, d2, d3, m, rfl, hrd, hcd, hcd', hcase⟩ := he.rd
    have HI4 := Lib.hid (HI3.out.below hb4)
    have HRD := Lib.hid hrd
    clear he hb4 hrd HI3
    go_upto_region 6 with (fail)
    refine wp_abs (fun w' => In (fun _ => False) w [Box w4.heap.size 26 #[.slice B1 s'.gens.length d1, .slice B2 s'.rows.length d2, .slice B3 s'.bonds.length d3], Box sb 26 #[.slice A1 s.gens.length c1, .slice A2 s.rows.length c2, .slice A3 s.bonds.length c3]] w' ∧ StRd w' B1 B2 B3 s') ⟨HI4.out.newState _ _ _, HRD.out.below ((In.nil w4 (fun _ => False)).newState _ _ _).below0⟩ ?_
    generalize w4.heap.size = pb
    rintro w5 ⟨hI5, hrd5⟩
    have q5 : row? w5 pb 0 3 = some #[.slice B1 s'.gens.length d1, .slice B2 s'.rows.length d2, .slice B3 s'.bonds.length d3] := by rw [hI5.blk.row 0 3 (by simp)]; rfl
    have q6 : row? w5 sb 0 3 = some #[.slice A1 s.gens.length c1, .slice A2 s.rows.length c2, .slice A3 s.bonds.length c3] := by rw [hI5.swap.blk.row 0 3 (by simp)]; rfl
    have HI9 := Lib.hid hI5.drop
    have HRD5 := Lib.hid hrd5
    clear hI5 hrd5 HI4 HRD
    have hus : (mkS u).size = u.length := mkS_size u
    rcases hcase with ⟨rfl, hl, hs', hpt⟩ | ⟨hm, _, _, _, _, _, _, _, hcase⟩
    · have hss : s' = s := by rw [hs', HU.out, (printed_back (by rw [HPR.out, HU.out]) HOK.out).1]
      clear hs' hpt
      subst hss
      have hl1 : ((mkS u).size : Int) ≤ 6000 := by rw [hus]; omega
      have HS := Lib.hid (same_rd d1 d2 d3 c1 c2 c3 HRD5.out (H.out.below HI9.out.below0))
      clear hus hl
      go_wp2_with fail
      refine HS.out.mono ?_
      rintro e w9 ⟨rfl, hb9⟩
      have HI9 := Lib.hid (HI9.out.below hb9)
      clear hb9 HS q5 q6 HRD5
      have hb0 : ∀ W, (Instr.build 26 #[]).run Tryz.prog W = .ok (.agg #[.slice none 0 0, .slice none 0 0, .slice none 0 0]) W := fun W => by kernel_rfl
      go_wp2_with fail
      refine (Parse_any t w9 (HG.out.below HI9.out.below0)).mono ?_
      rintro e w10 he
      obtain ⟨hb10, s1, E1, E2, E3, f1, f2, f3, k, rfl, hrd, hfd, hfd', hcase⟩ := he.rd
      have HI10 := Lib.hid (HI9.out.below hb10)
      have HRD := Lib.hid hrd
      clear he hb10 hrd HI9
      go_upto_region 11 with (fail)
      refine wp_abs (fun w' => In (fun _ => False) w [Box w10.heap.size 26 #[.slice E1 s1.gens.length f1, .slice E2 s1.rows.length f2, .slice E3 s1.bonds.length f3], Box sb 26 _] w' ∧ StRd w' E1 E2 E3 s1) ⟨HI10.out.newState _ _ _, HRD.out.below ((In.nil w10 (fun _ => False)).newState _ _ _).below0⟩ ?_
      generalize w10.heap.size = pb
      rintro w11 ⟨hI11, hrd11⟩
      have q11 : row? w11 pb 0 3 = some #[.slice E1 s1.gens.length f1, .slice E2 s1.rows.length f2, .slice E3 s1.bonds.length f3] := by rw [hI11.blk.row 0 3 (by simp)]; rfl
      have HI11 := Lib.hid hI11
      have HRD11 := Lib.hid hrd11
      clear hI11 hrd11 HI10 HRD
      go_wp2_with fail
      refine (print_rd (HG.out.below HI11.out.below0) HRD11.out ⟨hfd, hfd'⟩).mono ?_
      rintro e w12 ⟨rfl, hb12⟩
      have hI12 := HI11.out.below hb12
      have q12 : row? w12 pb 0 3 = some #[.slice E1 s1.gens.length f1, .slice E2 s1.rows.length f2, .slice E3 s1.bonds.length f3] := by rw [hI12.blk.row 0 3 (by simp)]; rfl
      have HI12 := Lib.hid hI12
      have HRD12 := Lib.hid (HRD11.out.below hb12)
      clear hI12 hb12 HI11 HRD11 q11
      rcases hcase with ⟨rfl, _, _, hpt⟩ | ⟨hk, rfl, rfl, rfl, rfl, rfl, rfl, rfl, _⟩
      · rw [hpt]
        have HB := Lib.hid HI12.out.below0
        clear hpt HI12
        have qt : ((mkS t).toList == (mkS t).toList) = true := by simp
        go_wp2_with fail
        go_ret
        exact ⟨rfl, HB.out⟩
      · generalize (printR stm0).1 = u9
        generalize (printR stm0).2 = n9
        have HS := Lib.hid (same_rd 0 0 0 0 0 0 HRD12.out (StRd.none w12))
        go_wp2_with fail
        refine HS.out.mono ?_
        rintro e w13 ⟨rfl, hb13⟩
        have HB := Lib.hid (HI12.out.below hb13).below0
        clear hb13 HI12
        go_wp2_with fail
        go_ret
        exact ⟨rfl, HB.out⟩
    · rcases hcase with ⟨_, hl⟩ | ⟨_, hl, hx⟩
      · have hl1 : ¬ (((mkS u).size : Int) ≤ 6000) := by rw [hus]; omega
        clear hus hl q5 q6 HRD5 hm
        have hw9 : ∃ w9, w9 = w5 := ⟨_, rfl⟩
        obtain ⟨w9, rfl⟩ := hw9
        have hb0 : ∀ W, (Instr.build 26 #[]).run Tryz.prog W = .ok (.agg #[.slice none 0 0, .slice none 0 0, .slice none 0 0]) W := fun W => by kernel_rfl
        go_wp2_with fail
        refine (Parse_any t w9 (HG.out.below HI9.out.below0)).mono ?_
        rintro e w10 he
        obtain ⟨hb10, s1, E1, E2, E3, f1, f2, f3, k, rfl, hrd, hfd, hfd', hcase⟩ := he.rd
        have HI10 := Lib.hid (HI9.out.below hb10)
        have HRD := Lib.hid hrd
        clear he hb10 hrd HI9
        go_upto_region 11 with (fail)
        refine wp_abs (fun w' => In (fun _ => False) w [Box w10.heap.size 26 #[.slice E1 s1.gens.length f1, .slice E2 s1.rows.length f2, .slice E3 s1.bonds.length f3], Box sb 26 _] w' ∧ StRd w' E1 E2 E3 s1) ⟨HI10.out.newState _ _ _, HRD.out.below ((In.nil w10 (fun _ => False)).newState _ _ _).below0⟩ ?_
        generalize w10.heap.size = pb
        rintro w11 ⟨hI11, hrd11⟩
        have q11 : row? w11 pb 0 3 = some #[.slice E1 s1.gens.length f1, .slice E2 s1.rows.length f2, .slice E3 s1.bonds.length f3] := by rw [hI11.blk.row 0 3 (by simp)]; rfl
        have HI11 := Lib.hid hI11
        have HRD11 := Lib.hid hrd11
        clear hI11 hrd11 HI10 HRD
        go_wp2_with fail
        refine (print_rd (HG.out.below HI11.out.below0) HRD11.out ⟨hfd, hfd'⟩).mono ?_
        rintro e w12 ⟨rfl, hb12⟩
        have hI12 := HI11.out.below hb12
        have q12 : row? w12 pb 0 3 = some #[.slice E1 s1.gens.length f1, .slice E2 s1.rows.length f2, .slice E3 s1.bonds.length f3] := by rw [hI12.blk.row 0 3 (by simp)]; rfl
        have HI12 := Lib.hid hI12
        have HRD12 := Lib.hid (HRD11.out.below hb12)
        clear hI12 hb12 HI11 HRD11 q11
        rcases hcase with ⟨rfl, _, _, hpt⟩ | ⟨hk, rfl, rfl, rfl, rfl, rfl, rfl, rfl, _⟩
        · rw [hpt]
          have HB := Lib.hid HI12.out.below0
          clear hpt HI12
          have qt : ((mkS t).toList == (mkS t).toList) = true := by simp
          go_wp2_with fail
          go_ret
          exact ⟨rfl, HB.out⟩
        · generalize (printR stm0).1 = u9
          generalize (printR stm0).2 = n9
          have HS := Lib.hid (same_rd 0 0 0 0 0 0 HRD12.out (StRd.none w12))
          go_wp2_with fail
          refine HS.out.mono ?_
          rintro e w13 ⟨rfl, hb13⟩
          have HB := Lib.hid (HI12.out.below hb13).below0
          clear hb13 HI12
          go_wp2_with fail
          go_ret
          exact ⟨rfl, HB.out⟩
      · exact absurd (printed_back (by rw [HPR.out, HU.out]) HOK.out).2 (by rw [← HU.out]; exact hx)
  · have hz : (mkS []) = ⟨#[]⟩ := rfl
    obtain ⟨w9, rfl⟩ : ∃ w9, w9 = w3 := ⟨_, rfl⟩
    have HI9 := HI3
    have hb0 : ∀ W, (Instr.build 26 #[]).run Tryz.prog W = .ok (.agg #[.slice none 0 0, .slice none 0 0, .slice none 0 0]) W := fun W => by kernel_rfl
    go_wp2_with fail
    refine (Parse_any t w9 (HG.out.below HI9.out.below0)).mono ?_
    rintro e w10 he
    obtain ⟨hb10, s1, E1, E2, E3, f1, f2, f3, k, rfl, hrd, hfd, hfd', hcase⟩ := he.rd
    have HI10 := Lib.hid (HI9.out.below hb10)
    have HRD := Lib.hid hrd
    clear he hb10 hrd HI9
    go_upto_region 11 with (fail)
    refine wp_abs (fun w' => In (fun _ => False) w [Box w10.heap.size 26 #[.slice E1 s1.gens.length f1, .slice E2 s1.rows.length f2, .slice E3 s1.bonds.length f3], Box sb 26 _] w' ∧ StRd w' E1 E2 E3 s1) ⟨HI10.out.newState _ _ _, HRD.out.below ((In.nil w10 (fun _ => False)).newState _ _ _).below0⟩ ?_
    generalize w10.heap.size = pb
    rintro w11 ⟨hI11, hrd11⟩
    have q11 : row? w11 pb 0 3 = some #[.slice E1 s1.gens.length f1, .slice E2 s1.rows.length f2, .slice E3 s1.bonds.length f3] := by rw [hI11.blk.row 0 3 (by simp)]; rfl
    have HI11 := Lib.hid hI11
    have HRD11 := Lib.hid hrd11
    clear hI11 hrd11 HI10 HRD
    go_wp2_with fail
    refine (print_rd (HG.out.below HI11.out.below0) HRD11.out ⟨hfd, hfd'⟩).mono ?_
    rintro e w12 ⟨rfl, hb12⟩
    have hI12 := HI11.out.below hb12
    have q12 : row? w12 pb 0 3 = some #[.slice E1 s1.gens.length f1, .slice E2 s1.rows.length f2, .slice E3 s1.bonds.length f3] := by rw [hI12.blk.row 0 3 (by simp)]; rfl
    have HI12 := Lib.hid hI12
    have HRD12 := Lib.hid (HRD11.out.below hb12)
    clear hI12 hb12 HI11 HRD11 q11
    rcases hcase with ⟨rfl, _, _, hpt⟩ | ⟨hk, rfl, rfl, rfl, rfl, rfl, rfl, rfl, _⟩
    · rw [hpt]
      have HB := Lib.hid HI12.out.below0
      clear hpt HI12
      have qt : ((mkS t).toList == (mkS t).toList) = true := by simp
      go_wp2_with fail
      go_ret
      exact ⟨rfl, HB.out⟩
    · generalize (printR stm0).1 = u9
      generalize (printR stm0).2 = n9
      have HS := Lib.hid (same_rd 0 0 0 0 0 0 HRD12.out (StRd.none w12))
      go_wp2_with fail
      refine HS.out.mono ?_
      rintro e w13 ⟨rfl, hb13⟩
      have HB := Lib.hid (HI12.out.below hb13).below0
      clear hb13 HI12
      go_wp2_with fail
      go_ret
      exact ⟨rfl, HB.out⟩

end Go.Proofs.YtpgcghnlepnoiaaGreatDoor

/-
  The walk of the law TextLines: a line for the slots, one for each row and bond; a text cut off is rejected, unless it ends with a line.
-/
namespace Go.Proofs.YtpgcghnlepnoiaaGreatDoor
open Go.RowKit

/-- a text that is taken ends with a line -/
theorem taken_ends {t : Bs} {s : StM} (h : printR s = (t, 0)) (h8 : ∀ r ∈ s.rows, r.b.v.length = 8) : ∃ l, t = l ++ [10] := by
  rcases print_cases s h8 with ⟨h1, _⟩ | ⟨_, h2⟩
  · rw [h] at h1
    injection h1 with h1 _
    obtain ⟨l, hl⟩ := text_ends s
    exact ⟨l, by rw [h1]; exact hl⟩
  · rw [h] at h2
    exact absurd rfl h2
theorem mkS_take (l : Bs) (k : Nat) : (mkS l).extract 0 k = mkS (l.take k) := by rw [mkS_extract, List.drop_zero]
set_option maxHeartbeats 2000000 in
set_option maxRecDepth 100000 in
theorem textLines_any (A1 A2 A3 : Option Addr) (c1 c2 c3 : Nat) (s : StM) (x : Int) (w : World) (hG : Globs w) (h : StRd w A1 A2 A3 s) (hc : s.bonds.length ≤ c3 ∧ c3 ≤ maxLen) :
    Calls Tryz.prog 4 #[.agg #[.slice A1 s.gens.length c1, .slice A2 s.rows.length c2, .slice A3 s.bonds.length c3], .int .i64 x] w fun e w' => e = .returned (.bool true) ∧ Below w.heap.size w w' := by
  have HG := Lib.hid hG
  have H := Lib.hid h
  have HC := Lib.hid hc
  have HPC := Lib.hid (print_cases s h.len8)
  clear hG h hc
  go_enter Tryz.func4, Tryz.ntmps4
  go_upto_region 1 with (fail)
  have hI1 := (In.nil w (fun _ => False)).alloc 26 #[.slice A1 s.gens.length c1, .slice A2 s.rows.length c2, .slice A3 s.bonds.length c3]
  generalize w.heap.size = sb at hI1 ⊢
  generalize w.alloc (.cells #[.slice A1 s.gens.length c1, .slice A2 s.rows.length c2, .slice A3 s.bonds.length c3] 26) = w1 at *
  have HI1 := Lib.hid hI1
  clear hI1
  go_wp2_with fail
  refine (told_any w1 (HG.out.below HI1.out.below0)).mono ?_
  rintro e w2 ⟨rfl, hb2⟩
  have hI2 := HI1.out.below hb2
  have q2 : row? w2 sb 0 3 = some #[.slice A1 s.gens.length c1, .slice A2 s.rows.length c2, .slice A3 s.bonds.length c3] := by rw [hI2.blk.row 0 3 (by simp)]; rfl
  have HI2 := Lib.hid hI2
  clear hI2 hb2 HI1
  go_wp2_with fail
  refine (print_rd (HG.out.below HI2.out.below0) (H.out.below HI2.out.below0) HC.out).mono ?_
  rintro e w3 ⟨rfl, hb3⟩
  have HI3 := Lib.hid (HI2.out.below hb3)
  clear hb3 q2 HI2
  have hcond : ∃ (u : Bs) (n : Int), printR s = (u, n) ∧ ((n = 0 ∧ u = textS s ∧ StOk s) ∨ (n ≠ 0 ∧ u = [])) := by
    rcases HPC.out with ⟨h1, h2⟩ | ⟨h1, h2⟩
    · exact ⟨_, _, h1, Or.inl ⟨rfl, rfl, h2⟩⟩
    · exact ⟨_, _, rfl, Or.inr ⟨h2, h1⟩⟩
  obtain ⟨u, n, hpr, hcase⟩ := hcond
  rw [hpr]
  clear hpr
  have HB3 := Lib.hid HI3.out.below0
  have hus : (mkS u).size = u.length := mkS_size u
  rcases hcase with ⟨rfl, hu, hok⟩ | ⟨hn, rfl⟩
  · by_cases hl : u.length ≤ 6000
    · have hl1 : ¬ (6000 < ((mkS u).size : Int)) := by rw [hus]; omega
      have hu0 : 0 < u.length := by
        obtain ⟨l, hl⟩ := text_ends s
        rw [hu, hl]; simp
      have HCT : Hid (u.count 10 = 1 + s.rows.length + s.bonds.length) := by unfold Hid; rw [hu]; exact text_count s
      have hrb6 : 1 + s.rows.length + s.bonds.length ≤ 6000 := by rw [← HCT.out]; exact Nat.le_trans List.count_le_length hl
      clear hu hok
      have HR := Lib.hid (rest_any x (u.length : Int) w3 (by omega) (by omega))
      rw [← hus] at HR
      have hk0 : 0 ≤ x % (u.length : Int) := Int.emod_nonneg _ (by omega)
      have hk1 : x % (u.length : Int) < (u.length : Int) := Int.emod_lt_of_pos _ (by omega)
      rw [hus] at HR
      obtain ⟨k, hk⟩ : ∃ k : Nat, x % (u.length : Int) = (k : Int) := ⟨(x % (u.length : Int)).toNat, by omega⟩
      rw [hk] at HR hk1
      rw [← hus] at HR
      clear hk0 hk
      go_wp2_with fail
      refine HR.out.mono ?_
      rintro e w4 ⟨rfl, rfl⟩
      have hk2 : (k : Int) ≤ ((mkS u).size : Int) := by rw [hus]; omega
      have HTK := Lib.hid (mkS_take u k)
      clear HR hl1
      go_wp2_with fail
      rw [HTK.out]
      refine (Parse_any (u.take k) w3 (HG.out.below HB3.out)).mono ?_
      rintro e w4 he
      obtain ⟨hb4, s', B1, B2, B3, d1, d2, d3, m, rfl, hrd, _, _, hcase⟩ := he.rd
      have HI4 := Lib.hid (HI3.out.below hb4)
      have hm : m = 9 ∨ (0 < k ∧ u.getD (k - 1) 0 = 10) := by
        rcases hcase with ⟨_, _, _, hpt⟩ | ⟨_, _, _, _, _, _, _, _, ⟨_, h6⟩ | ⟨h9, _⟩⟩
        · obtain ⟨l, hl⟩ := taken_ends hpt hrd.len8
          have h1 := congrArg List.length hl
          rw [List.length_take, List.length_append, List.length_singleton] at h1
          refine Or.inr ⟨by omega, ?_⟩
          have h2 : (u.take k)[k - 1]? = some 10 := by
            rw [hl, List.getElem?_append_right (by omega), show k - 1 - l.length = 0 from by omega]; rfl
          rw [List.getElem?_take_of_lt (by omega)] at h2
          rw [List.getD_eq_getElem?_getD, h2]; rfl
        · rw [List.length_take] at h6; omega
        · exact Or.inl h9
      clear he hb4 hrd hcase HI3 HTK hk2
      have hb10 : ∀ W, (Instr.buildSlice 22 0 #[]).run Tryz.prog W = (Instr.buildSlice 22 0 #[]).run Tryz.prog W := fun _ => rfl
      clear hb10
      go_upto_region 8 with (fail)
      refine wp_abs (In (fun _ => False) w [Box w4.heap.size 26 #[.slice B1 s'.gens.length d1, .slice B2 s'.rows.length d2, .slice B3 s'.bonds.length d3], Box sb 26 #[.slice A1 s.gens.length c1, .slice A2 s.rows.length c2, .slice A3 s.bonds.length c3]]) (HI4.out.newState _ _ _) ?_
      generalize w4.heap.size = pb
      intro w5 hI5
      have HI5 := Lib.hid hI5.drop
      clear hI5 HI4
      by_cases hk0 : 0 < k
      · have hki : (0 : Int) < (k : Int) := by omega
        have hks : IntKind.i64.wrap ((k : Int) - 1) = ((k - 1 : Nat) : Int) := by rw [show (k : Int) - 1 = ((k - 1 : Nat) : Int) from by omega]; exact IntWalk.i64_in _ (by omega)
        have hlt' : k - 1 < (mkS u).size := by rw [mkS_size]; omega
        have hge : (mkS u)[k - 1]'hlt' = u.getD (k - 1) 0 := by
          have hlt : k - 1 < u.length := by omega
          rw [List.getD_eq_getElem?_getD, List.getElem?_eq_getElem hlt]
          rfl
        by_cases hb : u.getD (k - 1) 0 = 10
        · have hg : ((((mkS u)[k - 1]'hlt').toNat : Int) == 10) = true := by rw [hge, hb]; rfl
          clear hge hb hm
          go_upto_region 9 with (fail)
          have r1 : ∀ n : After w5, n.w.cell? ⟨sb, 1, none⟩ = some (.slice A2 s.rows.length c2) := fun n => (HI5.out.blk.after n.below).cell 1
          have r2 : ∀ n : After w5, n.w.cell? ⟨sb, 2, none⟩ = some (.slice A3 s.bonds.length c3) := fun n => (HI5.out.blk.after n.below).cell 2
          have HCO : Hid (∀ W, Calls Tryz.prog 11 #[.string (mkS u), .string ⟨#[10]⟩] W fun e w' => e = .returned (.int .i64 (1 + s.rows.length + s.bonds.length)) ∧ W = w') := fun W => (Tryz.strings_Count_one (mkS u) 10 W).mono fun e w' ⟨he, hw⟩ => ⟨by rw [he, show Lib.countByte (mkS u).data.toList 10 = u.count 10 from rfl, HCT.out]; simp, hw.symm⟩
          have hsum1 : IntKind.i64.wrap (1 + (s.rows.length : Int)) = 1 + s.rows.length := IntWalk.i64_in _ (by omega)
          have hsum2 : IntKind.i64.wrap (1 + (s.rows.length : Int) + s.bonds.length) = 1 + s.rows.length + s.bonds.length := IntWalk.i64_in _ (by omega)
          refine wp_region_after (by kernel_rfl) (by kernel_rfl) ?_
          repeat (go_big_quiet_step ((go_at_call 11; exact quiet_same (HCO.out _))))
          refine wpQuiet_nil ?_
          rintro _ ⟨n, rfl⟩
          have HBN := Lib.hid (HI5.out.below n.below).below0
          clear r1 r2
          go_wp2_with fail
          go_ret
          exact ⟨rfl, HBN.out⟩
        · have hm9 : m = 9 := hm.resolve_right fun h => hb h.2
          subst hm9
          have hg : ((((mkS u)[k - 1]'hlt').toNat : Int) == 10) = false := by
            rw [hge, beq_eq_false_iff_ne]
            intro e
            apply hb
            apply UInt8.toNat_inj.1
            exact_mod_cast e
          clear hge hb hm
          go_upto_region 9 with (fail)
          have r1 : ∀ n : After w5, n.w.cell? ⟨sb, 1, none⟩ = some (.slice A2 s.rows.length c2) := fun n => (HI5.out.blk.after n.below).cell 1
          have r2 : ∀ n : After w5, n.w.cell? ⟨sb, 2, none⟩ = some (.slice A3 s.bonds.length c3) := fun n => (HI5.out.blk.after n.below).cell 2
          have HCO : Hid (∀ W, Calls Tryz.prog 11 #[.string (mkS u), .string ⟨#[10]⟩] W fun e w' => e = .returned (.int .i64 (1 + s.rows.length + s.bonds.length)) ∧ W = w') := fun W => (Tryz.strings_Count_one (mkS u) 10 W).mono fun e w' ⟨he, hw⟩ => ⟨by rw [he, show Lib.countByte (mkS u).data.toList 10 = u.count 10 from rfl, HCT.out]; simp, hw.symm⟩
          have hsum1 : IntKind.i64.wrap (1 + (s.rows.length : Int)) = 1 + s.rows.length := IntWalk.i64_in _ (by omega)
          have hsum2 : IntKind.i64.wrap (1 + (s.rows.length : Int) + s.bonds.length) = 1 + s.rows.length + s.bonds.length := IntWalk.i64_in _ (by omega)
          refine wp_region_after (by kernel_rfl) (by kernel_rfl) ?_
          repeat (go_big_quiet_step ((go_at_call 11; exact quiet_same (HCO.out _))))
          refine wpQuiet_nil ?_
          rintro _ ⟨n, rfl⟩
          have HBN := Lib.hid (HI5.out.below n.below).below0
          clear r1 r2
          go_wp2_with fail
          go_ret
          exact ⟨rfl, HBN.out⟩
      · have hm9 : m = 9 := hm.resolve_right fun h => hk0 h.1
        subst hm9
        have hki : ¬ ((0 : Int) < (k : Int)) := by omega
        have hk00 : k = 0 := by omega
        subst hk00
        clear hm hki hk0
        go_upto_region 9 with (fail)
        have r1 : ∀ n : After w5, n.w.cell? ⟨sb, 1, none⟩ = some (.slice A2 s.rows.length c2) := fun n => (HI5.out.blk.after n.below).cell 1
        have r2 : ∀ n : After w5, n.w.cell? ⟨sb, 2, none⟩ = some (.slice A3 s.bonds.length c3) := fun n => (HI5.out.blk.after n.below).cell 2
        have HCO : Hid (∀ W, Calls Tryz.prog 11 #[.string (mkS u), .string ⟨#[10]⟩] W fun e w' => e = .returned (.int .i64 (1 + s.rows.length + s.bonds.length)) ∧ W = w') := fun W => (Tryz.strings_Count_one (mkS u) 10 W).mono fun e w' ⟨he, hw⟩ => ⟨by rw [he, show Lib.countByte (mkS u).data.toList 10 = u.count 10 from rfl, HCT.out]; simp, hw.symm⟩
        have hsum1 : IntKind.i64.wrap (1 + (s.rows.length : Int)) = 1 + s.rows.length := IntWalk.i64_in _ (by omega)
        have hsum2 : IntKind.i64.wrap (1 + (s.rows.length : Int) + s.bonds.length) = 1 + s.rows.length + s.bonds.length := IntWalk.i64_in _ (by omega)
        refine wp_region_after (by kernel_rfl) (by kernel_rfl) ?_
        repeat (go_big_quiet_step ((go_at_call 11; exact quiet_same (HCO.out _))))
        refine wpQuiet_nil ?_
        rintro _ ⟨n, rfl⟩
        have HBN := Lib.hid (HI5.out.below n.below).below0
        clear r1 r2
        go_wp2_with fail
        go_ret
        exact ⟨rfl, HBN.out⟩
    · have hl1 : 6000 < ((mkS u).size : Int) := by rw [hus]; omega
      clear hus hu hok hl
      go_wp2_with fail
      go_ret
      exact ⟨rfl, HB3.out⟩
  · go_wp2_with fail
    go_ret
    exact ⟨rfl, HB3.out⟩

end Go.Proofs.YtpgcghnlepnoiaaGreatDoor

/-
  The walk of the law TextZoo: whatever was done, the state is printed, parsed and loaded.
-/
namespace Go.Proofs.YtpgcghnlepnoiaaGreatDoor
open Go.RowKit

theorem cmp_of_lt {a b : Hd} (h : hLt a b = true) : cmpH a b < 0 := by
  rw [← cmpH_neg] at h
  simpa using h
theorem rise_rows (z : ZS) : riseB (z.rows.map fun x => x.h) = true := riseB_yes fun i hi => by
  rw [List.length_map] at hi
  have h1 := List.pairwise_iff_getElem.1 (all_sorted z.ls z.f) i (i + 1) (by unfold ZS.rows allW at hi; omega) hi (Nat.lt_succ_self i)
  rw [hd_at (fun x : RowM => x.h) z.rows (Nat.lt_of_succ_lt hi), hd_at (fun x : RowM => x.h) z.rows hi]
  refine cmp_of_lt ?_
  unfold hLt
  rw [Bool.or_eq_true]
  exact Or.inl (decide_eq_true h1)
theorem rise_bonds {z : ZS} (h : ZOk z) : riseB (z.B.map fun x => x.1) = true := riseB_yes fun i hi => by
  rw [List.length_map] at hi
  have hs : z.B.Pairwise fun a b => kLe (fun b : Hd × Hd => b.1) a b = true := by rw [← h.srt]; exact ksort_sorted _ _
  have h1 := List.pairwise_iff_getElem.1 hs i (i + 1) (by omega) hi (Nat.lt_succ_self i)
  have hn : (mkeys z.B).Nodup := h.fam.nodup
  unfold mkeys at hn
  have h2 := List.pairwise_iff_getElem.1 hn i (i + 1) (by rw [List.length_map]; omega) (by rw [List.length_map]; exact hi) (Nat.lt_succ_self i)
  rw [List.getElem_map, List.getElem_map] at h2
  rw [hd_at (fun x : Hd × Hd => x.1) z.B (Nat.lt_of_succ_lt hi), hd_at (fun x : Hd × Hd => x.1) z.B hi]
  refine cmp_of_lt ?_
  cases hc : hLt z.B[i].1 z.B[i + 1].1 with
  | true => rfl
  | false =>
    have h3 : hLe z.B[i + 1].1 z.B[i].1 = true := by unfold hLe; rw [hc]; rfl
    exact absurd (hLe_antisymm h1 h3) h2
def stOf (z : ZS) : StM := ⟨gensL z.ls, z.rows, z.B⟩
theorem print_zoo {z : ZS} (h : ZOk z) : printR (stOf z) = (textS (stOf z), 0) := by
  unfold printR stOf
  rw [loadZ_state h]
  simp only
  rw [if_pos ⟨rise_rows z, rise_bonds h⟩]
theorem rowsA_len8 {z : ZS} (h : ZOk z) : ∀ r ∈ z.rows, r.b.v.length = 8 := fun r hr => (allW_ok h.w hr).1
/-- a state of one's own is read -/
theorem In.stRd {F : Nat → Prop} {w0 w : World} {l : List Assn} {A1 A2 A3 : Option Addr} {c1 c2 c3 : Nat} {s : StM} (h : In F w0 (IntsA (.slice A1 s.gens.length c1) s.gens :: RowsA (.slice A2 s.rows.length c2) s.rows :: RowB (.slice A3 s.bonds.length c3) s.bonds :: l) w) (h8 : ∀ r ∈ s.rows, r.b.v.length = 8) :
    StRd w A1 A2 A3 s ∧ s.bonds.length ≤ c3 ∧ c3 ≤ maxLen := by
  obtain ⟨A', c', e, hrd⟩ := h.intsAt
  injection e with e1 e2 e3
  subst e1
  obtain ⟨_, _, e, g1, g1'⟩ := In.rowForm h
  cases e
  obtain ⟨_, _, e, g2, g2'⟩ := In.rowForm h.swap
  cases e
  obtain ⟨_, _, e, g3, g3'⟩ := In.rowForm h.third
  cases e
  exact ⟨⟨hrd, In.rowsRd h.swap h8, In.bondsRd h.third, Nat.le_trans g1 g1', Nat.le_trans g2 g2', Nat.le_trans g3 g3'⟩, g3, g3'⟩
set_option maxHeartbeats 2000000 in
set_option maxRecDepth 100000 in
theorem textZoo_any (A : Option Addr) (c : Nat) (os : List OpM) (w : World) (hG : Globs w) (H : OpsIn w w.heap.size A os) (hlen : os.length ≤ 1099511627776) (hb8 : ∀ o ∈ os, o.b.v.length = 8) :
    Calls Tryz.prog 5 #[.slice A os.length c] w fun e w' => e = .returned (.bool true) ∧ Below w.heap.size w w' := by
  have HO : Hid (OpsAt (fun _ => False) w w.heap.size A os) := OpsAt.of_arg H
  have H8 := Lib.hid hb8
  have HG := Lib.hid hG
  have HOK := Lib.hid (doneZ_ok hb8)
  clear H hb8 hG
  go_enter Tryz.func5, Tryz.ntmps5
  go_wp2_with fail
  refine (told_any w HG.out).mono ?_
  rintro e w1 ⟨rfl, hb1⟩
  have HI1 := Lib.hid ((In.nil w (fun _ => False)).below hb1)
  clear hb1
  go_wp2_with fail
  refine (kept_any w1).mono ?_
  rintro e w2 ⟨rfl, hb2⟩
  have HI2 := Lib.hid (HI1.out.below hb2)
  clear hb2 HI1
  go_wp2_with fail
  refine (zdone_in (c := c) HO.out hlen H8.out HI2.out).mono ?_
  rintro e w3 ⟨p, rfl, hI3⟩
  generalize doneZ os = z at *
  have HI3 := Lib.hid hI3
  clear hI3 HI2 HO H8 hlen
  go_wp2_with fail
  refine (zstateS_in HI3.out HOK.out).mono ?_
  rintro e w4 ⟨A1, d1, A2, d2, A3, d3, rfl, hI4⟩
  have HI4 := Lib.hid hI4
  have HST := Lib.hid (In.stRd (s := stOf z) hI4 (rowsA_len8 HOK.out))
  clear hI4 HI3
  go_wp2_with fail
  refine (print_rd (s := stOf z) (HG.out.below HI4.out.below0) HST.out.1 HST.out.2).mono ?_
  rw [print_zoo HOK.out]
  rintro e w5 ⟨rfl, hb5⟩
  have HI5 := Lib.hid (HI4.out.below hb5)
  clear hb5 HI4 HST
  have HBK := Lib.hid (printed_back (print_zoo HOK.out) (loadZ_ok (loadZ_state HOK.out) (rowsA_len8 HOK.out)).2.1)
  generalize textS (stOf z) = u at *
  go_wp2_with fail
  refine (Parse_any u w5 (HG.out.below HI5.out.below0)).mono ?_
  rintro e w6 he
  obtain ⟨hb6, s', B1, B2, B3, f1, f2, f3, m, rfl, hrd, hcd, hcd', hcase⟩ := he.rd
  have HI6 := Lib.hid (HI5.out.below hb6)
  have HRD := Lib.hid hrd
  clear he hb6 hrd HI5
  go_upto_region 8 with (fail)
  refine wp_abs (fun w' => In (fun _ => False) w [Box w6.heap.size 26 #[.slice B1 s'.gens.length f1, .slice B2 s'.rows.length f2, .slice B3 s'.bonds.length f3], IntsA (.slice A1 (gensL z.ls).length d1) (gensL z.ls), RowsA (.slice A2 z.rows.length d2) z.rows, RowB (.slice A3 z.B.length d3) z.B, ZooA p z] w' ∧ StRd w' B1 B2 B3 s') ⟨HI6.out.newState _ _ _, HRD.out.below ((In.nil w6 (fun _ => False)).newState _ _ _).below0⟩ ?_
  generalize w6.heap.size = pb
  rintro w7 ⟨hI7, hrd7⟩
  have q7 : row? w7 pb 0 3 = some #[.slice B1 s'.gens.length f1, .slice B2 s'.rows.length f2, .slice B3 s'.bonds.length f3] := by rw [hI7.blk.row 0 3 (by simp)]; rfl
  have HI7 := Lib.hid hI7
  have HL := Lib.hid (zloadA_any B1 B2 B3 f1 f2 f3 s' w7 hrd7.g hrd7.r hrd7.b hrd7.gl hrd7.rl ⟨hcd, hcd'⟩)
  clear hI7 hrd7 HI6 HRD
  have hus : (mkS u).size = u.length := mkS_size u
  go_wp2_with fail
  refine HL.out.mono ?_
  rintro e w8 ⟨hb8, hend⟩
  have HI8 := Lib.hid (HI7.out.below hb8)
  clear HL q7
  rcases hcase with ⟨rfl, hl, hs', _⟩ | ⟨_, hs', _, _, _, _, _, _, hcase⟩
  · have hse : loadZ s' = (some z, 0) := by rw [hs', HBK.out.1]; exact loadZ_state HOK.out
    rw [hse] at hend
    obtain ⟨q, rfl, hat⟩ := hend
    have hl1 : ¬ (6000 < ((mkS u).size : Int)) := by rw [hus]; omega
    have hi9 := HI7.out.new (A := ZooA q z) hb8 hat
    have hi9' : In (fun _ => False) w [ZooA q z, ZooA p z] w8 := ((((hi9.swap.drop).swap.drop).swap.drop).swap.drop)
    have HI9 := Lib.hid hi9'
    clear hi9 hi9' hat hse HI8 HI7 hb8 hus hl hs'
    go_wp2_with fail
    refine (zstateS_in HI9.out HOK.out).mono ?_
    rintro e w9 ⟨E1, e1, E2, e2, E3, e3, rfl, hI10⟩
    have hI10' := hI10.reorder 5 [4, 0, 1, 2, 3] rfl (by simp)
    have HI10 := Lib.hid hI10'
    clear hI10 hI10' HI9
    go_wp2_with fail
    refine (zstateS_in HI10.out HOK.out).mono ?_
    rintro e w10 ⟨E4, e4, E5, e5, E6, e6, rfl, hI11⟩
    have hI11' := hI11.reorder 8 [4, 5, 6, 0, 1, 2, 3, 7] rfl (by simp)
    have HS := Lib.hid (same_in hI11')
    have HI11 := Lib.hid hI11
    clear hI11 hI11' HI10
    go_wp2_with fail
    refine HS.out.mono ?_
    rintro e w11 ⟨rfl, hb11⟩
    have HB := Lib.hid (HI11.out.below hb11).below0
    clear hb11 HI11 HS
    go_wp2_with fail
    go_ret
    exact ⟨rfl, HB.out⟩
  · rcases hcase with ⟨rfl, hl⟩ | ⟨_, _, hx⟩
    · have hl1 : 6000 < ((mkS u).size : Int) := by rw [hus]; omega
      have HB := Lib.hid HI8.out.below0
      clear HI7 HI8 hus hl hs'
      cases hL : loadZ s' with
      | mk o n =>
        rw [hL] at hend
        cases o with
        | none =>
          simp only at hend
          subst hend
          go_wp2_with fail
          go_ret
          exact ⟨rfl, HB.out⟩
        | some z1 =>
          obtain ⟨q, rfl, _⟩ := hend
          go_wp2_with fail
          go_ret
          exact ⟨rfl, HB.out⟩
    · exact absurd HBK.out.2 hx

end Go.Proofs.YtpgcghnlepnoiaaGreatDoor
