/-
  Several texts in one (merged by a program of mine): TextLift.
-/
import Derived.Test.YtpgcghnlepnoiaaGreatDoorTP37
import Derived.Deep.Strs
import Derived.Lay
import Derived.Lib.LaidTab
import Derived.Lib.LaidU8
import Derived.Shelf.Vars
import Derived.HandedShaped
import Derived.SevenTiedAt
import Derived.ChangeMaps5
set_option linter.unusedVariables false
set_option linter.unusedSimpArgs false
set_option linter.unusedSectionVars false
/-
  From the laws' walks to their rows: states and strings as arguments; what the listed variables hold.
-/
namespace Go.Proofs.YtpgcghnlepnoiaaGreatDoor
open Go.RowKit Go.ChangeShapes Go.WideShapes Go.ChangeAt Go.Deep

/-- a variable of an interface type that reads as a value of some type -/
theorem iface_of_trod {P : Program} {w : World} {fuel : Nat} {t : TypeId} {ms : Array (String × TypeId)} {cs : List Value} {nm : String} {d : DataW Unit} {p : List MemPlace} (hu : P.underlying t = some (.interface ms))
    (h : DataW.trod (fun _ => ()) P w 0 (fun _ => true) false fuel t cs = some (.iface nm d, p)) : ∃ u v, cs = [.iface u v] := by
  cases fuel with
  | zero => simp [DataW.trod] at h
  | succ fuel =>
    match cs, h with
    | [.iface u v], _ => exact ⟨u, v, rfl⟩
    | [], h => simp [DataW.trod, hu] at h
    | [x], h => cases x <;> first | exact ⟨_, _, rfl⟩ | (simp [DataW.trod, hu] at h)
    | x :: y :: r, h => simp [DataW.trod, hu] at h
theorem err_of_laid {W : World} {l : List (String × DataW Unit)} {n nm : String} {d : DataW Unit} {g t : Nat} {ms : Array (String × TypeId)} (h : laidMet Tryz.prog l W) (hm : (n, DataW.iface nm d) ∈ l)
    (hg : Tryz.prog.globalNamed n = some g) (ht : (Tryz.prog.globals[g]?).map (·.type) = some t) (hu : Tryz.prog.underlying t = some (.interface ms)) : ∃ tp p, W.var? Tryz.prog n = some #[.iface tp p] := by
  obtain ⟨g', t', cs, fuel, p, h1, h2, h3, h4⟩ := Lib.laidMet.reads h hm
  obtain rfl := Option.some.inj (hg.symm.trans h1)
  obtain rfl := Option.some.inj (ht.symm.trans h2)
  obtain ⟨u, v, e⟩ := iface_of_trod hu h4
  have e2 : cs = #[.iface u v] := Array.toList_inj.1 e
  exact ⟨u, v, h3.trans (congrArg some e2)⟩
theorem tab_of_laid {W : World} {l : List (String × DataW Unit)} {n : String} {k : IntKind} {zs : List Int} {g t e m : Nat} (h : laidMet Tryz.prog l W) (hm : (n, Lib.tabData k zs) ∈ l)
    (hg : Tryz.prog.globalNamed n = some g) (hty : (Tryz.prog.globals[g]?).map (·.type) = some t) (ht : Tryz.prog.underlying t = some (.array m e)) (he : Tryz.prog.underlying e = some (.int k)) (hce : Tryz.prog.cellsOf e = 1) (hct : Tryz.prog.cellsOf t = m) : Lib.TabIs Tryz.prog W n k zs := by
  obtain ⟨g', t', cs, fuel, p, h1, h2, h3, h4⟩ := Lib.laidMet.reads h hm
  obtain rfl := Option.some.inj (hg.symm.trans h1)
  obtain rfl := Option.some.inj (hty.symm.trans h2)
  have e2 := Lib.cells_of_tab ht he hce hct h4
  have e3 : cs = (zs.map fun z => Value.int k z).toArray := Array.toList_inj.1 e2
  exact h3.trans (congrArg some e3)
/-- the listed variables -/
noncomputable def laidT : List (String × DataW Unit) := Rows.textBackRow.laid
theorem pow10_tab : Rows.laid_internal_strconv_uint64pow10 (H := Unit) = Lib.tabData .u64 Lib.pow10Tab := rfl
set_option maxRecDepth 100000 in
theorem globs_of_laid {W : World} (hL : laidMetH Tryz.prog laidT W) (hsh : W.ShapedOpen Tryz.prog) : Globs W := by
  rw [MakeChecks.laidMetH_plain _ _ _ (by kernel_rfl)] at hL
  have h1 : Lib.TabIs Tryz.prog W "internal/strconv.uint64pow10" .u64 Lib.pow10Tab := tab_of_laid (g := 1) (t := 230) (e := 195) (m := 20) hL (List.mem_of_getElem? (l := laidT) (i := 2) rfl) (by kernel_rfl) (by kernel_rfl) (by kernel_rfl) (by kernel_rfl) (by kernel_rfl) (by kernel_rfl)
  have h2 : ∃ tp p, W.var? Tryz.prog "strconv.ErrSyntax" = some #[.iface tp p] := err_of_laid (g := 2) (t := 63) hL (List.mem_of_getElem? (l := laidT) (i := 5) rfl) (by kernel_rfl) (by kernel_rfl) Tryz.underlying63
  have h3 : ∃ tp p, W.var? Tryz.prog "strconv.ErrRange" = some #[.iface tp p] := err_of_laid (g := 3) (t := 63) hL (List.mem_of_getElem? (l := laidT) (i := 4) rfl) (by kernel_rfl) (by kernel_rfl) Tryz.underlying63
  exact ⟨h1, h2, h3, cell_of_shapedOpen_int (t := 3) (zero := #[.int .i64 0]) hsh (of_decide_eq_true (by kernel_rfl)) (by kernel_rfl) rfl (by kernel_rfl) (by kernel_rfl) Tryz.underlying3⟩
theorem slice_form {H : Type} {enc : TypeId × Value → H} {W : World} {t e : TypeId} {cs : List Value} {x : DataW H × List MemPlace} {fuel : Nat} (ht : Tryz.prog.underlying t = some (.slice e))
    (h : DataW.trod enc Tryz.prog W 0 (fun _ => true) true fuel t cs = some x) : ∃ A len cap, cs = [.slice A len cap] := by
  rcases open_slice ht h with ⟨hcs, hx⟩ | ⟨a, len', cap', m, k, D, Pl, hcs, hb, hl, hm, hmm, hx, hi⟩
  · exact ⟨none, 0, 0, hcs⟩
  · exact ⟨_, _, _, hcs⟩
theorem bond_cells3 : Tryz.prog.cellsOf 56 = 4 := by kernel_rfl
def toBond (l : List Int) : Hd × Hd := ((l.getD 0 0, l.getD 1 0), (l.getD 2 0, l.getD 3 0))
theorem toBond_list {l : List Int} (h : l.length = 4) : bondE (toBond l) = l := by
  match l, h with
  | [a, b, c, d], _ => rfl
def toRow4 (l : List Int) : RowM := ⟨(l.getD 0 0, l.getD 1 0), ⟨l.getD 2 0, l.drop 3⟩⟩
theorem toRow_lst {l : List Int} (h : l.length = 11) : RowM.list (toRow4 l) = l := by
  match l, h with
  | a :: b :: c :: r, _ => rfl
set_option maxRecDepth 100000 in
theorem open_state {H : Type} {enc : TypeId × Value → H} {W : World} {r : Reach} {b0 : Nat} {v : Value} {d : DataW H} {p : List MemPlace}
    (hv : Value.okWide Tryz.prog W r b0 26 v) (h : DataW.Trod enc Tryz.prog W 0 (fun _ => true) true 26 v d p) (hlt : ∀ x ∈ p, x.block < W.heap.size) :
    ∃ A1 A2 A3 c1 c2 c3 s, v = .agg #[.slice A1 (StM.gens s).length c1, .slice A2 s.rows.length c2, .slice A3 s.bonds.length c3] ∧ StRd W A1 A2 A3 s ∧ s.bonds.length ≤ c3 ∧ c3 ≤ maxLen := by
  obtain ⟨cs, rfl, hsz⟩ := okWide_struct Tryz.underlying26 hv
  obtain ⟨fuel, hf⟩ := h
  obtain ⟨y0, y1, y2, n, hx, hl, h0, h1, h2⟩ := trod_struct3 Tryz.underlying26 hf
  have k0 : Tryz.prog.cellsOf 22 = 1 := by kernel_rfl
  have k1 : Tryz.prog.cellsOf 23 = 1 := by kernel_rfl
  have k2 : Tryz.prog.cellsOf 24 = 1 := by kernel_rfl
  have ks : Tryz.prog.cellsOf 26 = 3 := by kernel_rfl
  rw [ks] at hsz
  obtain ⟨a, b, c, e⟩ : ∃ a b c, cs.toList = [a, b, c] := by
    obtain ⟨l⟩ := cs
    match l, hsz with
    | [a, b, c], _ => exact ⟨a, b, c, rfl⟩
  have e' : cs = #[a, b, c] := Array.toList_inj.1 e
  subst e'
  have h0' : DataW.trod enc Tryz.prog W 0 (fun _ => true) true n 22 [a] = some y0 := by
    rw [← h0]; simp only [k0]; rfl
  have h1' : DataW.trod enc Tryz.prog W 0 (fun _ => true) true n 23 [b] = some y1 := by
    rw [← h1]; simp only [k1]; rfl
  have h2' : DataW.trod enc Tryz.prog W 0 (fun _ => true) true n 24 [c] = some y2 := by
    rw [← h2]; simp only [k2]; rfl
  simp only [Prod.mk.injEq] at hx
  obtain ⟨_, rfl⟩ := hx
  obtain ⟨A1, n1, c1, f1⟩ := slice_form Tryz.underlying22 h0'
  obtain ⟨A2, n2, c2, f2⟩ := slice_form Tryz.underlying23 h1'
  obtain ⟨A3, n3, c3, f3⟩ := slice_form Tryz.underlying24 h2'
  cases f1
  cases f2
  cases f3
  obtain ⟨_, _, _, q0, hc1, hn1, _, xs, hr1, _⟩ := open_flats0 (d := y0.1) (p := y0.2) 1 Tryz.underlying22 (by kernel_rfl) (by rw [cells_int]; omega) ⟨A1, n1, c1, rfl⟩ ⟨n, h0'⟩ (fun x hx => hlt x (by simp [hx]))
  cases q0
  obtain ⟨_, _, _, q1, hc2, hn2, _, ys, hr2, _⟩ := open_flats0 (d := y1.1) (p := y1.2) 5 Tryz.underlying23 (by kernel_rfl) (by rw [row_cells]; omega) ⟨A2, n2, c2, rfl⟩ ⟨n, h1'⟩ (fun x hx => hlt x (by simp [hx]))
  cases q1
  obtain ⟨_, _, _, q2, hc3, hn3, _, zs, hr3, _⟩ := open_flats0 (d := y2.1) (p := y2.2) 5 Tryz.underlying24 (by kernel_rfl) (by rw [bond_cells3]; omega) ⟨A3, n3, c3, rfl⟩ ⟨n, h2'⟩ (fun x hx => hlt x (by simp [hx]))
  cases q2
  rw [cells_int] at hr1
  rw [row_cells] at hr2
  rw [bond_cells3] at hr3
  have hxl : xs.length = n1 := by have := hr1.1; simpa using this
  have hyl : ys.length = n2 * 11 := by have := hr2.1; simpa using this
  have hzl : zs.length = n3 * 4 := by have := hr3.1; simpa using this
  have hy7 := cutRows_size hyl
  have hz7 := cutRows_size hzl
  have ey : ((cutRows 11 ys n2).map toRow4).map RowM.list = cutRows 11 ys n2 := by
    rw [List.map_map]
    conv => rhs; rw [← List.map_id (cutRows 11 ys n2)]
    exact List.map_congr_left fun r hr => toRow_lst (hy7 r hr)
  have ez : ((cutRows 4 zs n3).map toBond).map bondE = cutRows 4 zs n3 := by
    rw [List.map_map]
    conv => rhs; rw [← List.map_id (cutRows 4 zs n3)]
    exact List.map_congr_left fun r hr => toBond_list (hz7 r hr)
  refine ⟨A1, A2, A3, c1, c2, c3, ⟨xs, (cutRows 11 ys n2).map toRow4, (cutRows 4 zs n3).map toBond⟩, ?_, ⟨?_, ?_, ?_, ?_, ?_, ?_⟩, ?_, hc3⟩
  · simp only [List.length_map, cutRows_len, hxl]
  · simp only [hxl]; exact hr1
  · unfold RowsRd; simp only; rw [ey]; exact Reads.chunks hr2 (by omega)
  · unfold BondsRd; simp only; rw [ez]; exact Reads.chunks hr3 (by omega)
  · simp only [hxl]; omega
  · simp only [List.length_map, cutRows_len]; omega
  · simp only [List.length_map, cutRows_len]; omega
  · simp only [List.length_map, cutRows_len]; omega
set_option maxRecDepth 100000 in
/-- law_lift, for a row that lists variables -/
theorem law_lift_laid {os : Os} (started : os.Started) {H : Type} {enc : TypeId × Value → H} {f : FuncId} {fn : Func} {s : ChangeSpec}
    (noInit : Tryz.checked.prog.inits.idxOf? f = none) (hfn : Tryz.checked.prog.funcs[f]? = some fn)
    (hts : ∀ t ∈ fn.params.toList, Tryz.prog.readableRec t = true ∧ t < Tryz.prog.types.size) (hres : fn.resultTypes = #[4]) (hvars : s.vars = [])
    (hs : ∀ ds : List (DataW H), ds.length = fn.params.toList.length → s.fn H ds = { results := [.lit (.bool true)], args := ds })
    (witness : ∃ (w : World) (tape : Tape) (i : Input), w.os = os ∧ (w.forCall tape i).Shaped Tryz.checked.prog ∧ i.vars = [] ∧ Input.okWide Tryz.checked.prog (w.forCall tape i) .any w.heap.size f i ∧
      ((s.pre enc Tryz.checked.prog fn [] false (w.forCall tape i).memory i.args ∧ laidMetH Tryz.prog laidT (w.forCall tape i).memory) ∧ sizedMet enc Tryz.checked.prog fn (OpenSpec.ofChange s) false (w.forCall tape i).memory i.args) ∧ Assume.holds {} Tryz.checked.prog (lone (Frame.enter Tryz.checked.prog f i.args .normal) [] (w.forCall tape i)))
    (walk : ∀ (W : World) (base : Nat) (args : Array Value) (ds : List (DataW H)) (p : List MemPlace),
      (∀ (j : Nat) t v, fn.params[j]? = some t → args[j]? = some v → Value.okWide Tryz.prog W .any base t v) →
      DataW.TrodAll enc Tryz.prog W 0 (fun _ => true) true fn.params.toList args.toList ds p → (∀ x ∈ p, x.block < W.heap.size) →
      (DataW.weightsEach Tryz.prog fn.params.toList ds).all (· ≤ reachBytes) = true → Globs W →
      Calls Tryz.prog f args W fun e W' => e = .returned (.bool true) ∧ Below W.heap.size W W') :
    ReturnsInHanded {} Tryz.checked os f .any (fun w args => (s.pre enc Tryz.prog fn [] false w args ∧ laidMetH Tryz.prog laidT w) ∧ sizedMet enc Tryz.prog fn (OpenSpec.ofChange s) false w args) (s.post enc Tryz.prog fn false true false false) := by
  refine returnsInHanded_of_calls (C := Tryz.checked) own_knob started noInit witness ?_
  intro w tape i _ hsh _ hok hpre hholds
  obtain ⟨_, _, _, fn', hfn', _, _, _, _, hval⟩ := hok
  have e : fn' = fn := Option.some.inj (hfn'.symm.trans hfn)
  subst e
  obtain ⟨⟨⟨ds, gs, before, hw, hc⟩, hx⟩, hz⟩ := hpre
  have hW := DataW.Whole.of_heap (w' := w.forCall tape i) (by rfl) hw
  have hG : Globs (w.forCall tape i) := globs_of_laid (laidMetH.of_heap (by rfl) hx) hsh
  have hsz : (DataW.weightsEach Tryz.checked.prog (fn'.params.toList ++ s.plain.varTypes Tryz.checked.prog) (ds ++ gs)).all (· ≤ reachBytes) = true := hz.weights hw
  have hW' := hW
  obtain ⟨p, q, hA, hV, rfl, _, _⟩ := hW
  rw [hvars] at hV
  obtain ⟨rfl, rfl⟩ := trodVars_none hV
  have hlt : ∀ x ∈ p, x.block < (w.forCall tape i).heap.size := fun x hx => hW'.lt x (by simpa using hx)
  have hv : s.plain.varTypes Tryz.checked.prog = [] := by simp [ChangeSpec.plain, DataSpec.varTypes, hvars]
  rw [hv, List.append_nil, List.append_nil] at hsz
  have hlen : ds.length = fn'.params.toList.length := by
    have hgen : ∀ (ts : List TypeId) (vs : List Value) (ds : List (DataW H)) (ps : List MemPlace), DataW.TrodAll enc Tryz.prog (w.forCall tape i) 0 (fun _ => true) true ts vs ds ps → ds.length = ts.length := by
      intro ts
      induction ts with
      | nil => intro vs ds ps h; obtain ⟨_, rfl, _⟩ := trodAll_nil h; rfl
      | cons t ts ih =>
        intro vs ds ps h
        obtain ⟨v, vs', d, ds', p, q, _, rfl, _, _, h2⟩ := trodAll_cons h
        simp [ih _ _ _ h2]
    exact hgen _ _ _ _ hA
  refine (walk (w.forCall tape i) w.heap.size i.args ds p hval hA hlt hsz hG).mono fun e W' ⟨he, hb⟩ => ?_
  subst he
  refine ChangeSpec.post_blind ?_
  exact law_post laid_out hts hres Tryz.underlying4 hvars (hs ds hlen) hW' hb

end Go.Proofs.YtpgcghnlepnoiaaGreatDoor
