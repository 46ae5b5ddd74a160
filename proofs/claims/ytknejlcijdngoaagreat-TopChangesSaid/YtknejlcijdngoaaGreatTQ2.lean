/- Several texts in one, made short by a program of mine. -/
import Derived.Test.YtknejlcijdngoaaGreatTQ1
import Derived.Laws.Sem
import Derived.Test.YtknejlcijdngoaaGreatChecked
import Derived.Conc.WgGenN3
import Derived.KernelRfl
import Derived.Calls
set_option linter.defProp false
set_option linter.unusedVariables false
set_option linter.unusedSimpArgs false
set_option linter.unusedSectionVars false
set_option maxHeartbeats 16000000
set_option maxRecDepth 100000
open Array renaming all_eq_true→eY,empty_append→kU,getD_eq_getD_getElem?→bH,getElem?_eq_getElem→aX,getElem?_eq_none→iH,getElem?_eq_some_iff→aI,getElem?_map→gM,getElem?_modify→bq,getElem?_setIfInBounds_ne→aK,getElem?_setIfInBounds_self_of_lt→aU,mem_append→o4,range→rW,replicate→eG
open Bool renaming and_eq_true→aG,false_eq_true→dP,not_eq_true'→iT,or_eq_true→gi,false→ay,true→aw
open Classical renaming byContradiction→gH,choose→sY
open Go renaming Frame→bp,FuncId→bK,Goroutine→au,Operand→cG,Program→aS,TypeId→aA,Value→ao,World→ah
open Go.Builtin renaming delete_→me,firstCells→iI,zeroCells→kH
open Go.Deferred renaming ofValue→ic
open Go.Extern.MapsClone renaming clone→qJ
open Go.Frame renaming enter→fG
open Go.Instr renaming buildSlice→gh,checkKey→fV,fill→fI,findKey→kG,loadAt→eh,lookup→j9
open Go.Proofs.Tryz renaming prog→aj
open Go.Region renaming wanted→bu
open Go.Value renaming cells→iQ,int→aF,slice→eA
open Go.stepG renaming apply→fe,exec→ji
open List renaming filter_cons→qg,find?_cons→oj,foldl_cons→l9
open Nat renaming add_comm→dA,add_zero→lC,le_refl→ax,le_trans→bM,lt_of_lt_of_le→cc,lt_or_ge→ec,zero_add→bS
open Option renaming bind_eq_some_iff→dC,getD_some→bT,map_eq_some_iff→aJ,none→ai,some→ae
open Option.some renaming inj→be,injEq→dS
namespace Go.Proofs.YtknejlcijdngoaaGreat
namespace Rel
section
variable {P:aS} {S:jK}
abbrev BW (S:jK)(π:Ren):Nat×ao->Nat×ao->Prop:=λa b=>a.1=b.1/\bx S π a.2 b.2
def MV {π:Ren}: ∀(l l':List (ao×Nat)) (off:Nat) (c c':Array ao),cR S π c c'->du (λa b=>bx S π a.1 b.1/\a.2=b.2) l l'->cR S π (l.foldl (λcs (c,j)=>cs.setIfInBounds (off+j) c) c) (l'.foldl (λcs (c,j)=>cs.setIfInBounds (off+j) c) c'):=by
 intro l
 induction l with
 |nil=>intro l' off c c' h hl;cases hl;exact h
 |cons a l ih=>
  intro l' off c c' h hl;cases hl with
  |cons jM hr=>
   obtain⟨v,j⟩:=a
   rename_i b m
   obtain⟨v',j'⟩:=b;obtain⟨h1,h2⟩:=jM;simp only at h1 h2;subst h2;exact ih m off _ _ (je.set h h1) hr
def RJ {π:Ren}: ∀{l l':List ao} (n:Nat),du (bx S π) l l'->du (λ(a b:ao×Nat)=>bx S π a.1 b.1/\a.2=b.2) (l.zipIdx n) (l'.zipIdx n):=by
 intro l
 induction l with
 |nil=>intro l' n h;cases h;exact .nil
 |cons a l ih=>
  intro l' n h;cases h with
  |cons jM hr=>exact .cons ⟨jM,rfl⟩ (ih (n+1) hr)
def G6 {π:Ren}{v v':Array ao}(h:cR S π v v')(off:Nat){c c':Array ao}(hc:cR S π c c'):cR S π (v.zipIdx.foldl (λcs (x,j)=>cs.setIfInBounds (off+j) x) c) (v'.zipIdx.foldl (λcs (x,j)=>cs.setIfInBounds (off+j) x) c'):=by rw[<-Array.foldl_toList,<-Array.foldl_toList,Array.toList_zipIdx,Array.toList_zipIdx];exact MV _ _ off _ _ hc (RJ 0 (du.mO h))
def Ed {π:Ren}(place:Nat->Option (Nat×Nat)): ∀(ps LV:List (Nat×ao)) (c c':Array ao),cR S π c c'->du (BW S π) ps LV->gN (cR S π) (fI place c ps) (fI place c' LV):=by
 intro ps
 induction ps with
 |nil=>intro LV c c' h hl;cases hl;exact .some h
 |cons p ps ih=>
  intro LV c c' h hl;cases hl with
  |cons jM hr=>
   obtain⟨i,v⟩:=p
   rename_i q m
   obtain⟨i',v'⟩:=q;obtain⟨h1,h2⟩:=jM;simp only at h1 h2;subst h1;unfold fI;cases place i with
   |none=>exact .none
   |some os=>
    obtain⟨off,size⟩:=os;simp only;have tC:=h2.cells;rw[<-tC.size,<-h.size]
    split
    ·exact .none
    ·exact ih m _ _ (G6 tC off h) hr
def Oa {α β:Type}{f:α->Sem β}(hf: ∀a π,Ren.Ok P π->aC P S mK (f a) π (f a)): ∀(l:List α) (π:Ren),Ren.Ok P π->aC P S mK (l.mapM f) π (l.mapM f):=by
 intro l
 induction l with
 |nil=>intro π ok;rw[List.mapM_nil];exact aB rfl
 |cons a l ih=>intro π ok;rw[List.mapM_cons];exact aC.bind ok (hf a π ok) λfH b b' e1 h=>by subst h;exact aC.bind e1.ok (ih fH e1.ok) λjD c c' e2 h=>by subst h;exact aB rfl
def aeJ {α β:Type}{f:α->Sem β}(hf: ∀a π,Ren.Ok P π->aC P S mK (f a) π (f a))(x:Array α){π:Ren}(ok:Ren.Ok P π):aC P S mK (x.mapM f) π (x.mapM f):=by rw[Array.mapM_eq_mapM_toList];exact aC.bind ok (Oa hf _ π ok) λfH b b' e1 h=>by subst h;exact aB rfl
def abV {π:Ren}(hz:tc P S)(ok:Ren.Ok P π)(t:aA){ps LV:Array (Nat×ao)}(h:du (BW S π) ps.toList LV.toList):aC P S (VQ S) (Instr.build t ps) π (Instr.build t LV):=by
 unfold Instr.build;refine aC.bind ok (lY hz ok t) λfH z z' e1 h1=> ?_
 obtain⟨rfl,hf⟩:=h1;refine aC.bind e1.ok (bG e1.ok t) λjD d d' e2 hd=> ?_
 obtain⟨rfl,_⟩:=hd;have mono: ∀{π bQ:Ren},Ext P π bQ-> ∀{l l':List (Nat×ao)},du (BW S π) l l'->du (BW S bQ) l l':=by
  intro π bQ e l l' hl
  induction hl with
  |nil=>exact .nil
  |cons x _ y=>exact .cons ⟨x.1,x.2.mono e⟩ y
 have fin: ∀(ll:Ren),Ext P jD ll-> ∀place:Nat->Option (Nat×Nat),aC P S (VQ S)
  (match fI place z.cells ps.toList with|some cells=>pure (.agg cells)|_=>stuck "build: no such field, or a part of the wrong size") ll
  (match fI place z.cells LV.toList with|some cells=>pure (.agg cells)|_=>stuck "build: no such field, or a part of the wrong size"):=by
  intro ll e3 place;have:=Ed (S:=S) (π:=ll) place ps.toList LV.toList z.cells z.cells (hf ll).cells (mono (e1.trans (e2.trans e3)) h);revert this;generalize fI place z.cells ps.toList=a;generalize fI place z.cells LV.toList=b;intro this;cases this with
  |none=>exact rfl
  |some x=>exact aB (.agg x.size x.at_)
 cases d with
 |struct fields=>
  simp only;refine aC.bind e2.ok (aeJ (λf π ok=>aC.bind ok (fZ ok _) λ_ a b _ h=>by subst h;exact aB rfl) fields e2.ok) λll p p' e3 hp=> ?_
  subst hp;exact fin ll e3 _
 |array n el=>
  simp only;refine aC.bind e2.ok (fZ e2.ok _) λll p p' e3 hp=> ?_
  subst hp;have:=Ed (S:=S) (π:=ll) (λi=>ae (i*p,p)) ps.toList LV.toList z.cells z.cells (hf ll).cells (mono (e1.trans (e2.trans e3)) h);revert this;generalize fI _ z.cells ps.toList=a;generalize fI _ z.cells LV.toList=b;intro this;cases this with
  |none=>exact rfl
  |some x=>exact aB (.agg x.size x.at_)
 |_=>exact rfl
end
section
variable {P:aS} {S:jK}
def Lu (π:Ren):bx S π default default:=by show bx S π (.bool default) (.bool default);exact .bool _
def acj {π:Ren}{z:Array ao}(h:cR S π z z)(i:Nat):bx S π z[i]! z[i]! :=by
 rw[getElem!_def];cases hz:z[i]? with
 |none=>exact Lu π
 |some v=>exact h.at_ i v v hz hz
def yL {π:Ren}{z:Array ao}(h:cR S π z z)(n:Nat):cR S π ((rW n).map (z[· % z.size]!)) ((rW n).map (z[· % z.size]!)):=by refine⟨rfl,λi a b ha hb=> ?_⟩;rw[ha]at hb;obtain rfl:=be hb;rw[gM]at ha;obtain⟨j,_,rfl⟩:=aJ.1 ha;exact acj h _
def Jp {π:Ren}(n:Nat):aC P S mK (askRoom n) π (askRoom n):=by
 unfold askRoom
 split
 ·exact⟨.inl rfl,_,rfl,(),rfl,rfl⟩
 ·exact aB rfl
def K4 {π:Ren}(hz:tc P S)(ok:Ren.Ok P π)(t:aA)(len:Nat){ps LV:Array (Nat×ao)}(h:du (BW S π) ps.toList LV.toList):aC P S (VQ S) (gh t len ps) π (gh t len LV):=by
 have mono: ∀{π bQ:Ren},Ext P π bQ-> ∀{l l':List (Nat×ao)},du (BW S π) l l'->du (BW S bQ) l l':=by
  intro π bQ e l l' hl
  induction hl with
  |nil=>exact .nil
  |cons x _ y=>exact .cons ⟨x.1,x.2.mono e⟩ y
 unfold gh;refine aC.bind ok (bG ok t) λfH d d' e1 hd=> ?_
 obtain⟨rfl,_⟩:=hd;cases d with
 |slice el=>
  simp only;refine aC.bind e1.ok (fZ e1.ok _) λjD n n' e2 hn=> ?_
  subst hn
  split
  ·exact rfl
  ·have tail: ∀ll z,Ext P jD ll->cR S ll z z->aC P S (VQ S)
    (match fI (λi=>ae (i*n,n)) ((rW (len*n)).map (z[· % z.size]!)) ps.toList with|some cells=>do pure (.slice (ae (<-newRow el cells)) len len)|_=>stuck "buildSlice: a part of the wrong size") ll
    (match fI (λi=>ae (i*n,n)) ((rW (len*n)).map (z[· % z.size]!)) LV.toList with|some cells=>do pure (.slice (ae (<-newRow el cells)) len len)|_=>stuck "buildSlice: a part of the wrong size"):=by
    intro ll z e3 hs;have:=Ed (S:=S) (π:=ll) (λi=>ae (i*n,n)) ps.toList LV.toList _ _ (yL hs (len*n)) (mono (e1.trans (e2.trans e3)) h);revert this;generalize fI _ _ ps.toList=a;generalize fI _ _ LV.toList=b;intro this;cases this with
    |none=>exact rfl
    |some x=>exact aC.bind e3.ok (z6 _ e3.ok x) λvJ a b e4 ha=>aB (.slice _ _ ha)
   split
   ·exact tail jD #[] (Ext.refl e2.ok) ⟨rfl,by simp⟩
   ·exact aC.bind e2.ok (lY hz e2.ok el) λll a b e h=>by obtain⟨rfl,hf⟩:=h;exact tail ll _ e (hf ll).cells
 |_=>exact rfl
end
section
variable {P:aS} {S:jK}
def N9 {π:Ren}(hz:tc P S)(ok:Ren.Ok P π)(t:aA){l l' c c':ao}(hl:bx S π l l')(hc:bx S π c c'):aC P S (VQ S) (Instr.makeSlice t l c) π (Instr.makeSlice t l' c'):=by
 unfold Instr.makeSlice;refine aC.bind ok (bG ok t) λfH d d' e1 hd=> ?_
 obtain⟨rfl,_⟩:=hd;cases d with
 |slice el=>
  simp only;refine aC.bind e1.ok (zX e1.ok (hl.mono e1)) λjD a a' e2 h=> ?_
  subst h;refine aC.bind e2.ok (zX e2.ok ((hc.mono e1).mono e2)) λll b b' e3 h=> ?_
  subst h;refine aC.bind e3.ok (fJ e3.ok el) λvJ i i' e4 h=> ?_
  obtain⟨rfl,_⟩:=h;have tail: ∀RM n z,Ext P vJ RM->cR S RM z z->aC P S (VQ S)
   (do let a'<-newRow el ((rW n).map (z[· % z.size]!));pure (eA (ae a') (IntKind.i64.wrap a).toNat (IntKind.i64.wrap b).toNat)) RM
   (do let a'<-newRow el ((rW n).map (z[· % z.size]!));pure (eA (ae a') (IntKind.i64.wrap a).toNat (IntKind.i64.wrap b).toNat)):=by
   intro RM n z e6 hs;exact aC.bind e6.ok (z6 _ e6.ok (yL hs n)) λπ7 a b e7 ha=>aB (.slice _ _ ha)
  have go:aC P S (VQ S) (do
   askRoom ((IntKind.i64.wrap b).toNat*i.bytes)
   let n:=(IntKind.i64.wrap b).toNat*(<-sizeOf el)
   let zero<-if n=0 then pure #[]else do pure (<-zeroValue el).cells
   let a'<-newRow el ((rW n).map (zero[· % zero.size]!))
   pure (eA (ae a') (IntKind.i64.wrap a).toNat (IntKind.i64.wrap b).toNat)) vJ (do
   askRoom ((IntKind.i64.wrap b).toNat*i.bytes)
   let n:=(IntKind.i64.wrap b).toNat*(<-sizeOf el)
   let zero<-if n=0 then pure #[]else do pure (<-zeroValue el).cells
   let a'<-newRow el ((rW n).map (zero[· % zero.size]!))
   pure (eA (ae a') (IntKind.i64.wrap a).toNat (IntKind.i64.wrap b).toNat)):=by
   refine aC.bind e4.ok (Jp _) λLK _ _ e5 _=> ?_
   refine aC.bind e5.ok (fZ e5.ok _) λRM s s' e6 h=> ?_
   subst h;simp only
   split
   ·exact tail RM _ #[] (e5.trans e6) ⟨rfl,by simp⟩
   ·exact aC.bind e6.ok (lY hz e6.ok el) λπ7 x y e7 h=>by obtain⟨rfl,hf⟩:=h;exact tail π7 _ _ (e5.trans (e6.trans e7)) (hf π7).cells
  split
  ·split
   ·exact jR e4.ok _
   ·split
    ·exact jR e4.ok _
    ·refine aC.bind e4.ok (pj _) λLK x y e5 h=> ?_
     subst h
     first|exact jR e5.ok _|(split<;>exact jR e5.ok _)
  ·exact go
 |_=>exact rfl
end
section
variable {P:aS} {S:jK}
def je.opt {α β:Type}{R:α->β->Prop}{x:Array α}{y:Array β}(h:je R x y)(i:Nat):gN R x[i]? y[i]?:=by
 cases hx:x[i]? with
 |none=>
  have:y[i]? =ai:=by rw[Array.getElem?_eq_none_iff]at hx|-;rw[<-h.size];exact hx
  rw[this];exact .none
 |some a=>obtain⟨b,hb,jM⟩:=h.get hx;rw[hb];exact .some jM
def agY {π:Ren}(ok:Ren.Ok P π)(ts:Array aA)(t:aA){x y:Array ao}(h:cR S π x y):aC P S (VQ S) (Builtin.len_ ts t x) π (Builtin.len_ ts t y):=by
 unfold Builtin.len_;have h0:=h.opt 0;revert h0;generalize x[0]? =a;generalize y[0]? =b;intro h0;cases ts[0]? with
 |none=>cases h0<;>exact rfl
 |some tt=>
  cases h0 with
  |none=>exact rfl
  |some hv=>
   simp only;refine aC.bind ok (bG ok tt) λfH d d' e1 hd=> ?_
   obtain⟨rfl,_⟩:=hd;have xY:=hv.mono e1;cases d with
   |array n el=>cases xY<;>exact aB (.int _ _)
   |string=>cases xY<;>first|exact aB (.int _ _)|exact rfl
   |slice el=>cases xY<;>first|exact aB (.int _ _)|exact rfl
   |chan dd el=>cases xY<;>first|exact aB (.int _ _)|exact rfl
   |map k v=>
    cases xY with
    |yD=>exact aB (.int _ _)
    |map hr=>
     refine aC.bind e1.ok (ju hr) λjD o o' e2 ho=> ?_
     cases ho with
     |map k he=>simp only;rw[he.size];exact aB (.int _ _)
     |_=>exact rfl
    |_=>exact rfl
   |pointer arr=>
    cases xY<;>
     (refine aC.bind e1.ok (bG e1.ok arr) λjD d d' e2 hd=> ?_
      obtain⟨rfl,_⟩:=hd;cases d<;>first|exact aB (.int _ _)|exact rfl)
   |_=>cases xY<;>exact rfl
end
section
variable {P:aS} {S:jK}
def QW {π:Ren}{f f':Fn}{x x' y y':Array ao}(hf:V0 S π f f')(hx:cR S π x x')(hy:cR S π y y'):aC P S (VQ S) (Instr.makeFunc f x y) π (Instr.makeFunc f' x' y'):=aB (.func hf hx.size hx.at_ hy.size hy.at_)
def agX {π:Ren}(ok:Ren.Ok P π)(ts:Array aA)(t:aA){x y:Array ao}(h:cR S π x y):aC P S (VQ S) (Builtin.cap_ ts t x) π (Builtin.cap_ ts t y):=by
 unfold Builtin.cap_;have h0:=h.opt 0;revert h0;generalize x[0]? =a;generalize y[0]? =b;intro h0;cases ts[0]? with
 |none=>cases h0<;>exact rfl
 |some tt=>
  cases h0 with
  |none=>exact rfl
  |some hv=>
   simp only;refine aC.bind ok (bG ok tt) λfH d d' e1 hd=> ?_
   obtain⟨rfl,_⟩:=hd;have xY:=hv.mono e1;cases d with
   |array n el=>cases xY<;>exact aB (.int _ _)
   |slice el=>cases xY<;>first|exact aB (.int _ _)|exact rfl
   |chan dd el=>cases xY<;>first|exact aB (.int _ _)|exact rfl
   |pointer arr=>
    cases xY<;>
     (refine aC.bind e1.ok (bG e1.ok arr) λjD d d' e2 hd=> ?_
      obtain⟨rfl,_⟩:=hd;cases d<;>first|exact aB (.int _ _)|exact rfl)
   |_=>cases xY<;>exact rfl
def E9 {π:Ren}(op:BinOp)(k:IntKind)(x y:Int):aC P S (VQ S) (Op.intArith op k x y) π (Op.intArith op k x y):=by cases op<;>first|exact aB (.int _ _)|exact rfl
def ZB {π:Ren}(ok:Ren.Ok P π)(op:BinOp)(k:IntKind)(x y:Int):aC P S (VQ S) (Op.intDiv op k x y) π (Op.intDiv op k x y):=by
 unfold Op.intDiv
 split
 ·exact jR ok _
 ·cases op<;>first|exact aB (.int _ _)|exact rfl
def Jt {π:Ren}(op:BinOp)(k:IntKind)(x y:Int):aC P S (VQ S) (Op.intBits op k x y) π (Op.intBits op k x y):=by cases op<;>first|exact aB (.int _ _)|exact rfl
def ab2 {π:Ren}(ok:Ren.Ok P π)(op:BinOp)(k:IntKind)(x:Int)(yk:IntKind)(y:Int):aC P S (VQ S) (Op.shift op k x yk y) π (Op.shift op k x yk y):=by
 unfold Op.shift
 split
 ·exact jR ok _
 ·cases op<;>first|exact aB (.int _ _)|exact rfl
def ZA {π:Ren}(op:BinOp)(x y:Int):aC P S (VQ S) (Op.intCmp op x y) π (Op.intCmp op x y):=by cases op<;>first|exact aB (.bool _)|exact rfl
def yK {π:Ren}(op:BinOp)(x y:ByteArray):aC P S (VQ S) (Op.stringOp op x y) π (Op.stringOp op x y):=by unfold Op.stringOp;cases op<;>first|exact aB (.bool _)|exact rfl|(simp only;split<;>first|exact rfl|exact aB (.string _))
def ab5 {π:Ren}(op:UnOp){x x':ao}(h:bx S π x x'):aC P S (VQ S) (Op.unary op x) π (Op.unary op x'):=by cases op<;>cases h<;>first|exact rfl|exact E9 _ _ _ _|exact Jt _ _ _ _|exact aB (.int _ _)|exact aB (.bool _)
def aeL {π:Ren}(ok:Ren.Ok P π){x x' y y':ao}(hx:bx S π x x')(hy:bx S π y y'):aC P S (VQ S) (Builtin.min2 x y) π (Builtin.min2 x' y'):=by
 cases hx with
 |int=>cases hy<;>first|exact rfl|exact aB (.int _ _)
 |string=>
  cases hy with
  |string=>
   refine aC.bind ok (yK _ _ _) λfH a b e h=> ?_
   refine aC.bind e.ok (E4 h) λjD c d e2 h2=> ?_
   subst h2;cases c<;>exact aB (.string _)
  |_=>exact rfl
 |_=>cases hy<;>exact rfl
def aeK {π:Ren}(ok:Ren.Ok P π){x x' y y':ao}(hx:bx S π x x')(hy:bx S π y y'):aC P S (VQ S) (Builtin.max2 x y) π (Builtin.max2 x' y'):=by
 cases hx with
 |int=>cases hy<;>first|exact rfl|exact aB (.int _ _)
 |string=>
  cases hy with
  |string=>
   refine aC.bind ok (yK _ _ _) λfH a b e h=> ?_
   refine aC.bind e.ok (E4 h) λjD c d e2 h2=> ?_
   subst h2;cases c<;>exact aB (.string _)
  |_=>exact rfl
 |_=>cases hy<;>exact rfl
def N6 {f:ao->ao->Sem ao}(hf: ∀(π:Ren) x x' y y',Ren.Ok P π->bx S π x x'->bx S π y y'->aC P S (VQ S) (f x y) π (f x' y')): ∀{l l':List ao} {π:Ren} {x x':ao},Ren.Ok P π->du (bx S π) l l'->bx S π x x'->aC P S (VQ S) (l.foldlM f x) π (l'.foldlM f x'):=by
 intro l
 induction l with
 |nil=>intro l' π x x' ok hl hx;cases hl;exact aB hx
 |cons a l ih=>
  intro l' π x x' ok hl hx;cases hl with
  |cons ha hl=>
   refine aC.bind ok (hf π _ _ _ _ ok hx ha) λfH b b' e hb=>ih e.ok ?_ hb
   clear ih
   induction hl with
   |nil=>exact .nil
   |cons h _ i=>exact .cons (h.mono e) i
def ag1 {π:Ren}(ok:Ren.Ok P π)(ts:Array aA)(t:aA){x y:Array ao}(h:cR S π x y):aC P S (VQ S) (Builtin.min_ ts t x) π (Builtin.min_ ts t y):=by
 unfold Builtin.min_;have hl:=du.mO h;generalize x.toList=l at hl;generalize y.toList=l' at hl;cases hl with
 |nil=>exact rfl
 |cons ha hr=>exact N6 (λπ x x' y y' ok hx hy=>aeL ok hx hy) ok hr ha
def agZ {π:Ren}(ok:Ren.Ok P π)(ts:Array aA)(t:aA){x y:Array ao}(h:cR S π x y):aC P S (VQ S) (Builtin.max_ ts t x) π (Builtin.max_ ts t y):=by
 unfold Builtin.max_;have hl:=du.mO h;generalize x.toList=l at hl;generalize y.toList=l' at hl;cases hl with
 |nil=>exact rfl
 |cons ha hr=>exact N6 (λπ x x' y y' ok hx hy=>aeK ok hx hy) ok hr ha
end
section
variable {P:aS} {S:jK}
def S4 {π:Ren}{x x':ao}(h:bx S π x x'):aC P S mK (Builtin.lenOf x) π (Builtin.lenOf x'):=by cases h<;>first|exact aB rfl|exact rfl
def cR.append {π:Ren}{x x' y y':Array ao}(h:cR S π x x')(k:cR S π y y'):cR S π (x++y) (x'++y'):=by
 refine⟨by simp[h.size,k.size],λi a b ha hb=> ?_⟩;rw[Array.getElem?_append]at ha hb;rw[<-h.size]at hb
 split at ha
 ·rename_i hi;rw[if_pos hi]at hb;exact h.at_ i a b ha hb
 ·rename_i hi;rw[if_neg hi]at hb;exact k.at_ _ a b ha hb
def Uw {π:Ren}(l:Array UInt8):cR S π (l.map λb=>aF .u8 b.toNat) (l.map λb=>aF .u8 b.toNat):=by refine⟨rfl,λi a b ha hb=> ?_⟩;rw[ha]at hb;obtain rfl:=be hb;rw[gM]at ha;obtain⟨c,_,rfl⟩:=aJ.1 ha;exact .int _ _
def uW {π:Ren}(ok:Ren.Ok P π)(size n:Nat){x x':ao}(h:bx S π x x'):aC P S (VsQ S) (iI size n x) π (iI size n x'):=by
 cases h with
 |kE=>exact aB ⟨rfl,by simp⟩
 |slice l c ha=>exact Cz ok ha _
 |string s=>exact aB (Uw _)
 |_=>exact rfl
def zY {π:Ren}(ok:Ren.Ok P π){a a':Addr}(h:dM π a a')(n:Nat):aC P S mK (Builtin.holdsCells a n) π (Builtin.holdsCells a' n):=by
 unfold Builtin.holdsCells;refine aC.bind ok (oZ h.block) λfH x y e hx=> ?_
 subst hx;cases x with
 |none=>exact aB rfl
 |some x=>simp only[h.spot,h.off];exact aB rfl
def QY {π:Ren}(ok:Ren.Ok P π)(size vE n:Nat){b b':Option Addr}(hb:gN (dM π) b b'){x x':ao}(hx:bx S π x x'):aC P S mK (Builtin.mayShare size vE n b x) π (Builtin.mayShare size vE n b' x'):=by
 unfold Builtin.mayShare;have tail: ∀(fH:Ren) (t:Bool),Ext P π fH->aC P S mK (do
                               if !t then return aw
                               match x with
                                | .slice (ae c) _ _=>do pure (!(<-Builtin.holdsCells c (n*size))||b.any (·.block==c.block))
                                |_=>pure ay) fH (do
                               if !t then return aw
                               match x' with
                                | .slice (ae c) _ _=>do pure (!(<-Builtin.holdsCells c (n*size))||b'.any (·.block==c.block))
                                |_=>pure ay):=by
  intro fH t e1;cases t with
  |false=>exact aB rfl
  |true=>
   cases hx with
   |slice l c ha=>
    refine aC.bind e1.ok (zY e1.ok (ha.mono e1) _) λjD x y e rB=> ?_
    subst rB;cases hb with
    |none=>exact aB rfl
    |some jM=>
     rename_i a1 a2 b1 b2
     refine aB ?_;have:(b1.block==a1.block)=(b2.block==a2.block):=by
      have h1:=jM.block;have h2:=ha.block;by_cases hq:b1.block=a1.block
      ·rw[hq]at h1;have:=ok.fn _ _ _ h1 h2;simp[hq,this]
      ·have:b2.block≠a2.block:=λvm=>by rw[vm]at h1;exact hq (ok.inj _ _ _ h1 h2)
       rw[beq_eq_false_iff_ne.2 hq,beq_eq_false_iff_ne.2 this]
     show(!x||(b1.block==a1.block))=(!x||(b2.block==a2.block));rw[this]
   |_=>exact aB rfl
 cases hb with
 |none=>exact tail π aw (Ext.refl ok)
 |some jM=>
  refine aC.bind ok (zY ok jM _) λfH x y e rB=> ?_
  subst rB;refine aC.bind e.ok (wK ((jM.mono e).add _)) λjD x y e2 rB=> ?_
  subst rB;exact aC.bind (Q:=mK) e2.ok (aB rfl) λll x y e3 rB=>by subst rB;exact tail ll x (e.trans (e2.trans e3))
def qo (elem:aA)(base:Option Addr)(vE Bz size:Nat)(s x:ao)(kS:Bool)(n:Nat):Sem ao:=do
 let appended:Sem (Array ao):=
  if !kS then iI size n x
  else if n*size=0 then pure #[]
  else do pure (kH (<-zeroValue elem).cells n)
 let qx:=vE+n
 if qx<=Bz then
  let new<-appended
  if let ae a:=base then storeCells (a.add (vE*size)) new.toList
  pure (.slice base qx Bz)
 else
  if(qx:Int)>IntKind.i64.max/\(kS\/(<-typeInfo elem).bytes=0)then runtimePanic (.error "growslice: len out of range")
  if Builtin.nextslicecap qx Bz*(<-typeInfo elem).bytes>2^48 then(if kS then runtimePanic (.error "growslice: len out of range")else do
   if !(<-Builtin.mayShare size vE n base x)then mark .noRoom
   unsupported (.resourceLimit "append: a slice or a string whose bytes no memory bears"))
  let rK<-choose (.appendCap qx Bz elem)
  askRoom (rK*(<-typeInfo elem).bytes)
  let old<-iI size vE s
  let new<-appended
  let rest:=kH (<-zeroValue elem).cells (rK-qx)
  pure (.slice (ae (<-newRow elem (old++new++rest))) qx rK)
def wY {π:Ren}{z:Array ao}(h:cR S π z z)(n:Nat):cR S π (kH z n) (kH z n):=yL h _
def cR.mono {π bQ:Ren}(e:Ext P π bQ){x y:Array ao}(h:cR S π x y):cR S bQ x y:=je.mono h λ_ _ k=>k.mono e
def E3 {π:Ren}(hz:tc P S)(ok:Ren.Ok P π)(elem:aA)(size:Nat){x x':ao}(kS:Bool)(n:Nat)(hx:bx S π x x'):aC P S (VsQ S) (if !kS then iI size n x else if n*size=0 then pure #[]else do pure (kH (<-zeroValue elem).cells n)) π (if !kS then iI size n x' else if n*size=0 then pure #[]else do pure (kH (<-zeroValue elem).cells n)):=by
 split
 ·exact uW ok _ _ hx
 ·split
  ·exact aB ⟨rfl,by simp⟩
  ·exact aC.bind ok (lY hz ok elem) λfH a b e h=>by obtain⟨rfl,hf⟩:=h;exact aB (wY (hf fH).cells _)
def U1 {π:Ren}(hz:tc P S)(ok:Ren.Ok P π)(elem:aA)(vE Bz size:Nat){s s' x x':ao}(kS:Bool)(n qx:Nat)(hs:bx S π s s')(hx:bx S π x x'):aC P S (VQ S) (do
                                                                                                                                        let rK<-choose (.appendCap qx Bz elem)
                                                                                                                                        askRoom (rK*(<-typeInfo elem).bytes)
                                                                                                                                        let old<-iI size vE s
                                                                                                                                        let new<-(if !kS then iI size n x else if n*size=0 then pure #[]else do pure (kH (<-zeroValue elem).cells n))
                                                                                                                                        let rest:=kH (<-zeroValue elem).cells (rK-qx)
                                                                                                                                        pure (.slice (ae (<-newRow elem (old++new++rest))) qx rK)) π (do
                                                                                                                                        let rK<-choose (.appendCap qx Bz elem)
                                                                                                                                        askRoom (rK*(<-typeInfo elem).bytes)
                                                                                                                                        let old<-iI size vE s'
                                                                                                                                        let new<-(if !kS then iI size n x' else if n*size=0 then pure #[]else do pure (kH (<-zeroValue elem).cells n))
                                                                                                                                        let rest:=kH (<-zeroValue elem).cells (rK-qx)
                                                                                                                                        pure (.slice (ae (<-newRow elem (old++new++rest))) qx rK)):=by
 refine aC.bind ok (pj _) λfH c c' e1 h=> ?_
 subst h;refine aC.bind e1.ok (fJ e1.ok _) λjD i i' e2 h=> ?_
 obtain⟨rfl,_⟩:=h;refine aC.bind e2.ok (Jp _) λll _ _ e3 _=> ?_
 have e:=e1.trans (e2.trans e3);refine aC.bind e.ok (uW e.ok _ _ (hs.mono e)) λvJ o o' e4 ho=> ?_
 refine aC.bind e4.ok (E3 hz e4.ok elem size kS n ((hx.mono e).mono e4)) λLK v v' e5 hv=> ?_
 refine aC.bind e5.ok (lY hz e5.ok elem) λRM z z' e6 h=> ?_
 obtain⟨rfl,hf⟩:=h;refine aC.bind e6.ok (z6 _ e6.ok (((((ho.mono e5).mono e6)).append (hv.mono e6)).append (wY (hf RM).cells _))) λπ7 a a' e7 ha=>aB (.slice _ _ ha)
def Jo {π:Ren}(hz:tc P S)(ok:Ren.Ok P π)(elem:aA){b b':Option Addr}(vE Bz size:Nat){s s' x x':ao}(kS:Bool)(n:Nat)(hb:gN (dM π) b b')(hs:bx S π s s')(hx:bx S π x x'):aC P S (VQ S) (qo elem b vE Bz size s x kS n) π (qo elem b' vE Bz size s' x' kS n):=by
 unfold qo;simp only
 split
 ·refine aC.bind ok (E3 hz ok elem size kS n hx) λfH v v' e1 hv=> ?_
  cases hb with
  |none=>exact aB (.kE _ _)
  |some ha=>exact aC.bind e1.ok (uX e1.ok ((ha.mono e1).add _) 0 (du.mO hv)) λjD _ _ e2 _=>aB (.slice _ _ ((ha.mono e1).mono e2))
 ·refine aC.bind ok (fJ ok _) λfH i i' e1 h=> ?_
  obtain⟨rfl,_⟩:=h
  split
  ·exact jR e1.ok _
  ·refine aC.bind e1.ok (fJ e1.ok _) λjD i i' e2 h=> ?_
   obtain⟨rfl,_⟩:=h;have e:=e1.trans e2
   split
   ·refine aC.bind (Q:=λ_ _ _=>False) e.ok ?_ λ_ _ _ _ h=>h.elim
    cases kS with
    |true=>exact jR e.ok _
    |false=>
     simp only[dP,if_false];refine aC.bind e.ok (QY (b:=b) (b':=b') e.ok size vE n ?_ (hx.mono e)) λll c c' e3 h=> ?_
     ·cases hb with
      |none=>exact .none
      |some ha=>exact .some (ha.mono e)
     ·subst h;cases c with
      |true=>exact rfl
      |false=>exact⟨.inl rfl,_,rfl,rfl⟩
   ·exact U1 hz e.ok elem vE Bz size kS n (vE+n) (hs.mono e) (hx.mono e)
end
section
variable {P:aS} {S:jK}
def D1 (elem:aA)(t1:Option aA)(base:Option Addr)(vE Bz:Nat)(s x:ao):Sem ao:=do
 let size<-sizeOf elem
 let kS<-match t1 with
  |some ahd=>do pure ((<-underlying ahd) matches .int _)
  |none=>pure ay
 let n<-if kS then do
     let l:=IntKind.i64.wrap (<-asInt x)
     if l<0 then runtimePanic (.error "makeslice: len out of range")
     if l*(<-typeInfo elem).bytes>2^48 then
      let made<-choose (.extern "append.ofMake.carriedOut" 2)
      runtimePanic (.error (if made==1 then "makeslice: len out of range" else "growslice: len out of range"))
     pure l.toNat
  else Builtin.lenOf x
 qo elem base vE Bz size s x kS n
def gN.addr {π bQ:Ren}(e:Ext P π bQ){c c':Option Addr}(h:gN (dM π) c c'):gN (dM bQ) c c':=gN.mono (λ_ _ k=>k.mono e) h
def N3 {π:Ren}(hz:tc P S)(ok:Ren.Ok P π)(el:aA)(t1:Option aA){c c':Option Addr}(l cp:Nat){s s' x x':ao}(hc:gN (dM π) c c')(hs:bx S π s s')(hx:bx S π x x'):aC P S (VQ S) (D1 el t1 c l cp s x) π (D1 el t1 c' l cp s' x'):=by
 unfold D1;refine aC.bind ok (fZ ok el) λjD n n' e2 h=> ?_
 subst h;have tl: ∀(ll:Ren) (z:Bool),Ext P π ll->aC P S (VQ S) (if z then do
  let l1:=IntKind.i64.wrap (<-asInt x)
  let jp:=λ(_:Unit)=>do
   let i<-typeInfo el
   let jp2:=λ(_:Unit)=>do
    let k<-pure l1.toNat
    qo el c l cp n s x z k
   if l1*i.bytes>2^48 then do
    let made<-choose (.extern "append.ofMake.carriedOut" 2)
    let r<-runtimePanic (.error (if made==1 then "makeslice: len out of range" else "growslice: len out of range"))
    jp2 r
   else jp2 ()
  if l1<0 then do
   let r<-runtimePanic (.error "makeslice: len out of range")
   jp r
  else jp ()
  else do
   let k<-Builtin.lenOf x
   qo el c l cp n s x z k) ll (if z then do
   let l1:=IntKind.i64.wrap (<-asInt x')
   let jp:=λ(_:Unit)=>do
    let i<-typeInfo el
    let jp2:=λ(_:Unit)=>do
     let k<-pure l1.toNat
     qo el c' l cp n s' x' z k
    if l1*i.bytes>2^48 then do
     let made<-choose (.extern "append.ofMake.carriedOut" 2)
     let r<-runtimePanic (.error (if made==1 then "makeslice: len out of range" else "growslice: len out of range"))
     jp2 r
    else jp2 ()
   if l1<0 then do
    let r<-runtimePanic (.error "makeslice: len out of range")
    jp r
   else jp ()
  else do
   let k<-Builtin.lenOf x'
   qo el c' l cp n s' x' z k):=by
  intro ll z e3;cases z with
  |false=>
   refine aC.bind e3.ok (S4 (hx.mono e3)) λvJ k k' e4 h=> ?_
   subst h;have e:=e3.trans e4;exact Jo hz e.ok el l cp n ay k (gN.addr e hc) (hs.mono e) (hx.mono e)
  |true=>
   refine aC.bind e3.ok (zX e3.ok (hx.mono e3)) λfH a a' e1 h=> ?_
   subst h;simp only
   split
   ·exact aC.bind (Q:=λ_ _ _=>False) e1.ok (jR e1.ok _) λ_ _ _ _ h=>h.elim
   ·refine aC.bind e1.ok (fJ e1.ok _) λjD i i' e2 h=> ?_
    obtain⟨rfl,_⟩:=h
    split
    ·refine aC.bind e2.ok (pj _) λll c c' e3 h=> ?_
     subst h;exact aC.bind (Q:=λ_ _ _=>False) e3.ok (jR e3.ok _) λ_ _ _ _ h=>h.elim
    ·refine aC.bind (Q:=mK) e2.ok (aB rfl) λvJ k k' e4 h=> ?_
     subst h;have e:=e3.trans (e1.trans (e2.trans e4));exact Jo hz e.ok el l cp n aw _ (gN.addr e hc) (hs.mono e) (hx.mono e)
 cases t1 with
 |none=>exact aC.bind (Q:=mK) e2.ok (aB rfl) λvJ a b e4 h=>by subst h;exact tl vJ a (e2.trans e4)
 |some tx=>
  refine aC.bind e2.ok (bG e2.ok tx) λll d d' e3 hd=> ?_
  obtain⟨rfl,_⟩:=hd;exact aC.bind (Q:=mK) e3.ok (aB rfl) λvJ a b e4 h=>by subst h;exact tl vJ a (e2.trans (e3.trans e4))
def append_eq (ts:Array aA)(t:aA)(x:Array ao):Builtin.append_ ts t x=(match ts[0]?,x[0]?,x[1]? with
 |some tt,ae s,ae v=>do
  let .slice el<-underlying tt|stuck "append: slice type expected"
  let .slice base l cp:=s|stuck "append: slice expected"
  D1 el ts[1]? base l cp s v
 |_,_,_=>stuck "append: two arguments expected"):=by
 unfold Builtin.append_ D1 qo;cases ts[0]?<;>cases x[0]?<;>cases x[1]?<;>rfl
def Zx {π:Ren}(hz:tc P S)(ok:Ren.Ok P π)(ts:Array aA)(t:aA){x y:Array ao}(h:cR S π x y):aC P S (VQ S) (Builtin.append_ ts t x) π (Builtin.append_ ts t y):=by
 rw[append_eq,append_eq];have h0:=h.opt 0;have h1:=h.opt 1;revert h0 h1;generalize x[0]? =a;generalize y[0]? =a';generalize x[1]? =b;generalize y[1]? =b';generalize ts[1]? =t1;intro h0 h1;cases ts[0]? with
 |none=>cases h0<;>cases h1<;>exact rfl
 |some tt=>
  cases h0 with
  |none=>exact rfl
  |some hs=>
   cases h1 with
   |none=>exact rfl
   |some hx=>
    refine aC.bind ok (bG ok tt) λfH d d' e1 hd=> ?_
    obtain⟨rfl,_⟩:=hd;cases d with
    |slice el=>
     have C2:=hs.mono e1;cases C2 with
     |kE l cp=>exact N3 hz e1.ok el t1 l cp .none (.kE _ _) (hx.mono e1)
     |slice l cp ha=>exact N3 hz e1.ok el t1 l cp (.some ha) (.slice _ _ ha) (hx.mono e1)
     |_=>exact rfl
    |_=>cases hs<;>exact rfl
def zp (elem:aA)(base:Option Addr)(ahF:Nat)(src:ao):Sem ao:=do
 let n:=Nat.min (<-Builtin.lenOf src) ahF
 let cells<-iI (<-sizeOf elem) n src
 if let ae a:=base then storeCells a cells.toList
 pure (goInt n)
def Jr {π:Ren}(ok:Ren.Ok P π)(el:aA){c c':Option Addr}(l:Nat){x x':ao}(hc:gN (dM π) c c')(hx:bx S π x x'):aC P S (VQ S) (zp el c l x) π (zp el c' l x'):=by
 unfold zp;refine aC.bind ok (S4 hx) λfH n n' e1 h=> ?_
 subst h;refine aC.bind e1.ok (fZ e1.ok el) λjD k k' e2 h=> ?_
 subst h;refine aC.bind e2.ok (uW e2.ok _ _ ((hx.mono e1).mono e2)) λll v v' e3 hv=> ?_
 have hc3:=gN.addr (e1.trans (e2.trans e3)) hc;cases hc3 with
 |none=>exact aB (.int _ _)
 |some ha=>exact aC.bind e3.ok (uX e3.ok ha 0 (du.mO hv)) λvJ _ _ e4 _=>aB (.int _ _)
def copy_eq (ts:Array aA)(t:aA)(x:Array ao):Builtin.copy_ ts t x=(match ts[0]?,x[0]?,x[1]? with
 |some tt,ae s,ae v=>do
  let .slice el<-underlying tt|stuck "copy: slice type expected"
  let .slice base l _:=s|stuck "copy: slice expected"
  zp el base l v
 |_,_,_=>stuck "copy: two arguments expected"):=by
 unfold Builtin.copy_ zp;cases ts[0]?<;>cases x[0]?<;>cases x[1]?<;>rfl
def aeI {π:Ren}(ok:Ren.Ok P π)(ts:Array aA)(t:aA){x y:Array ao}(h:cR S π x y):aC P S (VQ S) (Builtin.copy_ ts t x) π (Builtin.copy_ ts t y):=by
 rw[copy_eq,copy_eq];have h0:=h.opt 0;have h1:=h.opt 1;revert h0 h1;generalize x[0]? =a;generalize y[0]? =a';generalize x[1]? =b;generalize y[1]? =b';intro h0 h1;cases ts[0]? with
 |none=>cases h0<;>cases h1<;>exact rfl
 |some tt=>
  cases h0 with
  |none=>exact rfl
  |some hs=>
   cases h1 with
   |none=>exact rfl
   |some hx=>
    refine aC.bind ok (bG ok tt) λfH d d' e1 hd=> ?_
    obtain⟨rfl,_⟩:=hd;cases d with
    |slice el=>
     have C2:=hs.mono e1;cases C2 with
     |kE l cp=>exact Jr e1.ok el l .none (hx.mono e1)
     |slice l cp ha=>exact Jr e1.ok el l (.some ha) (hx.mono e1)
     |_=>exact rfl
    |_=>cases hs<;>exact rfl
end
section
variable {P:aS} {S:jK}
def S2 {γ σ:Type}{f f':γ->σ->Sem (ForInStep σ)}{π:Ren}(ok:Ren.Ok P π)(h: ∀bQ,Ext P π bQ-> ∀x s,aC P S mK (f x s) bQ (f' x s)): ∀(l:List γ) (s:σ),aC P S mK (forIn l s f) π (forIn l s f'):=by
 intro l
 induction l generalizing π with
 |nil=>intro s;exact aB rfl
 |cons a l ih=>
  intro s;rw[List.forIn_cons,List.forIn_cons];refine aC.bind ok (h π (Ext.refl ok) a s) λfH r r' e hr=> ?_
  subst hr;cases r with
  |done b=>exact aB rfl
  |yield b=>exact ih e.ok (λbQ e'=>h bQ (e.trans e')) b
def E7 {γ σ:Type}{f f':γ->σ->Sem (ForInStep σ)}{π:Ren}(ok:Ren.Ok P π)(h: ∀bQ,Ext P π bQ-> ∀x s,aC P S mK (f x s) bQ (f' x s))(l:Array γ)(s:σ):aC P S mK (forIn l s f) π (forIn l s f'):=by rw[<-Array.forIn_toList,<-Array.forIn_toList];exact S2 ok h _ _
def E8 {σ:Type}{f f':Nat->σ->Sem (ForInStep σ)}{π:Ren}(ok:Ren.Ok P π)(h: ∀bQ,Ext P π bQ-> ∀x s,aC P S mK (f x s) bQ (f' x s))(r:Std.Legacy.Range)(s:σ):aC P S mK (forIn r s f) π (forIn r s f'):=by rw[Std.Legacy.Range.forIn_eq_forIn_range',Std.Legacy.Range.forIn_eq_forIn_range'];exact S2 ok h _ _
def vP {π:Ren}(ok:Ren.Ok P π){a b a' b':Addr}(ha:dM π a a')(hb:dM π b b'):(a==b)=(a'==b'):=by
 have key:a=b↔a'=b':=by
  constructor
  ·rintro rfl;have:=ok.fn _ _ _ ha.block hb.block;cases a';cases b'
   simp_all
   exact⟨ha.off.trans hb.off.symm,ha.spot.trans hb.spot.symm⟩
  ·rintro rfl;have:=ok.inj _ _ _ ha.block hb.block;cases a;cases b
   simp_all
   exact⟨ha.off.symm.trans hb.off,ha.spot.symm.trans hb.spot⟩
 by_cases h:a=b
 ·rw[beq_iff_eq.2 h,beq_iff_eq.2 (key.1 h)]
 ·rw[beq_eq_false_iff_ne.2 h,beq_eq_false_iff_ne.2 λe=>h (key.2 e)]
def AH {π:Ren}(ok:Ren.Ok P π){a b a' b':Nat}(ha:π a a')(hb:π b b'):(a==b)=(a'==b'):=by
 have key:a=b↔a'=b':=⟨λh=>by subst h;exact ok.fn _ _ _ ha hb,λh=>by subst h;exact ok.inj _ _ _ ha hb⟩;by_cases h:a=b
 ·rw[beq_iff_eq.2 h,beq_iff_eq.2 (key.1 h)]
 ·rw[beq_eq_false_iff_ne.2 h,beq_eq_false_iff_ne.2 λe=>h (key.2 e)]
def CC {π:Ren}(ok:Ren.Ok P π){a a':Addr}(h:dM π a a'):aC P S mK (stringish a) π (stringish a'):=by
 unfold stringish;refine aC.bind ok (wK h) λfH x y e hx=> ?_
 subst hx;cases x with
 |true=>exact aB rfl
 |false=>
  simp only[dP,if_false];refine aC.bind e.ok (oZ (e.le _ _ h.block)) λjD x y e2 hx=> ?_
  subst hx;cases x with
  |none=>exact aB rfl
  |some x=>exact wK ⟨(e.trans e2).le _ _ h.block,rfl,rfl⟩
def QX {π:Ren}(ok:Ren.Ok P π){a b a' b':Addr}(ha:dM π a a')(hb:dM π b b'):aC P S mK (mayBeOne a b) π (mayBeOne a' b'):=by
 unfold mayBeOne;refine aC.bind ok (CC ok ha) λfH x y e1 hx=> ?_
 subst hx;refine aC.bind e1.ok (CC e1.ok (hb.mono e1)) λjD x y e2 hx=> ?_
 subst hx;refine aC.bind (Q:=mK) e2.ok (aC.bind e2.ok (oZ ((ha.mono e1).mono e2).block) λll x y e3 hx=>by subst hx;exact aB rfl) λll x y e3 hx=> ?_
 subst hx;refine aC.bind (Q:=mK) e3.ok (aC.bind e3.ok (oZ (((hb.mono e1).mono e2).mono e3).block) λll x y e3 hx=>by subst hx;exact aB rfl) λvJ x y e4 hx=> ?_
 subst hx;exact aB rfl
def Fe {π:Ren}(ok:Ren.Ok P π){a b a' b':Addr}(ha:dM π a a')(hb:dM π b b'):aC P S mK (sameAddr a b) π (sameAddr a' b'):=by
 unfold sameAddr;rw[AH ok ha.block hb.block,vP ok ha hb]
 split
 ·exact aB rfl
 ·refine aC.bind ok (wK ha) λfH x y e1 hx=> ?_
  subst hx;refine aC.bind e1.ok (wK (hb.mono e1)) λjD x y e2 hx=> ?_
  subst hx;have e12:=e1.trans e2
  split
  ·exact rfl
  ·refine aC.bind e2.ok (Fc e2.ok (ha.mono e12)) λll x y e3 hx=> ?_
   refine aC.bind e3.ok (Fc e3.ok ((hb.mono e12).mono e3)) λvJ x y e4 hx=> ?_
   have e:=(e12.trans e3).trans e4;refine aC.bind e4.ok (QX e4.ok (ha.mono e) (hb.mono e)) λLK x y e5 hx=> ?_
   subst hx;cases x with
   |true=>exact aC.bind e5.ok (pj _) λRM x y e6 hx=>by subst hx;exact aB rfl
   |false=>exact aB rfl
def ku {π:Ren}(ok:Ren.Ok P π){a a':Addr}(h:dM π a a'):aC P S (λπ p q=>dM π p.1 q.1/\q.2=p.2) (behindNumber a) π (behindNumber a'):=by
 unfold behindNumber;refine aC.bind (Q:=λπ a b=>gN (λp q:Addr×Bool=>dM π p.1 q.1/\q.2=p.2) a b) ok ?_ λfH x y e hx=>by
  cases hx with
  |none=>exact aB ⟨h.mono e,rfl⟩
  |some k=>exact aB k
 unfold numberAt;refine aC.bind ok (oZ h.block) λfH x y e hx=> ?_
 subst hx;cases x with
 |some x=>exact aB .none
 |none=>
  refine aC.bind e.ok (ju (e.le _ _ h.block)) λjD o o' e2 ho=> ?_
  cases ho with
  |number l ha=>exact aB (.some ⟨ha,rfl⟩)
  |_=>exact aB .none
end
section
variable {P:aS} {S:jK}
def Qm (t:aA)(a b:Addr):Sem Bool:=do
 let(a,b):=((<-behindNumber a).1,(<-behindNumber b).1)
 if a.block==b.block&&a.block<(<-program).globals.size then return (<-byteOf a)==(<-byteOf b)
 let .named "sync.copyChecker" _:=(<-typeInfo t).desc|unsupported .addressObserved
 if a==b then pure aw else unsupported .addressObserved
def ZC {π:Ren}(ok:Ren.Ok P π)(t:aA){a b a' b':Addr}(ha:dM π a a')(hb:dM π b b'):aC P S mK (Qm t a b) π (Qm t a' b'):=by
 unfold Qm;refine aC.bind ok (ku ok ha) λfH p p' e1 hp=> ?_
 refine aC.bind e1.ok (ku e1.ok (hb.mono e1)) λjD q q' e2 hq=> ?_
 have h1:=hp.1.mono e2;have h2:=hq.1;refine aC.bind e2.ok gV λll r r' e3 hr=> ?_
 obtain⟨rfl,rfl⟩:=hr;have h1:=h1.mono e3;have h2:=h2.mono e3
 rename_i r'
 have hg:decide (p.1.block<r'.globals.size)=decide (p'.1.block<r'.globals.size):=decide_eq_decide.2 (e3.ok.X5 _ _ h1.block);rw[AH e3.ok h1.block h2.block,hg]
 split
 ·refine aC.bind e3.ok (rP e3.ok h1) λvJ x y e4 hx=> ?_
  subst hx;refine aC.bind e4.ok (rP e4.ok (h2.mono e4)) λLK x y e5 hx=> ?_
  subst hx;exact aB rfl
 ·refine aC.bind e3.ok (fJ e3.ok t) λvJ i i' e4 hi=> ?_
  obtain⟨rfl,_⟩:=hi;rw[vP e4.ok (h1.mono e4) (h2.mono e4)]
  split
  ·split
   ·exact aB rfl
   ·exact rfl
  ·exact rfl
def U5: ∀(d:Nat) (t:aA) {π:Ren} {x x' y y':ao},Ren.Ok P π->bx S π x x'->bx S π y y'->aC P S mK (Op.equalIn d t x y) π (Op.equalIn d t x' y'):=by
 intro d
 induction d with
 |zero=>intros;exact rfl
 |succ d ih=>
  intro t π x x' y y' ok hx hy;refine aC.bind ok (bG ok t) λfH ds Wc e1 hd=> ?_
  obtain⟨rfl,_⟩:=hd;have hx:=hx.mono e1;have hy:=hy.mono e1;cases ds with
  |bool=>cases hx<;>first|exact rfl|(cases hy<;>first|exact aB rfl|exact rfl)
  |int k=>
   cases hx with
   |int k a=>
    cases hy with
    |int k' b=>
     by_cases h:k=k'
     ·simp only[h,if_true];exact aB rfl
     ·simp only[h,if_false];exact rfl
    |pointer hb=>rcases a with(_|n)|n<;>first|exact aB rfl|exact rfl
    |fR=>rcases a with(_|n)|n<;>exact rfl
    |_=>exact rfl
   |pointer ha=>
    cases hy with
    |int k' b=>rcases b with(_|n)|n<;>first|exact aB rfl|exact rfl
    |pointer hb=>exact ZC e1.ok t ha hb
    |_=>exact rfl
   |fR=>cases hy<;>exact rfl
   |_=>cases hy<;>exact rfl
  |float k=>cases hx<;>first|exact rfl|(cases hy<;>exact rfl)
  |complex k=>cases hx<;>first|exact rfl|(cases hy<;>exact rfl)
  |string=>cases hx<;>first|exact rfl|(cases hy<;>first|exact aB rfl|exact rfl)
  |pointer el=>
   cases hx with
   |fR=>cases hy<;>first|exact aB rfl|exact rfl
   |pointer ha=>
    cases hy with
    |fR=>exact aB rfl
    |pointer hb=>
     refine aC.bind e1.ok (fZ e1.ok el) λjD n n' e2 h=> ?_
     subst h
     split
     ·exact Fe e2.ok (ha.mono e2) (hb.mono e2)
     ·rw[vP e2.ok (ha.mono e2) (hb.mono e2)]
      split
      ·exact aB rfl
      ·exact aC.bind e2.ok (pj _) λll a b e3 h=>by subst h;exact aB rfl
    |_=>exact rfl
   |_=>exact rfl
  |unsafePointer=>
   cases hx with
   |fR=>cases hy<;>first|exact aB rfl|exact rfl
   |pointer ha=>
    cases hy with
    |fR=>exact aB rfl
    |pointer hb=>exact Fe e1.ok ha hb
    |_=>exact rfl
   |_=>exact rfl
  |chan dd el=>cases hx<;>first|exact rfl|(cases hy<;>first|exact aB rfl|exact rfl)
  |interface ms=>
   cases hx with
   |nilIface=>cases hy<;>first|exact aB rfl|exact rfl
   |iface tx vx=>
    cases hy with
    |nilIface=>exact aB rfl
    |iface ty vy=>
     simp only
     split
     ·exact aB rfl
     ·refine aC.bind e1.ok (fJ e1.ok tx) λjD i i' e2 hi=> ?_
      obtain⟨rfl,_⟩:=hi
      split
      ·refine aC.bind e2.ok gV λll r r' e3 hr=> ?_
       obtain⟨rfl,rfl⟩:=hr;refine aC.bind e3.ok gV λvJ r r' e4 hr=> ?_
       obtain⟨rfl,rfl⟩:=hr
       split
       ·exact rfl
       ·refine aC.bind (Q:=mK) e4.ok (aC.bind e4.ok (fJ e4.ok tx) λLK j j' e5 hj=> ?_) λLK s s' e5 h=> ?_
        ·obtain⟨rfl,_⟩:=hj;simp only
         split
         ·exact rfl
         ·exact aB rfl
        ·subst h;exact jR e5.ok _
      ·exact ih tx e2.ok (vx.mono e2) (vy.mono e2)
    |_=>exact rfl
   |_=>exact rfl
  |struct fs=>
   cases hx with
   |agg s1 h1=>
    cases hy with
    |agg s2 h2=>
     have hx:cR S fH _ _:=⟨s1,h1⟩;have hy:cR S fH _ _:=⟨s2,h2⟩;refine aC.bind e1.ok gV λjD r r' e2 hr=> ?_
     obtain⟨rfl,rfl⟩:=hr
     split
     ·exact rfl
     ·refine aC.bind (Q:=mK) e2.ok (E7 e2.ok (λll e3 f s=> ?_) fs _) λll s s' e3 h=> ?_
      ·have e:=e2.trans e3
       split
       ·refine aC.bind e3.ok (pT e3.ok _ (cR.mono e hx) _) λvJ a a' e4 ha=> ?_
        refine aC.bind e4.ok (pT e4.ok _ (cR.mono (e.trans e4) hy) _) λLK b b' e5 hb=> ?_
        refine aC.bind e5.ok (ih _ e5.ok (ha.mono e5) hb) λRM c c' e6 h=> ?_
        subst h;cases c<;>exact aB rfl
       ·exact aB rfl
      ·subst h;obtain⟨s1,s2⟩:=s;cases s1<;>exact aB rfl
    |_=>exact rfl
   |_=>exact rfl
  |array n el=>
   cases hx with
   |agg s1 h1=>
    cases hy with
    |agg s2 h2=>
     have hx:cR S fH _ _:=⟨s1,h1⟩;have hy:cR S fH _ _:=⟨s2,h2⟩;refine aC.bind e1.ok (fZ e1.ok el) λjD m m' e2 h=> ?_
     subst h;refine aC.bind (Q:=mK) e2.ok (E8 e2.ok (λll e3 f s=> ?_) _ _) λll s s' e3 h=> ?_
     ·have e:=e2.trans e3;refine aC.bind e3.ok (pT e3.ok _ (cR.mono e hx) _) λvJ a a' e4 ha=> ?_
      refine aC.bind e4.ok (pT e4.ok _ (cR.mono (e.trans e4) hy) _) λLK b b' e5 hb=> ?_
      refine aC.bind e5.ok (ih _ e5.ok (ha.mono e5) hb) λRM c c' e6 h=> ?_
      subst h;cases c<;>exact aB rfl
     ·subst h;obtain⟨s1,s2⟩:=s;cases s1<;>exact aB rfl
    |_=>exact rfl
   |_=>exact rfl
  |slice el=>cases hx<;>first|exact rfl|(cases hy<;>first|exact aB rfl|exact rfl)
  |map k v=>cases hx<;>first|exact rfl|(cases hy<;>first|exact aB rfl|exact rfl)
  |func a b c=>cases hx<;>first|exact rfl|(cases hy<;>first|exact aB rfl|exact rfl)
  |_=>cases hx<;>cases hy<;>exact rfl
def S1 (t:aA){π:Ren}{x x' y y':ao}(ok:Ren.Ok P π)(hx:bx S π x x')(hy:bx S π y y'):aC P S mK (Op.equal t x y) π (Op.equal t x' y'):=U5 _ t ok hx hy
end
section
variable {P:aS} {S:jK}
def je.SQ {α β:Type}{R:α->β->Prop}: ∀{x:List α} {y:List β},du R x y->je R x.toArray y.toArray:=by
 intro x y h
 induction h with
 |nil=>exact⟨rfl,by simp⟩
 |cons jM _ ih=>
  refine⟨by simpa using ih.size,λi c d hc hd=> ?_⟩;cases i with
  |zero=>simp at hc hd;subst hc;subst hd;exact jM
  |succ i=>exact ih.at_ i c d (by simpa using hc) (by simpa using hd)
def je.Jh {α β:Type}{R:α->β->Prop}{x:Array α}{y:Array β}(h:du R x.toList y.toList):je R x y:=by have:=je.SQ h;simpa using this
abbrev BR (S:jK)(π:Ren):Array MapEntry->Array MapEntry->Prop:=je (pP S π)
abbrev VZ (S:jK)(π:Ren):List MapEntry->List MapEntry->Prop:=du (pP S π)
abbrev Pq (S:jK)(π:Ren):Option (Nat×ao)->Option (Nat×ao)->Prop:=gN λa b=>b.1=a.1/\bx S π a.2 b.2
def du.mono {α β:Type}{R R':α->β->Prop}(h: ∀a b,R a b->R' a b){l:List α}{m:List β}(x:du R l m):du R' l m:=by
 induction x with
 |nil=>exact .nil
 |cons jM _ ih=>exact .cons (h _ _ jM) ih
def VZ.mono {π bQ:Ren}(e:Ext P π bQ){l m:List MapEntry}(x:VZ S π l m):VZ S bQ l m:=du.mono (λ_ _ h=>h.mono e) x
def BR.mono {π bQ:Ren}(e:Ext P π bQ){l m:Array MapEntry}(x:BR S π l m):BR S bQ l m:=je.mono x λ_ _ h=>h.mono e
def uV (b:Bool): ∀(n:Nat) (t:aA) {π:Ren} {v v':ao},Ren.Ok P π->bx S π v v'->aC P S mK (fV b n t v) π (fV b n t v'):=by
 intro n
 induction n with
 |zero=>intros;exact rfl
 |succ n ih=>
  intro t π v v' ok hv;refine aC.bind ok (bG ok t) λfH ds Wc e1 hd=> ?_
  obtain⟨rfl,_⟩:=hd;have hv:=hv.mono e1;cases ds with
  |interface ms=>
   cases hv with
   |nilIface=>exact aB rfl
   |iface d hx=>
    refine aC.bind e1.ok (fJ e1.ok d) λjD i i' e2 hi=> ?_
    obtain⟨rfl,_⟩:=hi
    split
    ·split
     ·exact kx e2.ok (.unhashable d) (.unhashable d) ⟨by simp,by simp⟩
     ·refine aC.bind (Q:=mK) e2.ok (aC.bind e2.ok (fJ e2.ok d) λLK j j' e5 hj=> ?_) λLK s s' e5 h=> ?_
      ·obtain⟨rfl,_⟩:=hj;simp only
       split
       ·exact rfl
       ·exact aB rfl
      ·subst h;exact jR e5.ok _
    ·exact ih d e2.ok (hx.mono e2)
   |_=>exact rfl
  |array len el=>
   cases hv with
   |agg s h=>
    have hc:cR S fH _ _:=⟨s,h⟩;refine aC.bind (Q:=mK) e1.ok (E8 e1.ok (λll e3 f s=> ?_) _ _) λll s s' e3 h=>aB rfl
    refine aC.bind e3.ok (fZ e3.ok el) λvJ m m' e4 h=> ?_
    subst h;refine aC.bind e4.ok (pT e4.ok _ (cR.mono (e3.trans e4) hc) _) λLK a a' e5 ha=> ?_
    exact aC.bind e5.ok (ih _ e5.ok ha) λRM _ _ e6 _=>aB rfl
   |_=>exact rfl
  |struct fs=>
   cases hv with
   |agg s h=>
    have hc:cR S fH _ _:=⟨s,h⟩;refine aC.bind (Q:=mK) e1.ok (E7 e1.ok (λll e3 f s=> ?_) _ _) λll s s' e3 h=>aB rfl
    split
    ·refine aC.bind e3.ok (pT e3.ok _ (cR.mono e3 hc) _) λLK a a' e5 ha=> ?_
     exact aC.bind e5.ok (ih _ e5.ok ha) λRM _ _ e6 _=>aB rfl
    ·exact aB rfl
   |_=>exact rfl
  |_=>exact aB rfl
def K8 (t:aA): ∀{l m:List MapEntry} {π:Ren} {k k':ao} (i:Nat),Ren.Ok P π->VZ S π l m->bx S π k k'->aC P S (λπ=>Pq S π) (Instr.findAsking t k l i) π (Instr.findAsking t k' m i):=by
 intro l
 induction l with
 |nil=>intro m π k k' i ok h hk;cases h;exact aB .none
 |cons a l ih=>
  intro m π k k' i ok h hk;cases h with
  |cons jM hr=>
   refine aC.bind ok (S1 t ok hk jM.key) λfH b b' e h=> ?_
   subst h;cases b with
   |true=>exact aB (.some ⟨rfl,jM.val.mono e⟩)
   |false=>exact ih (i+1) e.ok (VZ.mono e hr) (hk.mono e)
def OC {π:Ren}(d:TypeDesc){a a' b b':ao}(ha:bx S π a a')(hb:bx S π b b'):Instr.sameNow d a b=Instr.sameNow d a' b':=by
 cases ha with
 |int=>cases d<;>cases hb<;>rfl
 |string=>cases d<;>cases hb<;>rfl
 |bool=>cases d<;>cases hb<;>rfl
 |_=>cases d<;>rfl
def MP {π:Ren}(d:TypeDesc){k k':ao}(hk:bx S π k k'): ∀{l m:List MapEntry} (i:Nat),VZ S π l m->gN (Pq S π) (Instr.findNow d k l i) (Instr.findNow d k' m i):=by
 intro l
 induction l with
 |nil=>intro m i h;cases h;exact .some .none
 |cons a l ih=>
  intro m i h;cases h with
  |cons jM hr=>
   unfold Instr.findNow;rw[OC d hk jM.key]
   split
   ·exact .some (.some ⟨rfl,jM.val⟩)
   ·exact ih (i+1) hr
   ·exact .none
def Bp {π:Ren}(ok:Ren.Ok P π)(t:aA){k k':ao}(hk:bx S π k k'){l m:List MapEntry}(h:VZ S π l m):aC P S (λπ=>Pq S π) (kG t k l) π (kG t k' m):=by
 unfold kG;refine aC.bind ok (bG ok t) λfH d d' e1 hd=> ?_
 obtain⟨rfl,_⟩:=hd;have:=MP d (hk.mono e1) 0 (VZ.mono e1 h);revert this;generalize Instr.findNow d k l 0=r;generalize Instr.findNow d k' m 0=r';intro hr;cases hr with
 |none=>exact K8 t 0 e1.ok (VZ.mono e1 h) (hk.mono e1)
 |some hf=>exact aB hf
def Dh {π:Ren}{l m:Array MapEntry}(h:BR S π l m):m.isEmpty=l.isEmpty:=by simp only[Array.isEmpty,h.size]
def zZ {π:Ren}(hz:tc P S)(ok:Ren.Ok P π)(kt el:aA){ix ix':ao}(hi:bx S π ix ix')(c:Bool){es lL:Array MapEntry}(h:BR S π es lL):aC P S (VQ S) (do
                                                                                                                                   fV es.isEmpty 10000 kt ix
                                                                                                                                   let(v,ok)<-match<-kG kt ix es.toList with
                                                                                                                                    |some (_,v)=>pure (v,aw)
                                                                                                                                    |none=>pure (<-zeroValue el,ay)
                                                                                                                                   pure (if c then .tuple #[v,.bool ok]else v)) π (do
                                                                                                                                   fV lL.isEmpty 10000 kt ix'
                                                                                                                                   let(v,ok)<-match<-kG kt ix' lL.toList with
                                                                                                                                    |some (_,v)=>pure (v,aw)
                                                                                                                                    |none=>pure (<-zeroValue el,ay)
                                                                                                                                   pure (if c then .tuple #[v,.bool ok]else v)):=by
 have fin: ∀(bQ:Ren) (v v':ao) (b:Bool),bx S bQ v v'->bx S bQ (if c then .tuple #[v,.bool b]else v) (if c then .tuple #[v',.bool b]else v'):=by
  intro bQ v v' b hv;cases c with
  |false=>exact hv
  |true=>
   refine .tuple rfl λi x y hx hy=> ?_
   match i,hx,hy with
   |0,hx,hy=>simp at hx hy;subst hx;subst hy;exact hv
   |1,hx,hy=>simp at hx hy;subst hx;subst hy;exact .bool _
   |i+2,hx,_=>simp at hx
 rw[Dh h];refine aC.bind ok (uV _ _ _ ok hi) λfH _ _ e1 _=> ?_
 refine aC.bind e1.ok (Bp e1.ok kt (hi.mono e1) (VZ.mono e1 (du.mO h))) λjD f f' e2 hf=> ?_
 cases hf with
 |none=>
  refine aC.bind e2.ok (lY hz e2.ok el) λll z z' e3 hz3=> ?_
  obtain⟨rfl,hf⟩:=hz3;exact aC.bind (Q:=λπ a b=>b.2=a.2/\bx S π a.1 b.1) e3.ok (aB ⟨rfl,hf ll⟩) λvJ a b e4 jM=>by obtain⟨a1,a2⟩:=a;obtain⟨b1,b2⟩:=b;obtain⟨h1,h2⟩:=jM;simp only at h1 h2;subst h1;exact aB (fin _ _ _ _ h2)
 |some hv=>
  rename_i a b
  obtain⟨a1,a2⟩:=a;obtain⟨b1,b2⟩:=b;exact aC.bind (Q:=λπ a b=>b.2=a.2/\bx S π a.1 b.1) e2.ok (aB ⟨rfl,hv.2⟩) λvJ a b e4 jM=>by obtain⟨a1,a2⟩:=a;obtain⟨b1,b2⟩:=b;obtain⟨h1,h2⟩:=jM;simp only at h1 h2;subst h1;exact aB (fin _ _ _ _ h2)
def ZE {π:Ren}(hz:tc P S)(ok:Ren.Ok P π)(t:aA){x x' ix ix':ao}(hx:bx S π x x')(hi:bx S π ix ix')(c:Bool):aC P S (VQ S) (j9 t x ix c) π (j9 t x' ix' c):=by
 unfold j9;refine aC.bind ok (bG ok t) λfH d d' e1 hd=> ?_
 obtain⟨rfl,_⟩:=hd;have hx:=hx.mono e1;have hi:=hi.mono e1;cases d with
 |map kt el=>
  cases hx with
  |yD=>exact aC.bind (Q:=λπ a b=>BR S π a b) e1.ok (aB ⟨rfl,by simp⟩) λjD a b e2 jM=>zZ hz e2.ok kt el (hi.mono e2) c jM
  |map hr=>
   refine aC.bind e1.ok (ju hr) λjD o o' e2 ho=> ?_
   cases ho with
   |map cl ui=>exact aC.bind (Q:=λπ a b=>BR S π a b) e2.ok (aB ui) λll a b e3 jM=>zZ hz e3.ok kt el (hi.mono (e2.trans e3)) c jM
   |_=>exact rfl
  |_=>exact rfl
 |_=>exact rfl
def U9 {π:Ren}(ok:Ren.Ok P π)(t:aA){r r':Option ao}(h:gN (bx S π) r r'):aC P S (VQ S) (Instr.makeMap t r) π (Instr.makeMap t r'):=by
 unfold Instr.makeMap;have tl: ∀{fH:Ren},Ren.Ok P fH->aC P S (VQ S) (do pure (Value.map (ae (<-newObj (.map #[] 0))))) fH (do pure (Value.map (ae (<-newObj (.map #[] 0))))):=λ{fH} ok1=>aC.bind ok1 (Fb (.map 0 ⟨rfl,by simp⟩)) λjD a b e jM=>aB (.map jM)
 cases h with
 |none=>exact tl ok
 |some hv=>
  refine aC.bind ok (bG ok t) λfH d d' e1 hd=> ?_
  obtain⟨rfl,_⟩:=hd;cases d with
  |map kt el=>exact aC.bind e1.ok (zX e1.ok (hv.mono e1)) λjD _ _ e2 _=>tl e2.ok
  |_=>exact rfl
end
section
variable {P:aS} {S:jK}
def RI {π:Ren}{f g:ao×ao->Bool}(hfg: ∀a a' b b',bx S π a a'->bx S π b b'->f (a,b)=g (a',b')): ∀{x x' y y':List ao},du (bx S π) x x'->du (bx S π) y y'->(x.zip y).all f=(x'.zip y').all g:=by
 intro x x' y y' hx
 induction hx generalizing y y' with
 |nil=>intro _;rfl
 |cons ha _ ih=>
  intro hy;cases hy with
  |nil=>rfl
  |cons hb hr=>simp only[List.zip_cons_cons,List.all_cons,hfg _ _ _ _ ha hb,ih hr]
def Lj {π:Ren}(ok:Ren.Ok P π): ∀(n:Nat) {a a' b b':ao},bx S π a a'->bx S π b b'->Instr.sameBits n a b=Instr.sameBits n a' b':=by
 intro n
 induction n with
 |zero=>
  intro a a' b b' ha hb;cases ha with
  |pointer x=>cases hb with
   |pointer y=>show(ae _==ae _)=(ae _==ae _);rw[Option.some_beq_some,Option.some_beq_some];exact vP ok x y
   |_=>rfl
  |fR=>cases hb<;>rfl
  |bool|int|string|vW|nilIface=>cases hb<;>rfl
  |_=>cases hb<;>rfl
 |succ n ih=>
  intro a a' b b' ha hb;cases ha with
  |pointer x=>cases hb with
   |pointer y=>show(ae _==ae _)=(ae _==ae _);rw[Option.some_beq_some,Option.some_beq_some];exact vP ok x y
   |_=>rfl
  |iface t h=>cases hb with
   |iface u k=>show(t==u&&_)=(t==u&&_);rw[ih h k]
   |_=>rfl
  |agg s h=>cases hb with
   |agg s' h'=>show(_==_&&List.all _ _)=(_==_&&List.all _ _);rw[s,s',RI (S:=S) (π:=π) (g:=λ(x,y)=>Instr.sameBits n x y) (λa a' b b' ha hb=>ih ha hb) (du.mO ⟨s,h⟩) (du.mO ⟨s',h'⟩)]
   |_=>rfl
  |_=>cases hb<;>rfl
def E' {π:Ren}(ok:Ren.Ok P π){a a' b b':ao}(ha:bx S π a a')(hb:bx S π b b'):aC P S (VQ S) (Instr.keyThatStays a b) π (Instr.keyThatStays a' b'):=by
 unfold Instr.keyThatStays;rw[Lj ok _ ha hb]
 split
 ·exact aB hb
 ·refine aC.bind ok (pj _) λfH c c' e h=> ?_
  subst h
  split
  ·exact aB (hb.mono e)
  ·exact aB (ha.mono e)
def agJ {π:Ren}{es lL:Array MapEntry}(h:BR S π es lL)(i:Nat){k k':ao}(hk:bx S π k k'):bx S π (((es[i]?).map (·.key)).getD k) (((lL[i]?).map (·.key)).getD k'):=by
 have:=h.opt i;revert this;generalize es[i]? =a;generalize lL[i]? =b;intro jM;cases jM with
 |none=>exact hk
 |some h=>exact h.key
def BR.modify {π:Ren}{es lL:Array MapEntry}(h:BR S π es lL)(i:Nat){f g:MapEntry->MapEntry}(hfg: ∀a b,pP S π a b->pP S π (f a) (g b)):BR S π (es.modify i f) (lL.modify i g):=by
 refine⟨by simp[h.size],λj a b ha hb=> ?_⟩;rw[bq]at ha hb
 split at ha
 ·rename_i M9
  rw[if_pos M9]at hb;obtain⟨c,hc,rfl⟩:=aJ.1 ha;obtain⟨d,hd,rfl⟩:=aJ.1 hb;exact hfg _ _ (h.at_ j c d hc hd)
 ·rename_i M9
  rw[if_neg M9]at hb;exact h.at_ j a b ha hb
def du.eraseIdx {α β:Type}{R:α->β->Prop}{l:List α}{m:List β}(h:du R l m): ∀i,du R (l.eraseIdx i) (m.eraseIdx i):=by
 induction h with
 |nil=>intro i;exact .nil
 |cons ha hr ih=>
  intro i;cases i with
  |zero=>exact hr
  |succ i=>exact .cons ha (ih i)
def BR.erase {π:Ren}{es lL:Array MapEntry}(h:BR S π es lL)(i:Nat):BR S π (es.eraseIdxIfInBounds i) (lL.eraseIdxIfInBounds i):=by refine je.Jh ?_;rw[Array.toList_eraseIdxIfInBounds,Array.toList_eraseIdxIfInBounds];exact du.eraseIdx (du.mO h) i
def Ob {π:Ren}(ok:Ren.Ok P π)(t:aA){m m' k k' v v':ao}(hm:bx S π m m')(hk:bx S π k k')(hv:bx S π v v'):aC P S mK (Instr.mapUpdate t m k v) π (Instr.mapUpdate t m' k' v'):=by
 unfold Instr.mapUpdate;refine aC.bind ok (bG ok t) λfH d d' e1 hd=> ?_
 obtain⟨rfl,_⟩:=hd;cases d with
 |map kt el=>
  cases hm.mono e1 with
  |yD=>exact kx e1.ok (.plain _) (.plain _) ⟨by simp,by simp⟩
  |map hr=>
   refine aC.bind e1.ok (ju hr) λjD o o' e2 ho=> ?_
   cases ho with
   |map cl ui=>
    have e:=e1.trans e2;refine aC.bind e2.ok (uV _ _ _ e2.ok (hk.mono e)) λll _ _ e3 _=> ?_
    have e:=e.trans e3;refine aC.bind e3.ok (Bp e3.ok kt (hk.mono e) (VZ.mono e3 (du.mO ui))) λvJ f f' e4 hf=> ?_
    have e:=e.trans e4;have ui:=BR.mono (e3.trans e4) ui;have hr:=(e2.trans (e3.trans e4)).le _ _ hr;cases hf with
    |none=>exact mX hr (.map _ (je.push ui ⟨hk.mono e,hv.mono e,rfl⟩))
    |some jM=>
     rename_i a b
     obtain⟨a1,a2⟩:=a;obtain⟨b1,b2⟩:=b;obtain⟨h1,h2⟩:=jM;simp only at h1 h2;subst h1;refine aC.bind e4.ok (E' e4.ok (agJ ui _ (hk.mono e)) (hk.mono e)) λLK x y e5 rB=> ?_
     exact mX (e5.le _ _ hr) (.map _ (BR.modify (BR.mono e5 ui) _ λa b jM=>⟨rB,hv.mono (e.trans e5),jM.born⟩))
   |_=>exact rfl
  |_=>exact rfl
 |_=>exact rfl
def K6 {π:Ren}(ok:Ren.Ok P π)(kt:aA){m m' k k':ao}(hm:bx S π m m')(hk:bx S π k k'):aC P S (VQ S) (do
 match m with
 | .map ai=>fV aw 10000 kt k
 | .map (ae r)=>
   let .map es clock<-getObj r|stuck "delete: map expected"
   fV es.isEmpty 10000 kt k
   match<-kG kt k es.toList with
   |some (i,_)=>setObj r (.map (es.eraseIdxIfInBounds i) clock)
   |none=>setObj r (.map es clock)
 |_=>stuck "delete: map expected"
 pure (.tuple #[])) π (do
 match m' with
 | .map ai=>fV aw 10000 kt k'
 | .map (ae r)=>
   let .map es clock<-getObj r|stuck "delete: map expected"
   fV es.isEmpty 10000 kt k'
   match<-kG kt k' es.toList with
   |some (i,_)=>setObj r (.map (es.eraseIdxIfInBounds i) clock)
   |none=>setObj r (.map es clock)
 |_=>stuck "delete: map expected"
 pure (.tuple #[])):=by
 have unit: ∀bQ,bx S bQ (.tuple #[]) (.tuple #[]):=λbQ=>.tuple rfl (by simp)
 cases hm with
 |yD=>exact aC.bind ok (uV _ _ _ ok hk) λfH _ _ e _=>aB (unit _)
 |map hr=>
  refine aC.bind ok (ju hr) λjD o o' e2 ho=> ?_
  cases ho with
  |map cl ui=>
   simp only[Dh ui];refine aC.bind e2.ok (uV _ _ _ e2.ok (hk.mono e2)) λll _ _ e3 _=> ?_
   have e:=e2.trans e3;refine aC.bind e3.ok (Bp e3.ok kt (hk.mono e) (VZ.mono e3 (du.mO ui))) λvJ f f' e4 hf=> ?_
   have e:=e.trans e4;have ui:=BR.mono (e3.trans e4) ui;have hr:=e.le _ _ hr;cases hf with
   |none=>exact aC.bind e4.ok (mX hr (.map _ ui)) λ_ _ _ e _=>aB (unit _)
   |some jM=>
    rename_i a b
    obtain⟨a1,a2⟩:=a;obtain⟨b1,b2⟩:=b;obtain⟨h1,h2⟩:=jM;simp only at h1 h2;subst h1;exact aC.bind e4.ok (mX hr (.map _ (BR.erase ui _))) λ_ _ _ e _=>aB (unit _)
  |_=>exact rfl
 |_=>exact rfl
def Iu (ts:Array aA)(t:aA)(x:Array ao):me ts t x=(match ts[0]?,x[0]?,x[1]? with
 |some tt,ae m,ae k=>do
  let .map kt _<-underlying tt|stuck "delete: map type expected"
  match m with
  | .map ai=>fV aw 10000 kt k
  | .map (ae r)=>
    let .map es clock<-getObj r|stuck "delete: map expected"
    fV es.isEmpty 10000 kt k
    match<-kG kt k es.toList with
    |some (i,_)=>setObj r (.map (es.eraseIdxIfInBounds i) clock)
    |none=>setObj r (.map es clock)
  |_=>stuck "delete: map expected"
  pure (.tuple #[])
 |_,_,_=>stuck "delete: two arguments expected"):=by
 unfold me;cases ts[0]?<;>cases x[0]?<;>cases x[1]?<;>rfl
def Zz {π:Ren}(ok:Ren.Ok P π)(ts:Array aA)(t:aA){x y:Array ao}(h:cR S π x y):aC P S (VQ S) (me ts t x) π (me ts t y):=by
 rw[Iu,Iu];have h0:=h.opt 0;have h1:=h.opt 1;revert h0 h1;generalize x[0]? =a;generalize y[0]? =a';generalize x[1]? =b;generalize y[1]? =b';intro h0 h1;cases ts[0]? with
 |none=>cases h0<;>cases h1<;>exact rfl
 |some tt=>
  cases h0 with
  |none=>exact rfl
  |some hs=>
   cases h1 with
   |none=>exact rfl
   |some hx=>
    refine aC.bind ok (bG ok tt) λfH d d' e1 hd=> ?_
    obtain⟨rfl,_⟩:=hd;cases d with
    |map kt el=>exact K6 e1.ok kt (hs.mono e1) (hx.mono e1)
    |_=>exact rfl
def ab1 {π:Ren}(ok:Ren.Ok P π)(t:aA){x x':ao}(hx:bx S π x x'):aC P S (VQ S) (Instr.range t x) π (Instr.range t x'):=by
 unfold Instr.range;have tl: ∀{fH:Ren} {o o':Obj},Ren.Ok P fH->kV S fH o o'->aC P S (VQ S) (do let it<-pure o;pure (.pointer (ae ⟨<-newObj it,0,ai⟩))) fH (do let it<-pure o';pure (.pointer (ae ⟨<-newObj it,0,ai⟩))):=λ{fH o o'} ok1 ho=>aC.bind (Q:=λπ a b=>kV S π a b) ok1 (aB ho) λjD a b e jM=>aC.bind e.ok (Fb jM) λll r r' e3 hr=>aB (.pointer ⟨hr,rfl,rfl⟩)
 refine aC.bind ok (bG ok t) λfH d d' e1 hd=> ?_
 obtain⟨rfl,_⟩:=hd;cases d with
 |string=>cases hx.mono e1<;>first|exact tl e1.ok (.stringIter _ _)|exact rfl
 |map kt el=>
  cases hx.mono e1 with
  |yD=>exact tl e1.ok (.mapIter _ _ _ .none)
  |map hr=>
   refine aC.bind e1.ok (ju hr) λjD o o' e2 ho=> ?_
   cases ho with
   |map cl ui=>exact tl e2.ok (.mapIter _ _ _ (.some (e2.le _ _ hr)))
   |_=>exact rfl
  |_=>exact rfl
 |_=>cases hx<;>exact rfl
end
section
variable {P:aS} {S:jK}
def du.filter {α β:Type}{R:α->β->Prop}{p:α->Bool}{q:β->Bool}(YK: ∀a b,R a b->p a=q b){l:List α}{m:List β}(h:du R l m):du R (l.filter p) (m.filter q):=by
 induction h with
 |nil=>exact .nil
 |cons jM _ ih=>
  rw[qg,qg,YK _ _ jM]
  split
  ·exact .cons jM ih
  ·exact ih
def du.allEq {α β:Type}{R:α->β->Prop}{p:α->Bool}{q:β->Bool}(YK: ∀a b,R a b->p a=q b){l:List α}{m:List β}(h:du R l m):l.all p=m.all q:=by
 induction h with
 |nil=>rfl
 |cons jM _ ih=>rw[List.all_cons,List.all_cons,YK _ _ jM,ih]
def du.find {α β:Type}{R:α->β->Prop}{p:α->Bool}{q:β->Bool}(YK: ∀a b,R a b->p a=q b){l:List α}{m:List β}(h:du R l m):gN R (l.find? p) (m.find? q):=by
 induction h with
 |nil=>exact .none
 |cons jM _ ih=>
  rw[oj,oj,YK _ _ jM]
  split
  ·exact .some jM
  ·exact ih
def BR.filter {π:Ren}{p q:MapEntry->Bool}(YK: ∀a b,pP S π a b->p a=q b){l m:Array MapEntry}(h:BR S π l m):BR S π (l.filter p) (m.filter q):=by refine je.Jh ?_;rw[Array.toList_filter,Array.toList_filter];exact du.filter YK (du.mO h)
def je.append {α β:Type}{R:α->β->Prop}{x y:Array α}{x' y':Array β}(h:je R x x')(k:je R y y'):je R (x++y) (x'++y'):=by
 refine⟨by simp[h.size,k.size],λi a b ha hb=> ?_⟩;rw[Array.getElem?_append]at ha hb;rw[<-h.size]at hb
 split at ha
 ·rename_i hi;rw[if_pos hi]at hb;exact h.at_ i a b ha hb
 ·rename_i hi;rw[if_neg hi]at hb;exact k.at_ _ a b ha hb
def je.map {α β γ δ:Type}{R:α->β->Prop}{R':γ->δ->Prop}{f:α->γ}{g:β->δ}(hfg: ∀a b,R a b->R' (f a) (g b)){x:Array α}{y:Array β}(h:je R x y):je R' (x.map f) (y.map g):=by refine⟨by simp[h.size],λi a b ha hb=> ?_⟩;rw[gM]at ha hb;obtain⟨c,hc,rfl⟩:=aJ.1 ha;obtain⟨d,hd,rfl⟩:=aJ.1 hb;exact hfg _ _ (h.at_ i c d hc hd)
def aeV {π:Ren}{a a':ao}(h:bx S π a a'):bx S π (.tuple #[a]) (.tuple #[a']):=by
 refine .tuple rfl λi x y hx hy=> ?_
 match i,hx,hy with
 |0,hx,hy=>simp at hx hy;subst hx;subst hy;exact h
 |i+1,hx,_=>simp at hx
def aiv {π:Ren}{a a' b b':ao}(h:bx S π a a')(k:bx S π b b'):bx S π (.tuple #[a,b]) (.tuple #[a',b']):=by
 refine .tuple rfl λi x y hx hy=> ?_
 match i,hx,hy with
 |0,hx,hy=>simp at hx hy;subst hx;subst hy;exact h
 |1,hx,hy=>simp at hx hy;subst hx;subst hy;exact k
 |i+2,hx,_=>simp at hx
def ag9 {π:Ren}{a a' b b' c c':ao}(h:bx S π a a')(k:bx S π b b')(l:bx S π c c'):bx S π (.tuple #[a,b,c]) (.tuple #[a',b',c']):=by
 refine .tuple rfl λi x y hx hy=> ?_
 match i,hx,hy with
 |0,hx,hy=>simp at hx hy;subst hx;subst hy;exact h
 |1,hx,hy=>simp at hx hy;subst hx;subst hy;exact k
 |2,hx,hy=>simp at hx hy;subst hx;subst hy;exact l
 |i+3,hx,_=>simp at hx
def KP (r m since:Nat)(seen:Array Nat)(last:Nat):Sem ao:=do
 let .map es clock<-getObj m|stuck "Next: map expected"
 if !seen.isEmpty&& !es.isEmpty&&es.all (·.born≥last)then unsupported (.noEntry "instr/Next: every entry that the ranged map held at the last iteration is gone, and it holds new ones")
 let left:=es.filter λe=> !seen.contains e.born
 let old:=left.filter (·.born<since)
 let new:=left.filter (·.born≥since)
 let candidates:=(if old.isEmpty then #[ai]else #[])++(old++new).map ae
 match candidates[<-choose (.mapNext candidates.size)]? with
 |some (ae e)=>
  setObj r (.mapIter (ae m) since (seen.push e.born) clock)
  pure (.tuple #[.bool aw,e.key,e.val])
 |some ai=>pure (.tuple #[.bool ay])
 |none=>stuck "Next: no such candidate"
def U' {π:Ren}(ok:Ren.Ok P π){r r' m m':Nat}(hr:π r r')(hm:π m m')(since:Nat)(seen:Array Nat)(last:Nat):aC P S (VQ S) (KP r m since seen last) π (KP r' m' since seen last):=by
 unfold KP;refine aC.bind ok (ju hm) λjD o o' e2 ho=> ?_
 cases ho with
 |map cl ui=>
  rename_i es lL
  have xN:es.all (·.born≥last)=lL.all (·.born≥last):=by rw[<-Array.all_toList,<-Array.all_toList];exact du.allEq (λa b h=>by simp only[h.born]) (du.mO ui)
  simp only[Dh ui,xN]
  split
  ·exact rfl
  ·have ac0:BR S jD (es.filter λe=> !seen.contains e.born) (lL.filter λe=> !seen.contains e.born):=BR.filter (λa b h=>by simp only[h.born]) ui;have hold:=BR.filter (p:=λx=>decide (x.born<since)) (q:=λx=>decide (x.born<since)) (λa b h=>by simp only[h.born]) ac0;have Qb:=BR.filter (p:=λx=>decide (x.born≥since)) (q:=λx=>decide (x.born≥since)) (λa b h=>by simp only[h.born]) ac0;simp only[<-Dh hold];generalize ho:(es.filter λe=> !seen.contains e.born).filter (λx=>decide (x.born<since))=old at*;generalize Wt:(lL.filter λe=> !seen.contains e.born).filter (λx=>decide (x.born<since))=UJ at*;generalize hn:(es.filter λe=> !seen.contains e.born).filter (λx=>decide (x.born≥since))=new at*;generalize hn':(lL.filter λe=> !seen.contains e.born).filter (λx=>decide (x.born≥since))=agQ at*;have hc:je (gN (pP S jD)) ((if UJ.isEmpty then #[ai]else #[])++(old++new).map ae) ((if UJ.isEmpty then #[ai]else #[])++(UJ++agQ).map ae):=by
    refine je.append ?_ (je.map (λa b h=>.some h) (je.append hold Qb))
    split
    ·refine⟨rfl,λi a b ha hb=> ?_⟩
     match i,ha,hb with
     |0,ha,hb=>simp at ha hb;subst ha;subst hb;exact .none
     |i+1,ha,_=>simp at ha
    ·exact⟨rfl,by simp⟩
   generalize (if UJ.isEmpty then #[ai]else #[])++(old++new).map ae=cs at hc;generalize (if UJ.isEmpty then #[ai]else #[])++(UJ++agQ).map ae=cs' at hc;rw[<-hc.size];refine aC.bind e2.ok (pj _) λll c c' e3 h=> ?_
   subst h;have:=hc.opt c;revert this;generalize cs[c]? =x;generalize cs'[c]? =y;intro rB;cases rB with
   |none=>exact rfl
   |some jM=>
    cases jM with
    |none=>exact aB (aeV (.bool _))
    |some h=>
     have e:=e2.trans e3;simp only;rw[h.born];refine aC.bind e3.ok (mX (e.le _ _ hr) (.mapIter _ _ _ (.some (e.le _ _ hm)))) λvJ _ _ e4 _=> ?_
     exact aB (ag9 (.bool _) (h.key.mono (e3.trans e4)) (h.val.mono (e3.trans e4)))
 |_=>exact rfl
def aeM {π:Ren}(ok:Ren.Ok P π)(isS:Bool)(t:aA){x x':ao}(hx:bx S π x x'):aC P S (VQ S) (Instr.next x isS t) π (Instr.next x' isS t):=by
 unfold Instr.next;cases hx with
 |pointer ha=>
  rename_i a b
  obtain⟨r,off,sp⟩:=a;obtain⟨r',aeA,sp'⟩:=b;obtain⟨h1,h2,h3⟩:=ha;simp only at h1 h2 h3;subst h2;subst h3;cases aeA with
  |succ n=>exact rfl
  |zero=>
   refine aC.bind ok (ju h1) λfH o o' e1 ho=> ?_
   cases ho with
   |stringIter s p=>
    cases isS with
    |false=>exact rfl
    |true=>
     simp only
     split
     ·exact aC.bind e1.ok (mX (e1.le _ _ h1) (.stringIter _ _)) λjD _ _ e2 _=>aB (ag9 (.bool _) (.int _ _) (.int _ _))
     ·exact aB (aeV (.bool _))
   |mapIter since seen nf hm=>
    cases isS with
    |true=>cases hm<;>exact rfl
    |false=>
     cases hm with
     |none=>exact aB (aeV (.bool _))
     |some hm=>exact U' e1.ok (e1.le _ _ h1) hm since seen nf
   |_=>cases isS<;>exact rfl
 |_=>exact rfl
def abX {π:Ren}(ok:Ren.Ok P π){x x':ao}(hx:bx S π x x'):aC P S (VQ S) (Instr.entry x) π (Instr.entry x'):=by
 unfold Instr.entry;cases hx with
 |pointer ha=>
  rename_i a b
  obtain⟨r,off,sp⟩:=a;obtain⟨r',aeA,sp'⟩:=b;obtain⟨h1,h2,h3⟩:=ha;simp only at h1 h2 h3;subst h2;subst h3;cases aeA with
  |succ n=>exact rfl
  |zero=>
   refine aC.bind ok (ju h1) λfH o o' e1 ho=> ?_
   cases ho with
   |mapIter since seen nf hm=>
    cases hm with
    |none=>exact rfl
    |some hm=>
     simp only;cases seen.back? with
     |none=>exact rfl
     |some Ti=>
      refine aC.bind e1.ok (ju hm) λjD o o' e2 ho=> ?_
      cases ho with
      |map cl ui=>
       rename_i es lL
       simp only
       split
       ·exact rfl
       ·have:=du.find (p:=λx:MapEntry=>x.born==Ti) (q:=λx:MapEntry=>x.born==Ti) (λa b h=>by simp only[h.born]) (du.mO ui);rw[Array.find?_toList,Array.find?_toList]at this;revert this;generalize es.find? (λx=>x.born==Ti)=y;generalize lL.find? (λx=>x.born==Ti)=z;intro hyz;cases hyz with
        |none=>exact rfl
        |some h=>exact aB (aiv h.key h.val)
      |_=>exact rfl
   |_=>exact rfl
 |_=>exact rfl
def K5 {π:Ren}(ok:Ren.Ok P π)(s d:aA)(hd: ∃k,P.underlying d=ae (.int k))(hs: ∃k,P.underlying s=ae (.int k)){x x':ao}(hx:bx S π x x'):aC P S (VQ S) (convert s d x) π (convert s d x'):=by
 unfold convert;obtain⟨k1,h1⟩:=hs;obtain⟨k2,h2⟩:=hd;refine aC.bind ok (bG ok s) λfH a a' e1 ha=> ?_
 obtain⟨rfl,ha⟩:=ha;refine aC.bind e1.ok (bG e1.ok d) λjD b b' e2 hb=> ?_
 obtain⟨rfl,hb⟩:=hb;rw[h1]at ha;rw[h2]at hb;obtain rfl:=be ha;obtain rfl:=be hb;cases hx with
 |_=>first|exact rfl|exact aB (.int _ _)
end
section
variable {P:aS} {S:jK}
def sq {π:Ren}(ok:Ren.Ok P π)(t:aA){p p':Option Addr}(hp:gN (dM π) p p'){y y':ao}(hy:bx S π y y'):aC P S (VQ S) (Builtin.unsafeAdd_ #[] t #[.pointer p,y]) π (Builtin.unsafeAdd_ #[] t #[.pointer p',y']):=by
 unfold Builtin.unsafeAdd_;refine aC.bind ok (zX ok hy) λfH n n' e1 h=> ?_
 subst h;have hp1:=gN.addr e1 hp;clear hp;cases hp1 with
 |none=>
  by_cases h0:n=0
  ·simp only[h0,if_true];exact rfl
  ·simp only[h0,if_false];by_cases h1:n<0
   ·simp only[h1,if_true];exact rfl
   ·simp only[h1,if_false];exact rfl
 |some ha=>
  by_cases h0:n=0
  ·simp only[h0,if_true];refine aC.bind e1.ok (Od e1.ok ha.block) λjD x y e2 hx=> ?_
   obtain⟨rfl,rfl⟩:=hx;exact aB (.pointer (ha.mono e2))
  ·simp only[h0,if_false];by_cases h1:n<0
   ·simp only[h1,if_true];exact rfl
   ·simp only[h1,if_false];refine aC.bind e1.ok (oZ ha.block) λjD x y e2 hx=> ?_
    subst hx;cases x with
    |none=>exact rfl
    |some x=>
     refine aC.bind e2.ok gV λll r r' e3 hr=> ?_
     obtain⟨rfl,rfl⟩:=hr;simp only[ha.off]
     split
     ·exact aB (.pointer ⟨((ha.mono e2).mono e3).block,rfl,ha.spot⟩)
     ·exact rfl
def lB {π:Ren}(ok:Ren.Ok P π)(t:aA){p p':Option Addr}(hp:gN (dM π) p p'){y y':ao}(hy:bx S π y y'):aC P S (VQ S) (movedNumber t (.pointer p) y) π (movedNumber t (.pointer p') y'):=by
 unfold movedNumber;refine aC.bind ok (bG ok t) λfH d d' e1 hd=> ?_
 obtain⟨rfl,_⟩:=hd;cases hp with
 |none=>have tl:=sq (S:=S) e1.ok t .none (hy.mono e1);cases d<;>first|exact rfl|exact tl
 |some ha=>
  rename_i a a'
  have tl:aC P S (VQ S) (do
   let(a,lost)<-behindNumber a
   match<-Builtin.unsafeAdd_ #[] t #[.pointer (ae a),y]with
   | .pointer (ae b)=>asNumber b lost
   |v=>pure v) fH (do
   let(a,lost)<-behindNumber a'
   match<-Builtin.unsafeAdd_ #[] t #[.pointer (ae a),y']with
   | .pointer (ae b)=>asNumber b lost
   |v=>pure v):=by
   refine aC.bind e1.ok (ku e1.ok (ha.mono e1)) λjD a b e2 jM=> ?_
   obtain⟨a1,a2⟩:=a;obtain⟨b1,b2⟩:=b;obtain⟨h1,h2⟩:=jM;simp only at h1 h2;subst h2;refine aC.bind e2.ok (sq e2.ok t (.some h1) ((hy.mono e1).mono e2)) λll v v' e3 hv=> ?_
   cases hv with
   |pointer hb=>refine aC.bind e3.ok (Fb (.number _ hb)) λvJ r r' e4 hr=>aB (.pointer ⟨hr,rfl,rfl⟩)
   |fR=>exact aB .fR
   |bool b=>exact aB (.bool b)
   |int k n=>exact aB (.int k n)
   |string s=>exact aB (.string s)
   |kE l c=>exact aB (.kE l c)
   |slice l c h=>exact aB (.slice l c h)
   |yD=>exact aB .yD
   |map h=>exact aB (.map h)
   |vW=>exact aB .vW
   |func a b c d e=>exact aB (.func a b c d e)
   |nilFunc=>exact aB .nilFunc
   |iface t h=>exact aB (.iface t h)
   |nilIface=>exact aB .nilIface
   |agg a b=>exact aB (.agg a b)
   |tuple a b=>exact aB (.tuple a b)
  cases d<;>first|exact rfl|exact tl
def wL {π:Ren}(ok:Ren.Ok P π)(t:aA){p p':Option Addr}(hp:gN (dM π) p p'){y y':ao}(hy:bx S π y y'):aC P S (VQ S) (movedPointer t (.pointer p) y) π (movedPointer t (.pointer p') y'):=by
 unfold movedPointer;cases hp with
 |none=>exact sq ok t .none hy
 |some ha=>
  refine aC.bind (Q:=λπ a b=>gN (λp q:Addr×Bool=>dM π p.1 q.1/\q.2=p.2) a b) ok ?_ λfH x y e hx=> ?_
  ·unfold numberAt;refine aC.bind ok (oZ ha.block) λfH x y e hx=> ?_
   subst hx;cases x with
   |some x=>exact aB .none
   |none=>
    refine aC.bind e.ok (ju (e.le _ _ ha.block)) λjD o o' e2 ho=> ?_
    cases ho with
    |number l ha=>exact aB (.some ⟨ha,rfl⟩)
    |_=>exact aB .none
  ·cases hx with
   |none=>exact sq e.ok t (.some (ha.mono e)) (hy.mono e)
   |some k=>exact rfl
def CF {π:Ren}(ok:Ren.Ok P π){a b a' b':Addr}(ha:dM π a a')(hb:dM π b b'):aC P S mK (Op.twoPlaces a b) π (Op.twoPlaces a' b'):=by
 unfold Op.twoPlaces;refine aC.bind ok gV λfH r r' e1 hr=> ?_
 obtain⟨rfl,rfl⟩:=hr;have h1:=ha.mono e1;have h2:=hb.mono e1;have hg:decide (a.block≥r'.globals.size)=decide (a'.block≥r'.globals.size):=decide_eq_decide.2 (by have:=e1.ok.X5 _ _ h1.block;omega);have eb:(a.block !=b.block)=(a'.block !=b'.block):=by show(!(a.block==b.block))=(!(a'.block==b'.block));rw[AH e1.ok h1.block h2.block]
 rw[eb,hg]
 split
 ·exact rfl
 ·refine aC.bind e1.ok (rP e1.ok h1) λvJ x y e4 hx=> ?_
  subst hx;refine aC.bind e4.ok (rP e4.ok (h2.mono e4)) λLK x y e5 hx=> ?_
  subst hx;exact aB rfl
def U0 {π:Ren}(ok:Ren.Ok P π)(k:IntKind){a b a' b':Addr}(ha:dM π a a')(hb:dM π b b'):aC P S (VQ S) (Op.addrSub k a b) π (Op.addrSub k a' b'):=aC.bind ok (CF ok ha hb) λfH p q e h=>by subst h;exact aB (.int _ _)
def UZ {π:Ren}(ok:Ren.Ok P π)(op:BinOp){a b a' b':Addr}(ha:dM π a a')(hb:dM π b b'):aC P S (VQ S) (Op.addrCmp op a b) π (Op.addrCmp op a' b'):=aC.bind ok (CF ok ha hb) λfH p q e h=>by subst h;cases op<;>first|exact aB (.bool _)|exact rfl
def Jn {π:Ren}(ok:Ren.Ok P π)(k:IntKind){a a':Addr}(ha:dM π a a')(n:Int):aC P S (VQ S) (Op.addrMod k a n) π (Op.addrMod k a' n):=by
 unfold Op.addrMod;refine aC.bind ok (oZ ha.block) λfH x y e hx=> ?_
 subst hx;cases x with
 |none=>exact rfl
 |some x=>
  refine aC.bind e.ok (fJ e.ok _) λjD i i' e2 hi=> ?_
  obtain⟨rfl,_⟩:=hi;simp only
  split
  ·exact rfl
  ·exact aC.bind e2.ok (rP e2.ok (ha.mono (e.trans e2))) λll x y e3 h=>by subst h;exact aB (.int _ _)
def Tq {π:Ren}{s s':Sem Bool}(ok:Ren.Ok P π)(h:aC P S mK s π s')(f:Bool->Bool):aC P S (VQ S) (do pure (.bool (f (<-s)))) π (do pure (.bool (f (<-s')))):=aC.bind ok h λfH a b e jM=>by subst jM;exact aB (.bool _)
def Zy {π:Ren}(ok:Ren.Ok P π){a b a' b':Addr}(ha:dM π a a')(hb:dM π b b'){α β:Type}{Q:Ren->α->β->Prop}{k:Addr->Addr->Sem α}{k':Addr->Addr->Sem β}(h: ∀bQ x y x' y',Ext P π bQ->dM bQ x x'->dM bQ y y'->aC P S Q (k x y) bQ (k' x' y')):aC P S Q (do k (<-behindNumber a).1 (<-behindNumber b).1) π (do k' (<-behindNumber a').1 (<-behindNumber b').1):=aC.bind ok (ku ok ha) λ_ _ _ e1 h1=>aC.bind e1.ok (ku e1.ok (hb.mono e1)) λ_ _ _ e2 h2=>h _ _ _ _ _ (e1.trans e2) (h1.1.mono e2) h2.1
def adf {π:Ren}(ok:Ren.Ok P π){a a':Addr}(ha:dM π a a'){α β:Type}{Q:Ren->α->β->Prop}{k:Addr->Sem α}{k':Addr->Sem β}(h: ∀bQ x x',Ext P π bQ->dM bQ x x'->aC P S Q (k x) bQ (k' x')):aC P S Q (do k (<-behindNumber a).1) π (do k' (<-behindNumber a').1):=aC.bind ok (ku ok ha) λ_ _ _ e1 h1=>h _ _ _ e1 h1.1
def abU {π:Ren}(ok:Ren.Ok P π)(op:BinOp)(t:aA){x x' y y':ao}(hx:bx S π x x')(hy:bx S π y y'):aC P S (VQ S) (binOp op t x y) π (binOp op t x' y'):=by
 have heq:aC P S mK (Op.equal t x y) π (Op.equal t x' y'):=S1 t ok hx hy;have eql:=Tq ok heq id;have neq:=Tq ok heq (!·);cases hx with
 |int k a=>
  cases hy with
  |int k' b=>
   cases op<;>first
    |(simp only[binOp];exact ab2 ok _ _ _ _ _)
    |(by_cases h:k=k'
      ·subst h;simp only[binOp,ne_eq,not_true_eq_false,if_false]
       first|exact E9 _ _ _ _|exact ZB ok _ _ _ _|exact Jt _ _ _ _|exact ZA _ _ _
      ·simp only[binOp,ne_eq,h,not_false_eq_true,if_true];exact rfl)
  |pointer hb=>cases op<;>first|exact rfl|exact eql|exact neq|exact lB ok t (.some hb) (.int _ _)|exact adf ok hb λbQ x x' e h=>Jn e.ok _ h _
  |fR=>cases op<;>first|exact rfl|exact eql|exact neq|exact lB ok t .none (.int _ _)
  |_=>cases op<;>first|exact rfl|exact eql|exact neq
 |string a=>
  cases hy with
  |string b=>cases op<;>(simp only[binOp];exact yK _ _ _)
  |pointer hb=>cases op<;>first|exact rfl|exact eql|exact neq
  |fR=>cases op<;>first|exact rfl|exact eql|exact neq
  |_=>cases op<;>first|exact rfl|exact eql|exact neq
 |pointer ha=>
  have Px: ∀k n,aC P S (VQ S) (do if(<-underlying t) matches .unsafePointer then movedPointer t (.pointer (ae _)) (.int k n)else movedNumber t (.pointer (ae _)) (.int k n)) π (do if(<-underlying t) matches .unsafePointer then movedPointer t (.pointer (ae _)) (.int k n)else movedNumber t (.pointer (ae _)) (.int k n)):=λk n=>by
   refine aC.bind ok (bG ok t) λfH d d' e1 hd=> ?_
   obtain⟨rfl,_⟩:=hd;cases d<;>first|exact lB e1.ok t (.some (ha.mono e1)) (.int _ _)|(simp only[if_true];exact wL e1.ok t (.some (ha.mono e1)) (.int _ _))
  cases hy with
  |int k b=>cases op<;>first|exact rfl|exact eql|exact neq|exact Px _ _|exact lB ok t (.some ha) (.int _ _)|exact adf ok ha λbQ x x' e h=>Jn e.ok _ h _
  |pointer hb=>cases op<;>first|exact rfl|exact eql|exact neq|exact Zy ok ha hb λbQ x y x' y' e h1 h2=>U0 e.ok _ h1 h2|exact Zy ok ha hb λbQ x y x' y' e h1 h2=>UZ e.ok _ h1 h2
  |fR=>cases op<;>first|exact rfl|exact eql|exact neq
  |_=>cases op<;>first|exact rfl|exact eql|exact neq
 |fR=>
  have Px: ∀k n,aC P S (VQ S) (do if(<-underlying t) matches .unsafePointer then movedPointer t (.pointer ai) (.int k n)else movedNumber t (.pointer ai) (.int k n)) π (do if(<-underlying t) matches .unsafePointer then movedPointer t (.pointer ai) (.int k n)else movedNumber t (.pointer ai) (.int k n)):=λk n=>by
   refine aC.bind ok (bG ok t) λfH d d' e1 hd=> ?_
   obtain⟨rfl,_⟩:=hd;cases d<;>first|exact lB e1.ok t .none (.int _ _)|(simp only[if_true];exact wL e1.ok t .none (.int _ _))
  cases hy with
  |int k b=>cases op<;>first|exact rfl|exact eql|exact neq|exact Px _ _|exact lB ok t .none (.int _ _)
  |_=>cases op<;>first|exact rfl|exact eql|exact neq
 |_=>cases op<;>first|exact eql|exact neq|(cases hy<;>exact rfl)
end
inductive Kd
 |any
 |sl (e:aA)
 |pt (e:aA)
def Kd.eqb:Kd->Kd->Bool
 | .any,.any=>aw
 | .sl a,.sl b=>a==b
 | .pt a,.pt b=>a==b
 |_,_=>ay
def Kd.zw: ∀{a b:Kd},a.eqb b=aw->a=b
 | .any,.any,_=>rfl
 | .sl a,.sl b,h=>by rw[show a=b by simpa[Kd.eqb]using h]
 | .pt a,.pt b,h=>by rw[show a=b by simpa[Kd.eqb]using h]
structure gj where
 fn:bK->Bool
 int:aA->Bool
 bad:List Tmp:=[]
 kc:Tmp->Kd:=λ_=>.any
 bd:bK->List Tmp:=λ_=>[]
 kd:bK->Tmp->Kd:=λ_ _=>.any
 old:Nat:=0
 mem:Addr->Option Int:=λ_=>ai
 KL: ∀a x,mem a=ae x->a.block<old:=by intro a x h;simp at h
 elem:aA->Option aA:=λ_=>ai
 flat:aA->Option Nat:=λ_=>ai
 ext:bK->Bool:=λ_=>ay
def gj.cl (c:gj):gj:={c with bad:=[],kc:=λ_=>.any}
def gj.at (c:gj)(f:bK):gj:={c with bad:=c.bd f,kc:=c.kd f}
def DL (c:gj)(e:aA)(a:Addr):Prop:=a.spot=ai/\ ∃n,c.flat e=ae n/\ ∀j,j<n-> ∃x,c.mem ⟨a.block,a.off+j,ai⟩=ae x
def mH (c:gj):Kd->ao->Prop
 | .any,_=>True
 | .sl e,v=> ∃a n k,v=.slice (ae a) n k/\ ∀m,c.flat e=ae m-> ∀i,i<n->DL c e (a.add (i*m))
 | .pt e,v=> ∃a,v=.pointer (ae a)/\DL c e a
def gE:Nat->ao->Bool
 |_,.bool _|_,.int ..|_,.string _|_,.pointer ai|_,.slice ai _ _|_,.map ai|_,.chan ai|_,.nilFunc|_,.nilIface=>aw
 |n+1,.agg c|n+1,.tuple c=>c.all (gE n)
 |n+1,.iface _ v=>gE n v
 |_,_=>ay
def eC (c:gj):cG->Bool
 | .tmp t=> !c.bad.contains t
 | .const v=>gE 4 v
 | .global _=>ay
 | .func f=>c.fn f
def Ji:Builtin->Bool
 | .append| .cap| .copy| .delete| .len| .max| .min=>aw
 |_=>ay
def vp (c:gj)(f:bK)(j:Nat)(x:cG):Bool:=
 eC c x||match x with
  | .tmp t=>c.bad.contains t&&(c.bd f).contains j&&((c.kd f j).eqb .any||(c.kd f j).eqb (c.kc t))
  |_=>ay
def lF (c:gj)(f:bK):Nat->List cG->Bool
 |_,[]=>aw
 |j,x::l=>vp c f j x&&lF c f (j+1) l
def pS (c:gj)(k:Call):Bool:=
 match k.callee with
 | .builtin b=>Ji b&&k.args.all (eC c)
 | .invoke _ _=>ay
 | .value (.func f)=>(c.fn f&&lF c f 0 k.args.toList)||(c.ext f&&k.args.all (eC c))
 | .value f=>eC c f&&k.args.all (eC c)
def qy (c:gj):Op->Bool
 | .move x| .assign x| .box _ x| .load _ x| .nilCheck x| .unOp _ _ x| .fieldAddr _ x _| .field _ x _| .range _ x| .next x _| .entry x| .extract x _=>eC c x
 | .pick x a b=>eC c x&&eC c a&&eC c b
 | .alloc _=>aw
 | .build _ ps| .buildSlice _ _ ps=>ps.all λq=>eC c q.2
 | .store _ a v| .binOp _ _ a v _| .makeSlice _ a v| .indexAddr _ a v| .index _ a v| .lookup _ a v _=>eC c a&&eC c v
 | .convert s d x=>c.int s&&c.int d&&eC c x
 | .makeFunc f first captured=>(match f with| .func f=>c.fn f|_=>ay)&&first.all (eC c)&&captured.all (eC c)
 | .makeMap _ r=>r.all (eC c)
 | .slice _ x l h m=>eC c x&&l.all (eC c)&&h.all (eC c)&&m.all (eC c)
 | .mapUpdate _ m k v=>eC c m&&eC c k&&eC c v
 | .call k=>pS c k
 | .makeInterface _ x=>eC c x
 | .typeAssert x _ _ b=> !b&&eC c x
 |_=>ay
def D' (c:gj)(o:Oper)(k:Kd):Bool:=match o.dst with
 |some d=>c.bad.contains d&&((c.kc d).eqb .any||(c.kc d).eqb k)
 |none=>ay
def C6 (c:gj)(o:Oper):Bool:=match o.op with
 | .move (.tmp t)=>c.bad.contains t&&D' c o (c.kc t)
 | .load e (.tmp t)=>c.bad.contains t&&(c.kc t).eqb (.pt e)
 | .indexAddr s (.tmp t) i=>c.bad.contains t&&eC c i&&(match c.elem s with|some e=>(c.kc t).eqb (.sl e)&&D' c o (.pt e)|none=>ay)
 | .call k=>(match k.callee with| .builtin .len=>aw|_=>ay)&&(match k.args.toList,k.argTypes.toList with| [.tmp t],[s]=>c.bad.contains t&&(match c.elem s with|some e=>(c.kc t).eqb (.sl e)|none=>ay)|_,_=>ay)
 |_=>ay
def kp (c:gj)(o:Oper):Bool:=qy c o.op||C6 c o
def dq (c:gj):Code->Bool
 | .skip| .exit _| .ret=>aw
 | .region _ ops _=>ops.all (kp c)
 | .seq a b=>dq c a&&dq c b
 | .cond x a b=>eC c x&&dq c a&&dq c b
 | .block _ b| .loop b| .scope b=>dq c b
 | .rangeFunc f _ a b=>c.bad.isEmpty&&eC c f&&dq c a&&dq c b
 | .label _| .goto _| .refuse _=>ay
def gj.sig (c:gj):jK:={fn:=λf=>c.fn f=aw,code:=λx=>dq c.cl x=aw,X5:=λ_=>False,mem:=c.mem,ext:=λf=>c.ext f=aw}
def sn (bad:List Tmp):ResultVar->Bool
 | .tmp t=> !bad.contains t
 | .cell a _=> !bad.contains a
structure gj.Fits (c:gj) (P:aS):Prop where
 fn: ∀f,c.fn f=aw-> ∃F b,P.funcs[f]? =ae F/\F.body=ae b/\dq (c.at f) b=aw/\F.name≠ "runtime.NumGoroutine" /\F.results.toList.all (sn (c.bd f))=aw
 int: ∀t,c.int t=aw-> ∃k,P.underlying t=ae (.int k)
 zero: ∀t i v,P.info? t=ae i->i.zero=ae v->gE 6 v=aw
 elem: ∀t e,c.elem t=ae e->P.underlying t=ae (.slice e)/\ ∃n,c.flat e=ae n
 flat: ∀t n,c.flat t=ae n->(∃i,P.info? t=ae i/\i.size=n)/\ ∃fs,P.underlying t=ae (.struct fs)
 ext: ∀f,c.ext f=aw-> ∃F,P.funcs[f]? =ae F/\F.name≠ "runtime.NumGoroutine" /\F.body=ai/\Extern.findNext F=ai/\Extern.find F=ae qJ
section
variable {P:aS} {c:gj}
def xm {S:jK}: ∀(n:Nat) (v:ao),gE n v=aw->BS S v:=by
 intro n
 induction n with
 |zero=>
  intro v h π;cases v with
  |bool b=>exact .bool b
  |int k n=>exact .int k n
  |string s=>exact .string s
  |pointer p=>cases p<;>first|exact .fR|cases h
  |slice p l c=>cases p<;>first|exact .kE l c|cases h
  |map p=>cases p<;>first|exact .yD|cases h
  |chan p=>cases p<;>first|exact .vW|cases h
  |nilFunc=>exact .nilFunc
  |nilIface=>exact .nilIface
  |_=>cases h
 |succ n ih=>
  intro v h π;have arr: ∀c:Array ao,c.all (gE n)=aw-> ∀(i:Nat) a b,c[i]? =ae a->c[i]? =ae b->bx S π a b:=by intro c hc i a b ha hb;rw[ha]at hb;obtain rfl:=be hb;obtain⟨hi,rfl⟩:=aI.1 ha;exact ih _ (eY.1 hc i hi) π
  cases v with
  |bool b=>exact .bool b
  |int k n=>exact .int k n
  |string s=>exact .string s
  |pointer p=>cases p<;>first|exact .fR|cases h
  |slice p l c=>cases p<;>first|exact .kE l c|cases h
  |map p=>cases p<;>first|exact .yD|cases h
  |chan p=>cases p<;>first|exact .vW|cases h
  |nilFunc=>exact .nilFunc
  |nilIface=>exact .nilIface
  |agg x=>exact .agg rfl (arr x h)
  |tuple x=>exact .tuple rfl (arr x h)
  |iface t v=>exact .iface t (ih v h π)
  |_=>cases h
def gj.Fits.cl (hc:c.Fits P):c.cl.Fits P:=⟨hc.fn,hc.int,hc.zero,hc.elem,hc.flat,hc.ext⟩
def gj.Fits.at (hc:c.Fits P)(f:bK):(c.at f).Fits P:=⟨hc.fn,hc.int,hc.zero,hc.elem,hc.flat,hc.ext⟩
def gj.Fits.kS (hc:c.Fits P):tc P c.sig:=λt i v h k=>xm 6 v (hc.zero t i v h k)
structure vK (c:gj) (f:bK) (π:Ren) (a a':Array ao):Prop where
 size:a.size=a'.size
 at_: ∀(j:Nat) u v,a[j]? =ae u->a'[j]? =ae v->bx c.sig π u v\/(j∈c.bd f/\u=v/\mH c (c.kd f j) u)
def vK.of {f:bK}{π:Ren}{a a':Array ao}(h:cR c.sig π a a'):vK c f π a a':=⟨h.size,λj u v hu hv=>.inl (h.at_ j u v hu hv)⟩
def vK.mono {f:bK}{π bQ:Ren}(e:Ext P π bQ){a a':Array ao}(h:vK c f π a a'):vK c f bQ a a':=⟨h.size,λj u v hu hv=>(h.at_ j u v hu hv).imp (·.mono e) id⟩
inductive DU (c:gj) (π:Ren):Next->Next->Prop
 |value {v v'}:bx c.sig π v v'->DU c π (.value v) (.value v')
 |skip:DU c π .skip .skip
 |enter {f a a'}:c.fn f=aw->vK c f π a a'->DU c π (.enter f a) (.enter f a')
 |round {l l' f t t' a b}:π l l'->cR c.sig π t t'->c.sig.code a->c.sig.code b->DU c π (.round l f t a b) (.round l' f t' a b)
abbrev NQ (c:gj):Ren->Next->Next->Prop:=λπ a b=>DU c π a b
def nP (c:gj)(π:Ren)(ρ pU:cG->ao):Prop:= ∀o,eC c o=aw->bx c.sig π (ρ o) (pU o)
def nP.arr {π:Ren}{ρ pU:cG->ao}(h:nP c π ρ pU){xs:Array cG}(hx:xs.all (eC c)=aw):cR c.sig π (xs.map ρ) (xs.map pU):=by refine⟨by simp,λi a b ha hb=> ?_⟩;rw[gM]at ha hb;obtain⟨o,ho,rfl⟩:=aJ.1 ha;rw[ho]at hb;obtain rfl:=be hb;obtain⟨hi,rfl⟩:=aI.1 ho;exact h _ (eY.1 hx i hi)
def nP.opt {π:Ren}{ρ pU:cG->ao}(h:nP c π ρ pU){x:Option cG}(hx:x.all (eC c)=aw):gN (bx c.sig π) (x.map ρ) (x.map pU):=by
 cases x with
 |none=>exact .none
 |some o=>exact .some (h o hx)
def nP.parts {π:Ren}{ρ pU:cG->ao}(h:nP c π ρ pU){xs:Array (Nat×cG)}(hx:(xs.all λq=>eC c q.2)=aw):du (BW c.sig π) (xs.map λ(i,x)=>(i,ρ x)).toList (xs.map λ(i,x)=>(i,pU x)).toList:=by
 rw[Array.toList_map,Array.toList_map];have Pk:xs.toList.all (λq=>eC c q.2)=aw:=by rw[Array.all_toList];exact hx
 generalize xs.toList=l at Pk
 induction l with
 |nil=>exact .nil
 |cons q l ih=>rw[List.all_cons,aG]at Pk;exact .cons ⟨rfl,h _ Pk.1⟩ (ih Pk.2)
def iu {π:Ren}(ok:Ren.Ok P π){s s':Sem ao}(h:aC P c.sig (VQ c.sig) s π s'):aC P c.sig (NQ c) (do pure (.value (<-s))) π (do pure (.value (<-s'))):=aC.bind ok h λ_ _ _ _ hv=>aB (.value hv)
def Q5 {π:Ren}(ok:Ren.Ok P π){s s':Sem Unit}(h:aC P c.sig mK s π s'):aC P c.sig (NQ c) (do s;pure .skip) π (do s';pure .skip):=aC.bind ok h λ_ _ _ _ _=>aB .skip
def E5 {π:Ren}(hc:c.Fits P)(ok:Ren.Ok P π){f:bK}(hf:c.fn f=aw){a a':Array ao}(ha:vK c f π a a'):aC P c.sig (NQ c) (callFunc f a) π (callFunc f a'):=by
 unfold callFunc;refine aC.bind ok gV λfH p p' e1 hp=> ?_
 obtain⟨rfl,rfl⟩:=hp;obtain⟨F,b,h1,h2,h3,h4,_⟩:=hc.fn f hf;simp only[h1,h2,Option.isNone_some,dP,if_false,beq_eq_false_iff_ne.2 h4];exact aB (.enter hf (ha.mono e1))
def abW {S:jK}{π:Ren}(ok:Ren.Ok P π){a a':Array ao}(ha:cR S π a a'):aC P S (VQ S) (qJ a) π (qJ a'):=by
 obtain⟨hs,hv⟩:=ha;obtain⟨l⟩:=a;obtain⟨l'⟩:=a';have hs:l.length=l'.length:=hs
 match l,l',hs with
 | [],_,_=>exact rfl
 | [x],[x'],_=>
   have h:=hv 0 x x' rfl rfl;cases h with
   |iface t hm=>
    cases hm with
    |map hr=>
     refine aC.bind ok (ju hr) λfH o o' e ho=> ?_
     cases ho with
     |map k hm=>exact aC.bind e.ok (Fb (.map k hm)) λjD u v e2 h=>aB (.iface _ (.map h))
     |_=>exact rfl
    |_=>exact rfl
   |_=>exact rfl
 |_::_::_,_,_=>exact rfl
def U2 {π:Ren}(hc:c.Fits P)(ok:Ren.Ok P π){f:bK}(hf:c.ext f=aw){a a':Array ao}(ha:cR c.sig π a a'):aC P c.sig (NQ c) (callFunc f a) π (callFunc f a'):=by
 unfold callFunc;refine aC.bind ok gV λfH p p' e1 hp=> ?_
 obtain⟨rfl,rfl⟩:=hp;obtain⟨F,h1,h2,h3,h4,h5⟩:=hc.ext f hf;simp only[h1,h3,h4,h5,Option.isNone_none,if_true,beq_eq_false_iff_ne.2 h2,dP,if_false];refine aC.bind (Q:=mK) e1.ok ⟨.inr ⟨f,rfl,hf⟩,_,rfl,(),rfl,rfl⟩ λjD _ _ e2 _=> ?_
 exact iu e2.ok (abW e2.ok (ha.mono (e1.trans e2)))
def C5 {π:Ren}(ok:Ren.Ok P π)(t:aA){x x':ao}(h:bx c.sig π x x'):aC P c.sig (VQ c.sig) (Instr.makeInterface t x) π (Instr.makeInterface t x'):=by
 unfold Instr.makeInterface;refine aC.bind ok (bG ok t) λfH d d' e1 hd=> ?_
 obtain⟨rfl,_⟩:=hd;cases d<;>first|exact rfl|exact aB (.iface t (h.mono e1))
def Lb {π:Ren}(ok:Ren.Ok P π)(s t:aA){x x':ao}(h:bx c.sig π x x'):aC P c.sig (VQ c.sig) (Instr.typeAssert x s t ay) π (Instr.typeAssert x' s t ay):=by
 unfold Instr.typeAssert;refine aC.bind ok (bG ok t) λfH d d' e1 hd=> ?_
 obtain⟨rfl,_⟩:=hd;have h1:=h.mono e1;have bad: ∀{jD:Ren} (u v:Option aA) (m:String),Ren.Ok P jD->aC P c.sig (VQ c.sig) (runtimePanic (.typeAssertion u v t m):Sem ao) jD (runtimePanic (.typeAssertion u v t m):Sem ao):=λu v m ok=>by
  refine aC.bind ok gV λll p p' e3 hp=> ?_
  obtain⟨rfl,rfl⟩:=hp;refine aC.bind e3.ok (Q:=λ_ a b=>a=b) (aC.bind e3.ok (bG e3.ok _) λvJ d d' e4 hd=> ?_) λvJ a b e4 jM=> ?_
  ·obtain⟨rfl,_⟩:=hd;cases d<;>first|exact rfl|exact aB rfl
  ·exact .inr λr=>⟨_,rfl,rfl⟩
 cases d with
 |interface ms=>
  cases h1 with
  |nilIface=>simp only[dP,if_false];exact bad _ _ _ e1.ok
  |iface q hq=>
   simp only[dP,if_false];refine aC.bind e1.ok (fJ e1.ok q) λjD i i' e2 hi=> ?_
   obtain⟨rfl,_⟩:=hi;cases Instr.missingMethod ms i.methods with
   |none=>exact aB (.iface q (hq.mono e2))
   |some m=>exact bad _ _ _ e2.ok
  |_=>exact rfl
 |_=>
  cases h1 with
  |nilIface=>simp only[dP,if_false];exact bad _ _ _ e1.ok
  |iface q hq=>
   simp only[dP,if_false]
   split
   ·exact aB hq
   ·exact bad _ _ _ e1.ok
  |_=>exact rfl
def tX {S:jK}{π:Ren}(ok:Ren.Ok P π){l l':Nat}(h:π l l'):aC P S (λπ a b=>BV S π a b) (Instr.getLoop l) π (Instr.getLoop l'):=by
 unfold Instr.getLoop;refine aC.bind ok (ju h) λfH o o' e ho=> ?_
 cases ho with
 |loop hl=>exact aB hl
 |_=>exact rfl
def QN {S:jK}{π:Ren}: ∀(ps:List Tmp) {x y:List ao},du (bx S π) x y-> ∀{t t':Array ao},cR S π t t'->cR S π ((ps.zip x).foldl (λtmps (p,a)=>tmps.setIfInBounds p a) t) ((ps.zip y).foldl (λtmps (p,a)=>tmps.setIfInBounds p a) t'):=by
 intro ps
 induction ps with
 |nil=>intro x y _ t t' h;exact h
 |cons p ps ih=>
  intro x y rB t t' h;cases rB with
  |nil=>exact h
  |cons jM hr=>exact ih hr (je.set h jM)
def ab6 {π:Ren}(ok:Ren.Ok P π){l l':Nat}(h:π l l'){a a':Array ao}(ha:cR c.sig π a a'):aC P c.sig (NQ c) (Instr.yield l a) π (Instr.yield l' a'):=by
 unfold Instr.yield;refine aC.bind ok (tX ok h) λfH r r' e hl=> ?_
 rw[hl.params,<-ha.size]
 split
 ·exact rfl
 ·have Sv:=cR.mono e ha;have:=QN r.params.toList (du.mO Sv) hl.tmps;refine aB ?_;rw[hl.fn,hl.assign,hl.body];refine .round (e.le _ _ h) ?_ hl.okA hl.okB;rw[<-Array.foldl_toList,<-Array.foldl_toList,Array.toList_zip,Array.toList_zip];exact this
end
section
variable {P:aS} {c:gj}
def Jq {π:Ren}(hc:c.Fits P)(ok:Ren.Ok P π)(b:Builtin)(hb:Ji b=aw)(ts:Array aA)(t:aA)(ks:Array Bool){x y:Array ao}(h:cR c.sig π x y):aC P c.sig (NQ c) (builtin b ts t ks x) π (builtin b ts t ks y):=by
 cases b with
 |append=>exact iu ok (Zx hc.kS ok ts t h)
 |cap=>exact iu ok (agX ok ts t h)
 |copy=>exact iu ok (aeI ok ts t h)
 |delete=>exact iu ok (Zz ok ts t h)
 |len=>exact iu ok (agY ok ts t h)
 |max=>exact iu ok (agZ ok ts t h)
 |min=>exact iu ok (ag1 ok ts t h)
 |_=>cases hb
def Cx {π:Ren}(hc:c.Fits P)(ok:Ren.Ok P π){f f':ao}(hf:bx c.sig π f f'){a a':Array ao}(ha:cR c.sig π a a'):aC P c.sig (NQ c) (do let d<-ic f a;invoke d.target d.args) π (do let d<-ic f' a';invoke d.target d.args):=by
 cases hf with
 |func Wk s1 h1 s2 h2=>
  have hx:cR c.sig π _ _:=⟨s1,h1⟩;have hy:cR c.sig π _ _:=⟨s2,h2⟩;cases Wk with
  |func hs=>exact E5 hc ok hs (.of (cR.append (cR.append hx ha) hy))
  |yield hl=>exact ab6 ok hl (cR.append hx ha)
 |nilFunc=>exact rQ ok
 |_=>exact rfl
structure EvB (c:gj) (π:Ren) (ρ pU:cG->ao):Prop where
 fn: ∀f,ρ (.func f)=.func (.func f) #[] #[]/\pU (.func f)=.func (.func f) #[] #[]
 bad: ∀t∈c.bad,bx c.sig π (ρ (.tmp t)) (pU (.tmp t))\/(ρ (.tmp t)=pU (.tmp t)/\mH c (c.kc t) (ρ (.tmp t)))
def EvB.arg {π:Ren}{ρ pU:cG->ao}(nu:nP c π ρ pU)(hB:EvB c π ρ pU){f:bK}{j:Nat}{x:cG}(h1:vp c f j x=aw):bx c.sig π (ρ x) (pU x)\/(j∈c.bd f/\ρ x=pU x/\mH c (c.kd f j) (ρ x)):=by
 unfold vp at h1;rcases gi _ _▸h1 with h1|h1
 ·exact .inl (nu x h1)
 ·cases x with
  |tmp t=>
   simp only[aG,gi]at h1;obtain⟨⟨h2,h3⟩,h4⟩:=h1;rcases hB.bad t (by simpa using h2)with h5|⟨h5,h6⟩
   ·exact .inl h5
   ·refine .inr ⟨by simpa using h3,h5,?_⟩;rcases h4 with h4|h4
    ·rw[Kd.zw h4];trivial
    ·rw[Kd.zw h4];exact h6
  |_=>cases h1
def EvB.args {π:Ren}{ρ pU:cG->ao}(nu:nP c π ρ pU)(hB:EvB c π ρ pU){f:bK}: ∀(l:List cG) (j0:Nat),lF c f j0 l=aw-> ∀(i:Nat) o,l[i]? =ae o->bx c.sig π (ρ o) (pU o)\/(j0+i∈c.bd f/\ρ o=pU o/\mH c (c.kd f (j0+i)) (ρ o)):=by
 intro l
 induction l with
 |nil=>intro j0 _ i o ho;simp at ho
 |cons x l ih=>
  intro j0 h i o ho;simp only[lF,aG]at h;cases i with
  |zero=>
   simp only[List.getElem?_cons_zero,dS]at ho;subst ho;have h1:=h.1;unfold vp at h1;rcases gi _ _▸h1 with h1|h1
   ·exact .inl (nu x h1)
   ·cases x with
    |tmp t=>
     simp only[aG,gi]at h1;obtain⟨⟨h2,h3⟩,h4⟩:=h1;rcases hB.bad t (by simpa using h2)with h5|⟨h5,h6⟩
     ·exact .inl h5
     ·refine .inr ⟨by simpa using h3,h5,?_⟩;rcases h4 with h4|h4
      ·rw[show j0+0=j0 from rfl,Kd.zw h4];trivial
      ·rw[show j0+0=j0 from rfl,Kd.zw h4];exact h6
    |_=>cases h1
  |succ i=>have:=ih (j0+1) h.2 i o (by simpa using ho);rwa[show j0+1+i=j0+(i+1)by omega]at this
def EvB.acR {π:Ren}{ρ pU:cG->ao}(nu:nP c π ρ pU)(hB:EvB c π ρ pU){f:bK}{x:Array cG}(h:lF c f 0 x.toList=aw):vK c f π (x.map ρ) (x.map pU):=by refine⟨by simp,λj u v hu hv=> ?_⟩;rw[gM]at hu hv;obtain⟨o,ho,rfl⟩:=aJ.1 hu;rw[ho]at hv;obtain rfl:=be hv;have:=EvB.args nu hB x.toList 0 h j o (by simpa using ho);rwa[bS]at this
def aeH {π:Ren}(hc:c.Fits P)(ok:Ren.Ok P π){ρ pU:cG->ao}(nu:nP c π ρ pU)(hB:EvB c π ρ pU)(k:Call)(hk:pS c k=aw)(t:aA):aC P c.sig (NQ c) (do let d<-resolve ρ k t;invoke d.target d.args) π (do let d<-resolve pU k t;invoke d.target d.args):=by
 unfold pS at hk;unfold resolve;cases sM:k.callee with
 |builtin b=>rw[sM]at hk;simp only[aG]at hk;exact Jq hc ok b hk.1 _ _ _ (nu.arr hk.2)
 |invoke r n=>rw[sM]at hk;cases hk
 |value f=>
  rw[sM]at hk;have gen: ∀f,(eC c f&&k.args.all (eC c))=aw->aC P c.sig (NQ c) (do let d<-ic (ρ f) (k.args.map ρ);invoke d.target d.args) π (do let d<-ic (pU f) (k.args.map pU);invoke d.target d.args):=λf hk=>by rw[aG]at hk;exact Cx hc ok (nu f hk.1) (nu.arr hk.2)
  cases f with
  |func f=>
   simp only[gi,aG]at hk;have main:aC P c.sig (NQ c) (callFunc f (k.args.map ρ)) π (callFunc f (k.args.map pU)):=by
    rcases hk with hk|hk
    ·exact E5 hc ok hk.1 (EvB.acR nu hB hk.2)
    ·exact U2 hc ok hk.1 (nu.arr hk.2)
   obtain⟨e1,e2⟩:=hB.fn f;simp only[e1,e2];have e: ∀x:Array ao,(do let d<-ic (.func (.func f) #[] #[]) x;invoke d.target d.args)=callFunc f ((#[]++x)++ #[]):=λx=>rfl
   rw[e,e];simpa using main
  |tmp x=>exact gen _ hk
  |const x=>exact gen _ hk
  |global x=>exact gen _ hk
def Cy {S:jK}: ∀(d:Nat) (t:aA) {π:Ren} {x x' y y':ao},Ren.Ok P π->bx S π x x'->bx S π y y'->aC P S mK (Op.eqGuardIn d t x y) π (Op.eqGuardIn d t x' y'):=by
 intro d
 induction d with
 |zero=>intros;exact rfl
 |succ d ih=>
  intro t π x x' y y' ok hx hy;refine aC.bind ok (bG ok t) λfH ds Wc e1 hd=> ?_
  obtain⟨rfl,_⟩:=hd;have hx:=hx.mono e1;have hy:=hy.mono e1;cases ds with
  |interface ms=>cases hx<;>first|exact aB rfl|(cases hy<;>exact aB rfl)
  |struct fs=>
   cases hx with
   |agg s1 h1=>
    cases hy with
    |agg s2 h2=>
     have hx:cR S fH _ _:=⟨s1,h1⟩;have hy:cR S fH _ _:=⟨s2,h2⟩;refine aC.bind (Q:=mK) e1.ok (E7 e1.ok (λll e3 f s=> ?_) fs _) λll s s' e3 h=> ?_
     ·split
      ·refine aC.bind e3.ok (pT e3.ok _ (cR.mono e3 hx) _) λvJ a a' e4 ha=> ?_
       refine aC.bind e4.ok (pT e4.ok _ (cR.mono (e3.trans e4) hy) _) λLK b b' e5 hb=> ?_
       refine aC.bind e5.ok (ih _ e5.ok (ha.mono e5) hb) λRM c c' e6 h=> ?_
       subst h;cases c<;>exact aB rfl
      ·exact aB rfl
     ·subst h;obtain⟨s1,s2⟩:=s;cases s1<;>exact aB rfl
    |_=>exact aB rfl
   |_=>exact aB rfl
  |array n el=>
   cases hx with
   |agg s1 h1=>
    cases hy with
    |agg s2 h2=>
     have hx:cR S fH _ _:=⟨s1,h1⟩;have hy:cR S fH _ _:=⟨s2,h2⟩;refine aC.bind e1.ok (fZ e1.ok el) λjD m m' e2 h=> ?_
     subst h;refine aC.bind (Q:=mK) e2.ok (E8 e2.ok (λll e3 f s=> ?_) _ _) λll s s' e3 h=> ?_
     ·have e:=e2.trans e3;refine aC.bind e3.ok (pT e3.ok _ (cR.mono e hx) _) λvJ a a' e4 ha=> ?_
      refine aC.bind e4.ok (pT e4.ok _ (cR.mono (e.trans e4) hy) _) λLK b b' e5 hb=> ?_
      refine aC.bind e5.ok (ih _ e5.ok (ha.mono e5) hb) λRM c c' e6 h=> ?_
      subst h;cases c<;>exact aB rfl
     ·subst h;obtain⟨s1,s2⟩:=s;cases s1<;>exact aB rfl
    |_=>exact aB rfl
   |_=>exact aB rfl
  |_=>exact aB rfl
def U4 {S:jK}{π:Ren}(ok:Ren.Ok P π)(op:BinOp)(t:aA)(x y:cG){a a' b b':ao}(ha:bx S π a a')(hb:bx S π b b'):aC P S mK (eqGuard op t x y a b) π (eqGuard op t x y a' b'):=by
 have nn:aC P S mK (do if<-Op.eqGuardIn Op.maxDepth t .nilIface .nilIface then unsupported (.noEntry "binop/eql: two nil values of an interface type with methods, neither of them the literal nil")) π
  (do if<-Op.eqGuardIn Op.maxDepth t .nilIface .nilIface then unsupported (.noEntry "binop/eql: two nil values of an interface type with methods, neither of them the literal nil")):=by
  refine aC.bind ok (Cy _ t ok .nilIface .nilIface) λfH c c' e h=> ?_
  subst h;cases c with
  |true=>exact rfl
  |false=>exact aB rfl
 have key:(op=.eql\/op=.neq)->aC P S mK (eqGuard op t x y a b) π (eqGuard op t x y a' b'):=by
  intro hop;cases ha with
  |nilIface=>
   cases hb with
   |nilIface=>rcases hop with rfl|rfl<;>cases x<;>cases y<;>first|exact aB rfl|exact nn
   |_=>rcases hop with rfl|rfl<;>exact aB rfl
  |agg s h=>
   cases hb with
   |agg s' h'=>
    rename_i x2 x2' x1 x1'
    have main:aC P S mK (do
     if !(<-program).eqGuardType (<-program).depth t then return
     if<-Op.eqGuardIn Op.maxDepth t (.agg x2) (.agg x1)then unsupported (.noEntry "binop/eql: two nil values of an interface type with methods, in a part of a struct or an array")) π (do
     if !(<-program).eqGuardType (<-program).depth t then return
     if<-Op.eqGuardIn Op.maxDepth t (.agg x2') (.agg x1')then unsupported (.noEntry "binop/eql: two nil values of an interface type with methods, in a part of a struct or an array")):=by
     refine aC.bind ok gV λfH p p' e1 hp=> ?_
     obtain⟨rfl,rfl⟩:=hp;refine aC.bind e1.ok gV λjD p p' e2 hp=> ?_
     obtain⟨rfl,rfl⟩:=hp
     split
     ·exact aB rfl
     ·have e:=e1.trans e2;refine aC.bind e2.ok (Cy _ t e2.ok ((bx.agg s h).mono e) ((bx.agg s' h').mono e)) λll c c' e3 h=> ?_
      subst h;cases c with
      |true=>exact rfl
      |false=>exact aB rfl
    rcases hop with rfl|rfl<;>exact main
   |_=>rcases hop with rfl|rfl<;>exact aB rfl
  |_=>rcases hop with rfl|rfl<;>exact aB rfl
 cases op<;>first|exact key (.inl rfl)|exact key (.inr rfl)|exact aB rfl
def QZ {π:Ren}(ok:Ren.Ok P π){x x':ao}(h:bx c.sig π x x'):aC P c.sig (NQ c) (execOp (λ_=>x) {dst:=ai,op:=.nilCheck (.tmp 0),type:=0,pos:= "",after:= #[],guard:=ai}) π (execOp (λ_=>x') {dst:=ai,op:=.nilCheck (.tmp 0),type:=0,pos:= "",after:= #[],guard:=ai}):=by
 cases h with
 |fR=>exact rQ ok
 |nilIface=>exact rQ ok
 |nilFunc=>exact rQ ok
 |func hf a b d e=>
  cases hf with
  |func s=>exact aB (.value (.func (.func s) a b d e))
  |yield s=>exact aB (.value (.func (.yield s) a b d e))
 |bool b=>exact aB (.value (.bool b))
 |int k n=>exact aB (.value (.int k n))
 |string s=>exact aB (.value (.string s))
 |pointer h=>exact aB (.value (.pointer h))
 |kE l c=>exact aB (.value (.kE l c))
 |slice l c h=>exact aB (.value (.slice l c h))
 |yD=>exact aB (.value .yD)
 |map h=>exact aB (.value (.map h))
 |vW=>exact aB (.value .vW)
 |iface t h=>exact aB (.value (.iface t h))
 |agg a b=>exact aB (.value (.agg a b))
 |tuple a b=>exact aB (.value (.tuple a b))
def E6 {π:Ren}(hc:c.Fits P)(ok:Ren.Ok P π){ρ pU:cG->ao}(nu:nP c π ρ pU)(hB:EvB c π ρ pU)(o:Oper)(ho:qy c o.op=aw):aC P c.sig (NQ c) (execOp ρ o) π (execOp pU o):=by
 obtain⟨dst,op,type,pos,after,guard⟩:=o;simp only at ho;cases op with
 |move x=>exact aB (.value (nu x ho))
 |assign x=>exact aB (.value (nu x ho))
 |pick x a b=>
  simp only[qy,aG]at ho;exact aC.bind ok (E4 (nu x ho.1.1)) λfH u v e h=>by
   subst h;cases u with
   |true=>exact aB (.value ((nu a ho.1.2).mono e))
   |false=>exact aB (.value ((nu b ho.2).mono e))
 |alloc el=>exact iu ok (abS hc.kS ok el)
 |box el x=>exact iu ok (agW ok el (nu x ho))
 |build t ps=>exact iu ok (abV hc.kS ok t (nu.parts ho))
 |buildSlice t n ps=>exact iu ok (K4 hc.kS ok t n (nu.parts ho))
 |load t a=>exact iu ok (N8 ok t (nu a ho))
 |store t a x=>simp only[qy,aG]at ho;exact Q5 ok (Vb ok t (nu a ho.1) (nu x ho.2))
 |nilCheck x=>exact QZ ok (nu x ho)
 |binOp op t x y u=>simp only[qy,aG]at ho;exact iu ok (aC.bind ok (U4 ok op t x y (nu x ho.1) (nu y ho.2)) λfH _ _ e _=>abU e.ok op t ((nu x ho.1).mono e) ((nu y ho.2).mono e))
 |unOp op t x=>exact iu ok (ab5 op (nu x ho))
 |convert s d x=>simp only[qy,aG]at ho;exact iu ok (K5 ok s d (hc.int d ho.1.2) (hc.int s ho.1.1) (nu x ho.2))
 |makeFunc f first captured=>
  simp only[qy,aG]at ho;cases f with
  |func f=>exact iu ok (QW (.func ho.1.1) (nu.arr ho.1.2) (nu.arr ho.2))
  |_=>exact absurd ho.1.1 (by simp)
 |makeMap t r=>exact iu ok (U9 ok t (nu.opt ho))
 |makeSlice t l k=>simp only[qy,aG]at ho;exact iu ok (N9 hc.kS ok t (nu l ho.1) (nu k ho.2))
 |slice t x lo hi mx=>simp only[qy,aG]at ho;exact iu ok (Va ok t (nu x ho.1.1.1) (nu.opt ho.1.1.2) (nu.opt ho.1.2) (nu.opt ho.2))
 |fieldAddr s x f=>exact iu ok (U7 ok s (nu x ho) f)
 |field s x f=>exact iu ok (abY ok s (nu x ho) f)
 |indexAddr t x i=>simp only[qy,aG]at ho;exact iu ok (Js ok t (nu x ho.1) (nu i ho.2))
 |index t x i=>simp only[qy,aG]at ho;exact iu ok (abZ ok t (nu x ho.1) (nu i ho.2))
 |lookup t x i b=>simp only[qy,aG]at ho;exact iu ok (ZE hc.kS ok t (nu x ho.1) (nu i ho.2) b)
 |mapUpdate t m k v=>simp only[qy,aG]at ho;exact Q5 ok (Ob ok t (nu m ho.1.1) (nu k ho.1.2) (nu v ho.2))
 |range t x=>exact iu ok (ab1 ok t (nu x ho))
 |next x b=>exact iu ok (aeM ok b type (nu x ho))
 |entry x=>exact iu ok (abX ok (nu x ho))
 |extract x i=>exact iu ok (U6 (nu x ho) i)
 |call k=>exact aeH hc ok nu hB k ho type
 |makeInterface t x=>exact iu ok (C5 ok t (nu x ho))
 |typeAssert x s t b=>simp only[qy,aG,iT]at ho;obtain⟨rfl,ho⟩:=ho;exact iu ok (Lb ok s t (nu x ho))
 |_=>cases ho
def zc (a:Addr)(h:a.spot=ai)(n:Nat):a.add n=⟨a.block,a.off+n,ai⟩:=by
 obtain⟨b,o,s⟩:=a;simp only at h;subst h;unfold Addr.add
 split
 ·rename_i h;simp_all
 ·rfl
def C4 {S:jK}{π:Ren}(ok:Ren.Ok P π){a:Addr}(hs:a.spot=ai): ∀(n i:Nat) (acc JY:Array ao),(∀j,i<=j->j<i+n-> ∃x,S.mem ⟨a.block,a.off+j,ai⟩=ae x)->cR S π acc JY->aC P S (VsQ S) (loadCellsFrom a i n acc) π (loadCellsFrom a i n JY):=by
 intro n
 induction n generalizing π with
 |zero=>intro i acc JY _ fE;exact aB fE
 |succ n ih=>
  intro i acc JY hm fE;obtain⟨x,hx⟩:=hm i (ax _) (by omega);have e:=zc a hs i;unfold loadCellsFrom;rw[e];refine aC.bind ok (QV hx) λbQ u v e YQ=> ?_
  obtain⟨rfl,rfl⟩:=YQ;exact ih e.ok (i+1) _ _ (λj h1 h2=>hm j (by omega) (by omega)) ((cR.mono e fE).push (.int _ _))
def Hr {π:Ren}(hc:c.Fits P)(ok:Ren.Ok P π){e:aA}{a:Addr}(h:DL c e a):aC P c.sig (VQ c.sig) (loadVar e a) π (loadVar e a):=by
 obtain⟨hs,n,hn,hm⟩:=h;obtain⟨⟨i,hi,SA⟩,fs,hu⟩:=hc.flat e n hn;unfold loadVar isAgg;refine aC.bind (Q:=λ_ u v=>u=aw/\v=aw) ok (aC.bind ok (bG ok e) λfH d d' e1 hd=> ?_) λjD u v e2 YQ=> ?_
 ·obtain⟨rfl,hd⟩:=hd;rw[hu]at hd;obtain rfl:=be hd;exact aB ⟨rfl,rfl⟩
 ·obtain⟨rfl,rfl⟩:=YQ;simp only[if_true];refine aC.bind (Q:=λ_ u v=>u=n/\v=n) e2.ok (aC.bind e2.ok (fJ e2.ok e) λll d d' e3 hd=> ?_) λll u v e3 YQ=> ?_
  ·obtain⟨rfl,hd⟩:=hd;rw[hi]at hd;obtain rfl:=be hd;exact aB ⟨SA,SA⟩
  ·obtain⟨rfl,rfl⟩:=YQ;exact aC.bind e3.ok (C4 e3.ok hs _ 0 _ _ (λj _ h2=>hm j (by omega)) ⟨rfl,by simp⟩) λvJ x y e4 rB=>aB (.agg rB.size rB.at_)
def K9 {π:Ren}(hc:c.Fits P)(ok:Ren.Ok P π){e:aA}{a:Addr}(h:DL c e a):aC P c.sig (VQ c.sig) (eh e (.pointer (ae a))) π (eh e (.pointer (ae a))):=aC.bind (Q:=λ_ u v=>u=a/\v=a) ok (aB ⟨rfl,rfl⟩) λfH u v e1 YQ=>by obtain⟨rfl,rfl⟩:=YQ;exact Hr hc e1.ok h
def U8 {S:jK}{π:Ren}(ok:Ren.Ok P π){s e t:aA}(hu:P.underlying s=ae (.slice e))(a:Addr)(n k:Nat):aC P S (VQ S) (Builtin.len_ #[s] t #[.slice (ae a) n k]) π (Builtin.len_ #[s] t #[.slice (ae a) n k]):=by
 unfold Builtin.len_;refine aC.bind ok (bG ok s) λfH d d' e1 hd=> ?_
 obtain⟨rfl,hd⟩:=hd;rw[hu]at hd;obtain rfl:=be hd;exact aB (.int _ _)
def N7 {π:Ren}(hc:c.Fits P)(ok:Ren.Ok P π){s e:aA}(hs:c.elem s=ae e){a:Addr}{n k:Nat}(h: ∀m,c.flat e=ae m-> ∀i,i<n->DL c e (a.add (i*m))){i i':ao}(hi:bx c.sig π i i'):aC P c.sig (λ_ u v=>u=v/\mH c (.pt e) u) (Instr.indexAt s (.slice (ae a) n k) i) π (Instr.indexAt s (.slice (ae a) n k) i'):=by
 obtain⟨hu,m,hm⟩:=hc.elem s e hs;obtain⟨⟨inf,hi1,hi2⟩,_⟩:=hc.flat e m hm;unfold Instr.indexAt;refine aC.bind ok (tW hi) λfH x y e1 h1=> ?_
 subst h1;obtain⟨kk,q⟩:=x;simp only;refine aC.bind e1.ok (bG e1.ok s) λjD d d' e2 hd=> ?_
 obtain⟨rfl,hd⟩:=hd;rw[hu]at hd;obtain rfl:=be hd;show aC P c.sig _ (xt s kk q (ae a,n,e)) jD (xt s kk q (ae a,n,e));unfold xt;refine aC.bind e2.ok (bG e2.ok s) λll d d' e3 hd=> ?_
 obtain⟨rfl,_⟩:=hd;simp only
 split
 ·rename_i hq
  refine aC.bind (Q:=λ_ u v=>u=m/\v=m) e3.ok (aC.bind e3.ok (fJ e3.ok e) λvJ d d' e4 hd=> ?_) λvJ u v e4 YQ=> ?_
  ·obtain⟨rfl,hd⟩:=hd;rw[hi1]at hd;obtain rfl:=be hd;exact aB ⟨hi2,hi2⟩
  ·obtain⟨rfl,rfl⟩:=YQ;exact aB ⟨rfl,_,rfl,h _ hm q.toNat (by omega)⟩
 ·split<;>(split<;>first|exact rfl|exact(aC.mono (Q:=λ_ _ _=>False) e3.ok (lA e3.ok _ _ _ _) λ_ _ _ _ h=>h.elim))
def adz (c:gj)(o:Oper):Ren->Next->Next->Prop:=λπ n n'=>DU c π n n'\/ ∃v d,n=.value v/\n'=.value v/\o.dst=ae d/\d∈c.bad/\mH c (c.kc d) v
def XK {o:Oper}{k:Kd}(h:D' c o k=aw): ∃d,o.dst=ae d/\d∈c.bad/\ ∀v,mH c k v->mH c (c.kc d) v:=by
 unfold D' at h;cases hd:o.dst with
 |none=>rw[hd]at h;cases h
 |some d=>
  rw[hd]at h;simp only[aG,gi]at h;refine⟨d,rfl,by simpa using h.1,λv hv=> ?_⟩;rcases h.2 with h2|h2
  ·rw[Kd.zw h2];trivial
  ·rw[Kd.zw h2];exact hv
def Fa {o:Oper}{π:Ren}(ok:Ren.Ok P π){s s':Sem Next}(h:aC P c.sig (NQ c) s π s'):aC P c.sig (adz c o) s π s':=aC.mono ok h λ_ _ _ _ h=>.inl h
def ag2 {π:Ren}(hc:c.Fits P)(ok:Ren.Ok P π){ρ pU:cG->ao}(nu:nP c π ρ pU)(hB:EvB c π ρ pU)(o:Oper)(ho:C6 c o=aw):aC P c.sig (adz c o) (execOp ρ o) π (execOp pU o):=by
 obtain⟨dst,op,type,pos,after,guard⟩:=o;cases op with
 |move x=>
  cases x with
  |tmp t=>
   simp only[C6,aG]at ho;obtain⟨d,h1,h2,h3⟩:=XK ho.2;rcases hB.bad t (by simpa using ho.1)with h|⟨h,h'⟩
   ·exact aB (.inl (.value h))
   ·refine aB (.inr ⟨ρ (.tmp t),d,rfl,?_,h1,h2,h3 _ h'⟩);rw[h]
  |_=>cases ho
 |load e x=>
  cases x with
  |tmp t=>
   simp only[C6,aG]at ho;rcases hB.bad t (by simpa using ho.1)with h|⟨h,h'⟩
   ·exact Fa ok (iu ok (N8 ok e h))
   ·rw[Kd.zw ho.2]at h';obtain⟨a,h1,h2⟩:=h';refine Fa ok (iu ok ?_);show aC P c.sig _ (eh e (ρ (.tmp t))) π (eh e (pU (.tmp t)));rw[<-h,h1];exact K9 hc ok h2
  |_=>cases ho
 |indexAddr s x i=>
  cases x with
  |tmp t=>
   simp only[C6,aG]at ho;obtain⟨⟨ht,hi⟩,he⟩:=ho;cases hs:c.elem s with
   |none=>rw[hs]at he;cases he
   |some e=>
    rw[hs]at he;simp only[aG]at he;obtain⟨d,h1,h2,h3⟩:=XK he.2;rcases hB.bad t (by simpa using ht)with h|⟨h,h'⟩
    ·exact Fa ok (iu ok (Js ok s h (nu i hi)))
    ·rw[Kd.zw he.1]at h';obtain⟨a,n,k,g1,g2⟩:=h';refine aC.bind (Q:=λ_ u v=>u=v/\mH c (.pt e) u) ok ?_ λfH u v e1 YQ=> ?_
     ·show aC P c.sig _ (Instr.indexAt s (ρ (.tmp t)) (ρ i)) π (Instr.indexAt s (pU (.tmp t)) (pU i));rw[<-h,g1];exact N7 hc ok hs g2 (nu i hi)
     ·obtain⟨rfl,hv⟩:=YQ;exact aB (.inr ⟨_,d,rfl,rfl,h1,h2,h3 _ hv⟩)
  |_=>cases ho
 |call k=>
  obtain⟨callee,args,uz⟩:=k;simp only[C6,aG]at ho;obtain⟨h0,h1⟩:=ho;cases callee with
  |builtin b=>
   cases b with
   |len=>
    obtain⟨args⟩:=args;obtain⟨uz⟩:=uz
    match args,uz,h1 with
    | [.tmp t],[s],h1=>
      simp only[aG]at h1;obtain⟨ht,he⟩:=h1;cases hs:c.elem s with
      |none=>rw[hs]at he;cases he
      |some e=>
       rw[hs]at he;refine Fa ok ?_;have main: ∀ks,aC P c.sig (NQ c) (builtin .len #[s] type ks #[ρ (.tmp t)]) π (builtin .len #[s] type ks #[pU (.tmp t)]):=λks=> ?_
       ·have e: ∀ρ:cG->ao,execOp ρ {dst:=dst,op:=Op.call {callee:=Callee.builtin Builtin.len,args:={toList:=[Operand.tmp t]},argTypes:={toList:=[s]}},type:=type,pos:=pos,after:=after,guard:=guard}=builtin .len #[s] type #[ay] #[ρ (.tmp t)]:=λρ=>by simp[execOp,resolve,invoke]
        rw[e,e];exact main _
       rcases hB.bad t (by simpa using ht)with h|⟨h,h'⟩
       ·exact Jq hc ok .len rfl _ _ _ ⟨rfl,λi a b ha hb=>by
         match i,ha,hb with
         |0,ha,hb=>simp at ha hb;subst ha;subst hb;exact h
         |i+1,ha,_=>simp at ha⟩
       ·rw[Kd.zw he]at h';obtain⟨a,n,k,g1,_⟩:=h';rw[<-h,g1];exact iu ok (U8 ok (hc.elem s e hs).1 a n k)
   |_=>cases h0
  |_=>cases h0
 |_=>cases ho
def ZF {π:Ren}(hc:c.Fits P)(ok:Ren.Ok P π){ρ pU:cG->ao}(nu:nP c π ρ pU)(hB:EvB c π ρ pU)(o:Oper)(ho:kp c o=aw):aC P c.sig (adz c o) (execOp ρ o) π (execOp pU o):=by
 unfold kp at ho;rcases gi _ _▸ho with h|h
 ·exact Fa ok (E6 hc ok nu hB o h)
 ·exact ag2 hc ok nu hB o h
end
def oq (v:ao):Bool:=v.cells.all (gE 4)
def Ef: ∀(n:Nat) (v:ao),gE n v=aw->gE (n+1) v=aw:=by
 intro n
 induction n with
 |zero=>intro v h;cases v<;>first|exact h|rfl|cases h|(rename_i p;cases p<;>first|exact h|rfl|cases h)|(rename_i p _ _;cases p<;>first|exact h|rfl|cases h)
 |succ n ih=>
  intro v h;cases v with
  |agg c=>exact eY.2 λi hi=>ih _ (eY.1 (show c.all (gE n)=aw from h) i hi)
  |tuple c=>exact eY.2 λi hi=>ih _ (eY.1 (show c.all (gE n)=aw from h) i hi)
  |iface t v=>exact ih v h
  |pointer p=>cases p<;>first|exact h|rfl|cases h
  |slice p l c=>cases p<;>first|exact h|rfl|cases h
  |map p=>cases p<;>first|exact h|rfl|cases h
  |chan p=>cases p<;>first|exact h|rfl|cases h
  |_=>first|exact h|rfl|cases h
def aa8 {v:ao}(h:oq v=aw):gE 6 v=aw:=by
 unfold oq at h;have one: ∀x,gE 4 x=aw->gE 5 x=aw:=λx hx=>Ef 4 x hx
 cases v with
 |agg c=>show c.all (gE 5)=aw;have h:c.all (gE 4)=aw:=h;exact eY.2 λi hi=>one _ (eY.1 h i hi)
 |_=>refine Ef 5 _ (one _ ?_);exact eY.1 h 0 (by simp[iQ])
def IB {c:Array ao}(h: ∀x∈c,gE 4 x=aw):oq (.agg c)=aw:=by show c.all (gE 4)=aw;exact eY.2 λi hi=>h _ (Array.getElem_mem hi)
def IC {v:ao}(h:oq v=aw): ∀x∈v.cells,gE 4 x=aw:=by intro x hx;obtain⟨i,hi,rfl⟩:=Array.mem_iff_getElem.1 hx;exact eY.1 h i hi
def Ua {α β:Type}(P:β->Prop)(f:α->β->Option (ForInStep β))(hf: ∀a b r,P b->f a b=ae r->P r.value): ∀(l:List α) (b b':β),P b->forIn l b f=ae b'->P b':=by
 intro l
 induction l with
 |nil=>intro b b' hb h;cases h;exact hb
 |cons a l ih=>
  intro b b' hb h;rw[List.forIn_cons]at h;cases hr:f a b with
  |none=>rw[hr]at h;cases h
  |some r=>
   rw[hr]at h;have:=hf a b r hb hr;cases r with
   |done x=>cases h;exact this
   |yield x=>exact ih x b' this h
def OQ {info:aA->Option TypeInfo}(hi: ∀t i v,info t=ae i->i.zero=ae v->oq v=aw){fs:Array Field}{i:TypeInfo}{v:ao}(h:Made.reckonStruct info fs=ae i)(hz:i.zero=ae v):oq v=aw:=by
 unfold Made.reckonStruct at h;simp only[Option.bind_eq_bind,dC]at h;obtain⟨r,hr,h⟩:=h;rw[<-Array.forIn_toList]at hr;have leaf: ∀(st:Option (Array ao)) (i:TypeInfo) (f:Field) (n:Nat),(∀z,st=ae z-> ∀x∈z,gE 4 x=aw)->info f.type=ae i-> ∀z,(if n>Made.mostCells then ai else st.bind λu=>i.zero.bind λv=>pure (u++v.cells))=ae z-> ∀x∈z,gE 4 x=aw:=by
  intro st i f n hP agh z hz x hx
  split at hz
  ·cases hz
  ·obtain⟨u,hu,hz⟩:=dC.1 hz;obtain⟨v,hv,hz⟩:=dC.1 hz;cases hz;rcases o4.1 hx with h|h
   ·exact hP u hu x h
   ·exact IC (hi _ _ _ agh hv) x h
 have key:=Ua (λst=> ∀z,st.snd.snd.snd.snd.snd.snd.snd.fst=ae z-> ∀x∈z,gE 4 x=aw) _ ?_ _ _ _ ?_ hr
 ·split at h<;>
  ·cases h;obtain⟨z,hz',rfl⟩:=aJ.1 hz;exact IB (key z hz')
 ·intro f st r' hP hf;obtain⟨j,hj,hf⟩:=dC.1 hf;have nn: ∀{α:Type} {g:Unit->Option α} {y:α},(ai:Option Unit).bind g=ae y->False:=λh=>by cases h
  split at hf
  ·cases hf
  ·split at hf
   ·cases hf
   ·split at hf
    ·obtain⟨_,_,hf⟩:=dC.1 hf
     split at hf<;>(cases hf;exact leaf _ _ _ _ hP hj)
    ·obtain⟨_,_,hf⟩:=dC.1 hf
     split at hf<;>(cases hf;exact leaf _ _ _ _ hP hj)
 ·intro z hz x hx;obtain rfl:z= #[]:=(be hz).symm;simp at hx
def Oe {info:aA->Option TypeInfo}(hi: ∀t i v,info t=ae i->i.zero=ae v->oq v=aw){d:TypeDesc}{i:TypeInfo}{v:ao}(h:Made.reckon info d=ae i)(hz:i.zero=ae v):oq v=aw:=by
 unfold Made.reckon at h;cases d with
 |slice e=>simp only[Option.bind_eq_bind,dC]at h;obtain⟨_,_,_,_,h⟩:=h;cases h;cases hz;simp[oq,iQ,gE]
 |map k e=>simp only[Option.bind_eq_bind,dC]at h;obtain⟨_,_,_,_,_,_,_,_,h⟩:=h;cases h;cases hz;simp[oq,iQ,gE]
 |chan d e=>simp only[Option.bind_eq_bind,dC]at h;obtain⟨_,_,_,_,h⟩:=h;cases h;cases hz;simp[oq,iQ,gE]
 |func ps rs v=>simp only[Option.bind_eq_bind,dC]at h;obtain⟨_,_,h⟩:=h;cases h;cases hz;simp[oq,iQ,gE]
 |array n e=>
  simp only[Option.bind_eq_bind,dC]at h;obtain⟨j,hj,_,_,h⟩:=h;cases h;simp only at hz
  split at hz
  ·cases hz
  ·split at hz
   ·cases hz;simp[oq,iQ]
   ·obtain⟨z,hz',rfl⟩:=aJ.1 hz;have:=IC (hi e j z hj hz');refine IB λx hx=> ?_
    obtain⟨c,hc,hx⟩:=Array.mem_flatten.1 hx;rw[Array.mem_replicate]at hc;rw[hc.2]at hx;exact this x hx
 |pointer e=>
  simp only[Option.bind_eq_bind,dC]at h;obtain⟨j,hj,h⟩:=h
  split at h
  ·cases h
  ·split at h
   ·cases h
   ·simp only[dC]at h;obtain⟨_,_,h⟩:=h;cases h;cases hz;simp[oq,iQ,gE]
  ·simp only[dC]at h;obtain⟨_,_,h⟩:=h;cases h;cases hz;simp[oq,iQ,gE]
 |struct fs=>exact OQ hi h hz
 |_=>cases h
def VY {P:aS}(h: ∀(t:aA) (i:TypeInfo) (v:ao),P.types[t]? =ae i->i.zero=ae v->oq v=aw)(t:aA)(i:TypeInfo)(v:ao)(hi:P.info? t=ae i)(hz:i.zero=ae v):gE 6 v=aw:=by
 refine aa8 ?_;unfold Tables.info? at hi
 split at hi
 ·exact h t i v hi hz
 ·have key: ∀(fuel:Nat) (t:aA) (i:TypeInfo) (v:ao),Made.infoAt P.toTables fuel t=ae i->i.zero=ae v->oq v=aw:=by
   intro fuel
   induction fuel with
   |zero=>intro t i v h _;cases h
   |succ n ih=>
    intro t i v hi hz;unfold Made.infoAt at hi
    split at hi
    ·exact h t i v hi hz
    ·obtain⟨d,_,hd⟩:=dC.1 hi;exact Oe ih hd hz
  exact key _ t i v hi hz
abbrev jW (fr:bp)(cs:List bp):au:={frame:=fr,callers:=cs,status:=.running,dying:=ai}
inductive qO (c:gj) (π:Ren):Item->Item->Prop
 |code {x:Code}:dq c x=aw->qO c π (.code x) (.code x)
 |inBlock (i:Nat):qO c π (.inBlock i) (.inBlock i)
 |inLoop {b:Code}:dq c b=aw->qO c π (.inLoop b) (.inLoop b)
 |inScope {b:Code}:dq c b=aw->qO c π (.inScope b) (.inScope b)
 |inRegion {ops:Array Oper} (l:List Nat):ops.all (kp c)=aw->qO c π (.inRegion ops l) (.inRegion ops l)
 |inRangeFunc {l l':Nat}:c.bad=[]->π l l'->qO c π (.inRangeFunc l) (.inRangeFunc l')
 |endRangeFunc {l l':Nat}:c.bad=[]->π l l'->qO c π (.endRangeFunc l) (.endRangeFunc l')
 |beginRound:qO c π .beginRound .beginRound
inductive nh (π:Ren):Deferred->Deferred->Prop
 |mk {r r':Nat}:π r r'->nh π {target:=.collected r,args:= #[]} {target:=.collected r',args:= #[]}
inductive L9 (c:gj) (kL kR:List Item) (π:Ren):List Item->List Item->Prop
 |nil:L9 c kL kR π kL kR
 |cons {a b:Item} {l m:List Item}:qO c π a b->L9 c kL kR π l m->L9 c kL kR π (a::l) (b::m)
def pg:List Item->Bool
 | []| .code _::_| .inBlock _::_| .inLoop _::_| .inScope _::_=>aw
 |_=>ay
structure KOk (kL kR:List Item):Prop where
 acE:pg kL=aw
 aeU:pg kR=aw
 ex: ∀i,exitTo i kL=ai
 kk:kL=[]->kR=[]
def KOk.nil:KOk [] []:=⟨rfl,rfl,λ_=>rfl,λ_=>rfl⟩
structure s9 (c:gj) (π:Ren) (x y:Array ao):Prop where
 size:x.size=y.size
 at_: ∀(i:Nat) u v,x[i]? =ae u->y[i]? =ae v->bx c.sig π u v\/(i∈c.bad/\u=v/\mH c (c.kc i) u)
def s9.of {c:gj}{π:Ren}{x y:Array ao}(h:cR c.sig π x y):s9 c π x y:=⟨h.size,λi u v hu hv=>.inl (h.at_ i u v hu hv)⟩
def s9.vs {c:gj}{π:Ren}{x y:Array ao}(h:s9 c π x y)(hb:c.bad=[]):cR c.sig π x y:=⟨h.size,λi u v hu hv=>(h.at_ i u v hu hv).elim id λk=>by rw[hb]at k;exact absurd k.1 (by simp)⟩
def s9.mono {P:aS}{c:gj}{π bQ:Ren}(e:Ext P π bQ){x y:Array ao}(h:s9 c π x y):s9 c bQ x y:=⟨h.size,λi u v hu hv=>(h.at_ i u v hu hv).imp (·.mono e) id⟩
def s9.put {c:gj}{π:Ren}{x y:Array ao}(h:s9 c π x y){d:Nat}{v v':ao}(hv:bx c.sig π v v'\/(d∈c.bad/\v=v'/\mH c (c.kc d) v)):s9 c π (x.setIfInBounds d v) (y.setIfInBounds d v'):=by
 refine⟨by simp[h.size],λi u w hu hw=> ?_⟩;by_cases e:d=i
 ·subst e;have bJ:d<x.size:=by have:=(aI.1 hu).1;simpa using this
  rw[aU bJ]at hu;rw[aU (by rw[<-h.size];exact bJ)]at hw;cases hu;cases hw;exact hv
 ·rw[aK e]at hu hw;exact h.at_ i u w hu hw
def s9.set {c:gj}{π:Ren}{x y:Array ao}(h:s9 c π x y){d:Nat}{v v':ao}(hv:bx c.sig π v v'):s9 c π (x.setIfInBounds d v) (y.setIfInBounds d v'):=h.put (.inl hv)
abbrev wh (a:bp):Option Nat×bK:=(a.roundOf,a.fn)
structure sV (c:gj) (kL kR:List Item) (π:Ren) (a b:bp):Prop where
 fn:b.fn=a.fn
 tmps:s9 c π a.tmps b.tmps
 todo:L9 c kL kR π a.todo b.todo
 defers:du (nh π) a.defers b.defers
 mode:b.mode=a.mode
 ok:a.mode=.run\/a.mode=.returning
 kind:a.kind=.normal
 xZ:b.kind=.normal
 round:gN π a.roundOf b.roundOf
 ks:KOk kL kR
 rk:a.roundOf≠ai->kL=[]
section
variable {P:aS} {c:gj} {kL kR:List Item}
def qO.mono {π bQ:Ren}(e:Ext P π bQ): ∀{a b:Item},qO c π a b->qO c bQ a b
 |_,_,.code h=>.code h
 |_,_,.inBlock i=>.inBlock i
 |_,_,.inLoop h=>.inLoop h
 |_,_,.inScope h=>.inScope h
 |_,_,.inRegion l h=>.inRegion l h
 |_,_,.inRangeFunc hb h=>.inRangeFunc hb (e.le _ _ h)
 |_,_,.endRangeFunc hb h=>.endRangeFunc hb (e.le _ _ h)
 |_,_,.beginRound=>.beginRound
def nh.mono {π bQ:Ren}(e:Ext P π bQ): ∀{a b:Deferred},nh π a b->nh bQ a b|_,_,.mk h=>.mk (e.le _ _ h)
def nh.list {π bQ:Ren}(e:Ext P π bQ){a b:List Deferred}(h:du (nh π) a b):du (nh bQ) a b:=du.mono (λ_ _ x=>x.mono e) h
def L9.mono {π bQ:Ren}(e:Ext P π bQ){a b:List Item}(h:L9 c kL kR π a b):L9 c kL kR bQ a b:=by
 induction h with
 |nil=>exact .nil
 |cons h _ ih=>exact .cons (h.mono e) ih
def gN.ren {π bQ:Ren}(e:Ext P π bQ){a b:Option Nat}(h:gN π a b):gN bQ a b:=gN.mono (λ_ _ x=>e.le _ _ x) h
def sV.mono {π bQ:Ren}(e:Ext P π bQ){a b:bp}(h:sV c kL kR π a b):sV c kL kR bQ a b:=⟨h.fn,h.tmps.mono e,h.todo.mono e,nh.list e h.defers,h.mode,h.ok,h.kind,h.xZ,gN.ren e h.round,h.ks,h.rk⟩
def cR.getD {S:jK}{π:Ren}{x y:Array ao}(h:cR S π x y)(i:Nat):bx S π (x.getD i undef) (y.getD i undef):=by
 rw[bH,bH];have:=h.opt i;revert this;generalize x[i]? =a;generalize y[i]? =b;intro jM;cases jM with
 |none=>exact .tuple rfl (by simp)
 |some h=>exact h
def s9.afR {c:gj}{π:Ren}{x y:Array ao}(h:s9 c π x y)(i:Nat):bx c.sig π (x.getD i undef) (y.getD i undef)\/(x.getD i undef=y.getD i undef/\mH c (c.kc i) (x.getD i undef)):=by
 rw[bH,bH];rcases ec i x.size with bJ|wq
 ·have C0:i<y.size:=h.size▸bJ;rw[aX bJ,aX C0];exact(h.at_ i _ _ (aX bJ) (aX C0)).imp id (·.2)
 ·rw[iH wq,iH (h.size▸wq)];exact .inl (.tuple rfl (by simp))
def s9.getD {c:gj}{π:Ren}{x y:Array ao}(h:s9 c π x y){i:Nat}(hi:i∉c.bad):bx c.sig π (x.getD i undef) (y.getD i undef):=by
 rw[bH,bH];rcases ec i x.size with bJ|wq
 ·have C0:i<y.size:=h.size▸bJ;rw[aX bJ,aX C0];exact(h.at_ i _ _ (aX bJ) (aX C0)).elim id λk=>absurd k.1 hi
 ·rw[iH wq,iH (h.size▸wq)];exact .tuple rfl (by simp)
def sV.acW {π:Ren}{a b:bp}(h:sV c kL kR π a b):nP c π a.eval b.eval:=by
 intro o ho;cases o with
 |tmp t=>
  have ho:c.bad.contains t=ay:=by simpa[eC]using ho
  exact h.tmps.getD (by simpa using ho)
 |const v=>exact xm 4 v ho π
 |global g=>cases ho
 |func f=>exact .func (.func ho) rfl (by simp) rfl (by simp)
def sV.evB {π:Ren}{a b:bp}(h:sV c kL kR π a b):EvB c π a.eval b.eval:=⟨λ_=>⟨rfl,rfl⟩,λt _=>h.tmps.afR t⟩
def zA (fr:bp)(v:ao)(h:pg fr.todo=aw):fr.finish v=fr:=by
 obtain⟨fn,tmps,todo,defers,mode,kind,round⟩:=fr;cases todo with
 |nil=>rfl
 |cons x k=>cases x<;>first|rfl|cases h
def sV.finish {π:Ren}{a b:bp}(h:sV c kL kR π a b){v v':ao}(hv:bx c.sig π v v'):sV c kL kR π (a.finish v) (b.finish v')/\wh (a.finish v)=wh a:=by
 obtain⟨fn,tmps,todo,defers,mode,kind,round⟩:=a;obtain⟨fn',og,OX,iW,SO,xZ,lZ⟩:=b;obtain⟨h1,h2,h3,h4,h5,h6,h7,h8,h9,sW,y5⟩:=h;simp only at h1 h2 h3 h4 h5 h6 h7 h8 h9 y5;cases h3 with
 |nil=>rw[zA _ _ (by exact sW.acE),zA _ _ (by exact sW.aeU)];exact⟨⟨h1,h2,.nil,h4,h5,h6,h7,h8,h9,sW,y5⟩,rfl⟩
 |cons hi hk=>
  cases hi with
  |code x=>exact⟨⟨h1,h2,.cons (.code x) hk,h4,h5,h6,h7,h8,h9,sW,y5⟩,rfl⟩
  |inBlock x=>exact⟨⟨h1,h2,.cons (.inBlock x) hk,h4,h5,h6,h7,h8,h9,sW,y5⟩,rfl⟩
  |inLoop x=>exact⟨⟨h1,h2,.cons (.inLoop x) hk,h4,h5,h6,h7,h8,h9,sW,y5⟩,rfl⟩
  |inScope x=>exact⟨⟨h1,h2,.cons (.inScope x) hk,h4,h5,h6,h7,h8,h9,sW,y5⟩,rfl⟩
  |inRangeFunc hb x=>exact⟨⟨h1,h2,.cons (.endRangeFunc hb x) hk,h4,h5,h6,h7,h8,h9,sW,y5⟩,rfl⟩
  |endRangeFunc hb x=>exact⟨⟨h1,h2,.cons (.endRangeFunc hb x) hk,h4,h5,h6,h7,h8,h9,sW,y5⟩,rfl⟩
  |beginRound=>exact⟨⟨h1,h2,hk,h4,h5,h6,h7,h8,h9,sW,y5⟩,rfl⟩
  |inRegion l ho=>
   rename_i ops
   cases l with
   |nil=>exact⟨⟨h1,h2,.cons (.inRegion _ ho) hk,h4,h5,h6,h7,h8,h9,sW,y5⟩,rfl⟩
   |cons i rest=>
    unfold Frame.finish;simp only;refine⟨⟨h1,?_,.cons (.inRegion _ ho) hk,h4,h5,h6,h7,h8,h9,sW,y5⟩,trivial⟩;simp only
    split
    ·exact h2.set hv
    ·exact h2
def sV.aa7 {π:Ren}{a b:bp}(h:sV c kL kR π a b){o:Oper}{ops:Array Oper}{i:Nat}{rest:List Nat}{k:List Item}(ht:a.todo=.inRegion ops (i::rest)::k)(ho:ops[i]? =ae o){v:ao}{d:Tmp}(hd:o.dst=ae d)(hb:d∈c.bad)(hv:mH c (c.kc d) v):sV c kL kR π (a.finish v) (b.finish v)/\wh (a.finish v)=wh a:=by
 obtain⟨fn,tmps,todo,defers,mode,kind,round⟩:=a;obtain⟨fn',og,OX,iW,SO,xZ,lZ⟩:=b;obtain⟨h1,h2,h3,h4,h5,h6,h7,h8,h9,sW,y5⟩:=h;simp only at h1 h2 h3 h4 h5 h6 h7 h8 h9 y5 ht;subst ht;generalize hx:(Item.inRegion ops (i::rest)::k)=x at h3;cases h3 with
 |nil=>exact absurd sW.acE (by rw[<-hx];simp[pg])
 |cons hi hk=>
  cases hx;cases hi with
  |inRegion l hoo=>unfold Frame.finish;simp only[ho,Option.bind_some,hd];refine⟨⟨h1,h2.put (.inr ⟨hb,rfl,hv⟩),.cons (.inRegion _ hoo) hk,h4,h5,h6,h7,h8,h9,sW,y5⟩,trivial⟩
def sV.enter {π:Ren}(hc:c.Fits P){f:bK}(hf:c.fn f=aw){x y:Array ao}(h:vK c f π x y):sV (c.at f) [] [] π (fG P f x .normal) (fG P f y .normal):=by
 obtain⟨F,b,h1,h2,h3,h4,_⟩:=hc.fn f hf;refine⟨rfl,?_,?_,.nil,rfl,.inl rfl,rfl,rfl,.none,.nil,λh=>absurd rfl h⟩
 ·show s9 (c.at f) π (x++eG _ undef) (y++eG _ undef);rw[<-h.size];refine⟨by simp[h.size],λi u v hu hv=> ?_⟩;rw[Array.getElem?_append]at hu hv;rw[<-h.size]at hv
  split at hu
  ·rename_i hi
   rw[if_pos hi]at hv;exact h.at_ i u v hu hv
  ·rename_i hi
   rw[if_neg hi]at hv;rw[Array.getElem?_replicate]at hu hv
   split at hu
   ·rename_i hi
    rw[if_pos hi]at hv;cases hu;cases hv;exact .inl (.tuple rfl (by simp))
   ·cases hu
 ·show L9 (c.at f) [] [] π [.code ((P.funcs[f]?.bind (·.body)).getD _)] [.code ((P.funcs[f]?.bind (·.body)).getD _)];rw[h1];simp only[Option.bind_some,h2,bT];exact .cons (.code h3) .nil
def kD (fn:bK)(es:Array Event): ∀e∈seen P fn es,e∈es:=by
 unfold seen;simp only;rw[<-Array.foldl_toList];have key: ∀(l:List Event) (q:Bool) (kept:Array Event),∀e∈(l.foldl (λ(x:Bool×Array Event) e=>
  match e.loc with
  | .mark (.extern f)=>((P.funcs[f]?).any (·.norace),x.2)
  |_=>(x.1,if x.1&& !e.sync then x.2 else x.2.push e)) (q,kept)).2,e∈kept\/e∈l:=by
  intro l
  induction l with
  |nil=>intro q kept e he;exact .inl he
  |cons a l ih=>
   intro q kept e he;rw[l9]at he;rcases ih _ _ e he with h|h
   ·have:e∈kept\/e=a:=by
     revert h;simp only
     split
     ·intro h;exact .inl h
     ·split
      ·intro h;exact .inl h
      ·intro h;rcases Array.mem_push.1 h with h|h
       ·exact .inl h
       ·exact .inr h
    rcases this with h|h
    ·exact .inl h
    ·exact .inr (by simp[h])
   ·exact .inr (by simp[h])
 intro e he;rcases key es.toList ((P.funcs[fn]?).any (·.norace)) #[] e he with h|h
 ·simp at h
 ·simpa using h
end
def Up (c d:gj)(fn:bK):Prop:=d=c.cl\/(d=c.at fn/\c.fn fn=aw)
def Up.sig {c d:gj}{fn:bK}(h:Up c d fn):d.sig=c.sig:=by rcases h with rfl|⟨rfl,_⟩<;>rfl
def Up.fits {P:aS}{c d:gj}{fn:bK}(h:Up c d fn)(hc:c.Fits P):d.Fits P:=by
 rcases h with rfl|⟨rfl,_⟩
 ·exact hc.cl
 ·exact hc.at fn
def Up.up {c d e:gj}{fn fn':bK}(h:Up c d fn)(k:Up d e fn'):Up c e fn':=by rcases h with rfl|⟨rfl,_⟩<;>exact k
inductive Ma (c:gj) (kL kR:List Item) (π:Ren) (cl cr:List bp) (ro:Option Nat×bK):au->au->Prop
 |stay {a b:bp}:sV c kL kR π a b->wh a=ro->Ma c kL kR π cl cr ro (jW a cl) (jW b cr)
 |push {d:gj} {f g a b:bp}:Up c d f.fn->sV d [] [] π f g->sV c kL kR π a b->wh a=ro->Ma c kL kR π cl cr ro (jW f (a::cl)) (jW g (b::cr))
 |pop {x y:bp} {l m:List bp} {v v':ao}:ro.1≠ai->cl=x::l->cr=y::m->bx c.sig π v v'->Ma c kL kR π cl cr ro (jW (x.finish v) l) (jW (y.finish v') m)
def yp (P:aS)(c:gj)(π:Ren)(cl:List bp)(s:GStep):Prop:= ∃a chain w es bQ R' ds,s=.go (jW a cl) w es/\a.mode=.panicking chain/\cz P c.sig bQ w R'/\du (nh bQ) a.defers ds/\Ext P π bQ
def vN (s:GStep):Prop:= ∃o w es,s=.ended o w es
def nE (P:aS)(c:gj)(kL kR:List Item)(π:Ren)(L R:ah)(cl cr:List bp)(ro:Option Nat×bK)(sL sR:GStep):Prop:=vN sL\/yp P c π cl sL\/ ∃gL L' es,sL=.go gL L' es/\L.drawn<=L'.drawn/\L'.tape=L.tape/\(RN L R L'.drawn-> ∃bQ gR R' ev,Ext P π bQ/\sR=.go gR R' ev/\Ma c kL kR bQ cl cr ro gL gR/\cz P c.sig bQ L' R'/\y7 π bQ L R L' R'/\R'.drawn+L.drawn=R.drawn+L'.drawn/\ ∀e∈ev,DN c.sig bQ e)
section
variable {P:aS} {c:gj} {kL kR:List Item}
def nE.here {π:Ren}{L R:ah}{cl cr:List bp}{ro:Option Nat×bK}{a b:bp}(hw:cz P c.sig π L R)(h:sV c kL kR π a b)(hr:wh a=ro):nE P c kL kR π L R cl cr ro (.go (jW a cl) L) (.go (jW b cr) R):=.inr (.inr ⟨_,_,_,rfl,ax _,rfl,λ_=>⟨π,_,_,_,Ext.refl hw.ok,rfl,.stay h hr,hw,y7.refl _ _ _,rfl,by simp⟩⟩)
def k8 (es:Array Event)(g:au)(w:ah)(lL:Array Event):GStep.after es (.go g w lL)=.go g w (es++lL):=rfl
def Kb {π:Ren}{a b:bp}(h:sV c kL kR π a b)(vs:List PanicEntry):(a.raise vs).mode=.panicking vs/\(a.raise vs).defers=a.defers:=by unfold Frame.raise;rcases h.ok with e|e<;>rw[e]<;>exact⟨rfl,rfl⟩
def uC (k:List Item)(h:pg k=aw):(match k with| .call _ aw _ _::_=>CallKind.wrapped|_=>.normal)=.normal:=by
 cases k with
 |nil=>rfl
 |cons x k=>cases x<;>first|rfl|cases h
def AF {π:Ren}(hc:c.Fits P){L R:ah}(hw:cz P c.sig π L R){a b:bp}(h:sV c kL kR π a b)(cl cr:List bp){s s':Sem Next}{Q:Ren->Next->Next->Prop}(hs:aC P c.sig Q s π s')(hQ: ∀bQ n n',Ext P π bQ->Q bQ n n'->DU c bQ n n'\/ ∃v,n=.value v/\n'=.value v/\(sV c kL kR bQ a b->sV c kL kR bQ (a.finish v) (b.finish v)/\wh (a.finish v)=wh a)):nE P c kL kR π L R cl cr (wh a) (fe P aw a cl ai s L) (fe P aw b cr ai s' R):=by
 have cT:=hs.run hw #[] #[];have kdL:(match a.todo with| .call _ aw _ _::_=>CallKind.wrapped|_=>.normal)=.normal:=by
  have ht:=h.todo;have sW:=h.ks;revert ht;generalize a.todo=k;generalize b.todo=k';intro ht;cases ht with
  |nil=>first|exact uC _ sW.acE|exact uC _ sW.aeU
  |cons hi _=>cases hi<;>rfl
 have kdR:(match b.todo with| .call _ aw _ _::_=>CallKind.wrapped|_=>.normal)=.normal:=by
  have ht:=h.todo;have sW:=h.ks;revert ht;generalize a.todo=k;generalize b.todo=k';intro ht;cases ht with
  |nil=>first|exact uC _ sW.acE|exact uC _ sW.aeU
  |cons hi _=>cases hi<;>rfl
 revert cT;cases hrL:s.runT P L #[]with
 |mk r es=>
  cases r with
  |halt x L'=>
   rintro⟨hl,bQ,R',e,jY⟩;cases x with
   |panic v=>
    have hd:=Kb h [{v,recovered:=false}];have hgo: ∃lL,fe P aw a cl ai s L=.go (jW (a.raise [{v,recovered:=false}]) cl) L' lL:=⟨_,by
     unfold fe;simp only[if_true,hrL,k8]
     rfl⟩
    obtain⟨lL,hgo⟩:=hgo;exact .inr (.inl ⟨_,_,L',lL,bQ,R',b.defers,hgo,hd.1,jY,by rw[hd.2];exact nh.list e h.defers,e⟩)
   |stuck w=>refine .inl ?_;unfold fe;simp only[if_true,hrL];exact⟨_,_,_,rfl⟩
   |unsupported u=>
    cases u with
    |initOrder g=>cases hl
    |_=>refine .inl ?_;unfold fe;simp only[if_true,hrL];exact⟨_,_,_,rfl⟩
   |_=>cases hl
  |ok x L'=>
   rintro⟨h1,h2,h3⟩;have nx: ∀gL:au,(∃esL,fe P aw a cl ai s L=.go gL L' esL)->(∀bQ x' R',Ext P π bQ->Q bQ x x'->(∃ev,s'.runT P R #[]=(.ok x' R',ev))-> ∃gR,Ma c kL kR bQ cl cr (wh a) gL gR/\ ∀ev,s'.runT P R #[]=(.ok x' R',ev)-> ∃ev',fe P aw b cr ai s' R=.go gR R' ev'/\ ∀e∈ev',e∈ev)->
    nE P c kL kR π L R cl cr (wh a) (fe P aw a cl ai s L) (fe P aw b cr ai s' R):=by
    rintro gL ⟨esL,hL⟩ hk;refine .inr (.inr ⟨gL,L',esL,hL,h1,h2,λag=> ?_⟩);obtain⟨bQ,x',R',ev,e,hr,hq,jY,hd,Yn,jJ⟩:=h3 ag;simp only[kU]at hr;obtain⟨gR,ht,hR⟩:=hk bQ x' R' e hq ⟨ev,hr⟩;obtain⟨ev',M1,mW⟩:=hR ev hr;exact⟨bQ,gR,R',ev',e,M1,ht,jY,hd,Yn,λx hx=>jJ x (mW x hx)⟩
   have evs: ∀(ev:Array Event) (fn:bK) (k:Bool),∀e∈seen P fn (if k then #[]else ev)++ #[],e∈ev:=by
    intro ev fn k e he;rw[Array.append_empty]at he;have:=kD fn _ e he;cases k with
    |true=>simp at this
    |false=>exact this
   cases x with
   |value v=>
    refine nx (jW (a.finish v) cl) ⟨_,by unfold fe;simp only[if_true,hrL,k8];rfl⟩ λbQ x' R' e hq hex=> ?_
    rcases hQ bQ _ _ e hq with hq|⟨v2,e1,rfl,hf⟩
    rotate_left
    ·cases e1;have hf:=hf (h.mono e);exact⟨jW (b.finish v) cr,.stay hf.1 hf.2,λev hr=>⟨_,by unfold fe;simp only[if_true,hr,k8];rfl,evs _ _ _⟩⟩
    cases hq with
    |value hv=>
     rename_i v'
     have hf:=(h.mono e).finish hv;exact⟨jW (b.finish v') cr,.stay hf.1 hf.2,λev hr=>⟨_,by unfold fe;simp only[if_true,hr,k8];rfl,evs _ _ _⟩⟩
   |skip=>
    refine nx (jW (a.finish undef) cl) ⟨_,by unfold fe;simp only[if_true,hrL,k8];rfl⟩ λbQ x' R' e hq hex=> ?_
    replace hq:=(hQ bQ _ _ e hq).resolve_right (by rintro⟨_,e1,_⟩;cases e1)
    cases hq with
    |skip=>have hf:=(h.mono e).finish (v:=undef) (v':=undef) (.tuple rfl (by simp));exact⟨jW (b.finish undef) cr,.stay hf.1 hf.2,λev hr=>⟨_,by unfold fe;simp only[if_true,hr,k8];rfl,evs _ _ _⟩⟩
   |enter f x=>
    refine nx (jW (fG P f x .normal) (a::cl)) ⟨_,by unfold fe;simp only[if_true,hrL,k8];exact congrArg (λk=>GStep.go (jW (fG P f x k) (a::cl)) L' (seen P a.fn (if a.kind== .early then #[]else es)++ #[])) kdL⟩ λbQ x' R' e hq hex=> ?_
    replace hq:=(hQ bQ _ _ e hq).resolve_right (by rintro⟨_,e1,_⟩;cases e1)
    cases hq with
    |enter hf hx=>
     rename_i y
     exact⟨jW (fG P f y .normal) (b::cr),.push (.inr ⟨rfl,hf⟩) (sV.enter hc hf hx) (h.mono e) rfl,λev hr=>⟨_,by unfold fe;simp only[if_true,hr,k8];exact congrArg (λk=>GStep.go (jW (fG P f y k) (b::cr)) R' (seen P b.fn (if b.kind== .early then #[]else ev)++ #[])) kdR,evs _ _ _⟩⟩
   |round l f t x y=>
    refine nx (jW (Frame.round l f t x y .normal) (a::cl)) ⟨_,by unfold fe;simp only[if_true,hrL,k8];rfl⟩ λbQ x' R' e hq hex=> ?_
    replace hq:=(hQ bQ _ _ e hq).resolve_right (by rintro⟨_,e1,_⟩;cases e1)
    cases hq with
    |round hl ht hx hy=>
     rename_i l' t'
     exact⟨jW (Frame.round l' f t' x y .normal) (b::cr),.push (.inl rfl) ⟨rfl,.of ht,.cons (.code hx) (.cons .beginRound (.cons (.code hy) .nil)),.nil,rfl,.inl rfl,rfl,rfl,.some hl,.nil,λ_=>rfl⟩ (h.mono e) rfl,λev hr=>⟨_,by unfold fe;simp only[if_true,hr,k8];rfl,evs _ _ _⟩⟩
   |_=>
    exfalso;have:=hs.run (R:={R with tape:=L.tape,drawn:=L.drawn}) ⟨hw.ok,hw.obj,hw.oE,hw.uB,hw.old⟩ #[] #[];rw[hrL]at this;obtain⟨jD,_,_,_,e,_,hq,_⟩:=this.2.2 (λi q _=>rfl);rcases hQ jD _ _ e hq with hq|⟨_,e1,_⟩
    ·cases hq
    ·cases e1
end
section
variable {P:aS} {c:gj} {kL kR:List Item}
def phase {α:Type}(P:aS)(fn:bK)(s:Sem α)(k:α->ah->GStep)(h:Halt->ah->GStep)(w:ah):GStep:=
 match s.runT P w #[]with
 |(r,es)=>GStep.after (seen P fn es) (match r with| .ok x w=>k x w| .halt x w=>h x w)
def Py (R L:ah)(d:Nat):RN L {R with tape:=L.tape,drawn:=L.drawn} d:=λ_ _ _=>rfl
def vN.after {s:GStep}(h:vN s)(es:Array Event):vN (GStep.after es s):=by obtain⟨o,w,lL,rfl⟩:=h;exact⟨o,w,_,rfl⟩
def yp.after {π bQ:Ren}{cl:List bp}{s:GStep}(h:yp P c bQ cl s)(es:Array Event)(e:Ext P π bQ):yp P c π cl (GStep.after es s):=by obtain⟨a,ch,w,lL,jD,R',ds,rfl,h1,h2,h3,h4⟩:=h;exact⟨a,ch,w,_,jD,R',ds,rfl,h1,h2,h3,e.trans h4⟩
def tT {α β:Type}{Q:Ren->α->β->Prop}{π:Ren}{s:Sem α}{s':Sem β}(hs:aC P c.sig Q s π s'){L R:ah}(hw:cz P c.sig π L R){fn fn':bK}{cl cr:List bp}{ro:Option Nat×bK}{k:α->ah->GStep}{k':β->ah->GStep}{h h':Halt->ah->GStep}(hk: ∀bQ x y L' R',Ext P π bQ->Q bQ x y->cz P c.sig bQ L' R'->nE P c kL kR bQ L' R' cl cr ro (k x L') (k' y R'))(hh: ∀x L' bQ R',x.lost=aw->Ext P π bQ->cz P c.sig bQ L' R'->vN (h x L')\/yp P c π cl (h x L')):nE P c kL kR π L R cl cr ro (phase P fn s k h L) (phase P fn' s' k' h' R):=by
 have cT:=hs.run hw #[] #[];have Nk:=hs.run (R:={R with tape:=L.tape,drawn:=L.drawn}) ⟨hw.ok,hw.obj,hw.oE,hw.uB,hw.old⟩ #[] #[];unfold phase;revert cT Nk;cases hrL:s.runT P L #[]with
 |mk r es=>
  cases r with
  |halt x L'=>
   rintro⟨hl,bQ,R',e,jY⟩ _;rcases hh x L' bQ R' hl e jY with hh|hh
   ·exact .inl (hh.after _)
   ·exact .inr (.inl (hh.after _ (Ext.refl hw.ok)))
  |ok x L'=>
   rintro⟨h1,h2,h3⟩ ⟨_,_,h4⟩;obtain⟨fH,y1,R1,ev1,e1,_,hq1,Uu,_,_,_⟩:=h4 (Py R L _);by_cases hE:vN (k x L')
   ·exact .inl (hE.after _)
   by_cases hP:yp P c π cl (k x L')
   ·exact .inr (.inl (hP.after _ (Ext.refl hw.ok)))
   have third: ∀bQ y R',Ext P π bQ->Q bQ x y->cz P c.sig bQ L' R'->_:=λbQ y R' e hq jY=>((hk bQ x y L' R' e hq jY).resolve_left hE).resolve_left λh=>hP (by have:=h.after #[] e;obtain⟨a,ch,w,lL,jD,R2,ds,hh,h1,h2,h3,h4⟩:=h;exact⟨a,ch,w,lL,jD,R2,ds,hh,h1,h2,h3,e.trans h4⟩)
   obtain⟨gL,L2,es2,hgo,Sx,ht2,_⟩:=third fH y1 R1 e1 hq1 Uu;refine .inr (.inr ⟨gL,L2,_,by simp only[hgo,k8];rfl,bM h1 Sx,ht2.trans h2,λag=> ?_⟩);obtain⟨bQ,y,R',ev,e,hr,hq,jY,hd,Yn,jJ⟩:=h3 (λi q hi=>ag i q (by omega));simp only[kU]at hr;obtain⟨gL',L2',aiH,abo,_,_,hA⟩:=third bQ y R' e hq jY;rw[hgo]at abo;cases abo;obtain⟨ll,gR,R3,ev3,e3,hgR,ht,hw3,hd3,aiQ,ah1⟩:=hA (λi q hi=>by have:=ag (L'.drawn-L.drawn+i) q (by omega);rw[show R.drawn+(L'.drawn-L.drawn+i)=R'.drawn+i by omega,show L.drawn+(L'.drawn-L.drawn+i)=L'.drawn+i by omega]at this;rw[hd.tape,h2];exact this)
   refine⟨ll,gR,R3,_,e.trans e3,by simp only[hr,hgR,k8];rfl,ht,hw3,hd.trans hd3,by omega,λx hx=> ?_⟩;rcases o4.1 hx with hx|hx
   ·exact(jJ x (kD _ _ _ hx)).mono e3
   ·exact ah1 x hx
end
section
variable {P:aS} {c:gj} {kL kR:List Item}
def N5 {π:Ren}(ok:Ren.Ok P π)(fn:bK){t t':Array ao}(ht:cR c.sig π t t')(ps:Array Tmp){a b:Code}(ha:dq c.cl a=aw)(hb:dq c.cl b=aw){ar ar':Option Nat}(hr:gN π ar ar'):aC P c.sig (λπ x y=>π x.1 y.1/\du (nh π) x.2 y.2) (Instr.enterLoop fn t ps a b ar) π (Instr.enterLoop fn t' ps a b ar'):=by
 unfold Instr.enterLoop;have tl: ∀(fH:Ren) (d d':Nat) (m m':List Deferred),Ext P π fH->fH d d'->du (nh fH) m m'->aC P c.sig (λπ x y=>π x.1 y.1/\du (nh π) x.2 y.2)
  (do pure (<-newObj (.loop {state:=.ready,pending:=ai,fn,tmps:=t,params:=ps,assign:=a,body:=b,defers:=d}),m)) fH
  (do pure (<-newObj (.loop {state:=.ready,pending:=ai,fn,tmps:=t',params:=ps,assign:=a,body:=b,defers:=d'}),m')):=λfH d d' m m' e hd hm=>
  aC.bind e.ok (Fb (.loop ⟨rfl,rfl,(λ_ h=>by cases h),rfl,cR.mono e ht,rfl,rfl,ha,rfl,hb,hd⟩)) λjD r r' e2 hr=>aB ⟨hr,nh.list e2 hm⟩
 cases hr with
 |none=>
  refine aC.bind ok (Fb (.deferred aw)) λfH r r' e hr=> ?_
  exact aC.bind (Q:=λπ x y=>π x.1 y.1/\du (nh π) x.2 y.2) e.ok (aB ⟨hr,.cons (.mk hr) .nil⟩) λjD x y e2 rB=>tl jD _ _ _ _ (e.trans e2) rB.1 rB.2
 |some hl=>
  refine aC.bind ok (tX ok hl) λfH r r' e hr=> ?_
  exact aC.bind (Q:=λπ x y=>π x.1 y.1/\du (nh π) x.2 y.2) e.ok (aB ⟨hr.defers,.nil⟩) λjD x y e2 rB=>tl jD _ _ _ _ (e.trans e2) rB.1 rB.2
def BV.set {S:jK}{π:Ren}{a b:Loop}(h:BV S π a b)(s:LoopState)(j:Option Code)(hj: ∀x,j=ae x->S.code x):BV S π {a with state:=s,pending:=j} {b with state:=s,pending:=j}:=⟨rfl,rfl,hj,h.fn,h.tmps,h.params,h.assign,h.okA,h.body,h.okB,h.defers⟩
def BV.JK {S:jK}{π:Ren}{a b:Loop}(h:BV S π a b)(s:LoopState):BV S π {a with state:=s} {b with state:=s}:=⟨rfl,h.pending,h.okP,h.fn,h.tmps,h.params,h.assign,h.okA,h.body,h.okB,h.defers⟩
def K3 {S:jK}{π:Ren}(ok:Ren.Ok P π){l l':Nat}(h:π l l'):aC P S mK (Instr.beginRound l) π (Instr.beginRound l'):=by
 unfold Instr.beginRound;refine aC.bind ok (tX ok h) λfH r r' e hr=> ?_
 refine aC.bind e.ok (mX (e.le _ _ h) (.loop (hr.JK .busy))) λjD _ _ e2 _=> ?_
 rw[hr.state];cases r.state<;>first|exact aB rfl|exact jR e2.ok _
def QU {S:jK}{π:Ren}(ok:Ren.Ok P π){l l':Nat}(h:π l l')(j:Option Code)(hj: ∀x,j=ae x->S.code x):aC P S (VQ S) (Instr.endRound l j) π (Instr.endRound l' j):=by
 unfold Instr.endRound;refine aC.bind ok (tX ok h) λfH r r' e hr=> ?_
 exact aC.bind e.ok (mX (e.le _ _ h) (.loop (hr.set _ j hj))) λjD _ _ e2 _=>aB (.bool _)
def U3 {S:jK}{π:Ren}(ok:Ren.Ok P π){l l':Nat}(h:π l l'):aC P S (λ_ x y=>y=x/\ ∀k,x=ae k->S.code k) (Instr.endLoop l) π (Instr.endLoop l'):=by
 unfold Instr.endLoop;refine aC.bind ok (tX ok h) λfH r r' e hr=> ?_
 rw[hr.state];have tl:aC P S (λ_ x y=>y=x/\ ∀k,x=ae k->S.code k) (do setObj l (.loop {r with state:=.exhausted});pure r.pending) fH (do setObj l' (.loop {r' with state:=.exhausted});pure r'.pending):=aC.bind e.ok (mX (e.le _ _ h) (.loop (hr.JK .exhausted))) λjD _ _ e2 _=>aB ⟨hr.pending,hr.okP⟩
 cases r.state<;>first|exact tl|exact aC.bind (Q:=λ_ _ _=>False) e.ok (jR e.ok _) λ_ _ _ _ h=>h.elim
def wM {S:jK}{π:Ren}(ok:Ren.Ok P π){r r':Nat}(h:π r r'):aC P S (λ_ x y=>x=[]/\y=[]) (Instr.takeDeferred r) π (Instr.takeDeferred r'):=by
 unfold Instr.takeDeferred;refine aC.bind ok (ju h) λfH o o' e ho=> ?_
 cases ho with
 |deferred b=>
  cases b with
  |false=>exact rfl
  |true=>exact aC.bind e.ok (mX (e.le _ _ h) (.deferred ay)) λjD _ _ e2 _=>aB ⟨rfl,rfl⟩
 |_=>exact rfl
def Bi (h:c.bad=[])(F:Func):F.results.toList.all (sn c.bad)=aw:=List.all_eq_true.2 λr _=>by rw[h];cases r<;>rfl
def ab0 {S:jK}{α:Type}{f f':α->Sem ao}{π:Ren}(ok:Ren.Ok P π)(x:Array α)(hf: ∀a∈x.toList,∀bQ,Ext P π bQ->aC P S (VQ S) (f a) bQ (f' a)):aC P S (VsQ S) (x.mapM f) π (x.mapM f'):=by
 rw[Array.mapM_eq_mapM_toList,Array.mapM_eq_mapM_toList];have key: ∀(l:List α) (fH:Ren),(∀a∈l,∀bQ,Ext P π bQ->aC P S (VQ S) (f a) bQ (f' a))->Ext P π fH->aC P S (λπ a b=>du (bx S π) a b) (l.mapM f) fH (l.mapM f'):=by
  intro l
  induction l with
  |nil=>intro fH _ e;rw[List.mapM_nil,List.mapM_nil];exact aB .nil
  |cons a l ih=>intro fH hl e;rw[List.mapM_cons,List.mapM_cons];exact aC.bind e.ok (hl a (by simp) fH e) λjD b b' e1 h=>aC.bind e1.ok (ih jD (λa ha=>hl a (by simp[ha])) (e.trans e1)) λll c c' e2 hc=>aB (.cons (h.mono e2) hc)
 exact aC.bind ok (key _ π hf (Ext.refl ok)) λfH b b' e1 h=>aB (je.SQ h)
def yJ {π:Ren}(ok:Ren.Ok P π)(F:Func)(hF:F.results.toList.all (sn c.bad)=aw){t t':Array ao}(h:s9 c π t t'):aC P c.sig (VQ c.sig) (results F t) π (results F t'):=by
 unfold results;refine aC.bind ok (ab0 ok _ (λa ha bQ e=> ?_)) λfH vs vs' e1 hv=> ?_
 ·have hr:=List.all_eq_true.1 hF a ha;cases a with
  |tmp t=>exact aB ((h.mono e).getD (by simpa[sn]using hr))
  |cell a t=>exact aC.bind e.ok (N4 e.ok ((h.mono e).getD (by simpa[sn]using hr))) λjD x y e2 rB=>Ju e2.ok t rB
 ·by_cases h1:vs.size=1
  ·have h2:vs'.size=1:=hv.size▸h1;rw[dif_pos h1,dif_pos h2];exact aB (hv.at_ 0 _ _ (aX _) (aX _))
  ·have h2: ¬vs'.size=1:=hv.size▸h1;rw[dif_neg h1,dif_neg h2];exact aB (.tuple hv.size hv.at_)
def PZ {π:Ren}(ks:KOk kL kR)(i:Nat): ∀{k k':List Item},L9 c kL kR π k k'->(exitTo i k=ai/\(kL=[]->exitTo i k'=ai))\/ ∃r r',exitTo i k=ae r/\exitTo i k'=ae r'/\L9 c kL kR π r r':=by
 intro k k' h
 induction h with
 |nil=>exact .inl ⟨ks.ex i,λe=>by rw[ks.kk e];rfl⟩
 |cons hi hk ih=>
  cases hi with
  |inBlock j=>
   unfold exitTo
   split
   ·exact .inr ⟨_,_,rfl,rfl,hk⟩
   ·exact ih
  |_=>exact ih
def O6 {π:Ren}(ops:Array Oper){t t':Array ao}(h:s9 c π t t')(j:Nat):yielded ops t' j=yielded ops t j:=by
 unfold yielded;cases((ops[j]?).bind (·.dst))with
 |none=>rfl
 |some d=>
  simp only[Option.bind_some];rcases ec d t.size with bJ|wq
  ·have C0:d<t'.size:=h.size▸bJ;rw[aX bJ,aX C0];rcases h.at_ d _ _ (aX bJ) (aX C0)with hv|⟨_,he,_⟩
   ·revert hv;generalize t[d]=u;generalize t'[d]=v;intro hv;cases hv<;>rfl
   ·rw[he]
  ·rw[iH wq,iH (h.size▸wq)]
end
section
variable {P:aS} {c:gj} {kL kR:List Item}
def z7 (h:c.bad=[])(o:Oper):C6 c o=ay:=by
 unfold C6;have hb: ∀t,c.bad.contains t=ay:=λt=>by rw[h];rfl
 split<;>simp only[hb,Bool.false_and]
 split
 ·simp only[Bool.true_and]
  split<;>rfl
 ·simp
def QI (h:c.bad=[])(f:bK): ∀(l:List cG) (j:Nat),lF c f j l=lF c.cl f j l:=by
 intro l
 induction l with
 |nil=>intro j;rfl
 |cons x l ih=>
  intro j;unfold lF;rw[ih];congr 1;cases x with
  |tmp t=>simp[vp,eC,gj.cl,h]
  |_=>rfl
def QJ (h:c.bad=[])(o:Oper):kp c o=kp c.cl o:=by
 have hd:eC c=eC c.cl:=funext λx=>by cases x<;>simp[eC,gj.cl,h]
 have ha:=λf=>QI h f
 have hk:pS c=pS c.cl:=funext λk=>by
  unfold pS;rw[hd];simp only[ha]
  rfl
 unfold kp;rw[z7 h,z7 (c:=c.cl) rfl];congr 1;unfold qy;rw[hd,hk]
 rfl
def ER (h:c.bad=[]): ∀x:Code,dq c x=dq c.cl x:=by
 have hd:eC c=eC c.cl:=funext λx=>by cases x<;>simp[eC,gj.cl,h]
 have ho:kp c=kp c.cl:=funext λo=>QJ h o
 intro x
 induction x with
 |region id ops d=>simp only[dq,ho]
 |seq a b Nr Ns=>simp only[dq,Nr,Ns]
 |cond o a b Nr Ns=>simp only[dq,Nr,Ns,hd]
 |block i b ih=>simp only[dq,ih]
 |loop b ih=>simp only[dq,ih]
 |scope b ih=>simp only[dq,ih]
 |rangeFunc f p a b Nr Ns=>simp only[dq,Nr,Ns,hd,h];rfl
 |_=>rfl
def wB (P:aS)(m:Bool)(fr:bp)(cl:List bp)(j:Option Code)(w:ah):GStep:=
 match fr.roundOf with
 |none=>if j matches ai|some .ret then .go (jW {fr with mode:=.returning} cl) w else .ended (.stuck "exit, goto: no such block or label" (fr.pos P)) w
 |some l=>phase P fr.fn (Instr.endRound l j) (λv w=>doReturn P m fr cl ai v w) (λ_ w=>.ended (.stuck "range over a function: no such loop" (fr.pos P)) w) w
def uD {π:Ren}{L R:ah}(hw:cz P c.sig π L R){a b:bp}(h:sV c kL kR π a b){x y:bp}{l r:List bp}{v v':ao}(hv:bx c.sig π v v')(m m':Bool){ro:Option Nat×bK}(eb:ro.1≠ai):nE P c kL kR π L R (x::l) (y::r) ro (doReturn P m a (x::l) ai v L) (doReturn P m' b (y::r) ai v' R):=by
 have e1:doReturn P m a (x::l) ai v L=.go (jW (x.finish v) l) L:=by unfold doReturn;simp only[h.kind]
 have e2:doReturn P m' b (y::r) ai v' R=.go (jW (y.finish v') r) R:=by unfold doReturn;simp only[h.xZ]
 rw[e1,e2];exact .inr (.inr ⟨_,_,_,rfl,ax _,rfl,λ_=>⟨π,_,_,_,Ext.refl hw.ok,rfl,.pop eb rfl rfl hv,hw,y7.refl _ _ _,rfl,by simp⟩⟩)
def Bb {π:Ren}{L R:ah}(hw:cz P c.sig π L R){a b:bp}(h:sV c kL kR π a b){cl cr:List bp}(AZ:a.roundOf≠ai-> ∃x l y m,cl=x::l/\cr=y::m)(m m':Bool)(j:Option Code)(hj: ∀x,j=ae x->dq c.cl x=aw):nE P c kL kR π L R cl cr (wh a) (wB P m a cl j L) (wB P m' b cr j R):=by
 obtain⟨fn,tmps,todo,defers,mode,kind,round⟩:=a;obtain⟨fn',og,OX,iW,SO,xZ,lZ⟩:=b;have h9:=h.round;simp only at h9;cases h9 with
 |none=>
  have main:nE P c kL kR π L R cl cr (ai,fn) (.go (jW {fn,tmps,todo,defers,mode:=.returning,kind,roundOf:=ai} cl) L) (.go (jW {fn:=fn',tmps:=og,todo:=OX,defers:=iW,mode:=.returning,kind:=xZ,roundOf:=ai} cr) R):=nE.here hw ⟨h.fn,h.tmps,h.todo,h.defers,rfl,.inr rfl,h.kind,h.xZ,.none,h.ks,λh=>absurd rfl h⟩ rfl
  cases j with
  |none=>exact main
  |some x=>cases x<;>first|exact main|exact .inl ⟨_,_,_,rfl⟩
 |some hl=>obtain⟨x,l,y,r,rfl,rfl⟩:=AZ (by simp);exact tT (QU hw.ok hl j hj) hw (λbQ v v' L' R' e hv jY=>uD jY (h.mono e) hv m m' (by simp)) (λ_ _ _ _ _ _ _=>.inl ⟨_,_,_,rfl⟩)
def MK (m:Bool)(fr:bp)(cl:List bp)(w:ah)(h:fr.todo=[]):ji P m aw fr cl ai w=wB P m fr cl ai w:=by
 obtain⟨fn,tmps,todo,defers,mode,kind,round⟩:=fr;simp only at h;subst h;cases round with
 |none=>rfl
 |some l=>
  unfold ji wB phase;simp only;cases(Instr.endRound l ai).runT P w #[]with
  |mk r es=>cases r<;>rfl
def MM (m:Bool)(fr:bp)(cl:List bp)(w:ah)(k:List Item)(h:fr.todo=.code .ret::k):ji P m aw fr cl ai w=wB P m fr cl (ae .ret) w:=by
 obtain⟨fn,tmps,todo,defers,mode,kind,round⟩:=fr;simp only at h;subst h;cases round with
 |none=>rfl
 |some l=>
  unfold ji wB phase;simp only;cases(Instr.endRound l (ae .ret)).runT P w #[]with
  |mk r es=>cases r<;>rfl
def Ix (m:Bool)(fr:bp)(cl:List bp)(w:ah)(i:Nat)(k:List Item)(h:fr.todo=.code (.exit i)::k):ji P m aw fr cl ai w=(exitTo i k).elim (wB P m fr cl (ae (.exit i)) w) λk=>.go (jW {fr with todo:=k} cl) w:=by
 obtain⟨fn,tmps,todo,defers,mode,kind,round⟩:=fr;simp only at h;subst h;cases round with
 |none=>rfl
 |some l=>
  unfold ji wB phase;simp only;cases exitTo i k with
  |some k=>rfl
  |none=>
   simp only[Option.elim_none];cases(Instr.endRound l (ae (.exit i))).runT P w #[]with
   |mk r es=>cases r<;>rfl
def MJ (m:Bool)(fr:bp)(cl:List bp)(w:ah)(l:Nat)(k:List Item)(h:fr.todo=.endRangeFunc l::k):ji P m aw fr cl ai w=phase P fr.fn (Instr.endLoop l) (λjump w=>.go (jW {fr with todo:=(jump.map Item.code).toList++k} cl) w) (λx w=>match x with
        | .panic v=>.go (jW (fr.raise [{v,recovered:=false}]) cl) w
        |_=>.ended (.stuck "range over a function: no such loop" (fr.pos P)) w) w:=by
 obtain⟨fn,tmps,todo,defers,mode,kind,round⟩:=fr;simp only at h;subst h;unfold ji phase;simp only;cases(Instr.endLoop l).runT P w #[]with
 |mk r es=>
  cases r with
  |ok _ _=>rfl
  |halt x _=>cases x<;>rfl
def Sd (m:Bool)(fr:bp)(cl:List bp)(w:ah)(f:cG)(ps:Array Tmp)(x y:Code)(k:List Item)(h:fr.todo=.code (.rangeFunc f ps x y)::k):ji P m aw fr cl ai w=phase P fr.fn (Instr.enterLoop fr.fn fr.tmps ps x y fr.roundOf) (λlm w=>fe P aw {fr with todo:=.inRangeFunc lm.1::k,defers:=lm.2++fr.defers} cl ai (do let d<-resolve (Frame.eval {fr with todo:=.inRangeFunc lm.1::k,defers:=lm.2++fr.defers}) {callee:=.value f,args:= #[.const (.func (.yield lm.1) #[] #[])],argTypes:= #[]} 0;invoke d.target d.args) w) (λ_ w=>.ended (.stuck "range over a function: no such loop" (fr.pos P)) w) w:=by
 obtain⟨fn,tmps,todo,defers,mode,kind,round⟩:=fr;simp only at h;subst h;unfold ji phase;simp only;cases(Instr.enterLoop fn tmps ps x y round).runT P w #[]with
 |mk r es=>
  cases r with
  |ok _ _=>rfl
  |halt x _=>rfl
def Ff (fr:bp)(f:cG)(v:ao):resolve fr.eval {callee:=.value f,args:= #[.const v],argTypes:= #[]} 0=ic (fr.eval f) #[v]:=by simp[resolve,Frame.eval]
def ML (hc:c.Fits P){π:Ren}{L R:ah}(hw:cz P c.sig π L R){a b:bp}(h:sV c kL kR π a b){cl cr:List bp}(AZ:a.roundOf≠ai-> ∃x l y m,cl=x::l/\cr=y::m)(hm:a.mode=.run)(Uq:a.todo=kL->kL=[])(m m':Bool):nE P c kL kR π L R cl cr (wh a) (ji P m aw a cl ai L) (ji P m' aw b cr ai R):=by
 have hEv:=h.acW;have hEB:=h.evB;obtain⟨fn,tmps,todo,defers,mode,kind,round⟩:=a;obtain⟨fn',og,OX,iW,SO,xZ,lZ⟩:=b;have h':=h;obtain⟨h1,h2,h3,h4,h5,h6,h7,h8,h9,sW,y5⟩:=h';simp only at h1 h2 h3 h4 h5 h6 h7 h8 h9 hm Uq y5;subst hm;subst h5;subst h7;subst h8;have h1:=h1.symm;subst h1;have to: ∀{k k':List Item},L9 c kL kR π k k'->nE P c kL kR π L R cl cr (round,fn)
  (.go (jW {fn,tmps,todo:=k,defers,mode:=.run,kind:=.normal,roundOf:=round} cl) L)
  (.go (jW {fn,tmps:=og,todo:=k',defers:=iW,mode:=.run,kind:=.normal,roundOf:=lZ} cr) R):=λhk=>
  nE.here hw ⟨rfl,h2,hk,h4,rfl,.inl rfl,rfl,rfl,h9,sW,y5⟩ rfl
 cases h3 with
 |nil=>have hkL:=Uq rfl;have hkR:=sW.kk hkL;rw[MK m _ cl L hkL,MK m' _ cr R hkR];exact Bb hw h AZ m m' ai (λ_ h=>by cases h)
 |cons hi hk=>
  rename_i k k'
  cases hi with
  |inBlock i=>exact to hk
  |inScope h=>exact to hk
  |inLoop hb=>exact to (.cons (.code hb) (.cons (.inLoop hb) hk))
  |inRangeFunc _ hl=>exact .inl ⟨_,_,_,rfl⟩
  |beginRound=>
   refine AF hc hw h cl cr (Q:=NQ c) ?_ λ_ _ _ _ h=>.inl h
   show aC P c.sig (NQ c) (do round.elim (stuck "beginRound: no round") Instr.beginRound;pure .skip) π (do lZ.elim (stuck "beginRound: no round") Instr.beginRound;pure .skip);cases h9 with
   |none=>exact rfl
   |some hl=>exact Q5 hw.ok (K3 hw.ok hl)
  |endRangeFunc hb hl=>
   rename_i l l'
   rw[MJ m _ cl L l k rfl,MJ m' _ cr R l' k' rfl];refine tT (U3 hw.ok hl) hw (λbQ x y L' R' e rB jY=> ?_) (λx L' bQ R' _ e jY=> ?_)
   ·obtain⟨rfl,hx⟩:=rB;refine nE.here jY ⟨rfl,h2.mono e,?_,nh.list e h4,rfl,.inl rfl,rfl,rfl,gN.ren e h9,sW,y5⟩ rfl;cases y with
    |none=>exact hk.mono e
    |some j=>exact .cons (.code (by have:=hx j rfl;rwa[show c.sig.code j=(dq c.cl j=aw)from rfl,<-ER hb]at this)) (hk.mono e)
   ·cases x with
    |panic v=>exact .inr ⟨_,_,L',_,bQ,R',iW,rfl,rfl,jY,nh.list e h4,e⟩
    |_=>exact .inl ⟨_,_,_,rfl⟩
  |inRegion l ho=>
   rename_i ops
   cases l with
   |nil=>exact to hk
   |cons i rest=>
    have aim:yielded ops og=yielded ops tmps:=funext λj=>O6 ops h2 j
    have r9:=h.finish (v:=undef) (v':=undef) (.tuple rfl (by simp));have e1:ji P m aw {fn,tmps,todo:=.inRegion ops (i::rest)::k,defers,mode:=.run,kind:=.normal,roundOf:=round} cl ai L=
     if((ops[i]?).map (bu · (yielded ops tmps))).getD ay then stepG.oper P aw {fn,tmps,todo:=.inRegion ops (i::rest)::k,defers,mode:=.run,kind:=.normal,roundOf:=round} cl ai L
     else .go (jW (Frame.finish {fn,tmps,todo:=.inRegion ops (i::rest)::k,defers,mode:=.run,kind:=.normal,roundOf:=round} undef) cl) L:=rfl
    have e2:ji P m' aw {fn,tmps:=og,todo:=.inRegion ops (i::rest)::k',defers:=iW,mode:=.run,kind:=.normal,roundOf:=lZ} cr ai R=
     if((ops[i]?).map (bu · (yielded ops og))).getD ay then stepG.oper P aw {fn,tmps:=og,todo:=.inRegion ops (i::rest)::k',defers:=iW,mode:=.run,kind:=.normal,roundOf:=lZ} cr ai R
     else .go (jW (Frame.finish {fn,tmps:=og,todo:=.inRegion ops (i::rest)::k',defers:=iW,mode:=.run,kind:=.normal,roundOf:=lZ} undef) cr) R:=rfl
    rw[e1,e2,aim]
    split
    ·unfold stepG.oper;have o1:Frame.oper? {fn,tmps,todo:=.inRegion ops (i::rest)::k,defers,mode:=.run,kind:=.normal,roundOf:=round}=ops[i]?:=rfl;have o2:Frame.oper? {fn,tmps:=og,todo:=.inRegion ops (i::rest)::k',defers:=iW,mode:=.run,kind:=.normal,roundOf:=lZ}=ops[i]?:=rfl;rw[o1,o2];cases hoi:ops[i]? with
     |none=>exact .inl ⟨_,_,_,rfl⟩
     |some o=>
      obtain⟨bJ,AX⟩:=aI.1 hoi;have rY:kp c o=aw:=by have:=eY.1 ho i bJ;rwa[AX]at this
      have main:=AF hc hw h cl cr (ZF hc hw.ok hEv hEB o rY) λbQ n n' e hq=>hq.imp id λ⟨v,d,e1,e2,e3,e4,e5⟩=>⟨v,e1,e2,λh=>h.aa7 rfl hoi e3 e4 e5⟩
      simp only;cases hop:o.op with
      |defer k=>unfold kp qy C6 at rY;rw[hop]at rY;cases rY
      |_=>cases h9<;>exact main
    ·exact nE.here hw r9.1 r9.2
  |code hx=>
   rename_i x
   cases x with
   |skip=>exact to hk
   |label l=>cases hx
   |goto l=>cases hx
   |refuse w=>cases hx
   |ret=>rw[MM m _ cl L k rfl,MM m' _ cr R k' rfl];exact Bb hw h AZ m m' (ae .ret) (λ_ h=>by cases h;rfl)
   |seq x y=>simp only[dq,aG]at hx;exact to (.cons (.code hx.1) (.cons (.code hx.2) hk))
   |cond o x y=>
    simp only[dq,aG]at hx;have hv:=hEv o hx.1.1;have e1:ji P m aw {fn,tmps,todo:=.code (.cond o x y)::k,defers,mode:=.run,kind:=.normal,roundOf:=round} cl ai L=
     match Frame.eval {fn,tmps,todo:=.code (.cond o x y)::k,defers,mode:=.run,kind:=.normal,roundOf:=round} o with
     | .bool b=>.go (jW {fn,tmps,todo:=.code (if b then x else y)::k,defers,mode:=.run,kind:=.normal,roundOf:=round} cl) L
     |_=>.ended (.stuck "cond: bool expected" (Frame.pos P {fn,tmps,todo:=.code (.cond o x y)::k,defers,mode:=.run,kind:=.normal,roundOf:=round})) L:=rfl
    have e2:ji P m' aw {fn,tmps:=og,todo:=.code (.cond o x y)::k',defers:=iW,mode:=.run,kind:=.normal,roundOf:=lZ} cr ai R=
     match Frame.eval {fn,tmps:=og,todo:=.code (.cond o x y)::k',defers:=iW,mode:=.run,kind:=.normal,roundOf:=lZ} o with
     | .bool b=>.go (jW {fn,tmps:=og,todo:=.code (if b then x else y)::k',defers:=iW,mode:=.run,kind:=.normal,roundOf:=lZ} cr) R
     |_=>.ended (.stuck "cond: bool expected" (Frame.pos P {fn,tmps:=og,todo:=.code (.cond o x y)::k',defers:=iW,mode:=.run,kind:=.normal,roundOf:=lZ})) R:=rfl
    rw[e1,e2];revert hv;generalize Frame.eval {fn,tmps,todo:=.code (.cond o x y)::k,defers,mode:=.run,kind:=.normal,roundOf:=round} o=v;generalize Frame.eval {fn,tmps:=og,todo:=.code (.cond o x y)::k',defers:=iW,mode:=.run,kind:=.normal,roundOf:=lZ} o=v';intro hv;cases hv with
    |bool b=>cases b<;>first|exact to (.cons (.code hx.2) hk)|exact to (.cons (.code hx.1.2) hk)
    |_=>exact .inl ⟨_,_,_,rfl⟩
   |block i x=>exact to (.cons (.code hx) (.cons (.inBlock i) hk))
   |loop x=>exact to (.cons (.code hx) (.cons (.inLoop hx) hk))
   |scope x=>exact to (.cons (.code hx) (.cons (.inScope hx) hk))
   |exit i=>
    rw[Ix m _ cl L i k rfl,Ix m' _ cr R i k' rfl];rcases PZ sW i hk with⟨he,LP⟩|⟨r,r',he,LP,hk2⟩
    ·by_cases hr:round=ai
     ·subst hr;refine .inl ?_;rw[he];exact⟨_,_,_,rfl⟩
     ·rw[he,LP (y5 hr)];exact Bb hw h AZ m m' (ae (.exit i)) (λ_ h=>by cases h;rfl)
    ·rw[he,LP];exact to hk2
   |region id ops draw=>
    cases draw with
    |false=>exact to (.cons (.inRegion _ hx) hk)
    |true=>refine .inr (.inr ⟨jW {fn,tmps,todo:=.inRegion ops (Region.schedule (P.follows .mixedOrders) ops (L.tape L.drawn (.order fn id)))::k,defers,mode:=.run,kind:=.normal,roundOf:=round} cl,{L with drawn:=L.drawn+1},_,rfl,by simp,rfl,λag=> ?_⟩);have ag0:=ag 0 (.order fn id) (by simp);simp only[lC]at ag0;refine⟨π,jW {fn,tmps:=og,todo:=.inRegion ops (Region.schedule (P.follows .mixedOrders) ops (R.tape R.drawn (.order fn id)))::k',defers:=iW,mode:=.run,kind:=.normal,roundOf:=lZ} cr,{R with drawn:=R.drawn+1},_,Ext.refl hw.ok,rfl,?_,⟨hw.ok,hw.obj,hw.oE,hw.uB,hw.old⟩,⟨rfl,rfl,rfl,rfl,rfl,ax _,ax _,dA _ _▸rfl,λ_ _ _=>rfl,λ_ _ _=>rfl,λ_ _ h=>.inl h,λl h1 h2=>by simp only at h2;omega,λ_ _ h=>h⟩,by simp;omega,by simp⟩;rw[ag0];exact .stay ⟨rfl,h2,.cons (.inRegion _ hx) hk,h4,rfl,.inl rfl,rfl,rfl,h9,sW,y5⟩ rfl
   |rangeFunc f ps x y=>
    simp only[dq,aG]at hx;have hb:c.bad=[]:=by simpa using hx.1.1.1
    have h2v:=h2.vs hb;have hcx: ∀z,dq c z=aw->dq c.cl z=aw:=λz hz=>by rw[<-ER hb];exact hz
    rw[Sd m _ cl L f ps x y k rfl,Sd m' _ cr R f ps x y k' rfl];refine tT (N5 hw.ok fn h2v ps (hcx _ hx.1.2) (hcx _ hx.2) h9) hw (λbQ lm lm' L' R' e Qa jY=> ?_) (λ_ _ _ _ _ _ _=>.inl ⟨_,_,_,rfl⟩);have hf:sV c kL kR bQ {fn,tmps,todo:=.inRangeFunc lm.1::k,defers:=lm.2++defers,mode:=.run,kind:=.normal,roundOf:=round} {fn,tmps:=og,todo:=.inRangeFunc lm'.1::k',defers:=lm'.2++iW,mode:=.run,kind:=.normal,roundOf:=lZ}:=by
     refine⟨rfl,h2.mono e,.cons (.inRangeFunc hb Qa.1) (hk.mono e),?_,rfl,.inl rfl,rfl,rfl,gN.ren e h9,sW,y5⟩;have hd:=nh.list e h4;have hl:=Qa.2;clear Qa AZ;show du (nh bQ) (lm.2++defers) (lm'.2++iW);generalize lm.2=u at hl;generalize lm'.2=u' at hl
     induction hl with
     |nil=>exact hd
     |cons x _ ih=>exact .cons x ih
    refine AF hc jY hf cl cr (Q:=NQ c) ?_ λ_ _ _ _ h=>.inl h
    rw[Ff,Ff];exact Cx hc jY.ok (hf.acW f hx.1.1.2) (a:= #[.func (.yield lm.1) #[] #[]]) (a':= #[.func (.yield lm'.1) #[] #[]]) ⟨rfl,λi u v hu hv=>by
     match i,hu,hv with
     |0,hu,hv=>simp at hu hv;subst hu;subst hv;exact .func (.yield Qa.1) rfl (by simp) rfl (by simp)
     |i+1,hu,_=>simp at hu⟩
end
section
variable {P:aS} {c:gj} {kL kR:List Item}
def wX (m:Bool)(fr:bp)(cl:List bp)(w:ah)(r:Nat)(x:Array ao)(ds:List Deferred)(h:fr.defers={target:=.collected r,args:=x}::ds):unwind P m fr cl ai w=phase P fr.fn (Instr.takeDeferred r) (λcalls w=>.go (jW {fr with defers:=calls++ds} cl) w) (λ_ w=>.ended (.stuck "the deferred calls of a range-over-func loop have been taken" (fr.pos P)) w) w:=by
 obtain⟨fn,tmps,todo,defers,mode,kind,round⟩:=fr;simp only at h;subst h;unfold unwind phase;simp only;cases(Instr.takeDeferred r).runT P w #[]with
 |mk r es=>cases r<;>rfl
def oO (m:Bool)(fr:bp)(cl:List bp)(w:ah)(h:fr.defers=[])(hm:fr.mode=.returning):unwind P m fr cl ai w=match P.funcs[fr.fn]? with
                                                                                                          |none=>doReturn P m fr cl ai (fr.tmps.getD 0 undef) w
                                                                                                          |some F=>phase P fr.fn (results F fr.tmps) (λv w=>doReturn P m fr cl ai v w)
                                                                                                           (λx w=>match x with
                                                                                                             | .stuck s=>.ended (.stuck s (fr.pos P)) w
                                                                                                             |_=>.ended (.stuck "return: the result variables cannot be read" (fr.pos P)) w) w:=by
 obtain⟨fn,tmps,todo,defers,mode,kind,round⟩:=fr;simp only at h hm;subst h;subst hm;unfold unwind;simp only;cases P.funcs[fn]? with
 |none=>rfl
 |some F=>
  unfold phase;simp only;cases(results F tmps).runT P w #[]with
  |mk r es=>
   cases r with
   |ok _ _=>rfl
   |halt x _=>cases x<;>rfl
def My {π:Ren}{L R:ah}(hw:cz P c.sig π L R){a b:bp}(h:sV c kL kR π a b)(cl cr:List bp)(m m':Bool)(hd:a.defers≠ []):nE P c kL kR π L R cl cr (wh a) (unwind P m a cl ai L) (unwind P m' b cr ai R):=by
 have h4:=h.defers;revert h4;cases hA:a.defers with
 |nil=>exact absurd hA hd
 |cons d ds=>
  cases hB:b.defers with
  |nil=>intro h;cases h
  |cons d' Wc=>
   intro h4;cases h4 with
   |cons h1 hr=>
    cases h1 with
    |mk hrr=>rw[wX m a cl L _ _ ds hA,wX m' b cr R _ _ Wc hB];refine tT (wM hw.ok hrr) hw (λbQ x y L' R' e rB jY=> ?_) (λ_ _ _ _ _ _ _=>.inl ⟨_,_,_,rfl⟩);obtain⟨rfl,rfl⟩:=rB;have h':=h.mono e;exact nE.here jY ⟨h'.fn,h'.tmps,h'.todo,nh.list e hr,h'.mode,h'.ok,h'.kind,h'.xZ,h'.round,h'.ks,h'.rk⟩ rfl
def aca {a:bp}(tE:c.bad=[]\/ ∃F,P.funcs[a.fn]? =ae F/\F.results.toList.all (sn c.bad)=aw){π:Ren}{L R:ah}(hw:cz P c.sig π L R){b:bp}(h:sV c kL kR π a b){x y:bp}{l r:List bp}(m m':Bool)(hm:a.mode=.returning)(hd:a.defers=[]):nE P c kL kR π L R (x::l) (y::r) (ae 0,a.fn) (unwind P m a (x::l) ai L) (unwind P m' b (y::r) ai R):=by
 have hd':b.defers=[]:=by
  have h4:=h.defers;rw[hd]at h4;revert h4;generalize b.defers=ds;intro h4;cases h4
  rfl
 rw[oO m a _ L hd hm,oO m' b _ R hd' (h.mode.trans hm),h.fn];cases hF:P.funcs[a.fn]? with
 |none=>
  rcases tE with Er|⟨F,zG,_⟩
  ·exact uD hw h (cR.getD (h.tmps.vs Er) 0) m m' (by simp)
  ·rw[hF]at zG;cases zG
 |some F=>
  have hr:F.results.toList.all (sn c.bad)=aw:=by
   rcases tE with Er|⟨F',zG,h⟩
   ·exact Bi Er F
   ·rw[hF]at zG;cases zG;exact h
  refine tT (yJ hw.ok F hr h.tmps) hw (λbQ v v' L' R' e hv jY=>uD jY (h.mono e) hv m m' (by simp)) (λx L' bQ R' _ _ _=>.inl ?_);cases x<;>exact⟨_,_,_,rfl⟩
inductive ur (c:gj) (kL kR:List Item) (bot bot':List bp) (π:Ren):List bp->List bp->Prop
 |one {a b:bp}:sV c kL kR π a b->a.roundOf=ai->ur c kL kR bot bot' π (a::bot) (b::bot')
 |cons {d:gj} {a b:bp} {l m:List bp}:Up c d a.fn->sV d [] [] π a b->ur c kL kR bot bot' π l m->ur c kL kR bot bot' π (a::l) (b::m)
def ur.mono {bot bot':List bp}{π bQ:Ren}(e:Ext P π bQ){l m:List bp}(h:ur c kL kR bot bot' π l m):ur c kL kR bot bot' bQ l m:=by
 induction h with
 |one h hr=>exact .one (h.mono e) hr
 |cons hu h _ ih=>exact .cons hu (h.mono e) ih
def ur.ne {bot bot':List bp}{π:Ren}{l m:List bp}(h:ur c kL kR bot bot' π l m): ∃a l' b m',l=a::l'/\m=b::m':=by cases h<;>exact⟨_,_,_,_,rfl,rfl⟩
def ur.lt {bot bot':List bp}{π:Ren}{l m:List bp}(h:ur c kL kR bot bot' π l m):bot.length<l.length:=by
 induction h with
 |one=>simp
 |cons _ _ _ ih=>simp;omega
structure GR (c:gj) (kL kR:List Item) (bot bot':List bp) (π:Ren) (g g':au):Prop where
 l:g=jW g.frame g.callers
 r:g'=jW g'.frame g'.callers
 stk:ur c kL kR bot bot' π (g.frame::g.callers) (g'.frame::g'.callers)
def aaG (bot:List bp)(g:au):Prop:=g.callers=bot/\g.frame.mode=.returning/\g.frame.defers=[]
def vL (k:List Item)(bot:List bp)(g:au):Prop:=aaG bot g\/(g.callers=bot/\g.frame.mode=.run/\g.frame.todo=k/\k≠ [])
def uc (m:Bool)(a:bp)(cl:List bp)(w:ah)(h:a.mode=.run):stepG P m (jW a cl) w=ji P m aw a cl ai w:=by
 obtain⟨fn,tmps,todo,defers,mode,kind,round⟩:=a;simp only at h;subst h
 rfl
def iY (m:Bool)(a:bp)(cl:List bp)(w:ah)(h:a.mode≠ .run):stepG P m (jW a cl) w=unwind P m a cl ai w:=by
 obtain⟨fn,tmps,todo,defers,mode,kind,round⟩:=a;cases mode with
 |run=>exact absurd rfl h
 |_=>rfl
def W7 (P:aS)(c:gj)(kL kR:List Item)(bot bot':List bp)(π:Ren)(L R:ah)(sL sR:GStep):Prop:=
 ∃gL L' es,sL=.go gL L' es/\L.drawn<=L'.drawn/\L'.tape=L.tape/\(RN L R L'.drawn->
  ∃bQ gR R' ev,Ext P π bQ/\sR=.go gR R' ev/\GR c kL kR bot bot' bQ gL gR/\cz P c.sig bQ L' R'/\y7 π bQ L R L' R'/\R'.drawn+L.drawn=R.drawn+L'.drawn/\ ∀e∈ev,DN c.sig bQ e)
def TI (P:aS)(c:gj)(kL kR:List Item)(bot bot':List bp)(g:au)(w:ah):Prop:= ∃a cl chain π R ds,g=jW a cl/\a.mode=.panicking chain/\cz P c.sig π w R/\du (nh π) a.defers ds/\(cl=bot\/ ∃cl',ur c kL kR bot bot' π cl cl')
def Fy (hc:c.Fits P){bot bot':List bp}{π:Ren}{L R:ah}(hw:cz P c.sig π L R){g g':au}(h:GR c kL kR bot bot' π g g')(hl: ¬vL kL bot g)(m m':Bool):vN (stepG P m g L)\/(∃g2 w2 es,stepG P m g L=.go g2 w2 es/\TI P c kL kR bot bot' g2 w2)\/W7 P c kL kR bot bot' π L R (stepG P m g L) (stepG P m' g' R):=by
 obtain⟨rl,rr,hs⟩:=h;revert hs hl;rw[rl,rr];generalize g.frame=a;generalize g.callers=cl;generalize g'.frame=b;generalize g'.callers=cr;intro hl hs;have EM: ∀{d:gj} {qL qR:List Item} {a b:bp},sV d qL qR π a b->a.mode≠ .run->a.mode=.returning:=λh hr=>h.ok.resolve_left hr
 have lift: ∀{d:gj} {qL qR:List Item} {a b:bp} {cl cr:List bp} {ro:Option Nat×bK} {sL sR:GStep},d.sig=c.sig->nE P d qL qR π L R cl cr ro sL sR->(cl=bot\/ ∃cl',ur c kL kR bot bot' π cl cl')->
  (∀bQ gL gR,Ext P π bQ->Ma d qL qR bQ cl cr ro gL gR->GR c kL kR bot bot' bQ gL gR)->
  vN sL\/(∃g2 w2 es,sL=.go g2 w2 es/\TI P c kL kR bot bot' g2 w2)\/W7 P c kL kR bot bot' π L R sL sR:=by
  intro d _ _ _ _ cl cr ro sL sR YO gI sM hT;unfold nE yp at gI;rw[YO]at gI;rcases gI with h|⟨a,ch,w,es,bQ,R',ds,rfl,h1,h2,h3,h4⟩|⟨gL,L',es,rfl,h1,h2,h3⟩
  ·exact .inl h
  ·exact .inr (.inl ⟨_,_,_,rfl,a,cl,ch,bQ,R',ds,rfl,h1,h2,h3,sM.imp id λ⟨cl',h⟩=>⟨cl',h.mono h4⟩⟩)
  ·refine .inr (.inr ⟨gL,L',es,rfl,h1,h2,λag=> ?_⟩);obtain⟨bQ,gR,R',ev,e,hr,ht,jY,hd,Yn,jJ⟩:=h3 ag;exact⟨bQ,gR,R',ev,e,hr,hT bQ gL gR e ht,jY,hd,Yn,jJ⟩
 cases hs with
 |one jM hr=>
  have hT: ∀bQ gL gR,Ext P π bQ->Ma c kL kR bQ bot bot' (wh a) gL gR->GR c kL kR bot bot' bQ gL gR:=by
   intro bQ gL gR e ht;cases ht with
   |stay h AZ=>exact⟨rfl,rfl,.one h ((congrArg Prod.fst AZ).trans hr)⟩
   |push hu hf h AZ=>exact⟨rfl,rfl,.cons hu hf (.one h ((congrArg Prod.fst AZ).trans hr))⟩
   |pop eb=>exact absurd hr eb
  by_cases hm:a.mode=.run
  ·rw[uc m a _ L hm,uc m' b _ R (jM.mode.trans hm)];exact lift (a:=a) (b:=b) rfl (ML hc hw jM (λh=>absurd hr h) hm (λe=>gH λeb=>hl (.inr ⟨rfl,hm,e,eb⟩)) m m') (.inl rfl) hT
  ·have hm2:=EM jM hm;rw[iY m a _ L hm,iY m' b _ R (by rw[jM.mode];exact hm)];exact lift (a:=a) (b:=b) rfl (My hw jM bot bot' m m' λhd=>hl (.inl ⟨rfl,hm2,hd⟩)) (.inl rfl) hT
 |cons hu jM nH=>
  rename_i d
  have hwd:cz P d.sig π L R:=by rw[hu.sig];exact hw
  have hup: ∀z:bp,z.fn=a.fn->Up c d z.fn:=λz h=>by rw[h];exact hu
  have hT: ∀bQ gL gR,Ext P π bQ->Ma d [] [] bQ cl cr (wh a) gL gR->GR c kL kR bot bot' bQ gL gR:=by
   intro bQ gL gR e ht;have nH:=nH.mono e;cases ht with
   |stay h AZ=>exact⟨rfl,rfl,.cons (hup _ (congrArg Prod.snd AZ)) h nH⟩
   |push YP hf h AZ=>exact⟨rfl,rfl,.cons (hu.up YP) hf (.cons (hup _ (congrArg Prod.snd AZ)) h nH)⟩
   |pop eb h1 h2 hv=>
    subst h1;subst h2;rw[hu.sig]at hv;refine⟨rfl,rfl,?_⟩;cases nH with
    |one hx hr=>have:=hx.finish hv;exact .one this.1 ((congrArg Prod.fst this.2).trans hr)
    |cons YP hx hr=>exact .cons (by rw[show(Frame.finish _ _).fn=_ from congrArg Prod.snd (hx.finish (by rw[YP.sig];exact hv)).2];exact YP) (hx.finish (by rw[YP.sig];exact hv)).1 hr
  obtain⟨x,l,y,r,rfl,rfl⟩:=nH.ne;by_cases hm:a.mode=.run
  ·rw[uc m a _ L hm,uc m' b _ R (jM.mode.trans hm)];exact lift (d:=d) (a:=a) (b:=b) hu.sig (ML (c:=d) (hu.fits hc) hwd jM (λ_=>⟨_,_,_,_,rfl,rfl⟩) hm (λ_=>rfl) m m') (.inr ⟨_,nH⟩) hT
  ·have hm2:=EM jM hm;rw[iY m a _ L hm,iY m' b _ R (by rw[jM.mode];exact hm)];by_cases hd:a.defers=[]
   ·have tE:d.bad=[]\/ ∃F,P.funcs[a.fn]? =ae F/\F.results.toList.all (sn d.bad)=aw:=by
     rcases hu with rfl|⟨rfl,hf⟩
     ·exact .inl rfl
     ·obtain⟨F,_,h1,_,_,_,h2⟩:=hc.fn a.fn hf;exact .inr ⟨F,h1,h2⟩
    refine lift (d:=d) (a:=a) (b:=b) hu.sig (aca (c:=d) tE hwd jM m m' hm2 hd) (.inr ⟨_,nH⟩) ?_;intro bQ gL gR e ht;have nH:=nH.mono e;cases ht with
    |stay h AZ=>exact⟨rfl,rfl,.cons (hup _ (congrArg Prod.snd AZ)) h nH⟩
    |push YP hf h AZ=>exact⟨rfl,rfl,.cons (hu.up YP) hf (.cons (hup _ (congrArg Prod.snd AZ)) h nH)⟩
    |pop eb h1 h2 hv=>
     cases h1;cases h2;rw[hu.sig]at hv;refine⟨rfl,rfl,?_⟩;cases nH with
     |one hx hr=>have:=hx.finish hv;exact .one this.1 ((congrArg Prod.fst this.2).trans hr)
     |cons YP hx hr=>exact .cons (by rw[show(Frame.finish _ _).fn=_ from congrArg Prod.snd (hx.finish (by rw[YP.sig];exact hv)).2];exact YP) (hx.finish (by rw[YP.sig];exact hv)).1 hr
   ·exact lift (d:=d) (a:=a) (b:=b) hu.sig (My (c:=d) hwd jM _ _ m m' hd) (.inr ⟨_,nH⟩) hT
end
def Sub (π:Ren):Prop:= ∀a b,π a b->a=b
def dM.eq {π:Ren}(s:Sub π){a b:Addr}(h:dM π a b):a=b:=by
 obtain⟨x,y,z⟩:=a;obtain⟨x',y',z'⟩:=b;obtain⟨h1,h2,h3⟩:=h;have:=s _ _ h1;simp only at h2 h3 this;subst this;subst h2;subst h3
 rfl
def vS {α:Type}{x y:Array α}(hs:x.size=y.size)(h: ∀(i:Nat) a b,x[i]? =ae a->y[i]? =ae b->a=b):x=y:=by apply Array.ext hs;intro i h1 h2;exact h i _ _ (aX h1) (aX h2)
def V0.eq {S:jK}{π:Ren}(s:Sub π): ∀{a b:Fn},V0 S π a b->a=b
 |_,_,.func _=>rfl
 |_,_,.yield h=>by rw[s _ _ h]
def bx.eq {S:jK}{π:Ren}(s:Sub π){v v':ao}(h:bx S π v v'):v=v':=by
 induction h with
 |pointer h=>rw[h.eq s]
 |slice l c h=>rw[h.eq s]
 |map h=>rw[s _ _ h]
 |func hf s1 _ s2 _ i1 i2=>rw[hf.eq s,vS s1 i1,vS s2 i2]
 |iface t _ ih=>rw[ih]
 |agg s1 _ i=>rw[vS s1 i]
 |tuple s1 _ i=>rw[vS s1 i]
 |_=>rfl
def cR.eq {S:jK}{π:Ren}(s:Sub π){x y:Array ao}(h:cR S π x y):x=y:=vS h.size λi a b ha hb=>(h.at_ i a b ha hb).eq s
def pP.eq {S:jK}{π:Ren}(s:Sub π){a b:MapEntry}(h:pP S π a b):a=b:=by obtain⟨k,v,n⟩:=a;obtain⟨k',v',n'⟩:=b;obtain⟨h1,h2,h3⟩:=h;simp only at h1 h2 h3;rw[h1.eq s,h2.eq s,h3]
def kV.eq {S:jK}{π:Ren}(s:Sub π){o o':Obj}(h:kV S π o o'):o=o':=by
 cases h with
 |loop h=>
  rename_i a b
  obtain⟨a1,a2,a3,a4,a5,a6,a7,a8⟩:=a;obtain⟨b1,b2,b3,b4,b5,b6,b7,b8⟩:=b;obtain⟨h1,h2,_,h3,h4,h5,h6,_,h7,_,h8⟩:=h;simp only at h1 h2 h3 h4 h5 h6 h7 h8;rw[h1,h2,h3,cR.eq s h4,h5,h6,h7,s _ _ h8]
 |number l h=>rw[h.eq s]
 |deferred=>rfl
 |cells t fr h=>rw[cR.eq s h]
 |map k h=>rw[vS h.size λi a b ha hb=>(h.at_ i a b ha hb).eq s]
 |stringIter=>rfl
 |mapIter a b c h=>
  cases h with
  |none=>rfl
  |some h=>rw[s _ _ h]
def du.eq {α:Type}{R:α->α->Prop}(hR: ∀a b,R a b->a=b){l m:List α}(h:du R l m):l=m:=by
 induction h with
 |nil=>rfl
 |cons h _ ih=>rw[hR _ _ h,ih]
def gN.eq {α:Type}{R:α->α->Prop}(hR: ∀a b,R a b->a=b){l m:Option α}(h:gN R l m):l=m:=by
 cases h with
 |none=>rfl
 |some h=>rw[hR _ _ h]
def qO.eq {c:gj}{π:Ren}(s:Sub π): ∀(a b:Item),qO c π a b->a=b
 |_,_,.code _=>rfl
 |_,_,.inBlock _=>rfl
 |_,_,.inLoop _=>rfl
 |_,_,.inScope _=>rfl
 |_,_,.inRegion _ _=>rfl
 |_,_,.inRangeFunc _ h=>by rw[s _ _ h]
 |_,_,.endRangeFunc _ h=>by rw[s _ _ h]
 |_,_,.beginRound=>rfl
def nh.eq {π:Ren}(s:Sub π): ∀(a b:Deferred),nh π a b->a=b|_,_,.mk h=>by rw[s _ _ h]
def s9.eq {c:gj}{π:Ren}(s:Sub π){x y:Array ao}(h:s9 c π x y):x=y:=vS h.size λi a b ha hb=>(h.at_ i a b ha hb).elim (·.eq s) (·.2.1)
def L9.eq {c:gj}{k:List Item}{π:Ren}(s:Sub π){a b:List Item}(h:L9 c k k π a b):a=b:=by
 induction h with
 |nil=>rfl
 |cons h _ ih=>rw[qO.eq s _ _ h,ih]
def sV.eq {c:gj}{k:List Item}{π:Ren}(s:Sub π){a b:bp}(h:sV c k k π a b):a=b:=by obtain⟨fn,tmps,todo,defers,mode,kind,round⟩:=a;obtain⟨fn',og,OX,iW,SO,xZ,lZ⟩:=b;obtain⟨h1,h2,h3,h4,h5,h6,h7,h8,h9,_,_⟩:=h;simp only at h1 h2 h3 h4 h5 h6 h7 h8 h9;rw[h1,s9.eq s h2,L9.eq s h3,du.eq (nh.eq s) h4,h5,h7,h8,gN.eq s h9]
def ur.eq {c:gj}{k:List Item}{bot:List bp}{π:Ren}(s:Sub π){l m:List bp}(h:ur c k k bot bot π l m):l=m:=by
 induction h with
 |one h _=>rw[h.eq s]
 |cons _ h _ ih=>rw[h.eq s,ih]
def GR.eq {c:gj}{k:List Item}{bot:List bp}{π:Ren}(s:Sub π){g g':au}(h:GR c k k bot bot π g g'):g=g':=by obtain⟨h1,h2,h3⟩:=h;rw[h1,h2];have:=h3.eq s;simp only[List.cons.injEq]at this;rw[this.1,this.2]
def dH (w:ah)(t:Nat->Question->Nat)(d:Nat):ah:={w with tape:=t,drawn:=d}
section
variable {P:aS} {c:gj}
def Sub.did {π bQ:Ren}(s:Sub π){L R L' R':ah}(hd:y7 π bQ L R L' R')(hs:L.heap.size=R.heap.size):Sub bQ:=λa b h=>by
 rcases hd.new a b h with x|x
 ·exact s a b x
 ·omega
def BA {S:jK}{π bQ:Ren}(s:Sub π){L R L' R':ah}(hh:R.heap=L.heap)(hw:cz P S bQ L' R')(hd:y7 π bQ L R L' R'):R'.heap=L'.heap:=by
 have hs:L.heap.size=R.heap.size:=by rw[hh]
 have s':=s.did hd hs;have hz:=hd.sizes;apply Array.ext_getElem?;intro i;rcases ec i L'.heap.size with hi|hi
 ·by_cases hr: ∃r,bQ i r
  ·obtain⟨r,hr⟩:=hr;obtain⟨o,o',h1,h2,h3⟩:=hw.obj _ _ hr;obtain rfl:=s' _ _ hr;rw[h1,h2,h3.eq s']
  ·rcases ec i L.heap.size with hl|hl
   ·rw[hd.rest i (by omega) λl hl=>hr ⟨i,by have:=s _ _ hl;subst this;exact hd.le _ _ hl⟩,hd.Oi i hl λr Av=>hr ⟨r,hd.le _ _ Av⟩,hh]
   ·exact absurd (hd.all i hl hi) hr
 ·rw[iH hi,iH (by omega)]
def JE (hc:c.Fits P){k:List Item}{bot:List bp}{π:Ren}(s:Sub π){w:ah}(hw:cz P c.sig π w w){g:au}(h:GR c k k bot bot π g g)(hl: ¬vL k bot g)(t:Nat->Question->Nat)(d:Nat):(vN (stepG P aw g (dH w t d)))\/(∃g2 w2 es,stepG P aw g (dH w t d)=.go g2 w2 es/\TI P c k k bot bot g2 w2)\/ ∃g' w' es bQ,stepG P aw g (dH w t d)=.go g' w' es/\d<=w'.drawn/\w'.tape=t/\Sub bQ/\cz P c.sig bQ w' w'/\GR c k k bot bot bQ g' g'/\ ∀t' d',(∀i q,d+i<w'.drawn->t' (d'+i) q=t (d+i) q)-> ∃lL,stepG P aw g (dH w t' d')=.go g' (dH w' t' (d'+(w'.drawn-d))) lL:=by
 have hwt: ∀t d t' d',cz P c.sig π (dH w t d) (dH w t' d'):=λt d t' d'=>⟨hw.ok,hw.obj,hw.oE,hw.uB,hw.old⟩
 rcases Fy hc (hwt t d t d) h hl aw aw with h1|h1|⟨g',w',es,hgo,Pg,ht1,hA⟩
 ·exact .inl h1
 ·exact .inr (.inl h1)
 ·obtain⟨bQ,gR,R',ev,e,hr,hg,jY,hd,Yn,_⟩:=hA (λ_ _ _=>rfl);rw[hgo]at hr;cases hr;refine .inr (.inr ⟨g',w',es,bQ,hgo,Pg,ht1,s.did hd rfl,jY,hg,λt' d' ag=> ?_⟩);rcases Fy hc (hwt t d t' d') h hl aw aw with⟨_,_,_,h1⟩|⟨_,_,_,h1,h2⟩|⟨g2,w2,es2,Yr,_,_,hA2⟩
  ·rw[hgo]at h1;cases h1
  ·rw[hgo]at h1;cases h1;obtain⟨a,cl,ch,jD,R2,ds,rfl,hm,_⟩:=h2;obtain⟨_,_,gI⟩:=hg;cases gI with
   |one hf _=>rcases hf.ok with x|x<;>rw[hm]at x<;>cases x
   |cons _ hf _=>rcases hf.ok with x|x<;>rw[hm]at x<;>cases x
  ·rw[hgo]at Yr;cases Yr;obtain⟨jD,gR,R',ev,e,hr,M7,Qj,Sx,aiP,_⟩:=hA2 ag;have s2:=s.did Sx rfl;obtain rfl:=M7.eq s2;refine⟨ev,?_⟩;rw[hr];congr 1;have hh:=BA s (L:=dH w t d) (R:=dH w t' d') rfl Qj Sx;have h1:=Sx.tape;have h2:=Sx.os;have h3:=Sx.output;have h4:=Sx.osL;have h5:=Sx.xB;obtain⟨hp,tp,dr,os,out⟩:=R';obtain⟨Nd,tp',dr',os',ai1⟩:=w';simp only[dH]at*;subst hh;subst h1;subst h2;subst h3;rw[h4,h5];congr 1;omega
end
end Rel
abbrev lH:Go.Conc.Lib.WgLink where
 add:=153
 done:=156
 wait:=106
 relMerge:=203
 disable:=157
 enable:=159
 inBubble:=165
 associate:=204
 fatal:=205
 uOr:=206
 uAdd:=207
 raceRead:=208
 uLoad:=158
 uStore:=209
 disassociate:=163
 semrelease:=210
 acquire:=160
 isAssociated:=161
 uCas:=162
 raceWrite:=164
 semacquire:=166
 orU64:=235
 addU64:=236
 loadU64:=211
 storeU64:=237
 casU64:=212
 tWgP:=232
 tUP:=235
 tAssoc:=270
 tWg:=189
 tAU:=186
 tU64:=184
 tUint:=230
 tU32:=187
 tPU32:=239
 tPAU:=276
 tPU64:=278
 tNoCopy:=181
 tANoCopy:=182
 tAlign64:=183
def aal:Go.Conc.Lib.WgLib aj lH where
 f_add:=Tryz.func153
 f_done:=Tryz.func156
 f_wait:=Tryz.func106
 f_relMerge:=Tryz.func203
 f_disable:=Tryz.func157
 f_enable:=Tryz.func159
 f_inBubble:=Tryz.func165
 f_associate:=Tryz.func204
 f_fatal:=Tryz.func205
 f_uOr:=Tryz.func206
 f_uAdd:=Tryz.func207
 f_raceRead:=Tryz.func208
 f_uLoad:=Tryz.func158
 f_uStore:=Tryz.func209
 f_disassociate:=Tryz.func163
 f_semrelease:=Tryz.func210
 f_acquire:=Tryz.func160
 f_isAssociated:=Tryz.func161
 f_uCas:=Tryz.func162
 f_raceWrite:=Tryz.func164
 f_semacquire:=Tryz.func166
 f_orU64:=Tryz.func235
 f_addU64:=Tryz.func236
 f_loadU64:=Tryz.func211
 f_storeU64:=Tryz.func237
 f_casU64:=Tryz.func212
 underlying_tWgP:=Tryz.underlying232
 runUnderlying_tWgP:=Tryz.runUnderlying232
 sizeOf_tWgP:=Tryz.sizeOf232
 isAgg_tWgP:=Tryz.isAgg232
 zeroValue_tWgP:=Tryz.zeroValue232
 underlying_tUP:=Tryz.underlying235
 runUnderlying_tUP:=Tryz.runUnderlying235
 sizeOf_tUP:=Tryz.sizeOf235
 isAgg_tUP:=Tryz.isAgg235
 zeroValue_tUP:=Tryz.zeroValue235
 underlying_tI32:=Tryz.underlying270
 runUnderlying_tI32:=Tryz.runUnderlying270
 sizeOf_tI32:=Tryz.sizeOf270
 isAgg_tI32:=Tryz.isAgg270
 zeroValue_tI32:=Tryz.zeroValue270
 underlying_tWg:=Tryz.underlying189
 runUnderlying_tWg:=Tryz.runUnderlying189
 sizeOf_tWg:=Tryz.sizeOf189
 isAgg_tWg:=Tryz.isAgg189
 zeroValue_tWg:=Tryz.zeroValue189
 underlying_tAU:=Tryz.underlying186
 runUnderlying_tAU:=Tryz.runUnderlying186
 sizeOf_tAU:=Tryz.sizeOf186
 isAgg_tAU:=Tryz.isAgg186
 zeroValue_tAU:=Tryz.zeroValue186
 underlying_tU64:=Tryz.underlying184
 runUnderlying_tU64:=Tryz.runUnderlying184
 sizeOf_tU64:=Tryz.sizeOf184
 isAgg_tU64:=Tryz.isAgg184
 zeroValue_tU64:=Tryz.zeroValue184
 underlying_tSh:=Tryz.underlying230
 runUnderlying_tSh:=Tryz.runUnderlying230
 sizeOf_tSh:=Tryz.sizeOf230
 isAgg_tSh:=Tryz.isAgg230
 zeroValue_tSh:=Tryz.zeroValue230
 underlying_tU32:=Tryz.underlying187
 runUnderlying_tU32:=Tryz.runUnderlying187
 sizeOf_tU32:=Tryz.sizeOf187
 isAgg_tU32:=Tryz.isAgg187
 zeroValue_tU32:=Tryz.zeroValue187
 underlying_tPU32:=Tryz.underlying239
 runUnderlying_tPU32:=Tryz.runUnderlying239
 sizeOf_tPU32:=Tryz.sizeOf239
 isAgg_tPU32:=Tryz.isAgg239
 zeroValue_tPU32:=Tryz.zeroValue239
 underlying_tPAU:=Tryz.underlying276
 runUnderlying_tPAU:=Tryz.runUnderlying276
 sizeOf_tPAU:=Tryz.sizeOf276
 isAgg_tPAU:=Tryz.isAgg276
 zeroValue_tPAU:=Tryz.zeroValue276
 underlying_tPU64:=Tryz.underlying278
 runUnderlying_tPU64:=Tryz.runUnderlying278
 sizeOf_tPU64:=Tryz.sizeOf278
 isAgg_tPU64:=Tryz.isAgg278
 zeroValue_tPU64:=Tryz.zeroValue278
 underlying_t0:=Tryz.underlying0
 runUnderlying_t0:=Tryz.runUnderlying0
 sizeOf_t0:=Tryz.sizeOf0
 isAgg_t0:=Tryz.isAgg0
 zeroValue_t0:=Tryz.zeroValue0
 underlying_t3:=Tryz.underlying3
 runUnderlying_t3:=Tryz.runUnderlying3
 sizeOf_t3:=Tryz.sizeOf3
 isAgg_t3:=Tryz.isAgg3
 zeroValue_t3:=Tryz.zeroValue3
 underlying_t4:=Tryz.underlying4
 runUnderlying_t4:=Tryz.runUnderlying4
 sizeOf_t4:=Tryz.sizeOf4
 isAgg_t4:=Tryz.isAgg4
 zeroValue_t4:=Tryz.zeroValue4
 underlying_t9:=Tryz.underlying9
 runUnderlying_t9:=Tryz.runUnderlying9
 sizeOf_t9:=Tryz.sizeOf9
 isAgg_t9:=Tryz.isAgg9
 zeroValue_t9:=Tryz.zeroValue9
 underlying_t20:=Tryz.underlying20
 runUnderlying_t20:=Tryz.runUnderlying20
 sizeOf_t20:=Tryz.sizeOf20
 isAgg_t20:=Tryz.isAgg20
 zeroValue_t20:=Tryz.zeroValue20
 underlying_t21:=Tryz.underlying21
 runUnderlying_t21:=Tryz.runUnderlying21
 sizeOf_t21:=Tryz.sizeOf21
 isAgg_t21:=Tryz.isAgg21
 zeroValue_t21:=Tryz.zeroValue21
 room_tWg:=by kernel_rfl
 room_tU32:=by kernel_rfl
namespace Rel
def fN:bp:={fn:=0,tmps:= #[],todo:=[.code (.refuse "")],defers:=[{target:=.nil,args:= #[]}],mode:=.run,kind:=.normal}
def sent:Item:=.code (.refuse "")
inductive LT (P:aS) (k:List Item) (H:au->ah->Prop):au->ah->Prop
 |stop {g:au} {w:ah}:H g w->LT P k H g w
 |step {g:au} {w:ah} (gs:(Nat->Question->Nat)->Nat->au) (ws:(Nat->Question->Nat)->Nat->ah) (es:(Nat->Question->Nat)->Nat->Array Event): ¬vL k [fN] g->(∀t d,stepG P aw g (dH w t d)=.go (gs t d) (ws t d) (es t d)/\((gs t d).frame.mode=.run\/(gs t d).frame.mode=.returning))->(∀t d,LT P k H (gs t d) (ws t d))->LT P k H g w
def ln (g:au)(w:ah):Machine:=lone g.frame g.callers w
section
variable {P:aS} {c:gj} {kL kR:List Item}
def Dy {g g':au}{w w':ah}{es:Array Event}(h1:g=jW g.frame g.callers)(h2:g'=jW g'.frame g'.callers)(h:stepG P aw g w=.go g' w' es):step P (ln g w)=.next (ln g' w'):=by rw[h1]at h;rw[h2]at h;exact step_lone_go (by rw[h];rfl)
def step_end {g:au}{w:ah}(h1:g=jW g.frame g.callers)(h:vN (stepG P aw g w)): ∃o w',step P (ln g w)=.ended o w':=by obtain⟨o,w',es,h⟩:=h;rw[h1]at h;exact⟨o,w',step_lone_ended (by rw[h];rfl)⟩
def RV (P:aS)(Q:Machine->Prop)(m:Machine):Prop:= ∀n m',runN P n m=.next m'-> ¬Q m'
def Cr {Q:Machine->Prop}{m:Machine}{o:Outcome}{w:ah}(h0: ¬Q m)(h:step P m=.ended o w):RV P Q m:=by
 intro n m2 hn;cases n with
 |zero=>cases hn;exact h0
 |succ n=>simp only[runN,h]at hn;cases hn
def ve (m:Machine):Prop:= ∃fr w,m=lone fr [fN] w/\(fr.mode=.run\/fr.mode=.returning)
def DY {g:au}{w:ah}(h:ve (ln g w)):g.callers=[fN]/\(g.frame.mode=.run\/g.frame.mode=.returning):=by obtain⟨fr,w',h,h1⟩:=h;unfold ln lone at h;simp at h;rw[h.2.1,h.2.2];exact⟨rfl,h1⟩
def PK (chain:List PanicEntry)(w:ah):RV P ve (ln (jW (fN.raise chain) []) w):=by
 have h0: ¬ve (ln (jW (fN.raise chain) []) w):=λh=>by have:=(DY h).1;cases this
 have h1:vN (stepG P aw (jW (fN.raise chain) []) w):=⟨_,_,_,rfl⟩;obtain⟨o,w',h⟩:=step_end rfl h1;exact Cr h0 h
def Rw (m:Bool)(fr x:bp)(l:List bp)(w:ah)(ch:List PanicEntry)(h:fr.defers=[])(hm:fr.mode=.panicking ch):vN (unwind P m fr (x::l) ai w)\/unwind P m fr (x::l) ai w=.go (jW (x.raise ch) l) w:=by
 obtain⟨fn,tmps,todo,defers,mode,kind,round⟩:=fr;simp only at h hm;subst h;subst hm;unfold unwind;simp only
 split
 ·exact .inl ⟨_,_,_,rfl⟩
 ·exact .inr rfl
def UQ {bot':List bp}: ∀{g:au} {w:ah},TI P c kL kR [fN] bot' g w->RV P ve (ln g w):=by
 intro g w h n
 induction n generalizing g w with
 |zero=>intro m' hn hL;cases hn;obtain⟨a,cl,ch,π,R,ds,rfl,hm,_⟩:=h;rcases(DY hL).2 with this|this<;>rw[hm]at this<;>cases this
 |succ n ih=>
  intro m' hn;obtain⟨a,cl,ch,π,R,ds,rfl,hm,hw,hd,gI⟩:=h;have hs:stepG P aw (jW a cl) w=unwind P aw a cl ai w:=iY aw a cl w (by rw[hm];simp);have aa3:vN (unwind P aw a cl ai w)-> ¬ve m':=by intro hE;obtain⟨o,w',h⟩:=step_end (g:=jW a cl) rfl (by rw[hs];exact hE);simp only[runN,h]at hn;cases hn
  have goc: ∀g2 w2 es,g2=jW g2.frame g2.callers->unwind P aw a cl ai w=.go g2 w2 es->runN P n (ln g2 w2)=.next m':=by intro g2 w2 es hg hgo;have h:=Dy (g:=jW a cl) (P:=P) rfl hg (by rw[hs];exact hgo);simp only[runN,h]at hn;exact hn
  cases hA:a.defers with
  |nil=>
   obtain⟨x,l,rfl,hx⟩: ∃x l,cl=x::l/\((x=fN/\l=[])\/(x.defers=[]\/True)/\ ∃Wc,du (nh π) x.defers Wc/\(x.mode=.run\/x.mode=.returning)/\(l=[fN]\/ ∃l',ur c kL kR [fN] bot' π l l')):=by
    rcases gI with rfl|⟨cl',gI⟩
    ·exact⟨_,_,rfl,.inl ⟨rfl,rfl⟩⟩
    ·cases gI with
     |one hf hr=>exact⟨_,_,rfl,.inr ⟨.inr trivial,_,hf.defers,hf.ok,.inl rfl⟩⟩
     |cons _ hf hr=>exact⟨_,_,rfl,.inr ⟨.inr trivial,_,hf.defers,hf.ok,.inr ⟨_,hr⟩⟩⟩
   rcases Rw aw a x l w ch hA hm with hE|hgo
   ·exact aa3 hE
   ·have cT:=goc _ _ _ rfl hgo;rcases hx with⟨rfl,rfl⟩|⟨_,Wc,hd',hmo,hl⟩
    ·exact PK ch w n m' cT
    ·refine ih (g:=jW (x.raise ch) l) ⟨x.raise ch,l,ch,π,R,Wc,rfl,?_,hw,?_,hl⟩ m' cT
     ·unfold Frame.raise;rcases hmo with e|e<;>rw[e]
     ·unfold Frame.raise;rcases hmo with e|e<;>rw[e]<;>exact hd'
  |cons d ds1=>
   rw[hA]at hd;cases hd with
   |cons h1 hr=>
    cases h1 with
    |mk hrr=>
     have hu:=wX (P:=P) aw a cl w _ _ ds1 hA;have cT:=(wM (P:=P) (S:=c.sig) hw.ok hrr).run (R:={R with tape:=w.tape,drawn:=w.drawn}) ⟨hw.ok,hw.obj,hw.oE,hw.uB,hw.old⟩ #[] #[];revert cT hu;unfold phase;cases(Instr.takeDeferred _).runT P w #[]with
     |mk r es=>
      cases r with
      |halt y w'=>intro hu _;exact aa3 (by rw[hu];exact⟨_,_,_,rfl⟩)
      |ok y w'=>rintro hu ⟨_,_,h3⟩;obtain⟨bQ,y',R',ev,e,_,⟨rfl,rfl⟩,jY,_⟩:=h3 (λ_ _ _=>rfl);have cT:=goc _ _ _ rfl hu;exact ih (g:=jW {a with defers:=[]++ds1} cl) ⟨_,cl,ch,bQ,R',_,rfl,hm,jY,nh.list e hr,gI.imp id λ⟨cl',h⟩=>⟨cl',h.mono e⟩⟩ m' cT
end
section
variable {P:aS} {c:gj} {k:List Item}
def acA (w:ah)(t t':Nat->Question->Nat)(d d':Nat):dH (dH w t d) t' d'=dH w t' d':=rfl
def sI {m:Machine}{o:Outcome}{w:ah}(h:step P m=.ended o w)(Q:Machine->Prop): ∀n m',runN P (n+1) m=.next m'-> ¬Q m':=by intro n m' hn;simp only[runN,h]at hn;cases hn
def NA {fr:bp}(h1:fr.mode=.returning)(h2:fr.defers=[])(h3:fr.kind=.normal)(w:ah): ∀n m',runN P (n+1) (lone fr [fN] w)=.next m'-> ¬ve m':=by
 intro n m' hn;have hs:stepG P aw (jW fr [fN]) w=unwind P aw fr [fN] ai w:=iY aw fr _ w (by rw[h1];simp);have bn: ∀w2,RV P ve (ln (jW fN []) w2):=λw2=>by
  have h0: ¬ve (ln (jW fN []) w2):=λh=>by have:=(DY h).1;cases this
  obtain⟨o,w',h⟩:=step_end (g:=jW fN []) (P:=P) (w:=w2) rfl ⟨_,_,_,rfl⟩;exact Cr h0 h
 have fin: ∀v w2 es,unwind P aw fr [fN] ai w=.go (jW (fN.finish v) []) w2 es-> ¬ve m':=by intro v w2 es hu;have h:=Dy (g:=jW fr [fN]) (g':=jW (fN.finish v) []) (P:=P) rfl rfl (hs.trans hu);have h:step P (lone fr [fN] w)=.next (ln (jW fN []) w2):=h;simp only[runN,h]at hn;exact bn w2 n m' hn
 have aa3:vN (unwind P aw fr [fN] ai w)-> ¬ve m':=by intro hE;obtain⟨o,w',h⟩:=step_end (g:=jW fr [fN]) rfl (by rw[hs];exact hE);have h:step P (lone fr [fN] w)=.ended o w':=h;exact sI h _ n m' hn
 have hd: ∀v w,doReturn P aw fr [fN] ai v w=.go (jW (fN.finish v) []) w:=λv w=>by unfold doReturn;simp only[h3]
 have hu:=oO (P:=P) aw fr [fN] w h2 h1;revert hu;cases P.funcs[fr.fn]? with
 |none=>intro hu;exact fin _ _ _ (hu.trans (hd _ _))
 |some F=>
  simp only[phase];cases(results F fr.tmps).runT P w #[]with
  |mk r es=>
   cases r with
   |ok v w2=>intro hu;simp only[hd]at hu;exact fin _ _ _ hu
   |halt x w2=>intro hu;exact aa3 (by rw[hu];cases x<;>exact⟨_,_,_,rfl⟩)
def Rm {g:au}(hg:g=jW g.frame g.callers)(hk:k=[]\/k=[sent])(Yx:g.frame.kind=.normal)(h:vL k [fN] g)(w:ah): ∀n m',runN P (n+1) (ln g w)=.next m'-> ¬ve m':=by
 rcases h with⟨h1,h2,h3⟩|⟨h1,h2,h3,h4⟩
 ·have e:ln g w=lone g.frame [fN] w:=by unfold ln;rw[h1]
  rw[e];exact NA h2 h3 Yx w
 ·have hk:=hk.resolve_left h4;subst hk;intro n m' hn;have hE:vN (stepG P aw g w):=by rw[hg,h1,uc aw g.frame [fN] w h2];revert h3;generalize g.frame=fr;intro h3;obtain⟨fn,tmps,todo,defers,mode,kind,round⟩:=fr;simp only at h3;subst h3;exact⟨_,_,_,rfl⟩
  obtain⟨o,w',h⟩:=step_end hg hE;exact sI h _ n m' hn
def ur.top {kL kR:List Item}{bot bot':List bp}{π:Ren}{a b:bp}{l m:List bp}(h:ur c kL kR bot bot' π (a::l) (b::m)): ∃(d:gj) (qL qR:List Item),sV d qL qR π a b:=by
 generalize hx:a::l=x at h;generalize hy:b::m=y at h;cases h with
 |one hf _=>cases hx;cases hy;exact⟨_,_,_,hf⟩
 |cons _ hf _=>cases hx;cases hy;exact⟨_,_,_,hf⟩
abbrev Tape:=Nat->Question->Nat
def HM (H:au->ah->Prop)(m:Machine):Prop:= ∃g w,m=ln g w/\g=jW g.frame g.callers/\H g w
def YE {H:au->ah->Prop}{g:au}{w:ah}(hg:g=jW g.frame g.callers)(h:HM H (ln g w)):H g w:=by obtain⟨g',w',h,lN,hH⟩:=h;unfold ln lone at h;simp at h;rw[hg,h.2.1,h.2.2,h.1,<-lN];exact hH
def Reach (P:aS)(H:au->ah->Prop)(x0 x:au×ah)(n D:Nat)(pre:Tape):Prop:= ∀t:Tape,(∀i q,i<D->t i q=pre i q)->runN P n (ln x0.1 (dH x0.2 t 0))=.next (ln x.1 (dH x.2 t D))/\ ∀k,k<n-> ∀m',runN P k (ln x0.1 (dH x0.2 t 0))=.next m'-> ¬HM H m'
structure HOk (H:au->ah->Prop):Prop where
 tape: ∀g w t d,H g (dH w t d)->H g w
 alive: ∀g w,H g w->g.callers=[fN]/\(g.frame.mode=.run\/g.frame.mode=.returning)
def HOk.hm {H:au->ah->Prop}(h:HOk H){m:Machine}(x:HM H m):ve m:=by obtain⟨g,w,rfl,_,hH⟩:=x;obtain⟨h1,h2⟩:=h.alive g w hH;exact⟨g.frame,w,by unfold ln;rw[h1],h2⟩
def Bad (P:aS)(c:gj)(k:List Item)(H:au->ah->Prop)(x:au×ah):Prop:= ∃π,Sub π/\cz P c.sig π x.2 x.2/\GR c k k [fN] [fN] π x.1 x.1/\ ¬LT P k H x.1 x.2
structure adD (P:aS) (H:au->ah->Prop) (x:au×ah) (t:Tape) (d:Nat) (y:au×ah):Prop where
 le:d<=y.2.drawn
 not: ¬H x.1 x.2
 gl:x.1=jW x.1.frame x.1.callers
 gr:y.1=jW y.1.frame y.1.callers
 same: ∀(t':Tape) (d':Nat),(∀i q,d+i<y.2.drawn->t' (d'+i) q=t (d+i) q)-> ∃lL,stepG P aw x.1 (dH x.2 t' d')=.go y.1 (dH y.2 t' (d'+(y.2.drawn-d))) lL
def u0 (pre:Tape)(D:Nat)(t:Tape)(d:Nat):Tape:=λi q=>if i<D then pre i q else t (d+(i-D)) q
def Vk (n:Nat)(m m1:Machine)(h:runN P n m=.next m1):runN P (n+1) m=step P m1:=by rw[runN_add,h];show runN P 1 m1=step P m1;unfold runN;cases step P m1<;>rfl
def Reach.succ {H:au->ah->Prop}(hH:HOk H){x0 x y:au×ah}{n D:Nat}{pre t:Tape}{d:Nat}(h:Reach P H x0 x n D pre)(k:adD P H x t d y):Reach P H x0 y (n+1) (D+(y.2.drawn-d)) (u0 pre D t d):=by
 intro t' ag;obtain⟨h1,h2⟩:=h t' λi q hi=>by rw[ag i q (by omega)];unfold u0;rw[if_pos hi]
 have⟨lL,hs⟩:=k.same t' D λi q hi=>by rw[ag (D+i) q (by omega)];unfold u0;rw[if_neg (by omega),show D+i-D=i by omega]
 refine⟨?_,λj hj m' hm=> ?_⟩
 ·rw[Vk n _ _ h1];exact Dy k.gl k.gr hs
 ·rcases ec j n with bJ|wq
  ·exact h2 j bJ m' hm
  ·obtain rfl:j=n:=by omega
   rw[h1]at hm;cases hm;exact λhL=>k.not (hH.tape _ _ _ _ (YE k.gl hL))
def Xq (hc:c.Fits P){H:au->ah->Prop}{x:au×ah}(h:Bad P c k H x):vL k [fN] x.1\/(¬vL k [fN] x.1/\ ∃t d,(vN (stepG P aw x.1 (dH x.2 t d))\/ ∃g2 w2 es,stepG P aw x.1 (dH x.2 t d)=.go g2 w2 es/\TI P c k k [fN] [fN] g2 w2))\/ ∃t d y,adD P H x t d y/\Bad P c k H y:=by
 obtain⟨π,s,hw,hg,hn⟩:=h;by_cases hl:vL k [fN] x.1
 ·exact .inl hl
 ·refine .inr ?_;by_cases hf: ∃t d,(vN (stepG P aw x.1 (dH x.2 t d))\/ ∃g2 w2 es,stepG P aw x.1 (dH x.2 t d)=.go g2 w2 es/\TI P c k k [fN] [fN] g2 w2)
  ·exact .inl ⟨hl,hf⟩
  ·refine .inr (gH λC1=>hn ?_);have key: ∀t d,∃g' w' es,(stepG P aw x.1 (dH x.2 t d)=.go g' w' es/\(g'.frame.mode=.run\/g'.frame.mode=.returning))/\LT P k H g' w':=by
    intro t d;rcases JE hc s hw hg hl t d with h1|h1|⟨g',w',es,bQ,hgo,hd,ht,s',jY,lN,aea⟩
    ·exact absurd ⟨t,d,.inl h1⟩ hf
    ·exact absurd ⟨t,d,.inr h1⟩ hf
    ·refine⟨g',w',es,⟨hgo,?_⟩,gH λbJ=>C1 ⟨t,d,(g',w'),⟨hd,λhx=>hn (.stop hx),hg.l,lN.l,aea⟩,bQ,s',jY,lN,bJ⟩⟩;obtain⟨_,_,gI⟩:=lN;obtain⟨_,_,_,hf⟩:=gI.top;exact hf.ok
   exact .step (λt d=>(key t d).choose) (λt d=>(key t d).choose_spec.choose) (λt d=>(key t d).choose_spec.choose_spec.choose) hl (λt d=>(key t d).choose_spec.choose_spec.choose_spec.1) (λt d=>(key t d).choose_spec.choose_spec.choose_spec.2)
def yj (hc:c.Fits P)(hk:k=[]\/k=[sent]){g0:au}{w0:ah}{π:Ren}(s:Sub π)(hw:cz P c.sig π w0 w0)(hg:GR c k k [fN] [fN] π g0 g0){H:au->ah->Prop}(hH:HOk H)(hT: ∀t,∃g' w',Steps P (ln g0 (dH w0 t 0)) (ln g' w')/\g'=jW g'.frame g'.callers/\H g' w'):LT P k H g0 w0:=by
 classical
 refine gH λhn=> ?_
 have B0:Bad P c k H (g0,w0):=⟨π,s,hw,hg,hn⟩;have R0:Reach P H (g0,w0) (g0,w0) 0 0 (λ_ _=>0):=λt _=>⟨rfl,λk hk=>by omega⟩
 have agR: ∀{x:au×ah},Bad P c k H x-> ¬H x.1 x.2:=λ⟨_,_,_,_,h⟩ hx=>h (.stop hx)
 have after: ∀{x:au×ah} {n D:Nat} {pre t:Tape},Reach P H (g0,w0) x n D pre->(∀i q,i<D->t i q=pre i q)->
  ∃j m',runN P j (ln x.1 (dH x.2 t D))=.next m'/\HM H m':=by
  intro x n D pre t hr ag;obtain⟨h1,h2⟩:=hr t ag;obtain⟨g',w',⟨N,hN⟩,e1,e2⟩:=hT t;have wq:n<=N:=Nat.le_of_not_lt λbJ=>h2 N bJ _ hN ⟨g',w',rfl,e1,e2⟩
  refine⟨N-n,ln g' w',?_,g',w',rfl,e1,e2⟩;rw[<-Nat.add_sub_cancel' wq,runN_add,h1]at hN;exact hN
 have abN: ∀{x:au×ah} {n D:Nat} {pre:Tape},Reach P H (g0,w0) x n D pre->Bad P c k H x->
  ∃t d y,adD P H x t d y/\Bad P c k H y:=by
  intro x n D pre hr hb;have Wm:x.1=jW x.1.frame x.1.callers:=by obtain⟨_,_,_,h,_⟩:=hb;exact h.l
  have hnm: ∀t d,¬HM H (ln x.1 (dH x.2 t d)):=λt d h=>agR hb (hH.tape _ _ _ _ (YE Wm h))
  rcases Xq hc hb with hl|⟨hl,t,d,hf⟩|h
  ·exfalso;obtain⟨j,m',hj,hm⟩:=after hr (t:=pre) λ_ _ _=>rfl
   cases j with
   |zero=>simp only[runN]at hj;cases hj;exact hnm _ _ hm
   |succ j=>
    have Yx:x.1.frame.kind=.normal:=by obtain⟨_,_,_,h,_⟩:=hb;obtain⟨_,_,gI⟩:=h;obtain⟨_,_,_,hf⟩:=gI.top;exact hf.kind
    exact Rm Wm hk Yx hl _ j _ hj (hH.hm hm)
  ·exfalso;obtain⟨j,m',hj,hm⟩:=after hr (t:=u0 pre D t d) λi q hi=>by unfold u0;rw[if_pos hi]
   obtain⟨bQ,s',jY,lN,_⟩:=hb;cases j with
   |zero=>simp only[runN]at hj;cases hj;exact hnm _ _ hm
   |succ j=>
    rcases JE hc s' jY lN hl (u0 pre D t d) D with h1|⟨g2,w2,es,h1,h2⟩|⟨g',w2,es,jD,hgo,hd,ht,s2,Qj,M7,aea⟩
    ·obtain⟨o,w2,h1⟩:=step_end Wm h1;exact sI h1 (HM H) j _ hj hm
    ·obtain⟨a,cl,rest,nH⟩:=h2;have hgl:g2=jW g2.frame g2.callers:=by obtain⟨_,_,_,rfl,_⟩:=nH;rfl
     have h3:=Dy Wm hgl h1;simp only[runN,h3]at hj;exact UQ ⟨a,cl,rest,nH⟩ j _ hj (hH.hm hm)
    ·obtain⟨lL,h3⟩:=aea t d λi q hi=>by unfold u0;rw[if_neg (by omega),show D+i-D=i by omega]
     rcases hf with⟨_,_,_,hf⟩|⟨g3,w3,es3,hf,hp⟩
     ·rw[h3]at hf;cases hf
     ·rw[h3]at hf;cases hf;obtain⟨a,cl,ch,ll,R3,ds,rfl,hm,_⟩:=hp;obtain⟨_,_,gI⟩:=M7;obtain⟨_,_,_,hf⟩:=gI.top;rcases hf.ok with x|x<;>rw[hm]at x<;>cases x
  ·exact h
 let Node:={z:(au×ah)×Nat×Nat×Tape // Reach P H (g0,w0) z.1 z.2.1 z.2.2.1 z.2.2.2/\Bad P c k H z.1}
 have nxt: ∀z:Node,∃z':Node,z'.1.2.1=z.1.2.1+1/\z.1.2.2.1<=z'.1.2.2.1/\(∀i q,i<z.1.2.2.1->z'.1.2.2.2 i q=z.1.2.2.2 i q):=by rintro⟨⟨x,n,D,pre⟩,hr,hb⟩;obtain⟨t,d,y,hs,jP⟩:=abN hr hb;exact⟨⟨⟨y,n+1,D+(y.2.drawn-d),u0 pre D t d⟩,hr.succ hH hs,jP⟩,rfl,Nat.le_add_right _ _,λi q hi=>by unfold u0;exact if_pos hi⟩
 let f:Node->Node:=λz=>(nxt z).choose
 have f1: ∀z,(f z).1.2.1=z.1.2.1+1:=λz=>(nxt z).choose_spec.1
 have f2: ∀z,z.1.2.2.1<=(f z).1.2.2.1:=λz=>(nxt z).choose_spec.2.1
 have f3: ∀z i q,i<z.1.2.2.1->(f z).1.2.2.2 i q=z.1.2.2.2 i q:=λz=>(nxt z).choose_spec.2.2
 let s:Nat->Node:=λn=>Nat.rec ⟨((g0,w0),0,0,λ_ _=>0),R0,B0⟩ (λ_ z=>f z) n
 have hs: ∀n,s (n+1)=f (s n):=λn=>rfl
 have cnt: ∀n,(s n).1.2.1=n:=by
  intro n
  induction n with
  |zero=>rfl
  |succ n ih=>rw[hs,f1,ih]
 have mono: ∀n k,(s n).1.2.2.1<=(s (n+k)).1.2.2.1/\ ∀i q,i<(s n).1.2.2.1->(s (n+k)).1.2.2.2 i q=(s n).1.2.2.2 i q:=by
  intro n k
  induction k with
  |zero=>exact⟨ax _,λ_ _ _=>rfl⟩
  |succ k ih=>have e:s (n+(k+1))=f (s (n+k)):=rfl;rw[e];exact⟨bM ih.1 (f2 _),λi q hi=>(f3 _ i q (cc hi ih.1)).trans (ih.2 i q hi)⟩
 let T:Tape:=λi q=>if h: ∃n,i<(s n).1.2.2.1 then(s (sY h)).1.2.2.2 i q else 0
 have hTn: ∀n i q,i<(s n).1.2.2.1->T i q=(s n).1.2.2.2 i q:=by
  intro n i q hi;have hex: ∃n,i<(s n).1.2.2.1:=⟨n,hi⟩;show(if h: ∃n,i<(s n).1.2.2.1 then(s (sY h)).1.2.2.2 i q else 0)=_;rw[dif_pos hex];have vG:=Classical.choose_spec hex;generalize sY hex=m at vG;rcases Nat.le_total m n with hle|hle
  ·have:=(mono m (n-m)).2 i q vG;rw[Nat.add_sub_cancel' hle]at this;exact this.symm
  ·have:=(mono n (m-n)).2 i q hi;rw[Nat.add_sub_cancel' hle]at this;exact this
 obtain⟨g',w',⟨N,hN⟩,e1,e2⟩:=hT T;have hr:=((s N).2.1 T (hTn N)).1;rw[cnt N,hN]at hr;have hg:(s N).1.1.1=jW (s N).1.1.1.frame (s N).1.1.1.callers:=by obtain⟨_,_,_,h,_⟩:=(s N).2.2;exact h.l
 have:HM H (ln (s N).1.1.1 (dH (s N).1.1.2 T (s N).1.2.2.1)):=⟨g',w',(Stepped.next.inj hr).symm,e1,e2⟩;exact agR (s N).2.2 (hH.tape _ _ _ _ (YE hg this))
end
end Rel
end Go.Proofs.YtknejlcijdngoaaGreat
