/- Several texts in one, made short by a program of mine. -/
import Derived.Test.YtknejlcijdngoaaGreatEQ1
import Derived.Laws.Sem
import Derived.Test.YtknejlcijdngoaaGreatChecked
import Derived.Conc.WgGenN3
import Derived.KernelRfl
import Derived.Calls
set_option linter.unusedVariables false
set_option linter.unusedSimpArgs false
set_option linter.unusedSectionVars false
set_option maxHeartbeats 16000000
set_option maxRecDepth 100000
open Array renaming all_eq_true→eK,empty_append→kq,getD_eq_getD_getElem?→bF,getElem?_eq_getElem→aX,getElem?_eq_none→ic,getElem?_eq_some_iff→aL,getElem?_map→gq,getElem?_modify→bw,getElem?_setIfInBounds_ne→aO,getElem?_setIfInBounds_self_of_lt→aW,mem_append→ot,range→qU,replicate→eh
open Bool renaming and_eq_true→aM,false_eq_true→e9,or_eq_true→iU,false→aw,true→aA
open Classical renaming choose→r9
open Go renaming Frame→bm,FuncId→bQ,Goroutine→ay,Operand→cw,Program→aS,TypeId→aF,Value→aq,World→ah
open Go.Builtin renaming delete_→lI,firstCells→ie,zeroCells→kg
open Go.Deferred renaming ofValue→gM
open Go.Frame renaming enter→fu
open Go.Instr renaming buildSlice→fh,checkKey→fJ,fill→fw,findKey→j8,loadAt→dN,lookup→lj
open Go.Region renaming wanted→bu
open Go.Value renaming cells→iy,int→aZ,slice→dZ
open Go.stepG renaming apply→eU,exec→iW
open List renaming find?_cons→nK
open Nat renaming add_comm→dt,add_zero→kW,le_refl→az,le_trans→bP,lt_of_lt_of_le→bX,lt_or_ge→dM,zero_add→aC
open Option renaming bind_eq_some_iff→cR,bind_some→rM,getD_some→bI,map_eq_some_iff→aK,none→ai,some→ae
open Option.some renaming inj→aY,injEq→dz
namespace Go.Proofs.YtknejlcijdngoaaGreat
namespace Rel
section
variable {P:aS} {S:jy}
abbrev AL (S:jy)(π:Ren):Nat×aq->Nat×aq->Prop:=λa b=>a.1=b.1/\bx S π a.2 b.2
theorem Lt {π:Ren}: ∀(l l':List (aq×Nat)) (off:Nat) (c c':Array aq),cK S π c c'->dj (λa b=>bx S π a.1 b.1/\a.2=b.2) l l'->cK S π (l.foldl (λcs (c,j)=>cs.setIfInBounds (off+j) c) c) (l'.foldl (λcs (c,j)=>cs.setIfInBounds (off+j) c) c'):=by
 intro l
 induction l with
 |nil=>intro l' off c c' h hl;cases hl;exact h
 |cons a l ih=>
  intro l' off c c' h hl;cases hl with
  |cons jz hr=>
   obtain⟨v,j⟩:=a
   rename_i b m
   obtain⟨v',j'⟩:=b;obtain⟨h1,h2⟩:=jz;simp only at h1 h2;subst h2;exact ih m off _ _ (iL.set h h1) hr
theorem Qg {π:Ren}: ∀{l l':List aq} (n:Nat),dj (bx S π) l l'->dj (λ(a b:aq×Nat)=>bx S π a.1 b.1/\a.2=b.2) (l.zipIdx n) (l'.zipIdx n):=by
 intro l
 induction l with
 |nil=>intro l' n h;cases h;exact .nil
 |cons a l ih=>
  intro l' n h;cases h with
  |cons jz hr=>exact .cons ⟨jz,rfl⟩ (ih (n+1) hr)
theorem Fz {π:Ren}{v v':Array aq}(h:cK S π v v')(off:Nat){c c':Array aq}(hc:cK S π c c'):cK S π (v.zipIdx.foldl (λcs (x,j)=>cs.setIfInBounds (off+j) x) c) (v'.zipIdx.foldl (λcs (x,j)=>cs.setIfInBounds (off+j) x) c'):=by rw[<-Array.foldl_toList,<-Array.foldl_toList,Array.toList_zipIdx,Array.toList_zipIdx];exact Lt _ _ off _ _ hc (Qg 0 (dj.l5 h))
theorem C0 {π:Ren}(place:Nat->Option (Nat×Nat)): ∀(ps KA:List (Nat×aq)) (c c':Array aq),cK S π c c'->dj (AL S π) ps KA->gw (cK S π) (fw place c ps) (fw place c' KA):=by
 intro ps
 induction ps with
 |nil=>intro KA c c' h hl;cases hl;exact .some h
 |cons p ps ih=>
  intro KA c c' h hl;cases hl with
  |cons jz hr=>
   obtain⟨i,v⟩:=p
   rename_i q m
   obtain⟨i',v'⟩:=q;obtain⟨h1,h2⟩:=jz;simp only at h1 h2;subst h1;unfold fw;cases place i with
   |none=>exact .none
   |some os=>
    obtain⟨off,size⟩:=os;simp only;have sJ:=h2.cells;rw[<-sJ.size,<-h.size]
    split
    ·exact .none
    ·exact ih m _ _ (Fz sJ off h) hr
theorem MW {α β:Type}{f:α->Sem β}(hf: ∀a π,Ren.Ok P π->aI P S l8 (f a) π (f a)): ∀(l:List α) (π:Ren),Ren.Ok P π->aI P S l8 (l.mapM f) π (l.mapM f):=by
 intro l
 induction l with
 |nil=>intro π ok;rw[List.mapM_nil];exact aH rfl
 |cons a l ih=>intro π ok;rw[List.mapM_cons];exact aI.bind ok (hf a π ok) λfB b b' e1 h=>by subst h;exact aI.bind e1.ok (ih fB e1.ok) λjJ c c' e2 h=>by subst h;exact aH rfl
theorem aee {α β:Type}{f:α->Sem β}(hf: ∀a π,Ren.Ok P π->aI P S l8 (f a) π (f a))(x:Array α){π:Ren}(ok:Ren.Ok P π):aI P S l8 (x.mapM f) π (x.mapM f):=by rw[Array.mapM_eq_mapM_toList];exact aI.bind ok (MW hf _ π ok) λfB b b' e1 h=>by subst h;exact aH rfl
theorem abo {π:Ren}(hz:sg P S)(ok:Ren.Ok P π)(t:aF){ps KA:Array (Nat×aq)}(h:dj (AL S π) ps.toList KA.toList):aI P S (VQ S) (Instr.build t ps) π (Instr.build t KA):=by
 unfold Instr.build;refine aI.bind ok (lC hz ok t) λfB z z' e1 h1=> ?_
 obtain⟨rfl,hf⟩:=h1;refine aI.bind e1.ok (bN e1.ok t) λjJ d d' e2 hd=> ?_
 obtain⟨rfl,_⟩:=hd;have mono: ∀{π bO:Ren},Ext P π bO-> ∀{l l':List (Nat×aq)},dj (AL S π) l l'->dj (AL S bO) l l':=by
  intro π bO e l l' hl
  induction hl with
  |nil=>exact .nil
  |cons x _ y=>exact .cons ⟨x.1,x.2.mono e⟩ y
 have fin: ∀(kV:Ren),Ext P jJ kV-> ∀place:Nat->Option (Nat×Nat),aI P S (VQ S)
  (match fw place z.cells ps.toList with|some cells=>pure (.agg cells)|_=>stuck "build: no such field, or a part of the wrong size") kV
  (match fw place z.cells KA.toList with|some cells=>pure (.agg cells)|_=>stuck "build: no such field, or a part of the wrong size"):=by
  intro kV e3 place;have:=C0 (S:=S) (π:=kV) place ps.toList KA.toList z.cells z.cells (hf kV).cells (mono (e1.trans (e2.trans e3)) h);revert this;generalize fw place z.cells ps.toList=a;generalize fw place z.cells KA.toList=b;intro this;cases this with
  |none=>exact rfl
  |some x=>exact aH (.agg x.size x.at_)
 cases d with
 |struct fields=>
  simp only;refine aI.bind e2.ok (aee (λf π ok=>aI.bind ok (fN ok _) λ_ a b _ h=>by subst h;exact aH rfl) fields e2.ok) λkV p p' e3 hp=> ?_
  subst hp;exact fin kV e3 _
 |array n el=>
  simp only;refine aI.bind e2.ok (fN e2.ok _) λkV p p' e3 hp=> ?_
  subst hp;have:=C0 (S:=S) (π:=kV) (λi=>ae (i*p,p)) ps.toList KA.toList z.cells z.cells (hf kV).cells (mono (e1.trans (e2.trans e3)) h);revert this;generalize fw _ z.cells ps.toList=a;generalize fw _ z.cells KA.toList=b;intro this;cases this with
  |none=>exact rfl
  |some x=>exact aH (.agg x.size x.at_)
 |_=>exact rfl
end
end Rel
namespace Rel
section
variable {P:aS} {S:jy}
theorem Ka (π:Ren):bx S π default default:=by show bx S π (.bool default) (.bool default);exact .bool _
theorem abN {π:Ren}{z:Array aq}(h:cK S π z z)(i:Nat):bx S π z[i]! z[i]! :=by
 rw[getElem!_def];cases hz:z[i]? with
 |none=>exact Ka π
 |some v=>exact h.at_ i v v hz hz
theorem xV {π:Ren}{z:Array aq}(h:cK S π z z)(n:Nat):cK S π ((qU n).map (z[· % z.size]!)) ((qU n).map (z[· % z.size]!)):=by refine⟨rfl,λi a b ha hb=> ?_⟩;rw[ha]at hb;obtain rfl:=aY hb;rw[gq]at ha;obtain⟨j,_,rfl⟩:=aK.1 ha;exact abN h _
theorem Hn {π:Ren}(n:Nat):aI P S l8 (askRoom n) π (askRoom n):=by
 unfold askRoom
 split
 ·exact⟨rfl,_,rfl,(),rfl,rfl⟩
 ·exact aH rfl
theorem JH {π:Ren}(hz:sg P S)(ok:Ren.Ok P π)(t:aF)(len:Nat){ps KA:Array (Nat×aq)}(h:dj (AL S π) ps.toList KA.toList):aI P S (VQ S) (fh t len ps) π (fh t len KA):=by
 have mono: ∀{π bO:Ren},Ext P π bO-> ∀{l l':List (Nat×aq)},dj (AL S π) l l'->dj (AL S bO) l l':=by
  intro π bO e l l' hl
  induction hl with
  |nil=>exact .nil
  |cons x _ y=>exact .cons ⟨x.1,x.2.mono e⟩ y
 unfold fh;refine aI.bind ok (bN ok t) λfB d d' e1 hd=> ?_
 obtain⟨rfl,_⟩:=hd;cases d with
 |slice el=>
  simp only;refine aI.bind e1.ok (fN e1.ok _) λjJ n n' e2 hn=> ?_
  subst hn
  split
  ·exact rfl
  ·have tail: ∀kV z,Ext P jJ kV->cK S kV z z->aI P S (VQ S)
    (match fw (λi=>ae (i*n,n)) ((qU (len*n)).map (z[· % z.size]!)) ps.toList with|some cells=>do pure (.slice (ae (<-newRow el cells)) len len)|_=>stuck "buildSlice: a part of the wrong size") kV
    (match fw (λi=>ae (i*n,n)) ((qU (len*n)).map (z[· % z.size]!)) KA.toList with|some cells=>do pure (.slice (ae (<-newRow el cells)) len len)|_=>stuck "buildSlice: a part of the wrong size"):=by
    intro kV z e3 hs;have:=C0 (S:=S) (π:=kV) (λi=>ae (i*n,n)) ps.toList KA.toList _ _ (xV hs (len*n)) (mono (e1.trans (e2.trans e3)) h);revert this;generalize fw _ _ ps.toList=a;generalize fw _ _ KA.toList=b;intro this;cases this with
    |none=>exact rfl
    |some x=>exact aI.bind e3.ok (y8 _ e3.ok x) λwG a b e4 ha=>aH (.slice _ _ ha)
   split
   ·exact tail jJ #[] (Ext.refl e2.ok) ⟨rfl,by simp⟩
   ·exact aI.bind e2.ok (lC hz e2.ok el) λkV a b e h=>by obtain⟨rfl,hf⟩:=h;exact tail kV _ e (hf kV).cells
 |_=>exact rfl
end
end Rel
namespace Rel
section
variable {P:aS} {S:jy}
theorem MV {π:Ren}(hz:sg P S)(ok:Ren.Ok P π)(t:aF){l l' c c':aq}(hl:bx S π l l')(hc:bx S π c c'):aI P S (VQ S) (Instr.makeSlice t l c) π (Instr.makeSlice t l' c'):=by
 unfold Instr.makeSlice;refine aI.bind ok (bN ok t) λfB d d' e1 hd=> ?_
 obtain⟨rfl,_⟩:=hd;cases d with
 |slice el=>
  simp only;refine aI.bind e1.ok (aiR e1.ok (hl.mono e1)) λjJ a a' e2 h=> ?_
  subst h;refine aI.bind e2.ok (aiR e2.ok ((hc.mono e1).mono e2)) λkV b b' e3 h=> ?_
  subst h;refine aI.bind e3.ok (fL e3.ok el) λwG i i' e4 h=> ?_
  obtain⟨rfl,_⟩:=h;have tail: ∀Qi n z,Ext P wG Qi->cK S Qi z z->aI P S (VQ S)
   (do let a'<-newRow el ((qU n).map (z[· % z.size]!));pure (dZ (ae a') (IntKind.i64.wrap a).toNat (IntKind.i64.wrap b).toNat)) Qi
   (do let a'<-newRow el ((qU n).map (z[· % z.size]!));pure (dZ (ae a') (IntKind.i64.wrap a).toNat (IntKind.i64.wrap b).toNat)):=by
   intro Qi n z e6 hs;exact aI.bind e6.ok (y8 _ e6.ok (xV hs n)) λπ7 a b e7 ha=>aH (.slice _ _ ha)
  have go:aI P S (VQ S) (do
   askRoom ((IntKind.i64.wrap b).toNat*i.bytes)
   let n:=(IntKind.i64.wrap b).toNat*(<-sizeOf el)
   let zero<-if n=0 then pure #[]else do pure (<-zeroValue el).cells
   let a'<-newRow el ((qU n).map (zero[· % zero.size]!))
   pure (dZ (ae a') (IntKind.i64.wrap a).toNat (IntKind.i64.wrap b).toNat)) wG (do
   askRoom ((IntKind.i64.wrap b).toNat*i.bytes)
   let n:=(IntKind.i64.wrap b).toNat*(<-sizeOf el)
   let zero<-if n=0 then pure #[]else do pure (<-zeroValue el).cells
   let a'<-newRow el ((qU n).map (zero[· % zero.size]!))
   pure (dZ (ae a') (IntKind.i64.wrap a).toNat (IntKind.i64.wrap b).toNat)):=by
   refine aI.bind e4.ok (Hn _) λKo _ _ e5 _=> ?_
   refine aI.bind e5.ok (fN e5.ok _) λQi s s' e6 h=> ?_
   subst h;simp only
   split
   ·exact tail Qi _ #[] (e5.trans e6) ⟨rfl,by simp⟩
   ·exact aI.bind e6.ok (lC hz e6.ok el) λπ7 x y e7 h=>by obtain⟨rfl,hf⟩:=h;exact tail π7 _ _ (e5.trans (e6.trans e7)) (hf π7).cells
  split
  ·split
   ·exact jC e4.ok _
   ·split
    ·exact jC e4.ok _
    ·refine aI.bind e4.ok (oF _) λKo x y e5 h=> ?_
     subst h
     first|exact jC e5.ok _|(split<;>exact jC e5.ok _)
  ·exact go
 |_=>exact rfl
end
end Rel
namespace Rel
section
variable {P:aS} {S:jy}
theorem iL.opt {α β:Type}{R:α->β->Prop}{x:Array α}{y:Array β}(h:iL R x y)(i:Nat):gw R x[i]? y[i]?:=by
 cases hx:x[i]? with
 |none=>
  have:y[i]? =ai:=by rw[Array.getElem?_eq_none_iff]at hx⊢;rw[<-h.size];exact hx
  rw[this];exact .none
 |some a=>obtain⟨b,hb,jz⟩:=h.get hx;rw[hb];exact .some jz
theorem agy {π:Ren}(ok:Ren.Ok P π)(ts:Array aF)(t:aF){x y:Array aq}(h:cK S π x y):aI P S (VQ S) (Builtin.len_ ts t x) π (Builtin.len_ ts t y):=by
 unfold Builtin.len_;have h0:=h.opt 0;revert h0;generalize x[0]? =a;generalize y[0]? =b;intro h0;cases ts[0]? with
 |none=>cases h0<;>exact rfl
 |some tt=>
  cases h0 with
  |none=>exact rfl
  |some hv=>
   simp only;refine aI.bind ok (bN ok tt) λfB d d' e1 hd=> ?_
   obtain⟨rfl,_⟩:=hd;have BQ:=hv.mono e1;cases d with
   |array n el=>cases BQ<;>exact aH (.int _ _)
   |string=>cases BQ<;>first|exact aH (.int _ _)|exact rfl
   |slice el=>cases BQ<;>first|exact aH (.int _ _)|exact rfl
   |chan dd el=>cases BQ<;>first|exact aH (.int _ _)|exact rfl
   |map k v=>
    cases BQ with
    |xN=>exact aH (.int _ _)
    |map hr=>
     refine aI.bind e1.ok (jB hr) λjJ o o' e2 ho=> ?_
     cases ho with
     |map k he=>simp only;rw[he.size];exact aH (.int _ _)
     |_=>exact rfl
    |_=>exact rfl
   |pointer arr=>
    cases BQ<;>
     (refine aI.bind e1.ok (bN e1.ok arr) λjJ d d' e2 hd=> ?_
      obtain⟨rfl,_⟩:=hd;cases d<;>first|exact aH (.int _ _)|exact rfl)
   |_=>cases BQ<;>exact rfl
end
end Rel
namespace Rel
section
variable {P:aS} {S:jy}
theorem PH {π:Ren}{f f':Fn}{x x' y y':Array aq}(hf:UN S π f f')(hx:cK S π x x')(hy:cK S π y y'):aI P S (VQ S) (Instr.makeFunc f x y) π (Instr.makeFunc f' x' y'):=aH (.func hf hx.size hx.at_ hy.size hy.at_)
theorem agx {π:Ren}(ok:Ren.Ok P π)(ts:Array aF)(t:aF){x y:Array aq}(h:cK S π x y):aI P S (VQ S) (Builtin.cap_ ts t x) π (Builtin.cap_ ts t y):=by
 unfold Builtin.cap_;have h0:=h.opt 0;revert h0;generalize x[0]? =a;generalize y[0]? =b;intro h0;cases ts[0]? with
 |none=>cases h0<;>exact rfl
 |some tt=>
  cases h0 with
  |none=>exact rfl
  |some hv=>
   simp only;refine aI.bind ok (bN ok tt) λfB d d' e1 hd=> ?_
   obtain⟨rfl,_⟩:=hd;have BQ:=hv.mono e1;cases d with
   |array n el=>cases BQ<;>exact aH (.int _ _)
   |slice el=>cases BQ<;>first|exact aH (.int _ _)|exact rfl
   |chan dd el=>cases BQ<;>first|exact aH (.int _ _)|exact rfl
   |pointer arr=>
    cases BQ<;>
     (refine aI.bind e1.ok (bN e1.ok arr) λjJ d d' e2 hd=> ?_
      obtain⟨rfl,_⟩:=hd;cases d<;>first|exact aH (.int _ _)|exact rfl)
   |_=>cases BQ<;>exact rfl
theorem DR {π:Ren}(op:BinOp)(k:IntKind)(x y:Int):aI P S (VQ S) (Op.intArith op k x y) π (Op.intArith op k x y):=by cases op<;>first|exact aH (.int _ _)|exact rfl
theorem Yu {π:Ren}(ok:Ren.Ok P π)(op:BinOp)(k:IntKind)(x y:Int):aI P S (VQ S) (Op.intDiv op k x y) π (Op.intDiv op k x y):=by
 unfold Op.intDiv
 split
 ·exact jC ok _
 ·cases op<;>first|exact aH (.int _ _)|exact rfl
theorem Hr {π:Ren}(op:BinOp)(k:IntKind)(x y:Int):aI P S (VQ S) (Op.intBits op k x y) π (Op.intBits op k x y):=by cases op<;>first|exact aH (.int _ _)|exact rfl
theorem abv {π:Ren}(ok:Ren.Ok P π)(op:BinOp)(k:IntKind)(x:Int)(yk:IntKind)(y:Int):aI P S (VQ S) (Op.shift op k x yk y) π (Op.shift op k x yk y):=by
 unfold Op.shift
 split
 ·exact jC ok _
 ·cases op<;>first|exact aH (.int _ _)|exact rfl
theorem Yt {π:Ren}(op:BinOp)(x y:Int):aI P S (VQ S) (Op.intCmp op x y) π (Op.intCmp op x y):=by cases op<;>first|exact aH (.bool _)|exact rfl
theorem xU {π:Ren}(op:BinOp)(x y:ByteArray):aI P S (VQ S) (Op.stringOp op x y) π (Op.stringOp op x y):=by unfold Op.stringOp;cases op<;>first|exact aH (.bool _)|exact rfl|(simp only;split<;>first|exact rfl|exact aH (.string _))
theorem aby {π:Ren}(op:UnOp){x x':aq}(h:bx S π x x'):aI P S (VQ S) (Op.unary op x) π (Op.unary op x'):=by cases op<;>cases h<;>first|exact rfl|exact DR _ _ _ _|exact Hr _ _ _ _|exact aH (.int _ _)|exact aH (.bool _)
theorem aeg {π:Ren}(ok:Ren.Ok P π){x x' y y':aq}(hx:bx S π x x')(hy:bx S π y y'):aI P S (VQ S) (Builtin.min2 x y) π (Builtin.min2 x' y'):=by
 cases hx with
 |int=>cases hy<;>first|exact rfl|exact aH (.int _ _)
 |string=>
  cases hy with
  |string=>
   refine aI.bind ok (xU _ _ _) λfB a b e h=> ?_
   refine aI.bind e.ok (DG h) λjJ c d e2 h2=> ?_
   subst h2;cases c<;>exact aH (.string _)
  |_=>exact rfl
 |_=>cases hy<;>exact rfl
theorem aef {π:Ren}(ok:Ren.Ok P π){x x' y y':aq}(hx:bx S π x x')(hy:bx S π y y'):aI P S (VQ S) (Builtin.max2 x y) π (Builtin.max2 x' y'):=by
 cases hx with
 |int=>cases hy<;>first|exact rfl|exact aH (.int _ _)
 |string=>
  cases hy with
  |string=>
   refine aI.bind ok (xU _ _ _) λfB a b e h=> ?_
   refine aI.bind e.ok (DG h) λjJ c d e2 h2=> ?_
   subst h2;cases c<;>exact aH (.string _)
  |_=>exact rfl
 |_=>cases hy<;>exact rfl
theorem MS {f:aq->aq->Sem aq}(hf: ∀(π:Ren) x x' y y',Ren.Ok P π->bx S π x x'->bx S π y y'->aI P S (VQ S) (f x y) π (f x' y')): ∀{l l':List aq} {π:Ren} {x x':aq},Ren.Ok P π->dj (bx S π) l l'->bx S π x x'->aI P S (VQ S) (l.foldlM f x) π (l'.foldlM f x'):=by
 intro l
 induction l with
 |nil=>intro l' π x x' ok hl hx;cases hl;exact aH hx
 |cons a l ih=>
  intro l' π x x' ok hl hx;cases hl with
  |cons ha hl=>
   refine aI.bind ok (hf π _ _ _ _ ok hx ha) λfB b b' e hb=>ih e.ok ?_ hb
   clear ih
   induction hl with
   |nil=>exact .nil
   |cons h _ i=>exact .cons (h.mono e) i
theorem agA {π:Ren}(ok:Ren.Ok P π)(ts:Array aF)(t:aF){x y:Array aq}(h:cK S π x y):aI P S (VQ S) (Builtin.min_ ts t x) π (Builtin.min_ ts t y):=by
 unfold Builtin.min_;have hl:=dj.l5 h;generalize x.toList=l at hl;generalize y.toList=l' at hl;cases hl with
 |nil=>exact rfl
 |cons ha hr=>exact MS (λπ x x' y y' ok hx hy=>aeg ok hx hy) ok hr ha
theorem agz {π:Ren}(ok:Ren.Ok P π)(ts:Array aF)(t:aF){x y:Array aq}(h:cK S π x y):aI P S (VQ S) (Builtin.max_ ts t x) π (Builtin.max_ ts t y):=by
 unfold Builtin.max_;have hl:=dj.l5 h;generalize x.toList=l at hl;generalize y.toList=l' at hl;cases hl with
 |nil=>exact rfl
 |cons ha hr=>exact MS (λπ x x' y y' ok hx hy=>aef ok hx hy) ok hr ha
end
end Rel
namespace Rel
section
variable {P:aS} {S:jy}
theorem RA {π:Ren}{x x':aq}(h:bx S π x x'):aI P S l8 (Builtin.lenOf x) π (Builtin.lenOf x'):=by cases h<;>first|exact aH rfl|exact rfl
theorem cK.append {π:Ren}{x x' y y':Array aq}(h:cK S π x x')(k:cK S π y y'):cK S π (x++y) (x'++y'):=by
 refine⟨by simp[h.size,k.size],λi a b ha hb=> ?_⟩;rw[Array.getElem?_append]at ha hb;rw[<-h.size]at hb
 split at ha
 ·rename_i hi;rw[if_pos hi]at hb;exact h.at_ i a b ha hb
 ·rename_i hi;rw[if_neg hi]at hb;exact k.at_ _ a b ha hb
theorem Tf {π:Ren}(l:Array UInt8):cK S π (l.map λb=>aZ .u8 b.toNat) (l.map λb=>aZ .u8 b.toNat):=by refine⟨rfl,λi a b ha hb=> ?_⟩;rw[ha]at hb;obtain rfl:=aY hb;rw[gq]at ha;obtain⟨c,_,rfl⟩:=aK.1 ha;exact .int _ _
theorem tZ {π:Ren}(ok:Ren.Ok P π)(size n:Nat){x x':aq}(h:bx S π x x'):aI P S (VsQ S) (ie size n x) π (ie size n x'):=by
 cases h with
 |j6=>exact aH ⟨rfl,by simp⟩
 |slice l c ha=>exact Bq ok ha _
 |string s=>exact aH (Tf _)
 |_=>exact rfl
theorem aiS {π:Ren}(ok:Ren.Ok P π){a a':Addr}(h:dD π a a')(n:Nat):aI P S l8 (Builtin.holdsCells a n) π (Builtin.holdsCells a' n):=by
 unfold Builtin.holdsCells;refine aI.bind ok (oq h.block) λfB x y e hx=> ?_
 subst hx;cases x with
 |none=>exact aH rfl
 |some x=>simp only[h.spot,h.off];exact aH rfl
theorem PK {π:Ren}(ok:Ren.Ok P π)(size uG n:Nat){b b':Option Addr}(hb:gw (dD π) b b'){x x':aq}(hx:bx S π x x'):aI P S l8 (Builtin.mayShare size uG n b x) π (Builtin.mayShare size uG n b' x'):=by
 unfold Builtin.mayShare;have tail: ∀(fB:Ren) (t:Bool),Ext P π fB->aI P S l8 (do
                               if !t then return aA
                               match x with
                                | .slice (ae c) _ _=>do pure (!(<-Builtin.holdsCells c (n*size))||b.any (·.block==c.block))
                                |_=>pure aw) fB (do
                               if !t then return aA
                               match x' with
                                | .slice (ae c) _ _=>do pure (!(<-Builtin.holdsCells c (n*size))||b'.any (·.block==c.block))
                                |_=>pure aw):=by
  intro fB t e1;cases t with
  |false=>exact aH rfl
  |true=>
   cases hx with
   |slice l c ha=>
    refine aI.bind e1.ok (aiS e1.ok (ha.mono e1) _) λjJ x y e rm=> ?_
    subst rm;cases hb with
    |none=>exact aH rfl
    |some jz=>
     rename_i a1 a2 b1 b2
     refine aH ?_;have:(b1.block==a1.block)=(b2.block==a2.block):=by
      have h1:=jz.block;have h2:=ha.block;by_cases hq:b1.block=a1.block
      ·rw[hq]at h1;have:=ok.fn _ _ _ h1 h2;simp[hq,this]
      ·have:b2.block≠a2.block:=λum=>by rw[um]at h1;exact hq (ok.inj _ _ _ h1 h2)
       rw[beq_eq_false_iff_ne.2 hq,beq_eq_false_iff_ne.2 this]
     show(!x||(b1.block==a1.block))=(!x||(b2.block==a2.block));rw[this]
   |_=>exact aH rfl
 cases hb with
 |none=>exact tail π aA (Ext.refl ok)
 |some jz=>
  refine aI.bind ok (aiS ok jz _) λfB x y e rm=> ?_
  subst rm;refine aI.bind e.ok (vz ((jz.mono e).add _)) λjJ x y e2 rm=> ?_
  subst rm;exact aI.bind (Q:=l8) e2.ok (aH rfl) λkV x y e3 rm=>by subst rm;exact tail kV x (e.trans (e2.trans e3))
def pD (elem:aF)(base:Option Addr)(uG Ak size:Nat)(s x:aq)(mA:Bool)(n:Nat):Sem aq:=do
 let appended:Sem (Array aq):=
  if !mA then ie size n x
  else if n*size=0 then pure #[]
  else do pure (kg (<-zeroValue elem).cells n)
 let pK:=uG+n
 if pK<=Ak then
  let new<-appended
  if let ae a:=base then storeCells (a.add (uG*size)) new.toList
  pure (.slice base pK Ak)
 else
  if(pK:Int)>IntKind.i64.max/\(mA\/(<-typeInfo elem).bytes=0)then runtimePanic (.error "growslice: len out of range")
  if Builtin.nextslicecap pK Ak*(<-typeInfo elem).bytes>2^48 then(if mA then runtimePanic (.error "growslice: len out of range")else do
   if !(<-Builtin.mayShare size uG n base x)then mark .noRoom
   unsupported (.resourceLimit "append: a slice or a string whose bytes no memory bears"))
  let qE<-choose (.appendCap pK Ak elem)
  askRoom (qE*(<-typeInfo elem).bytes)
  let old<-ie size uG s
  let new<-appended
  let rest:=kg (<-zeroValue elem).cells (qE-pK)
  pure (.slice (ae (<-newRow elem (old++new++rest))) pK qE)
theorem vM {π:Ren}{z:Array aq}(h:cK S π z z)(n:Nat):cK S π (kg z n) (kg z n):=xV h _
theorem cK.mono {π bO:Ren}(e:Ext P π bO){x y:Array aq}(h:cK S π x y):cK S bO x y:=iL.mono h λ_ _ k=>k.mono e
theorem DF {π:Ren}(hz:sg P S)(ok:Ren.Ok P π)(elem:aF)(size:Nat){x x':aq}(mA:Bool)(n:Nat)(hx:bx S π x x'):aI P S (VsQ S) (if !mA then ie size n x else if n*size=0 then pure #[]else do pure (kg (<-zeroValue elem).cells n)) π (if !mA then ie size n x' else if n*size=0 then pure #[]else do pure (kg (<-zeroValue elem).cells n)):=by
 split
 ·exact tZ ok _ _ hx
 ·split
  ·exact aH ⟨rfl,by simp⟩
  ·exact aI.bind ok (lC hz ok elem) λfB a b e h=>by obtain⟨rfl,hf⟩:=h;exact aH (vM (hf fB).cells _)
theorem TL {π:Ren}(hz:sg P S)(ok:Ren.Ok P π)(elem:aF)(uG Ak size:Nat){s s' x x':aq}(mA:Bool)(n pK:Nat)(hs:bx S π s s')(hx:bx S π x x'):aI P S (VQ S) (do
                                                                                                                                        let qE<-choose (.appendCap pK Ak elem)
                                                                                                                                        askRoom (qE*(<-typeInfo elem).bytes)
                                                                                                                                        let old<-ie size uG s
                                                                                                                                        let new<-(if !mA then ie size n x else if n*size=0 then pure #[]else do pure (kg (<-zeroValue elem).cells n))
                                                                                                                                        let rest:=kg (<-zeroValue elem).cells (qE-pK)
                                                                                                                                        pure (.slice (ae (<-newRow elem (old++new++rest))) pK qE)) π (do
                                                                                                                                        let qE<-choose (.appendCap pK Ak elem)
                                                                                                                                        askRoom (qE*(<-typeInfo elem).bytes)
                                                                                                                                        let old<-ie size uG s'
                                                                                                                                        let new<-(if !mA then ie size n x' else if n*size=0 then pure #[]else do pure (kg (<-zeroValue elem).cells n))
                                                                                                                                        let rest:=kg (<-zeroValue elem).cells (qE-pK)
                                                                                                                                        pure (.slice (ae (<-newRow elem (old++new++rest))) pK qE)):=by
 refine aI.bind ok (oF _) λfB c c' e1 h=> ?_
 subst h;refine aI.bind e1.ok (fL e1.ok _) λjJ i i' e2 h=> ?_
 obtain⟨rfl,_⟩:=h;refine aI.bind e2.ok (Hn _) λkV _ _ e3 _=> ?_
 have e:=e1.trans (e2.trans e3);refine aI.bind e.ok (tZ e.ok _ _ (hs.mono e)) λwG o o' e4 ho=> ?_
 refine aI.bind e4.ok (DF hz e4.ok elem size mA n ((hx.mono e).mono e4)) λKo v v' e5 hv=> ?_
 refine aI.bind e5.ok (lC hz e5.ok elem) λQi z z' e6 h=> ?_
 obtain⟨rfl,hf⟩:=h;refine aI.bind e6.ok (y8 _ e6.ok (((((ho.mono e5).mono e6)).append (hv.mono e6)).append (vM (hf Qi).cells _))) λπ7 a a' e7 ha=>aH (.slice _ _ ha)
theorem Hm {π:Ren}(hz:sg P S)(ok:Ren.Ok P π)(elem:aF){b b':Option Addr}(uG Ak size:Nat){s s' x x':aq}(mA:Bool)(n:Nat)(hb:gw (dD π) b b')(hs:bx S π s s')(hx:bx S π x x'):aI P S (VQ S) (pD elem b uG Ak size s x mA n) π (pD elem b' uG Ak size s' x' mA n):=by
 unfold pD;simp only
 split
 ·refine aI.bind ok (DF hz ok elem size mA n hx) λfB v v' e1 hv=> ?_
  cases hb with
  |none=>exact aH (.j6 _ _)
  |some ha=>exact aI.bind e1.ok (ua e1.ok ((ha.mono e1).add _) 0 (dj.l5 hv)) λjJ _ _ e2 _=>aH (.slice _ _ ((ha.mono e1).mono e2))
 ·refine aI.bind ok (fL ok _) λfB i i' e1 h=> ?_
  obtain⟨rfl,_⟩:=h
  split
  ·exact jC e1.ok _
  ·refine aI.bind e1.ok (fL e1.ok _) λjJ i i' e2 h=> ?_
   obtain⟨rfl,_⟩:=h;have e:=e1.trans e2
   split
   ·refine aI.bind (Q:=λ_ _ _=>False) e.ok ?_ λ_ _ _ _ h=>h.elim
    cases mA with
    |true=>exact jC e.ok _
    |false=>
     simp only[e9,if_false];refine aI.bind e.ok (PK (b:=b) (b':=b') e.ok size uG n ?_ (hx.mono e)) λkV c c' e3 h=> ?_
     ·cases hb with
      |none=>exact .none
      |some ha=>exact .some (ha.mono e)
     ·subst h;cases c with
      |true=>exact rfl
      |false=>exact⟨rfl,_,rfl,rfl⟩
   ·exact TL hz e.ok elem uG Ak size mA n (uG+n) (hs.mono e) (hx.mono e)
end
end Rel
namespace Rel
section
variable {P:aS} {S:jy}
def CN (elem:aF)(t1:Option aF)(base:Option Addr)(uG Ak:Nat)(s x:aq):Sem aq:=do
 let size<-sizeOf elem
 let mA<-match t1 with
  |some agM=>do pure ((<-underlying agM) matches .int _)
  |none=>pure aw
 let n<-if mA then do
     let l:=IntKind.i64.wrap (<-asInt x)
     if l<0 then runtimePanic (.error "makeslice: len out of range")
     if l*(<-typeInfo elem).bytes>2^48 then
      let made<-choose (.extern "append.ofMake.carriedOut" 2)
      runtimePanic (.error (if made==1 then "makeslice: len out of range" else "growslice: len out of range"))
     pure l.toNat
  else Builtin.lenOf x
 pD elem base uG Ak size s x mA n
theorem gw.addr {π bO:Ren}(e:Ext P π bO){c c':Option Addr}(h:gw (dD π) c c'):gw (dD bO) c c':=gw.mono (λ_ _ k=>k.mono e) h
theorem MO {π:Ren}(hz:sg P S)(ok:Ren.Ok P π)(el:aF)(t1:Option aF){c c':Option Addr}(l cp:Nat){s s' x x':aq}(hc:gw (dD π) c c')(hs:bx S π s s')(hx:bx S π x x'):aI P S (VQ S) (CN el t1 c l cp s x) π (CN el t1 c' l cp s' x'):=by
 unfold CN;refine aI.bind ok (fN ok el) λjJ n n' e2 h=> ?_
 subst h;have tl: ∀(kV:Ren) (z:Bool),Ext P π kV->aI P S (VQ S) (if z then do
  let l1:=IntKind.i64.wrap (<-asInt x)
  let jp:=λ(_:Unit)=>do
   let i<-typeInfo el
   let jp2:=λ(_:Unit)=>do
    let k<-pure l1.toNat
    pD el c l cp n s x z k
   if l1*i.bytes>2^48 then do
    let made<-choose (.extern "append.ofMake.carriedOut" 2)
    let r<-runtimePanic (.error (if made==1 then "makeslice: len out of range" else "growslice: len out of range"))
    jp2 r
   else jp2 ()
  if l1<0 then do
   let r<-runtimePanic (.error "makeslice: len out of range")
   jp r
  else jp ()
  else do
   let k<-Builtin.lenOf x
   pD el c l cp n s x z k) kV (if z then do
   let l1:=IntKind.i64.wrap (<-asInt x')
   let jp:=λ(_:Unit)=>do
    let i<-typeInfo el
    let jp2:=λ(_:Unit)=>do
     let k<-pure l1.toNat
     pD el c' l cp n s' x' z k
    if l1*i.bytes>2^48 then do
     let made<-choose (.extern "append.ofMake.carriedOut" 2)
     let r<-runtimePanic (.error (if made==1 then "makeslice: len out of range" else "growslice: len out of range"))
     jp2 r
    else jp2 ()
   if l1<0 then do
    let r<-runtimePanic (.error "makeslice: len out of range")
    jp r
   else jp ()
  else do
   let k<-Builtin.lenOf x'
   pD el c' l cp n s' x' z k):=by
  intro kV z e3;cases z with
  |false=>
   refine aI.bind e3.ok (RA (hx.mono e3)) λwG k k' e4 h=> ?_
   subst h;have e:=e3.trans e4;exact Hm hz e.ok el l cp n aw k (gw.addr e hc) (hs.mono e) (hx.mono e)
  |true=>
   refine aI.bind e3.ok (aiR e3.ok (hx.mono e3)) λfB a a' e1 h=> ?_
   subst h;simp only
   split
   ·exact aI.bind (Q:=λ_ _ _=>False) e1.ok (jC e1.ok _) λ_ _ _ _ h=>h.elim
   ·refine aI.bind e1.ok (fL e1.ok _) λjJ i i' e2 h=> ?_
    obtain⟨rfl,_⟩:=h
    split
    ·refine aI.bind e2.ok (oF _) λkV c c' e3 h=> ?_
     subst h;exact aI.bind (Q:=λ_ _ _=>False) e3.ok (jC e3.ok _) λ_ _ _ _ h=>h.elim
    ·refine aI.bind (Q:=l8) e2.ok (aH rfl) λwG k k' e4 h=> ?_
     subst h;have e:=e3.trans (e1.trans (e2.trans e4));exact Hm hz e.ok el l cp n aA _ (gw.addr e hc) (hs.mono e) (hx.mono e)
 cases t1 with
 |none=>exact aI.bind (Q:=l8) e2.ok (aH rfl) λwG a b e4 h=>by subst h;exact tl wG a (e2.trans e4)
 |some tx=>
  refine aI.bind e2.ok (bN e2.ok tx) λkV d d' e3 hd=> ?_
  obtain⟨rfl,_⟩:=hd;exact aI.bind (Q:=l8) e3.ok (aH rfl) λwG a b e4 h=>by subst h;exact tl wG a (e2.trans (e3.trans e4))
theorem append_eq (ts:Array aF)(t:aF)(x:Array aq):Builtin.append_ ts t x=(match ts[0]?,x[0]?,x[1]? with
 |some tt,ae s,ae v=>do
  let .slice el<-underlying tt|stuck "append: slice type expected"
  let .slice base l cp:=s|stuck "append: slice expected"
  CN el ts[1]? base l cp s v
 |_,_,_=>stuck "append: two arguments expected"):=by
 unfold Builtin.append_ CN pD;cases ts[0]?<;>cases x[0]?<;>cases x[1]?<;>rfl
theorem Yq {π:Ren}(hz:sg P S)(ok:Ren.Ok P π)(ts:Array aF)(t:aF){x y:Array aq}(h:cK S π x y):aI P S (VQ S) (Builtin.append_ ts t x) π (Builtin.append_ ts t y):=by
 rw[append_eq,append_eq];have h0:=h.opt 0;have h1:=h.opt 1;revert h0 h1;generalize x[0]? =a;generalize y[0]? =a';generalize x[1]? =b;generalize y[1]? =b';generalize ts[1]? =t1;intro h0 h1;cases ts[0]? with
 |none=>cases h0<;>cases h1<;>exact rfl
 |some tt=>
  cases h0 with
  |none=>exact rfl
  |some hs=>
   cases h1 with
   |none=>exact rfl
   |some hx=>
    refine aI.bind ok (bN ok tt) λfB d d' e1 hd=> ?_
    obtain⟨rfl,_⟩:=hd;cases d with
    |slice el=>
     have Fi:=hs.mono e1;cases Fi with
     |j6 l cp=>exact MO hz e1.ok el t1 l cp .none (.j6 _ _) (hx.mono e1)
     |slice l cp ha=>exact MO hz e1.ok el t1 l cp (.some ha) (.slice _ _ ha) (hx.mono e1)
     |_=>exact rfl
    |_=>cases hs<;>exact rfl
def yu (elem:aF)(base:Option Addr)(ahc:Nat)(src:aq):Sem aq:=do
 let n:=Nat.min (<-Builtin.lenOf src) ahc
 let cells<-ie (<-sizeOf elem) n src
 if let ae a:=base then storeCells a cells.toList
 pure (goInt n)
theorem Hp {π:Ren}(ok:Ren.Ok P π)(el:aF){c c':Option Addr}(l:Nat){x x':aq}(hc:gw (dD π) c c')(hx:bx S π x x'):aI P S (VQ S) (yu el c l x) π (yu el c' l x'):=by
 unfold yu;refine aI.bind ok (RA hx) λfB n n' e1 h=> ?_
 subst h;refine aI.bind e1.ok (fN e1.ok el) λjJ k k' e2 h=> ?_
 subst h;refine aI.bind e2.ok (tZ e2.ok _ _ ((hx.mono e1).mono e2)) λkV v v' e3 hv=> ?_
 have hc3:=gw.addr (e1.trans (e2.trans e3)) hc;cases hc3 with
 |none=>exact aH (.int _ _)
 |some ha=>exact aI.bind e3.ok (ua e3.ok ha 0 (dj.l5 hv)) λwG _ _ e4 _=>aH (.int _ _)
theorem copy_eq (ts:Array aF)(t:aF)(x:Array aq):Builtin.copy_ ts t x=(match ts[0]?,x[0]?,x[1]? with
 |some tt,ae s,ae v=>do
  let .slice el<-underlying tt|stuck "copy: slice type expected"
  let .slice base l _:=s|stuck "copy: slice expected"
  yu el base l v
 |_,_,_=>stuck "copy: two arguments expected"):=by
 unfold Builtin.copy_ yu;cases ts[0]?<;>cases x[0]?<;>cases x[1]?<;>rfl
theorem aed {π:Ren}(ok:Ren.Ok P π)(ts:Array aF)(t:aF){x y:Array aq}(h:cK S π x y):aI P S (VQ S) (Builtin.copy_ ts t x) π (Builtin.copy_ ts t y):=by
 rw[copy_eq,copy_eq];have h0:=h.opt 0;have h1:=h.opt 1;revert h0 h1;generalize x[0]? =a;generalize y[0]? =a';generalize x[1]? =b;generalize y[1]? =b';intro h0 h1;cases ts[0]? with
 |none=>cases h0<;>cases h1<;>exact rfl
 |some tt=>
  cases h0 with
  |none=>exact rfl
  |some hs=>
   cases h1 with
   |none=>exact rfl
   |some hx=>
    refine aI.bind ok (bN ok tt) λfB d d' e1 hd=> ?_
    obtain⟨rfl,_⟩:=hd;cases d with
    |slice el=>
     have Fi:=hs.mono e1;cases Fi with
     |j6 l cp=>exact Hp e1.ok el l .none (hx.mono e1)
     |slice l cp ha=>exact Hp e1.ok el l (.some ha) (hx.mono e1)
     |_=>exact rfl
    |_=>cases hs<;>exact rfl
end
end Rel
namespace Rel
section
variable {P:aS} {S:jy}
theorem Ry {γ σ:Type}{f f':γ->σ->Sem (ForInStep σ)}{π:Ren}(ok:Ren.Ok P π)(h: ∀bO,Ext P π bO-> ∀x s,aI P S l8 (f x s) bO (f' x s)): ∀(l:List γ) (s:σ),aI P S l8 (forIn l s f) π (forIn l s f'):=by
 intro l
 induction l generalizing π with
 |nil=>intro s;exact aH rfl
 |cons a l ih=>
  intro s;rw[List.forIn_cons,List.forIn_cons];refine aI.bind ok (h π (Ext.refl ok) a s) λfB r r' e hr=> ?_
  subst hr;cases r with
  |done b=>exact aH rfl
  |yield b=>exact ih e.ok (λbO e'=>h bO (e.trans e')) b
theorem DL {γ σ:Type}{f f':γ->σ->Sem (ForInStep σ)}{π:Ren}(ok:Ren.Ok P π)(h: ∀bO,Ext P π bO-> ∀x s,aI P S l8 (f x s) bO (f' x s))(l:Array γ)(s:σ):aI P S l8 (forIn l s f) π (forIn l s f'):=by rw[<-Array.forIn_toList,<-Array.forIn_toList];exact Ry ok h _ _
theorem DN {σ:Type}{f f':Nat->σ->Sem (ForInStep σ)}{π:Ren}(ok:Ren.Ok P π)(h: ∀bO,Ext P π bO-> ∀x s,aI P S l8 (f x s) bO (f' x s))(r:Std.Legacy.Range)(s:σ):aI P S l8 (forIn r s f) π (forIn r s f'):=by rw[Std.Legacy.Range.forIn_eq_forIn_range',Std.Legacy.Range.forIn_eq_forIn_range'];exact Ry ok h _ _
theorem uQ {π:Ren}(ok:Ren.Ok P π){a b a' b':Addr}(ha:dD π a a')(hb:dD π b b'):(a==b)=(a'==b'):=by
 have key:a=b↔a'=b':=by
  constructor
  ·rintro rfl;have:=ok.fn _ _ _ ha.block hb.block;cases a';cases b'
   simp_all
   exact⟨ha.off.trans hb.off.symm,ha.spot.trans hb.spot.symm⟩
  ·rintro rfl;have:=ok.inj _ _ _ ha.block hb.block;cases a;cases b
   simp_all
   exact⟨ha.off.symm.trans hb.off,ha.spot.symm.trans hb.spot⟩
 by_cases h:a=b
 ·rw[beq_iff_eq.2 h,beq_iff_eq.2 (key.1 h)]
 ·rw[beq_eq_false_iff_ne.2 h,beq_eq_false_iff_ne.2 λe=>h (key.2 e)]
theorem zL {π:Ren}(ok:Ren.Ok P π){a b a' b':Nat}(ha:π a a')(hb:π b b'):(a==b)=(a'==b'):=by
 have key:a=b↔a'=b':=⟨λh=>by subst h;exact ok.fn _ _ _ ha hb,λh=>by subst h;exact ok.inj _ _ _ ha hb⟩;by_cases h:a=b
 ·rw[beq_iff_eq.2 h,beq_iff_eq.2 (key.1 h)]
 ·rw[beq_eq_false_iff_ne.2 h,beq_eq_false_iff_ne.2 λe=>h (key.2 e)]
theorem Br {π:Ren}(ok:Ren.Ok P π){a a':Addr}(h:dD π a a'):aI P S l8 (stringish a) π (stringish a'):=by
 unfold stringish;refine aI.bind ok (vz h) λfB x y e hx=> ?_
 subst hx;cases x with
 |true=>exact aH rfl
 |false=>
  simp only[e9,if_false];refine aI.bind e.ok (oq (e.le _ _ h.block)) λjJ x y e2 hx=> ?_
  subst hx;cases x with
  |none=>exact aH rfl
  |some x=>exact vz ⟨(e.trans e2).le _ _ h.block,rfl,rfl⟩
theorem PI {π:Ren}(ok:Ren.Ok P π){a b a' b':Addr}(ha:dD π a a')(hb:dD π b b'):aI P S l8 (mayBeOne a b) π (mayBeOne a' b'):=by
 unfold mayBeOne;refine aI.bind ok (Br ok ha) λfB x y e1 hx=> ?_
 subst hx;refine aI.bind e1.ok (Br e1.ok (hb.mono e1)) λjJ x y e2 hx=> ?_
 subst hx;refine aI.bind (Q:=l8) e2.ok (aI.bind e2.ok (oq ((ha.mono e1).mono e2).block) λkV x y e3 hx=>by subst hx;exact aH rfl) λkV x y e3 hx=> ?_
 subst hx;refine aI.bind (Q:=l8) e3.ok (aI.bind e3.ok (oq (((hb.mono e1).mono e2).mono e3).block) λkV x y e3 hx=>by subst hx;exact aH rfl) λwG x y e4 hx=> ?_
 subst hx;exact aH rfl
theorem DW {π:Ren}(ok:Ren.Ok P π){a b a' b':Addr}(ha:dD π a a')(hb:dD π b b'):aI P S l8 (sameAddr a b) π (sameAddr a' b'):=by
 unfold sameAddr;rw[zL ok ha.block hb.block,uQ ok ha hb]
 split
 ·exact aH rfl
 ·refine aI.bind ok (vz ha) λfB x y e1 hx=> ?_
  subst hx;refine aI.bind e1.ok (vz (hb.mono e1)) λjJ x y e2 hx=> ?_
  subst hx;have e12:=e1.trans e2
  split
  ·exact rfl
  ·refine aI.bind e2.ok (DV e2.ok (ha.mono e12)) λkV x y e3 hx=> ?_
   refine aI.bind e3.ok (DV e3.ok ((hb.mono e12).mono e3)) λwG x y e4 hx=> ?_
   have e:=(e12.trans e3).trans e4;refine aI.bind e4.ok (PI e4.ok (ha.mono e) (hb.mono e)) λKo x y e5 hx=> ?_
   subst hx;cases x with
   |true=>exact aI.bind e5.ok (oF _) λQi x y e6 hx=>by subst hx;exact aH rfl
   |false=>exact aH rfl
theorem j1 {π:Ren}(ok:Ren.Ok P π){a a':Addr}(h:dD π a a'):aI P S (λπ p q=>dD π p.1 q.1/\q.2=p.2) (behindNumber a) π (behindNumber a'):=by
 unfold behindNumber;refine aI.bind (Q:=λπ a b=>gw (λp q:Addr×Bool=>dD π p.1 q.1/\q.2=p.2) a b) ok ?_ λfB x y e hx=>by
  cases hx with
  |none=>exact aH ⟨h.mono e,rfl⟩
  |some k=>exact aH k
 unfold numberAt;refine aI.bind ok (oq h.block) λfB x y e hx=> ?_
 subst hx;cases x with
 |some x=>exact aH .none
 |none=>
  refine aI.bind e.ok (jB (e.le _ _ h.block)) λjJ o o' e2 ho=> ?_
  cases ho with
  |number l ha=>exact aH (.some ⟨ha,rfl⟩)
  |_=>exact aH .none
end
end Rel
namespace Rel
section
variable {P:aS} {S:jy}
def OX (t:aF)(a b:Addr):Sem Bool:=do
 let(a,b):=((<-behindNumber a).1,(<-behindNumber b).1)
 if a.block==b.block&&a.block<(<-program).globals.size then return (<-byteOf a)==(<-byteOf b)
 let .named "sync.copyChecker" _:=(<-typeInfo t).desc|unsupported .addressObserved
 if a==b then pure aA else unsupported .addressObserved
theorem Yv {π:Ren}(ok:Ren.Ok P π)(t:aF){a b a' b':Addr}(ha:dD π a a')(hb:dD π b b'):aI P S l8 (OX t a b) π (OX t a' b'):=by
 unfold OX;refine aI.bind ok (j1 ok ha) λfB p p' e1 hp=> ?_
 refine aI.bind e1.ok (j1 e1.ok (hb.mono e1)) λjJ q q' e2 hq=> ?_
 have h1:=hp.1.mono e2;have h2:=hq.1;refine aI.bind e2.ok iQ λkV r r' e3 hr=> ?_
 obtain⟨rfl,rfl⟩:=hr;have h1:=h1.mono e3;have h2:=h2.mono e3
 rename_i r'
 have hg:decide (p.1.block<r'.globals.size)=decide (p'.1.block<r'.globals.size):=decide_eq_decide.2 (e3.ok.WQ _ _ h1.block);rw[zL e3.ok h1.block h2.block,hg]
 split
 ·refine aI.bind e3.ok (qH e3.ok h1) λwG x y e4 hx=> ?_
  subst hx;refine aI.bind e4.ok (qH e4.ok (h2.mono e4)) λKo x y e5 hx=> ?_
  subst hx;exact aH rfl
 ·refine aI.bind e3.ok (fL e3.ok t) λwG i i' e4 hi=> ?_
  obtain⟨rfl,_⟩:=hi;rw[uQ e4.ok (h1.mono e4) (h2.mono e4)]
  split
  ·split
   ·exact aH rfl
   ·exact rfl
  ·exact rfl
theorem TO: ∀(d:Nat) (t:aF) {π:Ren} {x x' y y':aq},Ren.Ok P π->bx S π x x'->bx S π y y'->aI P S l8 (Op.equalIn d t x y) π (Op.equalIn d t x' y'):=by
 intro d
 induction d with
 |zero=>intros;exact rfl
 |succ d ih=>
  intro t π x x' y y' ok hx hy;refine aI.bind ok (bN ok t) λfB ds UX e1 hd=> ?_
  obtain⟨rfl,_⟩:=hd;have hx:=hx.mono e1;have hy:=hy.mono e1;cases ds with
  |bool=>cases hx<;>first|exact rfl|(cases hy<;>first|exact aH rfl|exact rfl)
  |int k=>
   cases hx with
   |int k a=>
    cases hy with
    |int k' b=>
     by_cases h:k=k'
     ·simp only[h,if_true];exact aH rfl
     ·simp only[h,if_false];exact rfl
    |pointer hb=>rcases a with(_|n)|n<;>first|exact aH rfl|exact rfl
    |fE=>rcases a with(_|n)|n<;>exact rfl
    |_=>exact rfl
   |pointer ha=>
    cases hy with
    |int k' b=>rcases b with(_|n)|n<;>first|exact aH rfl|exact rfl
    |pointer hb=>exact Yv e1.ok t ha hb
    |_=>exact rfl
   |fE=>cases hy<;>exact rfl
   |_=>cases hy<;>exact rfl
  |float k=>cases hx<;>first|exact rfl|(cases hy<;>exact rfl)
  |complex k=>cases hx<;>first|exact rfl|(cases hy<;>exact rfl)
  |string=>cases hx<;>first|exact rfl|(cases hy<;>first|exact aH rfl|exact rfl)
  |pointer el=>
   cases hx with
   |fE=>cases hy<;>first|exact aH rfl|exact rfl
   |pointer ha=>
    cases hy with
    |fE=>exact aH rfl
    |pointer hb=>
     refine aI.bind e1.ok (fN e1.ok el) λjJ n n' e2 h=> ?_
     subst h
     split
     ·exact DW e2.ok (ha.mono e2) (hb.mono e2)
     ·rw[uQ e2.ok (ha.mono e2) (hb.mono e2)]
      split
      ·exact aH rfl
      ·exact aI.bind e2.ok (oF _) λkV a b e3 h=>by subst h;exact aH rfl
    |_=>exact rfl
   |_=>exact rfl
  |unsafePointer=>
   cases hx with
   |fE=>cases hy<;>first|exact aH rfl|exact rfl
   |pointer ha=>
    cases hy with
    |fE=>exact aH rfl
    |pointer hb=>exact DW e1.ok ha hb
    |_=>exact rfl
   |_=>exact rfl
  |chan dd el=>cases hx<;>first|exact rfl|(cases hy<;>first|exact aH rfl|exact rfl)
  |interface ms=>
   cases hx with
   |nilIface=>cases hy<;>first|exact aH rfl|exact rfl
   |iface tx vx=>
    cases hy with
    |nilIface=>exact aH rfl
    |iface ty vy=>
     simp only
     split
     ·exact aH rfl
     ·refine aI.bind e1.ok (fL e1.ok tx) λjJ i i' e2 hi=> ?_
      obtain⟨rfl,_⟩:=hi
      split
      ·refine aI.bind e2.ok iQ λkV r r' e3 hr=> ?_
       obtain⟨rfl,rfl⟩:=hr;refine aI.bind e3.ok iQ λwG r r' e4 hr=> ?_
       obtain⟨rfl,rfl⟩:=hr
       split
       ·exact rfl
       ·refine aI.bind (Q:=l8) e4.ok (aI.bind e4.ok (fL e4.ok tx) λKo j j' e5 hj=> ?_) λKo s s' e5 h=> ?_
        ·obtain⟨rfl,_⟩:=hj;simp only
         split
         ·exact rfl
         ·exact aH rfl
        ·subst h;exact jC e5.ok _
      ·exact ih tx e2.ok (vx.mono e2) (vy.mono e2)
    |_=>exact rfl
   |_=>exact rfl
  |struct fs=>
   cases hx with
   |agg s1 h1=>
    cases hy with
    |agg s2 h2=>
     have hx:cK S fB _ _:=⟨s1,h1⟩;have hy:cK S fB _ _:=⟨s2,h2⟩;refine aI.bind e1.ok iQ λjJ r r' e2 hr=> ?_
     obtain⟨rfl,rfl⟩:=hr
     split
     ·exact rfl
     ·refine aI.bind (Q:=l8) e2.ok (DL e2.ok (λkV e3 f s=> ?_) fs _) λkV s s' e3 h=> ?_
      ·have e:=e2.trans e3
       split
       ·refine aI.bind e3.ok (o9 e3.ok _ (cK.mono e hx) _) λwG a a' e4 ha=> ?_
        refine aI.bind e4.ok (o9 e4.ok _ (cK.mono (e.trans e4) hy) _) λKo b b' e5 hb=> ?_
        refine aI.bind e5.ok (ih _ e5.ok (ha.mono e5) hb) λQi c c' e6 h=> ?_
        subst h;cases c<;>exact aH rfl
       ·exact aH rfl
      ·subst h;obtain⟨s1,s2⟩:=s;cases s1<;>exact aH rfl
    |_=>exact rfl
   |_=>exact rfl
  |array n el=>
   cases hx with
   |agg s1 h1=>
    cases hy with
    |agg s2 h2=>
     have hx:cK S fB _ _:=⟨s1,h1⟩;have hy:cK S fB _ _:=⟨s2,h2⟩;refine aI.bind e1.ok (fN e1.ok el) λjJ m m' e2 h=> ?_
     subst h;refine aI.bind (Q:=l8) e2.ok (DN e2.ok (λkV e3 f s=> ?_) _ _) λkV s s' e3 h=> ?_
     ·have e:=e2.trans e3;refine aI.bind e3.ok (o9 e3.ok _ (cK.mono e hx) _) λwG a a' e4 ha=> ?_
      refine aI.bind e4.ok (o9 e4.ok _ (cK.mono (e.trans e4) hy) _) λKo b b' e5 hb=> ?_
      refine aI.bind e5.ok (ih _ e5.ok (ha.mono e5) hb) λQi c c' e6 h=> ?_
      subst h;cases c<;>exact aH rfl
     ·subst h;obtain⟨s1,s2⟩:=s;cases s1<;>exact aH rfl
    |_=>exact rfl
   |_=>exact rfl
  |slice el=>cases hx<;>first|exact rfl|(cases hy<;>first|exact aH rfl|exact rfl)
  |map k v=>cases hx<;>first|exact rfl|(cases hy<;>first|exact aH rfl|exact rfl)
  |func a b c=>cases hx<;>first|exact rfl|(cases hy<;>first|exact aH rfl|exact rfl)
  |_=>cases hx<;>cases hy<;>exact rfl
theorem Rx (t:aF){π:Ren}{x x' y y':aq}(ok:Ren.Ok P π)(hx:bx S π x x')(hy:bx S π y y'):aI P S l8 (Op.equal t x y) π (Op.equal t x' y'):=TO _ t ok hx hy
end
end Rel
namespace Rel
section
variable {P:aS} {S:jy}
theorem iL.Rn {α β:Type}{R:α->β->Prop}: ∀{x:List α} {y:List β},dj R x y->iL R x.toArray y.toArray:=by
 intro x y h
 induction h with
 |nil=>exact⟨rfl,by simp⟩
 |cons jz _ ih=>
  refine⟨by simpa using ih.size,λi c d hc hd=> ?_⟩;cases i with
  |zero=>simp at hc hd;subst hc;subst hd;exact jz
  |succ i=>exact ih.at_ i c d (by simpa using hc) (by simpa using hd)
theorem iL.Hg {α β:Type}{R:α->β->Prop}{x:Array α}{y:Array β}(h:dj R x.toList y.toList):iL R x y:=by have:=iL.Rn h;simpa using this
abbrev AG (S:jy)(π:Ren):Array MapEntry->Array MapEntry->Prop:=iL (o0 S π)
abbrev UM (S:jy)(π:Ren):List MapEntry->List MapEntry->Prop:=dj (o0 S π)
abbrev NW (S:jy)(π:Ren):Option (Nat×aq)->Option (Nat×aq)->Prop:=gw λa b=>b.1=a.1/\bx S π a.2 b.2
theorem dj.mono {α β:Type}{R R':α->β->Prop}(h: ∀a b,R a b->R' a b){l:List α}{m:List β}(x:dj R l m):dj R' l m:=by
 induction x with
 |nil=>exact .nil
 |cons jz _ ih=>exact .cons (h _ _ jz) ih
theorem UM.mono {π bO:Ren}(e:Ext P π bO){l m:List MapEntry}(x:UM S π l m):UM S bO l m:=dj.mono (λ_ _ h=>h.mono e) x
theorem AG.mono {π bO:Ren}(e:Ext P π bO){l m:Array MapEntry}(x:AG S π l m):AG S bO l m:=iL.mono x λ_ _ h=>h.mono e
theorem tY (b:Bool): ∀(n:Nat) (t:aF) {π:Ren} {v v':aq},Ren.Ok P π->bx S π v v'->aI P S l8 (fJ b n t v) π (fJ b n t v'):=by
 intro n
 induction n with
 |zero=>intros;exact rfl
 |succ n ih=>
  intro t π v v' ok hv;refine aI.bind ok (bN ok t) λfB ds UX e1 hd=> ?_
  obtain⟨rfl,_⟩:=hd;have hv:=hv.mono e1;cases ds with
  |interface ms=>
   cases hv with
   |nilIface=>exact aH rfl
   |iface d hx=>
    refine aI.bind e1.ok (fL e1.ok d) λjJ i i' e2 hi=> ?_
    obtain⟨rfl,_⟩:=hi
    split
    ·split
     ·exact j2 e2.ok (.unhashable d) (.unhashable d) ⟨by simp,by simp⟩
     ·refine aI.bind (Q:=l8) e2.ok (aI.bind e2.ok (fL e2.ok d) λKo j j' e5 hj=> ?_) λKo s s' e5 h=> ?_
      ·obtain⟨rfl,_⟩:=hj;simp only
       split
       ·exact rfl
       ·exact aH rfl
      ·subst h;exact jC e5.ok _
    ·exact ih d e2.ok (hx.mono e2)
   |_=>exact rfl
  |array len el=>
   cases hv with
   |agg s h=>
    have hc:cK S fB _ _:=⟨s,h⟩;refine aI.bind (Q:=l8) e1.ok (DN e1.ok (λkV e3 f s=> ?_) _ _) λkV s s' e3 h=>aH rfl
    refine aI.bind e3.ok (fN e3.ok el) λwG m m' e4 h=> ?_
    subst h;refine aI.bind e4.ok (o9 e4.ok _ (cK.mono (e3.trans e4) hc) _) λKo a a' e5 ha=> ?_
    exact aI.bind e5.ok (ih _ e5.ok ha) λQi _ _ e6 _=>aH rfl
   |_=>exact rfl
  |struct fs=>
   cases hv with
   |agg s h=>
    have hc:cK S fB _ _:=⟨s,h⟩;refine aI.bind (Q:=l8) e1.ok (DL e1.ok (λkV e3 f s=> ?_) _ _) λkV s s' e3 h=>aH rfl
    split
    ·refine aI.bind e3.ok (o9 e3.ok _ (cK.mono e3 hc) _) λKo a a' e5 ha=> ?_
     exact aI.bind e5.ok (ih _ e5.ok ha) λQi _ _ e6 _=>aH rfl
    ·exact aH rfl
   |_=>exact rfl
  |_=>exact aH rfl
theorem JL (t:aF): ∀{l m:List MapEntry} {π:Ren} {k k':aq} (i:Nat),Ren.Ok P π->UM S π l m->bx S π k k'->aI P S (λπ=>NW S π) (Instr.findAsking t k l i) π (Instr.findAsking t k' m i):=by
 intro l
 induction l with
 |nil=>intro m π k k' i ok h hk;cases h;exact aH .none
 |cons a l ih=>
  intro m π k k' i ok h hk;cases h with
  |cons jz hr=>
   refine aI.bind ok (Rx t ok hk jz.key) λfB b b' e h=> ?_
   subst h;cases b with
   |true=>exact aH (.some ⟨rfl,jz.val.mono e⟩)
   |false=>exact ih (i+1) e.ok (UM.mono e hr) (hk.mono e)
theorem Nd {π:Ren}(d:TypeDesc){a a' b b':aq}(ha:bx S π a a')(hb:bx S π b b'):Instr.sameNow d a b=Instr.sameNow d a' b':=by
 cases ha with
 |int=>cases d<;>cases hb<;>rfl
 |string=>cases d<;>cases hb<;>rfl
 |bool=>cases d<;>cases hb<;>rfl
 |_=>cases d<;>rfl
theorem Ln {π:Ren}(d:TypeDesc){k k':aq}(hk:bx S π k k'): ∀{l m:List MapEntry} (i:Nat),UM S π l m->gw (NW S π) (Instr.findNow d k l i) (Instr.findNow d k' m i):=by
 intro l
 induction l with
 |nil=>intro m i h;cases h;exact .some .none
 |cons a l ih=>
  intro m i h;cases h with
  |cons jz hr=>
   unfold Instr.findNow;rw[Nd d hk jz.key]
   split
   ·exact .some (.some ⟨rfl,jz.val⟩)
   ·exact ih (i+1) hr
   ·exact .none
theorem Ae {π:Ren}(ok:Ren.Ok P π)(t:aF){k k':aq}(hk:bx S π k k'){l m:List MapEntry}(h:UM S π l m):aI P S (λπ=>NW S π) (j8 t k l) π (j8 t k' m):=by
 unfold j8;refine aI.bind ok (bN ok t) λfB d d' e1 hd=> ?_
 obtain⟨rfl,_⟩:=hd;have:=Ln d (hk.mono e1) 0 (UM.mono e1 h);revert this;generalize Instr.findNow d k l 0=r;generalize Instr.findNow d k' m 0=r';intro hr;cases hr with
 |none=>exact JL t 0 e1.ok (UM.mono e1 h) (hk.mono e1)
 |some hf=>exact aH hf
theorem Cd {π:Ren}{l m:Array MapEntry}(h:AG S π l m):m.isEmpty=l.isEmpty:=by simp only[Array.isEmpty,h.size]
theorem aiT {π:Ren}(hz:sg P S)(ok:Ren.Ok P π)(kt el:aF){ix ix':aq}(hi:bx S π ix ix')(c:Bool){es lk:Array MapEntry}(h:AG S π es lk):aI P S (VQ S) (do
                                                                                                                                    fJ es.isEmpty 10000 kt ix
                                                                                                                                    let(v,ok)<-match<-j8 kt ix es.toList with
                                                                                                                                     |some (_,v)=>pure (v,aA)
                                                                                                                                     |none=>pure (<-zeroValue el,aw)
                                                                                                                                    pure (if c then .tuple #[v,.bool ok]else v)) π (do
                                                                                                                                    fJ lk.isEmpty 10000 kt ix'
                                                                                                                                    let(v,ok)<-match<-j8 kt ix' lk.toList with
                                                                                                                                     |some (_,v)=>pure (v,aA)
                                                                                                                                     |none=>pure (<-zeroValue el,aw)
                                                                                                                                    pure (if c then .tuple #[v,.bool ok]else v)):=by
 have fin: ∀(bO:Ren) (v v':aq) (b:Bool),bx S bO v v'->bx S bO (if c then .tuple #[v,.bool b]else v) (if c then .tuple #[v',.bool b]else v'):=by
  intro bO v v' b hv;cases c with
  |false=>exact hv
  |true=>
   refine .tuple rfl λi x y hx hy=> ?_
   match i,hx,hy with
   |0,hx,hy=>simp at hx hy;subst hx;subst hy;exact hv
   |1,hx,hy=>simp at hx hy;subst hx;subst hy;exact .bool _
   |i+2,hx,_=>simp at hx
 rw[Cd h];refine aI.bind ok (tY _ _ _ ok hi) λfB _ _ e1 _=> ?_
 refine aI.bind e1.ok (Ae e1.ok kt (hi.mono e1) (UM.mono e1 (dj.l5 h))) λjJ f f' e2 hf=> ?_
 cases hf with
 |none=>
  refine aI.bind e2.ok (lC hz e2.ok el) λkV z z' e3 hz3=> ?_
  obtain⟨rfl,hf⟩:=hz3;exact aI.bind (Q:=λπ a b=>b.2=a.2/\bx S π a.1 b.1) e3.ok (aH ⟨rfl,hf kV⟩) λwG a b e4 jz=>by obtain⟨a1,a2⟩:=a;obtain⟨b1,b2⟩:=b;obtain⟨h1,h2⟩:=jz;simp only at h1 h2;subst h1;exact aH (fin _ _ _ _ h2)
 |some hv=>
  rename_i a b
  obtain⟨a1,a2⟩:=a;obtain⟨b1,b2⟩:=b;exact aI.bind (Q:=λπ a b=>b.2=a.2/\bx S π a.1 b.1) e2.ok (aH ⟨rfl,hv.2⟩) λwG a b e4 jz=>by obtain⟨a1,a2⟩:=a;obtain⟨b1,b2⟩:=b;obtain⟨h1,h2⟩:=jz;simp only at h1 h2;subst h1;exact aH (fin _ _ _ _ h2)
theorem Yx {π:Ren}(hz:sg P S)(ok:Ren.Ok P π)(t:aF){x x' ix ix':aq}(hx:bx S π x x')(hi:bx S π ix ix')(c:Bool):aI P S (VQ S) (lj t x ix c) π (lj t x' ix' c):=by
 unfold lj;refine aI.bind ok (bN ok t) λfB d d' e1 hd=> ?_
 obtain⟨rfl,_⟩:=hd;have hx:=hx.mono e1;have hi:=hi.mono e1;cases d with
 |map kt el=>
  cases hx with
  |xN=>exact aI.bind (Q:=λπ a b=>AG S π a b) e1.ok (aH ⟨rfl,by simp⟩) λjJ a b e2 jz=>aiT hz e2.ok kt el (hi.mono e2) c jz
  |map hr=>
   refine aI.bind e1.ok (jB hr) λjJ o o' e2 ho=> ?_
   cases ho with
   |map cl tn=>exact aI.bind (Q:=λπ a b=>AG S π a b) e2.ok (aH tn) λkV a b e3 jz=>aiT hz e3.ok kt el (hi.mono (e2.trans e3)) c jz
   |_=>exact rfl
  |_=>exact rfl
 |_=>exact rfl
theorem TS {π:Ren}(ok:Ren.Ok P π)(t:aF){r r':Option aq}(h:gw (bx S π) r r'):aI P S (VQ S) (Instr.makeMap t r) π (Instr.makeMap t r'):=by
 unfold Instr.makeMap;have tl: ∀{fB:Ren},Ren.Ok P fB->aI P S (VQ S) (do pure (Value.map (ae (<-newObj (.map #[] 0))))) fB (do pure (Value.map (ae (<-newObj (.map #[] 0))))):=λ{fB} ok1=>aI.bind ok1 (Ht (.map 0 ⟨rfl,by simp⟩)) λjJ a b e jz=>aH (.map jz)
 cases h with
 |none=>exact tl ok
 |some hv=>
  refine aI.bind ok (bN ok t) λfB d d' e1 hd=> ?_
  obtain⟨rfl,_⟩:=hd;cases d with
  |map kt el=>exact aI.bind e1.ok (aiR e1.ok (hv.mono e1)) λjJ _ _ e2 _=>tl e2.ok
  |_=>exact rfl
end
end Rel
namespace Rel
section
variable {P:aS} {S:jy}
theorem Qf {π:Ren}{f g:aq×aq->Bool}(hfg: ∀a a' b b',bx S π a a'->bx S π b b'->f (a,b)=g (a',b')): ∀{x x' y y':List aq},dj (bx S π) x x'->dj (bx S π) y y'->(x.zip y).all f=(x'.zip y').all g:=by
 intro x x' y y' hx
 induction hx generalizing y y' with
 |nil=>intro _;rfl
 |cons ha _ ih=>
  intro hy;cases hy with
  |nil=>rfl
  |cons hb hr=>simp only[List.zip_cons_cons,List.all_cons,hfg _ _ _ _ ha hb,ih hr]
theorem JY {π:Ren}(ok:Ren.Ok P π): ∀(n:Nat) {a a' b b':aq},bx S π a a'->bx S π b b'->Instr.sameBits n a b=Instr.sameBits n a' b':=by
 intro n
 induction n with
 |zero=>
  intro a a' b b' ha hb;cases ha with
  |pointer x=>cases hb with
   |pointer y=>show(ae _==ae _)=(ae _==ae _);rw[Option.some_beq_some,Option.some_beq_some];exact uQ ok x y
   |_=>rfl
  |fE=>cases hb<;>rfl
  |bool|int|string|uT|nilIface=>cases hb<;>rfl
  |_=>cases hb<;>rfl
 |succ n ih=>
  intro a a' b b' ha hb;cases ha with
  |pointer x=>cases hb with
   |pointer y=>show(ae _==ae _)=(ae _==ae _);rw[Option.some_beq_some,Option.some_beq_some];exact uQ ok x y
   |_=>rfl
  |iface t h=>cases hb with
   |iface u k=>show(t==u&&_)=(t==u&&_);rw[ih h k]
   |_=>rfl
  |agg s h=>cases hb with
   |agg s' h'=>show(_==_&&List.all _ _)=(_==_&&List.all _ _);rw[s,s',Qf (S:=S) (π:=π) (g:=λ(x,y)=>Instr.sameBits n x y) (λa a' b b' ha hb=>ih ha hb) (dj.l5 ⟨s,h⟩) (dj.l5 ⟨s',h'⟩)]
   |_=>rfl
  |_=>cases hb<;>rfl
theorem DT {π:Ren}(ok:Ren.Ok P π){a a' b b':aq}(ha:bx S π a a')(hb:bx S π b b'):aI P S (VQ S) (Instr.keyThatStays a b) π (Instr.keyThatStays a' b'):=by
 unfold Instr.keyThatStays;rw[JY ok _ ha hb]
 split
 ·exact aH hb
 ·refine aI.bind ok (oF _) λfB c c' e h=> ?_
  subst h
  split
  ·exact aH (hb.mono e)
  ·exact aH (ha.mono e)
theorem agj {π:Ren}{es lk:Array MapEntry}(h:AG S π es lk)(i:Nat){k k':aq}(hk:bx S π k k'):bx S π (((es[i]?).map (·.key)).getD k) (((lk[i]?).map (·.key)).getD k'):=by
 have:=h.opt i;revert this;generalize es[i]? =a;generalize lk[i]? =b;intro jz;cases jz with
 |none=>exact hk
 |some h=>exact h.key
theorem AG.modify {π:Ren}{es lk:Array MapEntry}(h:AG S π es lk)(i:Nat){f g:MapEntry->MapEntry}(hfg: ∀a b,o0 S π a b->o0 S π (f a) (g b)):AG S π (es.modify i f) (lk.modify i g):=by
 refine⟨by simp[h.size],λj a b ha hb=> ?_⟩;rw[bw]at ha hb
 split at ha
 ·rename_i LM
  rw[if_pos LM]at hb;obtain⟨c,hc,rfl⟩:=aK.1 ha;obtain⟨d,hd,rfl⟩:=aK.1 hb;exact hfg _ _ (h.at_ j c d hc hd)
 ·rename_i LM
  rw[if_neg LM]at hb;exact h.at_ j a b ha hb
theorem dj.eraseIdx {α β:Type}{R:α->β->Prop}{l:List α}{m:List β}(h:dj R l m): ∀i,dj R (l.eraseIdx i) (m.eraseIdx i):=by
 induction h with
 |nil=>intro i;exact .nil
 |cons ha hr ih=>
  intro i;cases i with
  |zero=>exact hr
  |succ i=>exact .cons ha (ih i)
theorem AG.erase {π:Ren}{es lk:Array MapEntry}(h:AG S π es lk)(i:Nat):AG S π (es.eraseIdxIfInBounds i) (lk.eraseIdxIfInBounds i):=by refine iL.Hg ?_;rw[Array.toList_eraseIdxIfInBounds,Array.toList_eraseIdxIfInBounds];exact dj.eraseIdx (dj.l5 h) i
theorem MX {π:Ren}(ok:Ren.Ok P π)(t:aF){m m' k k' v v':aq}(hm:bx S π m m')(hk:bx S π k k')(hv:bx S π v v'):aI P S l8 (Instr.mapUpdate t m k v) π (Instr.mapUpdate t m' k' v'):=by
 unfold Instr.mapUpdate;refine aI.bind ok (bN ok t) λfB d d' e1 hd=> ?_
 obtain⟨rfl,_⟩:=hd;cases d with
 |map kt el=>
  cases hm.mono e1 with
  |xN=>exact j2 e1.ok (.plain _) (.plain _) ⟨by simp,by simp⟩
  |map hr=>
   refine aI.bind e1.ok (jB hr) λjJ o o' e2 ho=> ?_
   cases ho with
   |map cl tn=>
    have e:=e1.trans e2;refine aI.bind e2.ok (tY _ _ _ e2.ok (hk.mono e)) λkV _ _ e3 _=> ?_
    have e:=e.trans e3;refine aI.bind e3.ok (Ae e3.ok kt (hk.mono e) (UM.mono e3 (dj.l5 tn))) λwG f f' e4 hf=> ?_
    have e:=e.trans e4;have tn:=AG.mono (e3.trans e4) tn;have hr:=(e2.trans (e3.trans e4)).le _ _ hr;cases hf with
    |none=>exact mq hr (.map _ (iL.push tn ⟨hk.mono e,hv.mono e,rfl⟩))
    |some jz=>
     rename_i a b
     obtain⟨a1,a2⟩:=a;obtain⟨b1,b2⟩:=b;obtain⟨h1,h2⟩:=jz;simp only at h1 h2;subst h1;refine aI.bind e4.ok (DT e4.ok (agj tn _ (hk.mono e)) (hk.mono e)) λKo x y e5 rm=> ?_
     exact mq (e5.le _ _ hr) (.map _ (AG.modify (AG.mono e5 tn) _ λa b jz=>⟨rm,hv.mono (e.trans e5),jz.born⟩))
   |_=>exact rfl
  |_=>exact rfl
 |_=>exact rfl
theorem JJ {π:Ren}(ok:Ren.Ok P π)(kt:aF){m m' k k':aq}(hm:bx S π m m')(hk:bx S π k k'):aI P S (VQ S) (do
 match m with
 | .map ai=>fJ aA 10000 kt k
 | .map (ae r)=>
   let .map es clock<-getObj r|stuck "delete: map expected"
   fJ es.isEmpty 10000 kt k
   match<-j8 kt k es.toList with
   |some (i,_)=>setObj r (.map (es.eraseIdxIfInBounds i) clock)
   |none=>setObj r (.map es clock)
 |_=>stuck "delete: map expected"
 pure (.tuple #[])) π (do
 match m' with
 | .map ai=>fJ aA 10000 kt k'
 | .map (ae r)=>
   let .map es clock<-getObj r|stuck "delete: map expected"
   fJ es.isEmpty 10000 kt k'
   match<-j8 kt k' es.toList with
   |some (i,_)=>setObj r (.map (es.eraseIdxIfInBounds i) clock)
   |none=>setObj r (.map es clock)
 |_=>stuck "delete: map expected"
 pure (.tuple #[])):=by
 have unit: ∀bO,bx S bO (.tuple #[]) (.tuple #[]):=λbO=>.tuple rfl (by simp)
 cases hm with
 |xN=>exact aI.bind ok (tY _ _ _ ok hk) λfB _ _ e _=>aH (unit _)
 |map hr=>
  refine aI.bind ok (jB hr) λjJ o o' e2 ho=> ?_
  cases ho with
  |map cl tn=>
   simp only[Cd tn];refine aI.bind e2.ok (tY _ _ _ e2.ok (hk.mono e2)) λkV _ _ e3 _=> ?_
   have e:=e2.trans e3;refine aI.bind e3.ok (Ae e3.ok kt (hk.mono e) (UM.mono e3 (dj.l5 tn))) λwG f f' e4 hf=> ?_
   have e:=e.trans e4;have tn:=AG.mono (e3.trans e4) tn;have hr:=e.le _ _ hr;cases hf with
   |none=>exact aI.bind e4.ok (mq hr (.map _ tn)) λ_ _ _ e _=>aH (unit _)
   |some jz=>
    rename_i a b
    obtain⟨a1,a2⟩:=a;obtain⟨b1,b2⟩:=b;obtain⟨h1,h2⟩:=jz;simp only at h1 h2;subst h1;exact aI.bind e4.ok (mq hr (.map _ (AG.erase tn _))) λ_ _ _ e _=>aH (unit _)
  |_=>exact rfl
 |_=>exact rfl
theorem Gm (ts:Array aF)(t:aF)(x:Array aq):lI ts t x=(match ts[0]?,x[0]?,x[1]? with
 |some tt,ae m,ae k=>do
  let .map kt _<-underlying tt|stuck "delete: map type expected"
  match m with
  | .map ai=>fJ aA 10000 kt k
  | .map (ae r)=>
    let .map es clock<-getObj r|stuck "delete: map expected"
    fJ es.isEmpty 10000 kt k
    match<-j8 kt k es.toList with
    |some (i,_)=>setObj r (.map (es.eraseIdxIfInBounds i) clock)
    |none=>setObj r (.map es clock)
  |_=>stuck "delete: map expected"
  pure (.tuple #[])
 |_,_,_=>stuck "delete: two arguments expected"):=by
 unfold lI;cases ts[0]?<;>cases x[0]?<;>cases x[1]?<;>rfl
theorem Ys {π:Ren}(ok:Ren.Ok P π)(ts:Array aF)(t:aF){x y:Array aq}(h:cK S π x y):aI P S (VQ S) (lI ts t x) π (lI ts t y):=by
 rw[Gm,Gm];have h0:=h.opt 0;have h1:=h.opt 1;revert h0 h1;generalize x[0]? =a;generalize y[0]? =a';generalize x[1]? =b;generalize y[1]? =b';intro h0 h1;cases ts[0]? with
 |none=>cases h0<;>cases h1<;>exact rfl
 |some tt=>
  cases h0 with
  |none=>exact rfl
  |some hs=>
   cases h1 with
   |none=>exact rfl
   |some hx=>
    refine aI.bind ok (bN ok tt) λfB d d' e1 hd=> ?_
    obtain⟨rfl,_⟩:=hd;cases d with
    |map kt el=>exact JJ e1.ok kt (hs.mono e1) (hx.mono e1)
    |_=>exact rfl
theorem abu {π:Ren}(ok:Ren.Ok P π)(t:aF){x x':aq}(hx:bx S π x x'):aI P S (VQ S) (Instr.range t x) π (Instr.range t x'):=by
 unfold Instr.range;have tl: ∀{fB:Ren} {o o':Obj},Ren.Ok P fB->ku S fB o o'->aI P S (VQ S) (do let it<-pure o;pure (.pointer (ae ⟨<-newObj it,0,ai⟩))) fB (do let it<-pure o';pure (.pointer (ae ⟨<-newObj it,0,ai⟩))):=λ{fB o o'} ok1 ho=>aI.bind (Q:=λπ a b=>ku S π a b) ok1 (aH ho) λjJ a b e jz=>aI.bind e.ok (Ht jz) λkV r r' e3 hr=>aH (.pointer ⟨hr,rfl,rfl⟩)
 refine aI.bind ok (bN ok t) λfB d d' e1 hd=> ?_
 obtain⟨rfl,_⟩:=hd;cases d with
 |string=>cases hx.mono e1<;>first|exact tl e1.ok (.stringIter _ _)|exact rfl
 |map kt el=>
  cases hx.mono e1 with
  |xN=>exact tl e1.ok (.mapIter _ _ _ .none)
  |map hr=>
   refine aI.bind e1.ok (jB hr) λjJ o o' e2 ho=> ?_
   cases ho with
   |map cl tn=>exact tl e2.ok (.mapIter _ _ _ (.some (e2.le _ _ hr)))
   |_=>exact rfl
  |_=>exact rfl
 |_=>cases hx<;>exact rfl
end
end Rel
namespace Rel
section
variable {P:aS} {S:jy}
theorem dj.filter {α β:Type}{R:α->β->Prop}{p:α->Bool}{q:β->Bool}(Xx: ∀a b,R a b->p a=q b){l:List α}{m:List β}(h:dj R l m):dj R (l.filter p) (m.filter q):=by
 induction h with
 |nil=>exact .nil
 |cons jz _ ih=>
  rw[List.filter_cons,List.filter_cons,Xx _ _ jz]
  split
  ·exact .cons jz ih
  ·exact ih
theorem dj.allEq {α β:Type}{R:α->β->Prop}{p:α->Bool}{q:β->Bool}(Xx: ∀a b,R a b->p a=q b){l:List α}{m:List β}(h:dj R l m):l.all p=m.all q:=by
 induction h with
 |nil=>rfl
 |cons jz _ ih=>rw[List.all_cons,List.all_cons,Xx _ _ jz,ih]
theorem dj.find {α β:Type}{R:α->β->Prop}{p:α->Bool}{q:β->Bool}(Xx: ∀a b,R a b->p a=q b){l:List α}{m:List β}(h:dj R l m):gw R (l.find? p) (m.find? q):=by
 induction h with
 |nil=>exact .none
 |cons jz _ ih=>
  rw[nK,nK,Xx _ _ jz]
  split
  ·exact .some jz
  ·exact ih
theorem AG.filter {π:Ren}{p q:MapEntry->Bool}(Xx: ∀a b,o0 S π a b->p a=q b){l m:Array MapEntry}(h:AG S π l m):AG S π (l.filter p) (m.filter q):=by refine iL.Hg ?_;rw[Array.toList_filter,Array.toList_filter];exact dj.filter Xx (dj.l5 h)
theorem iL.append {α β:Type}{R:α->β->Prop}{x y:Array α}{x' y':Array β}(h:iL R x x')(k:iL R y y'):iL R (x++y) (x'++y'):=by
 refine⟨by simp[h.size,k.size],λi a b ha hb=> ?_⟩;rw[Array.getElem?_append]at ha hb;rw[<-h.size]at hb
 split at ha
 ·rename_i hi;rw[if_pos hi]at hb;exact h.at_ i a b ha hb
 ·rename_i hi;rw[if_neg hi]at hb;exact k.at_ _ a b ha hb
theorem iL.map {α β γ δ:Type}{R:α->β->Prop}{R':γ->δ->Prop}{f:α->γ}{g:β->δ}(hfg: ∀a b,R a b->R' (f a) (g b)){x:Array α}{y:Array β}(h:iL R x y):iL R' (x.map f) (y.map g):=by refine⟨by simp[h.size],λi a b ha hb=> ?_⟩;rw[gq]at ha hb;obtain⟨c,hc,rfl⟩:=aK.1 ha;obtain⟨d,hd,rfl⟩:=aK.1 hb;exact hfg _ _ (h.at_ i c d hc hd)
theorem aep {π:Ren}{a a':aq}(h:bx S π a a'):bx S π (.tuple #[a]) (.tuple #[a']):=by
 refine .tuple rfl λi x y hx hy=> ?_
 match i,hx,hy with
 |0,hx,hy=>simp at hx hy;subst hx;subst hy;exact h
 |i+1,hx,_=>simp at hx
theorem ah1 {π:Ren}{a a' b b':aq}(h:bx S π a a')(k:bx S π b b'):bx S π (.tuple #[a,b]) (.tuple #[a',b']):=by
 refine .tuple rfl λi x y hx hy=> ?_
 match i,hx,hy with
 |0,hx,hy=>simp at hx hy;subst hx;subst hy;exact h
 |1,hx,hy=>simp at hx hy;subst hx;subst hy;exact k
 |i+2,hx,_=>simp at hx
theorem agH {π:Ren}{a a' b b' c c':aq}(h:bx S π a a')(k:bx S π b b')(l:bx S π c c'):bx S π (.tuple #[a,b,c]) (.tuple #[a',b',c']):=by
 refine .tuple rfl λi x y hx hy=> ?_
 match i,hx,hy with
 |0,hx,hy=>simp at hx hy;subst hx;subst hy;exact h
 |1,hx,hy=>simp at hx hy;subst hx;subst hy;exact k
 |2,hx,hy=>simp at hx hy;subst hx;subst hy;exact l
 |i+3,hx,_=>simp at hx
def Jq (r m since:Nat)(seen:Array Nat)(last:Nat):Sem aq:=do
 let .map es clock<-getObj m|stuck "Next: map expected"
 if !seen.isEmpty&& !es.isEmpty&&es.all (·.born≥last)then unsupported (.noEntry "instr/Next: every entry that the ranged map held at the last iteration is gone, and it holds new ones")
 let left:=es.filter λe=> !seen.contains e.born
 let old:=left.filter (·.born<since)
 let new:=left.filter (·.born≥since)
 let candidates:=(if old.isEmpty then #[ai]else #[])++(old++new).map ae
 match candidates[<-choose (.mapNext candidates.size)]? with
 |some (ae e)=>
  setObj r (.mapIter (ae m) since (seen.push e.born) clock)
  pure (.tuple #[.bool aA,e.key,e.val])
 |some ai=>pure (.tuple #[.bool aw])
 |none=>stuck "Next: no such candidate"
theorem TT {π:Ren}(ok:Ren.Ok P π){r r' m m':Nat}(hr:π r r')(hm:π m m')(since:Nat)(seen:Array Nat)(last:Nat):aI P S (VQ S) (Jq r m since seen last) π (Jq r' m' since seen last):=by
 unfold Jq;refine aI.bind ok (jB hm) λjJ o o' e2 ho=> ?_
 cases ho with
 |map cl tn=>
  rename_i es lk
  have wJ:es.all (·.born≥last)=lk.all (·.born≥last):=by rw[<-Array.all_toList,<-Array.all_toList];exact dj.allEq (λa b h=>by simp only[h.born]) (dj.l5 tn)
  simp only[Cd tn,wJ]
  split
  ·exact rfl
  ·have acx:AG S jJ (es.filter λe=> !seen.contains e.born) (lk.filter λe=> !seen.contains e.born):=AG.filter (λa b h=>by simp only[h.born]) tn;have hold:=AG.filter (p:=λx=>decide (x.born<since)) (q:=λx=>decide (x.born<since)) (λa b h=>by simp only[h.born]) acx;have OJ:=AG.filter (p:=λx=>decide (x.born≥since)) (q:=λx=>decide (x.born≥since)) (λa b h=>by simp only[h.born]) acx;simp only[<-Cd hold];generalize ho:(es.filter λe=> !seen.contains e.born).filter (λx=>decide (x.born<since))=old at*;generalize U9:(lk.filter λe=> !seen.contains e.born).filter (λx=>decide (x.born<since))=Tw at*;generalize hn:(es.filter λe=> !seen.contains e.born).filter (λx=>decide (x.born≥since))=new at*;generalize Q0:(lk.filter λe=> !seen.contains e.born).filter (λx=>decide (x.born≥since))=agq at*;have hc:iL (gw (o0 S jJ)) ((if Tw.isEmpty then #[ai]else #[])++(old++new).map ae) ((if Tw.isEmpty then #[ai]else #[])++(Tw++agq).map ae):=by
    refine iL.append ?_ (iL.map (λa b h=>.some h) (iL.append hold OJ))
    split
    ·refine⟨rfl,λi a b ha hb=> ?_⟩
     match i,ha,hb with
     |0,ha,hb=>simp at ha hb;subst ha;subst hb;exact .none
     |i+1,ha,_=>simp at ha
    ·exact⟨rfl,by simp⟩
   generalize (if Tw.isEmpty then #[ai]else #[])++(old++new).map ae=cs at hc;generalize (if Tw.isEmpty then #[ai]else #[])++(Tw++agq).map ae=cs' at hc;rw[<-hc.size];refine aI.bind e2.ok (oF _) λkV c c' e3 h=> ?_
   subst h;have:=hc.opt c;revert this;generalize cs[c]? =x;generalize cs'[c]? =y;intro rm;cases rm with
   |none=>exact rfl
   |some jz=>
    cases jz with
    |none=>exact aH (aep (.bool _))
    |some h=>
     have e:=e2.trans e3;simp only;rw[h.born];refine aI.bind e3.ok (mq (e.le _ _ hr) (.mapIter _ _ _ (.some (e.le _ _ hm)))) λwG _ _ e4 _=> ?_
     exact aH (agH (.bool _) (h.key.mono (e3.trans e4)) (h.val.mono (e3.trans e4)))
 |_=>exact rfl
theorem aeh {π:Ren}(ok:Ren.Ok P π)(isS:Bool)(t:aF){x x':aq}(hx:bx S π x x'):aI P S (VQ S) (Instr.next x isS t) π (Instr.next x' isS t):=by
 unfold Instr.next;cases hx with
 |pointer ha=>
  rename_i a b
  obtain⟨r,off,sp⟩:=a;obtain⟨r',ad7,sp'⟩:=b;obtain⟨h1,h2,h3⟩:=ha;simp only at h1 h2 h3;subst h2;subst h3;cases ad7 with
  |succ n=>exact rfl
  |zero=>
   refine aI.bind ok (jB h1) λfB o o' e1 ho=> ?_
   cases ho with
   |stringIter s p=>
    cases isS with
    |false=>exact rfl
    |true=>
     simp only
     split
     ·exact aI.bind e1.ok (mq (e1.le _ _ h1) (.stringIter _ _)) λjJ _ _ e2 _=>aH (agH (.bool _) (.int _ _) (.int _ _))
     ·exact aH (aep (.bool _))
   |mapIter since seen nG hm=>
    cases isS with
    |true=>cases hm<;>exact rfl
    |false=>
     cases hm with
     |none=>exact aH (aep (.bool _))
     |some hm=>exact TT e1.ok (e1.le _ _ h1) hm since seen nG
   |_=>cases isS<;>exact rfl
 |_=>exact rfl
theorem abp {π:Ren}(ok:Ren.Ok P π){x x':aq}(hx:bx S π x x'):aI P S (VQ S) (Instr.entry x) π (Instr.entry x'):=by
 unfold Instr.entry;cases hx with
 |pointer ha=>
  rename_i a b
  obtain⟨r,off,sp⟩:=a;obtain⟨r',ad7,sp'⟩:=b;obtain⟨h1,h2,h3⟩:=ha;simp only at h1 h2 h3;subst h2;subst h3;cases ad7 with
  |succ n=>exact rfl
  |zero=>
   refine aI.bind ok (jB h1) λfB o o' e1 ho=> ?_
   cases ho with
   |mapIter since seen nG hm=>
    cases hm with
    |none=>exact rfl
    |some hm=>
     simp only;cases seen.back? with
     |none=>exact rfl
     |some RP=>
      refine aI.bind e1.ok (jB hm) λjJ o o' e2 ho=> ?_
      cases ho with
      |map cl tn=>
       rename_i es lk
       simp only
       split
       ·exact rfl
       ·have:=dj.find (p:=λx:MapEntry=>x.born==RP) (q:=λx:MapEntry=>x.born==RP) (λa b h=>by simp only[h.born]) (dj.l5 tn);rw[Array.find?_toList,Array.find?_toList]at this;revert this;generalize es.find? (λx=>x.born==RP)=y;generalize lk.find? (λx=>x.born==RP)=z;intro hyz;cases hyz with
        |none=>exact rfl
        |some h=>exact aH (ah1 h.key h.val)
      |_=>exact rfl
   |_=>exact rfl
 |_=>exact rfl
theorem JI {π:Ren}(ok:Ren.Ok P π)(s d:aF)(hd: ∃k,P.underlying d=ae (.int k))(hs: ∃k,P.underlying s=ae (.int k)){x x':aq}(hx:bx S π x x'):aI P S (VQ S) (convert s d x) π (convert s d x'):=by
 unfold convert;obtain⟨k1,h1⟩:=hs;obtain⟨k2,h2⟩:=hd;refine aI.bind ok (bN ok s) λfB a a' e1 ha=> ?_
 obtain⟨rfl,ha⟩:=ha;refine aI.bind e1.ok (bN e1.ok d) λjJ b b' e2 hb=> ?_
 obtain⟨rfl,hb⟩:=hb;rw[h1]at ha;rw[h2]at hb;obtain rfl:=aY ha;obtain rfl:=aY hb;cases hx with
 |_=>first|exact rfl|exact aH (.int _ _)
end
end Rel
namespace Rel
section
variable {P:aS} {S:jy}
theorem rE {π:Ren}(ok:Ren.Ok P π)(t:aF){p p':Option Addr}(hp:gw (dD π) p p'){y y':aq}(hy:bx S π y y'):aI P S (VQ S) (Builtin.unsafeAdd_ #[] t #[.pointer p,y]) π (Builtin.unsafeAdd_ #[] t #[.pointer p',y']):=by
 unfold Builtin.unsafeAdd_;refine aI.bind ok (aiR ok hy) λfB n n' e1 h=> ?_
 subst h;have hp1:=gw.addr e1 hp;clear hp;cases hp1 with
 |none=>
  by_cases h0:n=0
  ·simp only[h0,if_true];exact rfl
  ·simp only[h0,if_false];by_cases h1:n<0
   ·simp only[h1,if_true];exact rfl
   ·simp only[h1,if_false];exact rfl
 |some ha=>
  by_cases h0:n=0
  ·simp only[h0,if_true];refine aI.bind e1.ok (MZ e1.ok ha.block) λjJ x y e2 hx=> ?_
   obtain⟨rfl,rfl⟩:=hx;exact aH (.pointer (ha.mono e2))
  ·simp only[h0,if_false];by_cases h1:n<0
   ·simp only[h1,if_true];exact rfl
   ·simp only[h1,if_false];refine aI.bind e1.ok (oq ha.block) λjJ x y e2 hx=> ?_
    subst hx;cases x with
    |none=>exact rfl
    |some x=>
     refine aI.bind e2.ok iQ λkV r r' e3 hr=> ?_
     obtain⟨rfl,rfl⟩:=hr;simp only[ha.off]
     split
     ·exact aH (.pointer ⟨((ha.mono e2).mono e3).block,rfl,ha.spot⟩)
     ·exact rfl
theorem kT {π:Ren}(ok:Ren.Ok P π)(t:aF){p p':Option Addr}(hp:gw (dD π) p p'){y y':aq}(hy:bx S π y y'):aI P S (VQ S) (movedNumber t (.pointer p) y) π (movedNumber t (.pointer p') y'):=by
 unfold movedNumber;refine aI.bind ok (bN ok t) λfB d d' e1 hd=> ?_
 obtain⟨rfl,_⟩:=hd;cases hp with
 |none=>have tl:=rE (S:=S) e1.ok t .none (hy.mono e1);cases d<;>first|exact rfl|exact tl
 |some ha=>
  rename_i a a'
  have tl:aI P S (VQ S) (do
   let(a,lost)<-behindNumber a
   match<-Builtin.unsafeAdd_ #[] t #[.pointer (ae a),y]with
   | .pointer (ae b)=>asNumber b lost
   |v=>pure v) fB (do
   let(a,lost)<-behindNumber a'
   match<-Builtin.unsafeAdd_ #[] t #[.pointer (ae a),y']with
   | .pointer (ae b)=>asNumber b lost
   |v=>pure v):=by
   refine aI.bind e1.ok (j1 e1.ok (ha.mono e1)) λjJ a b e2 jz=> ?_
   obtain⟨a1,a2⟩:=a;obtain⟨b1,b2⟩:=b;obtain⟨h1,h2⟩:=jz;simp only at h1 h2;subst h2;refine aI.bind e2.ok (rE e2.ok t (.some h1) ((hy.mono e1).mono e2)) λkV v v' e3 hv=> ?_
   cases hv with
   |pointer hb=>refine aI.bind e3.ok (Ht (.number _ hb)) λwG r r' e4 hr=>aH (.pointer ⟨hr,rfl,rfl⟩)
   |fE=>exact aH .fE
   |bool b=>exact aH (.bool b)
   |int k n=>exact aH (.int k n)
   |string s=>exact aH (.string s)
   |j6 l c=>exact aH (.j6 l c)
   |slice l c h=>exact aH (.slice l c h)
   |xN=>exact aH .xN
   |map h=>exact aH (.map h)
   |uT=>exact aH .uT
   |func a b c d e=>exact aH (.func a b c d e)
   |nilFunc=>exact aH .nilFunc
   |iface t h=>exact aH (.iface t h)
   |nilIface=>exact aH .nilIface
   |agg a b=>exact aH (.agg a b)
   |tuple a b=>exact aH (.tuple a b)
  cases d<;>first|exact rfl|exact tl
theorem vA {π:Ren}(ok:Ren.Ok P π)(t:aF){p p':Option Addr}(hp:gw (dD π) p p'){y y':aq}(hy:bx S π y y'):aI P S (VQ S) (movedPointer t (.pointer p) y) π (movedPointer t (.pointer p') y'):=by
 unfold movedPointer;cases hp with
 |none=>exact rE ok t .none hy
 |some ha=>
  refine aI.bind (Q:=λπ a b=>gw (λp q:Addr×Bool=>dD π p.1 q.1/\q.2=p.2) a b) ok ?_ λfB x y e hx=> ?_
  ·unfold numberAt;refine aI.bind ok (oq ha.block) λfB x y e hx=> ?_
   subst hx;cases x with
   |some x=>exact aH .none
   |none=>
    refine aI.bind e.ok (jB (e.le _ _ ha.block)) λjJ o o' e2 ho=> ?_
    cases ho with
    |number l ha=>exact aH (.some ⟨ha,rfl⟩)
    |_=>exact aH .none
  ·cases hx with
   |none=>exact rE e.ok t (.some (ha.mono e)) (hy.mono e)
   |some k=>exact rfl
theorem Bs {π:Ren}(ok:Ren.Ok P π){a b a' b':Addr}(ha:dD π a a')(hb:dD π b b'):aI P S l8 (Op.twoPlaces a b) π (Op.twoPlaces a' b'):=by
 unfold Op.twoPlaces;refine aI.bind ok iQ λfB r r' e1 hr=> ?_
 obtain⟨rfl,rfl⟩:=hr;have h1:=ha.mono e1;have h2:=hb.mono e1;have hg:decide (a.block≥r'.globals.size)=decide (a'.block≥r'.globals.size):=decide_eq_decide.2 (by have:=e1.ok.WQ _ _ h1.block;omega);have dQ:(a.block !=b.block)=(a'.block !=b'.block):=by show(!(a.block==b.block))=(!(a'.block==b'.block));rw[zL e1.ok h1.block h2.block]
 rw[dQ,hg]
 split
 ·exact rfl
 ·refine aI.bind e1.ok (qH e1.ok h1) λwG x y e4 hx=> ?_
  subst hx;refine aI.bind e4.ok (qH e4.ok (h2.mono e4)) λKo x y e5 hx=> ?_
  subst hx;exact aH rfl
theorem TK {π:Ren}(ok:Ren.Ok P π)(k:IntKind){a b a' b':Addr}(ha:dD π a a')(hb:dD π b b'):aI P S (VQ S) (Op.addrSub k a b) π (Op.addrSub k a' b'):=aI.bind ok (Bs ok ha hb) λfB p q e h=>by subst h;exact aH (.int _ _)
theorem TJ {π:Ren}(ok:Ren.Ok P π)(op:BinOp){a b a' b':Addr}(ha:dD π a a')(hb:dD π b b'):aI P S (VQ S) (Op.addrCmp op a b) π (Op.addrCmp op a' b'):=aI.bind ok (Bs ok ha hb) λfB p q e h=>by subst h;cases op<;>first|exact aH (.bool _)|exact rfl
theorem Hl {π:Ren}(ok:Ren.Ok P π)(k:IntKind){a a':Addr}(ha:dD π a a')(n:Int):aI P S (VQ S) (Op.addrMod k a n) π (Op.addrMod k a' n):=by
 unfold Op.addrMod;refine aI.bind ok (oq ha.block) λfB x y e hx=> ?_
 subst hx;cases x with
 |none=>exact rfl
 |some x=>
  refine aI.bind e.ok (fL e.ok _) λjJ i i' e2 hi=> ?_
  obtain⟨rfl,_⟩:=hi;simp only
  split
  ·exact rfl
  ·exact aI.bind e2.ok (qH e2.ok (ha.mono (e.trans e2))) λkV x y e3 h=>by subst h;exact aH (.int _ _)
theorem RZ {π:Ren}{s s':Sem Bool}(ok:Ren.Ok P π)(h:aI P S l8 s π s')(f:Bool->Bool):aI P S (VQ S) (do pure (.bool (f (<-s)))) π (do pure (.bool (f (<-s')))):=aI.bind ok h λfB a b e jz=>by subst jz;exact aH (.bool _)
theorem Yr {π:Ren}(ok:Ren.Ok P π){a b a' b':Addr}(ha:dD π a a')(hb:dD π b b'){α β:Type}{Q:Ren->α->β->Prop}{k:Addr->Addr->Sem α}{k':Addr->Addr->Sem β}(h: ∀bO x y x' y',Ext P π bO->dD bO x x'->dD bO y y'->aI P S Q (k x y) bO (k' x' y')):aI P S Q (do k (<-behindNumber a).1 (<-behindNumber b).1) π (do k' (<-behindNumber a').1 (<-behindNumber b').1):=aI.bind ok (j1 ok ha) λ_ _ _ e1 h1=>aI.bind e1.ok (j1 e1.ok (hb.mono e1)) λ_ _ _ e2 h2=>h _ _ _ _ _ (e1.trans e2) (h1.1.mono e2) h2.1
theorem acK {π:Ren}(ok:Ren.Ok P π){a a':Addr}(ha:dD π a a'){α β:Type}{Q:Ren->α->β->Prop}{k:Addr->Sem α}{k':Addr->Sem β}(h: ∀bO x x',Ext P π bO->dD bO x x'->aI P S Q (k x) bO (k' x')):aI P S Q (do k (<-behindNumber a).1) π (do k' (<-behindNumber a').1):=aI.bind ok (j1 ok ha) λ_ _ _ e1 h1=>h _ _ _ e1 h1.1
theorem abn {π:Ren}(ok:Ren.Ok P π)(op:BinOp)(t:aF){x x' y y':aq}(hx:bx S π x x')(hy:bx S π y y'):aI P S (VQ S) (binOp op t x y) π (binOp op t x' y'):=by
 have heq:aI P S l8 (Op.equal t x y) π (Op.equal t x' y'):=Rx t ok hx hy;have eql:=RZ ok heq id;have neq:=RZ ok heq (!·);cases hx with
 |int k a=>
  cases hy with
  |int k' b=>
   cases op<;>first
    |(simp only[binOp];exact abv ok _ _ _ _ _)
    |(by_cases h:k=k'
      ·subst h;simp only[binOp,ne_eq,not_true_eq_false,if_false]
       first|exact DR _ _ _ _|exact Yu ok _ _ _ _|exact Hr _ _ _ _|exact Yt _ _ _
      ·simp only[binOp,ne_eq,h,not_false_eq_true,if_true];exact rfl)
  |pointer hb=>cases op<;>first|exact rfl|exact eql|exact neq|exact kT ok t (.some hb) (.int _ _)|exact acK ok hb λbO x x' e h=>Hl e.ok _ h _
  |fE=>cases op<;>first|exact rfl|exact eql|exact neq|exact kT ok t .none (.int _ _)
  |_=>cases op<;>first|exact rfl|exact eql|exact neq
 |string a=>
  cases hy with
  |string b=>cases op<;>(simp only[binOp];exact xU _ _ _)
  |pointer hb=>cases op<;>first|exact rfl|exact eql|exact neq
  |fE=>cases op<;>first|exact rfl|exact eql|exact neq
  |_=>cases op<;>first|exact rfl|exact eql|exact neq
 |pointer ha=>
  have N4: ∀k n,aI P S (VQ S) (do if(<-underlying t) matches .unsafePointer then movedPointer t (.pointer (ae _)) (.int k n)else movedNumber t (.pointer (ae _)) (.int k n)) π (do if(<-underlying t) matches .unsafePointer then movedPointer t (.pointer (ae _)) (.int k n)else movedNumber t (.pointer (ae _)) (.int k n)):=λk n=>by
   refine aI.bind ok (bN ok t) λfB d d' e1 hd=> ?_
   obtain⟨rfl,_⟩:=hd;cases d<;>first|exact kT e1.ok t (.some (ha.mono e1)) (.int _ _)|(simp only[if_true];exact vA e1.ok t (.some (ha.mono e1)) (.int _ _))
  cases hy with
  |int k b=>cases op<;>first|exact rfl|exact eql|exact neq|exact N4 _ _|exact kT ok t (.some ha) (.int _ _)|exact acK ok ha λbO x x' e h=>Hl e.ok _ h _
  |pointer hb=>cases op<;>first|exact rfl|exact eql|exact neq|exact Yr ok ha hb λbO x y x' y' e h1 h2=>TK e.ok _ h1 h2|exact Yr ok ha hb λbO x y x' y' e h1 h2=>TJ e.ok _ h1 h2
  |fE=>cases op<;>first|exact rfl|exact eql|exact neq
  |_=>cases op<;>first|exact rfl|exact eql|exact neq
 |fE=>
  have N4: ∀k n,aI P S (VQ S) (do if(<-underlying t) matches .unsafePointer then movedPointer t (.pointer ai) (.int k n)else movedNumber t (.pointer ai) (.int k n)) π (do if(<-underlying t) matches .unsafePointer then movedPointer t (.pointer ai) (.int k n)else movedNumber t (.pointer ai) (.int k n)):=λk n=>by
   refine aI.bind ok (bN ok t) λfB d d' e1 hd=> ?_
   obtain⟨rfl,_⟩:=hd;cases d<;>first|exact kT e1.ok t .none (.int _ _)|(simp only[if_true];exact vA e1.ok t .none (.int _ _))
  cases hy with
  |int k b=>cases op<;>first|exact rfl|exact eql|exact neq|exact N4 _ _|exact kT ok t .none (.int _ _)
  |_=>cases op<;>first|exact rfl|exact eql|exact neq
 |_=>cases op<;>first|exact eql|exact neq|(cases hy<;>exact rfl)
end
end Rel
namespace Rel
inductive Kd
 |any
 |sl (e:aF)
 |pt (e:aF)
def Kd.Zz:Kd->Kd->Bool
 | .any,.any=>aA
 | .sl a,.sl b=>a==b
 | .pt a,.pt b=>a==b
 |_,_=>aw
theorem Kd.yA: ∀{a b:Kd},a.Zz b=aA->a=b
 | .any,.any,_=>rfl
 | .sl a,.sl b,h=>by rw[show a=b by simpa[Kd.Zz]using h]
 | .pt a,.pt b,h=>by rw[show a=b by simpa[Kd.Zz]using h]
structure fR where
 fn:bQ->Bool
 int:aF->Bool
 bad:List Tmp:=[]
 kc:Tmp->Kd:=λ_=>.any
 bd:bQ->List Tmp:=λ_=>[]
 kd:bQ->Tmp->Kd:=λ_ _=>.any
 old:Nat:=0
 mem:Addr->Option Int:=λ_=>ai
 Jl: ∀a x,mem a=ae x->a.block<old:=by intro a x h;simp at h
 elem:aF->Option aF:=λ_=>ai
 flat:aF->Option Nat:=λ_=>ai
def fR.cl (c:fR):fR:={c with bad:=[],kc:=λ_=>.any}
def fR.at (c:fR)(f:bQ):fR:={c with bad:=c.bd f,kc:=c.kd f}
def CC (c:fR)(e:aF)(a:Addr):Prop:=a.spot=ai/\ ∃n,c.flat e=ae n/\ ∀j,j<n-> ∃x,c.mem ⟨a.block,a.off+j,ai⟩=ae x
def lU (c:fR):Kd->aq->Prop
 | .any,_=>True
 | .sl e,v=> ∃a n k,v=.slice (ae a) n k/\ ∀m,c.flat e=ae m-> ∀i,i<n->CC c e (a.add (i*m))
 | .pt e,v=> ∃a,v=.pointer (ae a)/\CC c e a
def ga:Nat->aq->Bool
 |_,.bool _|_,.int ..|_,.string _|_,.pointer ai|_,.slice ai _ _|_,.map ai|_,.chan ai|_,.nilFunc|_,.nilIface=>aA
 |n+1,.agg c|n+1,.tuple c=>c.all (ga n)
 |n+1,.iface _ v=>ga n v
 |_,_=>aw
def eA (c:fR):cw->Bool
 | .tmp t=> !c.bad.contains t
 | .const v=>ga 4 v
 | .global _=>aw
 | .func f=>c.fn f
def Hh:Builtin->Bool
 | .append| .cap| .copy| .delete| .len| .max| .min=>aA
 |_=>aw
def uq (c:fR)(f:bQ)(j:Nat)(x:cw):Bool:=
 eA c x||match x with
  | .tmp t=>c.bad.contains t&&(c.bd f).contains j&&((c.kd f j).Zz .any||(c.kd f j).Zz (c.kc t))
  |_=>aw
def kY (c:fR)(f:bQ):Nat->List cw->Bool
 |_,[]=>aA
 |j,x::l=>uq c f j x&&kY c f (j+1) l
def o8 (c:fR)(k:Call):Bool:=
 match k.callee with
 | .builtin b=>Hh b&&k.args.all (eA c)
 | .invoke _ _=>aw
 | .value (.func f)=>c.fn f&&kY c f 0 k.args.toList
 | .value f=>eA c f&&k.args.all (eA c)
def qF (c:fR):Op->Bool
 | .move x| .assign x| .box _ x| .load _ x| .nilCheck x| .unOp _ _ x| .fieldAddr _ x _| .field _ x _| .range _ x| .next x _| .entry x| .extract x _=>eA c x
 | .pick x a b=>eA c x&&eA c a&&eA c b
 | .alloc _=>aA
 | .build _ ps| .buildSlice _ _ ps=>ps.all λq=>eA c q.2
 | .store _ a v| .binOp _ _ a v _| .makeSlice _ a v| .indexAddr _ a v| .index _ a v| .lookup _ a v _=>eA c a&&eA c v
 | .convert s d x=>c.int s&&c.int d&&eA c x
 | .makeFunc f first captured=>(match f with| .func f=>c.fn f|_=>aw)&&first.all (eA c)&&captured.all (eA c)
 | .makeMap _ r=>r.all (eA c)
 | .slice _ x l h m=>eA c x&&l.all (eA c)&&h.all (eA c)&&m.all (eA c)
 | .mapUpdate _ m k v=>eA c m&&eA c k&&eA c v
 | .call k=>o8 c k
 |_=>aw
def CX (c:fR)(o:Oper)(k:Kd):Bool:=match o.dst with
 |some d=>c.bad.contains d&&((c.kc d).Zz .any||(c.kc d).Zz k)
 |none=>aw
def BU (c:fR)(o:Oper):Bool:=match o.op with
 | .move (.tmp t)=>c.bad.contains t&&CX c o (c.kc t)
 | .load e (.tmp t)=>c.bad.contains t&&(c.kc t).Zz (.pt e)
 | .indexAddr s (.tmp t) i=>c.bad.contains t&&eA c i&&(match c.elem s with|some e=>(c.kc t).Zz (.sl e)&&CX c o (.pt e)|none=>aw)
 | .call k=>(match k.callee with| .builtin .len=>aA|_=>aw)&&(match k.args.toList,k.argTypes.toList with| [.tmp t],[s]=>c.bad.contains t&&(match c.elem s with|some e=>(c.kc t).Zz (.sl e)|none=>aw)|_,_=>aw)
 |_=>aw
def kz (c:fR)(o:Oper):Bool:=qF c o.op||BU c o
def dm (c:fR):Code->Bool
 | .skip| .exit _| .ret=>aA
 | .region _ ops _=>ops.all (kz c)
 | .seq a b=>dm c a&&dm c b
 | .cond x a b=>eA c x&&dm c a&&dm c b
 | .block _ b| .loop b| .scope b=>dm c b
 | .rangeFunc f _ a b=>c.bad.isEmpty&&eA c f&&dm c a&&dm c b
 | .label _| .goto _| .refuse _=>aw
def fR.sig (c:fR):jy:={fn:=λf=>c.fn f=aA,code:=λx=>dm c.cl x=aA,WQ:=λ_=>False,mem:=c.mem}
def rD (bad:List Tmp):ResultVar->Bool
 | .tmp t=> !bad.contains t
 | .cell a _=> !bad.contains a
structure fR.Fits (c:fR) (P:aS):Prop where
 fn: ∀f,c.fn f=aA-> ∃F b,P.funcs[f]? =ae F/\F.body=ae b/\dm (c.at f) b=aA/\F.name≠ "runtime.NumGoroutine" /\F.results.toList.all (rD (c.bd f))=aA
 int: ∀t,c.int t=aA-> ∃k,P.underlying t=ae (.int k)
 zero: ∀t i v,P.info? t=ae i->i.zero=ae v->ga 6 v=aA
 elem: ∀t e,c.elem t=ae e->P.underlying t=ae (.slice e)/\ ∃n,c.flat e=ae n
 flat: ∀t n,c.flat t=ae n->(∃i,P.info? t=ae i/\i.size=n)/\ ∃fs,P.underlying t=ae (.struct fs)
section
variable {P:aS} {c:fR}
theorem vU {S:jy}: ∀(n:Nat) (v:aq),ga n v=aA->AH S v:=by
 intro n
 induction n with
 |zero=>
  intro v h π;cases v with
  |bool b=>exact .bool b
  |int k n=>exact .int k n
  |string s=>exact .string s
  |pointer p=>cases p<;>first|exact .fE|cases h
  |slice p l c=>cases p<;>first|exact .j6 l c|cases h
  |map p=>cases p<;>first|exact .xN|cases h
  |chan p=>cases p<;>first|exact .uT|cases h
  |nilFunc=>exact .nilFunc
  |nilIface=>exact .nilIface
  |_=>cases h
 |succ n ih=>
  intro v h π;have arr: ∀c:Array aq,c.all (ga n)=aA-> ∀(i:Nat) a b,c[i]? =ae a->c[i]? =ae b->bx S π a b:=by intro c hc i a b ha hb;rw[ha]at hb;obtain rfl:=aY hb;obtain⟨hi,rfl⟩:=aL.1 ha;exact ih _ (eK.1 hc i hi) π
  cases v with
  |bool b=>exact .bool b
  |int k n=>exact .int k n
  |string s=>exact .string s
  |pointer p=>cases p<;>first|exact .fE|cases h
  |slice p l c=>cases p<;>first|exact .j6 l c|cases h
  |map p=>cases p<;>first|exact .xN|cases h
  |chan p=>cases p<;>first|exact .uT|cases h
  |nilFunc=>exact .nilFunc
  |nilIface=>exact .nilIface
  |agg x=>exact .agg rfl (arr x h)
  |tuple x=>exact .tuple rfl (arr x h)
  |iface t v=>exact .iface t (ih v h π)
  |_=>cases h
theorem fR.Fits.cl (hc:c.Fits P):c.cl.Fits P:=⟨hc.fn,hc.int,hc.zero,hc.elem,hc.flat⟩
theorem fR.Fits.at (hc:c.Fits P)(f:bQ):(c.at f).Fits P:=⟨hc.fn,hc.int,hc.zero,hc.elem,hc.flat⟩
theorem fR.Fits.mA (hc:c.Fits P):sg P c.sig:=λt i v h k=>vU 6 v (hc.zero t i v h k)
structure uI (c:fR) (f:bQ) (π:Ren) (a a':Array aq):Prop where
 size:a.size=a'.size
 at_: ∀(j:Nat) u v,a[j]? =ae u->a'[j]? =ae v->bx c.sig π u v\/(j∈c.bd f/\u=v/\lU c (c.kd f j) u)
theorem uI.of {f:bQ}{π:Ren}{a a':Array aq}(h:cK c.sig π a a'):uI c f π a a':=⟨h.size,λj u v hu hv=>.inl (h.at_ j u v hu hv)⟩
theorem uI.mono {f:bQ}{π bO:Ren}(e:Ext P π bO){a a':Array aq}(h:uI c f π a a'):uI c f bO a a':=⟨h.size,λj u v hu hv=>(h.at_ j u v hu hv).imp (·.mono e) id⟩
inductive CJ (c:fR) (π:Ren):Next->Next->Prop
 |value {v v'}:bx c.sig π v v'->CJ c π (.value v) (.value v')
 |skip:CJ c π .skip .skip
 |enter {f a a'}:c.fn f=aA->uI c f π a a'->CJ c π (.enter f a) (.enter f a')
 |round {l l' f t t' a b}:π l l'->cK c.sig π t t'->c.sig.code a->c.sig.code b->CJ c π (.round l f t a b) (.round l' f t' a b)
abbrev NQ (c:fR):Ren->Next->Next->Prop:=λπ a b=>CJ c π a b
def nh (c:fR)(π:Ren)(ρ px:cw->aq):Prop:= ∀o,eA c o=aA->bx c.sig π (ρ o) (px o)
theorem nh.arr {π:Ren}{ρ px:cw->aq}(h:nh c π ρ px){xs:Array cw}(hx:xs.all (eA c)=aA):cK c.sig π (xs.map ρ) (xs.map px):=by refine⟨by simp,λi a b ha hb=> ?_⟩;rw[gq]at ha hb;obtain⟨o,ho,rfl⟩:=aK.1 ha;rw[ho]at hb;obtain rfl:=aY hb;obtain⟨hi,rfl⟩:=aL.1 ho;exact h _ (eK.1 hx i hi)
theorem nh.opt {π:Ren}{ρ px:cw->aq}(h:nh c π ρ px){x:Option cw}(hx:x.all (eA c)=aA):gw (bx c.sig π) (x.map ρ) (x.map px):=by
 cases x with
 |none=>exact .none
 |some o=>exact .some (h o hx)
theorem nh.parts {π:Ren}{ρ px:cw->aq}(h:nh c π ρ px){xs:Array (Nat×cw)}(hx:(xs.all λq=>eA c q.2)=aA):dj (AL c.sig π) (xs.map λ(i,x)=>(i,ρ x)).toList (xs.map λ(i,x)=>(i,px x)).toList:=by
 rw[Array.toList_map,Array.toList_map];have L4:xs.toList.all (λq=>eA c q.2)=aA:=by rw[Array.all_toList];exact hx
 generalize xs.toList=l at L4
 induction l with
 |nil=>exact .nil
 |cons q l ih=>rw[List.all_cons,aM]at L4;exact .cons ⟨rfl,h _ L4.1⟩ (ih L4.2)
theorem iI {π:Ren}(ok:Ren.Ok P π){s s':Sem aq}(h:aI P c.sig (VQ c.sig) s π s'):aI P c.sig (NQ c) (do pure (.value (<-s))) π (do pure (.value (<-s'))):=aI.bind ok h λ_ _ _ _ hv=>aH (.value hv)
theorem PO {π:Ren}(ok:Ren.Ok P π){s s':Sem Unit}(h:aI P c.sig l8 s π s'):aI P c.sig (NQ c) (do s;pure .skip) π (do s';pure .skip):=aI.bind ok h λ_ _ _ _ _=>aH .skip
theorem DJ {π:Ren}(hc:c.Fits P)(ok:Ren.Ok P π){f:bQ}(hf:c.fn f=aA){a a':Array aq}(ha:uI c f π a a'):aI P c.sig (NQ c) (callFunc f a) π (callFunc f a'):=by
 unfold callFunc;refine aI.bind ok iQ λfB p p' e1 hp=> ?_
 obtain⟨rfl,rfl⟩:=hp;obtain⟨F,b,h1,h2,h3,h4,_⟩:=hc.fn f hf;simp only[h1,h2,Option.isNone_some,e9,if_false,beq_eq_false_iff_ne.2 h4];exact aH (.enter hf (ha.mono e1))
theorem s9 {S:jy}{π:Ren}(ok:Ren.Ok P π){l l':Nat}(h:π l l'):aI P S (λπ a b=>AK S π a b) (Instr.getLoop l) π (Instr.getLoop l'):=by
 unfold Instr.getLoop;refine aI.bind ok (jB h) λfB o o' e ho=> ?_
 cases ho with
 |loop hl=>exact aH hl
 |_=>exact rfl
theorem Pu {S:jy}{π:Ren}: ∀(ps:List Tmp) {x y:List aq},dj (bx S π) x y-> ∀{t t':Array aq},cK S π t t'->cK S π ((ps.zip x).foldl (λtmps (p,a)=>tmps.setIfInBounds p a) t) ((ps.zip y).foldl (λtmps (p,a)=>tmps.setIfInBounds p a) t'):=by
 intro ps
 induction ps with
 |nil=>intro x y _ t t' h;exact h
 |cons p ps ih=>
  intro x y rm t t' h;cases rm with
  |nil=>exact h
  |cons jz hr=>exact ih hr (iL.set h jz)
theorem abz {π:Ren}(ok:Ren.Ok P π){l l':Nat}(h:π l l'){a a':Array aq}(ha:cK c.sig π a a'):aI P c.sig (NQ c) (Instr.yield l a) π (Instr.yield l' a'):=by
 unfold Instr.yield;refine aI.bind ok (s9 ok h) λfB r r' e hl=> ?_
 rw[hl.params,<-ha.size]
 split
 ·exact rfl
 ·have QP:=cK.mono e ha;have:=Pu r.params.toList (dj.l5 QP) hl.tmps;refine aH ?_;rw[hl.fn,hl.assign,hl.body];refine .round (e.le _ _ h) ?_ hl.okA hl.okB;rw[<-Array.foldl_toList,<-Array.foldl_toList,Array.toList_zip,Array.toList_zip];exact this
end
end Rel
namespace Rel
section
variable {P:aS} {c:fR}
theorem Ho {π:Ren}(hc:c.Fits P)(ok:Ren.Ok P π)(b:Builtin)(hb:Hh b=aA)(ts:Array aF)(t:aF)(ks:Array Bool){x y:Array aq}(h:cK c.sig π x y):aI P c.sig (NQ c) (builtin b ts t ks x) π (builtin b ts t ks y):=by
 cases b with
 |append=>exact iI ok (Yq hc.mA ok ts t h)
 |cap=>exact iI ok (agx ok ts t h)
 |copy=>exact iI ok (aed ok ts t h)
 |delete=>exact iI ok (Ys ok ts t h)
 |len=>exact iI ok (agy ok ts t h)
 |max=>exact iI ok (agz ok ts t h)
 |min=>exact iI ok (agA ok ts t h)
 |_=>cases hb
theorem Bo {π:Ren}(hc:c.Fits P)(ok:Ren.Ok P π){f f':aq}(hf:bx c.sig π f f'){a a':Array aq}(ha:cK c.sig π a a'):aI P c.sig (NQ c) (do let d<-gM f a;invoke d.target d.args) π (do let d<-gM f' a';invoke d.target d.args):=by
 cases hf with
 |func NO s1 h1 s2 h2=>
  have hx:cK c.sig π _ _:=⟨s1,h1⟩;have hy:cK c.sig π _ _:=⟨s2,h2⟩;cases NO with
  |func hs=>exact DJ hc ok hs (.of (cK.append (cK.append hx ha) hy))
  |yield hl=>exact abz ok hl (cK.append hx ha)
 |nilFunc=>exact qI ok
 |_=>exact rfl
structure EvB (c:fR) (π:Ren) (ρ px:cw->aq):Prop where
 fn: ∀f,ρ (.func f)=.func (.func f) #[] #[]/\px (.func f)=.func (.func f) #[] #[]
 bad: ∀t∈c.bad,bx c.sig π (ρ (.tmp t)) (px (.tmp t))\/(ρ (.tmp t)=px (.tmp t)/\lU c (c.kc t) (ρ (.tmp t)))
theorem EvB.arg {π:Ren}{ρ px:cw->aq}(nf:nh c π ρ px)(hB:EvB c π ρ px){f:bQ}{j:Nat}{x:cw}(h1:uq c f j x=aA):bx c.sig π (ρ x) (px x)\/(j∈c.bd f/\ρ x=px x/\lU c (c.kd f j) (ρ x)):=by
 unfold uq at h1;rcases iU _ _▸h1 with h1|h1
 ·exact .inl (nf x h1)
 ·cases x with
  |tmp t=>
   simp only[aM,iU]at h1;obtain⟨⟨h2,h3⟩,h4⟩:=h1;rcases hB.bad t (by simpa using h2)with h5|⟨h5,h6⟩
   ·exact .inl h5
   ·refine .inr ⟨by simpa using h3,h5,?_⟩;rcases h4 with h4|h4
    ·rw[Kd.yA h4];trivial
    ·rw[Kd.yA h4];exact h6
  |_=>cases h1
theorem EvB.args {π:Ren}{ρ px:cw->aq}(nf:nh c π ρ px)(hB:EvB c π ρ px){f:bQ}: ∀(l:List cw) (j0:Nat),kY c f j0 l=aA-> ∀(i:Nat) o,l[i]? =ae o->bx c.sig π (ρ o) (px o)\/(j0+i∈c.bd f/\ρ o=px o/\lU c (c.kd f (j0+i)) (ρ o)):=by
 intro l
 induction l with
 |nil=>intro j0 _ i o ho;simp at ho
 |cons x l ih=>
  intro j0 h i o ho;simp only[kY,aM]at h;cases i with
  |zero=>
   simp only[List.getElem?_cons_zero,dz]at ho;subst ho;have h1:=h.1;unfold uq at h1;rcases iU _ _▸h1 with h1|h1
   ·exact .inl (nf x h1)
   ·cases x with
    |tmp t=>
     simp only[aM,iU]at h1;obtain⟨⟨h2,h3⟩,h4⟩:=h1;rcases hB.bad t (by simpa using h2)with h5|⟨h5,h6⟩
     ·exact .inl h5
     ·refine .inr ⟨by simpa using h3,h5,?_⟩;rcases h4 with h4|h4
      ·rw[show j0+0=j0 from rfl,Kd.yA h4];trivial
      ·rw[show j0+0=j0 from rfl,Kd.yA h4];exact h6
    |_=>cases h1
  |succ i=>have:=ih (j0+1) h.2 i o (by simpa using ho);rwa[show j0+1+i=j0+(i+1)by omega]at this
theorem EvB.acn {π:Ren}{ρ px:cw->aq}(nf:nh c π ρ px)(hB:EvB c π ρ px){f:bQ}{x:Array cw}(h:kY c f 0 x.toList=aA):uI c f π (x.map ρ) (x.map px):=by refine⟨by simp,λj u v hu hv=> ?_⟩;rw[gq]at hu hv;obtain⟨o,ho,rfl⟩:=aK.1 hu;rw[ho]at hv;obtain rfl:=aY hv;have:=EvB.args nf hB x.toList 0 h j o (by simpa using ho);rwa[aC]at this
theorem aec {π:Ren}(hc:c.Fits P)(ok:Ren.Ok P π){ρ px:cw->aq}(nf:nh c π ρ px)(hB:EvB c π ρ px)(k:Call)(hk:o8 c k=aA)(t:aF):aI P c.sig (NQ c) (do let d<-resolve ρ k t;invoke d.target d.args) π (do let d<-resolve px k t;invoke d.target d.args):=by
 unfold o8 at hk;unfold resolve;cases rh:k.callee with
 |builtin b=>rw[rh]at hk;simp only[aM]at hk;exact Ho hc ok b hk.1 _ _ _ (nf.arr hk.2)
 |invoke r n=>rw[rh]at hk;cases hk
 |value f=>
  rw[rh]at hk;have gen: ∀f,(eA c f&&k.args.all (eA c))=aA->aI P c.sig (NQ c) (do let d<-gM (ρ f) (k.args.map ρ);invoke d.target d.args) π (do let d<-gM (px f) (k.args.map px);invoke d.target d.args):=λf hk=>by rw[aM]at hk;exact Bo hc ok (nf f hk.1) (nf.arr hk.2)
  cases f with
  |func f=>
   simp only[aM]at hk;have ha:=EvB.acn nf hB hk.2;have main:=DJ hc ok hk.1 ha;obtain⟨e1,e2⟩:=hB.fn f;simp only[e1,e2];have e: ∀x:Array aq,(do let d<-gM (.func (.func f) #[] #[]) x;invoke d.target d.args)=callFunc f ((#[]++x)++ #[]):=λx=>rfl
   rw[e,e];simpa using main
  |tmp x=>exact gen _ hk
  |const x=>exact gen _ hk
  |global x=>exact gen _ hk
theorem Bp {S:jy}: ∀(d:Nat) (t:aF) {π:Ren} {x x' y y':aq},Ren.Ok P π->bx S π x x'->bx S π y y'->aI P S l8 (Op.eqGuardIn d t x y) π (Op.eqGuardIn d t x' y'):=by
 intro d
 induction d with
 |zero=>intros;exact rfl
 |succ d ih=>
  intro t π x x' y y' ok hx hy;refine aI.bind ok (bN ok t) λfB ds UX e1 hd=> ?_
  obtain⟨rfl,_⟩:=hd;have hx:=hx.mono e1;have hy:=hy.mono e1;cases ds with
  |interface ms=>cases hx<;>first|exact aH rfl|(cases hy<;>exact aH rfl)
  |struct fs=>
   cases hx with
   |agg s1 h1=>
    cases hy with
    |agg s2 h2=>
     have hx:cK S fB _ _:=⟨s1,h1⟩;have hy:cK S fB _ _:=⟨s2,h2⟩;refine aI.bind (Q:=l8) e1.ok (DL e1.ok (λkV e3 f s=> ?_) fs _) λkV s s' e3 h=> ?_
     ·split
      ·refine aI.bind e3.ok (o9 e3.ok _ (cK.mono e3 hx) _) λwG a a' e4 ha=> ?_
       refine aI.bind e4.ok (o9 e4.ok _ (cK.mono (e3.trans e4) hy) _) λKo b b' e5 hb=> ?_
       refine aI.bind e5.ok (ih _ e5.ok (ha.mono e5) hb) λQi c c' e6 h=> ?_
       subst h;cases c<;>exact aH rfl
      ·exact aH rfl
     ·subst h;obtain⟨s1,s2⟩:=s;cases s1<;>exact aH rfl
    |_=>exact aH rfl
   |_=>exact aH rfl
  |array n el=>
   cases hx with
   |agg s1 h1=>
    cases hy with
    |agg s2 h2=>
     have hx:cK S fB _ _:=⟨s1,h1⟩;have hy:cK S fB _ _:=⟨s2,h2⟩;refine aI.bind e1.ok (fN e1.ok el) λjJ m m' e2 h=> ?_
     subst h;refine aI.bind (Q:=l8) e2.ok (DN e2.ok (λkV e3 f s=> ?_) _ _) λkV s s' e3 h=> ?_
     ·have e:=e2.trans e3;refine aI.bind e3.ok (o9 e3.ok _ (cK.mono e hx) _) λwG a a' e4 ha=> ?_
      refine aI.bind e4.ok (o9 e4.ok _ (cK.mono (e.trans e4) hy) _) λKo b b' e5 hb=> ?_
      refine aI.bind e5.ok (ih _ e5.ok (ha.mono e5) hb) λQi c c' e6 h=> ?_
      subst h;cases c<;>exact aH rfl
     ·subst h;obtain⟨s1,s2⟩:=s;cases s1<;>exact aH rfl
    |_=>exact aH rfl
   |_=>exact aH rfl
  |_=>exact aH rfl
theorem TN {S:jy}{π:Ren}(ok:Ren.Ok P π)(op:BinOp)(t:aF)(x y:cw){a a' b b':aq}(ha:bx S π a a')(hb:bx S π b b'):aI P S l8 (eqGuard op t x y a b) π (eqGuard op t x y a' b'):=by
 have nn:aI P S l8 (do if<-Op.eqGuardIn Op.maxDepth t .nilIface .nilIface then unsupported (.noEntry "binop/eql: two nil values of an interface type with methods, neither of them the literal nil")) π
  (do if<-Op.eqGuardIn Op.maxDepth t .nilIface .nilIface then unsupported (.noEntry "binop/eql: two nil values of an interface type with methods, neither of them the literal nil")):=by
  refine aI.bind ok (Bp _ t ok .nilIface .nilIface) λfB c c' e h=> ?_
  subst h;cases c with
  |true=>exact rfl
  |false=>exact aH rfl
 have key:(op=.eql\/op=.neq)->aI P S l8 (eqGuard op t x y a b) π (eqGuard op t x y a' b'):=by
  intro hop;cases ha with
  |nilIface=>
   cases hb with
   |nilIface=>rcases hop with rfl|rfl<;>cases x<;>cases y<;>first|exact aH rfl|exact nn
   |_=>rcases hop with rfl|rfl<;>exact aH rfl
  |agg s h=>
   cases hb with
   |agg s' h'=>
    rename_i x2 x2' x1 x1'
    have main:aI P S l8 (do
     if !(<-program).eqGuardType (<-program).depth t then return
     if<-Op.eqGuardIn Op.maxDepth t (.agg x2) (.agg x1)then unsupported (.noEntry "binop/eql: two nil values of an interface type with methods, in a part of a struct or an array")) π (do
     if !(<-program).eqGuardType (<-program).depth t then return
     if<-Op.eqGuardIn Op.maxDepth t (.agg x2') (.agg x1')then unsupported (.noEntry "binop/eql: two nil values of an interface type with methods, in a part of a struct or an array")):=by
     refine aI.bind ok iQ λfB p p' e1 hp=> ?_
     obtain⟨rfl,rfl⟩:=hp;refine aI.bind e1.ok iQ λjJ p p' e2 hp=> ?_
     obtain⟨rfl,rfl⟩:=hp
     split
     ·exact aH rfl
     ·have e:=e1.trans e2;refine aI.bind e2.ok (Bp _ t e2.ok ((bx.agg s h).mono e) ((bx.agg s' h').mono e)) λkV c c' e3 h=> ?_
      subst h;cases c with
      |true=>exact rfl
      |false=>exact aH rfl
    rcases hop with rfl|rfl<;>exact main
   |_=>rcases hop with rfl|rfl<;>exact aH rfl
  |_=>rcases hop with rfl|rfl<;>exact aH rfl
 cases op<;>first|exact key (.inl rfl)|exact key (.inr rfl)|exact aH rfl
theorem PL {π:Ren}(ok:Ren.Ok P π){x x':aq}(h:bx c.sig π x x'):aI P c.sig (NQ c) (execOp (λ_=>x) {dst:=ai,op:=.nilCheck (.tmp 0),type:=0,pos:= "",after:= #[],guard:=ai}) π (execOp (λ_=>x') {dst:=ai,op:=.nilCheck (.tmp 0),type:=0,pos:= "",after:= #[],guard:=ai}):=by
 cases h with
 |fE=>exact qI ok
 |nilIface=>exact qI ok
 |nilFunc=>exact qI ok
 |func hf a b d e=>
  cases hf with
  |func s=>exact aH (.value (.func (.func s) a b d e))
  |yield s=>exact aH (.value (.func (.yield s) a b d e))
 |bool b=>exact aH (.value (.bool b))
 |int k n=>exact aH (.value (.int k n))
 |string s=>exact aH (.value (.string s))
 |pointer h=>exact aH (.value (.pointer h))
 |j6 l c=>exact aH (.value (.j6 l c))
 |slice l c h=>exact aH (.value (.slice l c h))
 |xN=>exact aH (.value .xN)
 |map h=>exact aH (.value (.map h))
 |uT=>exact aH (.value .uT)
 |iface t h=>exact aH (.value (.iface t h))
 |agg a b=>exact aH (.value (.agg a b))
 |tuple a b=>exact aH (.value (.tuple a b))
theorem DK {π:Ren}(hc:c.Fits P)(ok:Ren.Ok P π){ρ px:cw->aq}(nf:nh c π ρ px)(hB:EvB c π ρ px)(o:Oper)(ho:qF c o.op=aA):aI P c.sig (NQ c) (execOp ρ o) π (execOp px o):=by
 obtain⟨dst,op,type,pos,after,guard⟩:=o;simp only at ho;cases op with
 |move x=>exact aH (.value (nf x ho))
 |assign x=>exact aH (.value (nf x ho))
 |pick x a b=>
  simp only[qF,aM]at ho;exact aI.bind ok (DG (nf x ho.1.1)) λfB u v e h=>by
   subst h;cases u with
   |true=>exact aH (.value ((nf a ho.1.2).mono e))
   |false=>exact aH (.value ((nf b ho.2).mono e))
 |alloc el=>exact iI ok (abl hc.mA ok el)
 |box el x=>exact iI ok (agw ok el (nf x ho))
 |build t ps=>exact iI ok (abo hc.mA ok t (nf.parts ho))
 |buildSlice t n ps=>exact iI ok (JH hc.mA ok t n (nf.parts ho))
 |load t a=>exact iI ok (MU ok t (nf a ho))
 |store t a x=>simp only[qF,aM]at ho;exact PO ok (TV ok t (nf a ho.1) (nf x ho.2))
 |nilCheck x=>exact PL ok (nf x ho)
 |binOp op t x y u=>simp only[qF,aM]at ho;exact iI ok (aI.bind ok (TN ok op t x y (nf x ho.1) (nf y ho.2)) λfB _ _ e _=>abn e.ok op t ((nf x ho.1).mono e) ((nf y ho.2).mono e))
 |unOp op t x=>exact iI ok (aby op (nf x ho))
 |convert s d x=>simp only[qF,aM]at ho;exact iI ok (JI ok s d (hc.int d ho.1.2) (hc.int s ho.1.1) (nf x ho.2))
 |makeFunc f first captured=>
  simp only[qF,aM]at ho;cases f with
  |func f=>exact iI ok (PH (.func ho.1.1) (nf.arr ho.1.2) (nf.arr ho.2))
  |_=>exact absurd ho.1.1 (by simp)
 |makeMap t r=>exact iI ok (TS ok t (nf.opt ho))
 |makeSlice t l k=>simp only[qF,aM]at ho;exact iI ok (MV hc.mA ok t (nf l ho.1) (nf k ho.2))
 |slice t x lo hi mx=>simp only[qF,aM]at ho;exact iI ok (TU ok t (nf x ho.1.1.1) (nf.opt ho.1.1.2) (nf.opt ho.1.2) (nf.opt ho.2))
 |fieldAddr s x f=>exact iI ok (TQ ok s (nf x ho) f)
 |field s x f=>exact iI ok (abq ok s (nf x ho) f)
 |indexAddr t x i=>simp only[qF,aM]at ho;exact iI ok (Hq ok t (nf x ho.1) (nf i ho.2))
 |index t x i=>simp only[qF,aM]at ho;exact iI ok (abr ok t (nf x ho.1) (nf i ho.2))
 |lookup t x i b=>simp only[qF,aM]at ho;exact iI ok (Yx hc.mA ok t (nf x ho.1) (nf i ho.2) b)
 |mapUpdate t m k v=>simp only[qF,aM]at ho;exact PO ok (MX ok t (nf m ho.1.1) (nf k ho.1.2) (nf v ho.2))
 |range t x=>exact iI ok (abu ok t (nf x ho))
 |next x b=>exact iI ok (aeh ok b type (nf x ho))
 |entry x=>exact iI ok (abp ok (nf x ho))
 |extract x i=>exact iI ok (TP (nf x ho) i)
 |call k=>exact aec hc ok nf hB k ho type
 |_=>cases ho
theorem ym (a:Addr)(h:a.spot=ai)(n:Nat):a.add n=⟨a.block,a.off+n,ai⟩:=by
 obtain⟨b,o,s⟩:=a;simp only at h;subst h;unfold Addr.add
 split
 ·rename_i h;simp_all
 ·rfl
theorem BT {S:jy}{π:Ren}(ok:Ren.Ok P π){a:Addr}(hs:a.spot=ai): ∀(n i:Nat) (acc IB:Array aq),(∀j,i<=j->j<i+n-> ∃x,S.mem ⟨a.block,a.off+j,ai⟩=ae x)->cK S π acc IB->aI P S (VsQ S) (loadCellsFrom a i n acc) π (loadCellsFrom a i n IB):=by
 intro n
 induction n generalizing π with
 |zero=>intro i acc IB _ fi;exact aH fi
 |succ n ih=>
  intro i acc IB hm fi;obtain⟨x,hx⟩:=hm i (az _) (by omega);have e:=ym a hs i;unfold loadCellsFrom;rw[e];refine aI.bind ok (PG hx) λbO u v e XE=> ?_
  obtain⟨rfl,rfl⟩:=XE;exact ih e.ok (i+1) _ _ (λj h1 h2=>hm j (by omega) (by omega)) ((cK.mono e fi).push (.int _ _))
theorem FQ {π:Ren}(hc:c.Fits P)(ok:Ren.Ok P π){e:aF}{a:Addr}(h:CC c e a):aI P c.sig (VQ c.sig) (loadVar e a) π (loadVar e a):=by
 obtain⟨hs,n,hn,hm⟩:=h;obtain⟨⟨i,hi,QV⟩,fs,hu⟩:=hc.flat e n hn;unfold loadVar isAgg;refine aI.bind (Q:=λ_ u v=>u=aA/\v=aA) ok (aI.bind ok (bN ok e) λfB d d' e1 hd=> ?_) λjJ u v e2 XE=> ?_
 ·obtain⟨rfl,hd⟩:=hd;rw[hu]at hd;obtain rfl:=aY hd;exact aH ⟨rfl,rfl⟩
 ·obtain⟨rfl,rfl⟩:=XE;simp only[if_true];refine aI.bind (Q:=λ_ u v=>u=n/\v=n) e2.ok (aI.bind e2.ok (fL e2.ok e) λkV d d' e3 hd=> ?_) λkV u v e3 XE=> ?_
  ·obtain⟨rfl,hd⟩:=hd;rw[hi]at hd;obtain rfl:=aY hd;exact aH ⟨QV,QV⟩
  ·obtain⟨rfl,rfl⟩:=XE;exact aI.bind e3.ok (BT e3.ok hs _ 0 _ _ (λj _ h2=>hm j (by omega)) ⟨rfl,by simp⟩) λwG x y e4 rm=>aH (.agg rm.size rm.at_)
theorem JM {π:Ren}(hc:c.Fits P)(ok:Ren.Ok P π){e:aF}{a:Addr}(h:CC c e a):aI P c.sig (VQ c.sig) (dN e (.pointer (ae a))) π (dN e (.pointer (ae a))):=aI.bind (Q:=λ_ u v=>u=a/\v=a) ok (aH ⟨rfl,rfl⟩) λfB u v e1 XE=>by obtain⟨rfl,rfl⟩:=XE;exact FQ hc e1.ok h
theorem TR {S:jy}{π:Ren}(ok:Ren.Ok P π){s e t:aF}(hu:P.underlying s=ae (.slice e))(a:Addr)(n k:Nat):aI P S (VQ S) (Builtin.len_ #[s] t #[.slice (ae a) n k]) π (Builtin.len_ #[s] t #[.slice (ae a) n k]):=by
 unfold Builtin.len_;refine aI.bind ok (bN ok s) λfB d d' e1 hd=> ?_
 obtain⟨rfl,hd⟩:=hd;rw[hu]at hd;obtain rfl:=aY hd;exact aH (.int _ _)
theorem MT {π:Ren}(hc:c.Fits P)(ok:Ren.Ok P π){s e:aF}(hs:c.elem s=ae e){a:Addr}{n k:Nat}(h: ∀m,c.flat e=ae m-> ∀i,i<n->CC c e (a.add (i*m))){i i':aq}(hi:bx c.sig π i i'):aI P c.sig (λ_ u v=>u=v/\lU c (.pt e) u) (Instr.indexAt s (.slice (ae a) n k) i) π (Instr.indexAt s (.slice (ae a) n k) i'):=by
 obtain⟨hu,m,hm⟩:=hc.elem s e hs;obtain⟨⟨inf,hi1,hi2⟩,_⟩:=hc.flat e m hm;unfold Instr.indexAt;refine aI.bind ok (s8 hi) λfB x y e1 h1=> ?_
 subst h1;obtain⟨kk,q⟩:=x;simp only;refine aI.bind e1.ok (bN e1.ok s) λjJ d d' e2 hd=> ?_
 obtain⟨rfl,hd⟩:=hd;rw[hu]at hd;obtain rfl:=aY hd;show aI P c.sig _ (wh s kk q (ae a,n,e)) jJ (wh s kk q (ae a,n,e));unfold wh;refine aI.bind e2.ok (bN e2.ok s) λkV d d' e3 hd=> ?_
 obtain⟨rfl,_⟩:=hd;simp only
 split
 ·rename_i hq
  refine aI.bind (Q:=λ_ u v=>u=m/\v=m) e3.ok (aI.bind e3.ok (fL e3.ok e) λwG d d' e4 hd=> ?_) λwG u v e4 XE=> ?_
  ·obtain⟨rfl,hd⟩:=hd;rw[hi1]at hd;obtain rfl:=aY hd;exact aH ⟨hi2,hi2⟩
  ·obtain⟨rfl,rfl⟩:=XE;exact aH ⟨rfl,_,rfl,h _ hm q.toNat (by omega)⟩
 ·split<;>(split<;>first|exact rfl|exact(aI.mono (Q:=λ_ _ _=>False) e3.ok (kS e3.ok _ _ _ _) λ_ _ _ _ h=>h.elim))
def ac0 (c:fR)(o:Oper):Ren->Next->Next->Prop:=λπ n n'=>CJ c π n n'\/ ∃v d,n=.value v/\n'=.value v/\o.dst=ae d/\d∈c.bad/\lU c (c.kc d) v
theorem Ws {o:Oper}{k:Kd}(h:CX c o k=aA): ∃d,o.dst=ae d/\d∈c.bad/\ ∀v,lU c k v->lU c (c.kc d) v:=by
 unfold CX at h;cases hd:o.dst with
 |none=>rw[hd]at h;cases h
 |some d=>
  rw[hd]at h;simp only[aM,iU]at h;refine⟨d,rfl,by simpa using h.1,λv hv=> ?_⟩;rcases h.2 with h2|h2
  ·rw[Kd.yA h2];trivial
  ·rw[Kd.yA h2];exact hv
theorem DU {o:Oper}{π:Ren}(ok:Ren.Ok P π){s s':Sem Next}(h:aI P c.sig (NQ c) s π s'):aI P c.sig (ac0 c o) s π s':=aI.mono ok h λ_ _ _ _ h=>.inl h
theorem agB {π:Ren}(hc:c.Fits P)(ok:Ren.Ok P π){ρ px:cw->aq}(nf:nh c π ρ px)(hB:EvB c π ρ px)(o:Oper)(ho:BU c o=aA):aI P c.sig (ac0 c o) (execOp ρ o) π (execOp px o):=by
 obtain⟨dst,op,type,pos,after,guard⟩:=o;cases op with
 |move x=>
  cases x with
  |tmp t=>
   simp only[BU,aM]at ho;obtain⟨d,h1,h2,h3⟩:=Ws ho.2;rcases hB.bad t (by simpa using ho.1)with h|⟨h,h'⟩
   ·exact aH (.inl (.value h))
   ·refine aH (.inr ⟨ρ (.tmp t),d,rfl,?_,h1,h2,h3 _ h'⟩);rw[h]
  |_=>cases ho
 |load e x=>
  cases x with
  |tmp t=>
   simp only[BU,aM]at ho;rcases hB.bad t (by simpa using ho.1)with h|⟨h,h'⟩
   ·exact DU ok (iI ok (MU ok e h))
   ·rw[Kd.yA ho.2]at h';obtain⟨a,h1,h2⟩:=h';refine DU ok (iI ok ?_);show aI P c.sig _ (dN e (ρ (.tmp t))) π (dN e (px (.tmp t)));rw[<-h,h1];exact JM hc ok h2
  |_=>cases ho
 |indexAddr s x i=>
  cases x with
  |tmp t=>
   simp only[BU,aM]at ho;obtain⟨⟨ht,hi⟩,he⟩:=ho;cases hs:c.elem s with
   |none=>rw[hs]at he;cases he
   |some e=>
    rw[hs]at he;simp only[aM]at he;obtain⟨d,h1,h2,h3⟩:=Ws he.2;rcases hB.bad t (by simpa using ht)with h|⟨h,h'⟩
    ·exact DU ok (iI ok (Hq ok s h (nf i hi)))
    ·rw[Kd.yA he.1]at h';obtain⟨a,n,k,g1,g2⟩:=h';refine aI.bind (Q:=λ_ u v=>u=v/\lU c (.pt e) u) ok ?_ λfB u v e1 XE=> ?_
     ·show aI P c.sig _ (Instr.indexAt s (ρ (.tmp t)) (ρ i)) π (Instr.indexAt s (px (.tmp t)) (px i));rw[<-h,g1];exact MT hc ok hs g2 (nf i hi)
     ·obtain⟨rfl,hv⟩:=XE;exact aH (.inr ⟨_,d,rfl,rfl,h1,h2,h3 _ hv⟩)
  |_=>cases ho
 |call k=>
  obtain⟨callee,args,tE⟩:=k;simp only[BU,aM]at ho;obtain⟨h0,h1⟩:=ho;cases callee with
  |builtin b=>
   cases b with
   |len=>
    obtain⟨args⟩:=args;obtain⟨tE⟩:=tE
    match args,tE,h1 with
    | [.tmp t],[s],h1=>
      simp only[aM]at h1;obtain⟨ht,he⟩:=h1;cases hs:c.elem s with
      |none=>rw[hs]at he;cases he
      |some e=>
       rw[hs]at he;refine DU ok ?_;have main: ∀ks,aI P c.sig (NQ c) (builtin .len #[s] type ks #[ρ (.tmp t)]) π (builtin .len #[s] type ks #[px (.tmp t)]):=λks=> ?_
       ·have e: ∀ρ:cw->aq,execOp ρ {dst:=dst,op:=Op.call {callee:=Callee.builtin Builtin.len,args:={toList:=[Operand.tmp t]},argTypes:={toList:=[s]}},type:=type,pos:=pos,after:=after,guard:=guard}=builtin .len #[s] type #[aw] #[ρ (.tmp t)]:=λρ=>by simp[execOp,resolve,invoke]
        rw[e,e];exact main _
       rcases hB.bad t (by simpa using ht)with h|⟨h,h'⟩
       ·exact Ho hc ok .len rfl _ _ _ ⟨rfl,λi a b ha hb=>by
         match i,ha,hb with
         |0,ha,hb=>simp at ha hb;subst ha;subst hb;exact h
         |i+1,ha,_=>simp at ha⟩
       ·rw[Kd.yA he]at h';obtain⟨a,n,k,g1,_⟩:=h';rw[<-h,g1];exact iI ok (TR ok (hc.elem s e hs).1 a n k)
   |_=>cases h0
  |_=>cases h0
 |_=>cases ho
theorem Yy {π:Ren}(hc:c.Fits P)(ok:Ren.Ok P π){ρ px:cw->aq}(nf:nh c π ρ px)(hB:EvB c π ρ px)(o:Oper)(ho:kz c o=aA):aI P c.sig (ac0 c o) (execOp ρ o) π (execOp px o):=by
 unfold kz at ho;rcases iU _ _▸ho with h|h
 ·exact DU ok (DK hc ok nf hB o h)
 ·exact agB hc ok nf hB o h
end
end Rel
namespace Rel
def nM (v:aq):Bool:=v.cells.all (ga 4)
theorem C2: ∀(n:Nat) (v:aq),ga n v=aA->ga (n+1) v=aA:=by
 intro n
 induction n with
 |zero=>intro v h;cases v<;>first|exact h|rfl|cases h|(rename_i p;cases p<;>first|exact h|rfl|cases h)|(rename_i p _ _;cases p<;>first|exact h|rfl|cases h)
 |succ n ih=>
  intro v h;cases v with
  |agg c=>exact eK.2 λi hi=>ih _ (eK.1 (show c.all (ga n)=aA from h) i hi)
  |tuple c=>exact eK.2 λi hi=>ih _ (eK.1 (show c.all (ga n)=aA from h) i hi)
  |iface t v=>exact ih v h
  |pointer p=>cases p<;>first|exact h|rfl|cases h
  |slice p l c=>cases p<;>first|exact h|rfl|cases h
  |map p=>cases p<;>first|exact h|rfl|cases h
  |chan p=>cases p<;>first|exact h|rfl|cases h
  |_=>first|exact h|rfl|cases h
theorem aaE {v:aq}(h:nM v=aA):ga 6 v=aA:=by
 unfold nM at h;have one: ∀x,ga 4 x=aA->ga 5 x=aA:=λx hx=>C2 4 x hx
 cases v with
 |agg c=>show c.all (ga 5)=aA;have h:c.all (ga 4)=aA:=h;exact eK.2 λi hi=>one _ (eK.1 h i hi)
 |_=>refine C2 5 _ (one _ ?_);exact eK.1 h 0 (by simp[iy])
theorem Gt {c:Array aq}(h: ∀x∈c,ga 4 x=aA):nM (.agg c)=aA:=by show c.all (ga 4)=aA;exact eK.2 λi hi=>h _ (Array.getElem_mem hi)
theorem Gu {v:aq}(h:nM v=aA): ∀x∈v.cells,ga 4 x=aA:=by intro x hx;obtain⟨i,hi,rfl⟩:=Array.mem_iff_getElem.1 hx;exact eK.1 h i hi
theorem SN {α β:Type}(P:β->Prop)(f:α->β->Option (ForInStep β))(hf: ∀a b r,P b->f a b=ae r->P r.value): ∀(l:List α) (b b':β),P b->forIn l b f=ae b'->P b':=by
 intro l
 induction l with
 |nil=>intro b b' hb h;cases h;exact hb
 |cons a l ih=>
  intro b b' hb h;rw[List.forIn_cons]at h;cases hr:f a b with
  |none=>rw[hr]at h;cases h
  |some r=>
   rw[hr]at h;have:=hf a b r hb hr;cases r with
   |done x=>cases h;exact this
   |yield x=>exact ih x b' this h
theorem Nr {info:aF->Option TypeInfo}(hi: ∀t i v,info t=ae i->i.zero=ae v->nM v=aA){fs:Array Field}{i:TypeInfo}{v:aq}(h:Made.reckonStruct info fs=ae i)(hz:i.zero=ae v):nM v=aA:=by
 unfold Made.reckonStruct at h;simp only[Option.bind_eq_bind,cR]at h;obtain⟨r,hr,h⟩:=h;rw[<-Array.forIn_toList]at hr;have leaf: ∀(st:Option (Array aq)) (i:TypeInfo) (f:Field) (n:Nat),(∀z,st=ae z-> ∀x∈z,ga 4 x=aA)->info f.type=ae i-> ∀z,(if n>Made.mostCells then ai else st.bind λu=>i.zero.bind λv=>pure (u++v.cells))=ae z-> ∀x∈z,ga 4 x=aA:=by
  intro st i f n hP afO z hz x hx
  split at hz
  ·cases hz
  ·obtain⟨u,hu,hz⟩:=cR.1 hz;obtain⟨v,hv,hz⟩:=cR.1 hz;cases hz;rcases ot.1 hx with h|h
   ·exact hP u hu x h
   ·exact Gu (hi _ _ _ afO hv) x h
 have key:=SN (λst=> ∀z,st.snd.snd.snd.snd.snd.snd.snd.fst=ae z-> ∀x∈z,ga 4 x=aA) _ ?_ _ _ _ ?_ hr
 ·split at h<;>
  ·cases h;obtain⟨z,hz',rfl⟩:=aK.1 hz;exact Gt (key z hz')
 ·intro f st r' hP hf;obtain⟨j,hj,hf⟩:=cR.1 hf;have nn: ∀{α:Type} {g:Unit->Option α} {y:α},(ai:Option Unit).bind g=ae y->False:=λh=>by cases h
  split at hf
  ·cases hf
  ·split at hf
   ·cases hf
   ·split at hf
    ·obtain⟨_,_,hf⟩:=cR.1 hf
     split at hf<;>(cases hf;exact leaf _ _ _ _ hP hj)
    ·obtain⟨_,_,hf⟩:=cR.1 hf
     split at hf<;>(cases hf;exact leaf _ _ _ _ hP hj)
 ·intro z hz x hx;obtain rfl:z= #[]:=(aY hz).symm;simp at hx
theorem M0 {info:aF->Option TypeInfo}(hi: ∀t i v,info t=ae i->i.zero=ae v->nM v=aA){d:TypeDesc}{i:TypeInfo}{v:aq}(h:Made.reckon info d=ae i)(hz:i.zero=ae v):nM v=aA:=by
 unfold Made.reckon at h;cases d with
 |slice e=>simp only[Option.bind_eq_bind,cR]at h;obtain⟨_,_,_,_,h⟩:=h;cases h;cases hz;simp[nM,iy,ga]
 |map k e=>simp only[Option.bind_eq_bind,cR]at h;obtain⟨_,_,_,_,_,_,_,_,h⟩:=h;cases h;cases hz;simp[nM,iy,ga]
 |chan d e=>simp only[Option.bind_eq_bind,cR]at h;obtain⟨_,_,_,_,h⟩:=h;cases h;cases hz;simp[nM,iy,ga]
 |func ps rs v=>simp only[Option.bind_eq_bind,cR]at h;obtain⟨_,_,h⟩:=h;cases h;cases hz;simp[nM,iy,ga]
 |array n e=>
  simp only[Option.bind_eq_bind,cR]at h;obtain⟨j,hj,_,_,h⟩:=h;cases h;simp only at hz
  split at hz
  ·cases hz
  ·split at hz
   ·cases hz;simp[nM,iy]
   ·obtain⟨z,hz',rfl⟩:=aK.1 hz;have:=Gu (hi e j z hj hz');refine Gt λx hx=> ?_
    obtain⟨c,hc,hx⟩:=Array.mem_flatten.1 hx;rw[Array.mem_replicate]at hc;rw[hc.2]at hx;exact this x hx
 |pointer e=>
  simp only[Option.bind_eq_bind,cR]at h;obtain⟨j,hj,h⟩:=h
  split at h
  ·cases h
  ·split at h
   ·cases h
   ·simp only[cR]at h;obtain⟨_,_,h⟩:=h;cases h;cases hz;simp[nM,iy,ga]
  ·simp only[cR]at h;obtain⟨_,_,h⟩:=h;cases h;cases hz;simp[nM,iy,ga]
 |struct fs=>exact Nr hi h hz
 |_=>cases h
theorem UL {P:aS}(h: ∀(t:aF) (i:TypeInfo) (v:aq),P.types[t]? =ae i->i.zero=ae v->nM v=aA)(t:aF)(i:TypeInfo)(v:aq)(hi:P.info? t=ae i)(hz:i.zero=ae v):ga 6 v=aA:=by
 refine aaE ?_;unfold Tables.info? at hi
 split at hi
 ·exact h t i v hi hz
 ·have key: ∀(fuel:Nat) (t:aF) (i:TypeInfo) (v:aq),Made.infoAt P.toTables fuel t=ae i->i.zero=ae v->nM v=aA:=by
   intro fuel
   induction fuel with
   |zero=>intro t i v h _;cases h
   |succ n ih=>
    intro t i v hi hz;unfold Made.infoAt at hi
    split at hi
    ·exact h t i v hi hz
    ·obtain⟨d,_,hd⟩:=cR.1 hi;exact M0 ih hd hz
  exact key _ t i v hi hz
end Rel
namespace Rel
abbrev jG (fr:bm)(cs:List bm):ay:={frame:=fr,callers:=cs,status:=.running,dying:=ai}
inductive p6 (c:fR) (π:Ren):Item->Item->Prop
 |code {x:Code}:dm c x=aA->p6 c π (.code x) (.code x)
 |inBlock (i:Nat):p6 c π (.inBlock i) (.inBlock i)
 |inLoop {b:Code}:dm c b=aA->p6 c π (.inLoop b) (.inLoop b)
 |inScope {b:Code}:dm c b=aA->p6 c π (.inScope b) (.inScope b)
 |inRegion {ops:Array Oper} (l:List Nat):ops.all (kz c)=aA->p6 c π (.inRegion ops l) (.inRegion ops l)
 |inRangeFunc {l l':Nat}:c.bad=[]->π l l'->p6 c π (.inRangeFunc l) (.inRangeFunc l')
 |endRangeFunc {l l':Nat}:c.bad=[]->π l l'->p6 c π (.endRangeFunc l) (.endRangeFunc l')
 |beginRound:p6 c π .beginRound .beginRound
inductive mE (π:Ren):Deferred->Deferred->Prop
 |mk {r r':Nat}:π r r'->mE π {target:=.collected r,args:= #[]} {target:=.collected r',args:= #[]}
inductive KO (c:fR) (kL kR:List Item) (π:Ren):List Item->List Item->Prop
 |nil:KO c kL kR π kL kR
 |cons {a b:Item} {l m:List Item}:p6 c π a b->KO c kL kR π l m->KO c kL kR π (a::l) (b::m)
def oE:List Item->Bool
 | []| .code _::_| .inBlock _::_| .inLoop _::_| .inScope _::_=>aA
 |_=>aw
structure KOk (kL kR:List Item):Prop where
 ab4:oE kL=aA
 aeo:oE kR=aA
 ex: ∀i,exitTo i kL=ai
 kk:kL=[]->kR=[]
theorem KOk.nil:KOk [] []:=⟨rfl,rfl,λ_=>rfl,λ_=>rfl⟩
structure se (c:fR) (π:Ren) (x y:Array aq):Prop where
 size:x.size=y.size
 at_: ∀(i:Nat) u v,x[i]? =ae u->y[i]? =ae v->bx c.sig π u v\/(i∈c.bad/\u=v/\lU c (c.kc i) u)
theorem se.of {c:fR}{π:Ren}{x y:Array aq}(h:cK c.sig π x y):se c π x y:=⟨h.size,λi u v hu hv=>.inl (h.at_ i u v hu hv)⟩
theorem se.vs {c:fR}{π:Ren}{x y:Array aq}(h:se c π x y)(hb:c.bad=[]):cK c.sig π x y:=⟨h.size,λi u v hu hv=>(h.at_ i u v hu hv).elim id λk=>by rw[hb]at k;exact absurd k.1 (by simp)⟩
theorem se.mono {P:aS}{c:fR}{π bO:Ren}(e:Ext P π bO){x y:Array aq}(h:se c π x y):se c bO x y:=⟨h.size,λi u v hu hv=>(h.at_ i u v hu hv).imp (·.mono e) id⟩
theorem se.put {c:fR}{π:Ren}{x y:Array aq}(h:se c π x y){d:Nat}{v v':aq}(hv:bx c.sig π v v'\/(d∈c.bad/\v=v'/\lU c (c.kc d) v)):se c π (x.setIfInBounds d v) (y.setIfInBounds d v'):=by
 refine⟨by simp[h.size],λi u w hu hw=> ?_⟩;by_cases e:d=i
 ·subst e;have bE:d<x.size:=by have:=(aL.1 hu).1;simpa using this
  rw[aW bE]at hu;rw[aW (by rw[<-h.size];exact bE)]at hw;cases hu;cases hw;exact hv
 ·rw[aO e]at hu hw;exact h.at_ i u w hu hw
theorem se.set {c:fR}{π:Ren}{x y:Array aq}(h:se c π x y){d:Nat}{v v':aq}(hv:bx c.sig π v v'):se c π (x.setIfInBounds d v) (y.setIfInBounds d v'):=h.put (.inl hv)
abbrev uW (a:bm):Option Nat×bQ:=(a.roundOf,a.fn)
structure r8 (c:fR) (kL kR:List Item) (π:Ren) (a b:bm):Prop where
 fn:b.fn=a.fn
 tmps:se c π a.tmps b.tmps
 todo:KO c kL kR π a.todo b.todo
 defers:dj (mE π) a.defers b.defers
 mode:b.mode=a.mode
 ok:a.mode=.run\/a.mode=.returning
 kind:a.kind=.normal
 xa:b.kind=.normal
 round:gw π a.roundOf b.roundOf
 ks:KOk kL kR
 rk:a.roundOf≠ai->kL=[]
section
variable {P:aS} {c:fR} {kL kR:List Item}
theorem p6.mono {π bO:Ren}(e:Ext P π bO): ∀{a b:Item},p6 c π a b->p6 c bO a b
 |_,_,.code h=>.code h
 |_,_,.inBlock i=>.inBlock i
 |_,_,.inLoop h=>.inLoop h
 |_,_,.inScope h=>.inScope h
 |_,_,.inRegion l h=>.inRegion l h
 |_,_,.inRangeFunc hb h=>.inRangeFunc hb (e.le _ _ h)
 |_,_,.endRangeFunc hb h=>.endRangeFunc hb (e.le _ _ h)
 |_,_,.beginRound=>.beginRound
theorem mE.mono {π bO:Ren}(e:Ext P π bO): ∀{a b:Deferred},mE π a b->mE bO a b|_,_,.mk h=>.mk (e.le _ _ h)
theorem mE.list {π bO:Ren}(e:Ext P π bO){a b:List Deferred}(h:dj (mE π) a b):dj (mE bO) a b:=dj.mono (λ_ _ x=>x.mono e) h
theorem KO.mono {π bO:Ren}(e:Ext P π bO){a b:List Item}(h:KO c kL kR π a b):KO c kL kR bO a b:=by
 induction h with
 |nil=>exact .nil
 |cons h _ ih=>exact .cons (h.mono e) ih
theorem gw.ren {π bO:Ren}(e:Ext P π bO){a b:Option Nat}(h:gw π a b):gw bO a b:=gw.mono (λ_ _ x=>e.le _ _ x) h
theorem r8.mono {π bO:Ren}(e:Ext P π bO){a b:bm}(h:r8 c kL kR π a b):r8 c kL kR bO a b:=⟨h.fn,h.tmps.mono e,h.todo.mono e,mE.list e h.defers,h.mode,h.ok,h.kind,h.xa,gw.ren e h.round,h.ks,h.rk⟩
theorem cK.getD {S:jy}{π:Ren}{x y:Array aq}(h:cK S π x y)(i:Nat):bx S π (x.getD i undef) (y.getD i undef):=by
 rw[bF,bF];have:=h.opt i;revert this;generalize x[i]? =a;generalize y[i]? =b;intro jz;cases jz with
 |none=>exact .tuple rfl (by simp)
 |some h=>exact h
theorem se.afo {c:fR}{π:Ren}{x y:Array aq}(h:se c π x y)(i:Nat):bx c.sig π (x.getD i undef) (y.getD i undef)\/(x.getD i undef=y.getD i undef/\lU c (c.kc i) (x.getD i undef)):=by
 rw[bF,bF];rcases dM i x.size with bE|va
 ·have yM:i<y.size:=h.size▸bE;rw[aX bE,aX yM];exact(h.at_ i _ _ (aX bE) (aX yM)).imp id (·.2)
 ·rw[ic va,ic (h.size▸va)];exact .inl (.tuple rfl (by simp))
theorem se.getD {c:fR}{π:Ren}{x y:Array aq}(h:se c π x y){i:Nat}(hi:i∉c.bad):bx c.sig π (x.getD i undef) (y.getD i undef):=by
 rw[bF,bF];rcases dM i x.size with bE|va
 ·have yM:i<y.size:=h.size▸bE;rw[aX bE,aX yM];exact(h.at_ i _ _ (aX bE) (aX yM)).elim id λk=>absurd k.1 hi
 ·rw[ic va,ic (h.size▸va)];exact .tuple rfl (by simp)
theorem r8.acs {π:Ren}{a b:bm}(h:r8 c kL kR π a b):nh c π a.eval b.eval:=by
 intro o ho;cases o with
 |tmp t=>
  have ho:c.bad.contains t=aw:=by simpa[eA]using ho
  exact h.tmps.getD (by simpa using ho)
 |const v=>exact vU 4 v ho π
 |global g=>cases ho
 |func f=>exact .func (.func ho) rfl (by simp) rfl (by simp)
theorem r8.evB {π:Ren}{a b:bm}(h:r8 c kL kR π a b):EvB c π a.eval b.eval:=⟨λ_=>⟨rfl,rfl⟩,λt _=>h.tmps.afo t⟩
theorem yD (fr:bm)(v:aq)(h:oE fr.todo=aA):fr.finish v=fr:=by
 obtain⟨fn,tmps,todo,defers,mode,kind,round⟩:=fr;cases todo with
 |nil=>rfl
 |cons x k=>cases x<;>first|rfl|cases h
theorem r8.finish {π:Ren}{a b:bm}(h:r8 c kL kR π a b){v v':aq}(hv:bx c.sig π v v'):r8 c kL kR π (a.finish v) (b.finish v')/\uW (a.finish v)=uW a:=by
 obtain⟨fn,tmps,todo,defers,mode,kind,round⟩:=a;obtain⟨ZA,nH,Nx,iA,Rl,xa,lD⟩:=b;obtain⟨h1,h2,h3,h4,h5,h6,h7,h8,h9,tS,Cl⟩:=h;simp only at h1 h2 h3 h4 h5 h6 h7 h8 h9 Cl;cases h3 with
 |nil=>rw[yD _ _ (by exact tS.ab4),yD _ _ (by exact tS.aeo)];exact⟨⟨h1,h2,.nil,h4,h5,h6,h7,h8,h9,tS,Cl⟩,rfl⟩
 |cons hi hk=>
  cases hi with
  |code x=>exact⟨⟨h1,h2,.cons (.code x) hk,h4,h5,h6,h7,h8,h9,tS,Cl⟩,rfl⟩
  |inBlock x=>exact⟨⟨h1,h2,.cons (.inBlock x) hk,h4,h5,h6,h7,h8,h9,tS,Cl⟩,rfl⟩
  |inLoop x=>exact⟨⟨h1,h2,.cons (.inLoop x) hk,h4,h5,h6,h7,h8,h9,tS,Cl⟩,rfl⟩
  |inScope x=>exact⟨⟨h1,h2,.cons (.inScope x) hk,h4,h5,h6,h7,h8,h9,tS,Cl⟩,rfl⟩
  |inRangeFunc hb x=>exact⟨⟨h1,h2,.cons (.endRangeFunc hb x) hk,h4,h5,h6,h7,h8,h9,tS,Cl⟩,rfl⟩
  |endRangeFunc hb x=>exact⟨⟨h1,h2,.cons (.endRangeFunc hb x) hk,h4,h5,h6,h7,h8,h9,tS,Cl⟩,rfl⟩
  |beginRound=>exact⟨⟨h1,h2,hk,h4,h5,h6,h7,h8,h9,tS,Cl⟩,rfl⟩
  |inRegion l ho=>
   rename_i ops
   cases l with
   |nil=>exact⟨⟨h1,h2,.cons (.inRegion _ ho) hk,h4,h5,h6,h7,h8,h9,tS,Cl⟩,rfl⟩
   |cons i rest=>
    unfold Frame.finish;simp only;refine⟨⟨h1,?_,.cons (.inRegion _ ho) hk,h4,h5,h6,h7,h8,h9,tS,Cl⟩,trivial⟩;simp only
    split
    ·exact h2.set hv
    ·exact h2
theorem r8.aaD {π:Ren}{a b:bm}(h:r8 c kL kR π a b){o:Oper}{ops:Array Oper}{i:Nat}{rest:List Nat}{k:List Item}(ht:a.todo=.inRegion ops (i::rest)::k)(ho:ops[i]? =ae o){v:aq}{d:Tmp}(hd:o.dst=ae d)(hb:d∈c.bad)(hv:lU c (c.kc d) v):r8 c kL kR π (a.finish v) (b.finish v)/\uW (a.finish v)=uW a:=by
 obtain⟨fn,tmps,todo,defers,mode,kind,round⟩:=a;obtain⟨ZA,nH,Nx,iA,Rl,xa,lD⟩:=b;obtain⟨h1,h2,h3,h4,h5,h6,h7,h8,h9,tS,Cl⟩:=h;simp only at h1 h2 h3 h4 h5 h6 h7 h8 h9 Cl ht;subst ht;generalize hx:(Item.inRegion ops (i::rest)::k)=x at h3;cases h3 with
 |nil=>exact absurd tS.ab4 (by rw[<-hx];simp[oE])
 |cons hi hk=>
  cases hx;cases hi with
  |inRegion l hoo=>unfold Frame.finish;simp only[ho,rM,hd];refine⟨⟨h1,h2.put (.inr ⟨hb,rfl,hv⟩),.cons (.inRegion _ hoo) hk,h4,h5,h6,h7,h8,h9,tS,Cl⟩,trivial⟩
theorem r8.enter {π:Ren}(hc:c.Fits P){f:bQ}(hf:c.fn f=aA){x y:Array aq}(h:uI c f π x y):r8 (c.at f) [] [] π (fu P f x .normal) (fu P f y .normal):=by
 obtain⟨F,b,h1,h2,h3,h4,_⟩:=hc.fn f hf;refine⟨rfl,?_,?_,.nil,rfl,.inl rfl,rfl,rfl,.none,.nil,λh=>absurd rfl h⟩
 ·show se (c.at f) π (x++eh _ undef) (y++eh _ undef);rw[<-h.size];refine⟨by simp[h.size],λi u v hu hv=> ?_⟩;rw[Array.getElem?_append]at hu hv;rw[<-h.size]at hv
  split at hu
  ·rename_i hi
   rw[if_pos hi]at hv;exact h.at_ i u v hu hv
  ·rename_i hi
   rw[if_neg hi]at hv;rw[Array.getElem?_replicate]at hu hv
   split at hu
   ·rename_i hi
    rw[if_pos hi]at hv;cases hu;cases hv;exact .inl (.tuple rfl (by simp))
   ·cases hu
 ·show KO (c.at f) [] [] π [.code ((P.funcs[f]?.bind (·.body)).getD _)] [.code ((P.funcs[f]?.bind (·.body)).getD _)];rw[h1];simp only[rM,h2,bI];exact .cons (.code h3) .nil
theorem j5 (fn:bQ)(es:Array Event): ∀e∈seen P fn es,e∈es:=by
 unfold seen;simp only;rw[<-Array.foldl_toList];have key: ∀(l:List Event) (q:Bool) (kept:Array Event),∀e∈(l.foldl (λ(x:Bool×Array Event) e=>
  match e.loc with
  | .mark (.extern f)=>((P.funcs[f]?).any (·.norace),x.2)
  |_=>(x.1,if x.1&& !e.sync then x.2 else x.2.push e)) (q,kept)).2,e∈kept\/e∈l:=by
  intro l
  induction l with
  |nil=>intro q kept e he;exact .inl he
  |cons a l ih=>
   intro q kept e he;rw[List.foldl_cons]at he;rcases ih _ _ e he with h|h
   ·have:e∈kept\/e=a:=by
     revert h;simp only
     split
     ·intro h;exact .inl h
     ·split
      ·intro h;exact .inl h
      ·intro h;rcases Array.mem_push.1 h with h|h
       ·exact .inl h
       ·exact .inr h
    rcases this with h|h
    ·exact .inl h
    ·exact .inr (by simp[h])
   ·exact .inr (by simp[h])
 intro e he;rcases key es.toList ((P.funcs[fn]?).any (·.norace)) #[] e he with h|h
 ·simp at h
 ·simpa using h
end
end Rel
namespace Rel
def Up (c d:fR)(fn:bQ):Prop:=d=c.cl\/(d=c.at fn/\c.fn fn=aA)
theorem Up.sig {c d:fR}{fn:bQ}(h:Up c d fn):d.sig=c.sig:=by rcases h with rfl|⟨rfl,_⟩<;>rfl
theorem Up.fits {P:aS}{c d:fR}{fn:bQ}(h:Up c d fn)(hc:c.Fits P):d.Fits P:=by
 rcases h with rfl|⟨rfl,_⟩
 ·exact hc.cl
 ·exact hc.at fn
theorem Up.up {c d e:fR}{fn ZA:bQ}(h:Up c d fn)(k:Up d e ZA):Up c e ZA:=by rcases h with rfl|⟨rfl,_⟩<;>exact k
inductive KP (c:fR) (kL kR:List Item) (π:Ren) (cl cr:List bm) (ro:Option Nat×bQ):ay->ay->Prop
 |stay {a b:bm}:r8 c kL kR π a b->uW a=ro->KP c kL kR π cl cr ro (jG a cl) (jG b cr)
 |push {d:fR} {f g a b:bm}:Up c d f.fn->r8 d [] [] π f g->r8 c kL kR π a b->uW a=ro->KP c kL kR π cl cr ro (jG f (a::cl)) (jG g (b::cr))
 |pop {x y:bm} {l m:List bm} {v v':aq}:ro.1≠ai->cl=x::l->cr=y::m->bx c.sig π v v'->KP c kL kR π cl cr ro (jG (x.finish v) l) (jG (y.finish v') m)
def xA (P:aS)(c:fR)(π:Ren)(cl:List bm)(s:GStep):Prop:= ∃a chain w es bO R' ds,s=.go (jG a cl) w es/\a.mode=.panicking chain/\ck P c.sig bO w R'/\dj (mE bO) a.defers ds/\Ext P π bO
def uN (s:GStep):Prop:= ∃o w es,s=.ended o w es
def mP (P:aS)(c:fR)(kL kR:List Item)(π:Ren)(L R:ah)(cl cr:List bm)(ro:Option Nat×bQ)(sL sR:GStep):Prop:=uN sL\/xA P c π cl sL\/ ∃gL L' es,sL=.go gL L' es/\L.drawn<=L'.drawn/\L'.tape=L.tape/\(Qj L R L'.drawn-> ∃bO gR R' ev,Ext P π bO/\sR=.go gR R' ev/\KP c kL kR bO cl cr ro gL gR/\ck P c.sig bO L' R'/\yh π bO L R L' R'/\R'.drawn+L.drawn=R.drawn+L'.drawn/\ ∀e∈ev,Ey c.sig bO e)
section
variable {P:aS} {c:fR} {kL kR:List Item}
theorem mP.here {π:Ren}{L R:ah}{cl cr:List bm}{ro:Option Nat×bQ}{a b:bm}(hw:ck P c.sig π L R)(h:r8 c kL kR π a b)(hr:uW a=ro):mP P c kL kR π L R cl cr ro (.go (jG a cl) L) (.go (jG b cr) R):=.inr (.inr ⟨_,_,_,rfl,az _,rfl,λ_=>⟨π,_,_,_,Ext.refl hw.ok,rfl,.stay h hr,hw,yh.refl _ _ _,rfl,by simp⟩⟩)
theorem kH (es:Array Event)(g:ay)(w:ah)(lk:Array Event):GStep.after es (.go g w lk)=.go g w (es++lk):=rfl
theorem IQ {π:Ren}{a b:bm}(h:r8 c kL kR π a b)(vs:List PanicEntry):(a.raise vs).mode=.panicking vs/\(a.raise vs).defers=a.defers:=by unfold Frame.raise;rcases h.ok with e|e<;>rw[e]<;>exact⟨rfl,rfl⟩
theorem tG (k:List Item)(h:oE k=aA):(match k with| .call _ aA _ _::_=>CallKind.wrapped|_=>.normal)=.normal:=by
 cases k with
 |nil=>rfl
 |cons x k=>cases x<;>first|rfl|cases h
theorem zJ {π:Ren}(hc:c.Fits P){L R:ah}(hw:ck P c.sig π L R){a b:bm}(h:r8 c kL kR π a b)(cl cr:List bm){s s':Sem Next}{Q:Ren->Next->Next->Prop}(hs:aI P c.sig Q s π s')(hQ: ∀bO n n',Ext P π bO->Q bO n n'->CJ c bO n n'\/ ∃v,n=.value v/\n'=.value v/\(r8 c kL kR bO a b->r8 c kL kR bO (a.finish v) (b.finish v)/\uW (a.finish v)=uW a)):mP P c kL kR π L R cl cr (uW a) (eU P aA a cl ai s L) (eU P aA b cr ai s' R):=by
 have cG:=hs.run hw #[] #[];have kdL:(match a.todo with| .call _ aA _ _::_=>CallKind.wrapped|_=>.normal)=.normal:=by
  have ht:=h.todo;have tS:=h.ks;revert ht;generalize a.todo=k;generalize b.todo=k';intro ht;cases ht with
  |nil=>first|exact tG _ tS.ab4|exact tG _ tS.aeo
  |cons hi _=>cases hi<;>rfl
 have kdR:(match b.todo with| .call _ aA _ _::_=>CallKind.wrapped|_=>.normal)=.normal:=by
  have ht:=h.todo;have tS:=h.ks;revert ht;generalize a.todo=k;generalize b.todo=k';intro ht;cases ht with
  |nil=>first|exact tG _ tS.ab4|exact tG _ tS.aeo
  |cons hi _=>cases hi<;>rfl
 revert cG;cases hrL:s.runT P L #[]with
 |mk r es=>
  cases r with
  |halt x L'=>
   rintro⟨hl,bO,R',e,jI⟩;cases x with
   |panic v=>
    have hd:=IQ h [{v,recovered:=false}];have hgo: ∃lk,eU P aA a cl ai s L=.go (jG (a.raise [{v,recovered:=false}]) cl) L' lk:=⟨_,by
     unfold eU;simp only[if_true,hrL,kH]
     rfl⟩
    obtain⟨lk,hgo⟩:=hgo;exact .inr (.inl ⟨_,_,L',lk,bO,R',b.defers,hgo,hd.1,jI,by rw[hd.2];exact mE.list e h.defers,e⟩)
   |stuck w=>refine .inl ?_;unfold eU;simp only[if_true,hrL];exact⟨_,_,_,rfl⟩
   |unsupported u=>
    cases u with
    |initOrder g=>cases hl
    |_=>refine .inl ?_;unfold eU;simp only[if_true,hrL];exact⟨_,_,_,rfl⟩
   |_=>cases hl
  |ok x L'=>
   rintro⟨h1,h2,h3⟩;have nx: ∀gL:ay,(∃esL,eU P aA a cl ai s L=.go gL L' esL)->(∀bO x' R',Ext P π bO->Q bO x x'->(∃ev,s'.runT P R #[]=(.ok x' R',ev))-> ∃gR,KP c kL kR bO cl cr (uW a) gL gR/\ ∀ev,s'.runT P R #[]=(.ok x' R',ev)-> ∃ev',eU P aA b cr ai s' R=.go gR R' ev'/\ ∀e∈ev',e∈ev)->
    mP P c kL kR π L R cl cr (uW a) (eU P aA a cl ai s L) (eU P aA b cr ai s' R):=by
    rintro gL ⟨esL,hL⟩ hk;refine .inr (.inr ⟨gL,L',esL,hL,h1,h2,λag=> ?_⟩);obtain⟨bO,x',R',ev,e,hr,hq,jI,hd,Xd,jq⟩:=h3 ag;simp only[kq]at hr;obtain⟨gR,ht,hR⟩:=hk bO x' R' e hq ⟨ev,hr⟩;obtain⟨ev',LB,oB⟩:=hR ev hr;exact⟨bO,gR,R',ev',e,LB,ht,jI,hd,Xd,λx hx=>jq x (oB x hx)⟩
   have evs: ∀(ev:Array Event) (fn:bQ) (k:Bool),∀e∈seen P fn (if k then #[]else ev)++ #[],e∈ev:=by
    intro ev fn k e he;rw[Array.append_empty]at he;have:=j5 fn _ e he;cases k with
    |true=>simp at this
    |false=>exact this
   cases x with
   |value v=>
    refine nx (jG (a.finish v) cl) ⟨_,by unfold eU;simp only[if_true,hrL,kH];rfl⟩ λbO x' R' e hq hex=> ?_
    rcases hQ bO _ _ e hq with hq|⟨v2,e1,rfl,hf⟩
    rotate_left
    ·cases e1;have hf:=hf (h.mono e);exact⟨jG (b.finish v) cr,.stay hf.1 hf.2,λev hr=>⟨_,by unfold eU;simp only[if_true,hr,kH];rfl,evs _ _ _⟩⟩
    cases hq with
    |value hv=>
     rename_i v'
     have hf:=(h.mono e).finish hv;exact⟨jG (b.finish v') cr,.stay hf.1 hf.2,λev hr=>⟨_,by unfold eU;simp only[if_true,hr,kH];rfl,evs _ _ _⟩⟩
   |skip=>
    refine nx (jG (a.finish undef) cl) ⟨_,by unfold eU;simp only[if_true,hrL,kH];rfl⟩ λbO x' R' e hq hex=> ?_
    replace hq:=(hQ bO _ _ e hq).resolve_right (by rintro⟨_,e1,_⟩;cases e1)
    cases hq with
    |skip=>have hf:=(h.mono e).finish (v:=undef) (v':=undef) (.tuple rfl (by simp));exact⟨jG (b.finish undef) cr,.stay hf.1 hf.2,λev hr=>⟨_,by unfold eU;simp only[if_true,hr,kH];rfl,evs _ _ _⟩⟩
   |enter f x=>
    refine nx (jG (fu P f x .normal) (a::cl)) ⟨_,by unfold eU;simp only[if_true,hrL,kH];exact congrArg (λk=>GStep.go (jG (fu P f x k) (a::cl)) L' (seen P a.fn (if a.kind== .early then #[]else es)++ #[])) kdL⟩ λbO x' R' e hq hex=> ?_
    replace hq:=(hQ bO _ _ e hq).resolve_right (by rintro⟨_,e1,_⟩;cases e1)
    cases hq with
    |enter hf hx=>
     rename_i y
     exact⟨jG (fu P f y .normal) (b::cr),.push (.inr ⟨rfl,hf⟩) (r8.enter hc hf hx) (h.mono e) rfl,λev hr=>⟨_,by unfold eU;simp only[if_true,hr,kH];exact congrArg (λk=>GStep.go (jG (fu P f y k) (b::cr)) R' (seen P b.fn (if b.kind== .early then #[]else ev)++ #[])) kdR,evs _ _ _⟩⟩
   |round l f t x y=>
    refine nx (jG (Frame.round l f t x y .normal) (a::cl)) ⟨_,by unfold eU;simp only[if_true,hrL,kH];rfl⟩ λbO x' R' e hq hex=> ?_
    replace hq:=(hQ bO _ _ e hq).resolve_right (by rintro⟨_,e1,_⟩;cases e1)
    cases hq with
    |round hl ht hx hy=>
     rename_i l' t'
     exact⟨jG (Frame.round l' f t' x y .normal) (b::cr),.push (.inl rfl) ⟨rfl,.of ht,.cons (.code hx) (.cons .beginRound (.cons (.code hy) .nil)),.nil,rfl,.inl rfl,rfl,rfl,.some hl,.nil,λ_=>rfl⟩ (h.mono e) rfl,λev hr=>⟨_,by unfold eU;simp only[if_true,hr,kH];rfl,evs _ _ _⟩⟩
   |_=>
    exfalso;have:=hs.run (R:={R with tape:=L.tape,drawn:=L.drawn}) ⟨hw.ok,hw.obj,hw.ox,hw.uz,hw.old⟩ #[] #[];rw[hrL]at this;obtain⟨jJ,_,_,_,e,_,hq,_⟩:=this.2.2 (λi q _=>rfl);rcases hQ jJ _ _ e hq with hq|⟨_,e1,_⟩
    ·cases hq
    ·cases e1
end
end Rel
namespace Rel
section
variable {P:aS} {c:fR} {kL kR:List Item}
def phase {α:Type}(P:aS)(fn:bQ)(s:Sem α)(k:α->ah->GStep)(h:Halt->ah->GStep)(w:ah):GStep:=
 match s.runT P w #[]with
 |(r,es)=>GStep.after (seen P fn es) (match r with| .ok x w=>k x w| .halt x w=>h x w)
theorem N5 (R L:ah)(d:Nat):Qj L {R with tape:=L.tape,drawn:=L.drawn} d:=λ_ _ _=>rfl
theorem uN.after {s:GStep}(h:uN s)(es:Array Event):uN (GStep.after es s):=by obtain⟨o,w,lk,rfl⟩:=h;exact⟨o,w,_,rfl⟩
theorem xA.after {π bO:Ren}{cl:List bm}{s:GStep}(h:xA P c bO cl s)(es:Array Event)(e:Ext P π bO):xA P c π cl (GStep.after es s):=by obtain⟨a,ch,w,lk,jJ,R',ds,rfl,h1,h2,h3,h4⟩:=h;exact⟨a,ch,w,_,jJ,R',ds,rfl,h1,h2,h3,e.trans h4⟩
theorem sY {α β:Type}{Q:Ren->α->β->Prop}{π:Ren}{s:Sem α}{s':Sem β}(hs:aI P c.sig Q s π s'){L R:ah}(hw:ck P c.sig π L R){fn ZA:bQ}{cl cr:List bm}{ro:Option Nat×bQ}{k:α->ah->GStep}{k':β->ah->GStep}{h h':Halt->ah->GStep}(hk: ∀bO x y L' R',Ext P π bO->Q bO x y->ck P c.sig bO L' R'->mP P c kL kR bO L' R' cl cr ro (k x L') (k' y R'))(hh: ∀x L' bO R',x.lost=aA->Ext P π bO->ck P c.sig bO L' R'->uN (h x L')\/xA P c π cl (h x L')):mP P c kL kR π L R cl cr ro (phase P fn s k h L) (phase P ZA s' k' h' R):=by
 have cG:=hs.run hw #[] #[];have LY:=hs.run (R:={R with tape:=L.tape,drawn:=L.drawn}) ⟨hw.ok,hw.obj,hw.ox,hw.uz,hw.old⟩ #[] #[];unfold phase;revert cG LY;cases hrL:s.runT P L #[]with
 |mk r es=>
  cases r with
  |halt x L'=>
   rintro⟨hl,bO,R',e,jI⟩ _;rcases hh x L' bO R' hl e jI with hh|hh
   ·exact .inl (hh.after _)
   ·exact .inr (.inl (hh.after _ (Ext.refl hw.ok)))
  |ok x L'=>
   rintro⟨h1,h2,h3⟩ ⟨_,_,h4⟩;obtain⟨fB,y1,R1,ev1,e1,_,hq1,Td,_,_,_⟩:=h4 (N5 R L _);by_cases hE:uN (k x L')
   ·exact .inl (hE.after _)
   by_cases hP:xA P c π cl (k x L')
   ·exact .inr (.inl (hP.after _ (Ext.refl hw.ok)))
   have third: ∀bO y R',Ext P π bO->Q bO x y->ck P c.sig bO L' R'->_:=λbO y R' e hq jI=>((hk bO x y L' R' e hq jI).resolve_left hE).resolve_left λh=>hP (by have:=h.after #[] e;obtain⟨a,ch,w,lk,jJ,R2,ds,hh,h1,h2,h3,h4⟩:=h;exact⟨a,ch,w,lk,jJ,R2,ds,hh,h1,h2,h3,e.trans h4⟩)
   obtain⟨gL,L2,es2,hgo,OE,ht2,_⟩:=third fB y1 R1 e1 hq1 Td;refine .inr (.inr ⟨gL,L2,_,by simp only[hgo,kH];rfl,bP h1 OE,ht2.trans h2,λag=> ?_⟩);obtain⟨bO,y,R',ev,e,hr,hq,jI,hd,Xd,jq⟩:=h3 (λi q hi=>ag i q (by omega));simp only[kq]at hr;obtain⟨gL',L2',aid,aaU,_,_,hA⟩:=third bO y R' e hq jI;rw[hgo]at aaU;cases aaU;obtain⟨kV,gR,R3,ev3,e3,hgR,ht,hw3,hd3,ait,ahz⟩:=hA (λi q hi=>by have:=ag (L'.drawn-L.drawn+i) q (by omega);rw[show R.drawn+(L'.drawn-L.drawn+i)=R'.drawn+i by omega,show L.drawn+(L'.drawn-L.drawn+i)=L'.drawn+i by omega]at this;rw[hd.tape,h2];exact this)
   refine⟨kV,gR,R3,_,e.trans e3,by simp only[hr,hgR,kH];rfl,ht,hw3,hd.trans hd3,by omega,λx hx=> ?_⟩;rcases ot.1 hx with hx|hx
   ·exact(jq x (j5 _ _ _ hx)).mono e3
   ·exact ahz x hx
end
end Rel
namespace Rel
section
variable {P:aS} {c:fR} {kL kR:List Item}
theorem MQ {π:Ren}(ok:Ren.Ok P π)(fn:bQ){t t':Array aq}(ht:cK c.sig π t t')(ps:Array Tmp){a b:Code}(ha:dm c.cl a=aA)(hb:dm c.cl b=aA){ar ar':Option Nat}(hr:gw π ar ar'):aI P c.sig (λπ x y=>π x.1 y.1/\dj (mE π) x.2 y.2) (Instr.enterLoop fn t ps a b ar) π (Instr.enterLoop fn t' ps a b ar'):=by
 unfold Instr.enterLoop;have tl: ∀(fB:Ren) (d d':Nat) (m m':List Deferred),Ext P π fB->fB d d'->dj (mE fB) m m'->aI P c.sig (λπ x y=>π x.1 y.1/\dj (mE π) x.2 y.2)
  (do pure (<-newObj (.loop {state:=.ready,pending:=ai,fn,tmps:=t,params:=ps,assign:=a,body:=b,defers:=d}),m)) fB
  (do pure (<-newObj (.loop {state:=.ready,pending:=ai,fn,tmps:=t',params:=ps,assign:=a,body:=b,defers:=d'}),m')):=λfB d d' m m' e hd hm=>
  aI.bind e.ok (Ht (.loop ⟨rfl,rfl,(λ_ h=>by cases h),rfl,cK.mono e ht,rfl,rfl,ha,rfl,hb,hd⟩)) λjJ r r' e2 hr=>aH ⟨hr,mE.list e2 hm⟩
 cases hr with
 |none=>
  refine aI.bind ok (Ht (.deferred aA)) λfB r r' e hr=> ?_
  exact aI.bind (Q:=λπ x y=>π x.1 y.1/\dj (mE π) x.2 y.2) e.ok (aH ⟨hr,.cons (.mk hr) .nil⟩) λjJ x y e2 rm=>tl jJ _ _ _ _ (e.trans e2) rm.1 rm.2
 |some hl=>
  refine aI.bind ok (s9 ok hl) λfB r r' e hr=> ?_
  exact aI.bind (Q:=λπ x y=>π x.1 y.1/\dj (mE π) x.2 y.2) e.ok (aH ⟨hr.defers,.nil⟩) λjJ x y e2 rm=>tl jJ _ _ _ _ (e.trans e2) rm.1 rm.2
theorem AK.set {S:jy}{π:Ren}{a b:Loop}(h:AK S π a b)(s:LoopState)(j:Option Code)(hj: ∀x,j=ae x->S.code x):AK S π {a with state:=s,pending:=j} {b with state:=s,pending:=j}:=⟨rfl,rfl,hj,h.fn,h.tmps,h.params,h.assign,h.okA,h.body,h.okB,h.defers⟩
theorem AK.Ip {S:jy}{π:Ren}{a b:Loop}(h:AK S π a b)(s:LoopState):AK S π {a with state:=s} {b with state:=s}:=⟨rfl,h.pending,h.okP,h.fn,h.tmps,h.params,h.assign,h.okA,h.body,h.okB,h.defers⟩
theorem JG {S:jy}{π:Ren}(ok:Ren.Ok P π){l l':Nat}(h:π l l'):aI P S l8 (Instr.beginRound l) π (Instr.beginRound l'):=by
 unfold Instr.beginRound;refine aI.bind ok (s9 ok h) λfB r r' e hr=> ?_
 refine aI.bind e.ok (mq (e.le _ _ h) (.loop (hr.Ip .busy))) λjJ _ _ e2 _=> ?_
 rw[hr.state];cases r.state<;>first|exact aH rfl|exact jC e2.ok _
theorem PF {S:jy}{π:Ren}(ok:Ren.Ok P π){l l':Nat}(h:π l l')(j:Option Code)(hj: ∀x,j=ae x->S.code x):aI P S (VQ S) (Instr.endRound l j) π (Instr.endRound l' j):=by
 unfold Instr.endRound;refine aI.bind ok (s9 ok h) λfB r r' e hr=> ?_
 exact aI.bind e.ok (mq (e.le _ _ h) (.loop (hr.set _ j hj))) λjJ _ _ e2 _=>aH (.bool _)
theorem TM {S:jy}{π:Ren}(ok:Ren.Ok P π){l l':Nat}(h:π l l'):aI P S (λ_ x y=>y=x/\ ∀k,x=ae k->S.code k) (Instr.endLoop l) π (Instr.endLoop l'):=by
 unfold Instr.endLoop;refine aI.bind ok (s9 ok h) λfB r r' e hr=> ?_
 rw[hr.state];have tl:aI P S (λ_ x y=>y=x/\ ∀k,x=ae k->S.code k) (do setObj l (.loop {r with state:=.exhausted});pure r.pending) fB (do setObj l' (.loop {r' with state:=.exhausted});pure r'.pending):=aI.bind e.ok (mq (e.le _ _ h) (.loop (hr.Ip .exhausted))) λjJ _ _ e2 _=>aH ⟨hr.pending,hr.okP⟩
 cases r.state<;>first|exact tl|exact aI.bind (Q:=λ_ _ _=>False) e.ok (jC e.ok _) λ_ _ _ _ h=>h.elim
theorem vB {S:jy}{π:Ren}(ok:Ren.Ok P π){r r':Nat}(h:π r r'):aI P S (λ_ x y=>x=[]/\y=[]) (Instr.takeDeferred r) π (Instr.takeDeferred r'):=by
 unfold Instr.takeDeferred;refine aI.bind ok (jB h) λfB o o' e ho=> ?_
 cases ho with
 |deferred b=>
  cases b with
  |false=>exact rfl
  |true=>exact aI.bind e.ok (mq (e.le _ _ h) (.deferred aw)) λjJ _ _ e2 _=>aH ⟨rfl,rfl⟩
 |_=>exact rfl
theorem z8 (h:c.bad=[])(F:Func):F.results.toList.all (rD c.bad)=aA:=List.all_eq_true.2 λr _=>by rw[h];cases r<;>rfl
theorem abt {S:jy}{α:Type}{f f':α->Sem aq}{π:Ren}(ok:Ren.Ok P π)(x:Array α)(hf: ∀a∈x.toList,∀bO,Ext P π bO->aI P S (VQ S) (f a) bO (f' a)):aI P S (VsQ S) (x.mapM f) π (x.mapM f'):=by
 rw[Array.mapM_eq_mapM_toList,Array.mapM_eq_mapM_toList];have key: ∀(l:List α) (fB:Ren),(∀a∈l,∀bO,Ext P π bO->aI P S (VQ S) (f a) bO (f' a))->Ext P π fB->aI P S (λπ a b=>dj (bx S π) a b) (l.mapM f) fB (l.mapM f'):=by
  intro l
  induction l with
  |nil=>intro fB _ e;rw[List.mapM_nil,List.mapM_nil];exact aH .nil
  |cons a l ih=>intro fB hl e;rw[List.mapM_cons,List.mapM_cons];exact aI.bind e.ok (hl a (by simp) fB e) λjJ b b' e1 h=>aI.bind e1.ok (ih jJ (λa ha=>hl a (by simp[ha])) (e.trans e1)) λkV c c' e2 hc=>aH (.cons (h.mono e2) hc)
 exact aI.bind ok (key _ π hf (Ext.refl ok)) λfB b b' e1 h=>aH (iL.Rn h)
theorem xT {π:Ren}(ok:Ren.Ok P π)(F:Func)(hF:F.results.toList.all (rD c.bad)=aA){t t':Array aq}(h:se c π t t'):aI P c.sig (VQ c.sig) (results F t) π (results F t'):=by
 unfold results;refine aI.bind ok (abt ok _ (λa ha bO e=> ?_)) λfB vs vs' e1 hv=> ?_
 ·have hr:=List.all_eq_true.1 hF a ha;cases a with
  |tmp t=>exact aH ((h.mono e).getD (by simpa[rD]using hr))
  |cell a t=>exact aI.bind e.ok (MP e.ok ((h.mono e).getD (by simpa[rD]using hr))) λjJ x y e2 rm=>Hs e2.ok t rm
 ·by_cases h1:vs.size=1
  ·have h2:vs'.size=1:=hv.size▸h1;rw[dif_pos h1,dif_pos h2];exact aH (hv.at_ 0 _ _ (aX _) (aX _))
  ·have h2: ¬vs'.size=1:=hv.size▸h1;rw[dif_neg h1,dif_neg h2];exact aH (.tuple hv.size hv.at_)
theorem Ot {π:Ren}(ks:KOk kL kR)(i:Nat): ∀{k k':List Item},KO c kL kR π k k'->(exitTo i k=ai/\(kL=[]->exitTo i k'=ai))\/ ∃r r',exitTo i k=ae r/\exitTo i k'=ae r'/\KO c kL kR π r r':=by
 intro k k' h
 induction h with
 |nil=>exact .inl ⟨ks.ex i,λe=>by rw[ks.kk e];rfl⟩
 |cons hi hk ih=>
  cases hi with
  |inBlock j=>
   unfold exitTo
   split
   ·exact .inr ⟨_,_,rfl,rfl,hk⟩
   ·exact ih
  |_=>exact ih
theorem NF {π:Ren}(ops:Array Oper){t t':Array aq}(h:se c π t t')(j:Nat):yielded ops t' j=yielded ops t j:=by
 unfold yielded;cases((ops[j]?).bind (·.dst))with
 |none=>rfl
 |some d=>
  simp only[rM];rcases dM d t.size with bE|va
  ·have yM:d<t'.size:=h.size▸bE;rw[aX bE,aX yM];rcases h.at_ d _ _ (aX bE) (aX yM)with hv|⟨_,he,_⟩
   ·revert hv;generalize t[d]=u;generalize t'[d]=v;intro hv;cases hv<;>rfl
   ·rw[he]
  ·rw[ic va,ic (h.size▸va)]
end
end Rel
namespace Rel
section
variable {P:aS} {c:fR} {kL kR:List Item}
theorem y9 (h:c.bad=[])(o:Oper):BU c o=aw:=by
 unfold BU;have hb: ∀t,c.bad.contains t=aw:=λt=>by rw[h];rfl
 split<;>simp only[hb,Bool.false_and]
 split
 ·simp only[Bool.true_and]
  split<;>rfl
 ·simp
theorem Pp (h:c.bad=[])(f:bQ): ∀(l:List cw) (j:Nat),kY c f j l=kY c.cl f j l:=by
 intro l
 induction l with
 |nil=>intro j;rfl
 |cons x l ih=>
  intro j;unfold kY;rw[ih];congr 1;cases x with
  |tmp t=>simp[uq,eA,fR.cl,h]
  |_=>rfl
theorem Pq (h:c.bad=[])(o:Oper):kz c o=kz c.cl o:=by
 have hd:eA c=eA c.cl:=funext λx=>by cases x<;>simp[eA,fR.cl,h]
 have ha:=λf=>Pp h f
 have hk:o8 c=o8 c.cl:=funext λk=>by
  unfold o8;rw[hd];simp only[ha]
  rfl
 unfold kz;rw[y9 h,y9 (c:=c.cl) rfl];congr 1;unfold qF;rw[hd,hk]
 rfl
theorem Dv (h:c.bad=[]): ∀x:Code,dm c x=dm c.cl x:=by
 have hd:eA c=eA c.cl:=funext λx=>by cases x<;>simp[eA,fR.cl,h]
 have ho:kz c=kz c.cl:=funext λo=>Pq h o
 intro x
 induction x with
 |region id ops d=>simp only[dm,ho]
 |seq a b L8 L9=>simp only[dm,L8,L9]
 |cond o a b L8 L9=>simp only[dm,L8,L9,hd]
 |block i b ih=>simp only[dm,ih]
 |loop b ih=>simp only[dm,ih]
 |scope b ih=>simp only[dm,ih]
 |rangeFunc f p a b L8 L9=>simp only[dm,L8,L9,hd,h];rfl
 |_=>rfl
def vk (P:aS)(m:Bool)(fr:bm)(cl:List bm)(j:Option Code)(w:ah):GStep:=
 match fr.roundOf with
 |none=>if j matches ai|some .ret then .go (jG {fr with mode:=.returning} cl) w else .ended (.stuck "exit, goto: no such block or label" (fr.pos P)) w
 |some l=>phase P fr.fn (Instr.endRound l j) (λv w=>doReturn P m fr cl ai v w) (λ_ w=>.ended (.stuck "range over a function: no such loop" (fr.pos P)) w) w
theorem tH {π:Ren}{L R:ah}(hw:ck P c.sig π L R){a b:bm}(h:r8 c kL kR π a b){x y:bm}{l r:List bm}{v v':aq}(hv:bx c.sig π v v')(m m':Bool){ro:Option Nat×bQ}(dQ:ro.1≠ai):mP P c kL kR π L R (x::l) (y::r) ro (doReturn P m a (x::l) ai v L) (doReturn P m' b (y::r) ai v' R):=by
 have e1:doReturn P m a (x::l) ai v L=.go (jG (x.finish v) l) L:=by unfold doReturn;simp only[h.kind]
 have e2:doReturn P m' b (y::r) ai v' R=.go (jG (y.finish v') r) R:=by unfold doReturn;simp only[h.xa]
 rw[e1,e2];exact .inr (.inr ⟨_,_,_,rfl,az _,rfl,λ_=>⟨π,_,_,_,Ext.refl hw.ok,rfl,.pop dQ rfl rfl hv,hw,yh.refl _ _ _,rfl,by simp⟩⟩)
theorem zW {π:Ren}{L R:ah}(hw:ck P c.sig π L R){a b:bm}(h:r8 c kL kR π a b){cl cr:List bm}(Dd:a.roundOf≠ai-> ∃x l y m,cl=x::l/\cr=y::m)(m m':Bool)(j:Option Code)(hj: ∀x,j=ae x->dm c.cl x=aA):mP P c kL kR π L R cl cr (uW a) (vk P m a cl j L) (vk P m' b cr j R):=by
 obtain⟨fn,tmps,todo,defers,mode,kind,round⟩:=a;obtain⟨ZA,nH,Nx,iA,Rl,xa,lD⟩:=b;have h9:=h.round;simp only at h9;cases h9 with
 |none=>
  have main:mP P c kL kR π L R cl cr (ai,fn) (.go (jG {fn,tmps,todo,defers,mode:=.returning,kind,roundOf:=ai} cl) L) (.go (jG {fn:=ZA,tmps:=nH,todo:=Nx,defers:=iA,mode:=.returning,kind:=xa,roundOf:=ai} cr) R):=mP.here hw ⟨h.fn,h.tmps,h.todo,h.defers,rfl,.inr rfl,h.kind,h.xa,.none,h.ks,λh=>absurd rfl h⟩ rfl
  cases j with
  |none=>exact main
  |some x=>cases x<;>first|exact main|exact .inl ⟨_,_,_,rfl⟩
 |some hl=>obtain⟨x,l,y,r,rfl,rfl⟩:=Dd (by simp);exact sY (PF hw.ok hl j hj) hw (λbO v v' L' R' e hv jI=>tH jI (h.mono e) hv m m' (by simp)) (λ_ _ _ _ _ _ _=>.inl ⟨_,_,_,rfl⟩)
theorem Li (m:Bool)(fr:bm)(cl:List bm)(w:ah)(h:fr.todo=[]):iW P m aA fr cl ai w=vk P m fr cl ai w:=by
 obtain⟨fn,tmps,todo,defers,mode,kind,round⟩:=fr;simp only at h;subst h;cases round with
 |none=>rfl
 |some l=>
  unfold iW vk phase;simp only;cases(Instr.endRound l ai).runT P w #[]with
  |mk r es=>cases r<;>rfl
theorem Lk (m:Bool)(fr:bm)(cl:List bm)(w:ah)(k:List Item)(h:fr.todo=.code .ret::k):iW P m aA fr cl ai w=vk P m fr cl (ae .ret) w:=by
 obtain⟨fn,tmps,todo,defers,mode,kind,round⟩:=fr;simp only at h;subst h;cases round with
 |none=>rfl
 |some l=>
  unfold iW vk phase;simp only;cases(Instr.endRound l (ae .ret)).runT P w #[]with
  |mk r es=>cases r<;>rfl
theorem Gp (m:Bool)(fr:bm)(cl:List bm)(w:ah)(i:Nat)(k:List Item)(h:fr.todo=.code (.exit i)::k):iW P m aA fr cl ai w=(exitTo i k).elim (vk P m fr cl (ae (.exit i)) w) λk=>.go (jG {fr with todo:=k} cl) w:=by
 obtain⟨fn,tmps,todo,defers,mode,kind,round⟩:=fr;simp only at h;subst h;cases round with
 |none=>rfl
 |some l=>
  unfold iW vk phase;simp only;cases exitTo i k with
  |some k=>rfl
  |none=>
   simp only[Option.elim_none];cases(Instr.endRound l (ae (.exit i))).runT P w #[]with
   |mk r es=>cases r<;>rfl
theorem Lh (m:Bool)(fr:bm)(cl:List bm)(w:ah)(l:Nat)(k:List Item)(h:fr.todo=.endRangeFunc l::k):iW P m aA fr cl ai w=phase P fr.fn (Instr.endLoop l) (λjump w=>.go (jG {fr with todo:=(jump.map Item.code).toList++k} cl) w) (λx w=>match x with
        | .panic v=>.go (jG (fr.raise [{v,recovered:=false}]) cl) w
        |_=>.ended (.stuck "range over a function: no such loop" (fr.pos P)) w) w:=by
 obtain⟨fn,tmps,todo,defers,mode,kind,round⟩:=fr;simp only at h;subst h;unfold iW phase;simp only;cases(Instr.endLoop l).runT P w #[]with
 |mk r es=>
  cases r with
  |ok _ _=>rfl
  |halt x _=>cases x<;>rfl
theorem QD (m:Bool)(fr:bm)(cl:List bm)(w:ah)(f:cw)(ps:Array Tmp)(x y:Code)(k:List Item)(h:fr.todo=.code (.rangeFunc f ps x y)::k):iW P m aA fr cl ai w=phase P fr.fn (Instr.enterLoop fr.fn fr.tmps ps x y fr.roundOf) (λlm w=>eU P aA {fr with todo:=.inRangeFunc lm.1::k,defers:=lm.2++fr.defers} cl ai (do let d<-resolve (Frame.eval {fr with todo:=.inRangeFunc lm.1::k,defers:=lm.2++fr.defers}) {callee:=.value f,args:= #[.const (.func (.yield lm.1) #[] #[])],argTypes:= #[]} 0;invoke d.target d.args) w) (λ_ w=>.ended (.stuck "range over a function: no such loop" (fr.pos P)) w) w:=by
 obtain⟨fn,tmps,todo,defers,mode,kind,round⟩:=fr;simp only at h;subst h;unfold iW phase;simp only;cases(Instr.enterLoop fn tmps ps x y round).runT P w #[]with
 |mk r es=>
  cases r with
  |ok _ _=>rfl
  |halt x _=>rfl
theorem DY (fr:bm)(f:cw)(v:aq):resolve fr.eval {callee:=.value f,args:= #[.const v],argTypes:= #[]} 0=gM (fr.eval f) #[v]:=by simp[resolve,Frame.eval]
theorem Lj (hc:c.Fits P){π:Ren}{L R:ah}(hw:ck P c.sig π L R){a b:bm}(h:r8 c kL kR π a b){cl cr:List bm}(Dd:a.roundOf≠ai-> ∃x l y m,cl=x::l/\cr=y::m)(hm:a.mode=.run)(S7:a.todo=kL->kL=[])(m m':Bool):mP P c kL kR π L R cl cr (uW a) (iW P m aA a cl ai L) (iW P m' aA b cr ai R):=by
 have hEv:=h.acs;have hEB:=h.evB;obtain⟨fn,tmps,todo,defers,mode,kind,round⟩:=a;obtain⟨ZA,nH,Nx,iA,Rl,xa,lD⟩:=b;have h':=h;obtain⟨h1,h2,h3,h4,h5,h6,h7,h8,h9,tS,Cl⟩:=h';simp only at h1 h2 h3 h4 h5 h6 h7 h8 h9 hm S7 Cl;subst hm;subst h5;subst h7;subst h8;have h1:=h1.symm;subst h1;have to: ∀{k k':List Item},KO c kL kR π k k'->mP P c kL kR π L R cl cr (round,fn)
  (.go (jG {fn,tmps,todo:=k,defers,mode:=.run,kind:=.normal,roundOf:=round} cl) L)
  (.go (jG {fn,tmps:=nH,todo:=k',defers:=iA,mode:=.run,kind:=.normal,roundOf:=lD} cr) R):=λhk=>
  mP.here hw ⟨rfl,h2,hk,h4,rfl,.inl rfl,rfl,rfl,h9,tS,Cl⟩ rfl
 cases h3 with
 |nil=>have hkL:=S7 rfl;have hkR:=tS.kk hkL;rw[Li m _ cl L hkL,Li m' _ cr R hkR];exact zW hw h Dd m m' ai (λ_ h=>by cases h)
 |cons hi hk=>
  rename_i k k'
  cases hi with
  |inBlock i=>exact to hk
  |inScope h=>exact to hk
  |inLoop hb=>exact to (.cons (.code hb) (.cons (.inLoop hb) hk))
  |inRangeFunc _ hl=>exact .inl ⟨_,_,_,rfl⟩
  |beginRound=>
   refine zJ hc hw h cl cr (Q:=NQ c) ?_ λ_ _ _ _ h=>.inl h
   show aI P c.sig (NQ c) (do round.elim (stuck "beginRound: no round") Instr.beginRound;pure .skip) π (do lD.elim (stuck "beginRound: no round") Instr.beginRound;pure .skip);cases h9 with
   |none=>exact rfl
   |some hl=>exact PO hw.ok (JG hw.ok hl)
  |endRangeFunc hb hl=>
   rename_i l l'
   rw[Lh m _ cl L l k rfl,Lh m' _ cr R l' k' rfl];refine sY (TM hw.ok hl) hw (λbO x y L' R' e rm jI=> ?_) (λx L' bO R' _ e jI=> ?_)
   ·obtain⟨rfl,hx⟩:=rm;refine mP.here jI ⟨rfl,h2.mono e,?_,mE.list e h4,rfl,.inl rfl,rfl,rfl,gw.ren e h9,tS,Cl⟩ rfl;cases y with
    |none=>exact hk.mono e
    |some j=>exact .cons (.code (by have:=hx j rfl;rwa[show c.sig.code j=(dm c.cl j=aA)from rfl,<-Dv hb]at this)) (hk.mono e)
   ·cases x with
    |panic v=>exact .inr ⟨_,_,L',_,bO,R',iA,rfl,rfl,jI,mE.list e h4,e⟩
    |_=>exact .inl ⟨_,_,_,rfl⟩
  |inRegion l ho=>
   rename_i ops
   cases l with
   |nil=>exact to hk
   |cons i rest=>
    have ahT:yielded ops nH=yielded ops tmps:=funext λj=>NF ops h2 j
    have rj:=h.finish (v:=undef) (v':=undef) (.tuple rfl (by simp));have e1:iW P m aA {fn,tmps,todo:=.inRegion ops (i::rest)::k,defers,mode:=.run,kind:=.normal,roundOf:=round} cl ai L=
     if((ops[i]?).map (bu · (yielded ops tmps))).getD aw then stepG.oper P aA {fn,tmps,todo:=.inRegion ops (i::rest)::k,defers,mode:=.run,kind:=.normal,roundOf:=round} cl ai L
     else .go (jG (Frame.finish {fn,tmps,todo:=.inRegion ops (i::rest)::k,defers,mode:=.run,kind:=.normal,roundOf:=round} undef) cl) L:=rfl
    have e2:iW P m' aA {fn,tmps:=nH,todo:=.inRegion ops (i::rest)::k',defers:=iA,mode:=.run,kind:=.normal,roundOf:=lD} cr ai R=
     if((ops[i]?).map (bu · (yielded ops nH))).getD aw then stepG.oper P aA {fn,tmps:=nH,todo:=.inRegion ops (i::rest)::k',defers:=iA,mode:=.run,kind:=.normal,roundOf:=lD} cr ai R
     else .go (jG (Frame.finish {fn,tmps:=nH,todo:=.inRegion ops (i::rest)::k',defers:=iA,mode:=.run,kind:=.normal,roundOf:=lD} undef) cr) R:=rfl
    rw[e1,e2,ahT]
    split
    ·unfold stepG.oper;have o1:Frame.oper? {fn,tmps,todo:=.inRegion ops (i::rest)::k,defers,mode:=.run,kind:=.normal,roundOf:=round}=ops[i]?:=rfl;have o2:Frame.oper? {fn,tmps:=nH,todo:=.inRegion ops (i::rest)::k',defers:=iA,mode:=.run,kind:=.normal,roundOf:=lD}=ops[i]?:=rfl;rw[o1,o2];cases hoi:ops[i]? with
     |none=>exact .inl ⟨_,_,_,rfl⟩
     |some o=>
      obtain⟨bE,Da⟩:=aL.1 hoi;have wa:kz c o=aA:=by have:=eK.1 ho i bE;rwa[Da]at this
      have main:=zJ hc hw h cl cr (Yy hc hw.ok hEv hEB o wa) λbO n n' e hq=>hq.imp id λ⟨v,d,e1,e2,e3,e4,e5⟩=>⟨v,e1,e2,λh=>h.aaD rfl hoi e3 e4 e5⟩
      simp only;cases hop:o.op with
      |defer k=>unfold kz qF BU at wa;rw[hop]at wa;cases wa
      |_=>cases h9<;>exact main
    ·exact mP.here hw rj.1 rj.2
  |code hx=>
   rename_i x
   cases x with
   |skip=>exact to hk
   |label l=>cases hx
   |goto l=>cases hx
   |refuse w=>cases hx
   |ret=>rw[Lk m _ cl L k rfl,Lk m' _ cr R k' rfl];exact zW hw h Dd m m' (ae .ret) (λ_ h=>by cases h;rfl)
   |seq x y=>simp only[dm,aM]at hx;exact to (.cons (.code hx.1) (.cons (.code hx.2) hk))
   |cond o x y=>
    simp only[dm,aM]at hx;have hv:=hEv o hx.1.1;have e1:iW P m aA {fn,tmps,todo:=.code (.cond o x y)::k,defers,mode:=.run,kind:=.normal,roundOf:=round} cl ai L=
     match Frame.eval {fn,tmps,todo:=.code (.cond o x y)::k,defers,mode:=.run,kind:=.normal,roundOf:=round} o with
     | .bool b=>.go (jG {fn,tmps,todo:=.code (if b then x else y)::k,defers,mode:=.run,kind:=.normal,roundOf:=round} cl) L
     |_=>.ended (.stuck "cond: bool expected" (Frame.pos P {fn,tmps,todo:=.code (.cond o x y)::k,defers,mode:=.run,kind:=.normal,roundOf:=round})) L:=rfl
    have e2:iW P m' aA {fn,tmps:=nH,todo:=.code (.cond o x y)::k',defers:=iA,mode:=.run,kind:=.normal,roundOf:=lD} cr ai R=
     match Frame.eval {fn,tmps:=nH,todo:=.code (.cond o x y)::k',defers:=iA,mode:=.run,kind:=.normal,roundOf:=lD} o with
     | .bool b=>.go (jG {fn,tmps:=nH,todo:=.code (if b then x else y)::k',defers:=iA,mode:=.run,kind:=.normal,roundOf:=lD} cr) R
     |_=>.ended (.stuck "cond: bool expected" (Frame.pos P {fn,tmps:=nH,todo:=.code (.cond o x y)::k',defers:=iA,mode:=.run,kind:=.normal,roundOf:=lD})) R:=rfl
    rw[e1,e2];revert hv;generalize Frame.eval {fn,tmps,todo:=.code (.cond o x y)::k,defers,mode:=.run,kind:=.normal,roundOf:=round} o=v;generalize Frame.eval {fn,tmps:=nH,todo:=.code (.cond o x y)::k',defers:=iA,mode:=.run,kind:=.normal,roundOf:=lD} o=v';intro hv;cases hv with
    |bool b=>cases b<;>first|exact to (.cons (.code hx.2) hk)|exact to (.cons (.code hx.1.2) hk)
    |_=>exact .inl ⟨_,_,_,rfl⟩
   |block i x=>exact to (.cons (.code hx) (.cons (.inBlock i) hk))
   |loop x=>exact to (.cons (.code hx) (.cons (.inLoop hx) hk))
   |scope x=>exact to (.cons (.code hx) (.cons (.inScope hx) hk))
   |exit i=>
    rw[Gp m _ cl L i k rfl,Gp m' _ cr R i k' rfl];rcases Ot tS i hk with⟨he,I7⟩|⟨r,r',he,I7,hk2⟩
    ·by_cases hr:round=ai
     ·subst hr;refine .inl ?_;rw[he];exact⟨_,_,_,rfl⟩
     ·rw[he,I7 (Cl hr)];exact zW hw h Dd m m' (ae (.exit i)) (λ_ h=>by cases h;rfl)
    ·rw[he,I7];exact to hk2
   |region id ops draw=>
    cases draw with
    |false=>exact to (.cons (.inRegion _ hx) hk)
    |true=>refine .inr (.inr ⟨jG {fn,tmps,todo:=.inRegion ops (Region.schedule (P.follows .mixedOrders) ops (L.tape L.drawn (.order fn id)))::k,defers,mode:=.run,kind:=.normal,roundOf:=round} cl,{L with drawn:=L.drawn+1},_,rfl,by simp,rfl,λag=> ?_⟩);have ag0:=ag 0 (.order fn id) (by simp);simp only[kW]at ag0;refine⟨π,jG {fn,tmps:=nH,todo:=.inRegion ops (Region.schedule (P.follows .mixedOrders) ops (R.tape R.drawn (.order fn id)))::k',defers:=iA,mode:=.run,kind:=.normal,roundOf:=lD} cr,{R with drawn:=R.drawn+1},_,Ext.refl hw.ok,rfl,?_,⟨hw.ok,hw.obj,hw.ox,hw.uz,hw.old⟩,⟨rfl,rfl,rfl,rfl,rfl,az _,az _,dt _ _▸rfl,λ_ _ _=>rfl,λ_ _ _=>rfl,λ_ _ h=>.inl h,λl h1 h2=>by simp only at h2;omega,λ_ _ h=>h⟩,by simp;omega,by simp⟩;rw[ag0];exact .stay ⟨rfl,h2,.cons (.inRegion _ hx) hk,h4,rfl,.inl rfl,rfl,rfl,h9,tS,Cl⟩ rfl
   |rangeFunc f ps x y=>
    simp only[dm,aM]at hx;have hb:c.bad=[]:=by simpa using hx.1.1.1
    have h2v:=h2.vs hb;have hcx: ∀z,dm c z=aA->dm c.cl z=aA:=λz hz=>by rw[<-Dv hb];exact hz
    rw[QD m _ cl L f ps x y k rfl,QD m' _ cr R f ps x y k' rfl];refine sY (MQ hw.ok fn h2v ps (hcx _ hx.1.2) (hcx _ hx.2) h9) hw (λbO lm lm' L' R' e OI jI=> ?_) (λ_ _ _ _ _ _ _=>.inl ⟨_,_,_,rfl⟩);have hf:r8 c kL kR bO {fn,tmps,todo:=.inRangeFunc lm.1::k,defers:=lm.2++defers,mode:=.run,kind:=.normal,roundOf:=round} {fn,tmps:=nH,todo:=.inRangeFunc lm'.1::k',defers:=lm'.2++iA,mode:=.run,kind:=.normal,roundOf:=lD}:=by
     refine⟨rfl,h2.mono e,.cons (.inRangeFunc hb OI.1) (hk.mono e),?_,rfl,.inl rfl,rfl,rfl,gw.ren e h9,tS,Cl⟩;have hd:=mE.list e h4;have hl:=OI.2;clear OI Dd;show dj (mE bO) (lm.2++defers) (lm'.2++iA);generalize lm.2=u at hl;generalize lm'.2=u' at hl
     induction hl with
     |nil=>exact hd
     |cons x _ ih=>exact .cons x ih
    refine zJ hc jI hf cl cr (Q:=NQ c) ?_ λ_ _ _ _ h=>.inl h
    rw[DY,DY];exact Bo hc jI.ok (hf.acs f hx.1.1.2) (a:= #[.func (.yield lm.1) #[] #[]]) (a':= #[.func (.yield lm'.1) #[] #[]]) ⟨rfl,λi u v hu hv=>by
     match i,hu,hv with
     |0,hu,hv=>simp at hu hv;subst hu;subst hv;exact .func (.yield OI.1) rfl (by simp) rfl (by simp)
     |i+1,hu,_=>simp at hu⟩
end
end Rel
namespace Rel
section
variable {P:aS} {c:fR} {kL kR:List Item}
theorem vK (m:Bool)(fr:bm)(cl:List bm)(w:ah)(r:Nat)(x:Array aq)(ds:List Deferred)(h:fr.defers={target:=.collected r,args:=x}::ds):unwind P m fr cl ai w=phase P fr.fn (Instr.takeDeferred r) (λcalls w=>.go (jG {fr with defers:=calls++ds} cl) w) (λ_ w=>.ended (.stuck "the deferred calls of a range-over-func loop have been taken" (fr.pos P)) w) w:=by
 obtain⟨fn,tmps,todo,defers,mode,kind,round⟩:=fr;simp only at h;subst h;unfold unwind phase;simp only;cases(Instr.takeDeferred r).runT P w #[]with
 |mk r es=>cases r<;>rfl
theorem n5 (m:Bool)(fr:bm)(cl:List bm)(w:ah)(h:fr.defers=[])(hm:fr.mode=.returning):unwind P m fr cl ai w=match P.funcs[fr.fn]? with
                                                                                                          |none=>doReturn P m fr cl ai (fr.tmps.getD 0 undef) w
                                                                                                          |some F=>phase P fr.fn (results F fr.tmps) (λv w=>doReturn P m fr cl ai v w)
                                                                                                           (λx w=>match x with
                                                                                                             | .stuck s=>.ended (.stuck s (fr.pos P)) w
                                                                                                             |_=>.ended (.stuck "return: the result variables cannot be read" (fr.pos P)) w) w:=by
 obtain⟨fn,tmps,todo,defers,mode,kind,round⟩:=fr;simp only at h hm;subst h;subst hm;unfold unwind;simp only;cases P.funcs[fn]? with
 |none=>rfl
 |some F=>
  unfold phase;simp only;cases(results F tmps).runT P w #[]with
  |mk r es=>
   cases r with
   |ok _ _=>rfl
   |halt x _=>cases x<;>rfl
theorem K6 {π:Ren}{L R:ah}(hw:ck P c.sig π L R){a b:bm}(h:r8 c kL kR π a b)(cl cr:List bm)(m m':Bool)(hd:a.defers≠ []):mP P c kL kR π L R cl cr (uW a) (unwind P m a cl ai L) (unwind P m' b cr ai R):=by
 have h4:=h.defers;revert h4;cases hA:a.defers with
 |nil=>exact absurd hA hd
 |cons d ds=>
  cases hB:b.defers with
  |nil=>intro h;cases h
  |cons d' UX=>
   intro h4;cases h4 with
   |cons h1 hr=>
    cases h1 with
    |mk hrr=>rw[vK m a cl L _ _ ds hA,vK m' b cr R _ _ UX hB];refine sY (vB hw.ok hrr) hw (λbO x y L' R' e rm jI=> ?_) (λ_ _ _ _ _ _ _=>.inl ⟨_,_,_,rfl⟩);obtain⟨rfl,rfl⟩:=rm;have h':=h.mono e;exact mP.here jI ⟨h'.fn,h'.tmps,h'.todo,mE.list e hr,h'.mode,h'.ok,h'.kind,h'.xa,h'.round,h'.ks,h'.rk⟩ rfl
theorem abE {a:bm}(sO:c.bad=[]\/ ∃F,P.funcs[a.fn]? =ae F/\F.results.toList.all (rD c.bad)=aA){π:Ren}{L R:ah}(hw:ck P c.sig π L R){b:bm}(h:r8 c kL kR π a b){x y:bm}{l r:List bm}(m m':Bool)(hm:a.mode=.returning)(hd:a.defers=[]):mP P c kL kR π L R (x::l) (y::r) (ae 0,a.fn) (unwind P m a (x::l) ai L) (unwind P m' b (y::r) ai R):=by
 have hd':b.defers=[]:=by
  have h4:=h.defers;rw[hd]at h4;revert h4;generalize b.defers=ds;intro h4;cases h4
  rfl
 rw[n5 m a _ L hd hm,n5 m' b _ R hd' (h.mode.trans hm),h.fn];cases hF:P.funcs[a.fn]? with
 |none=>
  rcases sO with C8|⟨F,yI,_⟩
  ·exact tH hw h (cK.getD (h.tmps.vs C8) 0) m m' (by simp)
  ·rw[hF]at yI;cases yI
 |some F=>
  have hr:F.results.toList.all (rD c.bad)=aA:=by
   rcases sO with C8|⟨F',yI,h⟩
   ·exact z8 C8 F
   ·rw[hF]at yI;cases yI;exact h
  refine sY (xT hw.ok F hr h.tmps) hw (λbO v v' L' R' e hv jI=>tH jI (h.mono e) hv m m' (by simp)) (λx L' bO R' _ _ _=>.inl ?_);cases x<;>exact⟨_,_,_,rfl⟩
inductive tz (c:fR) (kL kR:List Item) (bot bot':List bm) (π:Ren):List bm->List bm->Prop
 |one {a b:bm}:r8 c kL kR π a b->a.roundOf=ai->tz c kL kR bot bot' π (a::bot) (b::bot')
 |cons {d:fR} {a b:bm} {l m:List bm}:Up c d a.fn->r8 d [] [] π a b->tz c kL kR bot bot' π l m->tz c kL kR bot bot' π (a::l) (b::m)
theorem tz.mono {bot bot':List bm}{π bO:Ren}(e:Ext P π bO){l m:List bm}(h:tz c kL kR bot bot' π l m):tz c kL kR bot bot' bO l m:=by
 induction h with
 |one h hr=>exact .one (h.mono e) hr
 |cons hu h _ ih=>exact .cons hu (h.mono e) ih
theorem tz.ne {bot bot':List bm}{π:Ren}{l m:List bm}(h:tz c kL kR bot bot' π l m): ∃a l' b m',l=a::l'/\m=b::m':=by cases h<;>exact⟨_,_,_,_,rfl,rfl⟩
theorem tz.lt {bot bot':List bm}{π:Ren}{l m:List bm}(h:tz c kL kR bot bot' π l m):bot.length<l.length:=by
 induction h with
 |one=>simp
 |cons _ _ _ ih=>simp;omega
structure GR (c:fR) (kL kR:List Item) (bot bot':List bm) (π:Ren) (g g':ay):Prop where
 l:g=jG g.frame g.callers
 r:g'=jG g'.frame g'.callers
 stk:tz c kL kR bot bot' π (g.frame::g.callers) (g'.frame::g'.callers)
def Z' (bot:List bm)(g:ay):Prop:=g.callers=bot/\g.frame.mode=.returning/\g.frame.defers=[]
def uJ (k:List Item)(bot:List bm)(g:ay):Prop:=Z' bot g\/(g.callers=bot/\g.frame.mode=.run/\g.frame.todo=k/\k≠ [])
theorem tf (m:Bool)(a:bm)(cl:List bm)(w:ah)(h:a.mode=.run):stepG P m (jG a cl) w=iW P m aA a cl ai w:=by
 obtain⟨fn,tmps,todo,defers,mode,kind,round⟩:=a;simp only at h;subst h
 rfl
theorem iD (m:Bool)(a:bm)(cl:List bm)(w:ah)(h:a.mode≠ .run):stepG P m (jG a cl) w=unwind P m a cl ai w:=by
 obtain⟨fn,tmps,todo,defers,mode,kind,round⟩:=a;cases mode with
 |run=>exact absurd rfl h
 |_=>rfl
def VC (P:aS)(c:fR)(kL kR:List Item)(bot bot':List bm)(π:Ren)(L R:ah)(sL sR:GStep):Prop:=
 ∃gL L' es,sL=.go gL L' es/\L.drawn<=L'.drawn/\L'.tape=L.tape/\(Qj L R L'.drawn->
  ∃bO gR R' ev,Ext P π bO/\sR=.go gR R' ev/\GR c kL kR bot bot' bO gL gR/\ck P c.sig bO L' R'/\yh π bO L R L' R'/\R'.drawn+L.drawn=R.drawn+L'.drawn/\ ∀e∈ev,Ey c.sig bO e)
def Sh (P:aS)(c:fR)(kL kR:List Item)(bot bot':List bm)(g:ay)(w:ah):Prop:= ∃a cl chain π R ds,g=jG a cl/\a.mode=.panicking chain/\ck P c.sig π w R/\dj (mE π) a.defers ds/\(cl=bot\/ ∃cl',tz c kL kR bot bot' π cl cl')
theorem Eg (hc:c.Fits P){bot bot':List bm}{π:Ren}{L R:ah}(hw:ck P c.sig π L R){g g':ay}(h:GR c kL kR bot bot' π g g')(hl: ¬uJ kL bot g)(m m':Bool):uN (stepG P m g L)\/(∃g2 w2 es,stepG P m g L=.go g2 w2 es/\Sh P c kL kR bot bot' g2 w2)\/VC P c kL kR bot bot' π L R (stepG P m g L) (stepG P m' g' R):=by
 obtain⟨rl,rr,hs⟩:=h;revert hs hl;rw[rl,rr];generalize g.frame=a;generalize g.callers=cl;generalize g'.frame=b;generalize g'.callers=cr;intro hl hs;have Dq: ∀{d:fR} {qL qR:List Item} {a b:bm},r8 d qL qR π a b->a.mode≠ .run->a.mode=.returning:=λh hr=>h.ok.resolve_left hr
 have lift: ∀{d:fR} {qL qR:List Item} {a b:bm} {cl cr:List bm} {ro:Option Nat×bQ} {sL sR:GStep},d.sig=c.sig->mP P d qL qR π L R cl cr ro sL sR->(cl=bot\/ ∃cl',tz c kL kR bot bot' π cl cl')->
  (∀bO gL gR,Ext P π bO->KP d qL qR bO cl cr ro gL gR->GR c kL kR bot bot' bO gL gR)->
  uN sL\/(∃g2 w2 es,sL=.go g2 w2 es/\Sh P c kL kR bot bot' g2 w2)\/VC P c kL kR bot bot' π L R sL sR:=by
  intro d _ _ _ _ cl cr ro sL sR XB gI rh hT;unfold mP xA at gI;rw[XB]at gI;rcases gI with h|⟨a,ch,w,es,bO,R',ds,rfl,h1,h2,h3,h4⟩|⟨gL,L',es,rfl,h1,h2,h3⟩
  ·exact .inl h
  ·exact .inr (.inl ⟨_,_,_,rfl,a,cl,ch,bO,R',ds,rfl,h1,h2,h3,rh.imp id λ⟨cl',h⟩=>⟨cl',h.mono h4⟩⟩)
  ·refine .inr (.inr ⟨gL,L',es,rfl,h1,h2,λag=> ?_⟩);obtain⟨bO,gR,R',ev,e,hr,ht,jI,hd,Xd,jq⟩:=h3 ag;exact⟨bO,gR,R',ev,e,hr,hT bO gL gR e ht,jI,hd,Xd,jq⟩
 cases hs with
 |one jz hr=>
  have hT: ∀bO gL gR,Ext P π bO->KP c kL kR bO bot bot' (uW a) gL gR->GR c kL kR bot bot' bO gL gR:=by
   intro bO gL gR e ht;cases ht with
   |stay h Dd=>exact⟨rfl,rfl,.one h ((congrArg Prod.fst Dd).trans hr)⟩
   |push hu hf h Dd=>exact⟨rfl,rfl,.cons hu hf (.one h ((congrArg Prod.fst Dd).trans hr))⟩
   |pop dQ=>exact absurd hr dQ
  by_cases hm:a.mode=.run
  ·rw[tf m a _ L hm,tf m' b _ R (jz.mode.trans hm)];exact lift (a:=a) (b:=b) rfl (Lj hc hw jz (λh=>absurd hr h) hm (λe=>Classical.byContradiction λdQ=>hl (.inr ⟨rfl,hm,e,dQ⟩)) m m') (.inl rfl) hT
  ·have QZ:=Dq jz hm;rw[iD m a _ L hm,iD m' b _ R (by rw[jz.mode];exact hm)];exact lift (a:=a) (b:=b) rfl (K6 hw jz bot bot' m m' λhd=>hl (.inl ⟨rfl,QZ,hd⟩)) (.inl rfl) hT
 |cons hu jz mS=>
  rename_i d
  have XF:ck P d.sig π L R:=by rw[hu.sig];exact hw
  have hup: ∀z:bm,z.fn=a.fn->Up c d z.fn:=λz h=>by rw[h];exact hu
  have hT: ∀bO gL gR,Ext P π bO->KP d [] [] bO cl cr (uW a) gL gR->GR c kL kR bot bot' bO gL gR:=by
   intro bO gL gR e ht;have mS:=mS.mono e;cases ht with
   |stay h Dd=>exact⟨rfl,rfl,.cons (hup _ (congrArg Prod.snd Dd)) h mS⟩
   |push XD hf h Dd=>exact⟨rfl,rfl,.cons (hu.up XD) hf (.cons (hup _ (congrArg Prod.snd Dd)) h mS)⟩
   |pop dQ h1 h2 hv=>
    subst h1;subst h2;rw[hu.sig]at hv;refine⟨rfl,rfl,?_⟩;cases mS with
    |one hx hr=>have:=hx.finish hv;exact .one this.1 ((congrArg Prod.fst this.2).trans hr)
    |cons XD hx hr=>exact .cons (by rw[show(Frame.finish _ _).fn=_ from congrArg Prod.snd (hx.finish (by rw[XD.sig];exact hv)).2];exact XD) (hx.finish (by rw[XD.sig];exact hv)).1 hr
  obtain⟨x,l,y,r,rfl,rfl⟩:=mS.ne;by_cases hm:a.mode=.run
  ·rw[tf m a _ L hm,tf m' b _ R (jz.mode.trans hm)];exact lift (d:=d) (a:=a) (b:=b) hu.sig (Lj (c:=d) (hu.fits hc) XF jz (λ_=>⟨_,_,_,_,rfl,rfl⟩) hm (λ_=>rfl) m m') (.inr ⟨_,mS⟩) hT
  ·have QZ:=Dq jz hm;rw[iD m a _ L hm,iD m' b _ R (by rw[jz.mode];exact hm)];by_cases hd:a.defers=[]
   ·have sO:d.bad=[]\/ ∃F,P.funcs[a.fn]? =ae F/\F.results.toList.all (rD d.bad)=aA:=by
     rcases hu with rfl|⟨rfl,hf⟩
     ·exact .inl rfl
     ·obtain⟨F,_,h1,_,_,_,h2⟩:=hc.fn a.fn hf;exact .inr ⟨F,h1,h2⟩
    refine lift (d:=d) (a:=a) (b:=b) hu.sig (abE (c:=d) sO XF jz m m' QZ hd) (.inr ⟨_,mS⟩) ?_;intro bO gL gR e ht;have mS:=mS.mono e;cases ht with
    |stay h Dd=>exact⟨rfl,rfl,.cons (hup _ (congrArg Prod.snd Dd)) h mS⟩
    |push XD hf h Dd=>exact⟨rfl,rfl,.cons (hu.up XD) hf (.cons (hup _ (congrArg Prod.snd Dd)) h mS)⟩
    |pop dQ h1 h2 hv=>
     cases h1;cases h2;rw[hu.sig]at hv;refine⟨rfl,rfl,?_⟩;cases mS with
     |one hx hr=>have:=hx.finish hv;exact .one this.1 ((congrArg Prod.fst this.2).trans hr)
     |cons XD hx hr=>exact .cons (by rw[show(Frame.finish _ _).fn=_ from congrArg Prod.snd (hx.finish (by rw[XD.sig];exact hv)).2];exact XD) (hx.finish (by rw[XD.sig];exact hv)).1 hr
   ·exact lift (d:=d) (a:=a) (b:=b) hu.sig (K6 (c:=d) XF jz _ _ m m' hd) (.inr ⟨_,mS⟩) hT
end
end Rel
namespace Rel
def Sub (π:Ren):Prop:= ∀a b,π a b->a=b
theorem dD.eq {π:Ren}(s:Sub π){a b:Addr}(h:dD π a b):a=b:=by
 obtain⟨x,y,z⟩:=a;obtain⟨x',y',z'⟩:=b;obtain⟨h1,h2,h3⟩:=h;have:=s _ _ h1;simp only at h2 h3 this;subst this;subst h2;subst h3
 rfl
theorem uS {α:Type}{x y:Array α}(hs:x.size=y.size)(h: ∀(i:Nat) a b,x[i]? =ae a->y[i]? =ae b->a=b):x=y:=by apply Array.ext hs;intro i h1 h2;exact h i _ _ (aX h1) (aX h2)
theorem UN.eq {S:jy}{π:Ren}(s:Sub π): ∀{a b:Fn},UN S π a b->a=b
 |_,_,.func _=>rfl
 |_,_,.yield h=>by rw[s _ _ h]
theorem bx.eq {S:jy}{π:Ren}(s:Sub π){v v':aq}(h:bx S π v v'):v=v':=by
 induction h with
 |pointer h=>rw[h.eq s]
 |slice l c h=>rw[h.eq s]
 |map h=>rw[s _ _ h]
 |func hf s1 _ s2 _ i1 i2=>rw[hf.eq s,uS s1 i1,uS s2 i2]
 |iface t _ ih=>rw[ih]
 |agg s1 _ i=>rw[uS s1 i]
 |tuple s1 _ i=>rw[uS s1 i]
 |_=>rfl
theorem cK.eq {S:jy}{π:Ren}(s:Sub π){x y:Array aq}(h:cK S π x y):x=y:=uS h.size λi a b ha hb=>(h.at_ i a b ha hb).eq s
theorem o0.eq {S:jy}{π:Ren}(s:Sub π){a b:MapEntry}(h:o0 S π a b):a=b:=by obtain⟨k,v,n⟩:=a;obtain⟨k',v',n'⟩:=b;obtain⟨h1,h2,h3⟩:=h;simp only at h1 h2 h3;rw[h1.eq s,h2.eq s,h3]
theorem ku.eq {S:jy}{π:Ren}(s:Sub π){o o':Obj}(h:ku S π o o'):o=o':=by
 cases h with
 |loop h=>
  rename_i a b
  obtain⟨a1,a2,a3,a4,a5,a6,a7,a8⟩:=a;obtain⟨b1,b2,b3,b4,b5,b6,b7,b8⟩:=b;obtain⟨h1,h2,_,h3,h4,h5,h6,_,h7,_,h8⟩:=h;simp only at h1 h2 h3 h4 h5 h6 h7 h8;rw[h1,h2,h3,cK.eq s h4,h5,h6,h7,s _ _ h8]
 |number l h=>rw[h.eq s]
 |deferred=>rfl
 |cells t fr h=>rw[cK.eq s h]
 |map k h=>rw[uS h.size λi a b ha hb=>(h.at_ i a b ha hb).eq s]
 |stringIter=>rfl
 |mapIter a b c h=>
  cases h with
  |none=>rfl
  |some h=>rw[s _ _ h]
theorem dj.eq {α:Type}{R:α->α->Prop}(hR: ∀a b,R a b->a=b){l m:List α}(h:dj R l m):l=m:=by
 induction h with
 |nil=>rfl
 |cons h _ ih=>rw[hR _ _ h,ih]
theorem gw.eq {α:Type}{R:α->α->Prop}(hR: ∀a b,R a b->a=b){l m:Option α}(h:gw R l m):l=m:=by
 cases h with
 |none=>rfl
 |some h=>rw[hR _ _ h]
theorem p6.eq {c:fR}{π:Ren}(s:Sub π): ∀(a b:Item),p6 c π a b->a=b
 |_,_,.code _=>rfl
 |_,_,.inBlock _=>rfl
 |_,_,.inLoop _=>rfl
 |_,_,.inScope _=>rfl
 |_,_,.inRegion _ _=>rfl
 |_,_,.inRangeFunc _ h=>by rw[s _ _ h]
 |_,_,.endRangeFunc _ h=>by rw[s _ _ h]
 |_,_,.beginRound=>rfl
theorem mE.eq {π:Ren}(s:Sub π): ∀(a b:Deferred),mE π a b->a=b|_,_,.mk h=>by rw[s _ _ h]
theorem se.eq {c:fR}{π:Ren}(s:Sub π){x y:Array aq}(h:se c π x y):x=y:=uS h.size λi a b ha hb=>(h.at_ i a b ha hb).elim (·.eq s) (·.2.1)
theorem KO.eq {c:fR}{k:List Item}{π:Ren}(s:Sub π){a b:List Item}(h:KO c k k π a b):a=b:=by
 induction h with
 |nil=>rfl
 |cons h _ ih=>rw[p6.eq s _ _ h,ih]
theorem r8.eq {c:fR}{k:List Item}{π:Ren}(s:Sub π){a b:bm}(h:r8 c k k π a b):a=b:=by obtain⟨fn,tmps,todo,defers,mode,kind,round⟩:=a;obtain⟨ZA,nH,Nx,iA,Rl,xa,lD⟩:=b;obtain⟨h1,h2,h3,h4,h5,h6,h7,h8,h9,_,_⟩:=h;simp only at h1 h2 h3 h4 h5 h6 h7 h8 h9;rw[h1,se.eq s h2,KO.eq s h3,dj.eq (mE.eq s) h4,h5,h7,h8,gw.eq s h9]
theorem tz.eq {c:fR}{k:List Item}{bot:List bm}{π:Ren}(s:Sub π){l m:List bm}(h:tz c k k bot bot π l m):l=m:=by
 induction h with
 |one h _=>rw[h.eq s]
 |cons _ h _ ih=>rw[h.eq s,ih]
theorem GR.eq {c:fR}{k:List Item}{bot:List bm}{π:Ren}(s:Sub π){g g':ay}(h:GR c k k bot bot π g g'):g=g':=by obtain⟨h1,h2,h3⟩:=h;rw[h1,h2];have:=h3.eq s;simp only[List.cons.injEq]at this;rw[this.1,this.2]
def dB (w:ah)(t:Nat->Question->Nat)(d:Nat):ah:={w with tape:=t,drawn:=d}
section
variable {P:aS} {c:fR}
theorem Sub.Zy {π bO:Ren}(s:Sub π){L R L' R':ah}(hd:yh π bO L R L' R')(hs:L.heap.size=R.heap.size):Sub bO:=λa b h=>by
 rcases hd.new a b h with x|x
 ·exact s a b x
 ·omega
theorem Am {S:jy}{π bO:Ren}(s:Sub π){L R L' R':ah}(hh:R.heap=L.heap)(hw:ck P S bO L' R')(hd:yh π bO L R L' R'):R'.heap=L'.heap:=by
 have hs:L.heap.size=R.heap.size:=by rw[hh]
 have s':=s.Zy hd hs;have hz:=hd.sizes;apply Array.ext_getElem?;intro i;rcases dM i L'.heap.size with hi|hi
 ·by_cases hr: ∃r,bO i r
  ·obtain⟨r,hr⟩:=hr;obtain⟨o,o',h1,h2,h3⟩:=hw.obj _ _ hr;obtain rfl:=s' _ _ hr;rw[h1,h2,h3.eq s']
  ·rcases dM i L.heap.size with hl|hl
   ·rw[hd.rest i (by omega) λl hl=>hr ⟨i,by have:=s _ _ hl;subst this;exact hd.le _ _ hl⟩,hd.M3 i hl λr we=>hr ⟨r,hd.le _ _ we⟩,hh]
   ·exact absurd (hd.all i hl hi) hr
 ·rw[ic hi,ic (by omega)]
theorem Ih (hc:c.Fits P){k:List Item}{bot:List bm}{π:Ren}(s:Sub π){w:ah}(hw:ck P c.sig π w w){g:ay}(h:GR c k k bot bot π g g)(hl: ¬uJ k bot g)(t:Nat->Question->Nat)(d:Nat):(uN (stepG P aA g (dB w t d)))\/(∃g2 w2 es,stepG P aA g (dB w t d)=.go g2 w2 es/\Sh P c k k bot bot g2 w2)\/ ∃g' w' es bO,stepG P aA g (dB w t d)=.go g' w' es/\d<=w'.drawn/\w'.tape=t/\Sub bO/\ck P c.sig bO w' w'/\GR c k k bot bot bO g' g'/\ ∀t' d',(∀i q,d+i<w'.drawn->t' (d'+i) q=t (d+i) q)-> ∃lk,stepG P aA g (dB w t' d')=.go g' (dB w' t' (d'+(w'.drawn-d))) lk:=by
 have hwt: ∀t d t' d',ck P c.sig π (dB w t d) (dB w t' d'):=λt d t' d'=>⟨hw.ok,hw.obj,hw.ox,hw.uz,hw.old⟩
 rcases Eg hc (hwt t d t d) h hl aA aA with h1|h1|⟨g',w',es,hgo,Cj,ht1,hA⟩
 ·exact .inl h1
 ·exact .inr (.inl h1)
 ·obtain⟨bO,gR,R',ev,e,hr,hg,jI,hd,Xd,_⟩:=hA (λ_ _ _=>rfl);rw[hgo]at hr;cases hr;refine .inr (.inr ⟨g',w',es,bO,hgo,Cj,ht1,s.Zy hd rfl,jI,hg,λt' d' ag=> ?_⟩);rcases Eg hc (hwt t d t' d') h hl aA aA with⟨_,_,_,h1⟩|⟨_,_,_,h1,h2⟩|⟨g2,w2,es2,Xf,_,_,hA2⟩
  ·rw[hgo]at h1;cases h1
  ·rw[hgo]at h1;cases h1;obtain⟨a,cl,ch,jJ,R2,ds,rfl,hm,_⟩:=h2;obtain⟨_,_,gI⟩:=hg;cases gI with
   |one hf _=>rcases hf.ok with x|x<;>rw[hm]at x<;>cases x
   |cons _ hf _=>rcases hf.ok with x|x<;>rw[hm]at x<;>cases x
  ·rw[hgo]at Xf;cases Xf;obtain⟨jJ,gR,R',ev,e,hr,Ku,OU,OE,ais,_⟩:=hA2 ag;have s2:=s.Zy OE rfl;obtain rfl:=Ku.eq s2;refine⟨ev,?_⟩;rw[hr];congr 1;have hh:=Am s (L:=dB w t d) (R:=dB w t' d') rfl OU OE;have h1:=OE.tape;have h2:=OE.os;have h3:=OE.output;have h4:=OE.osL;have h5:=OE.wy;obtain⟨hp,tp,dr,os,out⟩:=R';obtain⟨LR,tp',dr',os',aiF⟩:=w';simp only[dB]at*;subst hh;subst h1;subst h2;subst h3;rw[h4,h5];congr 1;omega
end
end Rel
section
abbrev k7:Go.Conc.Lib.WgLink where
 add:=153
 done:=156
 wait:=106
 relMerge:=203
 disable:=157
 enable:=159
 inBubble:=165
 associate:=204
 fatal:=205
 uOr:=206
 uAdd:=207
 raceRead:=208
 uLoad:=158
 uStore:=209
 disassociate:=163
 semrelease:=210
 acquire:=160
 isAssociated:=161
 uCas:=162
 raceWrite:=164
 semacquire:=166
 orU64:=235
 addU64:=236
 loadU64:=211
 storeU64:=237
 casU64:=212
 tWgP:=232
 tUP:=235
 tAssoc:=270
 tWg:=189
 tAU:=186
 tU64:=184
 tUint:=230
 tU32:=187
 tPU32:=239
 tPAU:=276
 tPU64:=278
 tNoCopy:=181
 tANoCopy:=182
 tAlign64:=183
theorem Ze:Go.Conc.Lib.WgLib Tryz.prog k7 where
 f_add:=Tryz.func153
 f_done:=Tryz.func156
 f_wait:=Tryz.func106
 f_relMerge:=Tryz.func203
 f_disable:=Tryz.func157
 f_enable:=Tryz.func159
 f_inBubble:=Tryz.func165
 f_associate:=Tryz.func204
 f_fatal:=Tryz.func205
 f_uOr:=Tryz.func206
 f_uAdd:=Tryz.func207
 f_raceRead:=Tryz.func208
 f_uLoad:=Tryz.func158
 f_uStore:=Tryz.func209
 f_disassociate:=Tryz.func163
 f_semrelease:=Tryz.func210
 f_acquire:=Tryz.func160
 f_isAssociated:=Tryz.func161
 f_uCas:=Tryz.func162
 f_raceWrite:=Tryz.func164
 f_semacquire:=Tryz.func166
 f_orU64:=Tryz.func235
 f_addU64:=Tryz.func236
 f_loadU64:=Tryz.func211
 f_storeU64:=Tryz.func237
 f_casU64:=Tryz.func212
 underlying_tWgP:=Tryz.underlying232
 runUnderlying_tWgP:=Tryz.runUnderlying232
 sizeOf_tWgP:=Tryz.sizeOf232
 isAgg_tWgP:=Tryz.isAgg232
 zeroValue_tWgP:=Tryz.zeroValue232
 underlying_tUP:=Tryz.underlying235
 runUnderlying_tUP:=Tryz.runUnderlying235
 sizeOf_tUP:=Tryz.sizeOf235
 isAgg_tUP:=Tryz.isAgg235
 zeroValue_tUP:=Tryz.zeroValue235
 underlying_tI32:=Tryz.underlying270
 runUnderlying_tI32:=Tryz.runUnderlying270
 sizeOf_tI32:=Tryz.sizeOf270
 isAgg_tI32:=Tryz.isAgg270
 zeroValue_tI32:=Tryz.zeroValue270
 underlying_tWg:=Tryz.underlying189
 runUnderlying_tWg:=Tryz.runUnderlying189
 sizeOf_tWg:=Tryz.sizeOf189
 isAgg_tWg:=Tryz.isAgg189
 zeroValue_tWg:=Tryz.zeroValue189
 underlying_tAU:=Tryz.underlying186
 runUnderlying_tAU:=Tryz.runUnderlying186
 sizeOf_tAU:=Tryz.sizeOf186
 isAgg_tAU:=Tryz.isAgg186
 zeroValue_tAU:=Tryz.zeroValue186
 underlying_tU64:=Tryz.underlying184
 runUnderlying_tU64:=Tryz.runUnderlying184
 sizeOf_tU64:=Tryz.sizeOf184
 isAgg_tU64:=Tryz.isAgg184
 zeroValue_tU64:=Tryz.zeroValue184
 underlying_tSh:=Tryz.underlying230
 runUnderlying_tSh:=Tryz.runUnderlying230
 sizeOf_tSh:=Tryz.sizeOf230
 isAgg_tSh:=Tryz.isAgg230
 zeroValue_tSh:=Tryz.zeroValue230
 underlying_tU32:=Tryz.underlying187
 runUnderlying_tU32:=Tryz.runUnderlying187
 sizeOf_tU32:=Tryz.sizeOf187
 isAgg_tU32:=Tryz.isAgg187
 zeroValue_tU32:=Tryz.zeroValue187
 underlying_tPU32:=Tryz.underlying239
 runUnderlying_tPU32:=Tryz.runUnderlying239
 sizeOf_tPU32:=Tryz.sizeOf239
 isAgg_tPU32:=Tryz.isAgg239
 zeroValue_tPU32:=Tryz.zeroValue239
 underlying_tPAU:=Tryz.underlying276
 runUnderlying_tPAU:=Tryz.runUnderlying276
 sizeOf_tPAU:=Tryz.sizeOf276
 isAgg_tPAU:=Tryz.isAgg276
 zeroValue_tPAU:=Tryz.zeroValue276
 underlying_tPU64:=Tryz.underlying278
 runUnderlying_tPU64:=Tryz.runUnderlying278
 sizeOf_tPU64:=Tryz.sizeOf278
 isAgg_tPU64:=Tryz.isAgg278
 zeroValue_tPU64:=Tryz.zeroValue278
 underlying_t0:=Tryz.underlying0
 runUnderlying_t0:=Tryz.runUnderlying0
 sizeOf_t0:=Tryz.sizeOf0
 isAgg_t0:=Tryz.isAgg0
 zeroValue_t0:=Tryz.zeroValue0
 underlying_t3:=Tryz.underlying3
 runUnderlying_t3:=Tryz.runUnderlying3
 sizeOf_t3:=Tryz.sizeOf3
 isAgg_t3:=Tryz.isAgg3
 zeroValue_t3:=Tryz.zeroValue3
 underlying_t4:=Tryz.underlying4
 runUnderlying_t4:=Tryz.runUnderlying4
 sizeOf_t4:=Tryz.sizeOf4
 isAgg_t4:=Tryz.isAgg4
 zeroValue_t4:=Tryz.zeroValue4
 underlying_t9:=Tryz.underlying9
 runUnderlying_t9:=Tryz.runUnderlying9
 sizeOf_t9:=Tryz.sizeOf9
 isAgg_t9:=Tryz.isAgg9
 zeroValue_t9:=Tryz.zeroValue9
 underlying_t20:=Tryz.underlying20
 runUnderlying_t20:=Tryz.runUnderlying20
 sizeOf_t20:=Tryz.sizeOf20
 isAgg_t20:=Tryz.isAgg20
 zeroValue_t20:=Tryz.zeroValue20
 underlying_t21:=Tryz.underlying21
 runUnderlying_t21:=Tryz.runUnderlying21
 sizeOf_t21:=Tryz.sizeOf21
 isAgg_t21:=Tryz.isAgg21
 zeroValue_t21:=Tryz.zeroValue21
 room_tWg:=by kernel_rfl
 room_tU32:=by kernel_rfl
end
namespace Rel
def fC:bm:={fn:=0,tmps:= #[],todo:=[.code (.refuse "")],defers:=[{target:=.nil,args:= #[]}],mode:=.run,kind:=.normal}
def sent:Item:=.code (.refuse "")
inductive LT (P:aS) (k:List Item) (H:ay->ah->Prop):ay->ah->Prop
 |stop {g:ay} {w:ah}:H g w->LT P k H g w
 |step {g:ay} {w:ah} (gs:(Nat->Question->Nat)->Nat->ay) (ws:(Nat->Question->Nat)->Nat->ah) (es:(Nat->Question->Nat)->Nat->Array Event): ¬uJ k [fC] g->(∀t d,stepG P aA g (dB w t d)=.go (gs t d) (ws t d) (es t d)/\((gs t d).frame.mode=.run\/(gs t d).frame.mode=.returning))->(∀t d,LT P k H (gs t d) (ws t d))->LT P k H g w
def ln (g:ay)(w:ah):Machine:=lone g.frame g.callers w
section
variable {P:aS} {c:fR} {kL kR:List Item}
theorem Cw {g g':ay}{w w':ah}{es:Array Event}(h1:g=jG g.frame g.callers)(h2:g'=jG g'.frame g'.callers)(h:stepG P aA g w=.go g' w' es):step P (ln g w)=.next (ln g' w'):=by rw[h1]at h;rw[h2]at h;exact step_lone_go (by rw[h];rfl)
theorem step_end {g:ay}{w:ah}(h1:g=jG g.frame g.callers)(h:uN (stepG P aA g w)): ∃o w',step P (ln g w)=.ended o w':=by obtain⟨o,w',es,h⟩:=h;rw[h1]at h;exact⟨o,w',step_lone_ended (by rw[h];rfl)⟩
def Qq (P:aS)(Q:Machine->Prop)(m:Machine):Prop:= ∀n m',runN P n m=.next m'-> ¬Q m'
theorem Bh {Q:Machine->Prop}{m:Machine}{o:Outcome}{w:ah}(h0: ¬Q m)(h:step P m=.ended o w):Qq P Q m:=by
 intro n m2 hn;cases n with
 |zero=>cases hn;exact h0
 |succ n=>simp only[runN,h]at hn;cases hn
def uh (m:Machine):Prop:= ∃fr w,m=lone fr [fC] w/\(fr.mode=.run\/fr.mode=.returning)
theorem CM {g:ay}{w:ah}(h:uh (ln g w)):g.callers=[fC]/\(g.frame.mode=.run\/g.frame.mode=.returning):=by obtain⟨fr,w',h,h1⟩:=h;unfold ln lone at h;simp at h;rw[h.2.1,h.2.2];exact⟨rfl,h1⟩
theorem Oc (chain:List PanicEntry)(w:ah):Qq P uh (ln (jG (fC.raise chain) []) w):=by
 have h0: ¬uh (ln (jG (fC.raise chain) []) w):=λh=>by have:=(CM h).1;cases this
 have h1:uN (stepG P aA (jG (fC.raise chain) []) w):=⟨_,_,_,rfl⟩;obtain⟨o,w',h⟩:=step_end rfl h1;exact Bh h0 h
theorem P8 (m:Bool)(fr x:bm)(l:List bm)(w:ah)(ch:List PanicEntry)(h:fr.defers=[])(hm:fr.mode=.panicking ch):uN (unwind P m fr (x::l) ai w)\/unwind P m fr (x::l) ai w=.go (jG (x.raise ch) l) w:=by
 obtain⟨fn,tmps,todo,defers,mode,kind,round⟩:=fr;simp only at h hm;subst h;subst hm;unfold unwind;simp only
 split
 ·exact .inl ⟨_,_,_,rfl⟩
 ·exact .inr rfl
theorem TC {bot':List bm}: ∀{g:ay} {w:ah},Sh P c kL kR [fC] bot' g w->Qq P uh (ln g w):=by
 intro g w h n
 induction n generalizing g w with
 |zero=>intro m' hn hL;cases hn;obtain⟨a,cl,ch,π,R,ds,rfl,hm,_⟩:=h;rcases(CM hL).2 with this|this<;>rw[hm]at this<;>cases this
 |succ n ih=>
  intro m' hn;obtain⟨a,cl,ch,π,R,ds,rfl,hm,hw,hd,gI⟩:=h;have hs:stepG P aA (jG a cl) w=unwind P aA a cl ai w:=iD aA a cl w (by rw[hm];simp);have aax:uN (unwind P aA a cl ai w)-> ¬uh m':=by intro hE;obtain⟨o,w',h⟩:=step_end (g:=jG a cl) rfl (by rw[hs];exact hE);simp only[runN,h]at hn;cases hn
  have goc: ∀g2 w2 es,g2=jG g2.frame g2.callers->unwind P aA a cl ai w=.go g2 w2 es->runN P n (ln g2 w2)=.next m':=by intro g2 w2 es hg hgo;have h:=Cw (g:=jG a cl) (P:=P) rfl hg (by rw[hs];exact hgo);simp only[runN,h]at hn;exact hn
  cases hA:a.defers with
  |nil=>
   obtain⟨x,l,rfl,hx⟩: ∃x l,cl=x::l/\((x=fC/\l=[])\/(x.defers=[]\/True)/\ ∃UX,dj (mE π) x.defers UX/\(x.mode=.run\/x.mode=.returning)/\(l=[fC]\/ ∃l',tz c kL kR [fC] bot' π l l')):=by
    rcases gI with rfl|⟨cl',gI⟩
    ·exact⟨_,_,rfl,.inl ⟨rfl,rfl⟩⟩
    ·cases gI with
     |one hf hr=>exact⟨_,_,rfl,.inr ⟨.inr trivial,_,hf.defers,hf.ok,.inl rfl⟩⟩
     |cons _ hf hr=>exact⟨_,_,rfl,.inr ⟨.inr trivial,_,hf.defers,hf.ok,.inr ⟨_,hr⟩⟩⟩
   rcases P8 aA a x l w ch hA hm with hE|hgo
   ·exact aax hE
   ·have cG:=goc _ _ _ rfl hgo;rcases hx with⟨rfl,rfl⟩|⟨_,UX,hd',hmo,hl⟩
    ·exact Oc ch w n m' cG
    ·refine ih (g:=jG (x.raise ch) l) ⟨x.raise ch,l,ch,π,R,UX,rfl,?_,hw,?_,hl⟩ m' cG
     ·unfold Frame.raise;rcases hmo with e|e<;>rw[e]
     ·unfold Frame.raise;rcases hmo with e|e<;>rw[e]<;>exact hd'
  |cons d ds1=>
   rw[hA]at hd;cases hd with
   |cons h1 hr=>
    cases h1 with
    |mk hrr=>
     have hu:=vK (P:=P) aA a cl w _ _ ds1 hA;have cG:=(vB (P:=P) (S:=c.sig) hw.ok hrr).run (R:={R with tape:=w.tape,drawn:=w.drawn}) ⟨hw.ok,hw.obj,hw.ox,hw.uz,hw.old⟩ #[] #[];revert cG hu;unfold phase;cases(Instr.takeDeferred _).runT P w #[]with
     |mk r es=>
      cases r with
      |halt y w'=>intro hu _;exact aax (by rw[hu];exact⟨_,_,_,rfl⟩)
      |ok y w'=>rintro hu ⟨_,_,h3⟩;obtain⟨bO,y',R',ev,e,_,⟨rfl,rfl⟩,jI,_⟩:=h3 (λ_ _ _=>rfl);have cG:=goc _ _ _ rfl hu;exact ih (g:=jG {a with defers:=[]++ds1} cl) ⟨_,cl,ch,bO,R',_,rfl,hm,jI,mE.list e hr,gI.imp id λ⟨cl',h⟩=>⟨cl',h.mono e⟩⟩ m' cG
end
end Rel
namespace Rel
section
variable {P:aS} {c:fR} {k:List Item}
theorem ab1 (w:ah)(t t':Nat->Question->Nat)(d d':Nat):dB (dB w t d) t' d'=dB w t' d':=rfl
theorem rR {m:Machine}{o:Outcome}{w:ah}(h:step P m=.ended o w)(Q:Machine->Prop): ∀n m',runN P (n+1) m=.next m'-> ¬Q m':=by intro n m' hn;simp only[runN,h]at hn;cases hn
theorem Mn {fr:bm}(h1:fr.mode=.returning)(h2:fr.defers=[])(h3:fr.kind=.normal)(w:ah): ∀n m',runN P (n+1) (lone fr [fC] w)=.next m'-> ¬uh m':=by
 intro n m' hn;have hs:stepG P aA (jG fr [fC]) w=unwind P aA fr [fC] ai w:=iD aA fr _ w (by rw[h1];simp);have bn: ∀w2,Qq P uh (ln (jG fC []) w2):=λw2=>by
  have h0: ¬uh (ln (jG fC []) w2):=λh=>by have:=(CM h).1;cases this
  obtain⟨o,w',h⟩:=step_end (g:=jG fC []) (P:=P) (w:=w2) rfl ⟨_,_,_,rfl⟩;exact Bh h0 h
 have fin: ∀v w2 es,unwind P aA fr [fC] ai w=.go (jG (fC.finish v) []) w2 es-> ¬uh m':=by intro v w2 es hu;have h:=Cw (g:=jG fr [fC]) (g':=jG (fC.finish v) []) (P:=P) rfl rfl (hs.trans hu);have h:step P (lone fr [fC] w)=.next (ln (jG fC []) w2):=h;simp only[runN,h]at hn;exact bn w2 n m' hn
 have aax:uN (unwind P aA fr [fC] ai w)-> ¬uh m':=by intro hE;obtain⟨o,w',h⟩:=step_end (g:=jG fr [fC]) rfl (by rw[hs];exact hE);have h:step P (lone fr [fC] w)=.ended o w':=h;exact rR h _ n m' hn
 have hd: ∀v w,doReturn P aA fr [fC] ai v w=.go (jG (fC.finish v) []) w:=λv w=>by unfold doReturn;simp only[h3]
 have hu:=n5 (P:=P) aA fr [fC] w h2 h1;revert hu;cases P.funcs[fr.fn]? with
 |none=>intro hu;exact fin _ _ _ (hu.trans (hd _ _))
 |some F=>
  simp only[phase];cases(results F fr.tmps).runT P w #[]with
  |mk r es=>
   cases r with
   |ok v w2=>intro hu;simp only[hd]at hu;exact fin _ _ _ hu
   |halt x w2=>intro hu;exact aax (by rw[hu];cases x<;>exact⟨_,_,_,rfl⟩)
theorem P3 {g:ay}(hg:g=jG g.frame g.callers)(hk:k=[]\/k=[sent])(Xl:g.frame.kind=.normal)(h:uJ k [fC] g)(w:ah): ∀n m',runN P (n+1) (ln g w)=.next m'-> ¬uh m':=by
 rcases h with⟨h1,h2,h3⟩|⟨h1,h2,h3,h4⟩
 ·have e:ln g w=lone g.frame [fC] w:=by unfold ln;rw[h1]
  rw[e];exact Mn h2 h3 Xl w
 ·have hk:=hk.resolve_left h4;subst hk;intro n m' hn;have hE:uN (stepG P aA g w):=by rw[hg,h1,tf aA g.frame [fC] w h2];revert h3;generalize g.frame=fr;intro h3;obtain⟨fn,tmps,todo,defers,mode,kind,round⟩:=fr;simp only at h3;subst h3;exact⟨_,_,_,rfl⟩
  obtain⟨o,w',h⟩:=step_end hg hE;exact rR h _ n m' hn
theorem tz.top {kL kR:List Item}{bot bot':List bm}{π:Ren}{a b:bm}{l m:List bm}(h:tz c kL kR bot bot' π (a::l) (b::m)): ∃(d:fR) (qL qR:List Item),r8 d qL qR π a b:=by
 generalize hx:a::l=x at h;generalize hy:b::m=y at h;cases h with
 |one hf _=>cases hx;cases hy;exact⟨_,_,_,hf⟩
 |cons _ hf _=>cases hx;cases hy;exact⟨_,_,_,hf⟩
abbrev Tape:=Nat->Question->Nat
def HM (H:ay->ah->Prop)(m:Machine):Prop:= ∃g w,m=ln g w/\g=jG g.frame g.callers/\H g w
theorem Xp {H:ay->ah->Prop}{g:ay}{w:ah}(hg:g=jG g.frame g.callers)(h:HM H (ln g w)):H g w:=by obtain⟨g',w',h,ll,hH⟩:=h;unfold ln lone at h;simp at h;rw[hg,h.2.1,h.2.2,h.1,<-ll];exact hH
def Reach (P:aS)(H:ay->ah->Prop)(x0 x:ay×ah)(n D:Nat)(pre:Tape):Prop:= ∀t:Tape,(∀i q,i<D->t i q=pre i q)->runN P n (ln x0.1 (dB x0.2 t 0))=.next (ln x.1 (dB x.2 t D))/\ ∀k,k<n-> ∀m',runN P k (ln x0.1 (dB x0.2 t 0))=.next m'-> ¬HM H m'
structure HOk (H:ay->ah->Prop):Prop where
 tape: ∀g w t d,H g (dB w t d)->H g w
 alive: ∀g w,H g w->g.callers=[fC]/\(g.frame.mode=.run\/g.frame.mode=.returning)
theorem HOk.hm {H:ay->ah->Prop}(h:HOk H){m:Machine}(x:HM H m):uh m:=by obtain⟨g,w,rfl,_,hH⟩:=x;obtain⟨h1,h2⟩:=h.alive g w hH;exact⟨g.frame,w,by unfold ln;rw[h1],h2⟩
def Bad (P:aS)(c:fR)(k:List Item)(H:ay->ah->Prop)(x:ay×ah):Prop:= ∃π,Sub π/\ck P c.sig π x.2 x.2/\GR c k k [fC] [fC] π x.1 x.1/\ ¬LT P k H x.1 x.2
structure ac4 (P:aS) (H:ay->ah->Prop) (x:ay×ah) (t:Tape) (d:Nat) (y:ay×ah):Prop where
 le:d<=y.2.drawn
 not: ¬H x.1 x.2
 gl:x.1=jG x.1.frame x.1.callers
 gr:y.1=jG y.1.frame y.1.callers
 same: ∀(t':Tape) (d':Nat),(∀i q,d+i<y.2.drawn->t' (d'+i) q=t (d+i) q)-> ∃lk,stepG P aA x.1 (dB x.2 t' d')=.go y.1 (dB y.2 t' (d'+(y.2.drawn-d))) lk
def ub (pre:Tape)(D:Nat)(t:Tape)(d:Nat):Tape:=λi q=>if i<D then pre i q else t (d+(i-D)) q
theorem T3 (n:Nat)(m m1:Machine)(h:runN P n m=.next m1):runN P (n+1) m=step P m1:=by rw[runN_add,h];show runN P 1 m1=step P m1;unfold runN;cases step P m1<;>rfl
theorem Reach.succ {H:ay->ah->Prop}(hH:HOk H){x0 x y:ay×ah}{n D:Nat}{pre t:Tape}{d:Nat}(h:Reach P H x0 x n D pre)(k:ac4 P H x t d y):Reach P H x0 y (n+1) (D+(y.2.drawn-d)) (ub pre D t d):=by
 intro t' ag;obtain⟨h1,h2⟩:=h t' λi q hi=>by rw[ag i q (by omega)];unfold ub;rw[if_pos hi]
 have⟨lk,hs⟩:=k.same t' D λi q hi=>by rw[ag (D+i) q (by omega)];unfold ub;rw[if_neg (by omega),show D+i-D=i by omega]
 refine⟨?_,λj hj m' hm=> ?_⟩
 ·rw[T3 n _ _ h1];exact Cw k.gl k.gr hs
 ·rcases dM j n with bE|va
  ·exact h2 j bE m' hm
  ·obtain rfl:j=n:=by omega
   rw[h1]at hm;cases hm;exact λhL=>k.not (hH.tape _ _ _ _ (Xp k.gl hL))
theorem V8 (hc:c.Fits P){H:ay->ah->Prop}{x:ay×ah}(h:Bad P c k H x):uJ k [fC] x.1\/(¬uJ k [fC] x.1/\ ∃t d,(uN (stepG P aA x.1 (dB x.2 t d))\/ ∃g2 w2 es,stepG P aA x.1 (dB x.2 t d)=.go g2 w2 es/\Sh P c k k [fC] [fC] g2 w2))\/ ∃t d y,ac4 P H x t d y/\Bad P c k H y:=by
 obtain⟨π,s,hw,hg,hn⟩:=h;by_cases hl:uJ k [fC] x.1
 ·exact .inl hl
 ·refine .inr ?_;by_cases hf: ∃t d,(uN (stepG P aA x.1 (dB x.2 t d))\/ ∃g2 w2 es,stepG P aA x.1 (dB x.2 t d)=.go g2 w2 es/\Sh P c k k [fC] [fC] g2 w2)
  ·exact .inl ⟨hl,hf⟩
  ·refine .inr (Classical.byContradiction λwM=>hn ?_);have key: ∀t d,∃g' w' es,(stepG P aA x.1 (dB x.2 t d)=.go g' w' es/\(g'.frame.mode=.run\/g'.frame.mode=.returning))/\LT P k H g' w':=by
    intro t d;rcases Ih hc s hw hg hl t d with h1|h1|⟨g',w',es,bO,hgo,hd,ht,s',jI,ll,adH⟩
    ·exact absurd ⟨t,d,.inl h1⟩ hf
    ·exact absurd ⟨t,d,.inr h1⟩ hf
    ·refine⟨g',w',es,⟨hgo,?_⟩,Classical.byContradiction λbE=>wM ⟨t,d,(g',w'),⟨hd,λhx=>hn (.stop hx),hg.l,ll.l,adH⟩,bO,s',jI,ll,bE⟩⟩;obtain⟨_,_,gI⟩:=ll;obtain⟨_,_,_,hf⟩:=gI.top;exact hf.ok
   exact .step (λt d=>(key t d).choose) (λt d=>(key t d).choose_spec.choose) (λt d=>(key t d).choose_spec.choose_spec.choose) hl (λt d=>(key t d).choose_spec.choose_spec.choose_spec.1) (λt d=>(key t d).choose_spec.choose_spec.choose_spec.2)
theorem xk (hc:c.Fits P)(hk:k=[]\/k=[sent]){g0:ay}{w0:ah}{π:Ren}(s:Sub π)(hw:ck P c.sig π w0 w0)(hg:GR c k k [fC] [fC] π g0 g0){H:ay->ah->Prop}(hH:HOk H)(hT: ∀t,∃g' w',Steps P (ln g0 (dB w0 t 0)) (ln g' w')/\g'=jG g'.frame g'.callers/\H g' w'):LT P k H g0 w0:=by
 classical
 refine Classical.byContradiction λhn=> ?_
 have B0:Bad P c k H (g0,w0):=⟨π,s,hw,hg,hn⟩;have R0:Reach P H (g0,w0) (g0,w0) 0 0 (λ_ _=>0):=λt _=>⟨rfl,λk hk=>by omega⟩
 have ags: ∀{x:ay×ah},Bad P c k H x-> ¬H x.1 x.2:=λ⟨_,_,_,_,h⟩ hx=>h (.stop hx)
 have after: ∀{x:ay×ah} {n D:Nat} {pre t:Tape},Reach P H (g0,w0) x n D pre->(∀i q,i<D->t i q=pre i q)->
  ∃j m',runN P j (ln x.1 (dB x.2 t D))=.next m'/\HM H m':=by
  intro x n D pre t hr ag;obtain⟨h1,h2⟩:=hr t ag;obtain⟨g',w',⟨N,hN⟩,e1,e2⟩:=hT t;have va:n<=N:=Nat.le_of_not_lt λbE=>h2 N bE _ hN ⟨g',w',rfl,e1,e2⟩
  refine⟨N-n,ln g' w',?_,g',w',rfl,e1,e2⟩;rw[<-Nat.add_sub_cancel' va,runN_add,h1]at hN;exact hN
 have abe: ∀{x:ay×ah} {n D:Nat} {pre:Tape},Reach P H (g0,w0) x n D pre->Bad P c k H x->
  ∃t d y,ac4 P H x t d y/\Bad P c k H y:=by
  intro x n D pre hr hb;have U1:x.1=jG x.1.frame x.1.callers:=by obtain⟨_,_,_,h,_⟩:=hb;exact h.l
  have ZK: ∀t d,¬HM H (ln x.1 (dB x.2 t d)):=λt d h=>ags hb (hH.tape _ _ _ _ (Xp U1 h))
  rcases V8 hc hb with hl|⟨hl,t,d,hf⟩|h
  ·exfalso;obtain⟨j,m',hj,hm⟩:=after hr (t:=pre) λ_ _ _=>rfl
   cases j with
   |zero=>simp only[runN]at hj;cases hj;exact ZK _ _ hm
   |succ j=>
    have Xl:x.1.frame.kind=.normal:=by obtain⟨_,_,_,h,_⟩:=hb;obtain⟨_,_,gI⟩:=h;obtain⟨_,_,_,hf⟩:=gI.top;exact hf.kind
    exact P3 U1 hk Xl hl _ j _ hj (hH.hm hm)
  ·exfalso;obtain⟨j,m',hj,hm⟩:=after hr (t:=ub pre D t d) λi q hi=>by unfold ub;rw[if_pos hi]
   obtain⟨bO,s',jI,ll,_⟩:=hb;cases j with
   |zero=>simp only[runN]at hj;cases hj;exact ZK _ _ hm
   |succ j=>
    rcases Ih hc s' jI ll hl (ub pre D t d) D with h1|⟨g2,w2,es,h1,h2⟩|⟨g',w2,es,jJ,hgo,hd,ht,s2,OU,Ku,adH⟩
    ·obtain⟨o,w2,h1⟩:=step_end U1 h1;exact rR h1 (HM H) j _ hj hm
    ·obtain⟨a,cl,rest,mS⟩:=h2;have I8:g2=jG g2.frame g2.callers:=by obtain⟨_,_,_,rfl,_⟩:=mS;rfl
     have h3:=Cw U1 I8 h1;simp only[runN,h3]at hj;exact TC ⟨a,cl,rest,mS⟩ j _ hj (hH.hm hm)
    ·obtain⟨lk,h3⟩:=adH t d λi q hi=>by unfold ub;rw[if_neg (by omega),show D+i-D=i by omega]
     rcases hf with⟨_,_,_,hf⟩|⟨g3,w3,es3,hf,hp⟩
     ·rw[h3]at hf;cases hf
     ·rw[h3]at hf;cases hf;obtain⟨a,cl,ch,kV,R3,ds,rfl,hm,_⟩:=hp;obtain⟨_,_,gI⟩:=Ku;obtain⟨_,_,_,hf⟩:=gI.top;rcases hf.ok with x|x<;>rw[hm]at x<;>cases x
  ·exact h
 let Node:={z:(ay×ah)×Nat×Nat×Tape // Reach P H (g0,w0) z.1 z.2.1 z.2.2.1 z.2.2.2/\Bad P c k H z.1}
 have nxt: ∀z:Node,∃z':Node,z'.1.2.1=z.1.2.1+1/\z.1.2.2.1<=z'.1.2.2.1/\(∀i q,i<z.1.2.2.1->z'.1.2.2.2 i q=z.1.2.2.2 i q):=by rintro⟨⟨x,n,D,pre⟩,hr,hb⟩;obtain⟨t,d,y,hs,jN⟩:=abe hr hb;exact⟨⟨⟨y,n+1,D+(y.2.drawn-d),ub pre D t d⟩,hr.succ hH hs,jN⟩,rfl,Nat.le_add_right _ _,λi q hi=>by unfold ub;exact if_pos hi⟩
 let f:Node->Node:=λz=>(nxt z).choose
 have f1: ∀z,(f z).1.2.1=z.1.2.1+1:=λz=>(nxt z).choose_spec.1
 have f2: ∀z,z.1.2.2.1<=(f z).1.2.2.1:=λz=>(nxt z).choose_spec.2.1
 have f3: ∀z i q,i<z.1.2.2.1->(f z).1.2.2.2 i q=z.1.2.2.2 i q:=λz=>(nxt z).choose_spec.2.2
 let s:Nat->Node:=λn=>Nat.rec ⟨((g0,w0),0,0,λ_ _=>0),R0,B0⟩ (λ_ z=>f z) n
 have hs: ∀n,s (n+1)=f (s n):=λn=>rfl
 have cnt: ∀n,(s n).1.2.1=n:=by
  intro n
  induction n with
  |zero=>rfl
  |succ n ih=>rw[hs,f1,ih]
 have mono: ∀n k,(s n).1.2.2.1<=(s (n+k)).1.2.2.1/\ ∀i q,i<(s n).1.2.2.1->(s (n+k)).1.2.2.2 i q=(s n).1.2.2.2 i q:=by
  intro n k
  induction k with
  |zero=>exact⟨az _,λ_ _ _=>rfl⟩
  |succ k ih=>have e:s (n+(k+1))=f (s (n+k)):=rfl;rw[e];exact⟨bP ih.1 (f2 _),λi q hi=>(f3 _ i q (bX hi ih.1)).trans (ih.2 i q hi)⟩
 let T:Tape:=λi q=>if h: ∃n,i<(s n).1.2.2.1 then(s (r9 h)).1.2.2.2 i q else 0
 have hTn: ∀n i q,i<(s n).1.2.2.1->T i q=(s n).1.2.2.2 i q:=by
  intro n i q hi;have hex: ∃n,i<(s n).1.2.2.1:=⟨n,hi⟩;show(if h: ∃n,i<(s n).1.2.2.1 then(s (r9 h)).1.2.2.2 i q else 0)=_;rw[dif_pos hex];have tk:=Classical.choose_spec hex;generalize r9 hex=m at tk;rcases Nat.le_total m n with hle|hle
  ·have:=(mono m (n-m)).2 i q tk;rw[Nat.add_sub_cancel' hle]at this;exact this.symm
  ·have:=(mono n (m-n)).2 i q hi;rw[Nat.add_sub_cancel' hle]at this;exact this
 obtain⟨g',w',⟨N,hN⟩,e1,e2⟩:=hT T;have hr:=((s N).2.1 T (hTn N)).1;rw[cnt N,hN]at hr;have hg:(s N).1.1.1=jG (s N).1.1.1.frame (s N).1.1.1.callers:=by obtain⟨_,_,_,h,_⟩:=(s N).2.2;exact h.l
 have:HM H (ln (s N).1.1.1 (dB (s N).1.1.2 T (s N).1.2.2.1)):=⟨g',w',(Stepped.next.inj hr).symm,e1,e2⟩;exact ags (s N).2.2 (hH.tape _ _ _ _ (Xp hg this))
end
end Rel
end Go.Proofs.YtknejlcijdngoaaGreat
